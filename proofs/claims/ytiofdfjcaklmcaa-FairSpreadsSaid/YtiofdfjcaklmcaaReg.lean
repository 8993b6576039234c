/- A drawn region by facts: each operation leaves a fact, each keeps those of the others; whatever order is picked, all facts stand behind the last one. -/
import Derived.Test.YtiofdfjcaklmcaaBase
import Derived.Deep.RegionHeld
namespace Go.Proofs.Ytiofdfjcaklmcaa
open Go.RowKit

section
variable {P : Program} {ops : Array Oper} {Q : Exit → Act → World → Prop} {md : Region.Mode} {S : World → Prop}

def updN {α : Type} (f : Nat → α) (i : Nat) (x : α) : Nat → α := fun j => if j = i then x else f j
/-- operation i waits for operation j -/
def waitsOn (md : Region.Mode) (ops : Array Oper) (i j : Nat) : Bool := match ops[i]? with
  | some o => o.after.any (fun e => Region.binds md e && e.on == j)
  | none => false
/-- the slots of the region's operations hold what they left -/
def putAll (t : Array Value) : List (Nat × Nat) → (Nat → Value) → Array Value
  | [], _ => t
  | (i, s) :: r, v => putAll (t.setIfInBounds s (v i)) r v
def unl (l : Array Bool) : Nat := (l.toList.filter (!·)).length
theorem filter_set_false : ∀ (l : List Bool) (i : Nat), l.getD i true = false → ((l.set i true).filter (!·)).length + 1 = (l.filter (!·)).length
  | [], i, h => by simp at h
  | b :: l, 0, h => by simp at h; subst h; simp
  | b :: l, i + 1, h => by
    have := filter_set_false l i (by simpa using h)
    cases b <;> simp <;> omega
theorem unl_set {l : Array Bool} {i : Nat} (h : l.getD i true = false) : unl (l.setIfInBounds i true) + 1 = unl l := by
  unfold unl
  rw [Array.toList_setIfInBounds]
  exact filter_set_false _ _ (by simpa [Array.getD_eq_getD_getElem?, List.getD_eq_getElem?_getD] using h)
theorem unl_zero {l : Array Bool} (h : unl l = 0) (i : Nat) : l.getD i true = true := by
  unfold unl at h
  rw [List.length_eq_zero_iff, List.filter_eq_nil_iff] at h
  rw [Array.getD_eq_getD_getElem?]
  cases hi : l[i]? with
  | none => rfl
  | some b =>
    have := h b (by rw [Array.mem_toList_iff]; exact Array.mem_of_getElem? hi)
    simpa using this
theorem wpAnyH_inv (I : Array Bool → Act → World → Prop) (hS : ∀ l a w, I l a w → S w)
    (hstep : ∀ l a w i, I l a w → i ∈ Region.ready md ops l → wpOp P ops Q i (fun a' w' => I (l.setIfInBounds i true) a' w') a w)
    (hfin : ∀ l a w, I l a w → Region.ready md ops l = [] → Q .normal a w) :
    ∀ (fuel : Nat) (l : Array Bool) (a : Act) (w : World), unl l ≤ fuel → I l a w → wpAnyH P md ops Q S fuel l a w
  | 0, l, a, w, hn, h => by
    have hr : Region.ready md ops l = [] := by
      rw [List.eq_nil_iff_forall_not_mem]
      intro i hi
      have := (mem_ready.1 hi).1
      rw [unl_zero (by omega)] at this
      cases this
    exact ⟨hr, hfin l a w h hr⟩
  | fuel + 1, l, a, w, hn, h => by
    refine ⟨fun hr => hfin l a w h hr, fun i hi => ?_⟩
    have hu := unl_set (mem_ready.1 hi).1
    exact wpOp_mono (fun a' w' h' => ⟨hS _ _ _ h', wpAnyH_inv I hS hstep hfin fuel _ a' w' (by omega) h'⟩) (hstep l a w i h hi)

/-- what one operation must do: leave its fact, keep the others' -/
def StepsAll (P : Program) (md : Region.Mode) (ops : Array Oper) (Q : Exit → Act → World → Prop) (act : (Nat → Value) → Act) (Φ : Nat → (Nat → Value) → (Nat → Bool) → World → Prop) (G : World → Prop) (E : List Nat) (es : List Nat) : Prop :=
  ∀ i ∈ es, ∀ (v : Nat → Value) (c : Nat → Bool) (w : World), G w → c i = false → (∀ j, waitsOn md ops i j = true → c j = true) → (∀ k j, waitsOn md ops k j = true → c k = true → c j = true) → (∀ j ∈ E, c j = true → Φ j v c w) →
    wpOp P ops Q i (fun a' w' => ∃ x, a' = act (updN v i x) ∧ G w' ∧ ∀ j ∈ E, updN c i true j = true → Φ j (updN v i x) (updN c i true) w') (act v) w
theorem StepsAll.nil {act : (Nat → Value) → Act} {Φ : Nat → (Nat → Value) → (Nat → Bool) → World → Prop} {G : World → Prop} {E : List Nat} : StepsAll P md ops Q act Φ G E [] := fun _ h => by cases h
theorem StepsAll.cons {act : (Nat → Value) → Act} {Φ : Nat → (Nat → Value) → (Nat → Bool) → World → Prop} {G : World → Prop} {E : List Nat} {i : Nat} {o : Oper} {es : List Nat} (ho : ops[i]? = some o)
    (h : ∀ (v : Nat → Value) (c : Nat → Bool) (w : World) (K : Act → World → Prop), Shut (∀ (x : Value) (a' : Act) (w' : World), a' = act (updN v i x) → G w' → (∀ j ∈ E, updN c i true j = true → Φ j (updN v i x) (updN c i true) w') → K a' w') →
      G w → c i = false → (∀ j, waitsOn md ops i j = true → c j = true) → (∀ k j, waitsOn md ops k j = true → c k = true → c j = true) → (∀ j ∈ E, c j = true → Φ j v c w) →
      if Region.wanted o (yielded ops (act v).tmps) = true then Oper.wp P o (act v) w K Q else K ((act v).put o.dst undef) w)
    (hr : StepsAll P md ops Q act Φ G E es) : StepsAll P md ops Q act Φ G E (i :: es) := by
  intro j hj
  rcases List.mem_cons.1 hj with rfl | hj
  · intro v c w hG hc ha hcl hF
    have := h v c w (fun a' w' => ∃ x, a' = act (updN v j x) ∧ G w' ∧ ∀ k ∈ E, updN c j true k = true → Φ k (updN v j x) (updN c j true) w') (fun x a' w' h0 h1 h2 => ⟨x, h0, h1, h2⟩) hG hc ha hcl hF
    unfold wpOp
    rw [ho]
    dsimp only
    split
    · rename_i hw
      rw [if_pos hw] at this
      exact .inl this
    · rename_i hw
      rw [if_neg hw] at this
      exact this
  · exact hr j hj
def closedB (md : Region.Mode) (ops : Array Oper) (l : Array Bool) : Bool := (List.range ops.size).all fun k => !l.getD k true || (match ops[k]? with
  | some o => o.after.all (fun e => !Region.binds md e || l.getD e.on true)
  | none => true)
theorem getD_both {l : Array Bool} {i : Nat} (h : l.getD i false = true) : l.getD i true = true := by
  rw [Array.getD_eq_getD_getElem?] at *
  cases hi : l[i]? <;> simp_all
theorem wpAnyH_by (act : (Nat → Value) → Act) (Φ : Nat → (Nat → Value) → (Nat → Bool) → World → Prop) (G : World → Prop) (E : List Nat) (hGS : ∀ w, G w → S w)
    {fuel : Nat} {l0 : Array Bool} {a0 : Act} {w0 : World} (v0 : Nat → Value) (ha0 : a0 = act v0) (hl : ((List.range l0.size).all fun i => E.contains i || l0.getD i true) = true) (hz : l0.size = ops.size) (hE0 : E.all (fun i => !l0.getD i true) = true) (hcl0 : closedB md ops l0 = true) (hfuel : unl l0 ≤ fuel) (hG0 : G w0)
    (hstep : StepsAll P md ops Q act Φ G E E)
    (hfin : ∀ v w, G w → (∀ j ∈ E, Φ j v (fun _ => true) w) → Q .normal (act v) w)
    (hwell : ∀ l : Array Bool, l.size = ops.size → Region.ready md ops l = [] → unl l = 0) :
    wpAnyH P md ops Q S fuel l0 a0 w0 := by
  refine wpAnyH_inv (fun l a w => l.size = ops.size ∧ (∀ k j, waitsOn md ops k j = true → l.getD k true = true → l.getD j true = true) ∧ (∀ i, i ∉ E → l.getD i true = true) ∧ G w ∧ ∃ v, a = act v ∧ ∀ j ∈ E, l.getD j true = true → Φ j v (fun k => l.getD k true) w) (fun _ _ w h => hGS w h.2.2.2.1) ?_ ?_ fuel l0 a0 w0 hfuel ?_
  · rintro l a w i ⟨hz, hcl, hno, hG, v, rfl, hF⟩ hi
    obtain ⟨hun, o, ho, hall⟩ := mem_ready.1 hi
    have hiE : i ∈ E := by
      by_cases h : i ∈ E
      · exact h
      · rw [hno i h] at hun; cases hun
    have hlt : i < l.size := by
      rcases Nat.lt_or_ge i l.size with h' | h'
      · exact h'
      · rw [Array.getD_eq_getD_getElem?, Array.getElem?_eq_none h'] at hun; cases hun
    have hset : ∀ k, (l.setIfInBounds i true).getD k true = updN (fun k => l.getD k true) i true k := fun k => by
      unfold updN
      by_cases hk : k = i
      · subst hk; rw [if_pos rfl]; simp [Array.getD_eq_getD_getElem?, hlt]
      · rw [if_neg hk]; simp [Array.getD_eq_getD_getElem?, Ne.symm hk]
    have hafter : ∀ j, waitsOn md ops i j = true → l.getD j true = true := fun j hj => by
      unfold waitsOn at hj
      rw [ho] at hj
      simp only [Array.any_eq_true', Bool.and_eq_true, beq_iff_eq] at hj
      obtain ⟨e, he, hb, rfl⟩ := hj
      exact getD_both (hall e he hb)
    refine wpOp_mono ?_ (hstep i hiE v (fun k => l.getD k true) w hG hun hafter hcl hF)
    · rintro a' w' ⟨x, rfl, hG', hF'⟩
      refine ⟨by rw [Array.size_setIfInBounds]; exact hz, fun k j hw hk => ?_, fun k hk => ?_, hG', _, rfl, fun j hj hc => ?_⟩
      · rw [hset] at hk ⊢
        unfold updN at hk ⊢
        split
        · rfl
        · by_cases hki : k = i
          · subst hki; exact hafter j hw
          · rw [if_neg hki] at hk; exact hcl k j hw hk
      · rw [hset]; unfold updN; split
        · rfl
        · exact hno k hk
      · have := hF' j hj (by rw [← hset]; exact hc)
        rw [show (fun k => (l.setIfInBounds i true).getD k true) = updN (fun k => l.getD k true) i true from funext hset]
        exact this
  · rintro l a w ⟨hz, hcl, hno, hG, v, rfl, hF⟩ hr
    have hu := unl_zero (hwell l hz hr)
    have hc : (fun k => l.getD k true) = fun _ => true := funext hu
    rw [hc] at hF
    exact hfin v w hG (fun j hj => hF j hj (hu j))
  · refine ⟨hz, fun k j hw hk => ?_, fun i hi => ?_, hG0, v0, ha0, fun j hj hc => ?_⟩
    · unfold waitsOn at hw
      cases ho : ops[k]? with
      | none => rw [ho] at hw; cases hw
      | some o =>
        have hlt : k < ops.size := (Array.getElem?_eq_some_iff.1 ho).1
        have h1 := List.all_eq_true.1 hcl0 k (List.mem_range.2 hlt)
        rw [hk, ho] at h1
        rw [ho] at hw
        simp only [Array.any_eq_true', Bool.and_eq_true, beq_iff_eq] at hw
        obtain ⟨e, he, hb, rfl⟩ := hw
        simp only [Bool.not_true, Bool.false_or] at h1
        have h2 := Array.all_eq_true'.1 h1 e he
        rw [hb] at h2
        simpa using h2
    · rcases Nat.lt_or_ge i l0.size with h' | h'
      · have := List.all_eq_true.1 hl i (List.mem_range.2 h')
        rw [Bool.or_eq_true] at this
        rcases this with h | h
        · exact absurd (by simpa using h) hi
        · exact h
      · rw [Array.getD_eq_getD_getElem?, Array.getElem?_eq_none h']; rfl
    · have := List.all_eq_true.1 hE0 j hj
      rw [hc] at this
      cases this
/-- where each operation waits for earlier ones only, all come up -/
def forward (md : Region.Mode) (ops : Array Oper) : Bool := (List.range ops.size).all fun i => match ops[i]? with
  | some o => o.after.all (fun e => !Region.binds md e || decide (e.on < i))
  | none => false
theorem forward_well (h : forward md ops = true) (l : Array Bool) (hz : l.size = ops.size) (hr : Region.ready md ops l = []) : unl l = 0 := by
  have all : ∀ n i, i ≤ n → i < ops.size → l.getD i true = true := by
    intro n
    induction n with
    | zero =>
      intro i hi hlt
      obtain rfl : i = 0 := by omega
      cases hc : l.getD 0 true with
      | true => rfl
      | false =>
        exfalso
        have : 0 ∈ Region.ready md ops l := mem_ready.2 ⟨hc, ops[0], by simp [hlt], fun e he hb => by
          have := List.all_eq_true.1 h 0 (List.mem_range.2 hlt)
          rw [Array.getElem?_eq_getElem hlt] at this
          have := Array.all_eq_true'.1 this e he
          rw [hb] at this
          simp at this⟩
        rw [hr] at this; cases this
    | succ n ih =>
      intro i hi hlt
      by_cases hin : i ≤ n
      · exact ih i hin hlt
      · cases hc : l.getD i true with
        | true => rfl
        | false =>
          exfalso
          have : i ∈ Region.ready md ops l := mem_ready.2 ⟨hc, ops[i], by simp [hlt], fun e he hb => by
            have := List.all_eq_true.1 h i (List.mem_range.2 hlt)
            rw [Array.getElem?_eq_getElem hlt] at this
            have := Array.all_eq_true'.1 this e he
            rw [hb] at this
            have he : e.on < i := by simpa using this
            have h2 := ih e.on (by omega) (by omega)
            have h3 : e.on < l.size := by omega
            simpa [Array.getD_eq_getD_getElem?, h3] using h2⟩
          rw [hr] at this; cases this
  unfold unl
  rw [List.length_eq_zero_iff, List.filter_eq_nil_iff]
  intro b hb
  obtain ⟨i, hi, rfl⟩ := List.getElem_of_mem hb
  have hi' : i < l.size := by simpa using hi
  have := all i i (Nat.le_refl _) (by omega)
  simpa [Array.getD_eq_getD_getElem?, hi'] using this
theorem wpAnyH_from {a0 : Act} (D : List (Nat × Nat)) (Φ : Nat → (Nat → Value) → (Nat → Bool) → World → Prop) (G : World → Prop) (E : List Nat) (hGS : ∀ w, G w → S w)
    {fuel : Nat} {l0 : Array Bool} {w0 : World} (hD : putAll a0.tmps D (fun i => a0.tmps.getD ((D.lookup i).getD 0) undef) = a0.tmps) (hl : ((List.range l0.size).all fun i => E.contains i || l0.getD i true) = true) (hz : l0.size = ops.size) (hE0 : E.all (fun i => !l0.getD i true) = true) (hcl0 : closedB md ops l0 = true) (hfuel : unl l0 ≤ fuel) (hG0 : G w0)
    (hstep : StepsAll P md ops Q (fun v => ⟨putAll a0.tmps D v, a0.defers⟩) Φ G E E)
    (hfin : ∀ v w, G w → (∀ j ∈ E, Φ j v (fun _ => true) w) → Q .normal ⟨putAll a0.tmps D v, a0.defers⟩ w)
    (hfw : forward md ops = true) :
    wpAnyH P md ops Q S fuel l0 a0 w0 :=
  wpAnyH_by (fun v => ⟨putAll a0.tmps D v, a0.defers⟩) Φ G E hGS (fun i => a0.tmps.getD ((D.lookup i).getD 0) undef) (by rw [hD]) hl hz hE0 hcl0 hfuel hG0 hstep hfin (forward_well hfw)
end
/-! short names, for texts that draw their orders -/
theorem xA1 {α : Type} {xs : List α} {i : Nat} (h : i < xs.toArray.size) : xs.toArray[i] = xs[i]'(by simpa using h) := rfl
theorem xA2 {α : Type} {a : α} {as : List α} (h : 0 < (a :: as).length) : (a :: as)[0] = a := rfl
theorem xA3 {α : Type} {a : α} {as : List α} {i : Nat} (h : i + 1 < (a :: as).length) : (a :: as)[i + 1] = as[i]'(by simpa using h) := rfl
theorem xA4 {α : Type} (l : List α) (i : Nat) (a : α) : l.toArray.setIfInBounds i a = (l.set i a).toArray := List.setIfInBounds_toArray ..
theorem xA5 {α : Type} {x : α} {xs : List α} {a : α} : (x :: xs).set 0 a = a :: xs := rfl
theorem xA6 {α : Type} {x : α} {xs : List α} {i : Nat} {a : α} : (x :: xs).set (i + 1) a = x :: xs.set i a := rfl
section
variable {P : Program} {md : Region.Mode} {ops : Array Oper} {Q : Exit → Act → World → Prop} {S : World → Prop}
theorem tkH {i : Nat} {oi : Oper} {v : Value} {fuel : Nat} {listed : Array Bool} {a : Act} {w : World} (hi : ops[i]? = some oi)
    (hv : ∀ w, S w → (execOp a.eval oi).run P w = .ok (.value v) w) (h : wpAnyH P md ops Q S fuel (listed.setIfInBounds i true) (a.put oi.dst v) w)
    (hs : Region.noSelect ops = true := by kernel_rfl) (hf : Region.free md ops listed i = true := by kernel_rfl) (hr : (Region.ready md ops listed).contains i = true := by kernel_rfl)
    (hQ : ∀ c a w, Q (.panic c) (a.put oi.dst v) w → Q (.panic c) a w := by exact fun _ _ _ h => h) (hw : Region.wanted oi (yielded ops a.tmps) = true := by rfl) (hS : S w := by assumption) : wpAnyH P md ops Q S (fuel + 1) listed a w :=
  wpAnyH_take hi hs hf hr hQ (.inl ⟨hw, hv⟩) hS h
theorem skH {i : Nat} {oi : Oper} {fuel : Nat} {listed : Array Bool} {a : Act} {w : World} (hi : ops[i]? = some oi)
    (h : wpAnyH P md ops Q S fuel (listed.setIfInBounds i true) (a.put oi.dst undef) w)
    (hs : Region.noSelect ops = true := by kernel_rfl) (hf : Region.free md ops listed i = true := by kernel_rfl) (hr : (Region.ready md ops listed).contains i = true := by kernel_rfl)
    (hQ : ∀ c a w, Q (.panic c) (a.put oi.dst undef) w → Q (.panic c) a w := by exact fun _ _ _ h => h) (hw : Region.wanted oi (yielded ops a.tmps) = false := by rfl) (hS : S w := by assumption) : wpAnyH P md ops Q S (fuel + 1) listed a w :=
  wpAnyH_take hi hs hf hr hQ (.inr ⟨hw, rfl⟩) hS h
end
end Go.Proofs.Ytiofdfjcaklmcaa
