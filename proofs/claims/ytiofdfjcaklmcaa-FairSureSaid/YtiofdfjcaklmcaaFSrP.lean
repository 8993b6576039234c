/- Plain, for Fair: what a fairest sharing has could be had; what Surely tells is so there. No program in sight. -/
import Derived.Test.YtiofdfjcaklmcaaFPb
namespace Go.Proofs.Ytiofdfjcaklmcaa

theorem setU_edge {P : Po} {i : Nat} {us : List Int} {g : List Int} (hs : ∀ u ∈ us, ∀ (h : i < P.ss.length), u ∈ P.ss[i].us) {a b : Int} (h : EdgeP (setU P i us) g a b) : EdgeP P g a b := by
  obtain ⟨j, h1, h2, h3, h4⟩ := h
  have hj : j < P.ss.length := by rw [← setU_len P i us]; exact h2
  rw [setU_ss hj h2] at h4
  refine ⟨j, h1, hj, h3, ?_⟩
  split at h4
  · rename_i e
    subst e
    exact hs b h4 hj
  · exact h4
theorem reach_mono {P Q : Po} {g : List Int} (h : ∀ a b, EdgeP Q g a b → EdgeP P g a b) {a b : Int} (hr : ReachP Q g a b) : ReachP P g a b := by
  induction hr with
  | refl => exact .refl _
  | step e r ih => exact .step (h _ _ e) ih
theorem setU_no {P : Po} {i : Nat} {us : List Int} {g : List Int} (hs : ∀ u ∈ us, ∀ (h : i < P.ss.length), u ∈ P.ss[i].us) (hN : NoChn P g) : NoChn (setU P i us) g :=
  ⟨fun t ht hr => hN.zero t ht (reach_mono (fun _ _ => setU_edge hs) hr), fun s hs' t ht hne hr => hN.ten s hs' t ht hne (reach_mono (fun _ _ => setU_edge hs) hr)⟩
theorem setU_shr {P : Po} {i : Nat} {us : List Int} {g : List Int} (hS : ShrV P g) (h : ∀ (h : i < g.length), g[i] = 0 ∨ g[i] ∈ us) : ShrV (setU P i us) g := by
  refine ⟨by rw [setU_len]; exact hS.len, fun j hj hj' => ?_, hS.mo⟩
  have hj2 : j < P.ss.length := by rw [← setU_len P i us]; exact hj'
  rw [setU_ss hj2 hj']
  split
  · rename_i e
    subst e
    exact h hj
  · exact hS.us j hj hj2
theorem setU_lad (P : Po) (i : Nat) (us g : List Int) : ladL (setU P i us) g = ladL P g := rfl
/-- what a fairest sharing gives can be given -/
theorem cou_given {P : Po} (hok : OkP P) {g : List Int} (hS : ShrV P g) (hN : NoChn P g) {i : Nat} (hi : i < g.length) : couX P i g[i] (ladL P (faiG P)) = true := by
  have hi' : i < P.ss.length := by have := hS.len; omega
  have hus := hS.us i hi hi'
  have hbest := fai_lad hok.pv hS hN
  unfold couX
  rw [if_neg]
  · by_cases h0 : g[i] = 0
    · rw [if_pos h0]
      have hQ := setU_ok (i := i) (us := []) hok (fun u hu => by cases hu) (by simp)
      have hV := setU_shr (i := i) (us := []) hS (fun _ => .inl h0)
      have hn := setU_no (i := i) (us := []) (P := P) (g := g) (fun u hu => by cases hu) hN
      have := fai_lad hQ.pv hV hn
      rw [setU_lad] at this
      rw [beq_iff_eq, ← this, hbest]
    · rw [if_neg h0]
      have hmem : g[i] ∈ P.ss[i].us := by rcases hus with e | e; exact absurd e h0; exact e
      obtain ⟨t, ht, hti⟩ := hok.us _ (List.getElem_mem hi') _ hmem
      have hm : mostOf P g[i] = t.most := by
        obtain ⟨k, hk, rfl⟩ := List.getElem_of_mem ht
        unfold mostOf
        rw [← hti, tn_at hok hk, Int.toNat_natCast, List.getD_eq_getElem?_getD, List.getElem?_eq_getElem hk, Option.getD_some]
      have hc1 : 1 ≤ cntI g t.id := by
        have := cntI_set hi 0 t.id
        rw [hti] at this ⊢
        have h1 := (cntI_nn (g.set i 0) g[i]).1
        rw [if_pos rfl, if_neg (fun e => h0 e.symm)] at this
        omega
      have hmo := hS.mo t ht
      rw [hm, if_neg (by omega)]
      have hsub : ∀ u ∈ [g[i]], ∀ (h : i < P.ss.length), u ∈ P.ss[i].us := fun u hu h => by
        rw [List.mem_singleton] at hu; subst hu; exact hmem
      have hQ := setU_ok (i := i) (us := [g[i]]) hok (fun u hu => by rw [List.mem_singleton] at hu; subst hu; exact ⟨t, ht, hti⟩) (by simp)
      have hV := setU_shr (i := i) (us := [g[i]]) hS (fun _ => .inr (by simp))
      have hn := setU_no (i := i) (us := [g[i]]) (P := P) (g := g) hsub hN
      have hO := setL_V hQ.pv (oneG_V (tn := g[i]) hok hi' h0 (fun q hq he => by
        have hq2 : q.most = t.most := by
          have h1 : ∀ l : List Te, (l.map (·.id)).Nodup → ∀ q ∈ l, ∀ t ∈ l, q.id = t.id → q = t := fun l => by
            induction l with
            | nil => intro _ q hq; cases hq
            | cons x l ih =>
              intro hn q hq t ht he
              rw [List.map_cons, List.nodup_cons] at hn
              rcases List.mem_cons.1 hq with e1 | hq1
              · rcases List.mem_cons.1 ht with e2 | ht1
                · rw [e1, e2]
                · rw [e1] at he
                  exact absurd (he ▸ List.mem_map_of_mem ht1) hn.1
              · rcases List.mem_cons.1 ht with e2 | ht1
                · rw [e2] at he
                  exact absurd (he ▸ List.mem_map_of_mem hq1) hn.1
                · exact ih hn.2 q hq1 t ht1 he
          rw [h1 P.ts hok.nd q hq t ht (he.trans hti.symm)]
        omega))
      have := nochn_same hQ.pv hV hO.1 hn hO.2
      rw [setU_lad] at this
      rw [beq_iff_eq, ← this, hbest]
  · rintro ⟨h1, h2⟩
    rw [usOf_at hi'] at h2
    rcases hus with e | e
    · exact h1 e
    · have : P.ss[i].us.contains g[i] = true := by simpa using e
      rw [this] at h2; cases h2
/-- who surely has a slot; 0 if nobody does -/
def whoX (P : Po) (i : Nat) (best : List Int) : Int := match whoL P i best (0 :: usOf P i) with
  | [x] => x
  | _ => 0
theorem whoX_mem {P : Po} {i : Nat} {best : List Int} (h : whoX P i best ≠ 0) : ∀ u ∈ 0 :: usOf P i, couX P i u best = decide (u = whoX P i best) := by
  intro u hu
  unfold whoX at h ⊢
  split at h
  · rename_i x he
    have hm : ∀ v, v ∈ 0 :: usOf P i → couX P i v best = true → v = x := fun v hv hc => by
      have : v ∈ whoL P i best (0 :: usOf P i) := List.mem_filter.2 ⟨hv, hc⟩
      rw [he, List.mem_singleton] at this
      exact this
    have hx : couX P i x best = true := by
      have : x ∈ whoL P i best (0 :: usOf P i) := by rw [he]; simp
      exact (List.mem_filter.1 this).2
    by_cases e : u = x
    · subst e; rw [hx]; simp
    · cases hc : couX P i u best with
      | false => simp [e]
      | true => exact absurd (hm u hu hc) e
  · exact absurd rfl h
/-- what is told of slots, up to an entry -/
def tldF (L : List (Int × Int)) (n : Nat) (x : Int) : Int := (L.take n).foldl (fun v m => if x = m.1 then m.2 else v) 0
theorem tldF_zero (L : List (Int × Int)) (x : Int) : tldF L 0 x = 0 := rfl
theorem tldF_step {L : List (Int × Int)} {n : Nat} (h : n < L.length) (x : Int) : tldF L (n + 1) x = if x = L[n].1 then L[n].2 else tldF L n x := by
  unfold tldF
  rw [List.take_succ_eq_append_getElem h, List.foldl_append]
  rfl
theorem surS_who {P : Po} {best : List Int} {i : Nat} (h : i < P.ss.length) : surS P best i = if whoX P i best = 0 then [] else [(P.ss[i].id, whoX P i best)] := by
  have e : P.ss.getD i ⟨0, []⟩ = P.ss[i] := by rw [List.getD_eq_getElem?_getD, List.getElem?_eq_getElem h]; rfl
  unfold surS whoX
  rw [e]
  generalize whoL P i best (0 :: usOf P i) = l
  match l with
  | [x] => rfl
  | [] => rfl
  | _ :: _ :: _ => rfl
theorem tld_all {P : Po} (hok : OkP P) (best : List Int) : ∀ k, k ≤ P.ss.length → ∀ i (h : i < P.ss.length), (surL P best k).foldl (fun v m => if P.ss[i].id = m.1 then m.2 else v) 0 = if i < k then whoX P i best else 0
  | 0, _, i, h => by simp [surL]
  | k + 1, hk, i, h => by
    have ih := tld_all hok best k (by omega) i h
    have e : surL P best (k + 1) = surL P best k ++ surS P best k := by
      unfold surL
      rw [List.range_succ, List.flatMap_append, List.flatMap_singleton]
    rw [e, List.foldl_append, ih, surS_who (show k < P.ss.length by omega)]
    have hinj : P.ss[i].id = P.ss[k].id → i = k := fun e => by
      have h1 := sl_at hok h
      have h2 := sl_at hok (show k < P.ss.length by omega)
      rw [e] at h1
      omega
    by_cases h0 : whoX P k best = 0
    · rw [if_pos h0]
      simp only [List.foldl_nil]
      by_cases hik : i = k
      · subst hik; rw [if_neg (by omega), if_pos (by omega), h0]
      · by_cases h2 : i < k
        · rw [if_pos h2, if_pos (by omega)]
        · rw [if_neg h2, if_neg (by omega)]
    · rw [if_neg h0]
      simp only [List.foldl_cons, List.foldl_nil]
      by_cases hik : i = k
      · subst hik; rw [if_pos rfl, if_pos (by omega)]
      · rw [if_neg (fun e => hik (hinj e))]
        by_cases h2 : i < k
        · rw [if_pos h2, if_pos (by omega)]
        · rw [if_neg h2, if_neg (by omega)]
theorem tld_end {P : Po} (hok : OkP P) {i : Nat} (h : i < P.ss.length) : tldF (surX P) (surX P).length P.ss[i].id = whoX P i (ladL P (faiG P)) := by
  unfold tldF
  rw [List.take_length]
  unfold surX
  rw [if_pos (chk_ok.2 hok), tld_all hok _ _ (Nat.le_refl _) i h, if_pos h]
theorem surX_len {P : Po} (hok : OkP P) : (surX P).length ≤ 40 := by
  unfold surX
  rw [if_pos (chk_ok.2 hok)]
  have key : ∀ k, k ≤ P.ss.length → (surL P (ladL P (faiG P)) k).length ≤ k := fun k => by
    induction k with
    | zero => intro _; simp [surL]
    | succ k ih =>
      intro hk
      have e : surL P (ladL P (faiG P)) (k + 1) = surL P (ladL P (faiG P)) k ++ surS P (ladL P (faiG P)) k := by
        unfold surL
        rw [List.range_succ, List.flatMap_append, List.flatMap_singleton]
      rw [e, List.length_append, surS_who (show k < P.ss.length by omega)]
      have := ih (by omega)
      split
      · simp; omega
      · simp; omega
  have := key _ (Nat.le_refl _)
  have := hok.ls
  omega
/-- Could at a slot -/
theorem cld_at {P : Po} (hok : OkP P) {i : Nat} (h : i < P.ss.length) {tn : Int} (ht : tn = 0 ∨ ∃ t ∈ P.ts, t.id = tn) : cldE P P.ss[i].id tn = 0 ∧ cldX P P.ss[i].id tn = couX P i tn (ladL P (faiG P)) := by
  have hE : cldE P P.ss[i].id tn = 0 := by
    unfold cldE
    rw [if_pos (chk_ok.2 hok), if_neg]
    rintro (h1 | ⟨h1, h2⟩)
    · rw [sl_at hok h] at h1; omega
    · rcases ht with e | ⟨t, ht, e⟩
      · exact h1 e
      · exact tnI_none.1 h2 t ht e
  refine ⟨hE, ?_⟩
  unfold cldX
  rw [if_pos hE, sl_at hok h, Int.toNat_natCast]
end Go.Proofs.Ytiofdfjcaklmcaa
