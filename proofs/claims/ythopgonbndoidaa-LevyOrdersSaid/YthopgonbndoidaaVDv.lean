/- Own laws: a region that draws its order, where some last operations need not keep the condition; what single operations do in it. Divide of the program: what it computes, and words for its memory. Divide of the program: the walk. -/
import Derived.Test.YthopgonbndoidaaVBase
import Derived.Test.YthopgonbndoidaaVPie
import Derived.Test.YthopgonbndoidaaVFai
namespace Go.Proofs.Ythopgonbndoidaa
open Go.RowKit Go.Shelf

variable {P : Program} {md : Region.Mode} {ops : Array Oper} {Q : Exit → Act → World → Prop} {S : World → Prop} {l n : Nat}
/-! ### Some last operations need not keep the condition -/
/-- none of Z has come up yet -/
def noZ (Z : List Nat) (listed : Array Bool) : Bool := Z.all (fun z => listed.getD z true == false)
def wpAnyZ (P : Program) (md : Region.Mode) (ops : Array Oper) (Q : Exit → Act → World → Prop) (S : World → Prop) (Z : List Nat) : Nat → Array Bool → Act → World → Prop
  | 0, listed, a, w => Region.ready md ops listed = [] ∧ Q .normal a w
  | fuel + 1, listed, a, w =>
    (Region.ready md ops listed = [] → Q .normal a w) ∧
    ∀ i ∈ Region.ready md ops listed, wpOp P ops Q i (fun a' w' => (noZ Z (listed.setIfInBounds i true) = true → S w') ∧ wpAnyZ P md ops Q S Z fuel (listed.setIfInBounds i true) a' w') a w
variable {Z : List Nat}
theorem wpAny_of_lastZ : ∀ (fuel : Nat) (listed : Array Bool) (a : Act) (w : World), wpAnyZ P md ops Q S Z fuel listed a w → wpAny P md ops Q fuel listed a w
  | 0, _, _, _, h => h
  | fuel + 1, _, _, _, h => ⟨h.1, fun i hi => wpOp_mono (fun a' w' h' => wpAny_of_lastZ fuel _ a' w' h'.2) (h.2 i hi)⟩
theorem noZ_set {listed : Array Bool} {j : Nat} (h : noZ Z listed = true) (hj : j ∉ Z) : noZ Z (listed.setIfInBounds j true) = true := by
  unfold noZ at h ⊢
  rw [List.all_eq_true] at h ⊢
  intro z hz
  have := h z hz
  rw [getD_set_ne true (fun (e : j = z) => hj (e ▸ hz))]
  exact this
theorem noZ_back {listed : Array Bool} {j : Nat} (h : noZ Z (listed.setIfInBounds j true) = true) : noZ Z listed = true := by
  unfold noZ at h ⊢
  rw [List.all_eq_true] at h ⊢
  intro z hz
  have h1 := h z hz
  by_cases hjz : j = z
  · subst hjz
    simp only [beq_iff_eq] at h1 ⊢
    by_cases hs : j < listed.size
    · simp [hs] at h1
    · simp [hs] at h1
  · rw [getD_set_ne true hjz] at h1
    exact h1
theorem wpAnyZ_first {i : Nat} {oi : Oper} {v : Value} (hi : ops[i]? = some oi) (hsel : ∀ (j : Nat) (o : Oper) cs b, ops[j]? = some o → o.op ≠ .select cs b)
    (hQ : ∀ c a w, Q (.panic c) (a.put oi.dst v) w → Q (.panic c) a w) (hz : Z.all (fun z => waitsFor md ops z i) = true) :
    ∀ (fuel : Nat) (listed : Array Bool) (a : Act) (w : World),
      (∀ j oj, ops[j]? = some oj → j ≠ i → listed.getD j true = false → (∀ e ∈ oj.after, Region.binds md e = true → e.on ≠ i) → oi.apart ops oj = true) →
      i ∈ Region.ready md ops listed → YieldsIf P ops S oi v a → S w → noZ Z listed = true →
      wpAnyZ P md ops Q S Z fuel (listed.setIfInBounds i true) (a.put oi.dst v) w → wpAnyZ P md ops Q S Z (fuel + 1) listed a w := by
  intro fuel
  induction fuel with
  | zero =>
    intro listed a w _ hr hy hS _ H
    refine ⟨fun h => (by rw [h] at hr; cases hr), fun j hj => ?_⟩
    by_cases hji : j = i
    · subst hji; exact hy.wpOp hi hS ⟨fun _ => hS, H⟩
    · have := ready_mono hj hji
      rw [H.1] at this
      cases this
  | succ fuel ih =>
    intro listed a w hfree hr hy hS hn H
    refine ⟨fun h => (by rw [h] at hr; cases hr), fun j hj => ?_⟩
    by_cases hji : j = i
    · subst hji; exact hy.wpOp hi hS ⟨fun _ => hS, H⟩
    · have h1 := H.2 j (ready_mono hj hji)
      obtain ⟨hjun, oj, hoj, hall⟩ := mem_ready.1 hj
      have hnot : ∀ e ∈ oj.after, Region.binds md e = true → e.on ≠ i := fun e he hb heq => by
        have h1 := hall e he hb
        have h0 := (mem_ready.1 hr).1
        rw [heq] at h1
        rcases Nat.lt_or_ge i listed.size with h' | h'
        · simp [h'] at h0 h1; rw [h0] at h1; cases h1
        · simp [Array.getElem?_eq_none h'] at h1
      have hwait : ∀ k : Nat, k ∈ Z → ∃ oz, ops[k]? = some oz ∧ ∃ e ∈ oz.after, Region.binds md e = true ∧ e.on = i := fun k hk => waitsFor_spec (List.all_eq_true.1 hz k hk)
      have hjz : j ∉ Z := by
        intro hm
        obtain ⟨oz, h3, e, he, hb, heq⟩ := hwait j hm
        rw [hoj] at h3
        cases h3
        exact hnot e he hb heq
      have hiz : i ∉ Z := by
        intro hm
        obtain ⟨oz, h3, e, he, hb, heq⟩ := hwait i hm
        obtain ⟨_, oi', hoi, hall'⟩ := mem_ready.1 hr
        rw [hoi] at h3
        cases h3
        have h1 := hall' e he hb
        have h0 := (mem_ready.1 hr).1
        rw [heq] at h1
        rcases Nat.lt_or_ge i listed.size with h' | h'
        · simp [h'] at h0 h1; rw [h0] at h1; cases h1
        · simp [Array.getElem?_eq_none h'] at h1
      have h2 := wpOp_putIf hoj (hfree j oj hoj hji hjun hnot) (fun cs b => hsel i oi cs b hi) (fun cs b => hsel j oj cs b hoj) hQ hy h1
      have hfree' : ∀ k ok, ops[k]? = some ok → k ≠ i → (listed.setIfInBounds j true).getD k true = false →
          (∀ e ∈ ok.after, Region.binds md e = true → e.on ≠ i) → oi.apart ops ok = true := fun k ok hk hki hun hno => by
        refine hfree k ok hk hki ?_ hno
        by_cases hjk : j = k
        · subst hjk; exact hjun
        · rw [getD_set_ne true hjk] at hun; exact hun
      have hn' := noZ_set hn hjz
      refine wpOp_mono (fun a' w' h3 => ?_) h2
      have hS' : S w' := h3.2.1 (noZ_set (noZ_set hn hiz) hjz)
      refine ⟨fun _ => hS', ih (listed.setIfInBounds j true) a' w' hfree' (ready_mono hr (Ne.symm hji)) h3.1 hS' hn' ?_⟩
      rw [Array.setIfInBounds_comm _ _ hji]
      exact h3.2.2
theorem wpAnyZ_take {i : Nat} {oi : Oper} {v : Value} {fuel : Nat} {listed : Array Bool} {a : Act} {w : World} (hi : ops[i]? = some oi)
    (hs : Region.noSelect ops = true) (hf : Region.free md ops listed i = true) (hr : (Region.ready md ops listed).contains i = true) (hz : Z.all (fun z => waitsFor md ops z i) = true) (hn : noZ Z listed = true)
    (hQ : ∀ c a w, Q (.panic c) (a.put oi.dst v) w → Q (.panic c) a w) (hy : YieldsIf P ops S oi v a) (hS : S w)
    (h : wpAnyZ P md ops Q S Z fuel (listed.setIfInBounds i true) (a.put oi.dst v) w) : wpAnyZ P md ops Q S Z (fuel + 1) listed a w :=
  wpAnyZ_first hi (Region.noSelect_spec hs) hQ hz fuel listed a w (Region.free_spec hi hf) (by simpa using hr) hy hS hn h
/-- an operation that does not look at memory -/
theorem wpAnyZ_firstP {i : Nat} {oi : Oper} {v : Value} (hi : ops[i]? = some oi) (hsel : ∀ (j : Nat) (o : Oper) cs b, ops[j]? = some o → o.op ≠ .select cs b)
    (hQ : ∀ c a w, Q (.panic c) (a.put oi.dst v) w → Q (.panic c) a w) (hiz : i ∉ Z) :
    ∀ (fuel : Nat) (listed : Array Bool) (a : Act) (w : World),
      (∀ j oj, ops[j]? = some oj → j ≠ i → listed.getD j true = false → (∀ e ∈ oj.after, Region.binds md e = true → e.on ≠ i) → oi.apart ops oj = true) →
      i ∈ Region.ready md ops listed → YieldsIf P ops (fun _ => True) oi v a → (noZ Z listed = true → S w) →
      wpAnyZ P md ops Q S Z fuel (listed.setIfInBounds i true) (a.put oi.dst v) w → wpAnyZ P md ops Q S Z (fuel + 1) listed a w := by
  intro fuel
  induction fuel with
  | zero =>
    intro listed a w _ hr hy hS H
    refine ⟨fun h => (by rw [h] at hr; cases hr), fun j hj => ?_⟩
    by_cases hji : j = i
    · subst hji; exact hy.wpOp hi trivial ⟨fun h => hS (noZ_back h), H⟩
    · have := ready_mono hj hji
      rw [H.1] at this
      cases this
  | succ fuel ih =>
    intro listed a w hfree hr hy hS H
    refine ⟨fun h => (by rw [h] at hr; cases hr), fun j hj => ?_⟩
    by_cases hji : j = i
    · subst hji; exact hy.wpOp hi trivial ⟨fun h => hS (noZ_back h), H⟩
    · have h1 := H.2 j (ready_mono hj hji)
      obtain ⟨hjun, oj, hoj, hall⟩ := mem_ready.1 hj
      have hnot : ∀ e ∈ oj.after, Region.binds md e = true → e.on ≠ i := fun e he hb heq => by
        have h1 := hall e he hb
        have h0 := (mem_ready.1 hr).1
        rw [heq] at h1
        rcases Nat.lt_or_ge i listed.size with h' | h'
        · simp [h'] at h0 h1; rw [h0] at h1; cases h1
        · simp [Array.getElem?_eq_none h'] at h1
      have h2 := wpOp_putIf hoj (hfree j oj hoj hji hjun hnot) (fun cs b => hsel i oi cs b hi) (fun cs b => hsel j oj cs b hoj) hQ hy h1
      have hfree' : ∀ k ok, ops[k]? = some ok → k ≠ i → (listed.setIfInBounds j true).getD k true = false →
          (∀ e ∈ ok.after, Region.binds md e = true → e.on ≠ i) → oi.apart ops ok = true := fun k ok hk hki hun hno => by
        refine hfree k ok hk hki ?_ hno
        by_cases hjk : j = k
        · subst hjk; exact hjun
        · rw [getD_set_ne true hjk] at hun; exact hun
      refine wpOp_mono (fun a' w' h3 => ?_) h2
      have hS' : noZ Z (listed.setIfInBounds j true) = true → S w' := fun h => h3.2.1 (by rw [Array.setIfInBounds_comm _ _ (Ne.symm hji)]; exact noZ_set h hiz)
      refine ⟨hS', ih (listed.setIfInBounds j true) a' w' hfree' (ready_mono hr (Ne.symm hji)) h3.1 hS' ?_⟩
      rw [Array.setIfInBounds_comm _ _ hji]
      exact h3.2.2
theorem wpAnyZ_pure {i : Nat} {oi : Oper} {v : Value} {fuel : Nat} {listed : Array Bool} {a : Act} {w : World} (hi : ops[i]? = some oi)
    (hs : Region.noSelect ops = true) (hf : Region.free md ops listed i = true) (hr : (Region.ready md ops listed).contains i = true) (hiz : i ∉ Z)
    (hQ : ∀ c a w, Q (.panic c) (a.put oi.dst v) w → Q (.panic c) a w) (hy : YieldsIf P ops (fun _ => True) oi v a) (hS : S w)
    (h : wpAnyZ P md ops Q S Z fuel (listed.setIfInBounds i true) (a.put oi.dst v) w) : wpAnyZ P md ops Q S Z (fuel + 1) listed a w :=
  wpAnyZ_firstP hi (Region.noSelect_spec hs) hQ hiz fuel listed a w (Region.free_spec hi hf) (by simpa using hr) hy (fun _ => hS) h
/-- one operation that is the only one that may come up now -/
theorem wpAnyZ_one {i : Nat} {o : Oper} {fuel : Nat} {listed : Array Bool} {a : Act} {w : World} (hr : Region.ready md ops listed = [i]) (ho : ops[i]? = some o)
    (h : ∀ K' : Act → World → Prop, Shut (∀ a w, (noZ Z (listed.setIfInBounds i true) = true → S w) → ((noZ Z (listed.setIfInBounds i true) = true → S w) → wpAnyZ P md ops Q S Z fuel (listed.setIfInBounds i true) a w) → K' a w) → if Region.wanted o (yielded ops a.tmps) = true then Oper.wp P o a w K' Q else K' (a.put o.dst undef) w) :
    wpAnyZ P md ops Q S Z (fuel + 1) listed a w :=
  ⟨fun h0 => (by rw [hr] at h0; cases h0), fun j hj => by
    rw [hr] at hj
    obtain rfl : j = i := by simpa using hj
    exact wpOp_step ho (fun K' hK => h K' (fun a w hS hW => hK a w ⟨hS, hW hS⟩))⟩
theorem wpAnyZ_done {listed : Array Bool} {a : Act} {w : World} (hr : Region.ready md ops listed = []) (h : Q .normal a w) :
    ∀ fuel, wpAnyZ P md ops Q S Z fuel listed a w
  | 0 => ⟨hr, h⟩
  | _ + 1 => ⟨fun _ => h, by rw [hr]; simp⟩
theorem wpIn_round_lastZ (Z : List Nat) {id : Nat} {a : Act} {w : World} (hm : P.follows .mixedOrders = true) (hnd : noDefer ops = true) (hL : ¬ LetsOut Q) (hS : S w.drew)
    (h : S w.drew → wpAnyZ P .any ops Q S Z ops.size (Array.replicate ops.size false) a w.drew) : (Code.region id ops true).wpIn (Fence.wide.inRound l) n P Q a w :=
  wpIn_region_any hm (wpAnyIn_round hnd hL _ _ _ _ (wpAny_of_lastZ _ _ _ _ (h hS)))
theorem wp_region_lastZ (Z : List Nat) {id : Nat} {a : Act} {w : World} (hm : P.follows .mixedOrders = true) (hS : S w.drew)
    (h : S w.drew → wpAnyZ P .any ops Q S Z ops.size (Array.replicate ops.size false) a w.drew) : (Code.region id ops true).wp P Q a w :=
  wp_region_any hm (wpAny_of_lastZ _ _ _ _ (h hS))
end Go.Proofs.Ythopgonbndoidaa
namespace Go.Proofs.Ythopgonbndoidaa
open Go.RowKit Go.Shelf

/-- one payer pays of a reach what is left of it -/
def dvS (T : Tr) (r : Nat) (s : Int × List Int × List Int) (i : Nat) : Int × List Int × List Int :=
  if usB T.rs (T.ps.getD i ⟨0, 0, 0⟩).reach r = true then (s.1 - min s.1 (s.2.1.getD i 0), s.2.1.set i (s.2.1.getD i 0 - min s.1 (s.2.1.getD i 0)), s.2.2.set i (min s.1 (s.2.1.getD i 0))) else s
def dvD (T : Tr) (r : Nat) : Int := if wtA T.rs T.ps r = 0 then 0 else cst T.rs r
def dvJ (T : Tr) (r : Nat) (left : List Int) (j : Nat) : Int × List Int × List Int := (List.range j).foldl (dvS T r) (dvD T r, left, List.replicate T.ps.length 0)
theorem dvJ_succ (T : Tr) (r : Nat) (left : List Int) (j : Nat) : dvJ T r left (j + 1) = dvS T r (dvJ T r left j) j := by unfold dvJ; rw [List.range_succ, List.foldl_append]; rfl
def dvR (T : Tr) (s : List Int × (Nat → List Int)) (r : Nat) : List Int × (Nat → List Int) :=
  ((dvJ T r s.1 T.ps.length).2.1, fun k => if k = r then (dvJ T r s.1 T.ps.length).2.2 else s.2 k)
def dvF (T : Tr) (l : List Int) (pre : List Nat) : List Int × (Nat → List Int) := pre.foldl (dvR T) (l, fun _ => [])
theorem dvF_snoc (T : Tr) (l : List Int) (pre : List Nat) (r : Nat) : dvF T l (pre ++ [r]) = dvR T (dvF T l pre) r := by simp [dvF]
def dvM (T : Tr) (l : List Int) : List (List Int) := (List.range T.rs.length).map (dvF T l (bk T.rs.length)).2
def dvE (T : Tr) (l : List Int) : Int := if penE T l = 0 then (if faiB T l = true then 0 else 9) else penE T l
def dvX (T : Tr) (l : List Int) : List (List Int) := if dvE T l = 0 then dvM T l else []

/-- what the dividing keeps -/
structure DjV (n : Nat) (s : Int × List Int × List Int) : Prop where
  d : 0 ≤ s.1 ∧ s.1 ≤ 65536
  l : s.2.1.length = n
  b : ∀ x ∈ s.2.1, 0 ≤ x ∧ x ≤ 1073741824
  r : s.2.2.length = n
theorem getD_mem {l : List Int} {i : Nat} (h : i < l.length) : l.getD i 0 ∈ l := by
  rw [List.getD_eq_getElem?_getD, List.getElem?_eq_getElem h]; simp
theorem DjV.step {T : Tr} {r n : Nat} {s : Int × List Int × List Int} (h : DjV n s) {i : Nat} (hi : i < n) : DjV n (dvS T r s i) := by
  unfold dvS
  split
  · have hb := h.b _ (getD_mem (l := s.2.1) (i := i) (by rw [h.l]; exact hi))
    have hd := h.d
    refine ⟨by dsimp only; omega, by simp [h.l], fun x hx => ?_, by simp [h.r]⟩
    rcases mem_set_of hx with rfl | hx
    · omega
    · exact h.b x hx
  · exact h
theorem djV_at {T : Tr} (hok : Ok T) (r : Nat) {left : List Int} (hl : left.length = T.ps.length) (hb : ∀ x ∈ left, 0 ≤ x ∧ x ≤ 1073741824) : ∀ j, j ≤ T.ps.length → DjV T.ps.length (dvJ T r left j) := by
  intro j
  induction j with
  | zero =>
    intro _
    refine ⟨?_, hl, hb, by simp [dvJ]⟩
    have := cst_bd hok.rv r
    show 0 ≤ dvD T r ∧ dvD T r ≤ 65536
    unfold dvD
    split <;> omega
  | succ j ih => intro h; rw [dvJ_succ]; exact (ih (by omega)).step (by omega)
theorem dvF_bd {T : Tr} (hok : Ok T) {l : List Int} (hl : l.length = T.ps.length) (hb : ∀ x ∈ l, 0 ≤ x ∧ x ≤ 1073741824) (pre : List Nat) : (dvF T l pre).1.length = T.ps.length ∧ ∀ x ∈ (dvF T l pre).1, 0 ≤ x ∧ x ≤ 1073741824 := by
  induction pre using snoc_ind with
  | h0 => exact ⟨hl, hb⟩
  | h1 pre r ih =>
    rw [dvF_snoc]
    have h := djV_at hok r ih.1 ih.2 T.ps.length (Nat.le_refl _)
    exact ⟨h.l, h.b⟩

/-- an array of slices -/
def hdrs (m : Nat) (hs : Nat → Value) : Array Value := ((List.range m).map hs).toArray
theorem hdrs_get {m : Nat} (hs : Nat → Value) {i : Nat} (h : i < m) : (hdrs m hs)[i]? = some (hs i) := by simp [hdrs, h]
theorem hdrs_size (m : Nat) (hs : Nat → Value) : (hdrs m hs).size = m := by simp [hdrs]
theorem hdrs_set (m : Nat) (hs : Nat → Value) (i : Nat) (v : Value) : (hdrs m hs).setIfInBounds i v = hdrs m (fun r => if r = i then v else hs r) := by
  unfold hdrs
  rw [List.setIfInBounds_toArray]
  congr 1
  apply List.ext_getElem?
  intro k
  rw [List.getElem?_set]
  by_cases hk : i = k
  · subst hk
    by_cases h : i < m
    · simp [h]
    · simp [h]
  · rw [if_neg hk]
    by_cases h : k < m
    · simp [h, show ¬ k = i by omega]
    · simp [h]
/-- lists of integers in a slice of slices -/
def RowsAt (w : World) (v : Value) (L : List (List Int)) : Prop :=
  ∃ ao cap, v = .slice ao L.length cap ∧ L.length ≤ cap ∧ ∀ i (h : i < L.length), ∃ b o u, ao = some ⟨b, o, none⟩ ∧ w.cell? ⟨b, o + i, none⟩ = some u ∧ IntsAt w u L[i]
theorem RowsAt.ext {w w' : World} {v : Value} {L : List (List Int)} (h : RowsAt w v L) (x : Ext w w') : RowsAt w' v L := by
  obtain ⟨ao, cap, hv, hle, hc⟩ := h
  refine ⟨ao, cap, hv, hle, fun i hi => ?_⟩
  obtain ⟨b, o, u, h0, h1, h2⟩ := hc i hi
  exact ⟨b, o, u, h0, x.cell h1, h2.ext x⟩
theorem rowsAt_nil (w : World) : RowsAt w (.slice none 0 0) [] := ⟨none, 0, rfl, by simp, fun i hi => by simp at hi⟩
def RowsPost (w : World) (L : List (List Int)) (E : Int) (e : Ending) (w' : World) : Prop := ∃ v, e = .returned (.tuple #[v, .int .i64 E]) ∧ RowsAt w' v L ∧ Ext w w'

theorem rowI_cls {n₀ g : Nat} {l : List Int} {W : World} (h : RowI n₀ (.slice (some ⟨g, 0, none⟩) l.length l.length) l W) : Cls g 3 (cellsI l).toArray W := by
  rcases h.2 with ⟨h', _⟩ | ⟨g', cap, cur, h', _, h2, _, _, h5, h6⟩
  · simp at h'
  · simp only [Value.slice.injEq, Option.some.injEq, Addr.mk.injEq, and_true, true_and] at h'
    obtain ⟨rfl, rfl⟩ := h'
    have : cur = (cellsI l).toArray := by
      rw [← h6, List.take_of_length_le (by rw [Array.length_toList, h5]; exact Nat.le_refl _)]
    rw [← this]
    exact h2
theorem cls_ints {g n : Nat} {t : TypeId} {l : List Int} {W : World} (h : Cls g t (cellsI l).toArray W) (hn : l.length = n) : IntsAt W (.slice (some ⟨g, 0, none⟩) n n) l := by
  subst hn
  refine ⟨_, _, rfl, Nat.le_refl _, fun i hi => ⟨g, 0, rfl, ?_⟩⟩
  rw [Nat.zero_add, h.cell i, List.getElem?_toArray]
  exact cellsI_get l i hi
theorem cellsI_set (l : List Int) (i : Nat) (x : Int) : (cellsI l).toArray.setIfInBounds i (.int .i64 x) = (cellsI (l.set i x)).toArray := by
  rw [List.setIfInBounds_toArray]
  simp [cellsI, List.map_set]
theorem cls_cell {g : Nat} {t : TypeId} {l : List Int} {W : World} (h : Cls g t (cellsI l).toArray W) {i : Nat} (hi : i < l.length) : W.cell? ⟨g, i, none⟩ = some (.int .i64 l[i]) := by
  rw [h.cell i, List.getElem?_toArray]
  exact cellsI_get l i hi
theorem rowI_ownAny {β : Type} {n₀ : Nat} {v : Value} (f : β → List Int) : Own (fun s W => RowI n₀ v (f s) W) := fun s X Y row hs hg hrow => by
  refine rowI_kept hs hg ?_
  rcases hs.2 with ⟨rfl, _⟩ | ⟨g, cap, cur, rfl, _, h2, _⟩
  · exact .inl rfl
  · refine .inr fun e => ?_
    obtain ⟨o, ho, hc⟩ := hrow g e.symm
    rw [h2] at ho
    cases ho
    cases hc

/-- slices.Clone of integers -/
theorem clone_any (v : Value) (l : List Int) (w : World) (hl : IntsAt w v l) (hn : l.length ≤ 1000000) :
    Calls Try.prog 95 #[v] w fun e w' => ∃ u, e = .returned u ∧ RowI w.heap.size u l w' ∧ Ext w w' := by
  obtain ⟨ao, c, rfl, hc⟩ := hl.len
  cases ao with
  | none =>
    have h0 : l = [] := by
      cases l with
      | nil => rfl
      | cons x l => obtain ⟨b, o, h, _⟩ := hl.get 0 (by simp); cases h
    subst h0
    refine (Try.slices_Clone_int_nil _ _ w).mono ?_
    rintro e w' ⟨rfl, rfl⟩
    exact ⟨_, rfl, rowI_nil _ _, Ext.refl _⟩
  | some ad =>
    by_cases h0 : l.length = 0
    · have h0' : l = [] := List.eq_nil_of_length_eq_zero h0
      subst h0'
      refine (Try.slices_Clone_int_zero ad c w).mono ?_
      rintro e w' ⟨u, rfl, h1, _, h2⟩
      exact ⟨_, rfl, h1, h2⟩
    · obtain ⟨b, o, he, _⟩ := hl.get 0 (by omega)
      obtain rfl := Option.some.inj he
      refine (Try.slices_Clone_int b o l.length c l w (Nat.le_refl _) (by omega) (fun j hj => ?_)).mono ?_
      · obtain ⟨b2, o2, he2, h3⟩ := hl.get j hj
        simp only [Option.some.injEq, Addr.mk.injEq, and_true] at he2
        obtain ⟨rfl, rfl⟩ := he2
        rw [h3, List.getD_eq_getElem?_getD, List.getElem?_eq_getElem hj]
        rfl
      · rintro e w' ⟨u, rfl, h1, _, h2⟩
        rw [List.take_length] at h1
        exact ⟨_, rfl, h1, h2⟩

theorem wpListIn_makeFull {F : Fence} {n : Nat} {P : Program} (w : World) {ops : Array Oper} {rest : List Oper} {o : Oper} {a : Act} {Q : Exit → Act → World → Prop}
    (hg : o.guard = none) (l c : Operand) (t : TypeId) (hop : o.op = Op.makeSlice t l c)
    (base : Nat) (e : TypeId) (i : TypeInfo) (z : Value) (size : Nat) (h1 : P.underlying t = some (.slice e)) (h2 : P.info? e = some i) (h3 : i.zero = some z) (h4 : i.size = size)
    (kl kc : IntKind) (m : Nat) (hl : a.eval l = .int kl m) (hc : a.eval c = .int kc m) (b2 : i.bytes * m ≤ 281474976710656) (b3 : m ≤ maxLen) (b4 : base ≤ w.heap.size)
    (hK : ∀ w', w'.ownsRow base e size (.slice (some ⟨w.heap.size, 0, none⟩) m m) m (madeCells z.cells (m * size)).toList → w.grownBy w' none → wpListIn F n P ops Q rest (a.put o.dst (.slice (some ⟨w.heap.size, 0, none⟩) m m)) w') :
    wpListIn F n P ops Q (o :: rest) a w := by
  refine wpListIn_plain hg fun K hK' => ?_
  obtain ⟨w', hrun, r1, r2⟩ := run_make_full (P := P) w base t e i z size h1 h2 h3 h4 kl kc m b2 b3 b4
  unfold Oper.wpIn
  refine ⟨?_, ?_⟩
  · simp [Oper.about, hop]
  · rw [Oper.semAt_plain F _ _ (by rw [hop]; intro c hc'; cases hc')]
    simp [execOp, hop, hl, hc, hrun, Result.andThen]
    exact hK' _ _ (hK w' r1 r2)
theorem oper_makeFull {P : Program} {o : Oper} {a : Act} {w : World} {K : Act → World → Prop} {Q : Exit → Act → World → Prop} (l c : Operand) (t : TypeId) (hop : o.op = Op.makeSlice t l c)
    (base : Nat) (e : TypeId) (i : TypeInfo) (z : Value) (size : Nat) (h1 : P.underlying t = some (.slice e)) (h2 : P.info? e = some i) (h3 : i.zero = some z) (h4 : i.size = size)
    (kl kc : IntKind) (m : Nat) (hl : a.eval l = .int kl m) (hc : a.eval c = .int kc m) (b2 : i.bytes * m ≤ 281474976710656) (b3 : m ≤ maxLen) (b4 : base ≤ w.heap.size)
    (hK : ∀ w', w'.ownsRow base e size (.slice (some ⟨w.heap.size, 0, none⟩) m m) m (madeCells z.cells (m * size)).toList → w.grownBy w' none → K (a.put o.dst (.slice (some ⟨w.heap.size, 0, none⟩) m m)) w') : Oper.wp P o a w K Q := by
  obtain ⟨w', hrun, r1, r2⟩ := run_make_full (P := P) w base t e i z size h1 h2 h3 h4 kl kc m b2 b3 b4
  unfold Oper.wp execOp
  simp only [hop, hl, hc, hrun, Sem.run_bind, Sem.run_pure, Result.andThen_ok]
  exact hK _ r1 r2
theorem infoSl : (Try.prog.info? 34).map (fun i => (i.zero, i.size, i.bytes)) = some (some (.slice none 0 0), 1, 24) := by kernel_rfl
theorem undSs : (Try.prog).underlying 92 = some (.slice 34) := by kernel_rfl
theorem wpList_makeS {ops : Array Oper} {rest : List Oper} {o : Oper} {a : Act} {w : World} {Q : Exit → Act → World → Prop} (hg : o.guard = none) (l c : Operand) (hop : o.op = Op.makeSlice 92 l c)
    (kl kc : IntKind) (m : Nat) (hl : a.eval l = .int kl m) (hc : a.eval c = .int kc m) (hm : m ≤ 1000000)
    (hK : ∀ w', Cls w.heap.size 34 (hdrs m (fun _ => .slice none 0 0)) w' → Ext w w' → w.heap.size < w'.heap.size → wpList Try.prog ops Q rest (a.put o.dst (.slice (some ⟨w.heap.size, 0, none⟩) m m)) w') : wpList Try.prog ops Q (o :: rest) a w := by
  obtain ⟨i0, hi0, hz0, hz1, hz2⟩ := info_parts infoSl
  refine wpList_plain hg fun K hKK => ?_
  refine oper_makeFull l c 92 hop w.heap.size 34 i0 (.slice none 0 0) 1 undSs hi0 hz0 hz1 kl kc m hl hc (by rw [hz2]; omega) (by unfold maxLen; omega) (Nat.le_refl _) (fun w' r1 r2 => hKK _ _ ?_)
  have e : (madeCells (Value.slice none 0 0).cells (m * 1)).toList = (List.range m).map (fun _ => Value.slice none 0 0) := by
    rw [Nat.mul_one]
    show (madeCells #[Value.slice none 0 0] m).toList = _
    rw [toList_madeCells_one]
    exact (List.map_const' (l := List.range m) (b := Value.slice none 0 0)).symm ▸ (by rw [List.length_range])
  rw [e] at r1
  have hC : Cls w.heap.size 34 (hdrs m (fun _ => .slice none 0 0)) w' := by
    rcases r1.2 with ⟨h', _⟩ | ⟨g', cap, cur, h', _, h2, _, _, h5, h6⟩
    · simp at h'
    · simp only [Value.slice.injEq, Option.some.injEq, Addr.mk.injEq, and_true, true_and] at h'
      obtain ⟨h7, rfl⟩ := h'
      subst h7
      have : cur = hdrs m (fun _ => .slice none 0 0) := by
        unfold hdrs
        rw [← h6, List.take_of_length_le (by rw [Array.length_toList, h5]; exact Nat.le_refl _)]
      rw [← this]
      exact h2
  exact hK _ hC (Below.grown (Below.refl _ _) r2 (Nat.le_refl _) (fun k e => by cases e)) hC.lt
theorem oper_makeI {o : Oper} {a : Act} {w : World} {K : Act → World → Prop} {Q : Exit → Act → World → Prop} (l c : Operand) (hop : o.op = Op.makeSlice 34 l c)
    (kl kc : IntKind) (m : Nat) (hl : a.eval l = .int kl m) (hc : a.eval c = .int kc m) (hm : m ≤ 1000000)
    (hK : ∀ w', Cls w.heap.size 3 (cellsI (List.replicate m 0)).toArray w' → Ext w w' → w.heap.size < w'.heap.size → K (a.put o.dst (.slice (some ⟨w.heap.size, 0, none⟩) m m)) w') : Oper.wp Try.prog o a w K Q := by
  obtain ⟨i0, hi0, hz0, hz1, hz2⟩ := info_parts infoInt
  obtain ⟨w', hrun, r1, r2⟩ := run_make_full (P := Try.prog) w w.heap.size 34 3 i0 (.int .i64 0) 1 undInt hi0 hz0 hz1 kl kc m (by rw [hz2]; omega) (by unfold maxLen; omega) (Nat.le_refl _)
  unfold Oper.wp execOp
  simp only [hop, hl, hc, hrun, Sem.run_bind, Sem.run_pure, Result.andThen_ok]
  have e : (madeCells (Value.int .i64 0).cells (m * 1)).toList = cellsI (List.replicate m 0) := by
    rw [Nat.mul_one]
    show (madeCells #[Value.int .i64 0] m).toList = _
    rw [toList_madeCells_one]
    simp [cellsI]
  rw [e] at r1
  have hC := rowI_cls (l := List.replicate m 0) (by unfold RowI; simpa using r1)
  exact hK _ hC (Below.grown (Below.refl _ _) r2 (Nat.le_refl _) (fun k e => by cases e)) hC.lt
end Go.Proofs.Ythopgonbndoidaa
namespace Go.Proofs.Ythopgonbndoidaa
open Go.RowKit Go.Shelf

attribute [local go_sem] Oper.semAt_some

/-- the blocks of Divide -/
structure DV (w : World) (cs : Array Value) (BL BA BO go m : Nat) (lv : Value) (f : Nat → Int) (W : World) (left : List Int) (hs : Nat → Value) : Prop where
  b0 : Cls w.heap.size 25 cs W
  bl : Cls BL 34 #[lv] W
  ba : Cls BA 107 (arr f) W
  bo : Cls BO 92 #[.slice (some ⟨go, 0, none⟩) m m] W
  bg : Cls go 34 (hdrs m hs) W
  rl : RowI (w.heap.size + 1) lv left W
  ex : Ext w W
theorem DV.ext {w : World} {cs : Array Value} {BL BA BO go m : Nat} {lv : Value} {f : Nat → Int} {W W' : World} {left : List Int} {hs : Nat → Value} (h : DV w cs BL BA BO go m lv f W left hs) (x : Ext W W') : DV w cs BL BA BO go m lv f W' left hs :=
  ⟨h.b0.ext x, h.bl.ext x, h.ba.ext x, h.bo.ext x, h.bg.ext x, rowI_ext h.rl x, h.ex.trans x⟩
/-- where they lie -/
structure DN (w : World) (BL BA BO go : Nat) (lv : Value) : Prop where
  o1 : w.heap.size < BL
  o2 : BL < BA
  o3 : BA < go
  o4 : go < BO
  ol : ∀ g, lv.ownBlock = some g → w.heap.size < g ∧ g < BL
theorem DV.other {w : World} {cs : Array Value} {BL BA BO go m : Nat} {lv : Value} {f : Nat → Int} {W : World} {left : List Int} {hs : Nat → Value} (h : DV w cs BL BA BO go m lv f W left hs) (n : DN w BL BA BO go lv) {b : Nat} (hb : BO < b) (i : Nat) (u : Value) : DV w cs BL BA BO go m lv f (W.setCell ⟨b, i, none⟩ u) left hs := by
  have := n.o1; have := n.o2; have := n.o3; have := n.o4
  refine ⟨h.b0.other (by omega) i u, h.bl.other (by omega) i u, h.ba.other (by omega) i u, h.bo.other (by omega) i u, h.bg.other (by omega) i u, rowI_kept h.rl (grown_set W b i u) ?_, h.ex.setCell (by simp; omega) _⟩
  cases hv : lv.ownBlock with
  | none => exact .inl rfl
  | some g => exact .inr (fun e => by have := (n.ol g hv).2; have := Option.some.inj e; omega)
theorem DV.setHdr {w : World} {cs : Array Value} {BL BA BO go m : Nat} {lv : Value} {f : Nat → Int} {W : World} {left : List Int} {hs : Nat → Value} (h : DV w cs BL BA BO go m lv f W left hs) (n : DN w BL BA BO go lv) (i : Nat) (u : Value) : DV w cs BL BA BO go m lv f (W.setCell ⟨go, i, none⟩ u) left (fun r => if r = i then u else hs r) := by
  have := n.o1; have := n.o2; have := n.o3; have := n.o4
  refine ⟨h.b0.other (by omega) i u, h.bl.other (by omega) i u, h.ba.other (by omega) i u, h.bo.other (by omega) i u, ?_, rowI_kept h.rl (grown_set W go i u) ?_, h.ex.setCell (by simp; omega) _⟩
  · have := h.bg.set i u
    rwa [hdrs_set] at this
  · cases hv : lv.ownBlock with
    | none => exact .inl rfl
    | some g => exact .inr (fun e => by have := (n.ol g hv).2; have := Option.some.inj e; omega)
theorem DV.setLeft {w : World} {cs : Array Value} {BL BA BO go m g c k : Nat} {f : Nat → Int} {W : World} {left : List Int} {hs : Nat → Value} (h : DV w cs BL BA BO go m (.slice (some ⟨g, 0, none⟩) k c) f W left hs) (n : DN w BL BA BO go (.slice (some ⟨g, 0, none⟩) k c)) (hk : left.length = k) (i : Nat) (x : Int) :
    DV w cs BL BA BO go m (.slice (some ⟨g, 0, none⟩) k c) f (W.setCell ⟨g, i, none⟩ (.int .i64 x)) (left.set i x) hs := by
  have := n.o1; have := n.o2; have := n.o3; have := n.o4
  have := n.ol g rfl
  subst hk
  exact ⟨h.b0.other (by omega) i _, h.bl.other (by omega) i _, h.ba.other (by omega) i _, h.bo.other (by omega) i _, h.bg.other (by omega) i _, rowI_set h.rl x, h.ex.setCell (by simp; omega) _⟩
theorem cell_other {W : World} {b c i k : Nat} {u v : Value} (h : W.cell? ⟨c, k, none⟩ = some v) (hne : c ≠ b) : (W.setCell ⟨b, i, none⟩ u).cell? ⟨c, k, none⟩ = some v :=
  (World.cell?_of_block (Below.heap_setCell W ⟨b, i, none⟩ u c (by simpa using hne))).trans h
/-- the rows that are done -/
def RWS (W : World) (n O K : Nat) (pre : List Nat) (rows : Nat → List Int) (hs : Nat → Value) : Prop := ∀ r ∈ pre, ∃ g, hs r = .slice (some ⟨g, 0, none⟩) n n ∧ (O < g ∧ g < K) ∧ Cls g 3 (cellsI (rows r)).toArray W ∧ (rows r).length = n
theorem RWS.ext {W W' : World} {n O K : Nat} {pre : List Nat} {rows : Nat → List Int} {hs : Nat → Value} (h : RWS W n O K pre rows hs) (x : Ext W W') : RWS W' n O K pre rows hs := fun r hr => by
  obtain ⟨g, h1, h2, h3, h4⟩ := h r hr
  exact ⟨g, h1, h2, h3.ext x, h4⟩
theorem RWS.up {W : World} {n O K K' : Nat} {pre : List Nat} {rows : Nat → List Int} {hs : Nat → Value} (h : RWS W n O K pre rows hs) (hk : K ≤ K') : RWS W n O K' pre rows hs := fun r hr => by
  obtain ⟨g, h1, h2, h3, h4⟩ := h r hr
  exact ⟨g, h1, by omega, h3, h4⟩
theorem RWS.off {W : World} {n O K : Nat} {pre : List Nat} {rows : Nat → List Int} {hs : Nat → Value} (h : RWS W n O K pre rows hs) {b : Nat} (hb : b ≤ O ∨ K ≤ b) (i : Nat) (u : Value) : RWS (W.setCell ⟨b, i, none⟩ u) n O K pre rows hs := fun r hr => by
  obtain ⟨g, h1, h2, h3, h4⟩ := h r hr
  exact ⟨g, h1, h2, h3.other (by omega) i u, h4⟩
theorem DV.grown {w : World} {cs : Array Value} {BL BA BO go m : Nat} {lv : Value} {f : Nat → Int} {W Y : World} {row : Option Nat} {left : List Int} {hs : Nat → Value} (h : DV w cs BL BA BO go m lv f W left hs) (hg : W.grownBy Y row) (h0 : ∀ D, row = some D → w.heap.size ≤ D) (hr : ∀ D, row = some D → ∃ o, W.heap[D]? = some o ∧ o.isCells = false) : DV w cs BL BA BO go m lv f Y left hs :=
  ⟨(Cls.own _ _ (fun _ : Unit => _)) () W Y row h.b0 hg hr, (Cls.own _ _ (fun _ : Unit => _)) () W Y row h.bl hg hr, (Cls.own _ _ (fun _ : Unit => _)) () W Y row h.ba hg hr, (Cls.own _ _ (fun _ : Unit => _)) () W Y row h.bo hg hr, (Cls.own _ _ (fun _ : Unit => _)) () W Y row h.bg hg hr, (rowI_ownAny (fun _ : Unit => left)) () W Y row h.rl hg hr, Below.grown h.ex hg h.ex.size h0⟩
theorem RWS.grown {W Y : World} {row : Option Nat} {n O K : Nat} {pre : List Nat} {rows : Nat → List Int} {hs : Nat → Value} (h : RWS W n O K pre rows hs) (hg : W.grownBy Y row) (hr : ∀ D, row = some D → ∃ o, W.heap[D]? = some o ∧ o.isCells = false) : RWS Y n O K pre rows hs := fun r hm => by
  obtain ⟨g, h1, h2, h3, h4⟩ := h r hm
  exact ⟨g, h1, h2, (Cls.own _ _ (fun _ : Unit => _)) () W Y row h3 hg hr, h4⟩
theorem bk_mem {n r : Nat} (h : r < n) : r ∈ bk n := by
  induction n with
  | zero => omega
  | succ n ih =>
    rw [bk]
    by_cases hr : r = n
    · simp [hr]
    · exact List.mem_cons_of_mem _ (ih (by omega))
theorem bk_gt {n i : Nat} {pre : List Nat} (h : pre ++ [i] <+: bk n) : ∀ r ∈ pre, i < r := by
  obtain ⟨t, ht⟩ := h
  have hp : ∀ k, (bk k).Pairwise (fun a b => b < a) ∧ ∀ x ∈ bk k, x < k := by
    intro k
    induction k with
    | zero => exact ⟨List.Pairwise.nil, fun x hx => by simp [bk] at hx⟩
    | succ k ih =>
      refine ⟨?_, fun x hx => ?_⟩
      · rw [bk, List.pairwise_cons]
        exact ⟨fun x hx => ih.2 x hx, ih.1⟩
      · rw [bk] at hx
        rcases List.mem_cons.1 hx with rfl | hx
        · omega
        · have := ih.2 x hx; omega
  have h1 := (hp n).1
  rw [← ht, List.append_assoc, List.pairwise_append] at h1
  intro r hr
  exact h1.2.2 r hr i (by simp)

set_option maxRecDepth 100000 in
set_option maxHeartbeats 16000000 in
theorem Divide_any (a b v : Value) (T : Tr) (l : List Int) (w : World) (hT : TrAt w a b T) (hl : IntsAt w v l) (hn : l.length ≤ 100000) :
    Calls Try.prog 50 #[.agg #[a, b], v] w (RowsPost w (dvX T l) (dvE T l)) := by
  have hX : dvX T l = if dvE T l = 0 then dvM T l else [] := rfl
  have hE : dvE T l = if penE T l = 0 then (if faiB T l = true then 0 else 9) else penE T l := rfl
  obtain ⟨E, hEE⟩ : ∃ E, penE T l = E := ⟨_, rfl⟩
  have hok : E = 0 → Ok T ∧ l.length = T.ps.length ∧ ∀ n ∈ l, 0 ≤ n ∧ n ≤ 1073741824 := fun h => penE_ok (hEE.trans h)
  obtain ⟨F, hFF⟩ : ∃ F, faiB T l = F := ⟨_, rfl⟩
  obtain ⟨D, hDD⟩ : ∃ D, dvE T l = D := ⟨_, rfl⟩
  obtain ⟨X, hXX⟩ : ∃ D, dvX T l = D := ⟨_, rfl⟩
  rw [hEE, hFF, hDD] at hE
  rw [hDD, hXX] at hX
  rw [hDD, hXX]
  have HEE := Lib.hid hEE
  have HFF := Lib.hid hFF
  have HE := Lib.hid hE
  have HX := Lib.hid hX
  have HOK := Lib.hid hok
  clear hEE hFF hDD hXX hX hE hok
  obtain ⟨ar, cr, rfl, hlr⟩ := hT.r.len
  obtain ⟨ab, cb, rfl, hlb⟩ := hT.p.len
  obtain ⟨av, cv, rfl, hlv⟩ := hl.len
  have KS := fun W (h : Ext w W) => sums_any _ _ _ T l W (hT.ext h) (hl.ext h) hn
  rw [HEE.out] at KS
  by_cases h0 : E = 0
  · have hb : (E != 0) = false := by simpa using h0
    have hE2 := HE.out
    rw [if_pos h0] at hE2
    have HE2 := Lib.hid hE2
    obtain ⟨hok, hlen, hbb⟩ := HOK.out h0
    have KF := fun W (h : Ext w W) => fair_any _ _ _ T hok l W (hT.ext h) (hl.ext h) hlen hbb
    rw [HFF.out] at KF
    have HLEN := Lib.hid hlen
    have HBB := Lib.hid hbb
    clear hE2 h0 hlen hbb
    cases F
    · have hE3 := HE2.out
      rw [if_neg (by decide)] at hE3
      have hX3 := HX.out
      rw [if_neg (by rw [hE3]; decide)] at hX3
      have HE3 := Lib.hid hE3
      have HX3 := Lib.hid hX3
      clear hE3 hX3
      go_enter Try.func50, Try.ntmps50
      go_wp2_with fail
      refine (KS _ (by repeat (first | exact Ext.refl _ | assumption | refine Ext.alloc ?_ _ | refine Ext.drew ?_ | refine Ext.drewN _ ?_ | refine Ext.trans ?_ (by assumption)))).mono ?_
      rintro e w1 ⟨rfl, hx1⟩
      obtain ⟨q0, hx, hzz⟩ := alloc1 hx1
      have d0 : w1.cell? ⟨w.heap.size, 0, none⟩ = _ := q0.cell 0
      have d1 : w1.cell? ⟨w.heap.size, 1, none⟩ = _ := q0.cell 1
      clear hx1
      go_wp2_with (refine wpList_build rfl _ _ rfl (by rfl) ?_)
      refine (KF _ hx).mono ?_
      rintro e w2 ⟨rfl, hy⟩
      go_wp2_with fail
      go_ret2
      exact ⟨_, ret2 rfl (by rw [HE3.out]; rfl), by rw [HX3.out]; exact rowsAt_nil _, hx.trans hy⟩
    · have hE3 := HE2.out
      rw [if_pos rfl] at hE3
      have hX3 := HX.out
      rw [if_pos hE3] at hX3
      have HE3 := Lib.hid hE3
      have HX3 := Lib.hid hX3
      clear hE3 hX3
      refine (callsIn_wide (n := 5)).1 ?_
      refine callsIn_of_wp_marks Try.func50 rfl trivial ?_ rfl; simp only [Try.ntmps50, List.size_toArray, List.length_cons, List.length_nil, Nat.reduceAdd, Nat.reduceSub, Array.replicate_succ, Array.replicate_zero, List.push_toArray, List.append_toArray, List.nil_append, List.cons_append]
      refine wpIn_wide.2 ?_
      go_wp2_with fail
      refine (KS _ (by repeat (first | exact Ext.refl _ | assumption | refine Ext.alloc ?_ _ | refine Ext.drew ?_ | refine Ext.drewN _ ?_ | refine Ext.trans ?_ (by assumption)))).mono ?_
      rintro e w1 ⟨rfl, hx1⟩
      obtain ⟨q0, hx, hzz⟩ := alloc1 hx1
      have d0 : w1.cell? ⟨w.heap.size, 0, none⟩ = _ := q0.cell 0
      have d1 : w1.cell? ⟨w.heap.size, 1, none⟩ = _ := q0.cell 1
      clear hx1
      go_upto_region 5 with (refine wpList_build rfl _ _ rfl (by rfl) ?_)
      refine (KF _ hx).mono ?_
      rintro e w2 ⟨rfl, hy⟩
      replace hx := hx.trans hy
      replace q0 := q0.ext hy
      clear d0 d1 hy KF KS
      go_wp2_with fail
      refine (clone_any _ l _ (hl.ext hx) (by omega)).mono ?_
      rintro e w3 ⟨lv, rfl, hrl, hy⟩
      have hsz2 : w.heap.size < w2.heap.size := q0.lt
      obtain ⟨aL, cL, rfl⟩ := hrl.form
      replace hx := hx.trans hy
      replace q0 := q0.ext hy
      clear hy hzz
      obtain ⟨BL, hBL⟩ : ∃ B, w3.heap.size = B := ⟨_, rfl⟩
      obtain ⟨Y, hY⟩ : ∃ Y, w3.alloc (.cells #[.slice aL l.length cL] 34) = Y := ⟨_, rfl⟩
      have hxY : Ext w3 Y := by rw [← hY]; exact (by repeat (first | exact Ext.refl _ | assumption | refine Ext.alloc ?_ _ | refine Ext.drew ?_ | refine Ext.drewN _ ?_ | refine Ext.trans ?_ (by assumption)))
      have bBL : Cls BL 34 #[.slice aL l.length cL] Y := by rw [← hY]; exact Cls.newAt _ _ _ hBL.symm
      have hol := hrl.lt
      rw [hBL] at hol
      have hoBL : w.heap.size < BL := by have := q0.lt; omega
      replace hx := hx.trans hxY
      replace q0 := q0.ext hxY
      replace hrl := rowI_ext hrl hxY
      have d0 : Y.cell? ⟨w.heap.size, 0, none⟩ = _ := q0.cell 0
      have d1 : Y.cell? ⟨w.heap.size, 1, none⟩ = _ := q0.cell 1
      go_wp2_with fail
      refine (weights_any _ _ T hok _ (hT.ext hx)).mono ?_
      rintro e w4 ⟨rfl, hy⟩
      obtain ⟨f, hf⟩ : ∃ f, wtA T.rs T.ps = f := ⟨_, rfl⟩
      have HF := Lib.hid hf
      rw [hf]
      replace hx := hx.trans hy
      replace q0 := q0.ext hy
      replace hrl := rowI_ext hrl hy
      replace bBL := bBL.ext hy
      clear hY d0 d1 hxY hy hf
      obtain ⟨BA, hBA⟩ : ∃ B, w4.heap.size = B := ⟨_, rfl⟩
      obtain ⟨Z, hZ⟩ : ∃ Z, w4.alloc (.cells (arr (fun _ => 0)) 107) = Z := ⟨_, rfl⟩
      have hxZ : Ext w4 Z := by rw [← hZ]; exact (by repeat (first | exact Ext.refl _ | assumption | refine Ext.alloc ?_ _ | refine Ext.drew ?_ | refine Ext.drewN _ ?_ | refine Ext.trans ?_ (by assumption)))
      have bBA : Cls BA 107 (arr (fun _ => 0)) Z := by rw [← hZ]; exact Cls.newAt _ _ _ hBA.symm
      have hoBA : BL < BA := by have := bBL.lt; omega
      rw [arr_zero] at hZ
      replace hx := hx.trans hxZ
      replace q0 := q0.ext hxZ
      replace hrl := rowI_ext hrl hxZ
      replace bBL := bBL.ext hxZ
      have hm := hok.lr
      have hn24 := hok.lp
      go_upto_region 8 with (refine store_rowC rfl _ _ _ rfl _ (arr f) rfl rfl _ _ bBA (by rw [arr_size]; kernel_rfl) (by rw [arr_size, arr_size]) (arr_one _) ?_; intro w5 hC5 hg5)
      have neL : (Value.slice aL l.length cL).ownBlock = none ∨ (Value.slice aL l.length cL).ownBlock ≠ some BA := by
        cases hv : (Value.slice aL l.length cL).ownBlock with
        | none => exact .inl rfl
        | some g => exact .inr (fun e => by have := (hol g hv).2; have := Option.some.inj e; omega)
      replace hx := hx.grown hg5 (by omega)
      replace q0 := q0.kept hg5 (by intro e; injection e with e; omega)
      replace hrl := rowI_kept hrl hg5 neL
      replace bBL := bBL.kept hg5 (by intro e; injection e with e; omega)
      have d0 : w5.cell? ⟨w.heap.size, 0, none⟩ = _ := q0.cell 0
      have d1 : w5.cell? ⟨w.heap.size, 1, none⟩ = _ := q0.cell 1
      clear hZ hxZ bBA hg5 hBA neL
      obtain ⟨go, hgo⟩ : ∃ B, w5.heap.size = B := ⟨_, rfl⟩
      have hogo : BA < go := by have := hC5.lt; omega
      go_wp2_with (refine wpList_makeS rfl _ _ rfl .i64 .i64 T.rs.length rfl rfl (by omega) ?_; intro w6 hC6 hy6 hlt6; have hyZ : Ext w5 (w6.alloc (.cells #[.slice (some ⟨go, 0, none⟩) T.rs.length T.rs.length] 92)) := hy6.trans (by repeat (first | exact Ext.refl _ | assumption | refine Ext.alloc ?_ _ | refine Ext.drew ?_ | refine Ext.drewN _ ?_ | refine Ext.trans ?_ (by assumption))); have bBO : Cls w6.heap.size 92 #[.slice (some ⟨go, 0, none⟩) T.rs.length T.rs.length] (w6.alloc (.cells #[.slice (some ⟨go, 0, none⟩) T.rs.length T.rs.length] 92)) := Cls.new _ _ _; obtain ⟨Z6, hZ6⟩ : ∃ Z, w6.alloc (.cells #[.slice (some ⟨go, 0, none⟩) T.rs.length T.rs.length] 92) = Z := ⟨_, rfl⟩; obtain ⟨BO, hBO⟩ : ∃ B, w6.heap.size = B := ⟨_, rfl⟩; rw [hZ6] at hyZ bBO; rw [hBO] at bBO hlt6; have d2 : Z6.cell? ⟨w.heap.size, 0, none⟩ = _ := hyZ.cell d0)
      refine (Backward_any ar _ _ _).mono ?_
      rintro e w7 ⟨rfl, hw7⟩
      rw [hgo] at hC6 hlt6
      have bgo := hC6.ext (show Ext w6 Z6 by rw [← hZ6]; exact (by repeat (first | exact Ext.refl _ | assumption | refine Ext.alloc ?_ _ | refine Ext.drew ?_ | refine Ext.drewN _ ?_ | refine Ext.trans ?_ (by assumption))))
      obtain ⟨O, hO⟩ : ∃ O, Z6.heap.size = O := ⟨_, rfl⟩
      have hx7 : Ext Z6 w7 := by rw [← hw7]; exact (by repeat (first | exact Ext.refl _ | assumption | refine Ext.alloc ?_ _ | refine Ext.drew ?_ | refine Ext.drewN _ ?_ | refine Ext.trans ?_ (by assumption)))
      have hbO : Cls O 22 #[.slice ar T.rs.length cr] w7 := by rw [← hw7]; exact Cls.newAt _ _ _ hO.symm
      have hs7 : w7.heap.size = O + 1 := by rw [← hw7, World.size_alloc, hO]
      have hoO : BO < O := by have := bBO.lt; omega
      have hD0 : DV w #[.slice ar T.rs.length cr, .slice ab T.ps.length cb] BL BA BO go T.rs.length (.slice aL l.length cL) f w7 l (fun _ => .slice none 0 0) :=
        ⟨(q0.ext hyZ).ext hx7, (bBL.ext hyZ).ext hx7, (hC5.ext hyZ).ext hx7, bBO.ext hx7, bgo.ext hx7, rowI_base (rowI_ext (rowI_ext hrl hyZ) hx7) (by omega), (hx.trans hyZ).trans hx7⟩
      have hDN : DN w BL BA BO go (.slice aL l.length cL) := ⟨hoBL, hoBA, hogo, hlt6, fun g hg => by have := hol g hg; omega⟩
      try rw [hO]
      clear hZ6 hBO hyZ bBO d2 d0 d1 hgo hC6 hy6 hw7 q0 bBL hC5 hrl hx bgo hx7 hol
      go_wp2_with fail
      refine (wpIn_wide (n := 5)).1 ?_
      have hseq := back_seq O T.rs (by omega) (.slice ar T.rs.length cr) w w7 hD0.ex _ hbO hT.r
      have hbs : ∀ b ∈ [O], b < w7.heap.size := by simp; omega
      have hIb : AbidesBox O (fun (pre : List Nat) W => ∃ hs, DV w #[.slice ar T.rs.length cr, .slice ab T.ps.length cb] BL BA BO go T.rs.length (.slice aL l.length cL) f W (dvF T l pre).1 hs ∧ RWS W T.ps.length O W.heap.size pre (dvF T l pre).2 hs ∧ w7.heap.size ≤ W.heap.size) :=
        ⟨fun s W u ⟨hs, h1, h2, h3⟩ => ⟨hs, h1.other hDN hoO 0 u, by have := h2.off (.inl (Nat.le_refl _)) 0 u; simpa [World.setCell] using this, by simpa [World.setCell] using h3⟩, fun s W o ⟨hs, h1, h2, h3⟩ => ⟨hs, h1.ext (by repeat (first | exact Ext.refl _ | assumption | refine Ext.alloc ?_ _ | refine Ext.drew ?_ | refine Ext.drewN _ ?_ | refine Ext.trans ?_ (by assumption))), (h2.ext (by repeat (first | exact Ext.refl _ | assumption | refine Ext.alloc ?_ _ | refine Ext.drew ?_ | refine Ext.drewN _ ?_ | refine Ext.trans ?_ (by assumption)))).up (by simp), by simp; omega⟩⟩
      have hI0 : OwnFrom w7.heap.size (fun (pre : List Nat) W => ∃ hs, DV w #[.slice ar T.rs.length cr, .slice ab T.ps.length cb] BL BA BO go T.rs.length (.slice aL l.length cL) f W (dvF T l pre).1 hs ∧ RWS W T.ps.length O W.heap.size pre (dvF T l pre).2 hs ∧ w7.heap.size ≤ W.heap.size) :=
        fun s X Y row ⟨hs, h1, h2, h3⟩ hg hr => ⟨hs, h1.grown hg (fun D e => by have := (hr D e).1; have := hD0.ex.size; omega) (fun D e => (hr D e).2), (h2.grown hg (fun D e => (hr D e).2)).up hg.size, Nat.le_trans h3 hg.size⟩
      have hIx : ∀ c : Code, OwnFrom w7.heap.size (fun (_ : List Nat) (_ : World) => False) := fun c => fun _ _ _ _ hs _ _ => hs
      have hn7 : w.heap.size ≤ w7.heap.size := hD0.ex.size
      refine range_own2 (gf := 118) (lb := #[.pointer (some ⟨O, 0, none⟩)]) ?hg ?eg (n₀ := w.heap.size) (bs := [O]) (Br := O) hn7 hbs (by omega)
        hseq ?hps (fun (pre : List Nat) W => ∃ hs, DV w #[.slice ar T.rs.length cr, .slice ab T.ps.length cb] BL BA BO go T.rs.length (.slice aL l.length cL) f W (dvF T l pre).1 hs ∧ RWS W T.ps.length O W.heap.size pre (dvF T l pre).2 hs ∧ w7.heap.size ≤ W.heap.size) _ hI0 hIx hIb ⟨_, hD0, fun r hr => by simp at hr, Nat.le_refl _⟩ (fun x => .cells #[.int .i64 (abv T.rs x), .int .i64 (cst T.rs x)] 78) ?round ?done ?stop
      case hg => rfl
      case eg => exact enters_of Try.func118 (by kernel_rfl) rfl
      case hps => exact fun _ => rfl
      case round =>
        apply Exists.intro
        constructor
        · intro l x W K hK
          dsimp only [encB]
          gi_wp2
          exact hK
        · rintro ll pre i W0 W ⟨hs, hD, hRW, hsz⟩ hpl hbx hB
          obtain ⟨B, hBB⟩ : ∃ B, W0.heap.size = B := ⟨_, rfl⟩
          rw [hBB] at hbx hB ⊢
          clear hBB hseq hIb hI0 hIx hD0
          replace hbx : Cls B 78 #[.int .i64 (abv T.rs i), .int .i64 (cst T.rs i)] W := hbx
          have hnx := bk_next hpl
          have hgt := bk_gt hpl
          have hil : i < T.rs.length := by omega
          have hi24 : i < 24 := by omega
          have hi24i : (i : Int) < 24 := by omega
          have hilm : (i : Int) < (T.rs.length : Int) := by omega
          have hcb := cst_bd hok.rv i
          have hLB := dvF_bd hok HLEN.out HBB.out pre
          have hsn := dvF_snoc T l pre i
          obtain ⟨L0, hL0⟩ : ∃ L, (dvF T l pre).1 = L := ⟨_, rfl⟩
          obtain ⟨RW, hRWe⟩ : ∃ L, (dvF T l pre).2 = L := ⟨_, rfl⟩
          rw [hL0] at hD hLB
          rw [hRWe] at hRW
          have hsn1 : (dvF T l (pre ++ [i])).1 = (dvJ T i L0 T.ps.length).2.1 := by rw [hsn, ← hL0]; rfl
          have hsn2 : (dvF T l (pre ++ [i])).2 = fun k => if k = i then (dvJ T i L0 T.ps.length).2.2 else RW k := by rw [hsn, ← hL0, ← hRWe]; rfl
          have HSN1 := Lib.hid hsn1
          have HSN2 := Lib.hid hsn2
          have HLB := Lib.hid hLB
          have HGT := Lib.hid hgt
          have hdd : dvD T i = if f i = 0 then 0 else cst T.rs i := by rw [← HF.out]; rfl
          obtain ⟨c, hc⟩ : ∃ c, cst T.rs i = c := ⟨_, rfl⟩
          obtain ⟨fi, hfi⟩ : ∃ c, f i = c := ⟨_, rfl⟩
          rw [hc, hfi] at hdd
          rw [hc] at hbx hcb
          have HDD := Lib.hid hdd
          have e0 : W.cell? ⟨BO, 0, none⟩ = some (.slice (some ⟨go, 0, none⟩) T.rs.length T.rs.length) := hD.bo.cell 0
          have e1 : W.cell? ⟨w.heap.size, 1, none⟩ = some (.slice ab T.ps.length cb) := hD.b0.cell 1
          have hoN := hDN.o4
          have hmx : (Try.prog).follows .mixedOrders = true := by kernel_rfl
          clear hsn1 hsn2 hsn hL0 hRWe hLB hgt hnx hdd hc hpl
          gi_wp2
          refine wpIn_round_lastZ [7] (S := fun W' => (W'.cell? ⟨BO, 0, none⟩ = some (.slice (some ⟨go, 0, none⟩) T.rs.length T.rs.length) ∧ W'.cell? ⟨w.heap.size, 1, none⟩ = some (.slice ab T.ps.length cb)) ∧ Ext W W') (by kernel_rfl) (by kernel_rfl) (by rintro ⟨_, _, h⟩; exact h) ?_ (fun hHeld => ?_)
          · exact ⟨⟨e0, e1⟩, Ext.drew (Ext.refl _)⟩
          obtain ⟨WX, hWX⟩ : ∃ V, W.drew = V := ⟨_, rfl⟩
          rw [hWX] at hHeld ⊢
          have hzW : Ext W WX := hHeld.2
          clear hWX
          (refine wpAnyZ_take (i := 0) (v := ?_) rfl (by kernel_rfl) (by kernel_rfl) (by kernel_rfl) (by kernel_rfl) (by kernel_rfl) (fun _ _ _ h => h) (Or.inl ⟨by rfl, ?_⟩) (by assumption) ?_; rotate_left 1; (focus (intro w hSw; (try dsimp only at hSw); go_simp; try (with_reducible rfl))))
          try simp only [Act.put, List.getElem_toArray, List.getElem_cons_zero, List.setIfInBounds_toArray, List.set_cons_zero, List.set_cons_succ]
          (refine wpAnyZ_take (i := 1) (v := ?_) rfl (by kernel_rfl) (by kernel_rfl) (by kernel_rfl) (by kernel_rfl) (by kernel_rfl) (fun _ _ _ h => h) (Or.inl ⟨by rfl, ?_⟩) (by assumption) ?_; rotate_left 1; (focus (intro w hSw; (try dsimp only at hSw); go_simp; try (with_reducible rfl))))
          try simp only [Act.put, List.getElem_toArray, List.getElem_cons_zero, List.getElem_cons_succ, List.setIfInBounds_toArray, List.set_cons_zero, List.set_cons_succ]
          (refine wpAnyZ_take (i := 2) (v := ?_) rfl (by kernel_rfl) (by kernel_rfl) (by kernel_rfl) (by kernel_rfl) (by kernel_rfl) (fun _ _ _ h => h) (Or.inl ⟨by rfl, ?_⟩) (by assumption) ?_; rotate_left 1; (focus (intro w hSw; (try dsimp only at hSw); go_simp; try (with_reducible rfl))))
          try simp only [Act.put, List.getElem_toArray, List.getElem_cons_zero, List.getElem_cons_succ, List.setIfInBounds_toArray, List.set_cons_zero, List.set_cons_succ]
          (refine wpAnyZ_take (i := 3) (v := ?_) rfl (by kernel_rfl) (by kernel_rfl) (by kernel_rfl) (by kernel_rfl) (by kernel_rfl) (fun _ _ _ h => h) (Or.inl ⟨by rfl, ?_⟩) (by assumption) ?_; rotate_left 1; (focus (intro w hSw; (try dsimp only at hSw); go_simp; try (with_reducible rfl))))
          try simp only [Act.put, List.getElem_toArray, List.getElem_cons_zero, List.getElem_cons_succ, List.setIfInBounds_toArray, List.set_cons_zero, List.set_cons_succ]
          (refine wpAnyZ_take (i := 4) (v := ?_) rfl (by kernel_rfl) (by kernel_rfl) (by kernel_rfl) (by kernel_rfl) (by kernel_rfl) (fun _ _ _ h => h) (Or.inl ⟨by rfl, ?_⟩) (by assumption) ?_; rotate_left 1; (focus (intro w hSw; (try dsimp only at hSw); go_simp; try (with_reducible rfl))))
          try simp only [Act.put, List.getElem_toArray, List.getElem_cons_zero, List.getElem_cons_succ, List.setIfInBounds_toArray, List.set_cons_zero, List.set_cons_succ]
          refine wpAnyZ_one (i := 5) (by kernel_rfl) rfl (fun K hK => ?_)
          rw [if_pos (by rfl)]
          refine oper_makeI _ _ rfl .i64 .i64 T.ps.length rfl rfl (by omega) (fun V hC hzV hltV => ?_)
          refine hK.out _ _ (fun _ => ?_) (fun hHeld => ?_)
          · exact ⟨⟨hzV.cell hHeld.1.1, hzV.cell hHeld.1.2⟩, hHeld.2.trans hzV⟩
          replace hHeld := hHeld (by decide)
          clear hK K
          try simp only [Act.put, List.getElem_toArray, List.getElem_cons_zero, List.getElem_cons_succ, List.setIfInBounds_toArray, List.set_cons_zero, List.set_cons_succ]
          (refine wpAnyZ_take (i := 6) (v := ?_) rfl (by kernel_rfl) (by kernel_rfl) (by kernel_rfl) (by kernel_rfl) (by kernel_rfl) (fun _ _ _ h => h) (Or.inl ⟨by rfl, ?_⟩) (by assumption) ?_; rotate_left 1; (focus (intro w hSw; (try dsimp only at hSw); go_simp; try (with_reducible rfl))))
          try simp only [Act.put, List.getElem_toArray, List.getElem_cons_zero, List.getElem_cons_succ, List.setIfInBounds_toArray, List.set_cons_zero, List.set_cons_succ]
          refine wpAnyZ_one (i := 7) (by kernel_rfl) rfl (fun K hK => ?_)
          have hDV := hD.ext (hzW.trans hzV)
          have k1 : V.cell? ⟨go, i, none⟩ = some (hs i) := (hDV.bg.cell i).trans (hdrs_get hs hil)
          have k2 := hDV.bg.frozen i
          go_simp
          refine hK.out _ _ (fun h => absurd h (by decide)) (fun _ => ?_)
          clear hK K
          try simp only [Act.put, List.getElem_toArray, List.getElem_cons_zero, List.getElem_cons_succ, List.setIfInBounds_toArray, List.set_cons_zero, List.set_cons_succ]
          refine wpAnyZ_done (by kernel_rfl) ?_ _
          have hzz := hzW.trans hzV
          have hgo4 : go < W.heap.size := hD.bg.lt
          have hBO4 : BO < W.heap.size := hD.bo.lt
          obtain ⟨gr, hgr⟩ : ∃ g, WX.heap.size = g := ⟨_, rfl⟩
          have hgrW : W.heap.size ≤ gr := by rw [← hgr]; exact hzW.size
          rw [hgr] at hC hltV ⊢
          have hD1 := hDV.setHdr hDN i (.slice (some ⟨gr, 0, none⟩) T.ps.length T.ps.length)
          have hC1 := hC.other (B' := go) (by omega) i (.slice (some ⟨gr, 0, none⟩) T.ps.length T.ps.length)
          have hbx1 := (hbx.ext hzz).other (B' := go) (by omega) i (.slice (some ⟨gr, 0, none⟩) T.ps.length T.ps.length)
          have hRW1 := ((hRW.ext hzz).up hgrW).off (b := go) (.inl (by omega)) i (.slice (some ⟨gr, 0, none⟩) T.ps.length T.ps.length)
          have hKO : KeepsOthers W (V.setCell ⟨go, i, none⟩ (.slice (some ⟨gr, 0, none⟩) T.ps.length T.ps.length)) := (ext_keeps hzz).trans (KeepsOthers.setCell _ _ _)
          have hKp : KpB w.heap.size [O] W (V.setCell ⟨go, i, none⟩ (.slice (some ⟨gr, 0, none⟩) T.ps.length T.ps.length)) := KpB.trans (KpB.ext hzz hD.ex.size (by simp; omega)) (KpB.set V (p := ⟨go, i, none⟩) (by simp; have := hDN.o1; have := hDN.o2; have := hDN.o3; omega) (by simp; omega) _)
          have hszV : w7.heap.size ≤ (V.setCell ⟨go, i, none⟩ (.slice (some ⟨gr, 0, none⟩) T.ps.length T.ps.length)).heap.size := Nat.le_trans hsz hKO.size
          have hgrV : gr < (V.setCell ⟨go, i, none⟩ (.slice (some ⟨gr, 0, none⟩) T.ps.length T.ps.length)).heap.size := hC1.lt
          obtain ⟨V1, hV1⟩ : ∃ X, V.setCell ⟨go, i, none⟩ (.slice (some ⟨gr, 0, none⟩) T.ps.length T.ps.length) = X := ⟨_, rfl⟩
          rw [hV1] at hD1 hC1 hbx1 hRW1 hKO hKp hszV hgrV ⊢
          obtain ⟨hs2, hhs2⟩ : ∃ h : Nat → Value, (fun r => if r = i then .slice (some ⟨gr, 0, none⟩) T.ps.length T.ps.length else hs r) = h := ⟨_, rfl⟩
          rw [hhs2] at hD1
          have hsi : hs2 i = .slice (some ⟨gr, 0, none⟩) T.ps.length T.ps.length := by rw [← hhs2]; simp
          have hRW2 : RWS V1 T.ps.length O gr pre RW hs2 := fun r hr => by
            obtain ⟨g, h1, h2, h3, h4⟩ := hRW1 r hr
            have := HGT.out r hr
            exact ⟨g, by rw [← hhs2]; simp only; rw [if_neg (by omega)]; exact h1, h2, h3, h4⟩
          have HJ0 := Lib.hid (show DV w #[.slice ar T.rs.length cr, .slice ab T.ps.length cb] BL BA BO go T.rs.length (.slice aL l.length cL) f V1 (dvJ T i L0 0).2.1 hs2 ∧ RWS V1 T.ps.length O gr pre RW hs2 ∧ Cls gr 3 (cellsI (dvJ T i L0 0).2.2).toArray V1 ∧ KeepsOthers W V1 ∧ KpB w.heap.size [O] W V1 ∧ w7.heap.size ≤ V1.heap.size from ⟨hD1, hRW2, hC1, hKO, hKp, hszV⟩)
          have r1 : V1.cell? ⟨B, 1, none⟩ = some (.int .i64 c) := hbx1.cell 1
          have r2 : V1.cell? ⟨BA, i, none⟩ = some (.int .i64 fi) := by rw [← hfi]; exact arr_cell hD1.ba hi24
          have r3 : V1.cell? ⟨w.heap.size, 1, none⟩ = some (.slice ab T.ps.length cb) := hD1.b0.cell 1
          have HSI := Lib.hid hsi
          clear hV1 hhs2 hsi hRW1 hRW2 hKO hKp hszV hD1 hC1 hbx1 hC hDV hHeld hzV hltV hgr hzz hzW hD hRW e0 e1 hbx
          cases hq : (fi == 0)
          all_goals
            have hd0 : dvD T i = (if (fi == 0) = true then 0 else c) := by rw [HDD.out]; simp
            rw [hq] at hd0
            first | rw [if_pos rfl] at hd0 | rw [if_neg (by decide)] at hd0
            gi_wp2_with fail
            gi_loopw [12, 56] (fun du k wr => ∃ j : Nat, j ≤ T.ps.length ∧ k = .int .i64 j ∧ du = .int .i64 (dvJ T i L0 j).1 ∧ Hid (DV w #[.slice ar T.rs.length cr, .slice ab T.ps.length cb] BL BA BO go T.rs.length (.slice aL l.length cL) f wr (dvJ T i L0 j).2.1 hs2 ∧ RWS wr T.ps.length O gr pre RW hs2 ∧ Cls gr 3 (cellsI (dvJ T i L0 j).2.2).toArray wr ∧ KeepsOthers W wr ∧ KpB w.heap.size [O] W wr ∧ w7.heap.size ≤ wr.heap.size)) (fun _ k _ => T.ps.length - (intOf k).toNat)
            case atStart => exact ⟨0, Nat.zero_le _, rfl, vint hd0.symm, HJ0⟩
            case round =>
              clear HJ0 r1 r2 r3
              obtain ⟨j, hj, rfl, rfl, HJ⟩ := hrel
              obtain ⟨hD, hRW, hCR, hKO, hKp, hszw⟩ := HJ.out
              by_cases hlt : j < T.ps.length
              · have hV := djV_at hok i HLB.out.1 HLB.out.2 j hj
                have hst := dvJ_succ T i L0 j
                obtain ⟨s, hs0⟩ : ∃ s, dvJ T i L0 j = s := ⟨_, rfl⟩
                rw [hs0] at hst hV hD hCR ⊢
                obtain ⟨d, L, R⟩ := s
                dsimp only at hD hCR ⊢
                obtain ⟨bb, oo, rfl, c0, c1, c2⟩ := (hT.p.ext hD.ex).get j hlt
                have hpv := hok.pv _ (List.getElem_mem hlt)
                have hgd : T.ps.getD j ⟨0, 0, 0⟩ = ⟨T.ps[j].id, T.ps[j].reach, T.ps[j].w⟩ := by rw [List.getD_eq_getElem?_getD, List.getElem?_eq_getElem hlt]; rfl
                obtain ⟨x, hx⟩ : ∃ x, T.ps[j].id = x := ⟨_, rfl⟩
                obtain ⟨y, hy⟩ : ∃ x, T.ps[j].reach = x := ⟨_, rfl⟩
                obtain ⟨z, hz⟩ : ∃ x, T.ps[j].w = x := ⟨_, rfl⟩
                rw [hx] at c0 hgd
                rw [hy] at c1 hgd hpv
                rw [hz] at c2 hgd hpv
                have hLj : L.length = l.length := hV.l.trans HLEN.out.symm
                have hLj2 : j < L.length := by rw [hV.l]; exact hlt
                have hjr : j < R.length := by rw [hV.r]; exact hlt
                obtain ⟨gl, rfl, hgl0, hgl1, hglc⟩ := hD.rl.opened hLj (by have := HLEN.out; omega)
                have hgl2 := (hDN.ol gl rfl).2
                have hlj := hD.rl.cell hLj hLj2
                have hljb := hV.b _ (List.getElem_mem hLj2)
                have hgL : L.getD j 0 = L[j] := by rw [List.getD_eq_getElem?_getD, List.getElem?_eq_getElem hLj2]; rfl
                obtain ⟨lj, hljj⟩ : ∃ x, L[j] = x := ⟨_, rfl⟩
                have hLjv := hljj
                rw [hljj] at hlj hljb hgL
                have hdv : dvS T i (d, L, R) j = if usB T.rs y i = true then (d - min d lj, L.set j (lj - min d lj), R.set j (min d lj)) else (d, L, R) := by
                  unfold dvS
                  dsimp only
                  rw [hgd, hgL]
                have hdb := hV.d
                dsimp only at hdb
                obtain ⟨q, hq2⟩ : ∃ q, min d lj = q := ⟨_, rfl⟩
                have hqb : 0 ≤ q ∧ q ≤ d ∧ q ≤ lj := by omega
                rw [hdv, hq2] at hst
                obtain ⟨u, hu⟩ : ∃ u, usB T.rs y i = u := ⟨_, rfl⟩
                have KU := fun W (h : Ext w W) => uses_any _ _ T hok.rv x y z (i : Int) W (hT.ext h) (by have := hpv.2.1.1; omega) hpv.2.1.2
                rw [hu] at hst KU
                have HST := Lib.hid hst
                have HKU := Lib.hid KU
                have hw1 : IntKind.i64.wrap (lj - q) = lj - q := IntWalk.i64_in _ (by omega)
                have hw2 : IntKind.i64.wrap (d - q) = d - q := IntWalk.i64_in _ (by omega)
                have hjL : (j : Int) < (l.length : Int) := by have := HLEN.out; omega
                have hjN : (j : Int) < (T.ps.length : Int) := by omega
                have hwn0 := hD.ex.size
                obtain ⟨N, hN⟩ : ∃ N, wr.heap.size = N := ⟨_, rfl⟩
                obtain ⟨Y, hY⟩ : ∃ Y, wr.alloc (.cells #[.int .i64 x, .int .i64 y, .int .i64 z] 45) = Y := ⟨_, rfl⟩
                have hxY : Ext wr Y := by rw [← hY]; exact (by repeat (first | exact Ext.refl _ | assumption | refine Ext.alloc ?_ _ | refine Ext.drew ?_ | refine Ext.drewN _ ?_ | refine Ext.trans ?_ (by assumption)))
                have bY : Cls N 45 #[.int .i64 x, .int .i64 y, .int .i64 z] Y := by rw [← hY]; exact Cls.newAt _ _ _ hN.symm
                have hDY := hD.ext hxY
                have e0 : Y.cell? ⟨w.heap.size, 0, none⟩ = some (.slice ar T.rs.length cr) := hDY.b0.cell 0
                have e1 : Y.cell? ⟨w.heap.size, 1, none⟩ = some (.slice (some ⟨bb, oo, none⟩) T.ps.length cb) := hDY.b0.cell 1
                have p0 : Y.cell? ⟨N, 0, none⟩ = some (.int .i64 x) := bY.cell 0
                have p1 : Y.cell? ⟨N, 1, none⟩ = some (.int .i64 y) := bY.cell 1
                have p2 : Y.cell? ⟨N, 2, none⟩ = some (.int .i64 z) := bY.cell 2
                clear hst hV hs0 hgd hx hy hz hljj hdv hgL hu KU hpv hdb hljb hqb HJ
                gi_wp2_with fail
                refine ⟨trivial, (CallsIn.inRound ll (callsIn_wide.2 (HKU.out _ hDY.ex))).mono ?_⟩
                rintro e w6 ⟨rfl, hz⟩
                have hz6 := hxY.trans hz
                have hOw : O < wr.heap.size := by omega
                have hD6 := hD.ext hz6
                have hRW6 := hRW.ext hz6
                have hCR6 := hCR.ext hz6
                have hKO6 := hKO.trans (ext_keeps hz6)
                have hKp6 := hKp.trans (KpB.ext (n₀ := w.heap.size) (bs := [O]) hz6 hwn0 (by simp; exact hOw))
                have hsz6 : w7.heap.size ≤ w6.heap.size := Nat.le_trans hszw hz6.size
                have hgrO : O < gr := by omega
                clear hY p0 p1 p2 e0 e1 bY hz hxY hz6 hDY hD hRW hCR hKO hKp hN
                cases u
                · have hst := HST.out
                  rw [if_neg (by decide)] at hst
                  have HS2 := Lib.hid hst
                  clear hst
                  gi_wp2_with fail
                  go_roundw
                  case rel => exact ⟨j + 1, by omega, by go_num, by rw [HS2.out], Lib.hid (by rw [HS2.out]; exact ⟨hD6, hRW6, hCR6, hKO6, hKp6, hsz6⟩)⟩
                  case measure => simp [intOf]; omega
                · have hst := HST.out
                  rw [if_pos rfl] at hst
                  have HS2 := Lib.hid hst
                  have g1 : w6.cell? ⟨BL, 0, none⟩ = some (.slice (some ⟨gl, 0, none⟩) l.length cL) := hD6.bl.cell 0
                  have g2 := hD6.rl.cell hLj hLj2
                  have g2' : w6.cell? ⟨gl, j, none⟩ = some (.int .i64 lj) := by rw [g2, hLjv]
                  have g3 : w6.cell? ⟨BO, 0, none⟩ = some (.slice (some ⟨go, 0, none⟩) T.rs.length T.rs.length) := hD6.bo.cell 0
                  have g4 : w6.cell? ⟨go, i, none⟩ = some (.slice (some ⟨gr, 0, none⟩) T.ps.length T.ps.length) := (hD6.bg.cell i).trans ((hdrs_get hs2 hil).trans (by rw [HSI.out]))
                  clear hst g2
                  gi_wp2
                  refine wpIn_round_lastZ [20, 21] (S := fun W' => (W'.cell? ⟨BO, 0, none⟩ = some (.slice (some ⟨go, 0, none⟩) T.rs.length T.rs.length) ∧ W'.cell? ⟨go, i, none⟩ = some (.slice (some ⟨gr, 0, none⟩) T.ps.length T.ps.length)) ∧ W'.cell? ⟨BL, 0, none⟩ = some (.slice (some ⟨gl, 0, none⟩) l.length cL) ∧ W'.cell? ⟨gl, j, none⟩ = some (.int .i64 lj)) (by kernel_rfl) (by kernel_rfl) (by rintro ⟨_, _, h⟩; exact h) ?_ (fun hHeld => ?_)
                  · exact ⟨⟨g3, g4⟩, g1, g2'⟩
                  obtain ⟨V, hVV⟩ : ∃ V, w6.drew = V := ⟨_, rfl⟩
                  have hzV : Ext w6 V := by rw [← hVV]; exact (by repeat (first | exact Ext.refl _ | assumption | refine Ext.alloc ?_ _ | refine Ext.drew ?_ | refine Ext.drewN _ ?_ | refine Ext.trans ?_ (by assumption)))
                  have hKV : KeepsOthers w6 V := by rw [← hVV]; exact KeepsOthers.drew _
                  rw [hVV] at hHeld ⊢
                  clear hVV g1 g2' g3 g4
                  (refine wpAnyZ_take (i := 0) (v := ?_) rfl (by kernel_rfl) (by kernel_rfl) (by kernel_rfl) (by kernel_rfl) (by kernel_rfl) (fun _ _ _ h => h) (Or.inl ⟨by rfl, ?_⟩) (by assumption) ?_; rotate_left 1; (focus (intro w hSw; (try dsimp only at hSw); go_simp; try (with_reducible rfl))))
                  try simp only [Act.put, List.getElem_toArray, List.getElem_cons_zero, List.setIfInBounds_toArray, List.set_cons_zero, List.set_cons_succ]
                  (refine wpAnyZ_take (i := 1) (v := ?_) rfl (by kernel_rfl) (by kernel_rfl) (by kernel_rfl) (by kernel_rfl) (by kernel_rfl) (fun _ _ _ h => h) (Or.inl ⟨by rfl, ?_⟩) (by assumption) ?_; rotate_left 1; (focus (intro w hSw; (try dsimp only at hSw); go_simp; try (with_reducible rfl))))
                  try simp only [Act.put, List.getElem_toArray, List.getElem_cons_zero, List.getElem_cons_succ, List.setIfInBounds_toArray, List.set_cons_zero, List.set_cons_succ]
                  (refine wpAnyZ_take (i := 2) (v := ?_) rfl (by kernel_rfl) (by kernel_rfl) (by kernel_rfl) (by kernel_rfl) (by kernel_rfl) (fun _ _ _ h => h) (Or.inl ⟨by rfl, ?_⟩) (by assumption) ?_; rotate_left 1; (focus (intro w hSw; (try dsimp only at hSw); go_simp; try (with_reducible rfl))))
                  try simp only [Act.put, List.getElem_toArray, List.getElem_cons_zero, List.getElem_cons_succ, List.setIfInBounds_toArray, List.set_cons_zero, List.set_cons_succ]
                  (refine wpAnyZ_take (i := 3) (v := ?_) rfl (by kernel_rfl) (by kernel_rfl) (by kernel_rfl) (by kernel_rfl) (by kernel_rfl) (fun _ _ _ h => h) (Or.inl ⟨by rfl, ?_⟩) (by assumption) ?_; rotate_left 1; (focus (intro w hSw; (try dsimp only at hSw); go_simp; try (with_reducible rfl))))
                  try simp only [Act.put, List.getElem_toArray, List.getElem_cons_zero, List.getElem_cons_succ, List.setIfInBounds_toArray, List.set_cons_zero, List.set_cons_succ]
                  (refine wpAnyZ_take (i := 4) (v := ?_) rfl (by kernel_rfl) (by kernel_rfl) (by kernel_rfl) (by kernel_rfl) (by kernel_rfl) (fun _ _ _ h => h) (Or.inl ⟨by rfl, ?_⟩) (by assumption) ?_; rotate_left 1; (focus (intro w hSw; (try dsimp only at hSw); go_simp; try (with_reducible rfl))))
                  try simp only [Act.put, List.getElem_toArray, List.getElem_cons_zero, List.getElem_cons_succ, List.setIfInBounds_toArray, List.set_cons_zero, List.set_cons_succ]
                  (refine wpAnyZ_take (i := 5) (v := ?_) rfl (by kernel_rfl) (by kernel_rfl) (by kernel_rfl) (by kernel_rfl) (by kernel_rfl) (fun _ _ _ h => h) (Or.inl ⟨by rfl, ?_⟩) (by assumption) ?_; rotate_left 1; (focus (intro w hSw; (try dsimp only at hSw); go_simp; try (with_reducible rfl))))
                  try simp only [Act.put, List.getElem_toArray, List.getElem_cons_zero, List.getElem_cons_succ, List.setIfInBounds_toArray, List.set_cons_zero, List.set_cons_succ]
                  (refine wpAnyZ_take (i := 6) (v := ?_) rfl (by kernel_rfl) (by kernel_rfl) (by kernel_rfl) (by kernel_rfl) (by kernel_rfl) (fun _ _ _ h => h) (Or.inl ⟨by rfl, ?_⟩) (by assumption) ?_; rotate_left 1; (focus (intro w hSw; (try dsimp only at hSw); go_simp; try (with_reducible rfl))))
                  try simp only [Act.put, List.getElem_toArray, List.getElem_cons_zero, List.getElem_cons_succ, List.setIfInBounds_toArray, List.set_cons_zero, List.set_cons_succ]
                  (refine wpAnyZ_take (i := 7) (v := ?_) rfl (by kernel_rfl) (by kernel_rfl) (by kernel_rfl) (by kernel_rfl) (by kernel_rfl) (fun _ _ _ h => h) (Or.inl ⟨by rfl, ?_⟩) (by assumption) ?_; rotate_left 1; (focus (intro w hSw; (try dsimp only at hSw); go_simp; try (with_reducible rfl))))
                  try simp only [Act.put, List.getElem_toArray, List.getElem_cons_zero, List.getElem_cons_succ, List.setIfInBounds_toArray, List.set_cons_zero, List.set_cons_succ]
                  (refine wpAnyZ_take (i := 8) (v := ?_) rfl (by kernel_rfl) (by kernel_rfl) (by kernel_rfl) (by kernel_rfl) (by kernel_rfl) (fun _ _ _ h => h) (Or.inl ⟨by rfl, ?_⟩) (by assumption) ?_; rotate_left 1; (focus (intro w hSw; (try dsimp only at hSw); go_simp; try (with_reducible rfl))))
                  try simp only [Act.put, List.getElem_toArray, List.getElem_cons_zero, List.getElem_cons_succ, List.setIfInBounds_toArray, List.set_cons_zero, List.set_cons_succ]
                  (refine wpAnyZ_take (i := 9) (v := ?_) rfl (by kernel_rfl) (by kernel_rfl) (by kernel_rfl) (by kernel_rfl) (by kernel_rfl) (fun _ _ _ h => h) (Or.inl ⟨by rfl, ?_⟩) (by assumption) ?_; rotate_left 1; (focus (intro w hSw; (try dsimp only at hSw); go_simp; try (with_reducible rfl))))
                  try simp only [Act.put, List.getElem_toArray, List.getElem_cons_zero, List.getElem_cons_succ, List.setIfInBounds_toArray, List.set_cons_zero, List.set_cons_succ]
                  (refine wpAnyZ_take (i := 10) (v := ?_) rfl (by kernel_rfl) (by kernel_rfl) (by kernel_rfl) (by kernel_rfl) (by kernel_rfl) (fun _ _ _ h => h) (Or.inl ⟨by rfl, ?_⟩) (by assumption) ?_; rotate_left 1; (focus (intro w hSw; (try dsimp only at hSw); go_simp; try (with_reducible rfl))))
                  try simp only [Act.put, List.getElem_toArray, List.getElem_cons_zero, List.getElem_cons_succ, List.setIfInBounds_toArray, List.set_cons_zero, List.set_cons_succ]
                  (refine wpAnyZ_take (i := 11) (v := ?_) rfl (by kernel_rfl) (by kernel_rfl) (by kernel_rfl) (by kernel_rfl) (by kernel_rfl) (fun _ _ _ h => h) (Or.inl ⟨by rfl, ?_⟩) (by assumption) ?_; rotate_left 1; (focus (intro w hSw; (try dsimp only at hSw); go_simp; try (with_reducible rfl))))
                  try simp only [Act.put, List.getElem_toArray, List.getElem_cons_zero, List.getElem_cons_succ, List.setIfInBounds_toArray, List.set_cons_zero, List.set_cons_succ]
                  (refine wpAnyZ_take (i := 12) (v := ?_) rfl (by kernel_rfl) (by kernel_rfl) (by kernel_rfl) (by kernel_rfl) (by kernel_rfl) (fun _ _ _ h => h) (Or.inl ⟨by rfl, ?_⟩) (by assumption) ?_; rotate_left 1; (focus (intro w hSw; (try dsimp only at hSw); go_simp; try (with_reducible rfl))))
                  try simp only [Act.put, List.getElem_toArray, List.getElem_cons_zero, List.getElem_cons_succ, List.setIfInBounds_toArray, List.set_cons_zero, List.set_cons_succ]
                  (refine wpAnyZ_take (i := 13) (v := ?_) rfl (by kernel_rfl) (by kernel_rfl) (by kernel_rfl) (by kernel_rfl) (by kernel_rfl) (fun _ _ _ h => h) (Or.inl ⟨by rfl, ?_⟩) (by assumption) ?_; rotate_left 1; (focus (intro w hSw; (try dsimp only at hSw); go_simp; try (with_reducible rfl))))
                  try simp only [Act.put, List.getElem_toArray, List.getElem_cons_zero, List.getElem_cons_succ, List.setIfInBounds_toArray, List.set_cons_zero, List.set_cons_succ]
                  (refine wpAnyZ_pure (i := 14) (v := ?_) rfl (by kernel_rfl) (by kernel_rfl) (by kernel_rfl) (by decide) (fun _ _ _ h => h) (Or.inl ⟨by rfl, ?_⟩) (by assumption) ?_; rotate_left 1; (focus (intro w hSw; (try dsimp only at hSw); go_simp; try (with_reducible rfl))))
                  try simp only [Act.put, List.getElem_toArray, List.getElem_cons_zero, List.getElem_cons_succ, List.setIfInBounds_toArray, List.set_cons_zero, List.set_cons_succ]
                  (refine wpAnyZ_pure (i := 15) (v := ?_) rfl (by kernel_rfl) (by kernel_rfl) (by kernel_rfl) (by decide) (fun _ _ _ h => h) (Or.inl ⟨by rfl, ?_⟩) (by assumption) ?_; rotate_left 1; (focus (intro w hSw; (try dsimp only at hSw); go_simp; try (with_reducible rfl))))
                  try simp only [Act.put, List.getElem_toArray, List.getElem_cons_zero, List.getElem_cons_succ, List.setIfInBounds_toArray, List.set_cons_zero, List.set_cons_succ]
                  (refine wpAnyZ_pure (i := 16) (v := ?_) rfl (by kernel_rfl) (by kernel_rfl) (by kernel_rfl) (by decide) (fun _ _ _ h => h) (Or.inl ⟨by rfl, ?_⟩) (by assumption) ?_; rotate_left 1; (focus (intro w hSw; (try dsimp only at hSw); go_simp; try (with_reducible rfl))))
                  try simp only [Act.put, List.getElem_toArray, List.getElem_cons_zero, List.getElem_cons_succ, List.setIfInBounds_toArray, List.set_cons_zero, List.set_cons_succ]
                  (refine wpAnyZ_take (i := 17) (v := ?_) rfl (by kernel_rfl) (by kernel_rfl) (by kernel_rfl) (by kernel_rfl) (by kernel_rfl) (fun _ _ _ h => h) (Or.inl ⟨by rfl, ?_⟩) (by assumption) ?_; rotate_left 1; (focus (intro w hSw; (try dsimp only at hSw); go_simp; try (with_reducible rfl))))
                  try simp only [Act.put, List.getElem_toArray, List.getElem_cons_zero, List.getElem_cons_succ, List.setIfInBounds_toArray, List.set_cons_zero, List.set_cons_succ]
                  refine wpAnyZ_one (i := 18) (by kernel_rfl) rfl (fun K hK => ?_)
                  have k1 : V.cell? ⟨gr, j, none⟩ = some (.int .i64 R[j]) := cls_cell (hCR6.ext hzV) hjr
                  have k2 := (hCR6.ext hzV).frozen j
                  go_simp
                  refine hK.out _ _ (fun _ => ?_) (fun hHeld => ?_)
                  · exact ⟨⟨cell_other hHeld.1.1 (by omega), cell_other hHeld.1.2 (by omega)⟩, cell_other hHeld.2.1 (by omega), cell_other hHeld.2.2 (by omega)⟩
                  replace hHeld := hHeld (by decide)
                  clear hK K
                  try simp only [Act.put, List.getElem_toArray, List.getElem_cons_zero, List.getElem_cons_succ, List.setIfInBounds_toArray, List.set_cons_zero, List.set_cons_succ]
                  (refine wpAnyZ_take (i := 19) (v := ?_) rfl (by kernel_rfl) (by kernel_rfl) (by kernel_rfl) (by kernel_rfl) (by kernel_rfl) (fun _ _ _ h => h) (Or.inl ⟨by rfl, ?_⟩) (by assumption) ?_; rotate_left 1; (focus (intro w hSw; (try dsimp only at hSw); go_simp; try (with_reducible rfl))))
                  try simp only [Act.put, List.getElem_toArray, List.getElem_cons_zero, List.getElem_cons_succ, List.setIfInBounds_toArray, List.set_cons_zero, List.set_cons_succ]
                  refine wpAnyZ_one (i := 20) (by kernel_rfl) rfl (fun K hK => ?_)
                  have k3 : (V.setCell ⟨gr, j, none⟩ (.int .i64 q)).cell? ⟨gl, j, none⟩ = some (.int .i64 lj) := hHeld.2.2
                  have k4 : (V.setCell ⟨gr, j, none⟩ (.int .i64 q)).frozen? ⟨gl, j, none⟩ = false := ((hD6.ext hzV).other hDN (by omega) j _).rl.frozen hLj j
                  go_simp
                  refine hK.out _ _ (fun h => absurd h (by decide)) (fun _ => ?_)
                  clear hK K
                  try simp only [Act.put, List.getElem_toArray, List.getElem_cons_zero, List.getElem_cons_succ, List.setIfInBounds_toArray, List.set_cons_zero, List.set_cons_succ]
                  refine wpAnyZ_one (i := 21) (by kernel_rfl) rfl (fun K hK => ?_)
                  go_simp
                  refine hK.out _ _ (fun h => absurd h (by decide)) (fun _ => ?_)
                  clear hK K
                  try simp only [Act.put, List.getElem_toArray, List.getElem_cons_zero, List.getElem_cons_succ, List.setIfInBounds_toArray, List.set_cons_zero, List.set_cons_succ]
                  refine wpAnyZ_done (by kernel_rfl) ?_ _
                  have hD8 := ((hD6.ext hzV).other hDN (b := gr) (by omega) j (.int .i64 q)).setLeft hDN hLj j (lj - q)
                  have hC8 : Cls gr 3 (cellsI (R.set j q)).toArray ((V.setCell ⟨gr, j, none⟩ (.int .i64 q)).setCell ⟨gl, j, none⟩ (.int .i64 (lj - q))) := by
                    have h := ((hCR6.ext hzV).set j (.int .i64 q)).other (B' := gl) (by omega) j (.int .i64 (lj - q))
                    rwa [cellsI_set] at h
                  have hR8 := ((hRW6.ext hzV).off (b := gr) (.inr (Nat.le_refl _)) j (.int .i64 q)).off (b := gl) (.inl (by omega)) j (.int .i64 (lj - q))
                  have hK8 := hKO6.trans (hKV.trans ((KeepsOthers.setCell V ⟨gr, j, none⟩ (.int .i64 q)).trans (KeepsOthers.setCell _ ⟨gl, j, none⟩ (.int .i64 (lj - q)))))
                  have hP8 := hKp6.trans ((KpB.ext (n₀ := w.heap.size) (bs := [O]) hzV (by omega) (by simp; omega)).trans ((KpB.set V (p := ⟨gr, j, none⟩) (by simp; omega) (by simp; omega) (.int .i64 q)).trans (KpB.set _ (p := ⟨gl, j, none⟩) (by simp; omega) (by simp; omega) (.int .i64 (lj - q)))))
                  have hs8 : w7.heap.size ≤ ((V.setCell ⟨gr, j, none⟩ (.int .i64 q)).setCell ⟨gl, j, none⟩ (.int .i64 (lj - q))).heap.size := Nat.le_trans hsz hK8.size
                  clear hHeld hmx
                  gi_wp2
                  go_roundw
                  case rel => exact ⟨j + 1, by omega, by go_num, by rw [HS2.out], Lib.hid (by rw [HS2.out]; exact ⟨hD8, hR8, hC8, hK8, hP8, hs8⟩)⟩
                  case measure => simp [intOf]; omega
              · obtain rfl : j = T.ps.length := by omega
                have hVn := djV_at hok i HLB.out.1 HLB.out.2 T.ps.length (Nat.le_refl _)
                have hgw := hCR.lt
                gi_wp2
                refine ⟨hKO.from _, hKp, hs2, by rw [HSN1.out]; exact hD, ?_, by omega⟩
                rw [HSN2.out]
                intro r hr
                rcases List.mem_append.1 hr with hr | hr
                · have := HGT.out r hr
                  simp only
                  rw [if_neg (by omega)]
                  exact hRW.up (by omega) r hr
                · obtain rfl := List.mem_singleton.1 hr
                  simp only [if_true]
                  exact ⟨gr, HSI.out, by omega, hCR, hVn.r⟩
      case done =>
        rintro D5 xs W5 hD5 rfl ⟨hs, hD, hRW, hsz⟩ hK
        have e0 : W5.cell? ⟨BO, 0, none⟩ = some (.slice (some ⟨go, 0, none⟩) T.rs.length T.rs.length) := hD.bo.cell 0
        have hDx := hD.grown (grownBy_putObj' W5 D5 (.deferred none)) (fun D e => by have := Option.some.inj e; omega) (fun D e => by obtain rfl := Option.some.inj e; exact ⟨_, hK, rfl⟩)
        have hRx := hRW.grown (grownBy_putObj' W5 D5 (.deferred none)) (fun D e => by obtain rfl := Option.some.inj e; exact ⟨_, hK, rfl⟩)
        have hat : RowsAt (W5.putObj D5 (.deferred none)) (.slice (some ⟨go, 0, none⟩) T.rs.length T.rs.length) X := by
          rw [HX3.out]
          have hml : (dvM T l).length = T.rs.length := by simp [dvM]
          refine ⟨_, T.rs.length, by rw [hml], by rw [hml]; exact Nat.le_refl _, fun r hr => ?_⟩
          rw [hml] at hr
          obtain ⟨g, h1, _, h3, h4⟩ := hRx r (bk_mem hr)
          refine ⟨go, 0, hs r, rfl, ?_, ?_⟩
          · rw [Nat.zero_add]
            exact (hDx.bg.cell r).trans (hdrs_get hs hr)
          · have hv : (dvM T l)[r] = (dvF T l (bk T.rs.length)).2 r := by simp [dvM]
            rw [hv, h1]
            exact cls_ints h3 h4
        have hex := hDx.ex
        clear hDx hRx hD hRW
        gi_wp2
        go_wp2
        gi_wp2
        refine ⟨by simp, .inl ⟨_, _, rfl, run_takeDeferred hK, ?_⟩⟩
        exact ⟨.tuple #[.slice (some ⟨go, 0, none⟩) T.rs.length T.rs.length, .int .i64 0], by simp [results, Try.f50, go_sem], _, by rw [HE3.out], hat, hex⟩
      case stop =>
        rintro D c pre W5 _ _ h _
        exact h.elim
  · have hb : (E != 0) = true := by simpa using h0
    have hE2 := HE.out
    rw [if_neg h0] at hE2
    have hX3 := HX.out
    rw [if_neg (by rw [hE2]; exact h0)] at hX3
    have HE2 := Lib.hid hE2
    have HX3 := Lib.hid hX3
    clear h0 hE2 hX3
    go_enter Try.func50, Try.ntmps50
    go_wp2_with fail
    refine (KS _ (by repeat (first | exact Ext.refl _ | assumption | refine Ext.alloc ?_ _ | refine Ext.drew ?_ | refine Ext.drewN _ ?_ | refine Ext.trans ?_ (by assumption)))).mono ?_
    rintro e w1 ⟨rfl, hx1⟩
    go_wp2_with fail
    go_ret2
    exact ⟨_, ret2 rfl (by rw [HE2.out]; rfl), by rw [HX3.out]; exact rowsAt_nil _, Ext.trans (by repeat (first | exact Ext.refl _ | assumption | refine Ext.alloc ?_ _ | refine Ext.drew ?_ | refine Ext.drewN _ ?_ | refine Ext.trans ?_ (by assumption))) hx1⟩
end Go.Proofs.Ythopgonbndoidaa
