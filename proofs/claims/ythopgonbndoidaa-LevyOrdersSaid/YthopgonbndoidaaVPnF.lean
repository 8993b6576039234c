/- Plain: the shares divide the costs exactly; the shares in whole pence are fair, and together the whole. -/
import Derived.Test.YthopgonbndoidaaVDvG
namespace Go.Proofs.Ythopgonbndoidaa
open Go.RowKit Go.Shelf

def wgI (T : Tr) (i : Nat) : Int := (T.ps.getD i ⟨0, 0, 0⟩).w
def pcR (T : Tr) (k i : Nat) : Int := if usI T k i = true then pcX T (cst T.rs k) (wgI T i) k else 0
def shI (T : Tr) (i : Nat) : Int := shX T (T.ps.getD i ⟨0, 0, 0⟩)
theorem ps_get {T : Tr} {i : Nat} (h : i < T.ps.length) : T.ps.getD i ⟨0, 0, 0⟩ = T.ps[i] := by rw [List.getD_eq_getElem?_getD, List.getElem?_eq_getElem h]; rfl
theorem sumR_map {α : Type} (d : α) (f : α → Int) (l : List α) : sumI (l.map f) = sumR l.length (fun i => f (l.getD i d)) := by
  induction l using snoc_ind with
  | h0 => rfl
  | h1 z x ih =>
    rw [List.map_append, List.map_cons, List.map_nil, sumI_snoc, ih, List.length_append, List.length_singleton, sumR]
    congr 1
    · exact sumR_congr (fun i hi => by rw [List.getD_eq_getElem?_getD, List.getD_eq_getElem?_getD, List.getElem?_append_left hi])
    · simp
theorem sumR_mul (c : Int) (n : Nat) (f : Nat → Int) : sumR n (fun k => c * f k) = c * sumR n f := by
  induction n with
  | zero => exact (Int.mul_zero c).symm
  | succ n ih => rw [sumR, sumR, ih, Int.mul_add]
theorem wt_sum (T : Tr) (k : Nat) : wtA T.rs T.ps k = sumR T.ps.length (fun i => if usI T k i = true then wgI T i else 0) := by
  have : ∀ l : List Py, wtA T.rs l k = sumI (l.map (fun p => if usB T.rs p.reach k = true then p.w else 0)) := fun l => by
    induction l using snoc_ind with
    | h0 => rfl
    | h1 l p ih =>
      rw [wtA_snoc, List.map_append, List.map_cons, List.map_nil, sumI_snoc, ← ih]
      unfold wtS
      split <;> omega
  rw [this, sumR_map ⟨0, 0, 0⟩]
  rfl
/-- what is paid of each reach, in parts -/
structure DvM (T : Tr) (M : Int) (s : Nat → Int) (R : Nat → Nat → Int) : Prop where
  nn : ∀ k, k < T.rs.length → ∀ i, i < T.ps.length → 0 ≤ R k i
  us : ∀ k, k < T.rs.length → ∀ i, i < T.ps.length → usI T k i = false → R k i = 0
  row : ∀ k, k < T.rs.length → sumR T.ps.length (R k) = M * uC T k
  col : ∀ i, i < T.ps.length → s i = sumR T.rs.length (fun k => R k i)
theorem usI_up {T : Tr} {k i : Nat} : usI T k i = true ↔ (k : Int) ∈ upL T.rs (T.ps.getD i ⟨0, 0, 0⟩).reach := usB_t
theorem shares_DvM {T : Tr} (hok : Ok T) : DvM T 5354228880 (shI T) (pcR T) := by
  have hw : ∀ p ∈ T.ps, 1 ≤ p.w := fun p hp => (hok.pv p hp).2.2
  refine ⟨fun k hk i hi => ?_, fun k _ i _ h => ?_, fun k hk => ?_, fun i hi => ?_⟩
  · unfold pcR
    split
    · rename_i hu
      rw [usI_up, ps_get hi] at hu
      obtain ⟨_, h2, h3, h4⟩ := pay_facts hok (List.getElem_mem hi) hu
      have := pcX_bd h4 h2.1 h2.2 h3
      unfold wgI
      rw [ps_get hi]
      exact this.1
    · exact Int.le_refl _
  · unfold pcR; rw [h]; rfl
  · unfold pcR
    have h1 : sumR T.ps.length (fun i => if usI T k i = true then pcX T (cst T.rs k) (wgI T i) k else 0) = sumR T.ps.length (fun i => (cst T.rs k * (5354228880 / wtA T.rs T.ps k)) * (if usI T k i = true then wgI T i else 0)) := by
      refine sumR_congr (fun i _ => ?_)
      split
      · unfold pcX; rw [Int.mul_right_comm]
      · exact (Int.mul_zero _).symm
    rw [h1, sumR_mul, ← wt_sum]
    cases hu : usedB T k with
    | false =>
      rw [(wt_unused hok k).2 hu]
      unfold uC
      rw [hu]
      simp
    | true =>
      have hb := wtA_bd T.rs T.ps hw k
      have h0 : wtA T.rs T.ps k ≠ 0 := fun h => by rw [(wt_unused hok k).1 h] at hu; cases hu
      have := hok.sw
      have hd := div_whole (k := wtA T.rs T.ps k) (by omega) (by omega)
      unfold uC
      rw [if_pos hu, Int.mul_assoc, Int.mul_comm (5354228880 / _), hd, Int.mul_comm]
  · unfold shI pcR shX shF
    rw [ps_get hi]
    have h := sumL_eq (n := T.rs.length) (fun k => pcX T (cst T.rs k) T.ps[i].w k) (upL T.rs T.ps[i].reach)
      ((upL_nodup hok.rv (T.ps[i].reach.toNat + 1) _ (by have := (hok.pv _ (List.getElem_mem hi)).2.1; omega) (hok.pv _ (List.getElem_mem hi)).2.1.2).imp (fun h => by omega))
      (upL_in hok.rv (hok.pv _ (List.getElem_mem hi)).2.1.2)
    unfold sumL at h
    rw [h]
    refine sumR_congr (fun k _ => ?_)
    unfold wgI
    rw [ps_get hi]
    by_cases hu : (k : Int) ∈ upL T.rs T.ps[i].reach
    · rw [if_pos hu, if_pos (by rw [usI_up, ps_get hi]; exact hu)]
    · rw [if_neg hu, if_neg (by rw [usI_up, ps_get hi]; exact hu)]
theorem up_rec {T : Tr} (hok : Ok T) {M : Int} {s : Nat → Int} {R : Nat → Nat → Int} (h : DvM T M s R) {r : Nat} (hr : r < T.rs.length) :
    upV T R r + M * uC T r = sumR T.ps.length (fun i => if reP T i = r then s i else 0) + chS T.rs (upV T R) r T.rs.length := by
  have hV : ∀ i, i < T.ps.length → ((List.range T.ps.length).map (fun i => sumR (r + 1) (fun k => R k i))).getD i 0 = sumR (r + 1) (fun k => R k i) := fun i hi => by
    simp [List.getD_eq_getElem?_getD, hi]
  obtain ⟨L, hL⟩ : ∃ L, (List.range T.ps.length).map (fun i => sumR (r + 1) (fun k => R k i)) = L := ⟨_, rfl⟩
  rw [hL] at hV
  have hrec := LS_rec hok hr L
  have h1 : sumR T.ps.length (fun i => if reP T i = r then s i else 0) = sumR T.ps.length (fun i => if reP T i = r then L.getD i 0 else 0) := by
    refine sumR_congr (fun i hi => ?_)
    by_cases e : reP T i = r
    · rw [if_pos e, if_pos e, hV i hi, h.col i hi]
      exact sumR_cut (by omega) (fun k h1 h2 => h.us k h2 i hi (use_le hok hi (by omega)))
    · rw [if_neg e, if_neg e]
  have h2 : chS T.rs (upV T R) r T.rs.length = chS T.rs (fun c => LS T c L) r T.rs.length := by
    refine chS_congr hok.rv (fun c hc hrc ha => ?_)
    unfold upV LS
    refine sumR_congr (fun i hi => ?_)
    by_cases hu : usI T c i = true
    · rw [if_pos hu, if_pos hu, hV i hi]
      exact sumR_cut (by omega) (fun k h1 h2 => h.us k (by omega) i hi (use_gap hok hi hc h2 (by omega) hu))
    · rw [if_neg hu, if_neg hu]
  have h3 : LS T r L = upV T R r + M * uC T r := by
    rw [← h.row r hr]
    unfold upV LS
    rw [← sumR_add]
    refine sumR_congr (fun i hi => ?_)
    by_cases hu : usI T r i = true
    · rw [if_pos hu, if_pos hu, hV i hi]; rfl
    · rw [if_neg hu, if_neg hu, h.us r hr i hi (by simpa using hu)]; rfl
  rw [h1, h2, ← h3, hrec]
theorem upV_nn {T : Tr} {M : Int} {s : Nat → Int} {R : Nat → Nat → Int} (h : DvM T M s R) {r : Nat} (hr : r < T.rs.length) : 0 ≤ upV T R r := sumR_nn (fun i hi => by
  split
  · exact sumR_nn (fun k hk => h.nn k (by omega) i hi)
  · exact Int.le_refl _)
theorem chS_mul (rs : List Rc) (M : Int) (o : Nat → Int) (r n : Nat) : M * chS rs o r n = chS rs (fun c => M * o c) r n := by
  unfold chS
  rw [← sumR_mul]
  refine sumR_congr (fun k _ => ?_)
  split
  · rfl
  · exact Int.mul_zero _
theorem atP_mul {T : Tr} {l : List Int} (hlen : l.length = T.ps.length) (M : Int) (r : Nat) : M * atP (T.ps.zip l) r = sumR T.ps.length (fun i => if reP T i = r then M * l.getD i 0 else 0) := by
  rw [atP_sum hlen, ← sumR_mul]
  refine sumR_congr (fun k _ => ?_)
  split
  · rfl
  · exact Int.mul_zero _
theorem uC_le {T : Tr} (hok : Ok T) (r : Nat) : 0 ≤ uC T r ∧ uC T r ≤ cst T.rs r := by
  have := cst_bd hok.rv r
  unfold uC
  split <;> omega
/-- who pays at most the exact share leaves no reach overpaid -/
theorem low_up {T : Tr} (hok : Ok T) {M : Int} (hM : 0 < M) {s : Nat → Int} {R : Nat → Nat → Int} (h : DvM T M s R) {l : List Int} (hlen : l.length = T.ps.length)
    (hl : ∀ i, i < T.ps.length → M * l.getD i 0 ≤ s i) : ∀ (d r : Nat), r < T.rs.length → T.rs.length - r ≤ d → M * objX T l r ≤ upV T R r := by
  intro d
  induction d with
  | zero => intro r h1 h2; omega
  | succ d ih =>
    intro r hr hd
    have h0 := upV_nn h hr
    have hrec := up_rec hok h hr
    have h1 : M * atP (T.ps.zip l) r ≤ sumR T.ps.length (fun i => if reP T i = r then s i else 0) := by
      rw [atP_mul hlen]
      exact sumR_le (fun i hi => by
        have := hl i hi
        split <;> omega)
    have h2 : M * chS T.rs (objX T l) r T.rs.length ≤ chS T.rs (upV T R) r T.rs.length := by
      rw [chS_mul]
      exact chS_le hok.rv (fun c hc hrc _ => ih c hc (by omega))
    have h5 : M * uC T r ≤ M * cst T.rs r := Int.mul_le_mul_of_nonneg_left (uC_le hok r).2 (by omega)
    have hX : M * exX T l r = M * atP (T.ps.zip l) r + M * chS T.rs (objX T l) r T.rs.length - M * cst T.rs r := by
      unfold exX
      rw [Int.mul_sub, Int.mul_add]
    rw [objX_ex hok l hr]
    by_cases he : exX T l r ≤ 0
    · rw [Int.max_eq_left he, Int.mul_zero]; exact h0
    · rw [Int.max_eq_right (by omega)]; omega
/-- who pays at least the exact share pays enough for each reach -/
theorem high_up {T : Tr} (hok : Ok T) {M : Int} {s : Nat → Int} {R : Nat → Nat → Int} (h : DvM T M s R) {l : List Int} (hlen : l.length = T.ps.length)
    (hl : ∀ i, i < T.ps.length → s i ≤ M * l.getD i 0) : ∀ (d r : Nat), r < T.rs.length → T.rs.length - r ≤ d → upV T R r ≤ M * dX T l r := by
  intro d
  induction d with
  | zero => intro r h1 h2; omega
  | succ d ih =>
    intro r hr hd
    have hrec := up_rec hok h hr
    have h1 : sumR T.ps.length (fun i => if reP T i = r then s i else 0) ≤ M * atP (T.ps.zip l) r := by
      rw [atP_mul hlen]
      exact sumR_le (fun i hi => by
        have := hl i hi
        split <;> omega)
    have h2 : chS T.rs (upV T R) r T.rs.length ≤ M * chS T.rs (dX T l) r T.rs.length := by
      rw [chS_mul]
      exact chS_le hok.rv (fun c hc hrc _ => ih c hc (by omega))
    rw [dX_rec hok l hr, Int.mul_add, Int.mul_sub]
    omega
theorem up_root {T : Tr} (hok : Ok T) {M : Int} {s : Nat → Int} {R : Nat → Nat → Int} (V : DvM T M s R) {k : Nat} (hk : k < T.rs.length) (ha : abv T.rs k < 0) : upV T R k = 0 := by
  unfold upV
  rw [sumR_congr (g := fun _ => 0) (fun i hi => ?_), sumR_nil]
  by_cases hq : usI T k i = true
  · rw [if_pos hq, sumR_congr (g := fun _ => 0) (fun j hj => V.us j (by omega) i hi (use_gap hok hi hk hj (by omega) hq)), sumR_nil]
  · rw [if_neg hq]
theorem ov_zero {T : Tr} (hok : Ok T) {l : List Int} (h : ∀ k, k < T.rs.length → abv T.rs k < 0 → objX T l k = 0) : ovX T l = 0 := by
  rw [ovX_len hok, ovS_rt _ _ (Nat.le_refl _)]
  unfold rtS
  rw [sumR_congr (g := fun _ => 0) (fun k hk => ?_), sumR_nil]
  by_cases ha : abv T.rs k < 0
  · rw [if_pos ha, h k hk ha]
  · rw [if_neg ha]
theorem low_zero {T : Tr} (hok : Ok T) {M : Int} (hM : 0 < M) {s : Nat → Int} {R : Nat → Nat → Int} (V : DvM T M s R) {l : List Int} (hlen : l.length = T.ps.length) (hb : ∀ n ∈ l, 0 ≤ n ∧ n ≤ 1073741824)
    (hl : ∀ i, i < T.ps.length → M * l.getD i 0 ≤ s i) : ovX T l = 0 := ov_zero hok (fun k hk ha => by
  have h1 := low_up hok hM V hlen hl T.rs.length k hk (by omega)
  rw [up_root hok V hk ha] at h1
  have h0 := (objX_bd hok hb k).1
  rcases Int.lt_or_eq_of_le h0 with h2 | h2
  · have := Int.mul_pos hM h2; omega
  · exact h2.symm)
theorem hs_sum {T : Tr} {l : List Int} (hlen : l.length = T.ps.length) (k : Nat) : hsL T k (T.ps.zip l) = LS T k l := by
  have h1 : ∀ z : List (Py × Int), hsL T k z = sumI (z.map (fun q => if usB T.rs q.1.reach k = true then q.2 else 0)) := fun z => by
    induction z using snoc_ind with
    | h0 => rfl
    | h1 z q ih =>
      rw [hsL_snoc, List.map_append, List.map_cons, List.map_nil, sumI_snoc, ← ih]
      unfold hsS
      split <;> omega
  rw [h1, sumR_snocL, List.length_map, List.length_zip, hlen, Nat.min_self]
  refine sumR_congr (fun i hi => ?_)
  have hi2 : i < l.length := by omega
  unfold usI
  simp only [List.getD_eq_getElem?_getD, List.getElem?_map, List.zip, List.getElem?_zipWith, List.getElem?_eq_getElem hi, List.getElem?_eq_getElem hi2, Option.map_some, Option.getD_some]
/-- between what nobody overpays and what is enough -/
theorem obj_dX {T : Tr} (hok : Ok T) {lo hi : List Int} (hl : lo.length = T.ps.length) (hh : hi.length = T.ps.length) (hle : ∀ i, i < T.ps.length → lo.getD i 0 ≤ hi.getD i 0)
    (h : ∀ k, k < T.rs.length → usedB T k = true → 0 ≤ dX T hi k) : ∀ (d k : Nat), k < T.rs.length → T.rs.length - k ≤ d → objX T lo k ≤ dX T hi k := by
  intro d
  induction d with
  | zero => intro k h1 h2; omega
  | succ d ih =>
    intro k hk hd
    cases hu : usedB T k with
    | false =>
      have h1 := unused_zero hok lo _ k hk (Nat.le_refl _) hu
      have h2 := unused_zero hok hi _ k hk (Nat.le_refl _) hu
      omega
    | true =>
      have hch := chS_le hok.rv (k := k) (fun c h1 h2 _ => ih c h1 (by omega))
      have h0 := h k hk hu
      have hr := dX_rec hok hi hk
      have hU : uC T k = cst T.rs k := by unfold uC; rw [if_pos hu]
      have ha : atP (T.ps.zip lo) k ≤ atP (T.ps.zip hi) k := by
        rw [atP_sum hl, atP_sum hh]
        exact sumR_le (fun i hi => by
          have := hle i hi
          split <;> omega)
      rw [objX_ex hok lo hk]
      unfold exX
      omega
/-- a payer who pays more changes nothing above a reach that takes it up -/
theorem obj_stop {T : Tr} (hok : Ok T) {lo : List Int} (hl : lo.length = T.ps.length) {i : Nat} (hi : i < T.ps.length) {v : Int} {k : Nat} (hk : k < T.rs.length) (hu : usI T k i = true)
    (h : objX T (lo.set i v) k ≤ objX T lo k) : ∀ (d r : Nat), r < T.rs.length → T.rs.length - r ≤ d → ¬ (usI T r i = true ∧ k < r) → objX T (lo.set i v) r ≤ objX T lo r := by
  intro d
  induction d with
  | zero => intro r h1 h2; omega
  | succ d ih =>
    intro r hr hd hn
    by_cases hrk : r = k
    · subst hrk; exact h
    · have hch : chS T.rs (objX T (lo.set i v)) r T.rs.length ≤ chS T.rs (objX T lo) r T.rs.length := by
        refine chS_le hok.rv (fun c hc hrc ha => ih c hc (by omega) (fun ⟨q1, q2⟩ => ?_))
        have hge : ¬ abv T.rs c < k := fun hlt => by
          have := use_gap hok hi hc q2 hlt q1
          rw [hu] at this; cases this
        have hb := reP_bd hok hi
        have hp : usI T r i = true := by
          rw [usI_up, hb.1] at q1 ⊢
          have := up_abv hok.rv (reP T i + 1) (reP T i) (by omega) hb.2 q1 (by omega)
          rwa [ha] at this
        exact hn ⟨hp, by omega⟩
      have hat : atP (T.ps.zip (lo.set i v)) r = atP (T.ps.zip lo) r := by
        rw [atP_sum (by simpa using hl), atP_sum hl]
        refine sumR_congr (fun j hj => ?_)
        by_cases e : reP T j = r
        · rw [if_pos e, if_pos e, setD_get, if_neg]
          intro ⟨hji, _⟩
          subst hji
          have hb := reP_bd hok hj
          have hq : usI T r j = true := by
            rw [usI_up, hb.1, e, upL_step hok.rv hr]; simp
          by_cases hlt : k < r
          · exact hn ⟨hq, hlt⟩
          · have := use_le hok hj (k := k) (by omega)
            rw [hu] at this; cases this
        · rw [if_neg e, if_neg e]
      rw [objX_ex hok _ hr, objX_ex hok _ hr]
      unfold exX
      omega
/-- one step of the rounding -/
structure PnI (T : Tr) (s : List Int × List Int) : Prop where
  v : PnV T.ps.length s
  le : ∀ i, i < T.ps.length → s.1.getD i 0 ≤ s.2.getD i 0 ∧ s.2.getD i 0 ≤ s.1.getD i 0 + 1
  lo : ovX T s.1 = 0
  hi : ∀ k, k < T.rs.length → usedB T k = true → 0 ≤ dX T s.2 k
theorem set_self_le {lo hi : List Int} {n : Nat} (_hl : lo.length = n) (hle : ∀ i, i < n → lo.getD i 0 ≤ hi.getD i 0 ∧ hi.getD i 0 ≤ lo.getD i 0 + 1) (i : Nat) :
    ∀ j, j < n → (lo.set i (hi.getD i 0)).getD j 0 ≤ hi.getD j 0 ∧ hi.getD j 0 ≤ (lo.set i (hi.getD i 0)).getD j 0 + 1 := fun j hj => by
  have := hle j hj
  rw [setD_get]
  split
  · rename_i h; rw [h.1]; omega
  · exact this
theorem LS_set {T : Tr} {hi : List Int} (hl : hi.length = T.ps.length) {i : Nat} (hii : i < T.ps.length) (v : Int) (k : Nat) : LS T k (hi.set i v) = LS T k hi - (if usI T k i = true then hi.getD i 0 - v else 0) := by
  unfold LS
  have h1 := sumR_pick hii (if usI T k i = true then hi.getD i 0 - v else 0)
  rw [← h1, ← sumR_sub]
  refine sumR_congr (fun j hj => ?_)
  by_cases e : j = i
  · subst e
    have h2 : (hi.set j v).getD j 0 = v := by rw [setD_get, if_pos ⟨rfl, by omega⟩]
    rw [h2, if_pos rfl]
    split <;> omega
  · have h2 : (hi.set i v).getD j 0 = hi.getD j 0 := by rw [setD_get, if_neg (fun q => e q.1)]
    rw [h2, if_neg e]; omega
theorem PnI.step {T : Tr} (hok : Ok T) {s : List Int × List Int} (h : PnI T s) {i : Nat} (hi : i < T.ps.length) : PnI T (pnS T s i) ∧ (pnS T s i).1.getD i 0 = (pnS T s i).2.getD i 0 := by
  have hv := h.v.step (T := T) hi
  have hl1 := h.v.l1
  have hl2 := h.v.l2
  have hle' := set_self_le hl1 h.le i
  unfold pnS at hv ⊢
  split
  · rename_i hb
    rw [if_pos hb] at hv
    unfold btwB at hb
    rw [Bool.and_eq_true] at hb
    refine ⟨⟨hv, hle', by simpa using hb.1, h.hi⟩, ?_⟩
    show (s.1.set i (s.2.getD i 0)).getD i 0 = s.2.getD i 0
    rw [setD_get, if_pos ⟨rfl, by omega⟩]
  · rename_i hb
    rw [if_neg hb] at hv
    refine ⟨⟨hv, fun j hj => ?_, h.lo, fun k hk hu => ?_⟩, ?_⟩
    · have := h.le j hj
      show s.1.getD j 0 ≤ (s.2.set i (s.1.getD i 0)).getD j 0 ∧ (s.2.set i (s.1.getD i 0)).getD j 0 ≤ s.1.getD j 0 + 1
      rw [setD_get]
      split
      · rename_i h; rw [h.1]; omega
      · exact this
    · show 0 ≤ dX T (s.2.set i (s.1.getD i 0)) k
      have hd := h.hi k hk hu
      have hg := h.le i hi
      have h1 : dX T (s.2.set i (s.1.getD i 0)) k = dX T s.2 k - (if usI T k i = true then s.2.getD i 0 - s.1.getD i 0 else 0) := by
        unfold dX
        rw [hs_sum (by simpa using hl2), hs_sum hl2, LS_set hl2 hi]
        omega
      rw [h1]
      cases hui : usI T k i with
      | false => rw [if_neg (by decide)]; omega
      | true =>
        rw [if_pos rfl]
        have hne : ovX T (s.1.set i (s.2.getD i 0)) ≠ 0 := fun h0 => by
          apply hb
          unfold btwB
          rw [Bool.and_eq_true]
          exact ⟨by simpa using h0, decide_eq_true ((dX_iff hok hl2).2 h.hi)⟩
        have hgt : objX T s.1 k < objX T (s.1.set i (s.2.getD i 0)) k := by
          refine Int.not_le.1 (fun hle => hne (ov_zero hok (fun r hr ha => ?_)))
          have h2 := obj_stop hok hl1 hi hk hui hle _ r hr (Nat.le_refl _) (fun ⟨q1, q2⟩ => by
            have := use_gap hok hi hr q2 (by omega) q1
            rw [hui] at this; cases this)
          have h3 := (objX_bd hok h.v.b1 r).1
          have hb1 : ∀ n ∈ s.1.set i (s.2.getD i 0), 0 ≤ n ∧ n ≤ 1073741824 := fun n hn => by
            rcases mem_set_of hn with rfl | hn
            · refine h.v.b2 _ ?_
              rw [List.getD_eq_getElem?_getD, List.getElem?_eq_getElem (by omega)]; simp
            · exact h.v.b1 _ hn
          have h4 := (objX_bd hok hb1 r).1
          have h5 := ovS_zero (rs := T.rs) (o := objX T s.1) (fun k => (objX_bd hok h.v.b1 k).1) T.rs.length (by rw [← ovX_len hok]; exact h.lo) r hr hr ha
          omega
        have hup := obj_dX hok (lo := s.1.set i (s.2.getD i 0)) (by simpa using hl1) hl2 (fun j hj => (hle' j hj).1) h.hi _ k hk (Nat.le_refl _)
        have h3 := (objX_bd hok h.v.b1 k).1
        omega
    · show s.1.getD i 0 = (s.2.set i (s.1.getD i 0)).getD i 0
      rw [setD_get, if_pos ⟨rfl, by omega⟩]
theorem pnS_stay (T : Tr) (s : List Int × List Int) (i : Nat) {j : Nat} (h : j ≠ i) : (pnS T s i).1.getD j 0 = s.1.getD j 0 ∧ (pnS T s i).2.getD j 0 = s.2.getD j 0 := by
  unfold pnS
  split
  · exact ⟨by show (s.1.set i _).getD j 0 = _; rw [setD_get, if_neg (fun q => h q.1)], rfl⟩
  · exact ⟨rfl, by show (s.2.set i _).getD j 0 = _; rw [setD_get, if_neg (fun q => h q.1)]⟩
theorem map_getD {f : Py → Int} {T : Tr} {i : Nat} (h : i < T.ps.length) : (T.ps.map f).getD i 0 = f (T.ps.getD i ⟨0, 0, 0⟩) := by
  simp only [List.getD_eq_getElem?_getD, List.getElem?_map, List.getElem?_eq_getElem h, Option.map_some, Option.getD_some]
theorem pnI_start {T : Tr} (hok : Ok T) : PnI T (loL T T.ps, hiL T T.ps) := by
  have hv := pnV_start hok
  have hs := shares_DvM hok
  have hsb : ∀ i, i < T.ps.length → 0 ≤ shI T i ∧ shI T i ≤ 8421473853112320 := fun i hi => by
    unfold shI
    rw [ps_get hi]
    exact shX_bd hok (List.getElem_mem hi)
  have hlo : ∀ i, i < T.ps.length → (loL T T.ps).getD i 0 = dnX (shI T i) := fun i hi => map_getD hi
  have hhi : ∀ i, i < T.ps.length → (hiL T T.ps).getD i 0 = upX (shI T i) := fun i hi => map_getD hi
  refine ⟨hv, fun i hi => ?_, ?_, fun k hk _ => ?_⟩
  · have := hsb i hi
    have := upX_bd this.1 this.2
    show (loL T T.ps).getD i 0 ≤ (hiL T T.ps).getD i 0 ∧ (hiL T T.ps).getD i 0 ≤ (loL T T.ps).getD i 0 + 1
    rw [hlo i hi, hhi i hi]
    omega
  · exact low_zero hok (by decide) hs hv.l1 hv.b1 (fun i hi => by
      show 5354228880 * (loL T T.ps).getD i 0 ≤ _
      rw [hlo i hi]; unfold dnX; omega)
  · have h1 : upV T (pcR T) k ≤ 5354228880 * dX T (hiL T T.ps) k := high_up hok hs hv.l2 (fun i hi => by
      show _ ≤ 5354228880 * (hiL T T.ps).getD i 0
      rw [hhi i hi]; unfold upX; omega) T.rs.length k hk (by omega)
    have h2 := upV_nn hs hk
    show 0 ≤ dX T (hiL T T.ps) k
    omega
theorem pnI_at {T : Tr} (hok : Ok T) : ∀ k, k ≤ T.ps.length → PnI T (pnF T k) ∧ (∀ j, j < k → (pnF T k).1.getD j 0 = (pnF T k).2.getD j 0) ∧
    ∀ j, j < T.ps.length → dnX (shI T j) ≤ (pnF T k).1.getD j 0 ∧ (pnF T k).2.getD j 0 ≤ upX (shI T j) := by
  intro k
  induction k with
  | zero =>
    intro _
    refine ⟨pnI_start hok, fun j h => by omega, fun j hj => ⟨Int.le_of_eq ?_, Int.le_of_eq ?_⟩⟩
    · exact (map_getD (f := fun p => dnX (shX T p)) hj).symm
    · exact map_getD (f := fun p => upX (shX T p)) hj
  | succ k ih =>
    intro hk
    obtain ⟨h1, h2, h3⟩ := ih (by omega)
    have hs := h1.step hok (i := k) (by omega)
    rw [pnF_succ]
    refine ⟨hs.1, fun j hj => ?_, fun j hj => ?_⟩
    · by_cases e : j = k
      · subst e; exact hs.2
      · have := pnS_stay T (pnF T k) k e
        rw [this.1, this.2]
        exact h2 j (by omega)
    · have h4 := h3 j hj
      have h5 := h1.le j hj
      by_cases e : j = k
      · subst e
        unfold pnS
        split
        · show dnX (shI T j) ≤ ((pnF T j).1.set j ((pnF T j).2.getD j 0)).getD j 0 ∧ _
          rw [setD_get, if_pos ⟨rfl, by rw [h1.v.l1]; omega⟩]
          exact ⟨by omega, h4.2⟩
        · show _ ∧ ((pnF T j).2.set j ((pnF T j).1.getD j 0)).getD j 0 ≤ upX (shI T j)
          rw [setD_get, if_pos ⟨rfl, by rw [h1.v.l2]; omega⟩]
          exact ⟨h4.1, by omega⟩
      · have := pnS_stay T (pnF T k) k e
        rw [this.1, this.2]
        exact h4
theorem getD_ext {l r : List Int} (h : l.length = r.length) (he : ∀ i, i < l.length → l.getD i 0 = r.getD i 0) : l = r := by
  refine List.ext_getElem h (fun i h1 h2 => ?_)
  have := he i h1
  rw [List.getD_eq_getElem?_getD, List.getD_eq_getElem?_getD, List.getElem?_eq_getElem h1, List.getElem?_eq_getElem h2] at this
  exact this
/-- the pence are fair, and each is less than 1 from its share -/
theorem pnX_fair {T : Tr} (hok : Ok T) : faiB T (pnX T) = true ∧ sumI (pnX T) = alnE T (fun _ => true) ∧ ovX T (pnX T) = 0 ∧
    ∀ j, j < T.ps.length → dnX (shI T j) ≤ (pnX T).getD j 0 ∧ (pnX T).getD j 0 ≤ upX (shI T j) := by
  obtain ⟨h1, h2, h3⟩ := pnI_at hok T.ps.length (Nat.le_refl _)
  have he : (pnF T T.ps.length).2 = (pnF T T.ps.length).1 := (getD_ext (by rw [h1.v.l1, h1.v.l2]) (fun i hi => h2 i (by rw [← h1.v.l1]; exact hi))).symm
  have hhi := h1.hi
  have hlo := h1.lo
  have hl := h1.v.l1
  rw [he] at hhi
  have hsum := rt_sum hok hl
  rw [ovX_len hok, ovS_rt _ _ (Nat.le_refl _)] at hlo
  have hsame : rtS T.rs (objX T (pnF T T.ps.length).1) T.rs.length = rtS T.rs (dX T (pnF T T.ps.length).1) T.rs.length := sumR_congr (fun k hk => by
    rw [dX_all hok _ hhi _ k hk (Nat.le_refl _)])
  have h4 : sumI (pnX T) = alnE T (fun _ => true) := by
    show sumI (pnF T T.ps.length).1 = _
    omega
  refine ⟨?_, h4, h1.lo, fun j hj => ⟨(h3 j hj).1, ?_⟩⟩
  · unfold faiB
    rw [h4, show ovX T (pnX T) = 0 from h1.lo]
    simp
  · rw [show pnX T = (pnF T T.ps.length).1 from rfl, h2 j hj]
    exact (h3 j hj).2
end Go.Proofs.Ythopgonbndoidaa
