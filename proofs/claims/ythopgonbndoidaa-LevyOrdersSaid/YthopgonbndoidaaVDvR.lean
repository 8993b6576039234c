/- Plain: a division shows that pence are fair. -/
import Derived.Test.YthopgonbndoidaaVEqI
namespace Go.Proofs.Ythopgonbndoidaa
open Go.RowKit Go.Shelf

/-- what a division says -/
structure DvdV (T : Tr) (l : List Int) (R : Nat → Nat → Int) : Prop where
  nn : ∀ k, k < T.rs.length → ∀ i, 0 ≤ R k i
  us : ∀ k, k < T.rs.length → ∀ i, i < T.ps.length → usI T k i = false → R k i = 0
  row : ∀ k, k < T.rs.length → sumR T.ps.length (R k) = uC T k
  col : ∀ i, i < T.ps.length → l.getD i 0 = sumR T.rs.length (fun k => R k i)
theorem dvdV_of {T : Tr} (hok : Ok T) {l : List Int} (hlen : l.length = T.ps.length) {D : List (List Int)} (h : dvdB T l D = true) : DvdV T l (fun k i => (D.getD k []).getD i 0) := by
  unfold dvdB at h
  rw [Bool.and_eq_true, Bool.and_eq_true] at h
  obtain ⟨h1, h2, h3⟩ := h
  have hn : D.length = T.rs.length := of_decide_eq_true h1
  rw [List.all_eq_true] at h2 h3
  have hL : ∀ k, k < T.rs.length → linB T T.ps.length k (D.getD k []) = true := fun k hk => by
    have := h2 k (List.mem_range.2 (by omega))
    rwa [hlen] at this
  have hrl : ∀ k, k < T.rs.length → (D.getD k []).length = T.ps.length := fun k hk => by
    have := hL k hk
    unfold linB at this
    rw [Bool.and_eq_true] at this
    exact of_decide_eq_true this.1
  refine ⟨fun k hk i => (rowB_bd (linB_row (hL k hk)) i).1, fun k hk i hi hu => ?_, fun k hk => ?_, fun i hi => ?_⟩
  · have hc := rowB_get (linB_row (hL k hk)) (i := i) (by rw [hrl k hk]; exact hi)
    have hb := celB_bd hc
    unfold celB at hc
    rw [show usB T.rs (T.ps.getD i ⟨0, 0, 0⟩).reach k = false from hu, Bool.and_eq_true] at hc
    have : ¬ 0 < (D.getD k []).getD i 0 := by simpa using hc.2
    omega
  · have := (line_sum hok (hrl k hk) (linB_row (hL k hk))).1 (hL k hk)
    rw [sumR_snocL, hrl k hk, dvD_uC hok] at this
    exact this
  · have := h3 i (List.mem_range.2 (by omega))
    have hc : l.getD i 0 = colS D i := by
      have : l.getD i 0 - colS D i = 0 := by simpa using this
      omega
    rw [hc]
    unfold colS
    rw [sumR_snocL, List.length_map, hn]
    refine sumR_congr (fun k hk => ?_)
    have hk2 : k < D.length := by omega
    simp only [List.getD_eq_getElem?_getD, List.getElem?_map, List.getElem?_eq_getElem hk2, Option.map_some, Option.getD_some]
theorem sumR_nn {n : Nat} {f : Nat → Int} (h : ∀ k, k < n → 0 ≤ f k) : 0 ≤ sumR n f := by
  have := sumR_le (n := n) (f := fun _ => 0) (g := f) h
  rwa [sumR_nil] at this
theorem sumR_cut {n m : Nat} {f : Nat → Int} (hm : m ≤ n) (h : ∀ k, m ≤ k → k < n → f k = 0) : sumR n f = sumR m f := by
  induction n with
  | zero => rw [show m = 0 by omega]
  | succ n ih =>
    by_cases e : m = n + 1
    · rw [e]
    · rw [sumR, h n (by omega) (by omega), ih (by omega) (fun k h1 h2 => h k h1 (by omega))]
      omega
/-- what the payers below a reach pay of the reaches above it -/
def upV (T : Tr) (R : Nat → Nat → Int) (r : Nat) : Int := sumR T.ps.length (fun i => if usI T r i = true then sumR r (fun k => R k i) else 0)
theorem use_le {T : Tr} (hok : Ok T) {i k : Nat} (hi : i < T.ps.length) (h : reP T i < k) : usI T k i = false := by
  have hb := reP_bd hok hi
  cases hq : usI T k i with
  | false => rfl
  | true =>
    unfold usI at hq
    rw [hb.1] at hq
    have := upL_bd hok.rv (reP T i + 1) (reP T i) (by omega) (by omega) _ (usB_t.1 hq)
    omega
theorem use_gap {T : Tr} (hok : Ok T) {i c k : Nat} (hi : i < T.ps.length) (hc : c < T.rs.length) (hk : k < c) (ha : abv T.rs c < k) (hu : usI T c i = true) : usI T k i = false := by
  have hb := reP_bd hok hi
  unfold usI at hu ⊢
  rw [hb.1] at hu ⊢
  exact no_use hok.rv hc hk ha (reP T i + 1) (reP T i) (by omega) hb.2 hu
theorem obj_up {T : Tr} (hok : Ok T) {l : List Int} (hlen : l.length = T.ps.length) {R : Nat → Nat → Int} (h : DvdV T l R) : ∀ (d r : Nat), r < T.rs.length → T.rs.length - r ≤ d → objX T l r ≤ upV T R r := by
  intro d
  induction d with
  | zero => intro r h1 h2; omega
  | succ d ih =>
    intro r hr hd
    have hV : ∀ i, i < T.ps.length → ((List.range T.ps.length).map (fun i => sumR (r + 1) (fun k => R k i))).getD i 0 = sumR (r + 1) (fun k => R k i) := fun i hi => by
      simp [List.getD_eq_getElem?_getD, hi]
    obtain ⟨L, hL⟩ : ∃ L, (List.range T.ps.length).map (fun i => sumR (r + 1) (fun k => R k i)) = L := ⟨_, rfl⟩
    rw [hL] at hV
    have hrec := LS_rec hok hr L
    have h1 : atP (T.ps.zip l) r = sumR T.ps.length (fun i => if reP T i = r then L.getD i 0 else 0) := by
      rw [atP_sum hlen]
      refine sumR_congr (fun i hi => ?_)
      by_cases e : reP T i = r
      · rw [if_pos e, if_pos e, hV i hi, h.col i hi]
        exact sumR_cut (by omega) (fun k h1 h2 => h.us k h2 i hi (use_le hok hi (by omega)))
      · rw [if_neg e, if_neg e]
    have h2 : chS T.rs (objX T l) r T.rs.length ≤ chS T.rs (fun c => LS T c L) r T.rs.length := by
      refine chS_le hok.rv (fun c hc hrc ha => ?_)
      refine Int.le_trans (ih c hc (by omega)) (Int.le_of_eq ?_)
      unfold upV LS
      refine sumR_congr (fun i hi => ?_)
      by_cases hu : usI T c i = true
      · rw [if_pos hu, if_pos hu, hV i hi]
        exact sumR_cut (by omega) (fun k h1 h2 => h.us k (by omega) i hi (use_gap hok hi hc h2 (by omega) hu))
      · rw [if_neg hu, if_neg hu]
    have h3 : LS T r L = upV T R r + uC T r := by
      rw [← h.row r hr]
      unfold upV LS
      rw [← sumR_add]
      refine sumR_congr (fun i hi => ?_)
      by_cases hu : usI T r i = true
      · rw [if_pos hu, if_pos hu, hV i hi]; rfl
      · rw [if_neg hu, if_neg hu, h.us r hr i hi (by simpa using hu)]; rfl
    have h4 : 0 ≤ upV T R r := sumR_nn (fun i _ => by
      split
      · exact sumR_nn (fun k hk => h.nn k (by omega) i)
      · exact Int.le_refl _)
    have h5 : uC T r ≤ cst T.rs r := by
      have := cst_bd hok.rv r
      unfold uC
      split <;> omega
    have hX : exX T l r = atP (T.ps.zip l) r + chS T.rs (objX T l) r T.rs.length - cst T.rs r := rfl
    rw [objX_ex hok l hr]
    omega
theorem dvd_fair {T : Tr} (hok : Ok T) {l : List Int} (hlen : l.length = T.ps.length) (hb : ∀ n ∈ l, 0 ≤ n ∧ n ≤ 1073741824) {D : List (List Int)} (h : dvdB T l D = true) : faiB T l = true := by
  have V := dvdV_of hok hlen h
  generalize (fun k i => (D.getD k []).getD i 0) = R at V
  have hal : alnE T (fun _ => true) = sumR T.rs.length (uC T) := by
    unfold alnE
    refine sumR_congr (fun k _ => ?_)
    unfold uC usedB
    simp only [Bool.true_and]
  have h1 : sumI l = alnE T (fun _ => true) := by
    rw [sumR_snocL, hlen, sumR_congr V.col, ← sumR_swap, hal]
    exact sumR_congr V.row
  have h2 : ovX T l = 0 := by
    rw [ovX_len hok, ovS_rt _ _ (Nat.le_refl _)]
    unfold rtS
    rw [sumR_congr (g := fun _ => 0) (fun k hk => ?_), sumR_nil]
    by_cases ha : abv T.rs k < 0
    · rw [if_pos ha]
      have hu := obj_up hok hlen V T.rs.length k hk (by omega)
      have h0 := (objX_bd hok hb k).1
      have hz : upV T R k = 0 := by
        unfold upV
        rw [sumR_congr (g := fun _ => 0) (fun i hi => ?_), sumR_nil]
        by_cases hq : usI T k i = true
        · rw [if_pos hq, sumR_congr (g := fun _ => 0) (fun j hj => V.us j (by omega) i hi (use_gap hok hi hk hj (by omega) hq)), sumR_nil]
        · rw [if_neg hq]
      omega
    · rw [if_neg ha]
  unfold faiB
  rw [h1, h2]
  simp
end Go.Proofs.Ythopgonbndoidaa
