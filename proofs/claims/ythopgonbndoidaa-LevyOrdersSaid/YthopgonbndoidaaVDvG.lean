/- Plain: a division shows that no group pays too much. -/
import Derived.Test.YthopgonbndoidaaVDvR
namespace Go.Proofs.Ythopgonbndoidaa
open Go.RowKit Go.Shelf

def idI (T : Tr) (i : Nat) : Int := (T.ps.getD i ⟨0, 0, 0⟩).id
theorem pdL_map (g : List Int) (z : List (Py × Int)) : pdL g z = sumI (z.map (fun q => if q.1.id ∈ g then q.2 else 0)) := by
  induction z using snoc_ind with
  | h0 => rfl
  | h1 z q ih =>
    rw [pdL_snoc, List.map_append, List.map_cons, List.map_nil, sumI_snoc, ← ih]
    unfold pdS
    by_cases h : q.1.id ∈ g
    · rw [if_pos (decide_eq_true h), if_pos h]
    · rw [if_neg (by simpa using h), if_neg h]; omega
theorem pdL_sum {T : Tr} {l : List Int} (hlen : l.length = T.ps.length) (g : List Int) : pdL g (T.ps.zip l) = sumR T.ps.length (fun i => if idI T i ∈ g then l.getD i 0 else 0) := by
  rw [pdL_map, sumR_snocL, List.length_map, List.length_zip, hlen, Nat.min_self]
  refine sumR_congr (fun i hi => ?_)
  have hi2 : i < l.length := by omega
  unfold idI
  simp only [List.getD_eq_getElem?_getD, List.getElem?_map, List.zip, List.getElem?_zipWith, List.getElem?_eq_getElem hi, List.getElem?_eq_getElem hi2, Option.map_some, Option.getD_some]
theorem dvd_group {T : Tr} {l : List Int} (hlen : l.length = T.ps.length) {R : Nat → Nat → Int} (h : DvdV T l R) (g : List Int) : pdL g (T.ps.zip l) ≤ alnG T g := by
  rw [pdL_sum hlen]
  have h1 : sumR T.ps.length (fun i => if idI T i ∈ g then l.getD i 0 else 0) = sumR T.rs.length (fun k => sumR T.ps.length (fun i => if idI T i ∈ g then R k i else 0)) := by
    rw [sumR_swap]
    refine sumR_congr (fun i hi => ?_)
    by_cases hg : idI T i ∈ g
    · simp only [hg, if_true]; exact h.col i hi
    · simp only [hg, if_false]; exact (sumR_nil _).symm
  rw [h1]
  unfold alnG alnE
  refine sumR_le (fun k hk => ?_)
  by_cases hu : T.ps.any (fun p => decide (p.id ∈ g) && usB T.rs p.reach k) = true
  · rw [if_pos hu]
    have h2 : sumR T.ps.length (fun i => if idI T i ∈ g then R k i else 0) ≤ sumR T.ps.length (R k) := sumR_le (fun i _ => by
      have := h.nn k hk i
      split <;> omega)
    have h3 : uC T k = cst T.rs k := by
      unfold uC
      refine if_pos ?_
      unfold usedB
      rw [List.any_eq_true] at hu ⊢
      obtain ⟨p, hp, hq⟩ := hu
      exact ⟨p, hp, (Bool.and_eq_true _ _ ▸ hq).2⟩
    rw [h.row k hk, h3] at h2
    exact h2
  · rw [if_neg hu]
    refine Int.le_of_eq ?_
    rw [sumR_congr (g := fun _ => 0) (fun i hi => ?_), sumR_nil]
    by_cases hg : idI T i ∈ g
    · rw [if_pos hg]
      refine h.us k hk i hi ?_
      cases hq : usI T k i with
      | false => rfl
      | true =>
        exfalso
        refine hu (List.any_eq_true.2 ⟨T.ps.getD i ⟨0, 0, 0⟩, ?_, ?_⟩)
        · rw [List.getD_eq_getElem?_getD, List.getElem?_eq_getElem hi]; exact List.getElem_mem hi
        · rw [Bool.and_eq_true]; exact ⟨decide_eq_true hg, hq⟩
    · rw [if_neg hg]
theorem dvd_cob {T : Tr} {l g : List Int} {D : List (List Int)} (h : dveE T l D = 0) (hg : grB T.ps g = true) : cobE T l g = 8 ∧ faiB T l = true ∧ penE T l = 0 := by
  unfold dveE at h
  split at h
  · rename_i h0
    split at h
    · rename_i h1
      obtain ⟨hok, hlen, hb⟩ := penE_ok h0
      have hgr := dvd_group hlen (dvdV_of hok hlen h1) g
      refine ⟨?_, dvd_fair hok hlen hb h1, h0⟩
      unfold cobE
      rw [if_pos h0, if_pos hg, if_pos (by omega)]
    · cases h
  · exact absurd h (by assumption)
end Go.Proofs.Ythopgonbndoidaa
