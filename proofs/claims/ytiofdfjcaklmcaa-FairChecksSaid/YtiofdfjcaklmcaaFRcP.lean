/- Plain, for the specification's Check: its test of those who may have a slot is the program's. -/
import Derived.Test.YtiofdfjcaklmcaaFPb
namespace Go.Proofs.Ytiofdfjcaklmcaa

def usR (P : Po) : Nat → Int → List Int → Bool
  | _, _, [] => false
  | j, last, u :: l => (decide (tnI P u < 0) || (decide (0 < j) && decide (u ≤ last))) || usR P (j + 1) u l
theorem usR_step {P : Po} {l : List Int} {last : Int} {k : Nat} (h : k < l.length) : usR P k last (l.drop k) = ((decide (tnI P l[k] < 0) || (decide (0 < k) && decide (l[k] ≤ last))) || usR P (k + 1) l[k] (l.drop (k + 1))) := by
  rw [drop_cons l k h, usR]
theorem usR_on {P : Po} : ∀ (l : List Int) (j : Nat) (last : Int), 0 < j → usR P j last l = usB P last l
  | [], _, _, _ => rfl
  | u :: l, j, last, hj => by
    rw [usR, usB, usR_on l (j + 1) u (by omega), decide_eq_true hj, Bool.true_and, Bool.or_comm (decide (tnI P u < 0))]
theorem usR_is {P : Po} (h : ∀ t ∈ P.ts, 1 ≤ t.id) (l : List Int) : usR P 0 0 l = usB P 0 l := by
  cases l with
  | nil => rfl
  | cons u l =>
    rw [usR, usB, usR_on l 1 u (by omega)]
    by_cases hu : u ≤ 0
    · have hn : tnI P u < 0 := tnI_none.2 (fun t ht e => by have := h t ht; omega)
      simp [hu, hn]
    · simp [hu]
/-- the tenants that passed have IDs above 0 -/
theorem te_pos {P : Po} : ∀ {l : List Te} {i : Nat}, teE P i l = 0 → ∀ t ∈ l, 1 ≤ t.id
  | [], _, _, _, ht => by cases ht
  | x :: l, i, h, t, ht => by
    rw [teE] at h
    split at h
    · rename_i h1
      split at h
      · cases h
      · rcases List.mem_cons.1 ht with rfl | ht
        · have := h1.1
          unfold inB at this
          simp only [Bool.and_eq_true, decide_eq_true_eq] at this
          omega
        · exact te_pos h t ht
    · cases h
end Go.Proofs.Ytiofdfjcaklmcaa
