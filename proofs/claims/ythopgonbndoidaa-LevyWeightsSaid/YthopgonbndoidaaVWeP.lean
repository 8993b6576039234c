/- Plain: a payer whose weight is parted. -/
import Derived.Test.YthopgonbndoidaaVWhP
namespace Go.Proofs.Ythopgonbndoidaa
open Go.RowKit Go.Shelf

/-- payer k has the weight n; a further one, with the ID d, has the rest -/
def weT (T : Tr) (k : Nat) (n d : Int) : Tr :=
  ⟨T.rs, T.ps.set k ⟨(T.ps.getD k ⟨0, 0, 0⟩).id, (T.ps.getD k ⟨0, 0, 0⟩).reach, n⟩ ++ [⟨d, (T.ps.getD k ⟨0, 0, 0⟩).reach, (T.ps.getD k ⟨0, 0, 0⟩).w - n⟩]⟩
theorem weT_len (T : Tr) (k : Nat) (n d : Int) : (weT T k n d).ps.length = T.ps.length + 1 := by simp [weT]
theorem weT_get {T : Tr} {k i : Nat} {n d : Int} (h : i < T.ps.length) : (weT T k n d).ps.getD i ⟨0, 0, 0⟩ = if i = k then ⟨(T.ps.getD k ⟨0, 0, 0⟩).id, (T.ps.getD k ⟨0, 0, 0⟩).reach, n⟩ else T.ps.getD i ⟨0, 0, 0⟩ := by
  show List.getD (_ ++ _) i _ = _
  rw [List.getD_eq_getElem?_getD, List.getElem?_append_left (by rw [List.length_set]; exact h), List.getElem?_set]
  by_cases e : i = k
  · subst e; rw [if_pos rfl, if_pos h, if_pos rfl]; rfl
  · rw [if_neg (fun q => e q.symm), if_neg e, List.getD_eq_getElem?_getD]
theorem weT_last {T : Tr} {k : Nat} {n d : Int} : (weT T k n d).ps.getD T.ps.length ⟨0, 0, 0⟩ = ⟨d, (T.ps.getD k ⟨0, 0, 0⟩).reach, (T.ps.getD k ⟨0, 0, 0⟩).w - n⟩ := by
  show List.getD (_ ++ _) _ _ = _
  rw [List.getD_eq_getElem?_getD, List.getElem?_append_right (by rw [List.length_set]; exact Nat.le_refl _), List.length_set, Nat.sub_self]
  rfl
theorem weT_us {T : Tr} {k i : Nat} {n d : Int} (h : i < T.ps.length) (r : Nat) : usI (weT T k n d) r i = usI T r i := by
  unfold usI
  rw [weT_get h]
  show usB T.rs _ r = _
  by_cases e : i = k
  · subst e; rw [if_pos rfl]
  · rw [if_neg e]
theorem weT_usl {T : Tr} {k : Nat} {n d : Int} (r : Nat) : usI (weT T k n d) r T.ps.length = usI T r k := by
  unfold usI
  rw [weT_last]
  rfl
theorem weT_wt {T : Tr} {k : Nat} (hk : k < T.ps.length) (n d : Int) (r : Nat) : wtA (weT T k n d).rs (weT T k n d).ps r = wtA T.rs T.ps r := by
  rw [wt_sum, wt_sum, weT_len, sumR, weT_usl]
  have e1 : wgI (weT T k n d) T.ps.length = wgI T k - n := by unfold wgI; rw [weT_last]
  have e2 : sumR T.ps.length (fun i => if usI (weT T k n d) r i = true then wgI (weT T k n d) i else 0) =
      sumR T.ps.length (fun i => if i = k then (if usI T r i = true then wgI T i else 0) + (if usI T r k = true then n - wgI T k else 0) else (if usI T r i = true then wgI T i else 0)) := by
    refine sumR_congr (fun i hi => ?_)
    rw [weT_us hi]
    unfold wgI
    rw [weT_get hi]
    by_cases e : i = k
    · subst e
      rw [if_pos rfl, if_pos rfl]
      by_cases hu : usI T r i = true
      · rw [if_pos hu, if_pos hu, if_pos hu]; show n = _; omega
      · rw [if_neg hu, if_neg hu, if_neg hu]; rfl
    · rw [if_neg e, if_neg e]
  rw [e2, sumR_one hk, e1]
  split <;> omega
/-- what a reach's payers pay by weight -/
def weB (T : Tr) (k : Nat) : Int := sumR T.rs.length (fun r => if usI T r k = true then cst T.rs r * (5354228880 / wtA T.rs T.ps r) else 0)
theorem sh_lin {T : Tr} (hok : Ok T) {k : Nat} (hk : k < T.ps.length) : shI T k = wgI T k * weB T k := by
  rw [(shares_DvM hok).col k hk]
  unfold weB
  rw [← sumR_mul]
  refine sumR_congr (fun r _ => ?_)
  unfold pcR pcX
  split
  · rw [Int.mul_comm (cst T.rs r) (wgI T k), Int.mul_assoc]
  · exact (Int.mul_zero _).symm
theorem weB_same {T : Tr} {k : Nat} (hk : k < T.ps.length) (n d : Int) {i : Nat} (hi : i < T.ps.length) : weB (weT T k n d) i = weB T i := by
  unfold weB
  show sumR T.rs.length _ = _
  refine sumR_congr (fun r _ => ?_)
  rw [weT_us hi, weT_wt hk]
  rfl
theorem weB_last {T : Tr} {k : Nat} (hk : k < T.ps.length) (n d : Int) : weB (weT T k n d) T.ps.length = weB T k := by
  unfold weB
  show sumR T.rs.length _ = _
  refine sumR_congr (fun r _ => ?_)
  rw [weT_usl, weT_wt hk]
  rfl
theorem we_other {T : Tr} (hok : Ok T) {k : Nat} (hk : k < T.ps.length) {n d : Int} (hok2 : Ok (weT T k n d)) {i : Nat} (hi : i < T.ps.length) (hik : i ≠ k) : shI (weT T k n d) i = shI T i := by
  rw [sh_lin hok hi, sh_lin hok2 (by rw [weT_len]; omega), weB_same hk n d hi]
  unfold wgI
  rw [weT_get hi, if_neg hik]
theorem we_parts {T : Tr} (hok : Ok T) {k : Nat} (hk : k < T.ps.length) {n d : Int} (hok2 : Ok (weT T k n d)) :
    shI (weT T k n d) k + shI (weT T k n d) T.ps.length = shI T k ∧ shI (weT T k n d) k * (wgI T k - n) = shI (weT T k n d) T.ps.length * n := by
  rw [sh_lin hok hk, sh_lin hok2 (show k < _ by rw [weT_len]; omega), sh_lin hok2 (show T.ps.length < _ by rw [weT_len]; omega), weB_same hk n d hk, weB_last hk n d]
  have e1 : wgI (weT T k n d) k = n := by unfold wgI; rw [weT_get hk, if_pos rfl]
  have e2 : wgI (weT T k n d) T.ps.length = wgI T k - n := by unfold wgI; rw [weT_last]
  rw [e1, e2]
  generalize weB T k = B
  generalize wgI T k = W
  constructor
  · rw [← Int.add_mul]; congr 1; omega
  · rw [Int.mul_comm n B, Int.mul_comm (W - n) B, Int.mul_assoc, Int.mul_assoc, Int.mul_comm n (W - n)]
end Go.Proofs.Ythopgonbndoidaa
