/- Plain: a reach has users; what a group pays; the answer of CheckObjection. -/
import Derived.Test.YthopgonbndoidaaVPnP
import Derived.Test.YthopgonbndoidaaVRAl
namespace Go.Proofs.Ythopgonbndoidaa
open Go.RowKit Go.Shelf

theorem usrL_used (T : Tr) (k : Nat) : 0 < (usrL T.rs k T.ps).length ↔ usedB T k = true := by
  unfold usedB
  rw [List.any_eq_true]
  constructor
  · intro h
    obtain ⟨u, hu⟩ := List.exists_mem_of_length_pos h
    obtain ⟨p, hp, h1, _⟩ := usrL_mem.1 hu
    exact ⟨p, hp, h1⟩
  · rintro ⟨p, hp, h1⟩
    exact List.length_pos_of_mem (usrL_mem.2 ⟨p, hp, h1, rfl⟩)
/-- what a group pays -/
def pdS (g : List Int) (n : Int) (q : Py × Int) : Int := if decide (q.1.id ∈ g) = true then n + q.2 else n
def pdL (g : List Int) (z : List (Py × Int)) : Int := z.foldl (pdS g) 0
theorem pdL_snoc (g : List Int) (z : List (Py × Int)) (q : Py × Int) : pdL g (z ++ [q]) = pdS g (pdL g z) q := by simp [pdL]
theorem pdL_bd (g : List Int) (z : List (Py × Int)) (h : ∀ q ∈ z, 0 ≤ q.2 ∧ q.2 ≤ 1073741824) : 0 ≤ pdL g z ∧ pdL g z ≤ z.length * 1073741824 := by
  induction z using snoc_ind with
  | h0 => simp [pdL]
  | h1 z q ih =>
    have i := ih (fun q hq => h q (by simp [hq]))
    have j := h q (by simp)
    rw [pdL_snoc, List.length_append, List.length_singleton]
    unfold pdS
    push_cast
    split <;> omega
theorem zip_bd {T : Tr} {l : List Int} (hb : ∀ n ∈ l, 0 ≤ n ∧ n ≤ 1073741824) (j : Nat) : ∀ q ∈ (T.ps.zip l).take j, 0 ≤ q.2 ∧ q.2 ≤ 1073741824 :=
  fun q hq => hb _ (List.of_mem_zip (show (q.1, q.2) ∈ T.ps.zip l from List.mem_of_mem_take hq)).2
theorem pdL_take_bd {T : Tr} {l : List Int} (g : List Int) (hb : ∀ n ∈ l, 0 ≤ n ∧ n ≤ 1073741824) (hl : l.length ≤ 24) (j : Nat) : 0 ≤ pdL g ((T.ps.zip l).take j) ∧ pdL g ((T.ps.zip l).take j) ≤ 25769803776 := by
  have h := pdL_bd g _ (zip_bd (T := T) hb j)
  have hlen : ((T.ps.zip l).take j).length ≤ 24 := by simp; omega
  have : (((T.ps.zip l).take j).length : Int) * 1073741824 ≤ 24 * 1073741824 := Int.mul_le_mul_of_nonneg_right (by omega) (by decide)
  omega
/-- CheckObjection's answer -/
def cobE (T : Tr) (l g : List Int) : Int := if penE T l = 0 then (if grB T.ps g = true then (if pdL g (T.ps.zip l) - alnG T g < 1 then 8 else 0) else 1) else penE T l
def cobN (T : Tr) (l g : List Int) : Int := if cobE T l g = 0 then pdL g (T.ps.zip l) - alnG T g else 0
end Go.Proofs.Ythopgonbndoidaa
