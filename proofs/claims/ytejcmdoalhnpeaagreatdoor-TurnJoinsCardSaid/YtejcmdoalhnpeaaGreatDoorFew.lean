/- The laws' own test of a set's size. -/
import Derived.Test.YtejcmdoalhnpeaaGreatDoorCheck
namespace Go.Proofs.YtejcmdoalhnpeaaGreatDoor
open Go.RowKit

def fewB (S : Mn) : Bool := (decide (S.ts.length ≤ 6) || decide (24 < S.ts.length) && decide (S.ts.length ≤ 30)) && (decide (S.ss.length ≤ 8) || decide (40 < S.ss.length) && decide (S.ss.length ≤ 50))
set_option maxRecDepth 100000 in
set_option maxHeartbeats 2000000 in
theorem few_any (a b : Value) (S : Mn) (w : World) (hS : MinsAt w a b S) :
    Calls Tryz.prog 11 #[.agg #[a, b]] w fun e w' => e = .returned (.bool (fewB S)) ∧ Ext w w' := by
  obtain ⟨aa, ca, rfl⟩ := hS.t.len
  obtain ⟨ab, cb, rfl⟩ := hS.s.len
  have ht : S.ts.length ≤ 6 ∨ (6 < S.ts.length ∧ S.ts.length ≤ 24) ∨ (24 < S.ts.length ∧ S.ts.length ≤ 30) ∨ 30 < S.ts.length := by omega
  have hs : S.ss.length ≤ 8 ∨ (8 < S.ss.length ∧ S.ss.length ≤ 40) ∨ (40 < S.ss.length ∧ S.ss.length ≤ 50) ∨ 50 < S.ss.length := by omega
  have hF : fewB S = decide ((S.ts.length ≤ 6 ∨ 24 < S.ts.length ∧ S.ts.length ≤ 30) ∧ (S.ss.length ≤ 8 ∨ 40 < S.ss.length ∧ S.ss.length ≤ 50)) := by simp [fewB]
  have HF := Lib.hid hF
  clear hF hS
  rcases ht with ht | ht | ht | ht <;> rcases hs with hs | hs | hs | hs
  all_goals
    go_enter Tryz.func11, Tryz.ntmps11
    go_wp2_with fail
    go_ret
    exact ⟨ret_bool (by rw [HF.out, Bool.eq_iff_iff]; simp only [decide_eq_true_eq, Bool.or_eq_true, Bool.and_eq_true, Bool.false_eq_true, true_iff, false_iff]; omega), (by repeat (first | exact Ext.refl _ | assumption | refine Ext.alloc ?_ _ | refine Ext.drew ?_ | refine Ext.drewN _ ?_ | refine Ext.trans ?_ (by assumption)))⟩
end Go.Proofs.YtejcmdoalhnpeaaGreatDoor
