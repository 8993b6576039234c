/- The laws' own inTurn and has. -/
import Derived.Test.YtejcmdoalhnpeaaGreatDoorAsk
namespace Go.Proofs.YtejcmdoalhnpeaaGreatDoor
open Go.RowKit Go.Shelf


/-- what has returns -/
def hasB (S : Mn) (n : Int) : Bool := decide (askE S n = 0) && mem S n
set_option maxHeartbeats 1000000 in
theorem has_any (a b : Value) (S : Mn) (n : Int) (w : World) (hS : MinsAt w a b S) :
    Calls Tryz.prog 13 #[.agg #[a, b], .int .i64 n] w fun e w' => e = .returned (.bool (hasB S n)) ∧ Ext w w' := by
  obtain ⟨aa, ca, rfl⟩ := hS.t.len
  obtain ⟨ab, cb, rfl⟩ := hS.s.len
  go_enter Tryz.func13, Tryz.ntmps13
  go_wp2_with fail
  refine (Holds_any _ _ S n _ (hS.ext (by repeat (first | exact Ext.refl _ | assumption | refine Ext.alloc ?_ _ | refine Ext.drew ?_ | refine Ext.drewN _ ?_ | refine Ext.trans ?_ (by assumption))))).mono ?_
  rintro e w1 ⟨rfl, hx1⟩
  cases hE : (askE S n == 0)
  · have h0 : askE S n ≠ 0 := by simpa using hE
    go_wp2_with fail
    go_ret
    exact ⟨ret_bool (by simp [hasB, h0]), (by repeat (first | exact Ext.refl _ | assumption | refine Ext.alloc ?_ _ | refine Ext.drew ?_ | refine Ext.drewN _ ?_ | refine Ext.trans ?_ (by assumption)))⟩
  · have h0 : askE S n = 0 := by simpa using hE
    go_wp2_with fail
    go_ret
    exact ⟨ret_bool (by simp [hasB, holdR, h0]), (by repeat (first | exact Ext.refl _ | assumption | refine Ext.alloc ?_ _ | refine Ext.drew ?_ | refine Ext.drewN _ ?_ | refine Ext.trans ?_ (by assumption)))⟩
end Go.Proofs.YtejcmdoalhnpeaaGreatDoor
