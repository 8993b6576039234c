/- What the closures of next, end and Last tell of a part of a set. -/
import Derived.Test.YtejcmdoalhnpeaaGreatDoorParts
namespace Go.Proofs.YtejcmdoalhnpeaaGreatDoor
open Go.RowKit Go.Shelf

/-- a method of an interface value is looked up -/
theorem upon_method {P : Program} {o : Oper} {a : Act} {K : Act → World → Prop} {Q : Exit → Act → World → Prop} {m : Sem (FuncId × Value)} {w : World} {r : FuncId × Value} {g : FuncId × Value → World → Result Next}
    (e : Sem.run P m w = .ok r w) (h : o.upon P a K Q (g r w)) : o.upon P a K Q ((Sem.run P m w).andThen g) := by
  rw [e]; exact h

set_option maxRecDepth 100000 in
set_option maxHeartbeats 400000 in
theorem next1T_any (p f l n : Int) (Bn : Nat) (w : World) (hn : w.cell? ⟨Bn, 0, none⟩ = some (.int .i64 n)) (hp : tnB p f l = true) (h1 : -2000000000000000 ≤ n) (h2 : n ≤ 2000000000000000) :
    Calls Tryz.prog 75 #[.iface 128 (.agg #[.int .i64 p, .int .i64 f, .int .i64 l]), .pointer (some ⟨Bn, 0, none⟩)] w fun e w' => e = .returned (.int .i64 (tnNext p f l n)) ∧ Ext w w' := by
  go_enter Tryz.func75, Tryz.ntmps75
  go_wp2_with fail
  refine upon_method (r := (78, .agg #[.int .i64 p, .int .i64 f, .int .i64 l])) (by kernel_rfl) ?_
  go_wp2_with (go_at_call 78; refine (againNext_any _ _ _ _ _ hp h1 h2).mono ?_; rintro e w' ⟨rfl, hx⟩)
  go_ret
  exact ⟨rfl, (by repeat (first | exact Ext.refl _ | assumption | refine Ext.alloc ?_ _ | refine Ext.drew ?_ | refine Ext.drewN _ ?_ | refine Ext.trans ?_ (by assumption)))⟩

set_option maxRecDepth 100000 in
set_option maxHeartbeats 400000 in
theorem next1S_any (lo hi n : Int) (Bn : Nat) (w : World) (hn : w.cell? ⟨Bn, 0, none⟩ = some (.int .i64 n))  :
    Calls Tryz.prog 75 #[.iface 140 (.agg #[.int .i64 lo, .int .i64 hi]), .pointer (some ⟨Bn, 0, none⟩)] w fun e w' => e = .returned (.int .i64 (spNext lo hi n)) ∧ Ext w w' := by
  go_enter Tryz.func75, Tryz.ntmps75
  go_wp2_with fail
  refine upon_method (r := (146, .agg #[.int .i64 lo, .int .i64 hi])) (by kernel_rfl) ?_
  go_wp2_with (go_at_call 146; refine (onceNext_any _ _ _ _).mono ?_; rintro e w' ⟨rfl, hx⟩)
  go_ret
  exact ⟨rfl, (by repeat (first | exact Ext.refl _ | assumption | refine Ext.alloc ?_ _ | refine Ext.drew ?_ | refine Ext.drewN _ ?_ | refine Ext.trans ?_ (by assumption)))⟩



/-- the end of the run of a part in which one lies; 'out' if it does not -/
def tellEndT (p f l n out : Int) : Int := if tnIn p f l n then tnEnd p f l n else out
def tellEndS (lo hi n out : Int) : Int := if inB n lo hi then hi else out

set_option maxRecDepth 100000 in
set_option maxHeartbeats 400000 in
theorem end1T_any (p f l n out : Int) (Bn Bo : Nat) (w : World) (hn : w.cell? ⟨Bn, 0, none⟩ = some (.int .i64 n)) (ho : w.cell? ⟨Bo, 0, none⟩ = some (.int .i64 out)) (hp : tnB p f l = true) (h1 : -2000000000000000 ≤ n) (h2 : n ≤ 2000000000000000) :
    Calls Tryz.prog 93 #[.iface 128 (.agg #[.int .i64 p, .int .i64 f, .int .i64 l]), .pointer (some ⟨Bn, 0, none⟩), .pointer (some ⟨Bo, 0, none⟩)] w fun e w' => e = .returned (.int .i64 (tellEndT p f l n out)) ∧ Ext w w' := by
  go_enter Tryz.func93, Tryz.ntmps93
  go_wp2_with fail
  refine upon_method (r := (79, .agg #[.int .i64 p, .int .i64 f, .int .i64 l])) (by kernel_rfl) ?_
  go_wp2_with (go_at_call 79; refine (againEnd_any _ _ _ _ _ hp h1 h2).mono ?_; rintro e w' ⟨rfl, hx⟩; have ho2 := hx.cell ho)
  · go_ret
    exact ⟨ret_int (by unfold tellEndT; rw [if_pos (by assumption)]), (by repeat (first | exact Ext.refl _ | assumption | refine Ext.alloc ?_ _ | refine Ext.drew ?_ | refine Ext.drewN _ ?_ | refine Ext.trans ?_ (by assumption)))⟩
  · go_ret
    exact ⟨ret_int (by unfold tellEndT; rw [if_neg (by simp_all)]), (by repeat (first | exact Ext.refl _ | assumption | refine Ext.alloc ?_ _ | refine Ext.drew ?_ | refine Ext.drewN _ ?_ | refine Ext.trans ?_ (by assumption)))⟩

set_option maxRecDepth 100000 in
set_option maxHeartbeats 400000 in
theorem end1S_any (lo hi n out : Int) (Bn Bo : Nat) (w : World) (hn : w.cell? ⟨Bn, 0, none⟩ = some (.int .i64 n)) (ho : w.cell? ⟨Bo, 0, none⟩ = some (.int .i64 out))  :
    Calls Tryz.prog 93 #[.iface 140 (.agg #[.int .i64 lo, .int .i64 hi]), .pointer (some ⟨Bn, 0, none⟩), .pointer (some ⟨Bo, 0, none⟩)] w fun e w' => e = .returned (.int .i64 (tellEndS lo hi n out)) ∧ Ext w w' := by
  go_enter Tryz.func93, Tryz.ntmps93
  go_wp2_with fail
  refine upon_method (r := (144, .agg #[.int .i64 lo, .int .i64 hi])) (by kernel_rfl) ?_
  go_wp2_with (go_at_call 144; refine (onceEnd_any _ _ _ _).mono ?_; rintro e w' ⟨rfl, hx⟩; have ho2 := hx.cell ho)
  · go_ret
    exact ⟨ret_int (by unfold tellEndS; rw [if_pos (by assumption)]), (by repeat (first | exact Ext.refl _ | assumption | refine Ext.alloc ?_ _ | refine Ext.drew ?_ | refine Ext.drewN _ ?_ | refine Ext.trans ?_ (by assumption)))⟩
  · go_ret
    exact ⟨ret_int (by unfold tellEndS; rw [if_neg (by simp_all)]), (by repeat (first | exact Ext.refl _ | assumption | refine Ext.alloc ?_ _ | refine Ext.drew ?_ | refine Ext.drewN _ ?_ | refine Ext.trans ?_ (by assumption)))⟩


end Go.Proofs.YtejcmdoalhnpeaaGreatDoor
