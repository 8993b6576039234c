/- TurnMinutes: the walk and the card. -/
import Derived.Test.YtejmmfjabmmihaaDoorSanity
import Derived.Test.YtejmmfjabmmihaaDoorFew
import Derived.Test.YtejmmfjabmmihaaDoorArgs
namespace Go.Proofs.YtejmmfjabmmihaaDoor
open Go.RowKit Go.Shelf

set_option maxRecDepth 100000 in
set_option maxHeartbeats 4000000 in
theorem TurnMinutes_any (a b : Value) (S : Mn) (p f l n : Int) (w : World) (hT : Tab w) (hS : MinsAt w a b S) :
    Calls Tryd.prog 11 #[.agg #[a, b], .agg #[.int .i64 p, .int .i64 f, .int .i64 l], .int .i64 n] w fun e w' => e = .returned (.bool true) ∧ Ext w w' := by
  obtain ⟨aa, ca, rfl⟩ := hS.t.len
  obtain ⟨ab, cb, rfl⟩ := hS.s.len
  go_enter Tryd.func11, Tryd.ntmps11
  go_wp2_with fail
  refine (few_any _ _ S _ (hS.ext (by repeat (first | exact Ext.refl _ | assumption | refine Ext.alloc ?_ _ | refine Ext.drew ?_ | refine Ext.drewN _ ?_ | refine Ext.trans ?_ (by assumption))))).mono ?_
  rintro e w1 ⟨rfl, hx1⟩
  obtain ⟨q0, q1, hx, hzz⟩ := alloc2 hx1
  clear hx1
  cases hf : fewB S
  · go_wp2_with fail
    refine (sanity_any _ (hT.ext hx)).mono ?_
    rintro e w2 ⟨rfl, hx2⟩
    go_wp2_with fail
    go_ret
    exact ⟨rfl, hx.trans hx2⟩
  · have d0 : w1.cell? ⟨w.heap.size, 0, none⟩ = some (.slice aa S.ts.length ca) := q0.cell 0
    have d1 : w1.cell? ⟨w.heap.size, 1, none⟩ = some (.slice ab S.ss.length cb) := q0.cell 1
    have d2 : w1.cell? ⟨w.heap.size + 1, 0, none⟩ = some (.int .i64 p) := q1.cell 0
    have d3 : w1.cell? ⟨w.heap.size + 1, 1, none⟩ = some (.int .i64 f) := q1.cell 1
    have d4 : w1.cell? ⟨w.heap.size + 1, 2, none⟩ = some (.int .i64 l) := q1.cell 2
    clear q0 q1
    go_wp2_with fail
    refine (Holds_any _ _ S _ _ (hS.ext hx)).mono ?_
    rintro e w2 ⟨rfl, hy⟩
    replace hx := hx.trans hy
    replace d0 := hy.cell d0
    replace d1 := hy.cell d1
    replace d2 := hy.cell d2
    replace d3 := hy.cell d3
    replace d4 := hy.cell d4
    clear hy
    go_wp2_with fail
    refine (RefHolds_any _ _ S _ _ (hS.ext hx)).mono ?_
    rintro e w3 ⟨rfl, hy⟩
    replace hx := hx.trans hy
    replace d0 := hy.cell d0
    replace d1 := hy.cell d1
    replace d2 := hy.cell d2
    replace d3 := hy.cell d3
    replace d4 := hy.cell d4
    clear hy
    go_wp2_with fail
    refine (Next_any _ _ S _ _ (hS.ext hx)).mono ?_
    rintro e w4 ⟨rfl, hy⟩
    replace hx := hx.trans hy
    replace d0 := hy.cell d0
    replace d1 := hy.cell d1
    replace d2 := hy.cell d2
    replace d3 := hy.cell d3
    replace d4 := hy.cell d4
    clear hy
    go_wp2_with fail
    refine (RefNext_any _ _ S _ _ (hS.ext hx)).mono ?_
    rintro e w5 ⟨rfl, hy⟩
    replace hx := hx.trans hy
    replace d0 := hy.cell d0
    replace d1 := hy.cell d1
    replace d2 := hy.cell d2
    replace d3 := hy.cell d3
    replace d4 := hy.cell d4
    clear hy
    go_wp2_with fail
    refine (Last_any _ _ S _ _ (hS.ext hx)).mono ?_
    rintro e w6 ⟨rfl, hy⟩
    replace hx := hx.trans hy
    replace d0 := hy.cell d0
    replace d1 := hy.cell d1
    replace d2 := hy.cell d2
    replace d3 := hy.cell d3
    replace d4 := hy.cell d4
    clear hy
    go_wp2_with fail
    refine (RefLast_any _ _ S _ _ (hS.ext hx)).mono ?_
    rintro e w7 ⟨rfl, hy⟩
    replace hx := hx.trans hy
    replace d0 := hy.cell d0
    replace d1 := hy.cell d1
    replace d2 := hy.cell d2
    replace d3 := hy.cell d3
    replace d4 := hy.cell d4
    clear hy
    have hS7 := hS.ext hx
    have hT7 := hT.ext hx
    clear hS hT
    go_wp2_with fail
    go_region_held3 (fun W' => W'.cell? ⟨w.heap.size, 0, none⟩ = some (.slice aa S.ts.length ca) ∧ W'.cell? ⟨w.heap.size, 1, none⟩ = some (.slice ab S.ss.length cb) ∧ W'.cell? ⟨w.heap.size + 1, 0, none⟩ = some (.int .i64 p) ∧ W'.cell? ⟨w.heap.size + 1, 1, none⟩ = some (.int .i64 f) ∧ W'.cell? ⟨w.heap.size + 1, 2, none⟩ = some (.int .i64 l) ∧ Ext w7 W')
      ((refine ⟨Ext.cell (w := w7) ?_ d0, Ext.cell (w := w7) ?_ d1, Ext.cell (w := w7) ?_ d2, Ext.cell (w := w7) ?_ d3, Ext.cell (w := w7) ?_ d4, ?_⟩; all_goals exact (by repeat (first | exact Ext.refl _ | assumption | refine Ext.alloc ?_ _ | refine Ext.drew ?_ | refine Ext.drewN _ ?_ | refine Ext.trans ?_ (by assumption)))))
      ((first | (go_at_call 19; refine (sanity_any _ (hT7.ext (by repeat (first | exact Ext.refl _ | assumption | refine Ext.alloc ?_ _ | refine Ext.drew ?_ | refine Ext.drewN _ ?_ | refine Ext.trans ?_ (by assumption))))).mono ?_; rintro e w' ⟨rfl, hz⟩) | (go_at_call 52; refine (CheckTurn_any _ _ _ _).mono ?_; rintro e w' ⟨rfl, hz⟩) | (go_at_call 53; refine (RefCheckTurn_any _ _ _ _).mono ?_; rintro e w' ⟨rfl, hz⟩) | (go_at_call 54; refine (Check_any _ _ S _ (hS7.ext (by repeat (first | exact Ext.refl _ | assumption | refine Ext.alloc ?_ _ | refine Ext.drew ?_ | refine Ext.drewN _ ?_ | refine Ext.trans ?_ (by assumption))))).mono ?_; rintro e w' ⟨rfl, hz⟩) | (go_at_call 55; refine (RefCheck_any _ _ S _ (hS7.ext (by repeat (first | exact Ext.refl _ | assumption | refine Ext.alloc ?_ _ | refine Ext.drew ?_ | refine Ext.drewN _ ?_ | refine Ext.trans ?_ (by assumption))))).mono ?_; rintro e w' ⟨rfl, hz⟩)))
    all_goals
      go_wp2_with fail
      go_ret
      exact ⟨ret_bool (by simp), (by repeat (first | exact Ext.refl _ | assumption | refine Ext.alloc ?_ _ | refine Ext.drew ?_ | refine Ext.drewN _ ?_ | refine Ext.trans ?_ (by assumption)))⟩
end Go.Proofs.YtejmmfjabmmihaaDoor
namespace Go.Proofs.YtejmmfjabmmihaaDoor.turnMinutes
open Go.ChangeShapes Go.WideShapes Go.ChangeAt Go.RowKit

set_option maxRecDepth 100000 in
theorem contract (H : Type) (enc : TypeId × Value → H) (W : World) (base : Nat) (args : Array Value) (ds gs : List (DataW H)) (before : List MemPlace)
    (hval : ∀ (j : Nat) t v, Tryd.f11.params[j]? = some t → args[j]? = some v → Value.okWide Tryd.prog W .any base t v)
    (hW : DataW.Whole enc Tryd.prog Tryd.f11.params.toList Rows.turnMinutesSpec.vars false W args.toList ds gs before) (hL : laidMetH Tryd.prog Rows.turnMinutesRow.laid W) :
    Calls Tryd.prog 11 args W fun e W' => ∃ v, e = .returned v ∧ Rows.turnMinutesSpec.post enc Tryd.prog Tryd.f11 false true false false W args v W' := by
  have hW' := hW
  obtain ⟨p, q, hA, hV, rfl, hfz, hnd⟩ := hW
  rw [show Tryd.f11.params = #[34, 23, 3] from rfl] at hA hval
  obtain ⟨v0, vs0, d0, ds0, p0, q0, hargs, rfl, rfl, h0, r0⟩ := trodAll_cons hA
  obtain ⟨v1, vs1, d1, ds1, p1, q1, rfl, rfl, rfl, h1, r1⟩ := trodAll_cons r0
  obtain ⟨v2, vs2, d2, ds2, p2, q2, rfl, rfl, rfl, h2, r2⟩ := trodAll_cons r1
  obtain ⟨rfl, rfl, rfl⟩ := trodAll_nil r2
  obtain rfl : args = #[v0, v1, v2] := by cases args; simp_all
  obtain ⟨rfl, rfl⟩ := trodVars_none hV
  obtain ⟨x0, y0, S0, rfl, hS0⟩ := open_minutes (hval 0 34 v0 rfl rfl) h0
  obtain ⟨x1, y1, z1, rfl⟩ := open_turn (hval 1 23 v1 rfl rfl) h1
  obtain ⟨x2, rfl, hd2, hp2, hf2⟩ := open_int Tryd.underlying3 (hval 2 3 v2 rfl rfl) h2
  refine (TurnMinutes_any _ _ S0 _ _ _ _ W (tab_of hL) hS0).mono fun e W' ⟨he, hg⟩ => ?_
  subst he
  refine ⟨_, rfl, post_true hW' rfl rfl ⟨rfl, rfl, rfl⟩ ?_ hg⟩
  rw [show Tryd.f11.params = #[34, 23, 3] from rfl]
  intro t ht
  simp only [List.mem_cons, List.not_mem_nil, or_false] at ht
  rcases ht with rfl | rfl | rfl <;> exact ⟨by kernel_rfl, of_decide_eq_true (by kernel_rfl)⟩

noncomputable def wArgs : Array Value := #[.agg #[.slice none 0 0, .slice none 0 0], .agg #[.int .i64 0, .int .i64 0, .int .i64 0], .int .i64 0]
set_option maxRecDepth 100000 in
theorem laid_met (os : Os) : laidMet Tryd.prog Rows.turnMinutesRow.laid ((laidWorld os).forCall (fun _ _ => 0) ⟨#[], wArgs, []⟩).memory :=
  laidMet_of_run' 8 (by kernel_rfl) (by kernel_rfl)
set_option maxRecDepth 100000 in
theorem reads (os : Os) {H : Type} (enc : TypeId × Value → H) : ∃ x places, DataW.whole enc Tryd.prog ((laidWorld os).forCall (fun _ _ => 0) ⟨#[], wArgs, []⟩).memory Tryd.f11.params.toList Rows.turnMinutesSpec.vars false wArgs.toList 8 = some (x, [], places) :=
  ⟨[.agg [.nil, .nil], .agg [.lit (.int .i64 0), .lit (.int .i64 0), .lit (.int .i64 0)], .lit (.int .i64 0)], [], by kernel_rfl⟩

set_option maxRecDepth 100000 in
theorem lifted (os : Os) (started : os.Started) (H : Type) (enc : TypeId × Value → H) (F : Stop.Interp) :
    ReturnsInHanded {} Tryd.checked os 11 .any ((OpenSpec.ofChange Rows.turnMinutesSpec).preRow enc Tryd.prog Tryd.f11 Rows.turnMinutesRow.domain false Rows.turnMinutesRow.laid) (((OpenSpec.ofChange Rows.turnMinutesSpec).at F).post enc Tryd.prog Tryd.f11 false true false false) := by
  obtain ⟨x, places, hx⟩ := reads os enc
  refine returnsInHanded_of_row (C := Tryd.checked) (s := OpenSpec.ofChange Rows.turnMinutesSpec) own started (by kernel_rfl) Tryd.func11
    (witness_row_at (enc := enc) (C := Tryd.checked) false (laidWorld os) wArgs rfl (by kernel_rfl) (by kernel_rfl) (by kernel_rfl)
      (OpenSpec.preRow_of_cond 8 hx (by kernel_rfl) (fun k hk => by cases hk) (by kernel_rfl) (laid_met os))) ?_
  intro W base args ds gs before hval hW _ _ _ hL _ _
  exact contract H enc W base args ds gs before hval hW hL

set_option maxRecDepth 100000 in
theorem said : Rows.TurnMinutesSaid :=
  OpenClaim.holds_of_cond 11 Tryd.f11 rfl rfl rfl rfl rfl rfl rfl ⟨rfl, rfl, rfl, rfl, rfl⟩ rfl rfl rfl rfl rfl (by kernel_rfl) Tryd.func11 (by kernel_rfl)
    (of_decide_eq_true (by kernel_rfl)) (by unfold Func.isWrapper; first | (rw [if_pos (by decide +kernel)]; kernel_rfl) | (rw [if_neg (by decide +kernel)]; exact ⟨rfl, rfl⟩))
    (fun os started H enc _ F => by rw [OpenClaim.pre_eq_preRow]; exact lifted os started H enc F)

set_option maxRecDepth 100000 in
theorem plain (f : FuncId) (fn : Func) (hf : Tryd.pinned.checked.prog.funcNamed "drowner/drownerlaw01.TurnMinutes" = some f) (hfn : Tryd.pinned.checked.prog.funcs[f]? = some fn) :
    false = Tryd.pinned.checked.prog.looks [] ∧ ∀ (j : Nat) t, fn.params[j]? = some t → Tryd.pinned.checked.prog.wantsStandIn t = false := by
  obtain rfl : f = 11 := Option.some.inj ((show Tryd.prog.funcNamed "drowner/drownerlaw01.TurnMinutes" = some 11 by kernel_rfl).symm.trans hf) |>.symm
  obtain rfl : fn = Tryd.f11 := (Option.some.inj (Tryd.func11.symm.trans hfn)).symm
  refine ⟨by kernel_rfl, fun j t ht => ?_⟩
  rw [show Tryd.f11.params = #[34, 23, 3] from rfl] at ht
  have hm := Array.mem_of_getElem? ht
  simp only [List.mem_toArray, List.mem_cons, List.not_mem_nil, or_false] at hm
  rcases hm with rfl | rfl | rfl
  · exact (show Tryd.prog.wantsStandIn 34 = false by kernel_rfl)
  · exact (show Tryd.prog.wantsStandIn 23 = false by kernel_rfl)
  · exact (show Tryd.prog.wantsStandIn 3 = false by kernel_rfl)

set_option maxRecDepth 100000 in
theorem card : Rows.TurnMinutesCardSaid :=
  Claim7.holds_tied_plain_at .later [] _ _ _ _ said (fun _ h => by cases h) (by kernel_rfl) (fun _ h => by cases h) turnMinutes_row_tie rfl ⟨rfl, rfl⟩ (by kernel_rfl) rfl plain (by kernel_rfl)
end Go.Proofs.YtejmmfjabmmihaaDoor.turnMinutes
