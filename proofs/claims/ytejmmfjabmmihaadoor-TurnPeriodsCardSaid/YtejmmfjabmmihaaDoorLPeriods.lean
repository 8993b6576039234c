/- TurnPeriods: the walk and the card. -/
import Derived.Test.YtejmmfjabmmihaaDoorSanity
import Derived.Test.YtejmmfjabmmihaaDoorArgs
import Derived.Test.YtejmmfjabmmihaaDoorSame
import Derived.Test.YtejmmfjabmmihaaDoorFew
import Derived.Test.YtejmmfjabmmihaaDoorPer
import Derived.Test.YtejmmfjabmmihaaDoorFewR
import Derived.ChangeMaps5
namespace Go.Proofs.YtejmmfjabmmihaaDoor
open Go.RowKit Go.Shelf

theorem fewX_len (S : Mn) : (fewX S).ts.length ≤ 24 ∧ (fewX S).ss.length ≤ 24 := by
  unfold fewX
  split
  · split
    · exact ⟨by simp, by simp⟩
    · exact ⟨by simp only; omega, by simp⟩
  · exact ⟨by simp, by simp⟩

set_option maxRecDepth 100000 in
set_option maxHeartbeats 4000000 in
theorem Periods_main (a b : Value) (S : Mn) (w : World) (hT : Tab w) (hS : MinsAt w a b S) (hf : fewB S = true) (hs : soonB S 2520 = true) :
    Calls Tryd.prog 10 #[.agg #[a, b]] w fun e w' => e = .returned (.bool true) ∧ Ext w w' := by
  obtain ⟨hl1, hl2⟩ := fewX_len S
  have HF := Lib.hid hf
  have HS := Lib.hid hs
  obtain ⟨N, hN⟩ : ∃ N, perX S = N := ⟨_, rfl⟩
  obtain ⟨E, hE⟩ : ∃ E, whlE S = E := ⟨_, rfl⟩
  obtain ⟨E2, hE2⟩ : ∃ E2, fewE S = E2 := ⟨_, rfl⟩
  obtain ⟨X, hX⟩ : ∃ X, fewX S = X := ⟨_, rfl⟩
  rw [hX] at hl1 hl2
  have HN := Lib.hid hN
  have HE := Lib.hid hE
  have HE2 := Lib.hid hE2
  have HX := Lib.hid hX
  clear hf hs hN hE hE2 hX
  go_enter Tryd.func10, Tryd.ntmps10
  go_wp2_with fail
  refine (few_any _ _ S _ (hS.ext (by repeat (first | exact Ext.refl _ | assumption | refine Ext.alloc ?_ _ | refine Ext.drew ?_ | refine Ext.drewN _ ?_ | refine Ext.trans ?_ (by assumption))))).mono ?_
  rw [HF.out]
  rintro e w1 ⟨rfl, hx1⟩
  obtain ⟨q0, hx, hzz⟩ := alloc1 hx1
  have d0 : w1.cell? ⟨w.heap.size, 0, none⟩ = some a := q0.cell 0
  have d1 : w1.cell? ⟨w.heap.size, 1, none⟩ = some b := q0.cell 1
  clear hx1 q0 hzz
  go_wp2_with fail
  refine (soon_any _ _ S 2520 _ (hS.ext hx)).mono ?_
  rw [HS.out]
  rintro e w2 ⟨rfl, hy⟩
  replace d0 := hy.cell d0
  replace d1 := hy.cell d1
  replace hx := hx.trans hy
  clear hy
  go_wp2_with fail
  refine (Period_any _ _ S _ (hS.ext hx)).mono ?_
  rw [HN.out, HE.out]
  rintro e w3 ⟨rfl, hy⟩
  replace d0 := hy.cell d0
  replace d1 := hy.cell d1
  replace hx := hx.trans hy
  clear hy
  go_wp2_with fail
  refine (RefPeriod_any _ _ S _ (hS.ext hx)).mono ?_
  unfold FoundPost
  rw [HN.out, HE.out]
  rintro e w4 ⟨rfl, hy⟩
  replace d0 := hy.cell d0
  replace d1 := hy.cell d1
  replace hx := hx.trans hy
  clear hy
  obtain ⟨W4, hW4⟩ : ∃ W4, w4.alloc (.cells #[.int .i64 N, .int .i64 E] 68) = W4 := ⟨_, rfl⟩
  have hy : Ext w4 W4 := by rw [← hW4]; exact (by repeat (first | exact Ext.refl _ | assumption | refine Ext.alloc ?_ _ | refine Ext.drew ?_ | refine Ext.drewN _ ?_ | refine Ext.trans ?_ (by assumption)))
  have p0 : W4.cell? ⟨w4.heap.size, 0, none⟩ = some (.int .i64 N) := by rw [← hW4]; exact cell_at_new _ _ _ _ _ _ rfl rfl
  have p1 : W4.cell? ⟨w4.heap.size, 1, none⟩ = some (.int .i64 E) := by rw [← hW4]; exact cell_at_new _ _ _ _ _ _ rfl rfl
  replace d0 := hy.cell d0
  replace d1 := hy.cell d1
  replace hx := hx.trans hy
  clear hy
  go_wp2_with fail
  refine (Fewest_any _ _ S _ (hS.ext hx)).mono ?_
  intro e w5 hpp
  replace hpp : FewPost S W4 e w5 := hpp
  revert hpp
  unfold FewPost
  rw [HE2.out, HX.out]
  rintro ⟨va, vb, rfl, hm, hy⟩
  obtain ⟨aa1, ca1, rfl⟩ := hm.t.len
  obtain ⟨ab1, cb1, rfl⟩ := hm.s.len
  replace d0 := hy.cell d0
  replace d1 := hy.cell d1
  replace p0 := hy.cell p0
  replace p1 := hy.cell p1
  replace hx := hx.trans hy
  clear hy hW4
  obtain ⟨W5, hW5⟩ : ∃ W5, w5.alloc (.cells #[.slice aa1 X.ts.length ca1, .slice ab1 X.ss.length cb1] 34) = W5 := ⟨_, rfl⟩
  have hy : Ext w5 W5 := by rw [← hW5]; exact (by repeat (first | exact Ext.refl _ | assumption | refine Ext.alloc ?_ _ | refine Ext.drew ?_ | refine Ext.drewN _ ?_ | refine Ext.trans ?_ (by assumption)))
  have r0 : W5.cell? ⟨w5.heap.size, 0, none⟩ = some (.slice aa1 X.ts.length ca1) := by rw [← hW5]; exact cell_at_new _ _ _ _ _ _ rfl rfl
  have r1 : W5.cell? ⟨w5.heap.size, 1, none⟩ = some (.slice ab1 X.ss.length cb1) := by rw [← hW5]; exact cell_at_new _ _ _ _ _ _ rfl rfl
  replace d0 := hy.cell d0
  replace d1 := hy.cell d1
  replace p0 := hy.cell p0
  replace p1 := hy.cell p1
  replace hx := hx.trans hy
  replace hm := hm.ext hy
  clear hy
  go_wp2_with fail
  refine (RefFewest_any _ _ S _ (hS.ext hx)).mono ?_
  intro e w6 hpp
  replace hpp : SetPost (fewX S) (fewE S) W5 e w6 := hpp
  revert hpp
  unfold SetPost
  rw [HE2.out, HX.out]
  rintro ⟨vc, vd, rfl, hm2, hy⟩
  obtain ⟨aa2, ca2, rfl⟩ := hm2.t.len
  obtain ⟨ab2, cb2, rfl⟩ := hm2.s.len
  replace d0 := hy.cell d0
  replace d1 := hy.cell d1
  replace p0 := hy.cell p0
  replace p1 := hy.cell p1
  replace r0 := hy.cell r0
  replace r1 := hy.cell r1
  replace hx := hx.trans hy
  replace hm := hm.ext hy
  clear hy hW5
  obtain ⟨W6, hW6⟩ : ∃ W6, w6.alloc (.cells #[.slice aa2 X.ts.length ca2, .slice ab2 X.ss.length cb2, .int .i64 E2] 73) = W6 := ⟨_, rfl⟩
  have hy : Ext w6 W6 := by rw [← hW6]; exact (by repeat (first | exact Ext.refl _ | assumption | refine Ext.alloc ?_ _ | refine Ext.drew ?_ | refine Ext.drewN _ ?_ | refine Ext.trans ?_ (by assumption)))
  have s0 : W6.cell? ⟨w6.heap.size, 0, none⟩ = some (.slice aa2 X.ts.length ca2) := by rw [← hW6]; exact cell_at_new _ _ _ _ _ _ rfl rfl
  have s1 : W6.cell? ⟨w6.heap.size, 1, none⟩ = some (.slice ab2 X.ss.length cb2) := by rw [← hW6]; exact cell_at_new _ _ _ _ _ _ rfl rfl
  have s2 : W6.cell? ⟨w6.heap.size, 2, none⟩ = some (.int .i64 E2) := by rw [← hW6]; exact cell_at_new _ _ _ _ _ _ rfl rfl
  replace p0 := hy.cell p0
  replace p1 := hy.cell p1
  replace r0 := hy.cell r0
  replace r1 := hy.cell r1
  replace hx := hx.trans hy
  replace hm := hm.ext hy
  replace hm2 := hm2.ext hy
  clear hy d0 d1
  go_wp2_with fail
  refine (sanity_any _ (hT.ext hx)).mono ?_
  rintro e w7 ⟨rfl, hy⟩
  replace p0 := hy.cell p0
  replace p1 := hy.cell p1
  replace r0 := hy.cell r0
  replace r1 := hy.cell r1
  replace s0 := hy.cell s0
  replace s1 := hy.cell s1
  replace s2 := hy.cell s2
  replace hx := hx.trans hy
  replace hm := hm.ext hy
  replace hm2 := hm2.ext hy
  clear hy hW6
  go_wp2_with fail
  refine (SameSet_any _ _ _ _ X X _ hm hm2 (by omega) (by omega) (by omega) (by omega)).mono ?_
  rw [mnEq_self]
  rintro e w8 ⟨rfl, hy⟩
  replace s2 := hy.cell s2
  go_wp2_with fail
  go_ret
  exact ⟨ret_bool (by simp), hx.trans hy⟩

set_option maxRecDepth 100000 in
set_option maxHeartbeats 4000000 in
theorem TurnPeriods_any (a b : Value) (S : Mn) (w : World) (hT : Tab w) (hS : MinsAt w a b S) :
    Calls Tryd.prog 10 #[.agg #[a, b]] w fun e w' => e = .returned (.bool true) ∧ Ext w w' := by
  cases hf : fewB S
  · go_enter Tryd.func10, Tryd.ntmps10
    go_wp2_with fail
    refine (few_any _ _ S _ (hS.ext (by repeat (first | exact Ext.refl _ | assumption | refine Ext.alloc ?_ _ | refine Ext.drew ?_ | refine Ext.drewN _ ?_ | refine Ext.trans ?_ (by assumption))))).mono ?_
    rw [hf]
    rintro e w1 ⟨rfl, hx1⟩
    go_wp2_with fail
    refine (sanity_any _ (hT.ext (Ext.trans (by repeat (first | exact Ext.refl _ | assumption | refine Ext.alloc ?_ _ | refine Ext.drew ?_ | refine Ext.drewN _ ?_ | refine Ext.trans ?_ (by assumption))) hx1))).mono ?_
    rintro e w2 ⟨rfl, hx2⟩
    go_wp2_with fail
    go_ret
    exact ⟨rfl, (Ext.trans (by repeat (first | exact Ext.refl _ | assumption | refine Ext.alloc ?_ _ | refine Ext.drew ?_ | refine Ext.drewN _ ?_ | refine Ext.trans ?_ (by assumption))) hx1).trans hx2⟩
  · cases hs : soonB S 2520
    · go_enter Tryd.func10, Tryd.ntmps10
      go_wp2_with fail
      refine (few_any _ _ S _ (hS.ext (by repeat (first | exact Ext.refl _ | assumption | refine Ext.alloc ?_ _ | refine Ext.drew ?_ | refine Ext.drewN _ ?_ | refine Ext.trans ?_ (by assumption))))).mono ?_
      rw [hf]
      rintro e w1 ⟨rfl, hx1⟩
      obtain ⟨q0, hx, hzz⟩ := alloc1 hx1
      have d0 : w1.cell? ⟨w.heap.size, 0, none⟩ = some a := q0.cell 0
      have d1 : w1.cell? ⟨w.heap.size, 1, none⟩ = some b := q0.cell 1
      clear hx1 q0 hzz
      go_wp2_with fail
      refine (soon_any _ _ S 2520 _ (hS.ext hx)).mono ?_
      rw [hs]
      rintro e w2 ⟨rfl, hy⟩
      go_wp2_with fail
      refine (sanity_any _ (hT.ext (hx.trans hy))).mono ?_
      rintro e w3 ⟨rfl, hz⟩
      go_wp2_with fail
      go_ret
      exact ⟨rfl, (hx.trans hy).trans hz⟩
    · exact Periods_main a b S w hT hS hf hs
end Go.Proofs.YtejmmfjabmmihaaDoor
namespace Go.Proofs.YtejmmfjabmmihaaDoor.turnPeriods
open Go.ChangeShapes Go.WideShapes Go.ChangeAt Go.RowKit

set_option maxRecDepth 100000 in
theorem contract (H : Type) (enc : TypeId × Value → H) (W : World) (base : Nat) (args : Array Value) (ds gs : List (DataW H)) (before : List MemPlace)
    (hval : ∀ (j : Nat) t v, Tryd.f10.params[j]? = some t → args[j]? = some v → Value.okWide Tryd.prog W .any base t v)
    (hW : DataW.Whole enc Tryd.prog Tryd.f10.params.toList Rows.turnPeriodsSpec.vars false W args.toList ds gs before) (hL : laidMetH Tryd.prog Rows.turnPeriodsRow.laid W) :
    Calls Tryd.prog 10 args W fun e W' => ∃ v, e = .returned v ∧ Rows.turnPeriodsSpec.post enc Tryd.prog Tryd.f10 false true false false W args v W' := by
  have hW' := hW
  obtain ⟨p, q, hA, hV, rfl, hfz, hnd⟩ := hW
  rw [show Tryd.f10.params = #[34] from rfl] at hA hval
  obtain ⟨v0, vs0, d0, ds0, p0, q0, hargs, rfl, rfl, h0, r0⟩ := trodAll_cons hA
  obtain ⟨rfl, rfl, rfl⟩ := trodAll_nil r0
  obtain rfl : args = #[v0] := by cases args; simp_all
  obtain ⟨rfl, rfl⟩ := trodVars_none hV
  obtain ⟨x0, y0, S0, rfl, hS0⟩ := open_minutes (hval 0 34 v0 rfl rfl) h0
  refine (TurnPeriods_any _ _ S0 W (tab_of hL) hS0).mono fun e W' ⟨he, hg⟩ => ?_
  subst he
  refine ⟨_, rfl, post_true hW' rfl rfl ⟨rfl, rfl, rfl⟩ ?_ hg⟩
  rw [show Tryd.f10.params = #[34] from rfl]
  intro t ht
  simp only [List.mem_cons, List.not_mem_nil, or_false] at ht
  rcases ht with rfl <;> exact ⟨by kernel_rfl, of_decide_eq_true (by kernel_rfl)⟩

noncomputable def wArgs : Array Value := #[.agg #[.slice none 0 0, .slice none 0 0]]
set_option maxRecDepth 100000 in
theorem laid_met (os : Os) : laidMet Tryd.prog Rows.turnPeriodsRow.laid ((laidWorld os).forCall (fun _ _ => 0) ⟨#[], wArgs, []⟩).memory :=
  laidMet_of_run' 8 (by kernel_rfl) (by kernel_rfl)
set_option maxRecDepth 100000 in
theorem reads (os : Os) {H : Type} (enc : TypeId × Value → H) : ∃ x places, DataW.whole enc Tryd.prog ((laidWorld os).forCall (fun _ _ => 0) ⟨#[], wArgs, []⟩).memory Tryd.f10.params.toList Rows.turnPeriodsSpec.vars false wArgs.toList 8 = some (x, [], places) :=
  ⟨[.agg [.nil, .nil]], [], by kernel_rfl⟩

set_option maxRecDepth 100000 in
theorem lifted (os : Os) (started : os.Started) (H : Type) (enc : TypeId × Value → H) (F : Stop.Interp) :
    ReturnsInHanded {} Tryd.checked os 10 .any ((OpenSpec.ofChange Rows.turnPeriodsSpec).preRow enc Tryd.prog Tryd.f10 Rows.turnPeriodsRow.domain false Rows.turnPeriodsRow.laid) (((OpenSpec.ofChange Rows.turnPeriodsSpec).at F).post enc Tryd.prog Tryd.f10 false true false false) := by
  obtain ⟨x, places, hx⟩ := reads os enc
  refine returnsInHanded_of_row (C := Tryd.checked) (s := OpenSpec.ofChange Rows.turnPeriodsSpec) own started (by kernel_rfl) Tryd.func10
    (witness_row_at (enc := enc) (C := Tryd.checked) false (laidWorld os) wArgs rfl (by kernel_rfl) (by kernel_rfl) (by kernel_rfl)
      (OpenSpec.preRow_of_cond 8 hx (by kernel_rfl) (fun k hk => by cases hk) (by kernel_rfl) (laid_met os))) ?_
  intro W base args ds gs before hval hW _ _ _ hL _ _
  exact contract H enc W base args ds gs before hval hW hL

set_option maxRecDepth 100000 in
theorem said : Rows.TurnPeriodsSaid :=
  OpenClaim.holds_of_cond 10 Tryd.f10 rfl rfl rfl rfl rfl rfl rfl ⟨rfl, rfl, rfl, rfl, rfl⟩ rfl rfl rfl rfl rfl (by kernel_rfl) Tryd.func10 (by kernel_rfl)
    (of_decide_eq_true (by kernel_rfl)) (by unfold Func.isWrapper; first | (rw [if_pos (by decide +kernel)]; kernel_rfl) | (rw [if_neg (by decide +kernel)]; exact ⟨rfl, rfl⟩))
    (fun os started H enc _ F => by rw [OpenClaim.pre_eq_preRow]; exact lifted os started H enc F)

set_option maxRecDepth 100000 in
theorem plain (f : FuncId) (fn : Func) (hf : Tryd.pinned.checked.prog.funcNamed "drowner/drownerlaw01.TurnPeriods" = some f) (hfn : Tryd.pinned.checked.prog.funcs[f]? = some fn) :
    false = Tryd.pinned.checked.prog.looks [] ∧ ∀ (j : Nat) t, fn.params[j]? = some t → Tryd.pinned.checked.prog.wantsStandIn t = false := by
  obtain rfl : f = 10 := Option.some.inj ((show Tryd.prog.funcNamed "drowner/drownerlaw01.TurnPeriods" = some 10 by kernel_rfl).symm.trans hf) |>.symm
  obtain rfl : fn = Tryd.f10 := (Option.some.inj (Tryd.func10.symm.trans hfn)).symm
  refine ⟨by kernel_rfl, fun j t ht => ?_⟩
  rw [show Tryd.f10.params = #[34] from rfl] at ht
  have hm := Array.mem_of_getElem? ht
  simp only [List.mem_toArray, List.mem_cons, List.not_mem_nil, or_false] at hm
  rcases hm with rfl
  · exact (show Tryd.prog.wantsStandIn 34 = false by kernel_rfl)

set_option maxRecDepth 100000 in
theorem card : Rows.TurnPeriodsCardSaid :=
  Claim7.holds_tied_plain_at .later [] _ _ _ _ said (fun _ h => by cases h) (by kernel_rfl) (fun _ h => by cases h) turnPeriods_row_tie rfl ⟨rfl, rfl⟩ (by kernel_rfl) rfl plain (by kernel_rfl)
end Go.Proofs.YtejmmfjabmmihaaDoor.turnPeriods
