/- TurnUnions: the walk and the card. -/
import Derived.Test.YtejcmdoalhnpeaaGreatDoorSanity
import Derived.Test.YtejcmdoalhnpeaaGreatDoorArgs
import Derived.Test.YtejcmdoalhnpeaaGreatDoorSame
import Derived.Test.YtejcmdoalhnpeaaGreatDoorUnionW
namespace Go.Proofs.YtejcmdoalhnpeaaGreatDoor
open Go.RowKit Go.Shelf

theorem uniX_len (A B : Mn) : (uniX A B).ts.length ≤ 24 ∧ (uniX A B).ss.length ≤ 40 := by
  unfold uniX
  split
  · rename_i h
    unfold uniE at h
    split at h
    · rename_i h1; exact absurd h h1
    · split at h
      · cases h
      · exact ⟨by simp only; omega, by simp only; omega⟩
  · exact ⟨by simp, by simp⟩
theorem shfX_len {S : Mn} {b : Int} (h : S.ts.length ≤ 30) : (shfX S b).ts.length ≤ 30 ∧ (shfX S b).ss.length ≤ 30 := by
  unfold shfX
  split
  · exact ⟨by simpa using h, by simp⟩
  · exact ⟨by simp, by simp⟩

set_option maxRecDepth 100000 in
set_option maxHeartbeats 4000000 in
theorem Unions_main (aa ab ac ad : Option Addr) (ca cb cc cd : Nat) (A B : Mn) (x : Int) (w : World) (hT : Tab w) (hA : MinsAt w (.slice aa A.ts.length ca) (.slice ab A.ss.length cb) A) (hB : MinsAt w (.slice ac B.ts.length cc) (.slice ad B.ss.length cd) B) (h1 : A.ts.length ≤ 30) (h2 : B.ts.length ≤ 30) (h3 : A.ss.length ≤ 50) (h4 : B.ss.length ≤ 50) :
    Calls Tryz.prog 3 #[.agg #[.slice aa A.ts.length ca, .slice ab A.ss.length cb], .agg #[.slice ac B.ts.length cc, .slice ad B.ss.length cd], .int .i64 x] w fun e w' => e = .returned (.bool true) ∧ Ext w w' := by
  obtain ⟨lX1, lX2⟩ := uniX_len A B
  obtain ⟨lY1, lY2⟩ := shfX_len (S := A) (b := x) h1
  obtain ⟨X, hX⟩ : ∃ X, uniX A B = X := ⟨_, rfl⟩
  obtain ⟨E, hE⟩ : ∃ E, uniE A B = E := ⟨_, rfl⟩
  obtain ⟨Y, hY⟩ : ∃ Y, shfX A x = Y := ⟨_, rfl⟩
  obtain ⟨F, hF⟩ : ∃ F, shfE A x = F := ⟨_, rfl⟩
  rw [hX] at lX1 lX2
  rw [hY] at lY1 lY2
  have HX := Lib.hid hX
  have HE := Lib.hid hE
  have HY := Lib.hid hY
  have HF := Lib.hid hF
  clear hX hE hY hF
  go_enter Tryz.func3, Tryz.ntmps3
  go_wp2_with fail
  refine (Union_any _ _ _ _ A B _ (hA.ext (by repeat (first | exact Ext.refl _ | assumption | refine Ext.alloc ?_ _ | refine Ext.drew ?_ | refine Ext.drewN _ ?_ | refine Ext.trans ?_ (by assumption)))) (hB.ext (by repeat (first | exact Ext.refl _ | assumption | refine Ext.alloc ?_ _ | refine Ext.drew ?_ | refine Ext.drewN _ ?_ | refine Ext.trans ?_ (by assumption))))).mono ?_
  rw [HX.out, HE.out]
  rintro e w1 ⟨va, vb, rfl, hm1, hx1⟩
  obtain ⟨q0, q1, hx, hzz⟩ := alloc2 hx1
  clear hx1
  obtain ⟨a1, k1, rfl⟩ := hm1.t.len
  obtain ⟨a2, k2, rfl⟩ := hm1.s.len
  have hb1 := Cls.new w1 25 #[.slice a1 X.ts.length k1, .slice a2 X.ss.length k2]
  obtain ⟨W1, hW1⟩ : ∃ W1, w1.alloc (.cells #[.slice a1 X.ts.length k1, .slice a2 X.ss.length k2] 25) = W1 := ⟨_, rfl⟩
  have hy : Ext w1 W1 := by rw [← hW1]; exact (by repeat (first | exact Ext.refl _ | assumption | refine Ext.alloc ?_ _ | refine Ext.drew ?_ | refine Ext.drewN _ ?_ | refine Ext.trans ?_ (by assumption)))
  rw [hW1] at hb1
  replace q0 := q0.ext hy
  replace q1 := q1.ext hy
  replace hx := hx.trans hy
  replace hm1 := hm1.ext hy
  clear hy
  have d0 : W1.cell? ⟨w.heap.size, 0, none⟩ = some (.slice aa A.ts.length ca) := q0.cell 0
  have d1 : W1.cell? ⟨w.heap.size, 1, none⟩ = some (.slice ab A.ss.length cb) := q0.cell 1
  have d2 : W1.cell? ⟨w.heap.size + 1, 0, none⟩ = some (.slice ac B.ts.length cc) := q1.cell 0
  have d3 : W1.cell? ⟨w.heap.size + 1, 1, none⟩ = some (.slice ad B.ss.length cd) := q1.cell 1
  go_upto_region 4 with fail
  try rw [hW1]
  clear hW1
  go_wp2_with fail
  refine (RefUnion_any _ _ _ _ A B _ (hA.ext hx) (hB.ext hx)).mono ?_
  rw [HX.out, HE.out]
  rintro e w2 ⟨va, vb, rfl, hm2, hx2⟩
  obtain ⟨a3, k3, rfl⟩ := hm2.t.len
  obtain ⟨a4, k4, rfl⟩ := hm2.s.len
  have hb2 := Cls.new w2 31 #[.slice a3 X.ts.length k3, .slice a4 X.ss.length k4, .int .i64 E]
  obtain ⟨W2, hW2⟩ : ∃ W2, w2.alloc (.cells #[.slice a3 X.ts.length k3, .slice a4 X.ss.length k4, .int .i64 E] 31) = W2 := ⟨_, rfl⟩
  have hy : Ext w2 W2 := by rw [← hW2]; exact (by repeat (first | exact Ext.refl _ | assumption | refine Ext.alloc ?_ _ | refine Ext.drew ?_ | refine Ext.drewN _ ?_ | refine Ext.trans ?_ (by assumption)))
  rw [hW2] at hb2
  replace hy' := hx2.trans hy
  replace q0 := q0.ext hy'
  replace hb1 := hb1.ext hy'
  replace hx := hx.trans hy'
  replace hm1 := hm1.ext hy'
  replace hm2 := hm2.ext hy
  clear hy hy' hx2 d0 d1 d2 d3 q1
  have d0 : W2.cell? ⟨w.heap.size, 0, none⟩ = some (.slice aa A.ts.length ca) := q0.cell 0
  have d1 : W2.cell? ⟨w.heap.size, 1, none⟩ = some (.slice ab A.ss.length cb) := q0.cell 1
  go_upto_region 5 with fail
  try rw [hW2]
  clear hW2
  go_wp2_with fail
  refine (Shift_any _ _ A x _ (hA.ext hx)).mono ?_
  rw [HY.out, HF.out]
  rintro e w3 ⟨va, vb, rfl, hm3, hx3⟩
  obtain ⟨a5, k5, rfl⟩ := hm3.t.len
  obtain ⟨a6, k6, rfl⟩ := hm3.s.len
  have hb3 := Cls.new w3 25 #[.slice a5 Y.ts.length k5, .slice a6 Y.ss.length k6]
  obtain ⟨W3, hW3⟩ : ∃ W3, w3.alloc (.cells #[.slice a5 Y.ts.length k5, .slice a6 Y.ss.length k6] 25) = W3 := ⟨_, rfl⟩
  have hy : Ext w3 W3 := by rw [← hW3]; exact (by repeat (first | exact Ext.refl _ | assumption | refine Ext.alloc ?_ _ | refine Ext.drew ?_ | refine Ext.drewN _ ?_ | refine Ext.trans ?_ (by assumption)))
  rw [hW3] at hb3
  replace hy' := hx3.trans hy
  replace q0 := q0.ext hy'
  replace hb1 := hb1.ext hy'
  replace hb2 := hb2.ext hy'
  replace hx := hx.trans hy'
  replace hm1 := hm1.ext hy'
  replace hm2 := hm2.ext hy'
  replace hm3 := hm3.ext hy
  clear hy hy' hx3 d0 d1
  have d0 : W3.cell? ⟨w.heap.size, 0, none⟩ = some (.slice aa A.ts.length ca) := q0.cell 0
  have d1 : W3.cell? ⟨w.heap.size, 1, none⟩ = some (.slice ab A.ss.length cb) := q0.cell 1
  go_upto_region 6 with fail
  try rw [hW3]
  clear hW3
  go_wp2_with fail
  refine (RefShift_any _ _ A x _ (hA.ext hx)).mono ?_
  rw [HY.out, HF.out]
  rintro e w4 ⟨va, vb, rfl, hm4, hx4⟩
  obtain ⟨a7, k7, rfl⟩ := hm4.t.len
  obtain ⟨a8, k8, rfl⟩ := hm4.s.len
  have hb4 := Cls.new w4 31 #[.slice a7 Y.ts.length k7, .slice a8 Y.ss.length k8, .int .i64 F]
  obtain ⟨W4, hW4⟩ : ∃ W4, w4.alloc (.cells #[.slice a7 Y.ts.length k7, .slice a8 Y.ss.length k8, .int .i64 F] 31) = W4 := ⟨_, rfl⟩
  have hy : Ext w4 W4 := by rw [← hW4]; exact (by repeat (first | exact Ext.refl _ | assumption | refine Ext.alloc ?_ _ | refine Ext.drew ?_ | refine Ext.drewN _ ?_ | refine Ext.trans ?_ (by assumption)))
  rw [hW4] at hb4
  replace hy' := hx4.trans hy
  replace hb1 := hb1.ext hy'
  replace hb2 := hb2.ext hy'
  replace hb3 := hb3.ext hy'
  replace hx := hx.trans hy'
  replace hm1 := hm1.ext hy'
  replace hm2 := hm2.ext hy'
  replace hm3 := hm3.ext hy'
  replace hm4 := hm4.ext hy
  clear hy hy' hx4 d0 d1 q0
  go_upto_region 7 with fail
  try rw [hW4]
  clear hW4
  go_wp2_with fail
  refine (sanity_any _ (hT.ext hx)).mono ?_
  rintro e w5 ⟨rfl, hy⟩
  replace hb1 := hb1.ext hy
  replace hb2 := hb2.ext hy
  replace hb3 := hb3.ext hy
  replace hb4 := hb4.ext hy
  replace hx := hx.trans hy
  replace hm1 := hm1.ext hy
  replace hm2 := hm2.ext hy
  replace hm3 := hm3.ext hy
  replace hm4 := hm4.ext hy
  clear hy
  have y0 : w5.cell? ⟨w1.heap.size, 0, none⟩ = some (.slice a1 X.ts.length k1) := hb1.cell 0
  have y1 : w5.cell? ⟨w1.heap.size, 1, none⟩ = some (.slice a2 X.ss.length k2) := hb1.cell 1
  have z0 : w5.cell? ⟨w2.heap.size, 0, none⟩ = some (.slice a3 X.ts.length k3) := hb2.cell 0
  have z1 : w5.cell? ⟨w2.heap.size, 1, none⟩ = some (.slice a4 X.ss.length k4) := hb2.cell 1
  go_wp2_with fail
  refine (SameSet_any _ _ _ _ X X _ hm1 hm2 (by omega) (by omega) (by omega) (by omega)).mono ?_
  rw [mnEq_self]
  rintro e w6 ⟨rfl, hy⟩
  replace hb2 := hb2.ext hy
  replace hb3 := hb3.ext hy
  replace hb4 := hb4.ext hy
  replace hx := hx.trans hy
  replace hm3 := hm3.ext hy
  replace hm4 := hm4.ext hy
  clear hy y0 y1 z0 z1 hb1
  have z2 : w6.cell? ⟨w2.heap.size, 2, none⟩ = some (.int .i64 E) := hb2.cell 2
  have y0 : w6.cell? ⟨w3.heap.size, 0, none⟩ = some (.slice a5 Y.ts.length k5) := hb3.cell 0
  have y1 : w6.cell? ⟨w3.heap.size, 1, none⟩ = some (.slice a6 Y.ss.length k6) := hb3.cell 1
  have z0 : w6.cell? ⟨w4.heap.size, 0, none⟩ = some (.slice a7 Y.ts.length k7) := hb4.cell 0
  have z1 : w6.cell? ⟨w4.heap.size, 1, none⟩ = some (.slice a8 Y.ss.length k8) := hb4.cell 1
  go_wp2_with fail
  refine (SameSet_any _ _ _ _ Y Y _ hm3 hm4 (by omega) (by omega) (by omega) (by omega)).mono ?_
  rw [mnEq_self]
  rintro e w7 ⟨rfl, hy⟩
  replace hb4 := hb4.ext hy
  replace hx := hx.trans hy
  clear hy y0 y1 z0 z1 z2 hb2 hb3
  have z3 : w7.cell? ⟨w4.heap.size, 2, none⟩ = some (.int .i64 F) := hb4.cell 2
  go_wp2_with fail
  go_ret
  exact ⟨ret_bool (by simp), hx⟩

set_option maxRecDepth 100000 in
set_option maxHeartbeats 4000000 in
theorem TurnUnions_any (a b : Value) (A : Mn) (c d : Value) (B : Mn) (x : Int) (w : World) (hT : Tab w) (hA : MinsAt w a b A) (hB : MinsAt w c d B) :
    Calls Tryz.prog 3 #[.agg #[a, b], .agg #[c, d], .int .i64 x] w fun e w' => e = .returned (.bool true) ∧ Ext w w' := by
  obtain ⟨aa, ca, rfl⟩ := hA.t.len
  obtain ⟨ab, cb, rfl⟩ := hA.s.len
  obtain ⟨ac, cc, rfl⟩ := hB.t.len
  obtain ⟨ad, cd, rfl⟩ := hB.s.len
  by_cases h1 : A.ts.length ≤ 30
  · by_cases h2 : B.ts.length ≤ 30
    · by_cases h3 : A.ss.length ≤ 50
      · by_cases h4 : B.ss.length ≤ 50
        · exact Unions_main aa ab ac ad ca cb cc cd A B x w hT hA hB h1 h2 h3 h4
        · go_enter Tryz.func3, Tryz.ntmps3
          go_wp2_with fail
          refine (sanity_any _ (hT.ext (by repeat (first | exact Ext.refl _ | assumption | refine Ext.alloc ?_ _ | refine Ext.drew ?_ | refine Ext.drewN _ ?_ | refine Ext.trans ?_ (by assumption))))).mono ?_
          rintro e w1 ⟨rfl, hx1⟩
          go_wp2_with fail
          go_ret
          exact ⟨rfl, Ext.trans (by repeat (first | exact Ext.refl _ | assumption | refine Ext.alloc ?_ _ | refine Ext.drew ?_ | refine Ext.drewN _ ?_ | refine Ext.trans ?_ (by assumption))) hx1⟩
      · go_enter Tryz.func3, Tryz.ntmps3
        go_wp2_with fail
        refine (sanity_any _ (hT.ext (by repeat (first | exact Ext.refl _ | assumption | refine Ext.alloc ?_ _ | refine Ext.drew ?_ | refine Ext.drewN _ ?_ | refine Ext.trans ?_ (by assumption))))).mono ?_
        rintro e w1 ⟨rfl, hx1⟩
        go_wp2_with fail
        go_ret
        exact ⟨rfl, Ext.trans (by repeat (first | exact Ext.refl _ | assumption | refine Ext.alloc ?_ _ | refine Ext.drew ?_ | refine Ext.drewN _ ?_ | refine Ext.trans ?_ (by assumption))) hx1⟩
    · go_enter Tryz.func3, Tryz.ntmps3
      go_wp2_with fail
      refine (sanity_any _ (hT.ext (by repeat (first | exact Ext.refl _ | assumption | refine Ext.alloc ?_ _ | refine Ext.drew ?_ | refine Ext.drewN _ ?_ | refine Ext.trans ?_ (by assumption))))).mono ?_
      rintro e w1 ⟨rfl, hx1⟩
      go_wp2_with fail
      go_ret
      exact ⟨rfl, Ext.trans (by repeat (first | exact Ext.refl _ | assumption | refine Ext.alloc ?_ _ | refine Ext.drew ?_ | refine Ext.drewN _ ?_ | refine Ext.trans ?_ (by assumption))) hx1⟩
  · go_enter Tryz.func3, Tryz.ntmps3
    go_wp2_with fail
    refine (sanity_any _ (hT.ext (by repeat (first | exact Ext.refl _ | assumption | refine Ext.alloc ?_ _ | refine Ext.drew ?_ | refine Ext.drewN _ ?_ | refine Ext.trans ?_ (by assumption))))).mono ?_
    rintro e w1 ⟨rfl, hx1⟩
    go_wp2_with fail
    go_ret
    exact ⟨rfl, Ext.trans (by repeat (first | exact Ext.refl _ | assumption | refine Ext.alloc ?_ _ | refine Ext.drew ?_ | refine Ext.drewN _ ?_ | refine Ext.trans ?_ (by assumption))) hx1⟩
end Go.Proofs.YtejcmdoalhnpeaaGreatDoor
namespace Go.Proofs.YtejcmdoalhnpeaaGreatDoor.turnUnions
open Go.ChangeShapes Go.WideShapes Go.ChangeAt Go.RowKit

set_option maxRecDepth 100000 in
theorem contract (H : Type) (enc : TypeId × Value → H) (W : World) (base : Nat) (args : Array Value) (ds gs : List (DataW H)) (before : List MemPlace)
    (hval : ∀ (j : Nat) t v, Tryz.f3.params[j]? = some t → args[j]? = some v → Value.okWide Tryz.prog W .any base t v)
    (hW : DataW.Whole enc Tryz.prog Tryz.f3.params.toList Rows.turnUnionsSpec.vars false W args.toList ds gs before) (hL : laidMetH Tryz.prog Rows.turnUnionsRow.laid W) :
    Calls Tryz.prog 3 args W fun e W' => ∃ v, e = .returned v ∧ Rows.turnUnionsSpec.post enc Tryz.prog Tryz.f3 false true false false W args v W' := by
  have hW' := hW
  obtain ⟨p, q, hA, hV, rfl, hfz, hnd⟩ := hW
  rw [show Tryz.f3.params = #[25, 25, 3] from rfl] at hA hval
  obtain ⟨v0, vs0, d0, ds0, p0, q0, hargs, rfl, rfl, h0, r0⟩ := trodAll_cons hA
  obtain ⟨v1, vs1, d1, ds1, p1, q1, rfl, rfl, rfl, h1, r1⟩ := trodAll_cons r0
  obtain ⟨v2, vs2, d2, ds2, p2, q2, rfl, rfl, rfl, h2, r2⟩ := trodAll_cons r1
  obtain ⟨rfl, rfl, rfl⟩ := trodAll_nil r2
  obtain rfl : args = #[v0, v1, v2] := by cases args; simp_all
  obtain ⟨rfl, rfl⟩ := trodVars_none hV
  obtain ⟨x0, y0, S0, rfl, hS0⟩ := open_minutes (hval 0 25 v0 rfl rfl) h0
  obtain ⟨x1, y1, S1, rfl, hS1⟩ := open_minutes (hval 1 25 v1 rfl rfl) h1
  obtain ⟨x2, rfl, hd2, hp2, hf2⟩ := open_int Tryz.underlying3 (hval 2 3 v2 rfl rfl) h2
  refine (TurnUnions_any _ _ S0 _ _ S1 _ W (tab_of hL) hS0 hS1).mono fun e W' ⟨he, hg⟩ => ?_
  subst he
  refine ⟨_, rfl, post_true hW' rfl rfl ⟨rfl, rfl, rfl⟩ ?_ hg⟩
  rw [show Tryz.f3.params = #[25, 25, 3] from rfl]
  intro t ht
  simp only [List.mem_cons, List.not_mem_nil, or_false] at ht
  rcases ht with rfl | rfl | rfl <;> exact ⟨by kernel_rfl, of_decide_eq_true (by kernel_rfl)⟩

noncomputable def wArgs : Array Value := #[.agg #[.slice none 0 0, .slice none 0 0], .agg #[.slice none 0 0, .slice none 0 0], .int .i64 0]
set_option maxRecDepth 100000 in
theorem laid_met (os : Os) : laidMet Tryz.prog Rows.turnUnionsRow.laid ((laidWorld os).forCall (fun _ _ => 0) ⟨#[], wArgs, []⟩).memory :=
  laidMet_of_run' 8 (by kernel_rfl) (by kernel_rfl)
set_option maxRecDepth 100000 in
theorem reads (os : Os) {H : Type} (enc : TypeId × Value → H) : ∃ x places, DataW.whole enc Tryz.prog ((laidWorld os).forCall (fun _ _ => 0) ⟨#[], wArgs, []⟩).memory Tryz.f3.params.toList Rows.turnUnionsSpec.vars false wArgs.toList 8 = some (x, [], places) :=
  ⟨[.agg [.nil, .nil], .agg [.nil, .nil], .lit (.int .i64 0)], [], by kernel_rfl⟩

set_option maxRecDepth 100000 in
theorem lifted (os : Os) (started : os.Started) (H : Type) (enc : TypeId × Value → H) (F : Stop.Interp) :
    ReturnsInHanded {} Tryz.checked os 3 .any ((OpenSpec.ofChange Rows.turnUnionsSpec).preRow enc Tryz.prog Tryz.f3 Rows.turnUnionsRow.domain false Rows.turnUnionsRow.laid) (((OpenSpec.ofChange Rows.turnUnionsSpec).at F).post enc Tryz.prog Tryz.f3 false true false false) := by
  obtain ⟨x, places, hx⟩ := reads os enc
  refine returnsInHanded_of_row (C := Tryz.checked) (s := OpenSpec.ofChange Rows.turnUnionsSpec) own started (by kernel_rfl) Tryz.func3
    (witness_row_at (enc := enc) (C := Tryz.checked) false (laidWorld os) wArgs rfl (by kernel_rfl) (by kernel_rfl) (by kernel_rfl)
      (OpenSpec.preRow_of_cond 8 hx (by kernel_rfl) (fun k hk => by cases hk) (by kernel_rfl) (laid_met os))) ?_
  intro W base args ds gs before hval hW _ _ _ hL _ _
  exact contract H enc W base args ds gs before hval hW hL

set_option maxRecDepth 100000 in
theorem said : Rows.TurnUnionsSaid :=
  OpenClaim.holds_of_cond 3 Tryz.f3 rfl rfl rfl rfl rfl rfl rfl ⟨rfl, rfl, rfl, rfl, rfl⟩ rfl rfl rfl rfl rfl (by kernel_rfl) Tryz.func3 (by kernel_rfl)
    (of_decide_eq_true (by kernel_rfl)) (by unfold Func.isWrapper; first | (rw [if_pos (by decide +kernel)]; kernel_rfl) | (rw [if_neg (by decide +kernel)]; exact ⟨rfl, rfl⟩))
    (fun os started H enc _ F => by rw [OpenClaim.pre_eq_preRow]; exact lifted os started H enc F)

set_option maxRecDepth 100000 in
theorem plain (f : FuncId) (fn : Func) (hf : Tryz.pinned.checked.prog.funcNamed "drowner/drownerlaw01.TurnUnions" = some f) (hfn : Tryz.pinned.checked.prog.funcs[f]? = some fn) :
    false = Tryz.pinned.checked.prog.looks [] ∧ ∀ (j : Nat) t, fn.params[j]? = some t → Tryz.pinned.checked.prog.wantsStandIn t = false := by
  obtain rfl : f = 3 := Option.some.inj ((show Tryz.prog.funcNamed "drowner/drownerlaw01.TurnUnions" = some 3 by kernel_rfl).symm.trans hf) |>.symm
  obtain rfl : fn = Tryz.f3 := (Option.some.inj (Tryz.func3.symm.trans hfn)).symm
  refine ⟨by kernel_rfl, fun j t ht => ?_⟩
  rw [show Tryz.f3.params = #[25, 25, 3] from rfl] at ht
  have hm := Array.mem_of_getElem? ht
  simp only [List.mem_toArray, List.mem_cons, List.not_mem_nil, or_false] at hm
  rcases hm with rfl | rfl | rfl
  · exact (show Tryz.prog.wantsStandIn 25 = false by kernel_rfl)
  · exact (show Tryz.prog.wantsStandIn 25 = false by kernel_rfl)
  · exact (show Tryz.prog.wantsStandIn 3 = false by kernel_rfl)

set_option maxRecDepth 100000 in
theorem card : Rows.TurnUnionsCardSaid :=
  Claim7.holds_tied_plain_at .later [] _ _ _ _ said (fun _ h => by cases h) (by kernel_rfl) (fun _ h => by cases h) turnUnions_row_tie rfl ⟨rfl, rfl⟩ (by kernel_rfl) rfl plain (by kernel_rfl)
end Go.Proofs.YtejcmdoalhnpeaaGreatDoor.turnUnions
