/- TurnParts: the walk and the card. -/
import Derived.Test.YtejmmfjabmmihaaDoorSanity
import Derived.Test.YtejmmfjabmmihaaDoorRefApart
import Derived.Test.YtejmmfjabmmihaaDoorPart
import Derived.Test.YtejmmfjabmmihaaDoorWorld
namespace Go.Proofs.YtejmmfjabmmihaaDoor
open Go.RowKit Go.Shelf

set_option maxRecDepth 100000 in
set_option maxHeartbeats 4000000 in
theorem TurnParts_any (p f l q g k m a b : Int) (w : World) (hT : Tab w) :
    Calls Tryd.prog 7 #[.agg #[.int .i64 p, .int .i64 f, .int .i64 l], .agg #[.int .i64 q, .int .i64 g, .int .i64 k], .int .i64 m, .int .i64 a, .int .i64 b] w fun e w' => e = .returned (.bool true) ∧ Ext w w' := by
  obtain ⟨x, y, z, hpv⟩ := partV_form p f l a b
  have HPV := Lib.hid hpv
  clear hpv
  have heq := fun W => eqlTn x y z x y z W
  go_enter Tryd.func7, Tryd.ntmps7
  go_wp2_with fail
  refine (Apart_any _ _ _ _ _ _ _).mono ?_
  rintro e w1 ⟨rfl, hx1⟩
  obtain ⟨q0, q1, hx, hzz⟩ := alloc2 hx1
  clear hx1
  have d0 : w1.cell? ⟨w.heap.size, 0, none⟩ = some (.int .i64 p) := q0.cell 0
  have d1 : w1.cell? ⟨w.heap.size, 1, none⟩ = some (.int .i64 f) := q0.cell 1
  have d2 : w1.cell? ⟨w.heap.size, 2, none⟩ = some (.int .i64 l) := q0.cell 2
  have d3 : w1.cell? ⟨w.heap.size + 1, 0, none⟩ = some (.int .i64 q) := q1.cell 0
  have d4 : w1.cell? ⟨w.heap.size + 1, 1, none⟩ = some (.int .i64 g) := q1.cell 1
  have d5 : w1.cell? ⟨w.heap.size + 1, 2, none⟩ = some (.int .i64 k) := q1.cell 2
  clear q0 q1
  go_wp2_with fail
  refine (RefApart_any _ _ _ _ _ _ _).mono ?_
  rintro e w2 ⟨rfl, hx2⟩
  replace d0 := hx2.cell d0
  replace d1 := hx2.cell d1
  replace d2 := hx2.cell d2
  replace d3 := hx2.cell d3
  replace d4 := hx2.cell d4
  replace d5 := hx2.cell d5
  replace hx := hx.trans hx2
  go_wp2_with fail
  refine (Part_any _ _ _ _ _ _).mono ?_
  unfold PartPost
  rw [HPV.out]
  rintro e w3 ⟨rfl, hx3⟩
  replace d0 := hx3.cell d0
  replace d1 := hx3.cell d1
  replace d2 := hx3.cell d2
  replace d3 := hx3.cell d3
  replace d4 := hx3.cell d4
  replace d5 := hx3.cell d5
  replace hx := hx.trans hx3
  clear hx2 hx3
  have hxa : Ext w3 (w3.alloc (.cells #[.int .i64 x, .int .i64 y, .int .i64 z] 23)) := (by repeat (first | exact Ext.refl _ | assumption | refine Ext.alloc ?_ _ | refine Ext.drew ?_ | refine Ext.drewN _ ?_ | refine Ext.trans ?_ (by assumption)))
  have k0 := hxa.cell d0
  have k1 := hxa.cell d1
  have k2 := hxa.cell d2
  clear hxa
  go_wp2_with fail
  refine (RefPart_any _ _ _ _ _ _).mono ?_
  unfold PartPost
  rw [HPV.out]
  rintro e w4 ⟨rfl, hx4⟩
  obtain ⟨r0, hx5, hzz2⟩ := alloc1 hx4
  replace d0 := hx5.cell d0
  replace d1 := hx5.cell d1
  replace d2 := hx5.cell d2
  replace d3 := hx5.cell d3
  replace d4 := hx5.cell d4
  replace d5 := hx5.cell d5
  replace hx := hx.trans hx5
  clear hx4 hx5 k0 k1 k2
  go_wp2_with fail
  have c6 : w4.cell? ⟨w3.heap.size, 0, none⟩ = some (.int .i64 x) := r0.cell 0
  have c7 : w4.cell? ⟨w3.heap.size, 1, none⟩ = some (.int .i64 y) := r0.cell 1
  have c8 : w4.cell? ⟨w3.heap.size, 2, none⟩ = some (.int .i64 z) := r0.cell 2
  obtain ⟨W9, hW9⟩ : ∃ W9, w4.alloc (.cells #[.int .i64 x, .int .i64 y, .int .i64 z] 23) = W9 := ⟨_, rfl⟩
  have d9 : W9.cell? ⟨w4.heap.size, 0, none⟩ = some (.int .i64 x) := by rw [← hW9]; exact cell_at_new _ _ _ _ _ _ rfl rfl
  have d10 : W9.cell? ⟨w4.heap.size, 1, none⟩ = some (.int .i64 y) := by rw [← hW9]; exact cell_at_new _ _ _ _ _ _ rfl rfl
  have d11 : W9.cell? ⟨w4.heap.size, 2, none⟩ = some (.int .i64 z) := by rw [← hW9]; exact cell_at_new _ _ _ _ _ _ rfl rfl
  have hx9 : Ext w4 W9 := by rw [← hW9]; exact (by repeat (first | exact Ext.refl _ | assumption | refine Ext.alloc ?_ _ | refine Ext.drew ?_ | refine Ext.drewN _ ?_ | refine Ext.trans ?_ (by assumption)))
  have d6 := hx9.cell c6
  have d7 := hx9.cell c7
  have d8 := hx9.cell c8
  replace d0 := hx9.cell d0
  replace d1 := hx9.cell d1
  replace d2 := hx9.cell d2
  replace d3 := hx9.cell d3
  replace d4 := hx9.cell d4
  replace d5 := hx9.cell d5
  replace hx := hx.trans hx9
  have hT9 := hT.ext hx
  rw [hW9]
  obtain ⟨N3, hN3⟩ : ∃ N3, w3.heap.size = N3 := ⟨_, rfl⟩
  obtain ⟨N4, hN4⟩ : ∃ N4, w4.heap.size = N4 := ⟨_, rfl⟩
  rw [hN3] at d6 d7 d8 ⊢
  rw [hN4] at d9 d10 d11 ⊢
  clear hW9 hN3 hN4 c6 c7 c8 r0 hx9 hzz hzz2 hT
  have heq' := heq
  simp only [beq_self_eq_true, Bool.and_self] at heq'
  clear heq
  go_region_held3 (fun W' => W'.cell? ⟨w.heap.size, 0, none⟩ = some (.int .i64 p) ∧ W'.cell? ⟨w.heap.size, 1, none⟩ = some (.int .i64 f) ∧ W'.cell? ⟨w.heap.size, 2, none⟩ = some (.int .i64 l) ∧ W'.cell? ⟨w.heap.size + 1, 0, none⟩ = some (.int .i64 q) ∧ W'.cell? ⟨w.heap.size + 1, 1, none⟩ = some (.int .i64 g) ∧ W'.cell? ⟨w.heap.size + 1, 2, none⟩ = some (.int .i64 k) ∧ W'.cell? ⟨N3, 0, none⟩ = some (.int .i64 x) ∧ W'.cell? ⟨N3, 1, none⟩ = some (.int .i64 y) ∧ W'.cell? ⟨N3, 2, none⟩ = some (.int .i64 z) ∧ W'.cell? ⟨N4, 0, none⟩ = some (.int .i64 x) ∧ W'.cell? ⟨N4, 1, none⟩ = some (.int .i64 y) ∧ W'.cell? ⟨N4, 2, none⟩ = some (.int .i64 z) ∧ Ext W9 W')
    ((refine ⟨Ext.cell (w := W9) ?_ d0, Ext.cell (w := W9) ?_ d1, Ext.cell (w := W9) ?_ d2, Ext.cell (w := W9) ?_ d3, Ext.cell (w := W9) ?_ d4, Ext.cell (w := W9) ?_ d5, Ext.cell (w := W9) ?_ d6, Ext.cell (w := W9) ?_ d7, Ext.cell (w := W9) ?_ d8, Ext.cell (w := W9) ?_ d9, Ext.cell (w := W9) ?_ d10, Ext.cell (w := W9) ?_ d11, ?_⟩; all_goals exact (by repeat (first | exact Ext.refl _ | assumption | refine Ext.alloc ?_ _ | refine Ext.drew ?_ | refine Ext.drewN _ ?_ | refine Ext.trans ?_ (by assumption)))))
    ((first | (go_at_call 19; refine (sanity_any _ (hT9.ext (by repeat (first | exact Ext.refl _ | assumption | refine Ext.alloc ?_ _ | refine Ext.drew ?_ | refine Ext.drewN _ ?_ | refine Ext.trans ?_ (by assumption))))).mono ?_; rintro e w' ⟨rfl, hz⟩) | (go_at_call 27; refine (CheckApart_any _ _ _ _ _ _ _ _).mono ?_; rintro e w' ⟨rfl, hz⟩) | (go_at_call 31; refine (RefCheckApart_any _ _ _ _ _ _ _ _).mono ?_; rintro e w' ⟨rfl, hz⟩)))
  all_goals
    go_wp2_with fail
    go_ret
    exact ⟨ret_bool (by simp), (by repeat (first | exact Ext.refl _ | assumption | refine Ext.alloc ?_ _ | refine Ext.drew ?_ | refine Ext.drewN _ ?_ | refine Ext.trans ?_ (by assumption)))⟩
end Go.Proofs.YtejmmfjabmmihaaDoor
namespace Go.Proofs.YtejmmfjabmmihaaDoor.turnParts
open Go.ChangeShapes Go.WideShapes Go.ChangeAt Go.RowKit

set_option maxRecDepth 100000 in
theorem contract (H : Type) (enc : TypeId × Value → H) (W : World) (base : Nat) (args : Array Value) (ds gs : List (DataW H)) (before : List MemPlace)
    (hval : ∀ (j : Nat) t v, Tryd.f7.params[j]? = some t → args[j]? = some v → Value.okWide Tryd.prog W .any base t v)
    (hW : DataW.Whole enc Tryd.prog Tryd.f7.params.toList Rows.turnPartsSpec.vars false W args.toList ds gs before) (hL : laidMetH Tryd.prog Rows.turnPartsRow.laid W) :
    Calls Tryd.prog 7 args W fun e W' => ∃ v, e = .returned v ∧ Rows.turnPartsSpec.post enc Tryd.prog Tryd.f7 false true false false W args v W' := by
  have hW' := hW
  obtain ⟨p, q, hA, hV, rfl, hfz, hnd⟩ := hW
  rw [show Tryd.f7.params = #[23, 23, 3, 3, 3] from rfl] at hA hval
  obtain ⟨v0, vs0, d0, ds0, p0, q0, hargs, rfl, rfl, h0, r0⟩ := trodAll_cons hA
  obtain ⟨v1, vs1, d1, ds1, p1, q1, rfl, rfl, rfl, h1, r1⟩ := trodAll_cons r0
  obtain ⟨v2, vs2, d2, ds2, p2, q2, rfl, rfl, rfl, h2, r2⟩ := trodAll_cons r1
  obtain ⟨v3, vs3, d3, ds3, p3, q3, rfl, rfl, rfl, h3, r3⟩ := trodAll_cons r2
  obtain ⟨v4, vs4, d4, ds4, p4, q4, rfl, rfl, rfl, h4, r4⟩ := trodAll_cons r3
  obtain ⟨rfl, rfl, rfl⟩ := trodAll_nil r4
  obtain rfl : args = #[v0, v1, v2, v3, v4] := by cases args; simp_all
  obtain ⟨rfl, rfl⟩ := trodVars_none hV
  obtain ⟨x0, y0, z0, rfl⟩ := open_turn (hval 0 23 v0 rfl rfl) h0
  obtain ⟨x1, y1, z1, rfl⟩ := open_turn (hval 1 23 v1 rfl rfl) h1
  obtain ⟨x2, rfl, hd2, hp2, hf2⟩ := open_int Tryd.underlying3 (hval 2 3 v2 rfl rfl) h2
  obtain ⟨x3, rfl, hd3, hp3, hf3⟩ := open_int Tryd.underlying3 (hval 3 3 v3 rfl rfl) h3
  obtain ⟨x4, rfl, hd4, hp4, hf4⟩ := open_int Tryd.underlying3 (hval 4 3 v4 rfl rfl) h4
  refine (TurnParts_any _ _ _ _ _ _ _ _ _ W (tab_of hL) ).mono fun e W' ⟨he, hg⟩ => ?_
  subst he
  refine ⟨_, rfl, post_true hW' rfl rfl ⟨rfl, rfl, rfl⟩ ?_ hg⟩
  rw [show Tryd.f7.params = #[23, 23, 3, 3, 3] from rfl]
  intro t ht
  simp only [List.mem_cons, List.not_mem_nil, or_false] at ht
  rcases ht with rfl | rfl | rfl | rfl | rfl <;> exact ⟨by kernel_rfl, of_decide_eq_true (by kernel_rfl)⟩

noncomputable def wArgs : Array Value := #[.agg #[.int .i64 0, .int .i64 0, .int .i64 0], .agg #[.int .i64 0, .int .i64 0, .int .i64 0], .int .i64 0, .int .i64 0, .int .i64 0]
set_option maxRecDepth 100000 in
theorem laid_met (os : Os) : laidMet Tryd.prog Rows.turnPartsRow.laid ((laidWorld os).forCall (fun _ _ => 0) ⟨#[], wArgs, []⟩).memory :=
  laidMet_of_run' 8 (by kernel_rfl) (by kernel_rfl)
set_option maxRecDepth 100000 in
theorem reads (os : Os) {H : Type} (enc : TypeId × Value → H) : ∃ x places, DataW.whole enc Tryd.prog ((laidWorld os).forCall (fun _ _ => 0) ⟨#[], wArgs, []⟩).memory Tryd.f7.params.toList Rows.turnPartsSpec.vars false wArgs.toList 8 = some (x, [], places) :=
  ⟨[.agg [.lit (.int .i64 0), .lit (.int .i64 0), .lit (.int .i64 0)], .agg [.lit (.int .i64 0), .lit (.int .i64 0), .lit (.int .i64 0)], .lit (.int .i64 0), .lit (.int .i64 0), .lit (.int .i64 0)], [], by kernel_rfl⟩

set_option maxRecDepth 100000 in
theorem lifted (os : Os) (started : os.Started) (H : Type) (enc : TypeId × Value → H) (F : Stop.Interp) :
    ReturnsInHanded {} Tryd.checked os 7 .any ((OpenSpec.ofChange Rows.turnPartsSpec).preRow enc Tryd.prog Tryd.f7 Rows.turnPartsRow.domain false Rows.turnPartsRow.laid) (((OpenSpec.ofChange Rows.turnPartsSpec).at F).post enc Tryd.prog Tryd.f7 false true false false) := by
  obtain ⟨x, places, hx⟩ := reads os enc
  refine returnsInHanded_of_row (C := Tryd.checked) (s := OpenSpec.ofChange Rows.turnPartsSpec) own started (by kernel_rfl) Tryd.func7
    (witness_row_at (enc := enc) (C := Tryd.checked) false (laidWorld os) wArgs rfl (by kernel_rfl) (by kernel_rfl) (by kernel_rfl)
      (OpenSpec.preRow_of_cond 8 hx (by kernel_rfl) (fun k hk => by cases hk) (by kernel_rfl) (laid_met os))) ?_
  intro W base args ds gs before hval hW _ _ _ hL _ _
  exact contract H enc W base args ds gs before hval hW hL

set_option maxRecDepth 100000 in
theorem said : Rows.TurnPartsSaid :=
  OpenClaim.holds_of_cond 7 Tryd.f7 rfl rfl rfl rfl rfl rfl rfl ⟨rfl, rfl, rfl, rfl, rfl⟩ rfl rfl rfl rfl rfl (by kernel_rfl) Tryd.func7 (by kernel_rfl)
    (of_decide_eq_true (by kernel_rfl)) (by unfold Func.isWrapper; first | (rw [if_pos (by decide +kernel)]; kernel_rfl) | (rw [if_neg (by decide +kernel)]; exact ⟨rfl, rfl⟩))
    (fun os started H enc _ F => by rw [OpenClaim.pre_eq_preRow]; exact lifted os started H enc F)

set_option maxRecDepth 100000 in
theorem plain (f : FuncId) (fn : Func) (hf : Tryd.pinned.checked.prog.funcNamed "drowner/drownerlaw01.TurnParts" = some f) (hfn : Tryd.pinned.checked.prog.funcs[f]? = some fn) :
    false = Tryd.pinned.checked.prog.looks [] ∧ ∀ (j : Nat) t, fn.params[j]? = some t → Tryd.pinned.checked.prog.wantsStandIn t = false := by
  obtain rfl : f = 7 := Option.some.inj ((show Tryd.prog.funcNamed "drowner/drownerlaw01.TurnParts" = some 7 by kernel_rfl).symm.trans hf) |>.symm
  obtain rfl : fn = Tryd.f7 := (Option.some.inj (Tryd.func7.symm.trans hfn)).symm
  refine ⟨by kernel_rfl, fun j t ht => ?_⟩
  rw [show Tryd.f7.params = #[23, 23, 3, 3, 3] from rfl] at ht
  have hm := Array.mem_of_getElem? ht
  simp only [List.mem_toArray, List.mem_cons, List.not_mem_nil, or_false] at hm
  rcases hm with rfl | rfl | rfl | rfl | rfl
  · exact (show Tryd.prog.wantsStandIn 23 = false by kernel_rfl)
  · exact (show Tryd.prog.wantsStandIn 23 = false by kernel_rfl)
  · exact (show Tryd.prog.wantsStandIn 3 = false by kernel_rfl)
  · exact (show Tryd.prog.wantsStandIn 3 = false by kernel_rfl)
  · exact (show Tryd.prog.wantsStandIn 3 = false by kernel_rfl)

set_option maxRecDepth 100000 in
theorem card : Rows.TurnPartsCardSaid :=
  Claim7.holds_tied_plain_at .later [] _ _ _ _ said (fun _ h => by cases h) (by kernel_rfl) (fun _ h => by cases h) turnParts_row_tie rfl ⟨rfl, rfl⟩ (by kernel_rfl) rfl plain (by kernel_rfl)
end Go.Proofs.YtejmmfjabmmihaaDoor.turnParts
