/- TurnSame: the walk and the card. -/
import Derived.Test.YtejmmfjabmmihaaDoorSanity
import Derived.Test.YtejmmfjabmmihaaDoorFew
import Derived.Test.YtejmmfjabmmihaaDoorArgs
import Derived.Test.YtejmmfjabmmihaaDoorSamW
import Derived.Deep.DeepCutAuto
namespace Go.Proofs.YtejmmfjabmmihaaDoor
open Go.RowKit Go.Shelf

set_option maxRecDepth 100000 in
set_option maxHeartbeats 4000000 in
theorem TurnSame_any (a b : Value) (A : Mn) (c d : Value) (B : Mn) (w : World) (hT : Tab w) (hA : MinsAt w a b A) (hB : MinsAt w c d B) :
    Calls Tryd.prog 8 #[.agg #[a, b], .agg #[c, d]] w fun e w' => e = .returned (.bool true) ∧ Ext w w' := by
  obtain ⟨aa, ca, rfl⟩ := hA.t.len
  obtain ⟨ab, cb, rfl⟩ := hA.s.len
  obtain ⟨ac, cc, rfl⟩ := hB.t.len
  obtain ⟨ad, cd, rfl⟩ := hB.s.len
  go_enter Tryd.func8, Tryd.ntmps8
  go_upto_region 1 with fail
  go_cut [66] (fun s wx => ∃ v : Bool, s = .bool v ∧ wx.cell? ⟨w.heap.size, 0, none⟩ = some (.slice aa A.ts.length ca) ∧ wx.cell? ⟨w.heap.size, 1, none⟩ = some (.slice ab A.ss.length cb) ∧ wx.cell? ⟨w.heap.size + 1, 0, none⟩ = some (.slice ac B.ts.length cc) ∧ wx.cell? ⟨w.heap.size + 1, 1, none⟩ = some (.slice ad B.ss.length cd) ∧ Ext w wx)
  case first =>
    go_wp2_with fail
    refine (few_any _ _ A _ (hA.ext (by repeat (first | exact Ext.refl _ | assumption | refine Ext.alloc ?_ _ | refine Ext.drew ?_ | refine Ext.drewN _ ?_ | refine Ext.trans ?_ (by assumption))))).mono ?_
    rintro e w1 ⟨rfl, hx1⟩
    obtain ⟨q0, q1, hx, hzz⟩ := alloc2 hx1
    clear hx1
    have d0 : w1.cell? ⟨w.heap.size, 0, none⟩ = some (.slice aa A.ts.length ca) := q0.cell 0
    have d1 : w1.cell? ⟨w.heap.size, 1, none⟩ = some (.slice ab A.ss.length cb) := q0.cell 1
    have d2 : w1.cell? ⟨w.heap.size + 1, 0, none⟩ = some (.slice ac B.ts.length cc) := q1.cell 0
    have d3 : w1.cell? ⟨w.heap.size + 1, 1, none⟩ = some (.slice ad B.ss.length cd) := q1.cell 1
    clear q0 q1
    cases hf : fewB A
    · go_wp2_with fail
      go_meet
      case rel => exact ⟨_, rfl, d0, d1, d2, d3, hx⟩
    · go_wp2_with fail
      refine (few_any _ _ B _ (hB.ext hx)).mono ?_
      rintro e w2 ⟨rfl, hx2⟩
      replace d0 := hx2.cell d0
      replace d1 := hx2.cell d1
      replace d2 := hx2.cell d2
      replace d3 := hx2.cell d3
      replace hx := hx.trans hx2
      cases hf2 : fewB B
      · go_wp2_with fail
        go_meet
        case rel => exact ⟨_, rfl, d0, d1, d2, d3, hx⟩
      · go_wp2_with fail
        all_goals
          go_meet
          case rel => exact ⟨_, rfl, d0, d1, d2, d3, hx⟩
  case rest =>
    obtain ⟨v, rfl, d0, d1, d2, d3, hx⟩ := hcut
    have hTc := hT.ext hx
    cases v
    · go_wp2_with fail
      refine (Same_any _ _ _ _ A B _ (hA.ext hx) (hB.ext hx)).mono ?_
      rintro e w2 ⟨rfl, hy⟩
      replace d0 := hy.cell d0
      replace d1 := hy.cell d1
      replace d2 := hy.cell d2
      replace d3 := hy.cell d3
      replace hx := hx.trans hy
      clear hy
      go_wp2_with fail
      refine (RefSame_any _ _ _ _ A B _ (hA.ext hx) (hB.ext hx)).mono ?_
      rintro e w3 ⟨rfl, hy⟩
      replace hx := hx.trans hy
      clear d0 d1 d2 d3 hy
      go_wp2_with fail
      refine (sanity_any _ (hT.ext hx)).mono ?_
      rintro e w4 ⟨rfl, hy⟩
      go_wp2_with fail
      go_ret
      exact ⟨ret_bool (by simp), hx.trans hy⟩
    · go_wp2_with fail
      refine (sanity_any _ hTc).mono ?_
      rintro e w4 ⟨rfl, hy⟩
      go_wp2_with fail
      go_ret
      exact ⟨rfl, hx.trans hy⟩
end Go.Proofs.YtejmmfjabmmihaaDoor
namespace Go.Proofs.YtejmmfjabmmihaaDoor.turnSame
open Go.ChangeShapes Go.WideShapes Go.ChangeAt Go.RowKit

set_option maxRecDepth 100000 in
theorem contract (H : Type) (enc : TypeId × Value → H) (W : World) (base : Nat) (args : Array Value) (ds gs : List (DataW H)) (before : List MemPlace)
    (hval : ∀ (j : Nat) t v, Tryd.f8.params[j]? = some t → args[j]? = some v → Value.okWide Tryd.prog W .any base t v)
    (hW : DataW.Whole enc Tryd.prog Tryd.f8.params.toList Rows.turnSameSpec.vars false W args.toList ds gs before) (hL : laidMetH Tryd.prog Rows.turnSameRow.laid W) :
    Calls Tryd.prog 8 args W fun e W' => ∃ v, e = .returned v ∧ Rows.turnSameSpec.post enc Tryd.prog Tryd.f8 false true false false W args v W' := by
  have hW' := hW
  obtain ⟨p, q, hA, hV, rfl, hfz, hnd⟩ := hW
  rw [show Tryd.f8.params = #[34, 34] from rfl] at hA hval
  obtain ⟨v0, vs0, d0, ds0, p0, q0, hargs, rfl, rfl, h0, r0⟩ := trodAll_cons hA
  obtain ⟨v1, vs1, d1, ds1, p1, q1, rfl, rfl, rfl, h1, r1⟩ := trodAll_cons r0
  obtain ⟨rfl, rfl, rfl⟩ := trodAll_nil r1
  obtain rfl : args = #[v0, v1] := by cases args; simp_all
  obtain ⟨rfl, rfl⟩ := trodVars_none hV
  obtain ⟨x0, y0, S0, rfl, hS0⟩ := open_minutes (hval 0 34 v0 rfl rfl) h0
  obtain ⟨x1, y1, S1, rfl, hS1⟩ := open_minutes (hval 1 34 v1 rfl rfl) h1
  refine (TurnSame_any _ _ S0 _ _ S1 W (tab_of hL) hS0 hS1).mono fun e W' ⟨he, hg⟩ => ?_
  subst he
  refine ⟨_, rfl, post_true hW' rfl rfl ⟨rfl, rfl, rfl⟩ ?_ hg⟩
  rw [show Tryd.f8.params = #[34, 34] from rfl]
  intro t ht
  simp only [List.mem_cons, List.not_mem_nil, or_false] at ht
  rcases ht with rfl | rfl <;> exact ⟨by kernel_rfl, of_decide_eq_true (by kernel_rfl)⟩

noncomputable def wArgs : Array Value := #[.agg #[.slice none 0 0, .slice none 0 0], .agg #[.slice none 0 0, .slice none 0 0]]
set_option maxRecDepth 100000 in
theorem laid_met (os : Os) : laidMet Tryd.prog Rows.turnSameRow.laid ((laidWorld os).forCall (fun _ _ => 0) ⟨#[], wArgs, []⟩).memory :=
  laidMet_of_run' 8 (by kernel_rfl) (by kernel_rfl)
set_option maxRecDepth 100000 in
theorem reads (os : Os) {H : Type} (enc : TypeId × Value → H) : ∃ x places, DataW.whole enc Tryd.prog ((laidWorld os).forCall (fun _ _ => 0) ⟨#[], wArgs, []⟩).memory Tryd.f8.params.toList Rows.turnSameSpec.vars false wArgs.toList 8 = some (x, [], places) :=
  ⟨[.agg [.nil, .nil], .agg [.nil, .nil]], [], by kernel_rfl⟩

set_option maxRecDepth 100000 in
theorem lifted (os : Os) (started : os.Started) (H : Type) (enc : TypeId × Value → H) (F : Stop.Interp) :
    ReturnsInHanded {} Tryd.checked os 8 .any ((OpenSpec.ofChange Rows.turnSameSpec).preRow enc Tryd.prog Tryd.f8 Rows.turnSameRow.domain false Rows.turnSameRow.laid) (((OpenSpec.ofChange Rows.turnSameSpec).at F).post enc Tryd.prog Tryd.f8 false true false false) := by
  obtain ⟨x, places, hx⟩ := reads os enc
  refine returnsInHanded_of_row (C := Tryd.checked) (s := OpenSpec.ofChange Rows.turnSameSpec) own started (by kernel_rfl) Tryd.func8
    (witness_row_at (enc := enc) (C := Tryd.checked) false (laidWorld os) wArgs rfl (by kernel_rfl) (by kernel_rfl) (by kernel_rfl)
      (OpenSpec.preRow_of_cond 8 hx (by kernel_rfl) (fun k hk => by cases hk) (by kernel_rfl) (laid_met os))) ?_
  intro W base args ds gs before hval hW _ _ _ hL _ _
  exact contract H enc W base args ds gs before hval hW hL

set_option maxRecDepth 100000 in
theorem said : Rows.TurnSameSaid :=
  OpenClaim.holds_of_cond 8 Tryd.f8 rfl rfl rfl rfl rfl rfl rfl ⟨rfl, rfl, rfl, rfl, rfl⟩ rfl rfl rfl rfl rfl (by kernel_rfl) Tryd.func8 (by kernel_rfl)
    (of_decide_eq_true (by kernel_rfl)) (by unfold Func.isWrapper; first | (rw [if_pos (by decide +kernel)]; kernel_rfl) | (rw [if_neg (by decide +kernel)]; exact ⟨rfl, rfl⟩))
    (fun os started H enc _ F => by rw [OpenClaim.pre_eq_preRow]; exact lifted os started H enc F)

set_option maxRecDepth 100000 in
theorem plain (f : FuncId) (fn : Func) (hf : Tryd.pinned.checked.prog.funcNamed "drowner/drownerlaw01.TurnSame" = some f) (hfn : Tryd.pinned.checked.prog.funcs[f]? = some fn) :
    false = Tryd.pinned.checked.prog.looks [] ∧ ∀ (j : Nat) t, fn.params[j]? = some t → Tryd.pinned.checked.prog.wantsStandIn t = false := by
  obtain rfl : f = 8 := Option.some.inj ((show Tryd.prog.funcNamed "drowner/drownerlaw01.TurnSame" = some 8 by kernel_rfl).symm.trans hf) |>.symm
  obtain rfl : fn = Tryd.f8 := (Option.some.inj (Tryd.func8.symm.trans hfn)).symm
  refine ⟨by kernel_rfl, fun j t ht => ?_⟩
  rw [show Tryd.f8.params = #[34, 34] from rfl] at ht
  have hm := Array.mem_of_getElem? ht
  simp only [List.mem_toArray, List.mem_cons, List.not_mem_nil, or_false] at hm
  rcases hm with rfl | rfl
  · exact (show Tryd.prog.wantsStandIn 34 = false by kernel_rfl)
  · exact (show Tryd.prog.wantsStandIn 34 = false by kernel_rfl)

set_option maxRecDepth 100000 in
theorem card : Rows.TurnSameCardSaid :=
  Claim7.holds_tied_plain_at .later [] _ _ _ _ said (fun _ h => by cases h) (by kernel_rfl) (fun _ h => by cases h) turnSame_row_tie rfl ⟨rfl, rfl⟩ (by kernel_rfl) rfl plain (by kernel_rfl)
end Go.Proofs.YtejmmfjabmmihaaDoor.turnSame
