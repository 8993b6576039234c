/- TurnLists: the walk and the card. -/
import Derived.Test.YtejmmfjabmmihaaDoorSanity
import Derived.Test.YtejmmfjabmmihaaDoorArgs
import Derived.Test.YtejmmfjabmmihaaDoorRestW
import Derived.Deep.DeepCutAuto
namespace Go.Proofs.YtejmmfjabmmihaaDoor
open Go.RowKit Go.Shelf

theorem listed_le (l : List Sp) : (listed l).length ≤ 2000 := by
  unfold listed
  split
  · simp
  · omega
theorem spansX_le (S : Mn) (lo hi : Int) : (spansX S lo hi).length ≤ 2000000 := by
  unfold spansX
  split
  · have := listed_le (lst (mem S) lo (spN lo hi)); omega
  · simp
theorem restX_le (S : Mn) (lo hi : Int) : (restX S lo hi).length ≤ 2000000 := by
  unfold restX
  split
  · have := listed_le (lst (fun i => !mem S i) lo (spN lo hi)); omega
  · simp
theorem spEq_self (l : List Sp) : spEq l l = true := (spEq_iff l l).2 rfl

set_option maxRecDepth 100000 in
set_option maxHeartbeats 4000000 in
theorem TurnLists_any (a b : Value) (S : Mn) (lo hi : Int) (w : World) (hT : Tab w) (hS : MinsAt w a b S) :
    Calls Tryd.prog 9 #[.agg #[a, b], .agg #[.int .i64 lo, .int .i64 hi]] w fun e w' => e = .returned (.bool true) ∧ Ext w w' := by
  obtain ⟨aa, ca, rfl⟩ := hS.t.len
  obtain ⟨ab, cb, rfl⟩ := hS.s.len
  go_enter Tryd.func9, Tryd.ntmps9
  go_upto_region 1 with fail
  go_cut [32] (fun s wx => ∃ v : Bool, s = .bool v ∧ wx.cell? ⟨w.heap.size, 0, none⟩ = some (.slice aa S.ts.length ca) ∧ wx.cell? ⟨w.heap.size, 1, none⟩ = some (.slice ab S.ss.length cb) ∧ wx.cell? ⟨w.heap.size + 1, 0, none⟩ = some (.int .i64 lo) ∧ wx.cell? ⟨w.heap.size + 1, 1, none⟩ = some (.int .i64 hi) ∧ Ext w wx)
  case first =>
    by_cases h1 : 2 < S.ts.length
    · go_wp2_with fail
      go_meet
      case rel => exact ⟨_, rfl, by simp, by simp, by simp, by simp, (by repeat (first | exact Ext.refl _ | assumption | refine Ext.alloc ?_ _ | refine Ext.drew ?_ | refine Ext.drewN _ ?_ | refine Ext.trans ?_ (by assumption)))⟩
    · by_cases h2 : 8 < S.ss.length
      · go_wp2_with fail
        go_meet
        case rel => exact ⟨_, rfl, by simp, by simp, by simp, by simp, (by repeat (first | exact Ext.refl _ | assumption | refine Ext.alloc ?_ _ | refine Ext.drew ?_ | refine Ext.drewN _ ?_ | refine Ext.trans ?_ (by assumption)))⟩
      · cases hsp : spB lo hi
        · have HSP := Lib.hid hsp
          clear hsp
          go_wp2_with fail
          refine (Span_any lo hi _).mono ?_
          rw [HSP.out]
          rintro e w1 ⟨rfl, hx1⟩
          obtain ⟨q0, q1, hx, hzz⟩ := alloc2 hx1
          go_wp2_with fail
          go_meet
          case rel => exact ⟨_, rfl, q0.cell 0, q0.cell 1, q1.cell 0, q1.cell 1, hx⟩
        · obtain ⟨b1, b2, b3⟩ := spB_t hsp
          have HSP := Lib.hid hsp
          clear hsp
          go_wp2_with fail
          refine (Span_any lo hi _).mono ?_
          rw [HSP.out]
          rintro e w1 ⟨rfl, hx1⟩
          obtain ⟨q0, q1, hx, hzz⟩ := alloc2 hx1
          clear hx1
          have d0 : w1.cell? ⟨w.heap.size, 0, none⟩ = some (.slice aa S.ts.length ca) := q0.cell 0
          have d1 : w1.cell? ⟨w.heap.size, 1, none⟩ = some (.slice ab S.ss.length cb) := q0.cell 1
          have d2 : w1.cell? ⟨w.heap.size + 1, 0, none⟩ = some (.int .i64 lo) := q1.cell 0
          have d3 : w1.cell? ⟨w.heap.size + 1, 1, none⟩ = some (.int .i64 hi) := q1.cell 1
          clear q0 q1
          go_wp2_with fail
          all_goals
            go_meet
            case rel => exact ⟨_, rfl, d0, d1, d2, d3, hx⟩
  case rest =>
    obtain ⟨v, rfl, d0, d1, d2, d3, hx⟩ := hcut
    have hTc := hT.ext hx
    cases v
    · have hS1 := hS.ext hx
      go_wp2_with fail
      refine (Spans_any _ _ S lo hi _ hS1).mono ?_
      rintro e w2 ⟨v1, rfl, hv1, hy⟩
      replace d0 := hy.cell d0
      replace d1 := hy.cell d1
      replace d2 := hy.cell d2
      replace d3 := hy.cell d3
      replace hx := hx.trans hy
      replace hS1 := hS1.ext hy
      clear hy
      go_wp2_with fail
      refine (RefSpans_any _ _ S lo hi _ hS1).mono ?_
      rintro e w3 ⟨v2, rfl, hv2, hy⟩
      obtain ⟨A1, c1, rfl⟩ := hv1.len
      obtain ⟨A2, c2, rfl⟩ := hv2.len
      replace d0 := hy.cell d0
      replace d1 := hy.cell d1
      replace d2 := hy.cell d2
      replace d3 := hy.cell d3
      replace hx := hx.trans hy
      replace hS1 := hS1.ext hy
      replace hv1 := hv1.ext hy
      clear hy
      obtain ⟨X1, hX1⟩ : ∃ X1, spansX S lo hi = X1 := ⟨_, rfl⟩
      obtain ⟨E1, hE1⟩ : ∃ E1, spansE S lo hi = E1 := ⟨_, rfl⟩
      have hX1l : X1.length ≤ 2000000 := by rw [← hX1]; exact spansX_le S lo hi
      rw [hX1] at hv1 hv2 ⊢
      rw [hE1]
      clear hX1 hE1
      have k0 : (w3.alloc (.cells #[.slice A2 X1.length c2, .int .i64 E1] 61)).cell? ⟨w.heap.size, 0, none⟩ = some (.slice aa S.ts.length ca) := Ext.cell (by repeat (first | exact Ext.refl _ | assumption | refine Ext.alloc ?_ _ | refine Ext.drew ?_ | refine Ext.drewN _ ?_ | refine Ext.trans ?_ (by assumption))) d0
      have k1 : (w3.alloc (.cells #[.slice A2 X1.length c2, .int .i64 E1] 61)).cell? ⟨w.heap.size, 1, none⟩ = some (.slice ab S.ss.length cb) := Ext.cell (by repeat (first | exact Ext.refl _ | assumption | refine Ext.alloc ?_ _ | refine Ext.drew ?_ | refine Ext.drewN _ ?_ | refine Ext.trans ?_ (by assumption))) d1
      have k2 : (w3.alloc (.cells #[.slice A2 X1.length c2, .int .i64 E1] 61)).cell? ⟨w.heap.size + 1, 0, none⟩ = some (.int .i64 lo) := Ext.cell (by repeat (first | exact Ext.refl _ | assumption | refine Ext.alloc ?_ _ | refine Ext.drew ?_ | refine Ext.drewN _ ?_ | refine Ext.trans ?_ (by assumption))) d2
      have k3 : (w3.alloc (.cells #[.slice A2 X1.length c2, .int .i64 E1] 61)).cell? ⟨w.heap.size + 1, 1, none⟩ = some (.int .i64 hi) := Ext.cell (by repeat (first | exact Ext.refl _ | assumption | refine Ext.alloc ?_ _ | refine Ext.drew ?_ | refine Ext.drewN _ ?_ | refine Ext.trans ?_ (by assumption))) d3
      clear d0 d1 d2 d3
      go_wp2_with fail
      refine (Rest_any _ _ S lo hi _ (hS1.ext (by repeat (first | exact Ext.refl _ | assumption | refine Ext.alloc ?_ _ | refine Ext.drew ?_ | refine Ext.drewN _ ?_ | refine Ext.trans ?_ (by assumption))))).mono ?_
      rintro e w4 ⟨v3, rfl, hv3, hy⟩
      obtain ⟨q0, hy1, hzz⟩ := alloc1 hy
      have d0 := hy.cell k0
      have d1 := hy.cell k1
      have d2 := hy.cell k2
      have d3 := hy.cell k3
      replace hx := hx.trans hy1
      replace hS1 := hS1.ext hy1
      replace hv1 := hv1.ext hy1
      replace hv2 := hv2.ext hy1
      clear k0 k1 k2 k3 hy hy1
      go_wp2_with fail
      refine (RefRest_any _ _ S lo hi _ hS1).mono ?_
      rintro e w5 ⟨v4, rfl, hv4, hy⟩
      obtain ⟨A3, c3, rfl⟩ := hv3.len
      obtain ⟨A4, c4, rfl⟩ := hv4.len
      replace hx := hx.trans hy
      replace hv1 := hv1.ext hy
      replace hv2 := hv2.ext hy
      replace hv3 := hv3.ext hy
      replace q0 := q0.ext hy
      clear hy d0 d1 d2 d3 hS1
      obtain ⟨X2, hX2⟩ : ∃ X2, restX S lo hi = X2 := ⟨_, rfl⟩
      obtain ⟨E2, hE2⟩ : ∃ E2, restE S lo hi = E2 := ⟨_, rfl⟩
      have hX2l : X2.length ≤ 2000000 := by rw [← hX2]; exact restX_le S lo hi
      rw [hX2] at hv3 hv4 ⊢
      rw [hE2]
      clear hX2 hE2
      obtain ⟨W6, hW6⟩ : ∃ W6, w5.alloc (.cells #[.slice A4 X2.length c4, .int .i64 E2] 61) = W6 := ⟨_, rfl⟩
      have hx6 : Ext w5 W6 := by rw [← hW6]; exact (by repeat (first | exact Ext.refl _ | assumption | refine Ext.alloc ?_ _ | refine Ext.drew ?_ | refine Ext.drewN _ ?_ | refine Ext.trans ?_ (by assumption)))
      have q1 : Cls w5.heap.size 61 #[.slice A4 X2.length c4, .int .i64 E2] W6 := by rw [← hW6]; exact Cls.new _ _ _
      replace q0 := q0.ext hx6
      replace hx := hx.trans hx6
      go_wp2_with fail
      clear hW6
      refine (sanity_any _ (hT.ext hx)).mono ?_
      rintro e w7 ⟨rfl, hy⟩
      replace q0 := q0.ext hy
      replace q1 := q1.ext hy
      replace hx := hx.trans hy
      have hy6 := hx6.trans hy
      have e0 : w7.cell? ⟨w3.heap.size, 0, none⟩ = some (.slice A2 X1.length c2) := q0.cell 0
      go_wp2_with fail
      refine (SameSpans_any _ _ X1 X1 _ (hv1.ext hy6) (hv2.ext hy6) hX1l hX1l).mono ?_
      rw [spEq_self]
      rintro e w8 ⟨rfl, hz⟩
      replace q0 := q0.ext hz
      replace q1 := q1.ext hz
      replace hx := hx.trans hz
      replace hy6 := hy6.trans hz
      clear e0
      have e1 : w8.cell? ⟨w3.heap.size, 1, none⟩ = some (.int .i64 E1) := q0.cell 1
      have e2 : w8.cell? ⟨w5.heap.size, 0, none⟩ = some (.slice A4 X2.length c4) := q1.cell 0
      go_wp2_with fail
      refine (SameSpans_any _ _ X2 X2 _ (hv3.ext hy6) (hv4.ext hy6) hX2l hX2l).mono ?_
      rw [spEq_self]
      rintro e w9 ⟨rfl, hz2⟩
      replace q1 := q1.ext hz2
      have e3 : w9.cell? ⟨w5.heap.size, 1, none⟩ = some (.int .i64 E2) := q1.cell 1
      go_wp2_with fail
      go_ret
      exact ⟨ret_bool (by simp), hx.trans hz2⟩
    · go_wp2_with fail
      refine (sanity_any _ hTc).mono ?_
      rintro e w4 ⟨rfl, hy⟩
      go_wp2_with fail
      go_ret
      exact ⟨rfl, hx.trans hy⟩
end Go.Proofs.YtejmmfjabmmihaaDoor
namespace Go.Proofs.YtejmmfjabmmihaaDoor.turnLists
open Go.ChangeShapes Go.WideShapes Go.ChangeAt Go.RowKit

set_option maxRecDepth 100000 in
theorem contract (H : Type) (enc : TypeId × Value → H) (W : World) (base : Nat) (args : Array Value) (ds gs : List (DataW H)) (before : List MemPlace)
    (hval : ∀ (j : Nat) t v, Tryd.f9.params[j]? = some t → args[j]? = some v → Value.okWide Tryd.prog W .any base t v)
    (hW : DataW.Whole enc Tryd.prog Tryd.f9.params.toList Rows.turnListsSpec.vars false W args.toList ds gs before) (hL : laidMetH Tryd.prog Rows.turnListsRow.laid W) :
    Calls Tryd.prog 9 args W fun e W' => ∃ v, e = .returned v ∧ Rows.turnListsSpec.post enc Tryd.prog Tryd.f9 false true false false W args v W' := by
  have hW' := hW
  obtain ⟨p, q, hA, hV, rfl, hfz, hnd⟩ := hW
  rw [show Tryd.f9.params = #[34, 56] from rfl] at hA hval
  obtain ⟨v0, vs0, d0, ds0, p0, q0, hargs, rfl, rfl, h0, r0⟩ := trodAll_cons hA
  obtain ⟨v1, vs1, d1, ds1, p1, q1, rfl, rfl, rfl, h1, r1⟩ := trodAll_cons r0
  obtain ⟨rfl, rfl, rfl⟩ := trodAll_nil r1
  obtain rfl : args = #[v0, v1] := by cases args; simp_all
  obtain ⟨rfl, rfl⟩ := trodVars_none hV
  obtain ⟨x0, y0, S0, rfl, hS0⟩ := open_minutes (hval 0 34 v0 rfl rfl) h0
  obtain ⟨x1, y1, rfl⟩ := open_span (hval 1 56 v1 rfl rfl) h1
  refine (TurnLists_any _ _ S0 _ _ W (tab_of hL) hS0).mono fun e W' ⟨he, hg⟩ => ?_
  subst he
  refine ⟨_, rfl, post_true hW' rfl rfl ⟨rfl, rfl, rfl⟩ ?_ hg⟩
  rw [show Tryd.f9.params = #[34, 56] from rfl]
  intro t ht
  simp only [List.mem_cons, List.not_mem_nil, or_false] at ht
  rcases ht with rfl | rfl <;> exact ⟨by kernel_rfl, of_decide_eq_true (by kernel_rfl)⟩

noncomputable def wArgs : Array Value := #[.agg #[.slice none 0 0, .slice none 0 0], .agg #[.int .i64 0, .int .i64 0]]
set_option maxRecDepth 100000 in
theorem laid_met (os : Os) : laidMet Tryd.prog Rows.turnListsRow.laid ((laidWorld os).forCall (fun _ _ => 0) ⟨#[], wArgs, []⟩).memory :=
  laidMet_of_run' 8 (by kernel_rfl) (by kernel_rfl)
set_option maxRecDepth 100000 in
theorem reads (os : Os) {H : Type} (enc : TypeId × Value → H) : ∃ x places, DataW.whole enc Tryd.prog ((laidWorld os).forCall (fun _ _ => 0) ⟨#[], wArgs, []⟩).memory Tryd.f9.params.toList Rows.turnListsSpec.vars false wArgs.toList 8 = some (x, [], places) :=
  ⟨[.agg [.nil, .nil], .agg [.lit (.int .i64 0), .lit (.int .i64 0)]], [], by kernel_rfl⟩

set_option maxRecDepth 100000 in
theorem lifted (os : Os) (started : os.Started) (H : Type) (enc : TypeId × Value → H) (F : Stop.Interp) :
    ReturnsInHanded {} Tryd.checked os 9 .any ((OpenSpec.ofChange Rows.turnListsSpec).preRow enc Tryd.prog Tryd.f9 Rows.turnListsRow.domain false Rows.turnListsRow.laid) (((OpenSpec.ofChange Rows.turnListsSpec).at F).post enc Tryd.prog Tryd.f9 false true false false) := by
  obtain ⟨x, places, hx⟩ := reads os enc
  refine returnsInHanded_of_row (C := Tryd.checked) (s := OpenSpec.ofChange Rows.turnListsSpec) own started (by kernel_rfl) Tryd.func9
    (witness_row_at (enc := enc) (C := Tryd.checked) false (laidWorld os) wArgs rfl (by kernel_rfl) (by kernel_rfl) (by kernel_rfl)
      (OpenSpec.preRow_of_cond 8 hx (by kernel_rfl) (fun k hk => by cases hk) (by kernel_rfl) (laid_met os))) ?_
  intro W base args ds gs before hval hW _ _ _ hL _ _
  exact contract H enc W base args ds gs before hval hW hL

set_option maxRecDepth 100000 in
theorem said : Rows.TurnListsSaid :=
  OpenClaim.holds_of_cond 9 Tryd.f9 rfl rfl rfl rfl rfl rfl rfl ⟨rfl, rfl, rfl, rfl, rfl⟩ rfl rfl rfl rfl rfl (by kernel_rfl) Tryd.func9 (by kernel_rfl)
    (of_decide_eq_true (by kernel_rfl)) (by unfold Func.isWrapper; first | (rw [if_pos (by decide +kernel)]; kernel_rfl) | (rw [if_neg (by decide +kernel)]; exact ⟨rfl, rfl⟩))
    (fun os started H enc _ F => by rw [OpenClaim.pre_eq_preRow]; exact lifted os started H enc F)

set_option maxRecDepth 100000 in
theorem plain (f : FuncId) (fn : Func) (hf : Tryd.pinned.checked.prog.funcNamed "drowner/drownerlaw01.TurnLists" = some f) (hfn : Tryd.pinned.checked.prog.funcs[f]? = some fn) :
    false = Tryd.pinned.checked.prog.looks [] ∧ ∀ (j : Nat) t, fn.params[j]? = some t → Tryd.pinned.checked.prog.wantsStandIn t = false := by
  obtain rfl : f = 9 := Option.some.inj ((show Tryd.prog.funcNamed "drowner/drownerlaw01.TurnLists" = some 9 by kernel_rfl).symm.trans hf) |>.symm
  obtain rfl : fn = Tryd.f9 := (Option.some.inj (Tryd.func9.symm.trans hfn)).symm
  refine ⟨by kernel_rfl, fun j t ht => ?_⟩
  rw [show Tryd.f9.params = #[34, 56] from rfl] at ht
  have hm := Array.mem_of_getElem? ht
  simp only [List.mem_toArray, List.mem_cons, List.not_mem_nil, or_false] at hm
  rcases hm with rfl | rfl
  · exact (show Tryd.prog.wantsStandIn 34 = false by kernel_rfl)
  · exact (show Tryd.prog.wantsStandIn 56 = false by kernel_rfl)

set_option maxRecDepth 100000 in
theorem card : Rows.TurnListsCardSaid :=
  Claim7.holds_tied_plain_at .later [] _ _ _ _ said (fun _ h => by cases h) (by kernel_rfl) (fun _ h => by cases h) turnLists_row_tie rfl ⟨rfl, rfl⟩ (by kernel_rfl) rfl plain (by kernel_rfl)
end Go.Proofs.YtejmmfjabmmihaaDoor.turnLists
