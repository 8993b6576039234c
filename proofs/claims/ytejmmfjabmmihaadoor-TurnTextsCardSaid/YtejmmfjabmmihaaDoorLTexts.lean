/- TurnTexts: the walk and the card. -/
import Derived.Test.YtejmmfjabmmihaaDoorSanity
import Derived.Test.YtejmmfjabmmihaaDoorArgs
import Derived.Test.YtejmmfjabmmihaaDoorSame
import Derived.Test.YtejmmfjabmmihaaDoorRPrt
import Derived.Test.YtejmmfjabmmihaaDoorRPar
import Derived.ChangeMaps5
namespace Go.Proofs.YtejmmfjabmmihaaDoor
open Go.RowKit Go.Shelf

theorem prsX_len (x : List UInt8) : (prsX x).ts.length ≤ 24 ∧ (prsX x).ss.length ≤ 40 := by
  unfold prsX
  split
  · rename_i h
    unfold prsE at h
    split at h
    · cases h
    · split at h
      · cases h
      · split at h
        · cases h
        · exact ⟨by simp only; omega, by simp only; omega⟩
  · exact ⟨by simp, by simp⟩

set_option maxRecDepth 100000 in
set_option maxHeartbeats 4000000 in
theorem Texts_main (aa ab : Option Addr) (ca cb : Nat) (S : Mn) (s : ByteArray) (w : World) (hT : Tab w) (hS : MinsAt w (.slice aa S.ts.length ca) (.slice ab S.ss.length cb) S) (h1 : S.ts.length ≤ 30) (h2 : S.ss.length ≤ 50) (h3 : s.size ≤ 3200) :
    Calls Tryd.prog 4 #[.agg #[.slice aa S.ts.length ca, .slice ab S.ss.length cb], .string s] w fun e w' => e = .returned (.bool true) ∧ Ext w w' := by
  obtain ⟨X, hX⟩ : ∃ X, prtX S = X := ⟨_, rfl⟩
  obtain ⟨E, hE⟩ : ∃ E, chkE S = E := ⟨_, rfl⟩
  have HX := Lib.hid hX
  have HE := Lib.hid hE
  clear hX hE
  go_enter Tryd.func4, Tryd.ntmps4
  go_wp2_with fail
  refine (Print_any _ _ S _ (hS.ext (by repeat (first | exact Ext.refl _ | assumption | refine Ext.alloc ?_ _ | refine Ext.drew ?_ | refine Ext.drewN _ ?_ | refine Ext.trans ?_ (by assumption)))) (hT.ext (by repeat (first | exact Ext.refl _ | assumption | refine Ext.alloc ?_ _ | refine Ext.drew ?_ | refine Ext.drewN _ ?_ | refine Ext.trans ?_ (by assumption))))).mono ?_
  rw [HX.out, HE.out]
  rintro e w1 ⟨rfl, hx1⟩
  obtain ⟨q0, hx, hzz⟩ := alloc1 hx1
  have d0 : w1.cell? ⟨w.heap.size, 0, none⟩ = some (.slice aa S.ts.length ca) := q0.cell 0
  have d1 : w1.cell? ⟨w.heap.size, 1, none⟩ = some (.slice ab S.ss.length cb) := q0.cell 1
  clear hx1 q0
  go_wp2_with fail
  refine (RefPrint_any _ _ S _ (hS.ext hx)).mono ?_
  rw [HX.out, HE.out]
  rintro e w2 ⟨rfl, hy⟩
  replace hx := hx.trans hy
  clear hy d0 d1
  go_wp2_with fail
  refine (Parse_any s _ (by omega)).mono ?_
  intro e w3 hpp
  replace hpp : PrsPost (bytesOf s) w2 e w3 := hpp
  revert hpp
  unfold PrsPost
  obtain ⟨P, hP⟩ : ∃ P, prsX (bytesOf s) = P := ⟨_, rfl⟩
  obtain ⟨F, hF⟩ : ∃ F, prsE (bytesOf s) = F := ⟨_, rfl⟩
  obtain ⟨A, hA⟩ : ∃ A, prsA (bytesOf s) = A := ⟨_, rfl⟩
  have hl := prsX_len (bytesOf s)
  rw [hP] at hl
  rw [hP, hF, hA]
  have HP := Lib.hid hP
  have HF := Lib.hid hF
  have HA := Lib.hid hA
  clear hP hF hA
  rintro ⟨va, vb, rfl, hp, hy⟩
  obtain ⟨aa1, ca1, rfl⟩ := hp.t.len
  obtain ⟨ab1, cb1, rfl⟩ := hp.s.len
  replace hx := hx.trans hy
  clear hy
  obtain ⟨W3, hW3⟩ : ∃ W3, w3.alloc (.cells #[.slice aa1 P.ts.length ca1, .slice ab1 P.ss.length cb1] 34) = W3 := ⟨_, rfl⟩
  have hy : Ext w3 W3 := by rw [← hW3]; exact (by repeat (first | exact Ext.refl _ | assumption | refine Ext.alloc ?_ _ | refine Ext.drew ?_ | refine Ext.drewN _ ?_ | refine Ext.trans ?_ (by assumption)))
  have q0 : Cls w3.heap.size 34 #[.slice aa1 P.ts.length ca1, .slice ab1 P.ss.length cb1] W3 := by rw [← hW3]; exact Cls.new _ _ _
  replace hx := hx.trans hy
  replace hp := hp.ext hy
  clear hy
  go_wp2_with fail
  try rw [hW3]
  clear hW3
  refine (RefParse_any s _ (by omega)).mono ?_
  intro e w4 hpp
  replace hpp : RPrsPost (bytesOf s) W3 e w4 := hpp
  revert hpp
  unfold RPrsPost
  rw [HP.out, HF.out, HA.out]
  rintro ⟨va2, vb2, rfl, hp2, hy⟩
  obtain ⟨aa2, ca2, rfl⟩ := hp2.t.len
  obtain ⟨ab2, cb2, rfl⟩ := hp2.s.len
  replace hx := hx.trans hy
  replace hp := hp.ext hy
  replace q0 := q0.ext hy
  clear hy
  obtain ⟨W4, hW4⟩ : ∃ W4, w4.alloc (.cells #[.slice aa2 P.ts.length ca2, .slice ab2 P.ss.length cb2, .int .i64 F, .int .i64 A] 40) = W4 := ⟨_, rfl⟩
  have hy : Ext w4 W4 := by rw [← hW4]; exact (by repeat (first | exact Ext.refl _ | assumption | refine Ext.alloc ?_ _ | refine Ext.drew ?_ | refine Ext.drewN _ ?_ | refine Ext.trans ?_ (by assumption)))
  have q1 : Cls w4.heap.size 40 #[.slice aa2 P.ts.length ca2, .slice ab2 P.ss.length cb2, .int .i64 F, .int .i64 A] W4 := by rw [← hW4]; exact Cls.new _ _ _
  replace hx := hx.trans hy
  replace hp := hp.ext hy
  replace hp2 := hp2.ext hy
  replace q0 := q0.ext hy
  clear hy
  obtain ⟨hl1, hl2⟩ := hl
  go_wp2_with fail
  try rw [hW4]
  clear hW4
  refine (sanity_any _ (hT.ext hx)).mono ?_
  rintro e w5 ⟨rfl, hy⟩
  replace hx := hx.trans hy
  replace hp := hp.ext hy
  replace hp2 := hp2.ext hy
  replace q0 := q0.ext hy
  replace q1 := q1.ext hy
  clear hy
  have y0 : w5.cell? ⟨w3.heap.size, 0, none⟩ = some (.slice aa1 P.ts.length ca1) := q0.cell 0
  have y1 : w5.cell? ⟨w3.heap.size, 1, none⟩ = some (.slice ab1 P.ss.length cb1) := q0.cell 1
  have z0 : w5.cell? ⟨w4.heap.size, 0, none⟩ = some (.slice aa2 P.ts.length ca2) := q1.cell 0
  have z1 : w5.cell? ⟨w4.heap.size, 1, none⟩ = some (.slice ab2 P.ss.length cb2) := q1.cell 1
  go_wp2_with fail
  refine (SameSet_any _ _ _ _ P P _ hp hp2 (by omega) (by omega) (by omega) (by omega)).mono ?_
  rw [mnEq_self]
  rintro e w6 ⟨rfl, hy⟩
  replace q1 := q1.ext hy
  replace hx := hx.trans hy
  clear hy y0 y1 z0 z1
  have z2 : w6.cell? ⟨w4.heap.size, 2, none⟩ = some (.int .i64 F) := q1.cell 2
  have z3 : w6.cell? ⟨w4.heap.size, 3, none⟩ = some (.int .i64 A) := q1.cell 3
  go_wp2_with fail
  go_ret
  exact ⟨ret_bool (by simp), hx⟩

set_option maxRecDepth 100000 in
set_option maxHeartbeats 4000000 in
theorem TurnTexts_any (a b : Value) (S : Mn) (s : ByteArray) (w : World) (hT : Tab w) (hS : MinsAt w a b S) :
    Calls Tryd.prog 4 #[.agg #[a, b], .string s] w fun e w' => e = .returned (.bool true) ∧ Ext w w' := by
  obtain ⟨aa, ca, rfl⟩ := hS.t.len
  obtain ⟨ab, cb, rfl⟩ := hS.s.len
  by_cases h1 : S.ts.length ≤ 30
  · by_cases h2 : S.ss.length ≤ 50
    · by_cases h3 : s.size ≤ 3200
      · exact Texts_main aa ab ca cb S s w hT hS h1 h2 h3
      · go_enter Tryd.func4, Tryd.ntmps4
        go_wp2_with fail
        refine (sanity_any _ (hT.ext (by repeat (first | exact Ext.refl _ | assumption | refine Ext.alloc ?_ _ | refine Ext.drew ?_ | refine Ext.drewN _ ?_ | refine Ext.trans ?_ (by assumption))))).mono ?_
        rintro e w1 ⟨rfl, hx1⟩
        go_wp2_with fail
        go_ret
        exact ⟨rfl, Ext.trans (by repeat (first | exact Ext.refl _ | assumption | refine Ext.alloc ?_ _ | refine Ext.drew ?_ | refine Ext.drewN _ ?_ | refine Ext.trans ?_ (by assumption))) hx1⟩
    · go_enter Tryd.func4, Tryd.ntmps4
      go_wp2_with fail
      refine (sanity_any _ (hT.ext (by repeat (first | exact Ext.refl _ | assumption | refine Ext.alloc ?_ _ | refine Ext.drew ?_ | refine Ext.drewN _ ?_ | refine Ext.trans ?_ (by assumption))))).mono ?_
      rintro e w1 ⟨rfl, hx1⟩
      go_wp2_with fail
      go_ret
      exact ⟨rfl, Ext.trans (by repeat (first | exact Ext.refl _ | assumption | refine Ext.alloc ?_ _ | refine Ext.drew ?_ | refine Ext.drewN _ ?_ | refine Ext.trans ?_ (by assumption))) hx1⟩
  · go_enter Tryd.func4, Tryd.ntmps4
    go_wp2_with fail
    refine (sanity_any _ (hT.ext (by repeat (first | exact Ext.refl _ | assumption | refine Ext.alloc ?_ _ | refine Ext.drew ?_ | refine Ext.drewN _ ?_ | refine Ext.trans ?_ (by assumption))))).mono ?_
    rintro e w1 ⟨rfl, hx1⟩
    go_wp2_with fail
    go_ret
    exact ⟨rfl, Ext.trans (by repeat (first | exact Ext.refl _ | assumption | refine Ext.alloc ?_ _ | refine Ext.drew ?_ | refine Ext.drewN _ ?_ | refine Ext.trans ?_ (by assumption))) hx1⟩
end Go.Proofs.YtejmmfjabmmihaaDoor
namespace Go.Proofs.YtejmmfjabmmihaaDoor.turnTexts
open Go.ChangeShapes Go.WideShapes Go.ChangeAt Go.RowKit

set_option maxRecDepth 100000 in
theorem contract (H : Type) (enc : TypeId × Value → H) (W : World) (base : Nat) (args : Array Value) (ds gs : List (DataW H)) (before : List MemPlace)
    (hval : ∀ (j : Nat) t v, Tryd.f4.params[j]? = some t → args[j]? = some v → Value.okWide Tryd.prog W .any base t v)
    (hW : DataW.Whole enc Tryd.prog Tryd.f4.params.toList Rows.turnTextsSpec.vars false W args.toList ds gs before) (hL : laidMetH Tryd.prog Rows.turnTextsRow.laid W) :
    Calls Tryd.prog 4 args W fun e W' => ∃ v, e = .returned v ∧ Rows.turnTextsSpec.post enc Tryd.prog Tryd.f4 false true false false W args v W' := by
  have hW' := hW
  obtain ⟨p, q, hA, hV, rfl, hfz, hnd⟩ := hW
  rw [show Tryd.f4.params = #[34, 9] from rfl] at hA hval
  obtain ⟨v0, vs0, d0, ds0, p0, q0, hargs, rfl, rfl, h0, r0⟩ := trodAll_cons hA
  obtain ⟨v1, vs1, d1, ds1, p1, q1, rfl, rfl, rfl, h1, r1⟩ := trodAll_cons r0
  obtain ⟨rfl, rfl, rfl⟩ := trodAll_nil r1
  obtain rfl : args = #[v0, v1] := by cases args; simp_all
  obtain ⟨rfl, rfl⟩ := trodVars_none hV
  obtain ⟨x0, y0, S0, rfl, hS0⟩ := open_minutes (hval 0 34 v0 rfl rfl) h0
  obtain ⟨x1, rfl, hd1, hp1⟩ := Go.ChangeMaps.open_string Tryd.underlying9 (hval 1 9 v1 rfl rfl) h1
  refine (TurnTexts_any _ _ S0 _ W (tab_of hL) hS0).mono fun e W' ⟨he, hg⟩ => ?_
  subst he
  refine ⟨_, rfl, post_true hW' rfl rfl ⟨rfl, rfl, rfl⟩ ?_ hg⟩
  rw [show Tryd.f4.params = #[34, 9] from rfl]
  intro t ht
  simp only [List.mem_cons, List.not_mem_nil, or_false] at ht
  rcases ht with rfl | rfl <;> exact ⟨by kernel_rfl, of_decide_eq_true (by kernel_rfl)⟩

noncomputable def wArgs : Array Value := #[.agg #[.slice none 0 0, .slice none 0 0], .string ⟨#[]⟩]
set_option maxRecDepth 100000 in
theorem laid_met (os : Os) : laidMet Tryd.prog Rows.turnTextsRow.laid ((laidWorld os).forCall (fun _ _ => 0) ⟨#[], wArgs, []⟩).memory :=
  laidMet_of_run' 8 (by kernel_rfl) (by kernel_rfl)
set_option maxRecDepth 100000 in
theorem reads (os : Os) {H : Type} (enc : TypeId × Value → H) : ∃ x places, DataW.whole enc Tryd.prog ((laidWorld os).forCall (fun _ _ => 0) ⟨#[], wArgs, []⟩).memory Tryd.f4.params.toList Rows.turnTextsSpec.vars false wArgs.toList 8 = some (x, [], places) :=
  ⟨[.agg [.nil, .nil], .lit (.string [])], [], by kernel_rfl⟩

set_option maxRecDepth 100000 in
theorem lifted (os : Os) (started : os.Started) (H : Type) (enc : TypeId × Value → H) (F : Stop.Interp) :
    ReturnsInHanded {} Tryd.checked os 4 .any ((OpenSpec.ofChange Rows.turnTextsSpec).preRow enc Tryd.prog Tryd.f4 Rows.turnTextsRow.domain false Rows.turnTextsRow.laid) (((OpenSpec.ofChange Rows.turnTextsSpec).at F).post enc Tryd.prog Tryd.f4 false true false false) := by
  obtain ⟨x, places, hx⟩ := reads os enc
  refine returnsInHanded_of_row (C := Tryd.checked) (s := OpenSpec.ofChange Rows.turnTextsSpec) own started (by kernel_rfl) Tryd.func4
    (witness_row_at (enc := enc) (C := Tryd.checked) false (laidWorld os) wArgs rfl (by kernel_rfl) (by kernel_rfl) (by kernel_rfl)
      (OpenSpec.preRow_of_cond 8 hx (by kernel_rfl) (fun k hk => by cases hk) (by kernel_rfl) (laid_met os))) ?_
  intro W base args ds gs before hval hW _ _ _ hL _ _
  exact contract H enc W base args ds gs before hval hW hL

set_option maxRecDepth 100000 in
theorem said : Rows.TurnTextsSaid :=
  OpenClaim.holds_of_cond 4 Tryd.f4 rfl rfl rfl rfl rfl rfl rfl ⟨rfl, rfl, rfl, rfl, rfl⟩ rfl rfl rfl rfl rfl (by kernel_rfl) Tryd.func4 (by kernel_rfl)
    (of_decide_eq_true (by kernel_rfl)) (by unfold Func.isWrapper; first | (rw [if_pos (by decide +kernel)]; kernel_rfl) | (rw [if_neg (by decide +kernel)]; exact ⟨rfl, rfl⟩))
    (fun os started H enc _ F => by rw [OpenClaim.pre_eq_preRow]; exact lifted os started H enc F)

set_option maxRecDepth 100000 in
theorem plain (f : FuncId) (fn : Func) (hf : Tryd.pinned.checked.prog.funcNamed "drowner/drownerlaw01.TurnTexts" = some f) (hfn : Tryd.pinned.checked.prog.funcs[f]? = some fn) :
    false = Tryd.pinned.checked.prog.looks [] ∧ ∀ (j : Nat) t, fn.params[j]? = some t → Tryd.pinned.checked.prog.wantsStandIn t = false := by
  obtain rfl : f = 4 := Option.some.inj ((show Tryd.prog.funcNamed "drowner/drownerlaw01.TurnTexts" = some 4 by kernel_rfl).symm.trans hf) |>.symm
  obtain rfl : fn = Tryd.f4 := (Option.some.inj (Tryd.func4.symm.trans hfn)).symm
  refine ⟨by kernel_rfl, fun j t ht => ?_⟩
  rw [show Tryd.f4.params = #[34, 9] from rfl] at ht
  have hm := Array.mem_of_getElem? ht
  simp only [List.mem_toArray, List.mem_cons, List.not_mem_nil, or_false] at hm
  rcases hm with rfl | rfl
  · exact (show Tryd.prog.wantsStandIn 34 = false by kernel_rfl)
  · exact (show Tryd.prog.wantsStandIn 9 = false by kernel_rfl)

set_option maxRecDepth 100000 in
theorem card : Rows.TurnTextsCardSaid :=
  Claim7.holds_tied_plain_at .later [] _ _ _ _ said (fun _ h => by cases h) (by kernel_rfl) (fun _ h => by cases h) turnTexts_row_tie rfl ⟨rfl, rfl⟩ (by kernel_rfl) rfl plain (by kernel_rfl)
end Go.Proofs.YtejmmfjabmmihaaDoor.turnTexts
