/- sanity: the chapter's examples hold. -/
import Derived.Test.YthopgonbndoidaaVBr
namespace Go.Proofs.Ythopgonbndoidaa
open Go.RowKit Go.Shelf

theorem ints_lit (W : World) (l : List Int) (t : TypeId) : IntsAt (W.alloc (.cells (cellsI l).toArray t)) (.slice (some ⟨W.heap.size, 0, none⟩) l.length l.length) l :=
  cls_ints (Cls.new W t (cellsI l).toArray) rfl
set_option maxRecDepth 100000 in
set_option maxHeartbeats 16000000 in
theorem sanity_any (w : World) : Calls Try.prog 14 #[] w fun e w' => e = .returned (.bool true) ∧ Ext w w' := by
  obtain ⟨T, hTe⟩ : ∃ T, brook 12 = T := ⟨_, rfl⟩
  have f1 := v_chk.1
  have f2 := v_ask
  have f3 := v_aln.1
  have f4 := v_aln.2
  have f5 := v_sha
  have f6 := v_pie.1
  have f7 := v_pie.2
  have f8 := v_ob
  have f9 := v_obl
  have f10 := v_fai
  have f11 := v_dv
  have f12 := v_most
  have f13 := v_chg
  have hl1 : (brook 12).rs.length = 4 := rfl
  have hl2 : (brook 12).ps.length = 4 := rfl
  rw [hTe] at f1 f2 f3 f4 f5 f6 f7 f8 f9 f10 f11 f12 f13 hl1 hl2
  have g1 := Lib.hid f1
  have g2 := Lib.hid f2
  have g3 := Lib.hid f3
  have g4 := Lib.hid f4
  have g5 := Lib.hid f5
  have g6 := Lib.hid f6
  have g7 := Lib.hid f7
  have g8 := Lib.hid f8
  have g9 := Lib.hid f9
  have g10 := Lib.hid f10
  have g11 := Lib.hid f11
  have g12 := Lib.hid f12
  have g13 := Lib.hid f13
  have HTE := Lib.hid hTe
  have HL1 := Lib.hid hl1
  have HL2 := Lib.hid hl2
  clear f1 f2 f3 f4 f5 f6 f7 f8 f9 f10 f11 f12 f13 hl1 hl2 hTe
  go_enter Try.func14, Try.ntmps14
  go_wp2_with fail
  refine (Brook_any 12 w).mono ?_
  rw [HTE.out]
  rintro e w1 ⟨a, b, rfl, hT0, hx⟩
  obtain ⟨ar, cr, rfl, _⟩ := hT0.r.len
  obtain ⟨ab, cb, rfl, _⟩ := hT0.p.len
  rw [HL1.out, HL2.out] at hT0 ⊢
  obtain ⟨BT, hBT⟩ : ∃ B, w1.heap.size = B := ⟨_, rfl⟩
  obtain ⟨W1, hY⟩ : ∃ W1, w1.alloc (.cells #[.slice ar 4 cr, .slice ab 4 cb] 25) = W1 := ⟨_, rfl⟩
  have hxY : Ext w1 W1 := by rw [← hY]; exact (by repeat (first | exact Ext.refl _ | assumption | refine Ext.alloc ?_ _ | refine Ext.drew ?_ | refine Ext.drewN _ ?_ | refine Ext.trans ?_ (by assumption)))
  have bY : Cls BT 25 #[.slice ar 4 cr, .slice ab 4 cb] W1 := by rw [← hY]; exact Cls.newAt _ _ _ hBT.symm
  have hT := hT0.ext hxY
  clear hT0
  go_upto_region 2 with fail
  try rw [hY]
  replace hx := hx.trans hxY
  clear hY hxY hBT
  have h1 : Ext W1 W1 := Ext.refl _
  have d0 : W1.cell? ⟨BT, 0, none⟩ = _ := bY.cell 0
  have d1 : W1.cell? ⟨BT, 1, none⟩ = _ := bY.cell 1
  go_wp2_with fail
  refine (Alone_any _ _ _ T [1, 3] _ (hT.ext (h1.trans (by repeat (first | exact Ext.refl _ | assumption | refine Ext.alloc ?_ _ | refine Ext.drew ?_ | refine Ext.drewN _ ?_ | refine Ext.trans ?_ (by assumption))))) (ints_lit _ [1, 3] _) (by decide)).mono ?_
  rw [g2.out, g3.out]
  rintro e W2 ⟨rfl, hz⟩
  have hzz : Ext W1 W2 := Ext.trans (by repeat (first | exact Ext.refl _ | assumption | refine Ext.alloc ?_ _ | refine Ext.drew ?_ | refine Ext.drewN _ ?_ | refine Ext.trans ?_ (by assumption))) hz
  have h2 : Ext W1 W2 := h1.trans hzz
  replace d0 := hzz.cell d0
  replace d1 := hzz.cell d1
  clear hz hzz
  go_wp2_with fail
  refine (Saved_any _ _ _ T [1, 3] _ (hT.ext (h2.trans (by repeat (first | exact Ext.refl _ | assumption | refine Ext.alloc ?_ _ | refine Ext.drew ?_ | refine Ext.drewN _ ?_ | refine Ext.trans ?_ (by assumption))))) (ints_lit _ [1, 3] _) (by decide)).mono ?_
  rw [g2.out, g4.out]
  rintro e W3 ⟨rfl, hz⟩
  have hzz : Ext W2 W3 := Ext.trans (by repeat (first | exact Ext.refl _ | assumption | refine Ext.alloc ?_ _ | refine Ext.drew ?_ | refine Ext.drewN _ ?_ | refine Ext.trans ?_ (by assumption))) hz
  have h3 : Ext W1 W3 := h2.trans hzz
  replace d0 := hzz.cell d0
  replace d1 := hzz.cell d1
  clear hz hzz h2
  go_wp2_with fail
  refine (Shares_any _ _ T _ (hT.ext (h3.trans (by repeat (first | exact Ext.refl _ | assumption | refine Ext.alloc ?_ _ | refine Ext.drew ?_ | refine Ext.drewN _ ?_ | refine Ext.trans ?_ (by assumption))))) (by rw [HL1.out, HL2.out]; decide)).mono ?_
  rw [g5.out, g1.out]
  rintro e W4 ⟨vs, rfl, hs, hz⟩
  have hzz : Ext W3 W4 := Ext.trans (by repeat (first | exact Ext.refl _ | assumption | refine Ext.alloc ?_ _ | refine Ext.drew ?_ | refine Ext.drewN _ ?_ | refine Ext.trans ?_ (by assumption))) hz
  have h4 : Ext W1 W4 := h3.trans hzz
  replace d0 := hzz.cell d0
  replace d1 := hzz.cell d1
  clear hz hzz h3
  go_wp2_with fail
  refine (Pieces_any _ _ T 3 _ (hT.ext (h4.trans (by repeat (first | exact Ext.refl _ | assumption | refine Ext.alloc ?_ _ | refine Ext.drew ?_ | refine Ext.drewN _ ?_ | refine Ext.trans ?_ (by assumption))))) (by rw [HL2.out]; decide)).mono ?_
  rw [g6.out, g7.out]
  rintro e W5 ⟨vp, rfl, hp, hz⟩
  have hzz : Ext W4 W5 := Ext.trans (by repeat (first | exact Ext.refl _ | assumption | refine Ext.alloc ?_ _ | refine Ext.drew ?_ | refine Ext.drewN _ ?_ | refine Ext.trans ?_ (by assumption))) hz
  have h5 : Ext W1 W5 := h4.trans hzz
  replace hs := hs.ext hzz
  replace d0 := hzz.cell d0
  replace d1 := hzz.cell d1
  clear hz hzz h4
  go_wp2_with fail
  refine (Objection_any _ _ _ T [2, 18, 6, 1] _ (hT.ext (h5.trans (by repeat (first | exact Ext.refl _ | assumption | refine Ext.alloc ?_ _ | refine Ext.drew ?_ | refine Ext.drewN _ ?_ | refine Ext.trans ?_ (by assumption))))) (ints_lit _ [2, 18, 6, 1] _) (by decide)).mono ?_
  rw [g9.out, g8.out.2.1, g8.out.1]
  rintro e W6 ⟨vo, rfl, ho, hz⟩
  have hzz : Ext W5 W6 := Ext.trans (by repeat (first | exact Ext.refl _ | assumption | refine Ext.alloc ?_ _ | refine Ext.drew ?_ | refine Ext.drewN _ ?_ | refine Ext.trans ?_ (by assumption))) hz
  have h6 : Ext W1 W6 := h5.trans hzz
  replace hs := hs.ext hzz
  replace hp := hp.ext hzz
  replace d0 := hzz.cell d0
  replace d1 := hzz.cell d1
  clear hz hzz h5
  go_wp2_with fail
  refine (Objection_any _ _ _ T [6, 8, 10, 3] _ (hT.ext (h6.trans (by repeat (first | exact Ext.refl _ | assumption | refine Ext.alloc ?_ _ | refine Ext.drew ?_ | refine Ext.drewN _ ?_ | refine Ext.trans ?_ (by assumption))))) (ints_lit _ [6, 8, 10, 3] _) (by decide)).mono ?_
  rw [g8.out.2.2.2, g8.out.2.2.1]
  rintro e W7 ⟨vq, rfl, hq, hz⟩
  have hzz : Ext W6 W7 := Ext.trans (by repeat (first | exact Ext.refl _ | assumption | refine Ext.alloc ?_ _ | refine Ext.drew ?_ | refine Ext.drewN _ ?_ | refine Ext.trans ?_ (by assumption))) hz
  have h7 : Ext W1 W7 := h6.trans hzz
  replace hs := hs.ext hzz
  replace hp := hp.ext hzz
  replace ho := ho.ext hzz
  replace d0 := hzz.cell d0
  replace d1 := hzz.cell d1
  clear hz hzz h6
  go_wp2_with fail
  refine (Fair_any _ _ _ T [0, 17, 10, 0] _ (hT.ext (h7.trans (by repeat (first | exact Ext.refl _ | assumption | refine Ext.alloc ?_ _ | refine Ext.drew ?_ | refine Ext.drewN _ ?_ | refine Ext.trans ?_ (by assumption))))) (ints_lit _ [0, 17, 10, 0] _) (by decide)).mono ?_
  rw [g10.out.1, g10.out.2]
  rintro e W8 ⟨rfl, hz⟩
  have hzz : Ext W7 W8 := Ext.trans (by repeat (first | exact Ext.refl _ | assumption | refine Ext.alloc ?_ _ | refine Ext.drew ?_ | refine Ext.drewN _ ?_ | refine Ext.trans ?_ (by assumption))) hz
  have h8 : Ext W1 W8 := h7.trans hzz
  replace hs := hs.ext hzz
  replace hp := hp.ext hzz
  replace ho := ho.ext hzz
  replace hq := hq.ext hzz
  replace d0 := hzz.cell d0
  replace d1 := hzz.cell d1
  clear hz hzz h7
  go_wp2_with fail
  refine (numbers_any _ _ _ [6, 8, 10, 3] _ (hs.ext (by repeat (first | exact Ext.refl _ | assumption | refine Ext.alloc ?_ _ | refine Ext.drew ?_ | refine Ext.drewN _ ?_ | refine Ext.trans ?_ (by assumption)))) (ints_lit _ [6, 8, 10, 3] _) (by decide)).mono ?_
  rw [show numB [⟨6, 1⟩, ⟨8, 1⟩, ⟨10, 1⟩, ⟨3, 1⟩] [6, 8, 10, 3] = true by decide]
  rintro e W9 ⟨rfl, hz⟩
  have hzz : Ext W8 W9 := Ext.trans (by repeat (first | exact Ext.refl _ | assumption | refine Ext.alloc ?_ _ | refine Ext.drew ?_ | refine Ext.drewN _ ?_ | refine Ext.trans ?_ (by assumption))) hz
  have h9 : Ext W1 W9 := h8.trans hzz
  replace hs := hs.ext hzz
  replace hp := hp.ext hzz
  replace ho := ho.ext hzz
  replace hq := hq.ext hzz
  replace d0 := hzz.cell d0
  replace d1 := hzz.cell d1
  clear hz hzz h8
  go_wp2_with fail
  refine (numbers_any _ _ _ [3, 3, 0, 4] _ (hp.ext (by repeat (first | exact Ext.refl _ | assumption | refine Ext.alloc ?_ _ | refine Ext.drew ?_ | refine Ext.drewN _ ?_ | refine Ext.trans ?_ (by assumption)))) (ints_lit _ [3, 3, 0, 4] _) (by decide)).mono ?_
  rw [show numB [⟨3, 1⟩, ⟨3, 1⟩, ⟨0, 1⟩, ⟨4, 1⟩] [3, 3, 0, 4] = true by decide]
  rintro e W10 ⟨rfl, hz⟩
  have hzz : Ext W9 W10 := Ext.trans (by repeat (first | exact Ext.refl _ | assumption | refine Ext.alloc ?_ _ | refine Ext.drew ?_ | refine Ext.drewN _ ?_ | refine Ext.trans ?_ (by assumption))) hz
  have h10 : Ext W1 W10 := h9.trans hzz
  replace hs := hs.ext hzz
  replace hp := hp.ext hzz
  replace ho := ho.ext hzz
  replace hq := hq.ext hzz
  replace d0 := hzz.cell d0
  replace d1 := hzz.cell d1
  clear hz hzz h9
  go_wp2_with fail
  refine (refSame_any _ _ _ [2, 4] _ (ho.ext (by repeat (first | exact Ext.refl _ | assumption | refine Ext.alloc ?_ _ | refine Ext.drew ?_ | refine Ext.drewN _ ?_ | refine Ext.trans ?_ (by assumption)))) (ints_lit _ [2, 4] _) (by decide)).mono ?_
  rw [show decide (([2, 4] : List Int) = [2, 4]) = true by decide]
  rintro e W11 ⟨rfl, hz⟩
  have hzz : Ext W10 W11 := Ext.trans (by repeat (first | exact Ext.refl _ | assumption | refine Ext.alloc ?_ _ | refine Ext.drew ?_ | refine Ext.drewN _ ?_ | refine Ext.trans ?_ (by assumption))) hz
  have h11 : Ext W1 W11 := h10.trans hzz
  replace hs := hs.ext hzz
  replace hp := hp.ext hzz
  replace ho := ho.ext hzz
  replace hq := hq.ext hzz
  replace d0 := hzz.cell d0
  replace d1 := hzz.cell d1
  clear hz hzz h10
  go_wp2_with fail
  refine (Divide_any _ _ _ T [0, 17, 10, 0] _ (hT.ext (h11.trans (by repeat (first | exact Ext.refl _ | assumption | refine Ext.alloc ?_ _ | refine Ext.drew ?_ | refine Ext.drewN _ ?_ | refine Ext.trans ?_ (by assumption))))) (ints_lit _ [0, 17, 10, 0] _) (by decide)).mono ?_
  rw [g11.out.1]
  rintro e W12 ⟨vd, rfl, hd, hz⟩
  have hzz : Ext W11 W12 := Ext.trans (by repeat (first | exact Ext.refl _ | assumption | refine Ext.alloc ?_ _ | refine Ext.drew ?_ | refine Ext.drewN _ ?_ | refine Ext.trans ?_ (by assumption))) hz
  have h12 : Ext W1 W12 := h11.trans hzz
  replace hs := hs.ext hzz
  replace hp := hp.ext hzz
  replace ho := ho.ext hzz
  replace hq := hq.ext hzz
  replace d0 := hzz.cell d0
  replace d1 := hzz.cell d1
  clear hz hzz h11
  go_wp2_with fail
  refine (Brook_any 13 _).mono ?_
  rintro e W13 ⟨a3, b3, rfl, hT3, hz⟩
  have hzz : Ext W12 W13 := Ext.trans (by repeat (first | exact Ext.refl _ | assumption | refine Ext.alloc ?_ _ | refine Ext.drew ?_ | refine Ext.drewN _ ?_ | refine Ext.trans ?_ (by assumption))) hz
  have h13 : Ext W1 W13 := h12.trans hzz
  replace hs := hs.ext hzz
  replace hp := hp.ext hzz
  replace ho := ho.ext hzz
  replace hq := hq.ext hzz
  replace hd := hd.ext hzz
  replace d0 := hzz.cell d0
  replace d1 := hzz.cell d1
  clear hz hzz h12
  go_wp2_with fail
  refine (Pence_any _ _ (brook 13) _ (hT3.ext (by repeat (first | exact Ext.refl _ | assumption | refine Ext.alloc ?_ _ | refine Ext.drew ?_ | refine Ext.drewN _ ?_ | refine Ext.trans ?_ (by assumption))))).mono ?_
  rw [v_pen, v_chk.2]
  rintro e W14 ⟨vx, rfl, hv, hz⟩
  have hzz : Ext W13 W14 := Ext.trans (by repeat (first | exact Ext.refl _ | assumption | refine Ext.alloc ?_ _ | refine Ext.drew ?_ | refine Ext.drewN _ ?_ | refine Ext.trans ?_ (by assumption))) hz
  have h14 : Ext W1 W14 := h13.trans hzz
  replace hs := hs.ext hzz
  replace hp := hp.ext hzz
  replace ho := ho.ext hzz
  replace hq := hq.ext hzz
  replace hd := hd.ext hzz
  replace hT3 := hT3.ext hzz
  replace d0 := hzz.cell d0
  replace d1 := hzz.cell d1
  clear hz hzz h13
  go_wp2_with fail
  refine (Most_any _ _ T 3 _ (hT.ext (h14.trans (by repeat (first | exact Ext.refl _ | assumption | refine Ext.alloc ?_ _ | refine Ext.drew ?_ | refine Ext.drewN _ ?_ | refine Ext.trans ?_ (by assumption))))) (by rw [HL2.out]; decide)).mono ?_
  rw [g7.out, if_pos rfl, g12.out.1]
  rintro e W15 ⟨rfl, hz⟩
  have hzz : Ext W14 W15 := Ext.trans (by repeat (first | exact Ext.refl _ | assumption | refine Ext.alloc ?_ _ | refine Ext.drew ?_ | refine Ext.drewN _ ?_ | refine Ext.trans ?_ (by assumption))) hz
  have h15 : Ext W1 W15 := h14.trans hzz
  replace hs := hs.ext hzz
  replace hp := hp.ext hzz
  replace ho := ho.ext hzz
  replace hq := hq.ext hzz
  replace hd := hd.ext hzz
  replace hT3 := hT3.ext hzz
  replace hv := hv.ext hzz
  replace d0 := hzz.cell d0
  replace d1 := hzz.cell d1
  clear hz hzz h14
  go_wp2_with fail
  refine (Least_any _ _ T 3 _ (hT.ext (h15.trans (by repeat (first | exact Ext.refl _ | assumption | refine Ext.alloc ?_ _ | refine Ext.drew ?_ | refine Ext.drewN _ ?_ | refine Ext.trans ?_ (by assumption))))) (by rw [HL2.out]; decide)).mono ?_
  rw [g7.out, if_pos rfl, g12.out.2]
  rintro e W16 ⟨rfl, hz⟩
  have hzz : Ext W15 W16 := Ext.trans (by repeat (first | exact Ext.refl _ | assumption | refine Ext.alloc ?_ _ | refine Ext.drew ?_ | refine Ext.drewN _ ?_ | refine Ext.trans ?_ (by assumption))) hz
  have h16 : Ext W1 W16 := h15.trans hzz
  replace hs := hs.ext hzz
  replace hp := hp.ext hzz
  replace ho := ho.ext hzz
  replace hq := hq.ext hzz
  replace hd := hd.ext hzz
  replace hT3 := hT3.ext hzz
  replace hv := hv.ext hzz
  replace d0 := hzz.cell d0
  replace d1 := hzz.cell d1
  clear hz hzz h15
  go_wp2_with fail
  refine (Changed_any _ _ T 1 8 _ (hT.ext (h16.trans (by repeat (first | exact Ext.refl _ | assumption | refine Ext.alloc ?_ _ | refine Ext.drew ?_ | refine Ext.drewN _ ?_ | refine Ext.trans ?_ (by assumption))))) (by rw [HL1.out]; decide) (by decide)).mono ?_
  rw [g13.out.1, g13.out.2]
  rintro e W17 ⟨vc, rfl, hc, hz⟩
  have hzz : Ext W16 W17 := Ext.trans (by repeat (first | exact Ext.refl _ | assumption | refine Ext.alloc ?_ _ | refine Ext.drew ?_ | refine Ext.drewN _ ?_ | refine Ext.trans ?_ (by assumption))) hz
  have h17 : Ext W1 W17 := h16.trans hzz
  replace hs := hs.ext hzz
  replace hp := hp.ext hzz
  replace ho := ho.ext hzz
  replace hq := hq.ext hzz
  replace hd := hd.ext hzz
  replace hT3 := hT3.ext hzz
  replace hv := hv.ext hzz
  replace d0 := hzz.cell d0
  replace d1 := hzz.cell d1
  clear hz hzz h16
  go_wp2_with fail
  refine (refCheckDivide_any _ _ _ _ T [0, 17, 10, 0] _ _ (hT.ext (h17.trans (by repeat (first | exact Ext.refl _ | assumption | refine Ext.alloc ?_ _ | refine Ext.drew ?_ | refine Ext.drewN _ ?_ | refine Ext.trans ?_ (by assumption))))) (ints_lit _ [0, 17, 10, 0] _) (hd.ext (by repeat (first | exact Ext.refl _ | assumption | refine Ext.alloc ?_ _ | refine Ext.drew ?_ | refine Ext.drewN _ ?_ | refine Ext.trans ?_ (by assumption)))) (by decide) (by rw [g11.out.2.2]; decide)).mono ?_
  rw [g11.out.2.1]
  rintro e W18 ⟨rfl, hz⟩
  have hzz : Ext W17 W18 := Ext.trans (by repeat (first | exact Ext.refl _ | assumption | refine Ext.alloc ?_ _ | refine Ext.drew ?_ | refine Ext.drewN _ ?_ | refine Ext.trans ?_ (by assumption))) hz
  have h18 : Ext W1 W18 := h17.trans hzz
  replace hs := hs.ext hzz
  replace hp := hp.ext hzz
  replace ho := ho.ext hzz
  replace hq := hq.ext hzz
  replace hd := hd.ext hzz
  replace hT3 := hT3.ext hzz
  replace hv := hv.ext hzz
  replace hc := hc.ext hzz
  replace d0 := hzz.cell d0
  replace d1 := hzz.cell d1
  clear hz hzz h17
  go_wp2_with fail
  refine (refSame_any _ _ _ [7, 8, 10, 3] _ (hv.ext (by repeat (first | exact Ext.refl _ | assumption | refine Ext.alloc ?_ _ | refine Ext.drew ?_ | refine Ext.drewN _ ?_ | refine Ext.trans ?_ (by assumption)))) (ints_lit _ [7, 8, 10, 3] _) (by decide)).mono ?_
  rw [show decide (([7, 8, 10, 3] : List Int) = [7, 8, 10, 3]) = true by decide]
  rintro e W19 ⟨rfl, hz⟩
  have hzz : Ext W18 W19 := Ext.trans (by repeat (first | exact Ext.refl _ | assumption | refine Ext.alloc ?_ _ | refine Ext.drew ?_ | refine Ext.drewN _ ?_ | refine Ext.trans ?_ (by assumption))) hz
  have h19 : Ext W1 W19 := h18.trans hzz
  replace hs := hs.ext hzz
  replace hp := hp.ext hzz
  replace ho := ho.ext hzz
  replace hq := hq.ext hzz
  replace hd := hd.ext hzz
  replace hT3 := hT3.ext hzz
  replace hv := hv.ext hzz
  replace hc := hc.ext hzz
  replace d0 := hzz.cell d0
  replace d1 := hzz.cell d1
  clear hz hzz h18
  go_wp2_with fail
  refine (numbers_any _ _ _ [1, 0, 1, 0] _ (hc.ext (by repeat (first | exact Ext.refl _ | assumption | refine Ext.alloc ?_ _ | refine Ext.drew ?_ | refine Ext.drewN _ ?_ | refine Ext.trans ?_ (by assumption)))) (ints_lit _ [1, 0, 1, 0] _) (by decide)).mono ?_
  rw [show numB [⟨1, 1⟩, ⟨0, 1⟩, ⟨1, 1⟩, ⟨0, 1⟩] [1, 0, 1, 0] = true by decide]
  rintro e W20 ⟨rfl, hz⟩
  have hzz : Ext W19 W20 := Ext.trans (by repeat (first | exact Ext.refl _ | assumption | refine Ext.alloc ?_ _ | refine Ext.drew ?_ | refine Ext.drewN _ ?_ | refine Ext.trans ?_ (by assumption))) hz
  have h20 : Ext W1 W20 := h19.trans hzz
  replace hs := hs.ext hzz
  replace hp := hp.ext hzz
  replace ho := ho.ext hzz
  replace hq := hq.ext hzz
  replace hd := hd.ext hzz
  replace hT3 := hT3.ext hzz
  replace hv := hv.ext hzz
  replace hc := hc.ext hzz
  replace d0 := hzz.cell d0
  replace d1 := hzz.cell d1
  clear hz hzz h19
  go_wp2_with fail
  go_ret
  exact ⟨rfl, hx.trans h20⟩
end Go.Proofs.Ythopgonbndoidaa
