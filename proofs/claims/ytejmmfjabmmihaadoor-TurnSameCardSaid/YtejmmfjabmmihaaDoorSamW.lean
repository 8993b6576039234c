/- Same of the program and of the specification. -/
import Derived.Test.YtejmmfjabmmihaaDoorRestP
import Derived.Test.YtejmmfjabmmihaaDoorHas
import Derived.Test.YtejmmfjabmmihaaDoorApt
namespace Go.Proofs.YtejmmfjabmmihaaDoor
open Go.RowKit Go.Shelf

set_option maxRecDepth 100000 in
set_option maxHeartbeats 4000000 in
theorem Same_any (a b c d : Value) (A B : Mn) (w : World) (hA : MinsAt w a b A) (hB : MinsAt w c d B) :
    Calls Tryd.prog 33 #[.agg #[a, b], .agg #[c, d]] w fun e w' => e = .returned (.tuple #[.int .i64 (samX A B), .bool (samB A B), .int .i64 (samE A B)]) ∧ Ext w w' := by
  obtain ⟨E, hE⟩ : ∃ E, or2 (chkE A) (chkE B) = E := ⟨_, rfl⟩
  have HE := Lib.hid hE
  go_enter Tryd.func33, Tryd.ntmps33
  go_wp2_with fail
  obtain ⟨W1, hW1⟩ : ∃ W1, (w.alloc (.cells #[a, b] 34)).alloc (.cells #[c, d] 34) = W1 := ⟨_, rfl⟩
  have hx1 : Ext w W1 := by rw [← hW1]; exact (by repeat (first | exact Ext.refl _ | assumption | refine Ext.alloc ?_ _ | refine Ext.drew ?_ | refine Ext.drewN _ ?_ | refine Ext.trans ?_ (by assumption)))
  have d0 : W1.cell? ⟨w.heap.size, 0, none⟩ = some a := by rw [← hW1]; exact Ext.cell (by repeat (first | exact Ext.refl _ | assumption | refine Ext.alloc ?_ _ | refine Ext.drew ?_ | refine Ext.drewN _ ?_ | refine Ext.trans ?_ (by assumption))) (cell_at_new w _ _ _ _ _ rfl rfl)
  have d1 : W1.cell? ⟨w.heap.size, 1, none⟩ = some b := by rw [← hW1]; exact Ext.cell (by repeat (first | exact Ext.refl _ | assumption | refine Ext.alloc ?_ _ | refine Ext.drew ?_ | refine Ext.drewN _ ?_ | refine Ext.trans ?_ (by assumption))) (cell_at_new w _ _ _ _ _ rfl rfl)
  have d2 : W1.cell? ⟨w.heap.size + 1, 0, none⟩ = some c := by rw [← hW1]; exact cell_at_new _ _ _ _ _ _ (by simp) rfl
  have d3 : W1.cell? ⟨w.heap.size + 1, 1, none⟩ = some d := by rw [← hW1]; exact cell_at_new _ _ _ _ _ _ (by simp) rfl
  have hA1 := hA.ext hx1
  have hB1 := hB.ext hx1
  have CA := fun W (h : Ext W1 W) => Check_any a b A W (hA1.ext h)
  have CB := fun W (h : Ext W1 W) => Check_any c d B W (hB1.ext h)
  rw [hW1]
  clear hW1 hE hA hB
  go_region_held3 (fun W' => W'.cell? ⟨w.heap.size, 0, none⟩ = some a ∧ W'.cell? ⟨w.heap.size, 1, none⟩ = some b ∧ W'.cell? ⟨w.heap.size + 1, 0, none⟩ = some c ∧ W'.cell? ⟨w.heap.size + 1, 1, none⟩ = some d ∧ Ext W1 W')
    ((refine ⟨Ext.cell (w := W1) ?_ d0, Ext.cell (w := W1) ?_ d1, Ext.cell (w := W1) ?_ d2, Ext.cell (w := W1) ?_ d3, ?_⟩; all_goals exact (by repeat (first | exact Ext.refl _ | assumption | refine Ext.alloc ?_ _ | refine Ext.drew ?_ | refine Ext.drewN _ ?_ | refine Ext.trans ?_ (by assumption)))))
    ((first | (go_at_call 54; first | ((with_reducible refine (CA _ ?_).mono ?_); (focus (exact (by repeat (first | exact Ext.refl _ | assumption | refine Ext.alloc ?_ _ | refine Ext.drew ?_ | refine Ext.drewN _ ?_ | refine Ext.trans ?_ (by assumption))))); rintro e w' ⟨rfl, hx⟩) | ((with_reducible refine (CB _ ?_).mono ?_); (focus (exact (by repeat (first | exact Ext.refl _ | assumption | refine Ext.alloc ?_ _ | refine Ext.drew ?_ | refine Ext.drewN _ ?_ | refine Ext.trans ?_ (by assumption))))); rintro e w' ⟨rfl, hx⟩)) | (go_at_call 89; refine (cmpOr2_any _ _ _ _ _ _ (by exact cell_at_new _ _ _ _ _ _ rfl rfl) (by exact cell_at_new _ _ _ _ _ _ rfl rfl)).mono ?_; rintro e w' ⟨rfl, rfl⟩)))
  have hx2 : Ext W1 w' := (by repeat (first | exact Ext.refl _ | assumption | refine Ext.alloc ?_ _ | refine Ext.drew ?_ | refine Ext.drewN _ ?_ | refine Ext.trans ?_ (by assumption)))
  obtain ⟨W2, hW2⟩ : ∃ W2, w' = W2 := ⟨_, rfl⟩
  rw [hW2] at hx2 ⊢
  rw [HE.out]
  replace d0 := hx2.cell d0
  replace d1 := hx2.cell d1
  replace d2 := hx2.cell d2
  replace d3 := hx2.cell d3
  replace hA1 := hA1.ext hx2
  replace hB1 := hB1.ext hx2
  replace hx1 := hx1.trans hx2
  clear hW2 hx2 CA CB
  cases hE0 : (E == 0)
  · have h0 : samE A B ≠ 0 := by
      intro h
      have := HE.out
      unfold samE at h
      rw [h] at this
      rw [← this] at hE0
      cases hE0
    have h1 : samX A B = 0 ∧ samB A B = false ∧ samE A B = E := ⟨by unfold samX; rw [if_neg h0], by unfold samB; rw [if_neg h0], HE.out⟩
    have H1 := Lib.hid h1
    clear h0 h1
    go_wp2_with fail
    go_ret3
    exact ⟨ret3 (vint H1.out.1.symm) (vbool H1.out.2.1.symm) (vint H1.out.2.2.symm), (by repeat (first | exact Ext.refl _ | assumption | refine Ext.alloc ?_ _ | refine Ext.drew ?_ | refine Ext.drewN _ ?_ | refine Ext.trans ?_ (by assumption)))⟩
  · have h0 : E = 0 := by simpa using hE0
    have hs0 : samE A B = 0 := by unfold samE; rw [HE.out]; exact h0
    have hkA : Ok A := Ok.of (sam_ok hs0).1
    have hkB : Ok B := Ok.of (sam_ok hs0).2
    have HS0 := Lib.hid hs0
    obtain rfl := h0
    clear hs0
    go_wp2_with fail
    go_loopw [8, 9, 10] (fun u x y wr => ∃ n : Int, u = .int .i64 n ∧ 0 ≤ n ∧ n ≤ 1048577 ∧ Hid (SamTo A B n) ∧ Ext W2 wr) (fun u _ _ _ => (1048577 - intOf u).toNat)
    case atStart => exact ⟨0, rfl, by omega, by omega, Lib.hid (fun i h1 h2 => by omega), (by repeat (first | exact Ext.refl _ | assumption | refine Ext.alloc ?_ _ | refine Ext.drew ?_ | refine Ext.drewN _ ?_ | refine Ext.trans ?_ (by assumption)))⟩
    case round =>
      obtain ⟨n, rfl, hn0, hn1, HS, hy⟩ := hrel
      have e0 := hy.cell d0
      have e1 := hy.cell d1
      have e2 := hy.cell d2
      have e3 := hy.cell d3
      have hA2 := hA1.ext hy
      have hB2 := hB1.ext hy
      have NA := fun W (h : Ext wr W) => next_any a b A n W (hA2.ext h) hkA (by omega) (by omega)
      have NB := fun W (h : Ext wr W) => next_any c d B n W (hB2.ext h) hkB (by omega) (by omega)
      go_wp2_with fail
      go_region_held3 (fun W' => W'.cell? ⟨w.heap.size, 0, none⟩ = some a ∧ W'.cell? ⟨w.heap.size, 1, none⟩ = some b ∧ W'.cell? ⟨w.heap.size + 1, 0, none⟩ = some c ∧ W'.cell? ⟨w.heap.size + 1, 1, none⟩ = some d ∧ Ext wr W')
        ((refine ⟨Ext.cell (w := wr) ?_ e0, Ext.cell (w := wr) ?_ e1, Ext.cell (w := wr) ?_ e2, Ext.cell (w := wr) ?_ e3, ?_⟩; all_goals exact (by repeat (first | exact Ext.refl _ | assumption | refine Ext.alloc ?_ _ | refine Ext.drew ?_ | refine Ext.drewN _ ?_ | refine Ext.trans ?_ (by assumption)))))
        ((go_at_call 90; first | ((with_reducible refine (NA _ ?_).mono ?_); (focus (exact (by repeat (first | exact Ext.refl _ | assumption | refine Ext.alloc ?_ _ | refine Ext.drew ?_ | refine Ext.drewN _ ?_ | refine Ext.trans ?_ (by assumption))))); rintro e w' ⟨rfl, hx⟩) | ((with_reducible refine (NB _ ?_).mono ?_); (focus (exact (by repeat (first | exact Ext.refl _ | assumption | refine Ext.alloc ?_ _ | refine Ext.drew ?_ | refine Ext.drewN _ ?_ | refine Ext.trans ?_ (by assumption))))); rintro e w' ⟨rfl, hx⟩)))
      have hz : Ext wr w' := (by repeat (first | exact Ext.refl _ | assumption | refine Ext.alloc ?_ _ | refine Ext.drew ?_ | refine Ext.drewN _ ?_ | refine Ext.trans ?_ (by assumption)))
      replace hy := hy.trans hz
      replace e0 := hz.cell e0
      replace e1 := hz.cell e1
      replace e2 := hz.cell e2
      replace e3 := hz.cell e3
      replace hA2 := hA2.ext hz
      replace hB2 := hB2.ext hz
      obtain ⟨W3, hW3⟩ : ∃ W3, w' = W3 := ⟨_, rfl⟩
      rw [hW3] at hy e0 e1 e2 e3 hA2 hB2 ⊢
      clear hW3 hz NA NB
      have hN := @sam_next A B hkA hkB n hn1 hn0 HS.out
      have hR := fun one => @sam_run A B hkA hkB n one hn0 hn1 HS.out
      have hb1 := (nextF_spec hkA n (by omega)).1
      have hb2 := (nextF_spec hkB n (by omega)).1
      generalize hone : nextF A n = one at *
      generalize htwo : nextF B n = two at *
      have hX := @sam_all A B HS0.out
      have hX2 := @sam_part A B (min one two) HS0.out
      by_cases hp : one = two ∧ one ≤ 1048576
      · obtain ⟨rfl, hle⟩ := hp
        have hR2 := hR one rfl rfl hle
        have hX3 := @sam_part A B (min (runEnd A one 1048576) (runEnd B one 1048576) + 1) HS0.out
        obtain ⟨r1, r2, r3, r4, r5, r6, r7⟩ := hR2
        clear hN hX hX2 hR hone htwo
        have EA := fun W (h : Ext W3 W) => end_any a b A one 1048576 W (hA2.ext h) hkA (by omega) (by omega) (by omega)
        have EB := fun W (h : Ext W3 W) => end_any c d B one 1048576 W (hB2.ext h) hkB (by omega) (by omega) (by omega)
        generalize hx : runEnd A one 1048576 = x at *
        generalize hyy : runEnd B one 1048576 = y at *
        have H6 := Lib.hid r6
        have H7 := Lib.hid r7
        have HX3 := Lib.hid hX3
        clear r6 r7 hX3 hx hyy
        go_wp2_with fail
        go_region_held3 (fun W' => W'.cell? ⟨w.heap.size, 0, none⟩ = some a ∧ W'.cell? ⟨w.heap.size, 1, none⟩ = some b ∧ W'.cell? ⟨w.heap.size + 1, 0, none⟩ = some c ∧ W'.cell? ⟨w.heap.size + 1, 1, none⟩ = some d ∧ Ext W3 W')
          ((refine ⟨Ext.cell (w := W3) ?_ e0, Ext.cell (w := W3) ?_ e1, Ext.cell (w := W3) ?_ e2, Ext.cell (w := W3) ?_ e3, ?_⟩; all_goals exact (by repeat (first | exact Ext.refl _ | assumption | refine Ext.alloc ?_ _ | refine Ext.drew ?_ | refine Ext.drewN _ ?_ | refine Ext.trans ?_ (by assumption)))))
          ((go_at_call 91; first | ((with_reducible refine (EA _ ?_).mono ?_); (focus (exact (by repeat (first | exact Ext.refl _ | assumption | refine Ext.alloc ?_ _ | refine Ext.drew ?_ | refine Ext.drewN _ ?_ | refine Ext.trans ?_ (by assumption))))); rintro e w' ⟨rfl, hx⟩) | ((with_reducible refine (EB _ ?_).mono ?_); (focus (exact (by repeat (first | exact Ext.refl _ | assumption | refine Ext.alloc ?_ _ | refine Ext.drew ?_ | refine Ext.drewN _ ?_ | refine Ext.trans ?_ (by assumption))))); rintro e w' ⟨rfl, hx⟩)))
        have hz : Ext W3 w' := (by repeat (first | exact Ext.refl _ | assumption | refine Ext.alloc ?_ _ | refine Ext.drew ?_ | refine Ext.drewN _ ?_ | refine Ext.trans ?_ (by assumption)))
        clear EA EB
        by_cases hq : x = y
        · have hS2 := H6.out hq
          have HS2 := Lib.hid hS2
          obtain rfl := hq
          clear hS2
          go_wp2_with fail
          go_roundw
          case rel => exact ⟨x + 1, rfl, by omega, by omega, HS2, hy.trans hz⟩
          case measure => simp [intOf]; omega
        · have hq1 : (x != y) = true := by simp [hq]
          have h7 := HX3.out (H7.out hq) (by omega)
          have H8 := Lib.hid h7
          clear h7
          go_wp2_with fail
          all_goals
            go_ret3
            exact ⟨ret3 (vint (by rw [H8.out.1]; omega)) (vbool H8.out.2.symm) (vint HS0.out.symm), (hx1.trans hy).trans hz⟩
      · have hN2 := hN (by omega)
        have HN := Lib.hid hN2
        have HX := Lib.hid hX
        have HX2 := Lib.hid hX2
        clear hN hN2 hX hX2 hR hone htwo
        by_cases hm : min one two ≤ 1048576
        · have h7 := HX2.out (HN.out.1 hm).1 (HN.out.1 hm).2
          have H8 := Lib.hid h7
          clear h7
          have hq1 : (one != two) = true := by
            have : one ≠ two := by omega
            simp [this]
          go_wp2_with fail
          all_goals
            go_ret3
            exact ⟨ret3 (vint (by rw [H8.out.1]; omega)) (vbool H8.out.2.symm) (vint HS0.out.symm), hx1.trans hy⟩
        · have h7 := HX.out (HN.out.2 (by omega))
          have H8 := Lib.hid h7
          clear h7
          have hbig : 1048576 < one := by omega
          have hbig2 : 1048576 < two := by omega
          by_cases hq : one = two
          · obtain rfl := hq
            go_wp2_with fail
            all_goals
              go_ret3
              exact ⟨ret3 (vint H8.out.1.symm) (vbool H8.out.2.symm) (vint HS0.out.symm), hx1.trans hy⟩
          · have hq1 : (one != two) = true := by simp [hq]
            go_wp2_with fail
            all_goals
              go_ret3
              exact ⟨ret3 (vint H8.out.1.symm) (vbool H8.out.2.symm) (vint HS0.out.symm), hx1.trans hy⟩

set_option maxRecDepth 100000 in
set_option maxHeartbeats 4000000 in
theorem RefSame_any (a b c d : Value) (A B : Mn) (w : World) (hA : MinsAt w a b A) (hB : MinsAt w c d B) :
    Calls Tryd.prog 34 #[.agg #[a, b], .agg #[c, d]] w fun e w' => e = .returned (.tuple #[.int .i64 (samX A B), .bool (samB A B), .int .i64 (samE A B)]) ∧ Ext w w' := by
  cases hE : (chkE A != 0)
  · cases hE2 : (chkE B != 0)
    · have h1 : chkE A = 0 := by simpa using hE
      have h2 : chkE B = 0 := by simpa using hE2
      have hs0 : samE A B = 0 := by simp [samE, or2, h1, h2]
      have hkA : Ok A := Ok.of h1
      have hkB : Ok B := Ok.of h2
      have H1 := Lib.hid h1
      have H2 := Lib.hid h2
      have HS0 := Lib.hid hs0
      clear h1 h2 hs0 hE hE2
      go_enter Tryd.func34, Tryd.ntmps34
      go_wp2_with fail
      refine (RefCheck_any a b A _ (hA.ext (by repeat (first | exact Ext.refl _ | assumption | refine Ext.alloc ?_ _ | refine Ext.drew ?_ | refine Ext.drewN _ ?_ | refine Ext.trans ?_ (by assumption))))).mono ?_
      rw [H1.out]
      rintro e w1 ⟨rfl, hx1⟩
      obtain ⟨q0, q1, hx, hzz⟩ := alloc2 hx1
      clear hx1
      have d0 : w1.cell? ⟨w.heap.size, 0, none⟩ = some a := q0.cell 0
      have d1 : w1.cell? ⟨w.heap.size, 1, none⟩ = some b := q0.cell 1
      have d2 : w1.cell? ⟨w.heap.size + 1, 0, none⟩ = some c := q1.cell 0
      have d3 : w1.cell? ⟨w.heap.size + 1, 1, none⟩ = some d := q1.cell 1
      clear q0 q1
      go_wp2_with fail
      refine (RefCheck_any c d B _ (hB.ext hx)).mono ?_
      rw [H2.out]
      rintro e w2 ⟨rfl, hx2⟩
      replace d0 := hx2.cell d0
      replace d1 := hx2.cell d1
      replace d2 := hx2.cell d2
      replace d3 := hx2.cell d3
      replace hx := hx.trans hx2
      have hA2 := hA.ext hx
      have hB2 := hB.ext hx
      clear hx2 hA hB
      go_wp2_with fail
      go_loopw [8] (fun u wr => ∃ n : Int, u = .int .i64 n ∧ 0 ≤ n ∧ n ≤ 1048577 ∧ Hid (SamTo A B n) ∧ Ext w2 wr) (fun u _ => (1048577 - intOf u).toNat)
      case atStart => exact ⟨0, rfl, by omega, by omega, Lib.hid (fun i h1 h2 => by omega), (by repeat (first | exact Ext.refl _ | assumption | refine Ext.alloc ?_ _ | refine Ext.drew ?_ | refine Ext.drewN _ ?_ | refine Ext.trans ?_ (by assumption)))⟩
      case round =>
        obtain ⟨n, rfl, hn0, hn1, HS, hy⟩ := hrel
        by_cases hlt : n ≤ 1048576
        · obtain ⟨x, hmx⟩ : ∃ x, mem A n = x := ⟨_, rfl⟩
          obtain ⟨y, hmy⟩ : ∃ y, mem B n = y := ⟨_, rfl⟩
          have hS2 : x = y → SamTo A B (n + 1) := fun e => HS.out.to (fun i h1 h2 => by rw [show i = n by omega, hmx, hmy, e])
          have hN : x ≠ y → samX A B = n ∧ samB A B = false := fun e => sam_part HS0.out (samN_hit hn0 hlt (by rw [hmx, hmy]; exact e) HS.out) hn0
          have HMX := Lib.hid hmx
          have HMY := Lib.hid hmy
          have HS2 := Lib.hid hS2
          have HN := Lib.hid hN
          clear hmx hmy hS2 hN
          have e0 := hy.cell d0
          have e1 := hy.cell d1
          have e2 := hy.cell d2
          have e3 := hy.cell d3
          go_wp2_with fail
          refine (RefHas_any a b A n _ (hA2.ext hy) hkA (by omega) (by omega)).mono ?_
          rw [HMX.out]
          rintro e w3 ⟨rfl, hx3⟩
          replace e0 := hx3.cell e0
          replace e1 := hx3.cell e1
          replace e2 := hx3.cell e2
          replace e3 := hx3.cell e3
          replace hy := hy.trans hx3
          clear hx3
          go_wp2_with fail
          refine (RefHas_any c d B n _ (hB2.ext hy) hkB (by omega) (by omega)).mono ?_
          rw [HMY.out]
          rintro e w4 ⟨rfl, hx4⟩
          replace hy := hy.trans hx4
          clear hx4 e0 e1 e2 e3
          cases x
          · cases y
            · go_wp2_with fail
              go_roundw
              case rel => exact ⟨n + 1, rfl, by omega, by omega, Lib.hid (HS2.out (by simp)), hy⟩
              case measure => simp [intOf]; omega
            · go_wp2_with fail
              have H8 := HN.out (by decide)
              go_ret3
              exact ⟨ret3 (vint H8.1.symm) (vbool H8.2.symm) (vint HS0.out.symm), hx.trans hy⟩
          · cases y
            · go_wp2_with fail
              have H8 := HN.out (by decide)
              go_ret3
              exact ⟨ret3 (vint H8.1.symm) (vbool H8.2.symm) (vint HS0.out.symm), hx.trans hy⟩
            · go_wp2_with fail
              go_roundw
              case rel => exact ⟨n + 1, rfl, by omega, by omega, Lib.hid (HS2.out (by simp)), hy⟩
              case measure => simp [intOf]; omega
        · obtain rfl : n = 1048577 := by omega
          have H8 := Lib.hid (sam_all HS0.out (samN_miss HS.out))
          go_wp2_with fail
          go_ret3
          exact ⟨ret3 (vint H8.out.1.symm) (vbool H8.out.2.symm) (vint HS0.out.symm), hx.trans hy⟩
    · have h1 : chkE A = 0 := by simpa using hE
      have h2 : chkE B ≠ 0 := by simpa using hE2
      have hs0 : samE A B = chkE B := by simp [samE, or2, h1]
      have hn : samE A B ≠ 0 := by rw [hs0]; exact h2
      have H8 : Hid (samX A B = 0 ∧ samB A B = false ∧ samE A B = chkE B) := Lib.hid ⟨by unfold samX; rw [if_neg hn], by unfold samB; rw [if_neg hn], hs0⟩
      have H1 := Lib.hid h1
      clear h1 h2 hs0 hn hE
      go_enter Tryd.func34, Tryd.ntmps34
      go_wp2_with fail
      refine (RefCheck_any a b A _ (hA.ext (by repeat (first | exact Ext.refl _ | assumption | refine Ext.alloc ?_ _ | refine Ext.drew ?_ | refine Ext.drewN _ ?_ | refine Ext.trans ?_ (by assumption))))).mono ?_
      rw [H1.out]
      rintro e w1 ⟨rfl, hx1⟩
      obtain ⟨q0, q1, hx, hzz⟩ := alloc2 hx1
      clear hx1
      have d2 : w1.cell? ⟨w.heap.size + 1, 0, none⟩ = some c := q1.cell 0
      have d3 : w1.cell? ⟨w.heap.size + 1, 1, none⟩ = some d := q1.cell 1
      clear q0 q1
      go_wp2_with fail
      refine (RefCheck_any c d B _ (hB.ext hx)).mono ?_
      rintro e w2 ⟨rfl, hx2⟩
      go_wp2_with fail
      go_ret3
      exact ⟨ret3 (vint H8.out.1.symm) (vbool H8.out.2.1.symm) (vint H8.out.2.2.symm), hx.trans hx2⟩
  · have h1 : chkE A ≠ 0 := by simpa using hE
    have hs0 : samE A B = chkE A := by simp [samE, or2, h1]
    have hn : samE A B ≠ 0 := by rw [hs0]; exact h1
    have H8 : Hid (samX A B = 0 ∧ samB A B = false ∧ samE A B = chkE A) := Lib.hid ⟨by unfold samX; rw [if_neg hn], by unfold samB; rw [if_neg hn], hs0⟩
    clear h1 hs0 hn
    go_enter Tryd.func34, Tryd.ntmps34
    go_wp2_with fail
    refine (RefCheck_any a b A _ (hA.ext (by repeat (first | exact Ext.refl _ | assumption | refine Ext.alloc ?_ _ | refine Ext.drew ?_ | refine Ext.drewN _ ?_ | refine Ext.trans ?_ (by assumption))))).mono ?_
    rintro e w1 ⟨rfl, hx1⟩
    obtain ⟨q0, q1, hx, hzz⟩ := alloc2 hx1
    clear hx1 q0 q1
    go_wp2_with fail
    go_ret3
    exact ⟨ret3 (vint H8.out.1.symm) (vbool H8.out.2.1.symm) (vint H8.out.2.2.symm), hx⟩
end Go.Proofs.YtejmmfjabmmihaaDoor
