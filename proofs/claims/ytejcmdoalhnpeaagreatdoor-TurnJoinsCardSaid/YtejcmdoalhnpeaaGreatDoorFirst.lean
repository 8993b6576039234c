/- First of two turns: the program's and the specification's return the least integer that is in both. -/
import Derived.Test.YtejcmdoalhnpeaaGreatDoorFst
import Derived.Test.YtejcmdoalhnpeaaGreatDoorAsk
namespace Go.Proofs.YtejcmdoalhnpeaaGreatDoor
open Go.RowKit Go.Shelf Go.Maps

set_option maxHeartbeats 1000000 in
theorem meet_any (p f l q g k : Int) (w : World) (hv : tnB p f l = true) (hv2 : tnB q g k = true) :
    Calls Tryz.prog 77 #[.agg #[.int .i64 p, .int .i64 f, .int .i64 l], .agg #[.int .i64 q, .int .i64 g, .int .i64 k]] w fun e w' => e = .returned (.bool (firstN p f l q g k).isSome) ∧ Ext w w' := by
  have ha := tnB_t hv
  have hc := tnB_t hv2
  have hg1 := gcdI_pos (q := q) ha.1
  have hg2 := (gcdI_le ha.1 hc.1).1
  have HM := Lib.hid (firstN_meet hv hv2)
  go_enter Tryz.func77, Tryz.ntmps77
  go_wp2
  obtain ⟨W1, hW1⟩ : ∃ W1, (w.alloc (.cells #[.int .i64 p, .int .i64 f, .int .i64 l] 42)).alloc (.cells #[.int .i64 q, .int .i64 g, .int .i64 k] 42) = W1 := ⟨_, rfl⟩
  have hx1 : Ext w W1 := by rw [← hW1]; exact (by repeat (first | exact Ext.refl _ | assumption | refine Ext.alloc ?_ _ | refine Ext.drew ?_ | refine Ext.drewN _ ?_ | refine Ext.trans ?_ (by assumption)))
  have d0 : W1.cell? ⟨w.heap.size, 0, none⟩ = some (.int .i64 p) := by rw [← hW1]; exact Ext.cell (by repeat (first | exact Ext.refl _ | assumption | refine Ext.alloc ?_ _ | refine Ext.drew ?_ | refine Ext.drewN _ ?_ | refine Ext.trans ?_ (by assumption))) (cell_at_new w _ _ _ _ _ rfl rfl)
  have d1 : W1.cell? ⟨w.heap.size, 1, none⟩ = some (.int .i64 f) := by rw [← hW1]; exact Ext.cell (by repeat (first | exact Ext.refl _ | assumption | refine Ext.alloc ?_ _ | refine Ext.drew ?_ | refine Ext.drewN _ ?_ | refine Ext.trans ?_ (by assumption))) (cell_at_new w _ _ _ _ _ rfl rfl)
  have d2 : W1.cell? ⟨w.heap.size, 2, none⟩ = some (.int .i64 l) := by rw [← hW1]; exact Ext.cell (by repeat (first | exact Ext.refl _ | assumption | refine Ext.alloc ?_ _ | refine Ext.drew ?_ | refine Ext.drewN _ ?_ | refine Ext.trans ?_ (by assumption))) (cell_at_new w _ _ _ _ _ rfl rfl)
  have d3 : W1.cell? ⟨w.heap.size + 1, 0, none⟩ = some (.int .i64 q) := by rw [← hW1]; exact cell_at_new _ _ _ _ _ _ (by simp) rfl
  have d4 : W1.cell? ⟨w.heap.size + 1, 1, none⟩ = some (.int .i64 g) := by rw [← hW1]; exact cell_at_new _ _ _ _ _ _ (by simp) rfl
  have d5 : W1.cell? ⟨w.heap.size + 1, 2, none⟩ = some (.int .i64 k) := by rw [← hW1]; exact cell_at_new _ _ _ _ _ _ (by simp) rfl
  rw [hW1]
  clear hW1
  go_region_held3 (fun W' => W'.cell? ⟨w.heap.size, 0, none⟩ = some (.int .i64 p) ∧ W'.cell? ⟨w.heap.size, 1, none⟩ = some (.int .i64 f) ∧ W'.cell? ⟨w.heap.size, 2, none⟩ = some (.int .i64 l) ∧ W'.cell? ⟨w.heap.size + 1, 0, none⟩ = some (.int .i64 q) ∧ W'.cell? ⟨w.heap.size + 1, 1, none⟩ = some (.int .i64 g) ∧ W'.cell? ⟨w.heap.size + 1, 2, none⟩ = some (.int .i64 k) ∧ Ext W1 W')
    ((refine ⟨Ext.cell (w := W1) ?_ d0, Ext.cell (w := W1) ?_ d1, Ext.cell (w := W1) ?_ d2, Ext.cell (w := W1) ?_ d3, Ext.cell (w := W1) ?_ d4, Ext.cell (w := W1) ?_ d5, ?_⟩; all_goals exact (by repeat (first | exact Ext.refl _ | assumption | refine Ext.alloc ?_ _ | refine Ext.drew ?_ | refine Ext.drewN _ ?_ | refine Ext.trans ?_ (by assumption)))))
    ((first | (go_at_call 50; refine (divisor_any _ _ _ (by omega) (by omega) (by omega) (by omega)).mono ?_; rintro e w' ⟨rfl, hx⟩) | (go_at_call 51; refine (apart_any _ _ _ _ _ _ _ _ hv hv2 hg1 (by omega)).mono ?_; rintro e w' ⟨rfl, hx⟩)))
  all_goals (go_wp2; go_ret; exact ⟨ret_bool (by rw [HM.out]; cases firstN p f l q g k <;> rfl), (by repeat (first | exact Ext.refl _ | assumption | refine Ext.alloc ?_ _ | refine Ext.drew ?_ | refine Ext.drewN _ ?_ | refine Ext.trans ?_ (by assumption)))⟩)

set_option maxHeartbeats 1000000 in
theorem first_any (p f l q g k : Int) (w : World) (hv : tnB p f l = true) (hv2 : tnB q g k = true) :
    Calls Tryz.prog 49 #[.agg #[.int .i64 p, .int .i64 f, .int .i64 l], .agg #[.int .i64 q, .int .i64 g, .int .i64 k]] w fun e w' => e = .returned (.int .i64 (match firstN p f l q g k with | some n => (n : Int) | none => 1125899906842624)) ∧ Ext w w' := by
  have ha := tnB_t hv
  have hc := tnB_t hv2
  have hL := lcmI_le ha.1 ha.2.1 hc.1 hc.2.1
  cases hF : firstN p f l q g k with
  | none =>
    go_enter Tryz.func49, Tryz.ntmps49
    go_wp2_with fail
    refine (meet_any _ _ _ _ _ _ _ hv hv2).mono ?_
    rw [hF]
    rintro e w1 ⟨rfl, hx1⟩
    go_wp2_with fail
    go_ret
    exact ⟨rfl, (by repeat (first | exact Ext.refl _ | assumption | refine Ext.alloc ?_ _ | refine Ext.drew ?_ | refine Ext.drewN _ ?_ | refine Ext.trans ?_ (by assumption)))⟩
  | some N =>
    have hN := (firstN_some hF).2.1
    have HF := Lib.hid hF
    go_enter Tryz.func49, Tryz.ntmps49
    go_wp2_with fail
    refine (meet_any _ _ _ _ _ _ _ hv hv2).mono ?_
    rw [hF]
    clear hF
    rintro e w1 ⟨rfl, hx1⟩
    have g0 : w1.cell? ⟨w.heap.size, 0, none⟩ = some (.int .i64 p) := hx1.cell (Ext.cell (by repeat (first | exact Ext.refl _ | assumption | refine Ext.alloc ?_ _ | refine Ext.drew ?_ | refine Ext.drewN _ ?_ | refine Ext.trans ?_ (by assumption))) (cell_at_new w _ _ _ _ _ rfl rfl))
    have g1 : w1.cell? ⟨w.heap.size, 1, none⟩ = some (.int .i64 f) := hx1.cell (Ext.cell (by repeat (first | exact Ext.refl _ | assumption | refine Ext.alloc ?_ _ | refine Ext.drew ?_ | refine Ext.drewN _ ?_ | refine Ext.trans ?_ (by assumption))) (cell_at_new w _ _ _ _ _ rfl rfl))
    have g2 : w1.cell? ⟨w.heap.size, 2, none⟩ = some (.int .i64 l) := hx1.cell (Ext.cell (by repeat (first | exact Ext.refl _ | assumption | refine Ext.alloc ?_ _ | refine Ext.drew ?_ | refine Ext.drewN _ ?_ | refine Ext.trans ?_ (by assumption))) (cell_at_new w _ _ _ _ _ rfl rfl))
    have g3 : w1.cell? ⟨w.heap.size + 1, 0, none⟩ = some (.int .i64 q) := hx1.cell (cell_at_new _ _ _ _ _ _ (by simp) rfl)
    have g4 : w1.cell? ⟨w.heap.size + 1, 1, none⟩ = some (.int .i64 g) := hx1.cell (cell_at_new _ _ _ _ _ _ (by simp) rfl)
    have g5 : w1.cell? ⟨w.heap.size + 1, 2, none⟩ = some (.int .i64 k) := hx1.cell (cell_at_new _ _ _ _ _ _ (by simp) rfl)
    have hx2 : Ext w w1 := Ext.trans (by repeat (first | exact Ext.refl _ | assumption | refine Ext.alloc ?_ _ | refine Ext.drew ?_ | refine Ext.drewN _ ?_ | refine Ext.trans ?_ (by assumption))) hx1
    clear hx1
    go_wp2_with fail
    go_loopw [5] (fun i wr => ∃ n : Int, 0 ≤ n ∧ n ≤ N ∧ i = .int .i64 n ∧ Ext w1 wr) (fun i _ => (N - intOf i).toNat)
    case atStart => exact ⟨0, by omega, by omega, rfl, Ext.refl _⟩
    case round =>
      obtain ⟨n, h0, h1, rfl, hx⟩ := hrel
      have d0 := hx.cell g0
      have d1 := hx.cell g1
      have d2 := hx.cell g2
      have d3 := hx.cell g3
      have d4 := hx.cell g4
      have d5 := hx.cell g5
      obtain ⟨r1, r2, r3, r4, r5, r6⟩ := first_round hv hv2 HF.out h0 h1
      have R5 := Lib.hid r5
      have R6 := Lib.hid r6
      clear r5 r6
      obtain ⟨n1, hn1⟩ : ∃ n1, tnNext p f l n = n1 := ⟨_, rfl⟩
      have HN1 := Lib.hid hn1
      rw [hn1] at r1 r2 r3 r4 R5 R6
      clear hn1
      go_wp2_with fail
      refine (againNext_any _ _ _ _ _ hv (by omega) (by omega)).mono ?_
      rw [HN1.out]
      rintro e w3 ⟨rfl, hx3⟩
      replace d0 := hx3.cell d0
      replace d1 := hx3.cell d1
      replace d2 := hx3.cell d2
      replace d3 := hx3.cell d3
      replace d4 := hx3.cell d4
      replace d5 := hx3.cell d5
      go_wp2_with fail
      refine (againEnd_any _ _ _ _ _ hv (by omega) (by omega)).mono ?_
      rintro e w4 ⟨rfl, hx4⟩
      replace d0 := hx4.cell d0
      replace d1 := hx4.cell d1
      replace d2 := hx4.cell d2
      replace d3 := hx4.cell d3
      replace d4 := hx4.cell d4
      replace d5 := hx4.cell d5
      go_wp2_with fail
      refine (againNext_any _ _ _ _ _ hv2 (by omega) (by omega)).mono ?_
      rintro e w5 ⟨rfl, hx5⟩
      have hx6 : Ext w1 w5 := ((hx.trans hx3).trans hx4).trans hx5
      go_wp2_with fail
      · go_ret
        exact ⟨ret_int (R5.out (by assumption)), hx2.trans hx6⟩
      · have hlt := R6.out (by omega)
        go_wp2_with fail
        go_roundw
        case rel => exact ⟨tnEnd p f l n1 + 1, by omega, by omega, by go_num, hx6⟩
        case measure => simp [intOf]; omega

set_option maxHeartbeats 1000000 in
theorem First_any (p f l q g k : Int) (w : World) :
    Calls Tryz.prog 16 #[.agg #[.int .i64 p, .int .i64 f, .int .i64 l], .agg #[.int .i64 q, .int .i64 g, .int .i64 k]] w fun e w' => e = .returned (.tuple #[.int .i64 (firstX p f l q g k), .int .i64 (firstE p f l q g k)]) ∧ Ext w w' := by
  cases hE : (pairE p f l q g k != 0)
  · have h0 : pairE p f l q g k = 0 := by simpa using hE
    obtain ⟨hv, hv2⟩ := pair_ok h0
    have ha := tnB_t hv
    have hc := tnB_t hv2
    have hL := lcmI_le ha.1 ha.2.1 hc.1 hc.2.1
    have H0 := Lib.hid h0
    clear h0
    go_enter Tryz.func16, Tryz.ntmps16
    go_wp2_with fail
    refine (both_any _ _ _ _ _ _ _).mono ?_
    rintro e w1 ⟨rfl, hx1⟩
    have g0 : w1.cell? ⟨w.heap.size, 0, none⟩ = some (.int .i64 p) := hx1.cell (Ext.cell (by repeat (first | exact Ext.refl _ | assumption | refine Ext.alloc ?_ _ | refine Ext.drew ?_ | refine Ext.drewN _ ?_ | refine Ext.trans ?_ (by assumption))) (cell_at_new w _ _ _ _ _ rfl rfl))
    have g1 : w1.cell? ⟨w.heap.size, 1, none⟩ = some (.int .i64 f) := hx1.cell (Ext.cell (by repeat (first | exact Ext.refl _ | assumption | refine Ext.alloc ?_ _ | refine Ext.drew ?_ | refine Ext.drewN _ ?_ | refine Ext.trans ?_ (by assumption))) (cell_at_new w _ _ _ _ _ rfl rfl))
    have g2 : w1.cell? ⟨w.heap.size, 2, none⟩ = some (.int .i64 l) := hx1.cell (Ext.cell (by repeat (first | exact Ext.refl _ | assumption | refine Ext.alloc ?_ _ | refine Ext.drew ?_ | refine Ext.drewN _ ?_ | refine Ext.trans ?_ (by assumption))) (cell_at_new w _ _ _ _ _ rfl rfl))
    have g3 : w1.cell? ⟨w.heap.size + 1, 0, none⟩ = some (.int .i64 q) := hx1.cell (cell_at_new _ _ _ _ _ _ (by simp) rfl)
    have g4 : w1.cell? ⟨w.heap.size + 1, 1, none⟩ = some (.int .i64 g) := hx1.cell (cell_at_new _ _ _ _ _ _ (by simp) rfl)
    have g5 : w1.cell? ⟨w.heap.size + 1, 2, none⟩ = some (.int .i64 k) := hx1.cell (cell_at_new _ _ _ _ _ _ (by simp) rfl)
    cases hF : firstN p f l q g k with
    | none =>
      have HF := Lib.hid hF
      go_wp2_with fail
      refine (first_any _ _ _ _ _ _ _ hv hv2).mono ?_
      rw [hF]
      clear hF
      rintro e w2 ⟨rfl, hx2⟩
      go_wp2_with fail
      go_ret2
      exact ⟨ret2 (vint (by rw [firstX, if_pos H0.out, HF.out])) (vint (by rw [firstE, if_pos H0.out, HF.out]; rfl)), (by repeat (first | exact Ext.refl _ | assumption | refine Ext.alloc ?_ _ | refine Ext.drew ?_ | refine Ext.drewN _ ?_ | refine Ext.trans ?_ (by assumption)))⟩
    | some n =>
      have hN := (firstN_some hF).2.1
      have HF := Lib.hid hF
      have hne : (((n : Int)) == 1125899906842624) = false := by rw [beq_eq_false_iff_ne]; omega
      go_wp2_with fail
      refine (first_any _ _ _ _ _ _ _ hv hv2).mono ?_
      rw [hF]
      clear hF
      rintro e w2 ⟨rfl, hx2⟩
      go_wp2_with fail
      go_ret2
      exact ⟨ret2 (vint (by rw [firstX, if_pos H0.out, HF.out])) (vint (by rw [firstE, if_pos H0.out, HF.out]; rfl)), (by repeat (first | exact Ext.refl _ | assumption | refine Ext.alloc ?_ _ | refine Ext.drew ?_ | refine Ext.drewN _ ?_ | refine Ext.trans ?_ (by assumption)))⟩
  · have h0 : pairE p f l q g k ≠ 0 := by simpa using hE
    go_enter Tryz.func16, Tryz.ntmps16
    go_wp2_with fail
    refine (both_any _ _ _ _ _ _ _).mono ?_
    rintro e w1 ⟨rfl, hx1⟩
    go_wp2_with fail
    go_ret2
    exact ⟨ret2 (vint (by rw [firstX, if_neg h0])) (vint (by rw [firstE, if_neg h0])), (by repeat (first | exact Ext.refl _ | assumption | refine Ext.alloc ?_ _ | refine Ext.drew ?_ | refine Ext.drewN _ ?_ | refine Ext.trans ?_ (by assumption)))⟩




end Go.Proofs.YtejcmdoalhnpeaaGreatDoor
