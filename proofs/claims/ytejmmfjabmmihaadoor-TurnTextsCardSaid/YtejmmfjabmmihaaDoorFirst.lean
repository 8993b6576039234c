/- First of two turns: the program's and the specification's return the least integer that is in both. -/
import Derived.Test.YtejmmfjabmmihaaDoorFst
import Derived.Test.YtejmmfjabmmihaaDoorAsk
namespace Go.Proofs.YtejmmfjabmmihaaDoor
open Go.RowKit Go.Shelf Go.Maps

set_option maxHeartbeats 1000000 in
theorem meet_any (p f l q g k : Int) (w : World) (hv : tnB p f l = true) (hv2 : tnB q g k = true) :
    Calls Tryd.prog 117 #[.agg #[.int .i64 p, .int .i64 f, .int .i64 l], .agg #[.int .i64 q, .int .i64 g, .int .i64 k]] w fun e w' => e = .returned (.bool (firstN p f l q g k).isSome) ∧ Ext w w' := by
  have ha := tnB_t hv
  have hc := tnB_t hv2
  have hg1 := gcdI_pos (q := q) ha.1
  have hg2 := (gcdI_le ha.1 hc.1).1
  have HM := Lib.hid (firstN_meet hv hv2)
  go_enter Tryd.func117, Tryd.ntmps117
  go_wp2
  obtain ⟨W1, hW1⟩ : ∃ W1, (w.alloc (.cells #[.int .i64 p, .int .i64 f, .int .i64 l] 23)).alloc (.cells #[.int .i64 q, .int .i64 g, .int .i64 k] 23) = W1 := ⟨_, rfl⟩
  have hx1 : Ext w W1 := by rw [← hW1]; exact (by repeat (first | exact Ext.refl _ | assumption | refine Ext.alloc ?_ _ | refine Ext.drew ?_ | refine Ext.drewN _ ?_ | refine Ext.trans ?_ (by assumption)))
  have d0 : W1.cell? ⟨w.heap.size, 0, none⟩ = some (.int .i64 p) := by rw [← hW1]; exact Ext.cell (by repeat (first | exact Ext.refl _ | assumption | refine Ext.alloc ?_ _ | refine Ext.drew ?_ | refine Ext.drewN _ ?_ | refine Ext.trans ?_ (by assumption))) (cell_at_new w _ _ _ _ _ rfl rfl)
  have d1 : W1.cell? ⟨w.heap.size, 1, none⟩ = some (.int .i64 f) := by rw [← hW1]; exact Ext.cell (by repeat (first | exact Ext.refl _ | assumption | refine Ext.alloc ?_ _ | refine Ext.drew ?_ | refine Ext.drewN _ ?_ | refine Ext.trans ?_ (by assumption))) (cell_at_new w _ _ _ _ _ rfl rfl)
  have d2 : W1.cell? ⟨w.heap.size, 2, none⟩ = some (.int .i64 l) := by rw [← hW1]; exact Ext.cell (by repeat (first | exact Ext.refl _ | assumption | refine Ext.alloc ?_ _ | refine Ext.drew ?_ | refine Ext.drewN _ ?_ | refine Ext.trans ?_ (by assumption))) (cell_at_new w _ _ _ _ _ rfl rfl)
  have d3 : W1.cell? ⟨w.heap.size + 1, 0, none⟩ = some (.int .i64 q) := by rw [← hW1]; exact cell_at_new _ _ _ _ _ _ (by simp) rfl
  have d4 : W1.cell? ⟨w.heap.size + 1, 1, none⟩ = some (.int .i64 g) := by rw [← hW1]; exact cell_at_new _ _ _ _ _ _ (by simp) rfl
  have d5 : W1.cell? ⟨w.heap.size + 1, 2, none⟩ = some (.int .i64 k) := by rw [← hW1]; exact cell_at_new _ _ _ _ _ _ (by simp) rfl
  rw [hW1]
  clear hW1
  go_region_held3 (fun W' => W'.cell? ⟨w.heap.size, 0, none⟩ = some (.int .i64 p) ∧ W'.cell? ⟨w.heap.size, 1, none⟩ = some (.int .i64 f) ∧ W'.cell? ⟨w.heap.size, 2, none⟩ = some (.int .i64 l) ∧ W'.cell? ⟨w.heap.size + 1, 0, none⟩ = some (.int .i64 q) ∧ W'.cell? ⟨w.heap.size + 1, 1, none⟩ = some (.int .i64 g) ∧ W'.cell? ⟨w.heap.size + 1, 2, none⟩ = some (.int .i64 k) ∧ Ext W1 W')
    ((refine ⟨Ext.cell (w := W1) ?_ d0, Ext.cell (w := W1) ?_ d1, Ext.cell (w := W1) ?_ d2, Ext.cell (w := W1) ?_ d3, Ext.cell (w := W1) ?_ d4, Ext.cell (w := W1) ?_ d5, ?_⟩; all_goals exact (by repeat (first | exact Ext.refl _ | assumption | refine Ext.alloc ?_ _ | refine Ext.drew ?_ | refine Ext.drewN _ ?_ | refine Ext.trans ?_ (by assumption)))))
    ((first | (go_at_call 70; refine (divisor_any _ _ _ (by omega) (by omega) (by omega) (by omega)).mono ?_; rintro e w' ⟨rfl, hx⟩) | (go_at_call 83; refine (apart_any _ _ _ _ _ _ _ _ hv hv2 hg1 (by omega)).mono ?_; rintro e w' ⟨rfl, hx⟩)))
  all_goals (go_wp2; go_ret; exact ⟨ret_bool (by rw [HM.out]; cases firstN p f l q g k <;> rfl), (by repeat (first | exact Ext.refl _ | assumption | refine Ext.alloc ?_ _ | refine Ext.drew ?_ | refine Ext.drewN _ ?_ | refine Ext.trans ?_ (by assumption)))⟩)

set_option maxHeartbeats 1000000 in
theorem first_any (p f l q g k : Int) (w : World) (hv : tnB p f l = true) (hv2 : tnB q g k = true) :
    Calls Tryd.prog 66 #[.agg #[.int .i64 p, .int .i64 f, .int .i64 l], .agg #[.int .i64 q, .int .i64 g, .int .i64 k]] w fun e w' => e = .returned (.int .i64 (match firstN p f l q g k with | some n => (n : Int) | none => 1125899906842624)) ∧ Ext w w' := by
  have ha := tnB_t hv
  have hc := tnB_t hv2
  have hL := lcmI_le ha.1 ha.2.1 hc.1 hc.2.1
  cases hF : firstN p f l q g k with
  | none =>
    go_enter Tryd.func66, Tryd.ntmps66
    go_wp2_with fail
    refine (meet_any _ _ _ _ _ _ _ hv hv2).mono ?_
    rw [hF]
    rintro e w1 ⟨rfl, hx1⟩
    go_wp2_with fail
    go_ret
    exact ⟨rfl, (by repeat (first | exact Ext.refl _ | assumption | refine Ext.alloc ?_ _ | refine Ext.drew ?_ | refine Ext.drewN _ ?_ | refine Ext.trans ?_ (by assumption)))⟩
  | some N =>
    have hN := (firstN_some hF).2.1
    have HF := Lib.hid hF
    go_enter Tryd.func66, Tryd.ntmps66
    go_wp2_with fail
    refine (meet_any _ _ _ _ _ _ _ hv hv2).mono ?_
    rw [hF]
    clear hF
    rintro e w1 ⟨rfl, hx1⟩
    have g0 : w1.cell? ⟨w.heap.size, 0, none⟩ = some (.int .i64 p) := hx1.cell (Ext.cell (by repeat (first | exact Ext.refl _ | assumption | refine Ext.alloc ?_ _ | refine Ext.drew ?_ | refine Ext.drewN _ ?_ | refine Ext.trans ?_ (by assumption))) (cell_at_new w _ _ _ _ _ rfl rfl))
    have g1 : w1.cell? ⟨w.heap.size, 1, none⟩ = some (.int .i64 f) := hx1.cell (Ext.cell (by repeat (first | exact Ext.refl _ | assumption | refine Ext.alloc ?_ _ | refine Ext.drew ?_ | refine Ext.drewN _ ?_ | refine Ext.trans ?_ (by assumption))) (cell_at_new w _ _ _ _ _ rfl rfl))
    have g2 : w1.cell? ⟨w.heap.size, 2, none⟩ = some (.int .i64 l) := hx1.cell (Ext.cell (by repeat (first | exact Ext.refl _ | assumption | refine Ext.alloc ?_ _ | refine Ext.drew ?_ | refine Ext.drewN _ ?_ | refine Ext.trans ?_ (by assumption))) (cell_at_new w _ _ _ _ _ rfl rfl))
    have g3 : w1.cell? ⟨w.heap.size + 1, 0, none⟩ = some (.int .i64 q) := hx1.cell (cell_at_new _ _ _ _ _ _ (by simp) rfl)
    have g4 : w1.cell? ⟨w.heap.size + 1, 1, none⟩ = some (.int .i64 g) := hx1.cell (cell_at_new _ _ _ _ _ _ (by simp) rfl)
    have g5 : w1.cell? ⟨w.heap.size + 1, 2, none⟩ = some (.int .i64 k) := hx1.cell (cell_at_new _ _ _ _ _ _ (by simp) rfl)
    have hx2 : Ext w w1 := Ext.trans (by repeat (first | exact Ext.refl _ | assumption | refine Ext.alloc ?_ _ | refine Ext.drew ?_ | refine Ext.drewN _ ?_ | refine Ext.trans ?_ (by assumption))) hx1
    clear hx1
    go_wp2_with fail
    go_loopw [5] (fun i wr => ∃ n : Int, 0 ≤ n ∧ n ≤ N ∧ i = .int .i64 n ∧ Ext w1 wr) (fun i _ => (N - intOf i).toNat)
    case atStart => exact ⟨0, by omega, by omega, rfl, Ext.refl _⟩
    case round =>
      obtain ⟨n, h0, h1, rfl, hx⟩ := hrel
      have d0 := hx.cell g0
      have d1 := hx.cell g1
      have d2 := hx.cell g2
      have d3 := hx.cell g3
      have d4 := hx.cell g4
      have d5 := hx.cell g5
      obtain ⟨r1, r2, r3, r4, r5, r6⟩ := first_round hv hv2 HF.out h0 h1
      have R5 := Lib.hid r5
      have R6 := Lib.hid r6
      clear r5 r6
      obtain ⟨n1, hn1⟩ : ∃ n1, tnNext p f l n = n1 := ⟨_, rfl⟩
      have HN1 := Lib.hid hn1
      rw [hn1] at r1 r2 r3 r4 R5 R6
      clear hn1
      go_wp2_with fail
      refine (againNext_any _ _ _ _ _ hv (by omega) (by omega)).mono ?_
      rw [HN1.out]
      rintro e w3 ⟨rfl, hx3⟩
      replace d0 := hx3.cell d0
      replace d1 := hx3.cell d1
      replace d2 := hx3.cell d2
      replace d3 := hx3.cell d3
      replace d4 := hx3.cell d4
      replace d5 := hx3.cell d5
      go_wp2_with fail
      refine (againEnd_any _ _ _ _ _ hv (by omega) (by omega)).mono ?_
      rintro e w4 ⟨rfl, hx4⟩
      replace d0 := hx4.cell d0
      replace d1 := hx4.cell d1
      replace d2 := hx4.cell d2
      replace d3 := hx4.cell d3
      replace d4 := hx4.cell d4
      replace d5 := hx4.cell d5
      go_wp2_with fail
      refine (againNext_any _ _ _ _ _ hv2 (by omega) (by omega)).mono ?_
      rintro e w5 ⟨rfl, hx5⟩
      have hx6 : Ext w1 w5 := ((hx.trans hx3).trans hx4).trans hx5
      go_wp2_with fail
      · go_ret
        exact ⟨ret_int (R5.out (by assumption)), hx2.trans hx6⟩
      · have hlt := R6.out (by omega)
        go_wp2_with fail
        go_roundw
        case rel => exact ⟨tnEnd p f l n1 + 1, by omega, by omega, by go_num, hx6⟩
        case measure => simp [intOf]; omega

set_option maxHeartbeats 1000000 in
theorem First_any (p f l q g k : Int) (w : World) :
    Calls Tryd.prog 15 #[.agg #[.int .i64 p, .int .i64 f, .int .i64 l], .agg #[.int .i64 q, .int .i64 g, .int .i64 k]] w fun e w' => e = .returned (.tuple #[.int .i64 (firstX p f l q g k), .int .i64 (firstE p f l q g k)]) ∧ Ext w w' := by
  cases hE : (pairE p f l q g k != 0)
  · have h0 : pairE p f l q g k = 0 := by simpa using hE
    obtain ⟨hv, hv2⟩ := pair_ok h0
    have ha := tnB_t hv
    have hc := tnB_t hv2
    have hL := lcmI_le ha.1 ha.2.1 hc.1 hc.2.1
    have H0 := Lib.hid h0
    clear h0
    go_enter Tryd.func15, Tryd.ntmps15
    go_wp2_with fail
    refine (both_any _ _ _ _ _ _ _).mono ?_
    rintro e w1 ⟨rfl, hx1⟩
    have g0 : w1.cell? ⟨w.heap.size, 0, none⟩ = some (.int .i64 p) := hx1.cell (Ext.cell (by repeat (first | exact Ext.refl _ | assumption | refine Ext.alloc ?_ _ | refine Ext.drew ?_ | refine Ext.drewN _ ?_ | refine Ext.trans ?_ (by assumption))) (cell_at_new w _ _ _ _ _ rfl rfl))
    have g1 : w1.cell? ⟨w.heap.size, 1, none⟩ = some (.int .i64 f) := hx1.cell (Ext.cell (by repeat (first | exact Ext.refl _ | assumption | refine Ext.alloc ?_ _ | refine Ext.drew ?_ | refine Ext.drewN _ ?_ | refine Ext.trans ?_ (by assumption))) (cell_at_new w _ _ _ _ _ rfl rfl))
    have g2 : w1.cell? ⟨w.heap.size, 2, none⟩ = some (.int .i64 l) := hx1.cell (Ext.cell (by repeat (first | exact Ext.refl _ | assumption | refine Ext.alloc ?_ _ | refine Ext.drew ?_ | refine Ext.drewN _ ?_ | refine Ext.trans ?_ (by assumption))) (cell_at_new w _ _ _ _ _ rfl rfl))
    have g3 : w1.cell? ⟨w.heap.size + 1, 0, none⟩ = some (.int .i64 q) := hx1.cell (cell_at_new _ _ _ _ _ _ (by simp) rfl)
    have g4 : w1.cell? ⟨w.heap.size + 1, 1, none⟩ = some (.int .i64 g) := hx1.cell (cell_at_new _ _ _ _ _ _ (by simp) rfl)
    have g5 : w1.cell? ⟨w.heap.size + 1, 2, none⟩ = some (.int .i64 k) := hx1.cell (cell_at_new _ _ _ _ _ _ (by simp) rfl)
    cases hF : firstN p f l q g k with
    | none =>
      have HF := Lib.hid hF
      go_wp2_with fail
      refine (first_any _ _ _ _ _ _ _ hv hv2).mono ?_
      rw [hF]
      clear hF
      rintro e w2 ⟨rfl, hx2⟩
      go_wp2_with fail
      go_ret2
      exact ⟨ret2 (vint (by rw [firstX, if_pos H0.out, HF.out])) (vint (by rw [firstE, if_pos H0.out, HF.out]; rfl)), (by repeat (first | exact Ext.refl _ | assumption | refine Ext.alloc ?_ _ | refine Ext.drew ?_ | refine Ext.drewN _ ?_ | refine Ext.trans ?_ (by assumption)))⟩
    | some n =>
      have hN := (firstN_some hF).2.1
      have HF := Lib.hid hF
      have hne : (((n : Int)) == 1125899906842624) = false := by rw [beq_eq_false_iff_ne]; omega
      go_wp2_with fail
      refine (first_any _ _ _ _ _ _ _ hv hv2).mono ?_
      rw [hF]
      clear hF
      rintro e w2 ⟨rfl, hx2⟩
      go_wp2_with fail
      go_ret2
      exact ⟨ret2 (vint (by rw [firstX, if_pos H0.out, HF.out])) (vint (by rw [firstE, if_pos H0.out, HF.out]; rfl)), (by repeat (first | exact Ext.refl _ | assumption | refine Ext.alloc ?_ _ | refine Ext.drew ?_ | refine Ext.drewN _ ?_ | refine Ext.trans ?_ (by assumption)))⟩
  · have h0 : pairE p f l q g k ≠ 0 := by simpa using hE
    go_enter Tryd.func15, Tryd.ntmps15
    go_wp2_with fail
    refine (both_any _ _ _ _ _ _ _).mono ?_
    rintro e w1 ⟨rfl, hx1⟩
    go_wp2_with fail
    go_ret2
    exact ⟨ret2 (vint (by rw [firstX, if_neg h0])) (vint (by rw [firstE, if_neg h0])), (by repeat (first | exact Ext.refl _ | assumption | refine Ext.alloc ?_ _ | refine Ext.drew ?_ | refine Ext.drewN _ ?_ | refine Ext.trans ?_ (by assumption)))⟩

set_option maxHeartbeats 1000000 in
theorem RefPair_any (p f l q g k : Int) (w : World) :
    Calls Tryd.prog 67 #[.agg #[.int .i64 p, .int .i64 f, .int .i64 l], .agg #[.int .i64 q, .int .i64 g, .int .i64 k]] w fun e w' => e = .returned (.int .i64 (pairE p f l q g k)) ∧ Ext w w' := by
  go_enter Tryd.func67, Tryd.ntmps67
  go_wp2_with fail
  refine (Valid_any _ _ _ _).mono ?_
  rintro e w1 ⟨rfl, hx1⟩
  have g3 : w1.cell? ⟨w.heap.size + 1, 0, none⟩ = some (.int .i64 q) := hx1.cell (cell_at_new _ _ _ _ _ _ (by simp) rfl)
  have g4 : w1.cell? ⟨w.heap.size + 1, 1, none⟩ = some (.int .i64 g) := hx1.cell (cell_at_new _ _ _ _ _ _ (by simp) rfl)
  have g5 : w1.cell? ⟨w.heap.size + 1, 2, none⟩ = some (.int .i64 k) := hx1.cell (cell_at_new _ _ _ _ _ _ (by simp) rfl)
  go_wp2_with fail
  refine (Valid_any _ _ _ _).mono ?_
  rintro e w2 ⟨rfl, hx2⟩
  cases h1 : tnB p f l <;> cases h2 : tnB q g k
  all_goals
    go_wp2_with fail
    go_ret
    exact ⟨ret_int (by simp [pairE, h1, h2]), (by repeat (first | exact Ext.refl _ | assumption | refine Ext.alloc ?_ _ | refine Ext.drew ?_ | refine Ext.drewN _ ?_ | refine Ext.trans ?_ (by assumption)))⟩

set_option maxHeartbeats 1000000 in
theorem multiple_any (p q : Int) (w : World) (h1 : 1 ≤ p) (h2 : p ≤ 40320) (h3 : 1 ≤ q) (h4 : q ≤ 40320) :
    Calls Tryd.prog 68 #[.int .i64 p, .int .i64 q] w fun e w' => e = .returned (.int .i64 (lcmI p q)) ∧ Ext w w' := by
  have hg1 := gcdI_pos (q := q) h1
  have hz : (gcdI p q == 0) = false := by rw [beq_eq_false_iff_ne]; omega
  have hL := lcmI_le h1 h2 h3 h4
  have he : (p.tdiv (gcdI p q)) * q = lcmI p q := by rw [Int.tdiv_eq_ediv_of_nonneg (by omega)]; rfl
  have HE := Lib.hid he
  have hd1 : 0 ≤ p.tdiv (gcdI p q) := Int.tdiv_nonneg (by omega) (by omega)
  have hd2 : p.tdiv (gcdI p q) ≤ p := by
    rw [Int.tdiv_eq_ediv_of_nonneg (by omega)]
    exact Int.ediv_le_self _ (by omega)
  clear he
  go_enter Tryd.func68, Tryd.ntmps68
  go_wp2_with fail
  refine (refDivisor_any _ _ _ (by omega) (by omega) (by omega) (by omega)).mono ?_
  rintro e w1 ⟨rfl, hx1⟩
  go_wp2_with fail
  go_ret
  exact ⟨ret_int (by rw [HE.out]; exact IntWalk.wrap64_in _ (by omega)), (by repeat (first | exact Ext.refl _ | assumption | refine Ext.alloc ?_ _ | refine Ext.drew ?_ | refine Ext.drewN _ ?_ | refine Ext.trans ?_ (by assumption)))⟩

set_option maxHeartbeats 2000000 in
theorem RefFirst_any (p f l q g k : Int) (w : World) :
    Calls Tryd.prog 16 #[.agg #[.int .i64 p, .int .i64 f, .int .i64 l], .agg #[.int .i64 q, .int .i64 g, .int .i64 k]] w fun e w' => e = .returned (.tuple #[.int .i64 (firstX p f l q g k), .int .i64 (firstE p f l q g k)]) ∧ Ext w w' := by
  cases hE : (pairE p f l q g k != 0)
  · have h0 : pairE p f l q g k = 0 := by simpa using hE
    obtain ⟨hv, hv2⟩ := pair_ok h0
    have ha := tnB_t hv
    have hc := tnB_t hv2
    have hL := lcmI_le ha.1 ha.2.1 hc.1 hc.2.1
    have H0 := Lib.hid h0
    clear h0
    obtain ⟨M, hM, hM1, hM2⟩ : ∃ M, lcmI p q = p * M ∧ 1 ≤ M ∧ M ≤ 40320 := by
      obtain ⟨c, d, e1, e2, e3, e4, e5, e6⟩ := lcmI_spec ha.1 hc.1
      refine ⟨c, e1, e3, ?_⟩
      have h1 := gcdI_pos (q := q) ha.1
      have := Int.mul_le_mul_of_nonneg_right h1 (show 0 ≤ c by omega)
      omega
    have hpz : (p == 0) = false := by rw [beq_eq_false_iff_ne]; omega
    have hdv : lcmI p q / p = M := by rw [hM, Int.mul_ediv_cancel_left _ (by omega)]
    have hdv2 : (lcmI p q).tdiv p = M := by rw [Int.tdiv_eq_ediv_of_nonneg (by omega)]; exact hdv
    have hp0 : ¬ p = 0 := by omega
    have HMP := Lib.hid hM
    have HDV := Lib.hid hdv
    clear hM
    go_enter Tryd.func16, Tryd.ntmps16
    go_wp2_with fail
    refine (RefPair_any _ _ _ _ _ _ _).mono ?_
    rintro e w1 ⟨rfl, hx1⟩
    have g0 : w1.cell? ⟨w.heap.size, 0, none⟩ = some (.int .i64 p) := hx1.cell (Ext.cell (by repeat (first | exact Ext.refl _ | assumption | refine Ext.alloc ?_ _ | refine Ext.drew ?_ | refine Ext.drewN _ ?_ | refine Ext.trans ?_ (by assumption))) (cell_at_new w _ _ _ _ _ rfl rfl))
    have g1 : w1.cell? ⟨w.heap.size, 1, none⟩ = some (.int .i64 f) := hx1.cell (Ext.cell (by repeat (first | exact Ext.refl _ | assumption | refine Ext.alloc ?_ _ | refine Ext.drew ?_ | refine Ext.drewN _ ?_ | refine Ext.trans ?_ (by assumption))) (cell_at_new w _ _ _ _ _ rfl rfl))
    have g2 : w1.cell? ⟨w.heap.size, 2, none⟩ = some (.int .i64 l) := hx1.cell (Ext.cell (by repeat (first | exact Ext.refl _ | assumption | refine Ext.alloc ?_ _ | refine Ext.drew ?_ | refine Ext.drewN _ ?_ | refine Ext.trans ?_ (by assumption))) (cell_at_new w _ _ _ _ _ rfl rfl))
    have g3 : w1.cell? ⟨w.heap.size + 1, 0, none⟩ = some (.int .i64 q) := hx1.cell (cell_at_new _ _ _ _ _ _ (by simp) rfl)
    have g4 : w1.cell? ⟨w.heap.size + 1, 1, none⟩ = some (.int .i64 g) := hx1.cell (cell_at_new _ _ _ _ _ _ (by simp) rfl)
    have g5 : w1.cell? ⟨w.heap.size + 1, 2, none⟩ = some (.int .i64 k) := hx1.cell (cell_at_new _ _ _ _ _ _ (by simp) rfl)
    have hx2 : Ext w w1 := Ext.trans (by repeat (first | exact Ext.refl _ | assumption | refine Ext.alloc ?_ _ | refine Ext.drew ?_ | refine Ext.drewN _ ?_ | refine Ext.trans ?_ (by assumption))) hx1
    clear hx1
    go_wp2_with fail
    go_region_held3 (fun W' => W'.cell? ⟨w.heap.size, 0, none⟩ = some (.int .i64 p) ∧ W'.cell? ⟨w.heap.size, 1, none⟩ = some (.int .i64 f) ∧ W'.cell? ⟨w.heap.size, 2, none⟩ = some (.int .i64 l) ∧ W'.cell? ⟨w.heap.size + 1, 0, none⟩ = some (.int .i64 q) ∧ W'.cell? ⟨w.heap.size + 1, 1, none⟩ = some (.int .i64 g) ∧ W'.cell? ⟨w.heap.size + 1, 2, none⟩ = some (.int .i64 k) ∧ Ext w1 W')
      ((refine ⟨Ext.cell (w := w1) ?_ g0, Ext.cell (w := w1) ?_ g1, Ext.cell (w := w1) ?_ g2, Ext.cell (w := w1) ?_ g3, Ext.cell (w := w1) ?_ g4, Ext.cell (w := w1) ?_ g5, ?_⟩; all_goals exact (by repeat (first | exact Ext.refl _ | assumption | refine Ext.alloc ?_ _ | refine Ext.drew ?_ | refine Ext.drewN _ ?_ | refine Ext.trans ?_ (by assumption)))))
      ((go_at_call 68; refine (multiple_any _ _ _ (by omega) (by omega) (by omega) (by omega)).mono ?_; rintro e w' ⟨rfl, hx⟩))
    all_goals
      try rw [HDV.out]
      have hx3 : Ext w1 w' := by exact (by repeat (first | exact Ext.refl _ | assumption | refine Ext.alloc ?_ _ | refine Ext.drew ?_ | refine Ext.drewN _ ?_ | refine Ext.trans ?_ (by assumption)))
      have g0' := hx3.cell g0
      have g1' := hx3.cell g1
      have g2' := hx3.cell g2
      have g3' := hx3.cell g3
      have g4' := hx3.cell g4
      have g5' := hx3.cell g5
      have hx4 : Ext w w' := hx2.trans hx3
      obtain ⟨W2, hW2⟩ : ∃ W2 : World, W2 = w' := ⟨_, rfl⟩
      go_wp2_with fail
      go_loopw [8] (fun i wr => ∃ n : Int, -1 ≤ n ∧ n ≤ M + 1 ∧ i = .int .i64 n ∧ Hid (Behind p f l q g k n) ∧ Ext W2 wr) (fun i _ => (M + 1 - intOf i).toNat)
      case atStart => exact ⟨-1, by omega, by omega, rfl, Lib.hid (behind_first hv), by rw [hW2]; exact Ext.refl _⟩
      case round =>
        obtain ⟨n, hn1, hn2, rfl, HB, hx⟩ := hrel
        rw [hW2] at hx
        have d0 := hx.cell g0'
        have d1 := hx.cell g1'
        have d2 := hx.cell g2'
        have d3 := hx.cell g3'
        have d4 := hx.cell g4'
        have d5 := hx.cell g5'
        have hnp : n * p ≤ 40321 * 40320 := Int.le_trans (Int.mul_le_mul_of_nonneg_right (show n ≤ 40321 by omega) (by omega)) (Int.mul_le_mul_of_nonneg_left ha.2.1 (by omega))
        have hnp2 : -p ≤ n * p := by have := Int.mul_le_mul_of_nonneg_right hn1 (show 0 ≤ p by omega); omega
        have hw := IntWalk.wrap64_in (n * p) (by omega)
        by_cases hlt : n ≤ M
        · have hr := ref_round hv hv2 HB.out
          have HR1 := Lib.hid hr.1
          have HR2 := Lib.hid hr.2
          clear hr
          have hs := tnNext_spec (n := max 0 (f + n * p)) hv2
          have hs1 := hs.1
          have hs2 := hs.2.1
          clear hs
          go_wp2_with fail
          · have hm : max 0 (f + n * p) = f + n * p := by omega
            rw [hm] at HR1 HR2 hs1 hs2
            clear hm
            refine (RefAfter_any _ _ _ _ _ hv2 (by omega) (by omega)).mono ?_
            rintro e w3 ⟨rfl, hx5⟩
            replace d0 := hx5.cell d0
            replace d1 := hx5.cell d1
            replace d2 := hx5.cell d2
            go_wp2_with fail
            · have hr := HR1.out (by omega)
              have HR := Lib.hid hr
              clear hr
              go_ret2
              exact ⟨ret2 (vint (by rw [firstX, if_pos H0.out, HR.out.1]; exact (Int.toNat_of_nonneg HR.out.2).symm)) (vint (by rw [firstE, if_pos H0.out, HR.out.1]; rfl)), (by repeat (first | exact Ext.refl _ | assumption | refine Ext.alloc ?_ _ | refine Ext.drew ?_ | refine Ext.drewN _ ?_ | refine Ext.trans ?_ (by assumption)))⟩
            · have hr := HR2.out (by omega)
              go_roundw
              case rel => exact ⟨n + 1, by omega, by omega, by go_num, Lib.hid hr, by rw [hW2]; exact (by repeat (first | exact Ext.refl _ | assumption | refine Ext.alloc ?_ _ | refine Ext.drew ?_ | refine Ext.drewN _ ?_ | refine Ext.trans ?_ (by assumption)))⟩
              case measure => simp [intOf]; omega
          · have hm : max 0 (f + n * p) = 0 := by omega
            rw [hm] at HR1 HR2 hs1 hs2
            clear hm
            refine (RefAfter_any _ _ _ _ _ hv2 (by omega) (by omega)).mono ?_
            rintro e w3 ⟨rfl, hx5⟩
            replace d0 := hx5.cell d0
            replace d1 := hx5.cell d1
            replace d2 := hx5.cell d2
            go_wp2_with fail
            · have hr := HR1.out (by omega)
              have HR := Lib.hid hr
              clear hr
              go_ret2
              exact ⟨ret2 (vint (by rw [firstX, if_pos H0.out, HR.out.1]; exact (Int.toNat_of_nonneg HR.out.2).symm)) (vint (by rw [firstE, if_pos H0.out, HR.out.1]; rfl)), (by repeat (first | exact Ext.refl _ | assumption | refine Ext.alloc ?_ _ | refine Ext.drew ?_ | refine Ext.drewN _ ?_ | refine Ext.trans ?_ (by assumption)))⟩
            · have hr := HR2.out (by omega)
              go_roundw
              case rel => exact ⟨n + 1, by omega, by omega, by go_num, Lib.hid hr, by rw [hW2]; exact (by repeat (first | exact Ext.refl _ | assumption | refine Ext.alloc ?_ _ | refine Ext.drew ?_ | refine Ext.drewN _ ?_ | refine Ext.trans ?_ (by assumption)))⟩
              case measure => simp [intOf]; omega
        · have hnone : firstN p f l q g k = none := ref_none hv HB.out (by rw [HMP.out, show n = M + 1 from by omega, Int.mul_comm, show M + 1 - 1 = M from by omega]; exact Int.le_refl _)
          have HN := Lib.hid hnone
          clear hnone
          go_wp2_with fail
          go_ret2
          exact ⟨ret2 (vint (by rw [firstX, if_pos H0.out, HN.out])) (vint (by rw [firstE, if_pos H0.out, HN.out]; rfl)), (by repeat (first | exact Ext.refl _ | assumption | refine Ext.alloc ?_ _ | refine Ext.drew ?_ | refine Ext.drewN _ ?_ | refine Ext.trans ?_ (by assumption)))⟩
  · have h0 : pairE p f l q g k ≠ 0 := by simpa using hE
    go_enter Tryd.func16, Tryd.ntmps16
    go_wp2_with fail
    refine (RefPair_any _ _ _ _ _ _ _).mono ?_
    rintro e w1 ⟨rfl, hx1⟩
    go_wp2_with fail
    go_ret2
    exact ⟨ret2 (vint (by rw [firstX, if_neg h0])) (vint (by rw [firstE, if_neg h0])), (by repeat (first | exact Ext.refl _ | assumption | refine Ext.alloc ?_ _ | refine Ext.drew ?_ | refine Ext.drewN _ ?_ | refine Ext.trans ?_ (by assumption)))⟩

end Go.Proofs.YtejmmfjabmmihaaDoor
