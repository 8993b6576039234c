/- Apart and CheckApart of the specification: the same as the program's. -/
import Derived.Test.YtejmmfjabmmihaaDoorApt
import Derived.Test.YtejmmfjabmmihaaDoorFirst
namespace Go.Proofs.YtejmmfjabmmihaaDoor
open Go.RowKit Go.Shelf

set_option maxHeartbeats 1000000 in
theorem touches_any (p f l m r : Int) (w : World) (hv : tnB p f l = true) (hm : 1 ≤ m) (hm2 : m ≤ 40320) (hr : 0 ≤ r) (hr2 : r ≤ m) :
    Calls Tryd.prog 127 #[.agg #[.int .i64 p, .int .i64 f, .int .i64 l], .int .i64 m, .int .i64 r] w fun e w' => e = .returned (.bool (touB f l m r)) ∧ Ext w w' := by
  have ha := tnB_t hv
  have hw := IntWalk.wrap64_in (r - f) (by omega)
  have hw2 := IntWalk.i64_in (r - f) (by omega)
  go_enter Tryd.func127, Tryd.ntmps127
  go_wp2_with fail
  go_quiet ((go_at_call 88; exact Calls.quiet_of_same ((refmod_any _ _ _ (by omega) (by omega)).mono fun e w' ⟨h1, h2⟩ => ⟨h1, h2.symm⟩)))
  go_wp2_with fail
  go_ret
  exact ⟨ret_bool (by simp [touB]), (by repeat (first | exact Ext.refl _ | assumption | refine Ext.alloc ?_ _ | refine Ext.drew ?_ | refine Ext.drewN _ ?_ | refine Ext.trans ?_ (by assumption)))⟩

set_option maxHeartbeats 2000000 in
theorem refapart_any (p f l q g k m : Int) (w : World) (hv : tnB p f l = true) (hv2 : tnB q g k = true) (hm : 1 ≤ m) (hm2 : m ≤ 40320) :
    Calls Tryd.prog 85 #[.agg #[.int .i64 p, .int .i64 f, .int .i64 l], .agg #[.int .i64 q, .int .i64 g, .int .i64 k], .int .i64 m] w fun e w' => e = .returned (.bool (apB f l g k m)) ∧ Ext w w' := by
  go_enter Tryd.func85, Tryd.ntmps85
  go_wp2_with fail
  obtain ⟨W0, hW0⟩ : ∃ W0, (w.alloc (.cells #[.int .i64 p, .int .i64 f, .int .i64 l] 23)).alloc (.cells #[.int .i64 q, .int .i64 g, .int .i64 k] 23) = W0 := ⟨_, rfl⟩
  obtain ⟨q0, q1, hx0, hzz⟩ := alloc2 (w1 := W0) (by rw [hW0]; exact Ext.refl _)
  rw [hW0]
  have g0 : W0.cell? ⟨w.heap.size, 0, none⟩ = some (.int .i64 p) := q0.cell 0
  have g1 : W0.cell? ⟨w.heap.size, 1, none⟩ = some (.int .i64 f) := q0.cell 1
  have g2 : W0.cell? ⟨w.heap.size, 2, none⟩ = some (.int .i64 l) := q0.cell 2
  have g3 : W0.cell? ⟨w.heap.size + 1, 0, none⟩ = some (.int .i64 q) := q1.cell 0
  have g4 : W0.cell? ⟨w.heap.size + 1, 1, none⟩ = some (.int .i64 g) := q1.cell 1
  have g5 : W0.cell? ⟨w.heap.size + 1, 2, none⟩ = some (.int .i64 k) := q1.cell 2
  clear hW0 q0 q1
  go_loopw [7] (fun i wr => ∃ r : Int, 0 ≤ r ∧ r ≤ m ∧ i = .int .i64 r ∧ Hid (∀ x, 0 ≤ x → x < r → touB g k m x = true → touB f l m x = false) ∧ Ext W0 wr) (fun i _ => (m - intOf i).toNat)
  case atStart => exact ⟨0, by omega, by omega, rfl, Lib.hid (fun x h1 h2 => by omega), Ext.refl _⟩
  case round =>
    obtain ⟨r, hr0, hr1, rfl, HD, hx⟩ := hrel
    have d0 := hx.cell g0
    have d1 := hx.cell g1
    have d2 := hx.cell g2
    have d3 := hx.cell g3
    have d4 := hx.cell g4
    have d5 := hx.cell g5
    by_cases hlt : r < m
    · go_wp2_with fail
      refine (touches_any _ _ _ _ _ _ hv hm hm2 hr0 hr1).mono ?_
      rintro e w2 ⟨rfl, hx2⟩
      replace d3 := hx2.cell d3
      replace d4 := hx2.cell d4
      replace d5 := hx2.cell d5
      go_wp2_with fail
      refine (touches_any _ _ _ _ _ _ hv2 hm hm2 hr0 hr1).mono ?_
      rintro e w3 ⟨rfl, hx3⟩
      have hx4 := (hx.trans hx2).trans hx3
      cases h1 : touB f l m r <;> cases h2 : touB g k m r
      case true.true =>
        go_wp2_with fail
        go_ret
        exact ⟨ret_bool (apB_f hr0 hlt h1 h2), hx0.trans hx4⟩
      all_goals
        have hD : ∀ x, 0 ≤ x → x < r + 1 → touB g k m x = true → touB f l m x = false := fun x a1 a2 a3 => by
          by_cases e : x < r
          · exact HD.out x a1 e a3
          · have e2 : x = r := by omega
            subst e2
            first | exact h1 | (rw [h2] at a3; cases a3)
        have HD2 := Lib.hid hD
        clear hD
        go_wp2_with fail
        go_roundw
        case rel => exact ⟨r + 1, by omega, by omega, by go_num, HD2, hx4⟩
        case measure => simp [intOf]; omega
    · have hrm : r = m := by omega
      go_wp2_with fail
      go_ret
      exact ⟨ret_bool (apB_t (fun x a1 a2 a3 => HD.out x a1 (by omega) a3)), hx0.trans hx⟩

set_option maxHeartbeats 1000000 in
theorem RefApart_any (p f l q g k : Int) (w : World) :
    Calls Tryd.prog 28 #[.agg #[.int .i64 p, .int .i64 f, .int .i64 l], .agg #[.int .i64 q, .int .i64 g, .int .i64 k]] w fun e w' => e = .returned (.tuple #[.int .i64 (aptX p f l q g k), .bool (aptB p f l q g k), .int .i64 (pairE p f l q g k)]) ∧ Ext w w' := by
  cases hE : (pairE p f l q g k != 0)
  · have h0 : pairE p f l q g k = 0 := by simpa using hE
    obtain ⟨hv, hv2⟩ := pair_ok h0
    have ha := tnB_t hv
    have hc := tnB_t hv2
    have hg1 := gcdI_pos (q := q) ha.1
    have hg2 := (gcdI_le ha.1 hc.1).1
    have H0 := Lib.hid h0
    clear h0
    go_enter Tryd.func28, Tryd.ntmps28
    go_wp2_with fail
    refine (RefPair_any _ _ _ _ _ _ _).mono ?_
    rintro e w1 ⟨rfl, hx1⟩
    rw [H0.out]
    obtain ⟨q0, q1, hx2, hzz⟩ := alloc2 hx1
    have g0 : w1.cell? ⟨w.heap.size, 0, none⟩ = some (.int .i64 p) := q0.cell 0
    have g1 : w1.cell? ⟨w.heap.size, 1, none⟩ = some (.int .i64 f) := q0.cell 1
    have g2 : w1.cell? ⟨w.heap.size, 2, none⟩ = some (.int .i64 l) := q0.cell 2
    have g3 : w1.cell? ⟨w.heap.size + 1, 0, none⟩ = some (.int .i64 q) := q1.cell 0
    have g4 : w1.cell? ⟨w.heap.size + 1, 1, none⟩ = some (.int .i64 g) := q1.cell 1
    have g5 : w1.cell? ⟨w.heap.size + 1, 2, none⟩ = some (.int .i64 k) := q1.cell 2
    clear hx1
    go_wp2_with fail
    refine (refDivisor_any _ _ _ (by omega) (by omega) (by omega) (by omega)).mono ?_
    rintro e w2 ⟨rfl, hx3⟩
    have hx4 := hx2.trans hx3
    replace g0 := hx3.cell g0
    replace g1 := hx3.cell g1
    replace g2 := hx3.cell g2
    replace g3 := hx3.cell g3
    replace g4 := hx3.cell g4
    replace g5 := hx3.cell g5
    obtain ⟨G, hG⟩ : ∃ G, gcdI p q = G := ⟨_, rfl⟩
    have HG := Lib.hid hG
    rw [hG] at hg1 hg2 ⊢
    clear hG hx3
    go_wp2_with fail
    go_loopw [9] (fun i wr => ∃ n : Nat, (n : Int) ≤ G ∧ i = .int .i64 ((n : Int) + 1) ∧ Hid (NoApt p f l q g k n) ∧ Ext w2 wr) (fun i _ => (G + 1 - intOf i).toNat)
    case atStart => exact ⟨0, by omega, rfl, Lib.hid (fun j hj => by omega), Ext.refl _⟩
    case round =>
      obtain ⟨n, hn, rfl, HN, hx⟩ := hrel
      have d0 := hx.cell g0
      have d1 := hx.cell g1
      have d2 := hx.cell g2
      have d3 := hx.cell g3
      have d4 := hx.cell g4
      have d5 := hx.cell g5
      by_cases hlt : (n : Int) + 1 ≤ G
      · cases hd : (G % ((n : Int) + 1) == 0)
        · have hP : aptP p f l q g k n = false := by simp [aptP, HG.out]; intro h; simp [h] at hd
          go_wp2_with fail
          go_roundw
          case rel => exact ⟨n + 1, by omega, by go_num, Lib.hid (HN.out.succ hP), (by repeat (first | exact Ext.refl _ | assumption | refine Ext.alloc ?_ _ | refine Ext.drew ?_ | refine Ext.drewN _ ?_ | refine Ext.trans ?_ (by assumption)))⟩
          case measure => simp [intOf]; omega
        · cases hA : apB f l g k ((n : Int) + 1)
          · have hP : aptP p f l q g k n = false := by simp [aptP, hA]
            go_wp2_with (go_at_call 85; refine (refapart_any _ _ _ _ _ _ _ _ hv hv2 (by omega) (by omega)).mono ?_; rw [hA]; rintro e w' ⟨rfl, hx5⟩)
            go_roundw
            case rel => exact ⟨n + 1, by omega, by go_num, Lib.hid (HN.out.succ hP), (by repeat (first | exact Ext.refl _ | assumption | refine Ext.alloc ?_ _ | refine Ext.drew ?_ | refine Ext.drewN _ ?_ | refine Ext.trans ?_ (by assumption)))⟩
            case measure => simp [intOf]; omega
          · have hP : aptP p f l q g k n = true := by simp [aptP, hA, HG.out]; simpa using hd
            have hN := aptN_hit (by rw [HG.out]; omega) hP HN.out
            have HR := Lib.hid hN
            clear hN
            go_wp2_with (go_at_call 85; refine (refapart_any _ _ _ _ _ _ _ _ hv hv2 (by omega) (by omega)).mono ?_; rw [hA]; rintro e w' ⟨rfl, hx5⟩)
            go_ret3
            exact ⟨ret3 (vint (by rw [aptX, if_pos H0.out, HR.out])) (vbool (by rw [aptB, if_pos H0.out, HR.out]; rfl)) (vint H0.out.symm), (by repeat (first | exact Ext.refl _ | assumption | refine Ext.alloc ?_ _ | refine Ext.drew ?_ | refine Ext.drewN _ ?_ | refine Ext.trans ?_ (by assumption)))⟩
      · have hN := aptN_miss (p := p) (f := f) (l := l) (q := q) (g := g) (k := k) (fun j hj => HN.out j (by rw [HG.out] at hj; omega))
        have HR := Lib.hid hN
        clear hN
        go_wp2_with fail
        go_ret3
        exact ⟨ret3 (vint (by rw [aptX, if_pos H0.out, HR.out])) (vbool (by rw [aptB, if_pos H0.out, HR.out]; rfl)) (vint H0.out.symm), (by repeat (first | exact Ext.refl _ | assumption | refine Ext.alloc ?_ _ | refine Ext.drew ?_ | refine Ext.drewN _ ?_ | refine Ext.trans ?_ (by assumption)))⟩
  · have h0 : pairE p f l q g k ≠ 0 := by simpa using hE
    go_enter Tryd.func28, Tryd.ntmps28
    go_wp2_with fail
    refine (RefPair_any _ _ _ _ _ _ _).mono ?_
    rintro e w1 ⟨rfl, hx1⟩
    go_wp2_with fail
    go_ret3
    exact ⟨ret3 (vint (by rw [aptX, if_neg h0])) (vbool (by rw [aptB, if_neg h0])) rfl, (by repeat (first | exact Ext.refl _ | assumption | refine Ext.alloc ?_ _ | refine Ext.drew ?_ | refine Ext.drewN _ ?_ | refine Ext.trans ?_ (by assumption)))⟩

set_option maxHeartbeats 1000000 in
theorem RefCheckApart_any (p f l q g k m : Int) (w : World) :
    Calls Tryd.prog 31 #[.agg #[.int .i64 p, .int .i64 f, .int .i64 l], .agg #[.int .i64 q, .int .i64 g, .int .i64 k], .int .i64 m] w fun e w' => e = .returned (.int .i64 (chaE p f l q g k m)) ∧ Ext w w' := by
  cases hE : (pairE p f l q g k != 0)
  · have h0 : pairE p f l q g k = 0 := by simpa using hE
    obtain ⟨hv, hv2⟩ := pair_ok h0
    have ha := tnB_t hv
    have hc := tnB_t hv2
    have H0 := Lib.hid h0
    clear h0
    go_enter Tryd.func31, Tryd.ntmps31
    go_wp2_with fail
    refine (RefPair_any _ _ _ _ _ _ _).mono ?_
    rintro e w1 ⟨rfl, hx1⟩
    rw [H0.out]
    obtain ⟨q0, q1, hx2, hzz⟩ := alloc2 hx1
    have g0 : w1.cell? ⟨w.heap.size, 0, none⟩ = some (.int .i64 p) := q0.cell 0
    have g1 : w1.cell? ⟨w.heap.size, 1, none⟩ = some (.int .i64 f) := q0.cell 1
    have g2 : w1.cell? ⟨w.heap.size, 2, none⟩ = some (.int .i64 l) := q0.cell 2
    have g3 : w1.cell? ⟨w.heap.size + 1, 0, none⟩ = some (.int .i64 q) := q1.cell 0
    have g4 : w1.cell? ⟨w.heap.size + 1, 1, none⟩ = some (.int .i64 g) := q1.cell 1
    have g5 : w1.cell? ⟨w.heap.size + 1, 2, none⟩ = some (.int .i64 k) := q1.cell 2
    clear hx1
    by_cases hm : m < 1
    · go_wp2_with fail
      go_ret
      exact ⟨ret_int (by rw [chaE, if_pos H0.out, if_neg (by omega)]), (by repeat (first | exact Ext.refl _ | assumption | refine Ext.alloc ?_ _ | refine Ext.drew ?_ | refine Ext.drewN _ ?_ | refine Ext.trans ?_ (by assumption)))⟩
    · cases hd1 : (p % m != 0)
      · have e1 : p % m = 0 := by simpa using hd1
        have E1 := Lib.hid e1
        clear e1
        have hmp : m ≤ 40320 := by
          have h1 := Int.emod_add_mul_ediv p m
          rw [E1.out] at h1
          by_cases hc2 : 0 < p / m
          · have := Int.mul_le_mul_of_nonneg_left (show 1 ≤ p / m by omega) (show 0 ≤ m by omega)
            omega
          · have h2 : m * (p / m) ≤ 0 := Int.mul_nonpos_of_nonneg_of_nonpos (by omega) (by omega)
            omega
        cases hd2 : (q % m != 0)
        · have e2 : q % m = 0 := by simpa using hd2
          have E2 := Lib.hid e2
          clear e2
          cases hA : apB f l g k m
          · go_wp2_with (go_at_call 85; refine (refapart_any _ _ _ _ _ _ _ _ hv hv2 (by omega) (by omega)).mono ?_; rw [hA]; rintro e w' ⟨rfl, hx5⟩)
            go_ret
            exact ⟨ret_int (by rw [chaE, if_pos H0.out, if_neg (by simp [hA])]), (by repeat (first | exact Ext.refl _ | assumption | refine Ext.alloc ?_ _ | refine Ext.drew ?_ | refine Ext.drewN _ ?_ | refine Ext.trans ?_ (by assumption)))⟩
          · go_wp2_with (go_at_call 85; refine (refapart_any _ _ _ _ _ _ _ _ hv hv2 (by omega) (by omega)).mono ?_; rw [hA]; rintro e w' ⟨rfl, hx5⟩)
            go_ret
            exact ⟨ret_int (by rw [chaE, if_pos H0.out, if_pos ⟨by omega, E1.out, E2.out, hA⟩]), (by repeat (first | exact Ext.refl _ | assumption | refine Ext.alloc ?_ _ | refine Ext.drew ?_ | refine Ext.drewN _ ?_ | refine Ext.trans ?_ (by assumption)))⟩
        · go_wp2_with fail
          go_ret
          exact ⟨ret_int (by rw [chaE, if_pos H0.out, if_neg (by simp at hd2; simp [hd2])]), (by repeat (first | exact Ext.refl _ | assumption | refine Ext.alloc ?_ _ | refine Ext.drew ?_ | refine Ext.drewN _ ?_ | refine Ext.trans ?_ (by assumption)))⟩
      · go_wp2_with fail
        go_ret
        exact ⟨ret_int (by rw [chaE, if_pos H0.out, if_neg (by simp at hd1; simp [hd1])]), (by repeat (first | exact Ext.refl _ | assumption | refine Ext.alloc ?_ _ | refine Ext.drew ?_ | refine Ext.drewN _ ?_ | refine Ext.trans ?_ (by assumption)))⟩
  · have h0 : pairE p f l q g k ≠ 0 := by simpa using hE
    go_enter Tryd.func31, Tryd.ntmps31
    go_wp2_with fail
    refine (RefPair_any _ _ _ _ _ _ _).mono ?_
    rintro e w1 ⟨rfl, hx1⟩
    go_wp2_with fail
    go_ret
    exact ⟨ret_int (by rw [chaE, if_neg h0]), (by repeat (first | exact Ext.refl _ | assumption | refine Ext.alloc ?_ _ | refine Ext.drew ?_ | refine Ext.drewN _ ?_ | refine Ext.trans ?_ (by assumption)))⟩
end Go.Proofs.YtejmmfjabmmihaaDoor
