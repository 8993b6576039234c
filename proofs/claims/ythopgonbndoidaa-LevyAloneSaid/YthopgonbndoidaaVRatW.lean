/- ratio, add, piece of the program. -/
import Derived.Test.YthopgonbndoidaaVRat
import Derived.Test.YthopgonbndoidaaVWt
import Derived.BigQuiet
namespace Go.Proofs.Ythopgonbndoidaa
open Go.RowKit Go.Shelf

theorem gcd_step (x y : Nat) : Nat.gcd y (x % y) = Nat.gcd x y := by
  rw [Nat.gcd_comm x y, Nat.gcd_rec y x, Nat.gcd_comm]
set_option maxRecDepth 100000 in
set_option maxHeartbeats 2000000 in
theorem ratio_any (n d : Int) (w : World) (h1 : -1000000000000000000 ≤ n) (h2 : n ≤ 1000000000000000000) (h3 : 0 < d) (h4 : d ≤ 1000000000000000000) :
    Calls Try.prog 104 #[.int .i64 n, .int .i64 d] w fun e w' => e = .returned (.agg #[.int .i64 (ratF n d).n, .int .i64 (ratF n d).d]) ∧ Ext w w' := by
  obtain ⟨g, a, b, g0, hn, hd, hb, hc, hr⟩ := ratF_parts (n := n) h3
  rw [hr]
  have hgd : (g.natAbs : Int) = g := by omega
  have hgg : Nat.gcd n.natAbs d.natAbs = g.natAbs := by
    have : Int.gcd n d = g.natAbs * Int.gcd a b := by rw [hn, hd, Int.gcd_mul_left]
    rw [hc, Nat.mul_one] at this
    exact this
  have hq1 : n.tdiv g = a := by rw [hn]; exact Int.mul_tdiv_cancel_left _ (by omega)
  have hq2 : d.tdiv g = b := by rw [hd]; exact Int.mul_tdiv_cancel_left _ (by omega)
  have hab : a.natAbs ≤ n.natAbs := by rw [hn, Int.natAbs_mul]; exact Nat.le_mul_of_pos_left _ (by omega)
  have hbb : b.natAbs ≤ d.natAbs := by rw [hd, Int.natAbs_mul]; exact Nat.le_mul_of_pos_left _ (by omega)
  have hwa : IntKind.i64.wrap a = a := IntWalk.i64_in _ (by omega)
  have hwb : IntKind.i64.wrap b = b := IntWalk.i64_in _ (by omega)
  obtain ⟨x, hx⟩ : ∃ x : Nat, n.natAbs = x := ⟨_, rfl⟩
  obtain ⟨y, hy⟩ : ∃ y : Nat, d.natAbs = y := ⟨_, rfl⟩
  have hyd : d = (y : Int) := by omega
  obtain ⟨gg, hgg2⟩ : ∃ gg : Nat, g.natAbs = gg := ⟨_, rfl⟩
  rw [hx, hy, hgg2] at hgg
  have hge : g = (gg : Int) := by omega
  have hxb : x ≤ 1000000000000000000 := by omega
  have hyb : y ≤ 1000000000000000000 := by omega
  subst hge
  have HG := Lib.hid hgg
  have HQ1 := Lib.hid hq1
  have HQ2 := Lib.hid hq2
  have HY := Lib.hid hyd
  have hw1 : IntKind.i64.wrap (-n) = -n := IntWalk.i64_in _ (by omega)
  have hmx : (if -n < n then n else -n) = (x : Int) := by split <;> omega
  have hmx2 : max n (-n) = (x : Int) := by omega
  have HX := Lib.hid hx
  clear hab hbb hn hd hr hgd hc hy hgg hgg2 hq1 hq2 hyd hx
  go_enter Try.func104, Try.ntmps104
  obtain ⟨W1, hW1⟩ : ∃ W1, w.alloc (.cells #[.int .i64 0, .int .i64 0] 42) = W1 := ⟨_, rfl⟩
  have q1 : Cls w.heap.size 42 #[.int .i64 0, .int .i64 0] W1 := by rw [← hW1]; exact Cls.new _ _ _
  have hx1 : Ext w W1 := by rw [← hW1]; exact (by repeat (first | exact Ext.refl _ | assumption | refine Ext.alloc ?_ _ | refine Ext.drew ?_ | refine Ext.drewN _ ?_ | refine Ext.trans ?_ (by assumption)))
  go_wp2_with fail
  all_goals
    (try rw [hW1])
    clear hW1
    go_loopw [5, 6] (fun u v wr => ∃ x y : Nat, u = .int .i64 x ∧ v = .int .i64 y ∧ Hid (Nat.gcd x y = gg) ∧ x ≤ 1000000000000000000 ∧ y ≤ 1000000000000000000 ∧ Ext w wr ∧ Cls w.heap.size 42 #[.int .i64 0, .int .i64 0] wr) (fun _ v _ => (intOf v).toNat)
    case atStart => exact ⟨x, y, vint (by have := HX.out; omega), vint HY.out, HG, hxb, hyb, hx1, q1⟩
    case round =>
      obtain ⟨x, y, rfl, rfl, HG, hx, hy, hxx, hB⟩ := hrel
      by_cases h0 : y = 0
      · subst h0
        have hg := HG.out
        rw [Nat.gcd_zero_right] at hg
        subst hg
        have hz : ¬ ((x : Int) = 0) := by omega
        have hz2 : ((x : Int) == 0) = false := by rw [beq_eq_false_iff_ne]; omega
        have f0 := hB.frozen 0
        have f1 := hB.frozen 1
        have e0 : wr.cell? ⟨w.heap.size, 0, none⟩ = some (.int .i64 0) := hB.cell 0
        have e1 : wr.cell? ⟨w.heap.size, 1, none⟩ = some (.int .i64 0) := hB.cell 1
        have hy0 : ((0 : Nat) : Int) = 0 := rfl
        have r1 := HQ1.out
        have r2 := HQ2.out
        rw [hy0]
        go_wp2_with fail
        go_region
        all_goals (try go_wp2)
        have hC : Cls w.heap.size 42 #[.int .i64 a, .int .i64 b] ((wr.setCell ⟨w.heap.size, 0, none⟩ (.int .i64 a)).setCell ⟨w.heap.size, 1, none⟩ (.int .i64 b)).drew := ((hB.set 0 (.int .i64 a)).set 1 (.int .i64 b)).ext (Ext.drew (Ext.refl _))
        exact bodyPost_ret (results_cell_row rfl _ _ w.heap.size _ _ _ _ rfl hC Try.underlying42 rfl (by kernel_rfl)) rfl ⟨rfl, ((hxx.setCell (p := ⟨w.heap.size, 0, none⟩) (Nat.le_refl _) _).setCell (p := ⟨w.heap.size, 1, none⟩) (Nat.le_refl _) _).drew⟩
      · have hy1 : (1 : Int) ≤ y := by omega
        have hyz : ((y : Int) == 0) = false := by rw [beq_eq_false_iff_ne]; omega
        have hyz2 : ((y : Int) != 0) = true := by rw [bne_iff_ne]; omega
        have hyz3 : ¬ ((y : Int) = 0) := by omega
        have hb1 := Int.emod_nonneg (x : Int) (show (y : Int) ≠ 0 by omega)
        have hb2 := Int.emod_lt_of_pos (x : Int) (show (0 : Int) < y by omega)
        go_wp2
        all_goals (try go_quiet (fail))
        all_goals (try go_wp2)
        all_goals
          go_roundw
          case rel => exact ⟨y, x % y, by first | rfl | simp, by first | rfl | simp, (by have h := HG.out; exact Lib.hid (by rw [← h]; exact gcd_step x y)), hy, by have := Nat.mod_lt x (show 0 < y by omega); omega, (by repeat (first | exact Ext.refl _ | assumption | refine Ext.alloc ?_ _ | refine Ext.drew ?_ | refine Ext.drewN _ ?_ | refine Ext.trans ?_ (by assumption))), hB.ext (by repeat (first | exact Ext.refl _ | assumption | refine Ext.alloc ?_ _ | refine Ext.drew ?_ | refine Ext.drewN _ ?_ | refine Ext.trans ?_ (by assumption)))⟩
          case measure => simp [intOf]; have := Nat.mod_lt x (show 0 < y by omega); omega

/-- all fractions are parts of which so many are 1 -/
def wholeM : Int := 5354228880
def ratM (x : Int) : Ra := ratF x 5354228880
theorem ratM_parts (x : Int) : ∃ g a b : Int, 0 < g ∧ x = g * a ∧ (5354228880 : Int) = g * b ∧ 0 < b ∧ Int.gcd a b = 1 ∧ ratM x = ⟨a, b⟩ := ratF_parts (by decide)
theorem ratM_of {n d k : Int} (hd : 0 < d) (hk : d * k = 5354228880) : ratF n d = ratM (n * k) := by
  refine ratF_eq hd (by decide) ?_
  rw [← hk]; ac_rfl
theorem abs_le_of_mul {g a b V : Int} (hg : 0 < g) (h1 : -(V * (g * b)) ≤ g * a) (h2 : g * a ≤ V * (g * b)) : -(V * b) ≤ a ∧ a ≤ V * b := by
  have e : V * (g * b) = g * (V * b) := by ac_rfl
  rw [e] at h1 h2
  rw [← Int.mul_neg] at h1
  exact ⟨Int.le_of_mul_le_mul_left h1 hg, Int.le_of_mul_le_mul_left h2 hg⟩
/-- what stands in the sum of two fractions -/
theorem add_facts {A B : Int} (hA : -8421473853112320 ≤ A ∧ A ≤ 8421473853112320) (hB : -8421473853112320 ≤ B ∧ B ≤ 8421473853112320) :
    ∃ a1 a2 b1 b2 p q : Int, ratM A = ⟨a1, a2⟩ ∧ ratM B = ⟨b1, b2⟩ ∧ ratF a2 b2 = ⟨p, q⟩ ∧ (0 < a2 ∧ a2 ≤ 5354228880) ∧ (0 < b2 ∧ b2 ≤ 5354228880) ∧ (0 < a2 * q ∧ a2 * q ≤ 5354228880) ∧ (a2 * q).tdiv b2 = p ∧
      (-8421473853112320 ≤ a1 * q ∧ a1 * q ≤ 8421473853112320) ∧ (-8421473853112320 ≤ b1 * p ∧ b1 * p ≤ 8421473853112320) ∧ ratF (a1 * q + b1 * p) (a2 * q) = ratM (A + B) := by
  obtain ⟨g, a1, a2, g0, e1, e2, e3, e4, e5⟩ := ratM_parts A
  obtain ⟨h, b1, b2, h0, f1, f2, f3, f4, f5⟩ := ratM_parts B
  obtain ⟨k, p, q, k0, c1, c2, c3, c4, c5⟩ := ratF_parts (n := a2) f3
  have hb2 : b2 ≠ 0 := by omega
  have hp0 : 0 < p := by
    by_cases hc : 0 < p
    · exact hc
    · have : k * p ≤ 0 := Int.mul_nonpos_of_nonneg_of_nonpos (by omega) (by omega)
      omega
  have hlcm : a2 * q = b2 * p := by rw [c1, c2]; ac_rfl
  -- the denominator divides the whole
  have hdv : a2 * q ∣ 5354228880 := by
    have hb : b2 ∣ 5354228880 := ⟨h, by rw [f2]; exact Int.mul_comm _ _⟩
    have h1 : b2 ∣ g * a2 := by rw [← e2]; exact hb
    have h2 : q ∣ g * p := by
      have : k * q ∣ k * (g * p) := by
        have : k * (g * p) = g * a2 := by rw [c1]; ac_rfl
        rw [this, ← c2]; exact h1
      exact Int.dvd_of_mul_dvd_mul_left (by omega) this
    have h3 : q ∣ g := by
      have := euclid (a := p) (b := q) (d := g) c4 (by rw [Int.mul_comm]; exact h2)
      exact this
    obtain ⟨r, hr⟩ := h3
    exact ⟨r, by rw [e2, hr]; ac_rfl⟩
  have hpos : 0 < a2 * q := Int.mul_pos e3 c3
  have hle : a2 * q ≤ 5354228880 := Int.le_of_dvd (by decide) hdv
  have ha2 : a2 ≤ 5354228880 := Int.le_of_dvd (by decide) ⟨g, by rw [e2]; exact Int.mul_comm _ _⟩
  have hb2' : b2 ≤ 5354228880 := Int.le_of_dvd (by decide) ⟨h, by rw [f2]; exact Int.mul_comm _ _⟩
  have va := abs_le_of_mul (V := 1572864) (a := a1) (b := a2) g0 (by rw [← e1, ← e2]; omega) (by rw [← e1, ← e2]; omega)
  have vb := abs_le_of_mul (V := 1572864) (a := b1) (b := b2) h0 (by rw [← f1, ← f2]; omega) (by rw [← f1, ← f2]; omega)
  have m1 : a1 * q ≤ 1572864 * a2 * q := Int.mul_le_mul_of_nonneg_right va.2 (by omega)
  have m2 : -(1572864 * a2) * q ≤ a1 * q := Int.mul_le_mul_of_nonneg_right va.1 (by omega)
  have m3 : b1 * p ≤ 1572864 * b2 * p := Int.mul_le_mul_of_nonneg_right vb.2 (by omega)
  have m4 : -(1572864 * b2) * p ≤ b1 * p := Int.mul_le_mul_of_nonneg_right vb.1 (by omega)
  rw [Int.mul_assoc] at m1 m3
  rw [Int.neg_mul, Int.mul_assoc] at m2 m4
  rw [← hlcm] at m3 m4
  refine ⟨a1, a2, b1, b2, p, q, e5, f5, c5, ⟨e3, ha2⟩, ⟨f3, hb2'⟩, ⟨hpos, hle⟩, ?_, by omega, by omega, ?_⟩
  · rw [hlcm]; exact Int.mul_tdiv_cancel_left _ hb2
  · refine ratF_eq hpos (by decide) ?_
    have x1 : a1 * q * 5354228880 = A * (a2 * q) := by rw [e1, e2]; ac_rfl
    have x2 : b1 * p * 5354228880 = B * (a2 * q) := by rw [hlcm, f1, f2]; ac_rfl
    rw [Int.add_mul, Int.add_mul, x1, x2]
end Go.Proofs.Ythopgonbndoidaa
