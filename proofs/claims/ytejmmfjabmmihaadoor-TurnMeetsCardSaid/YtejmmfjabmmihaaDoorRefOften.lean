/- Often of the specification: the same as the program's. -/
import Derived.Test.YtejmmfjabmmihaaDoorOften
import Derived.Test.YtejmmfjabmmihaaDoorFirst
namespace Go.Proofs.YtejmmfjabmmihaaDoor
open Go.RowKit Go.Shelf

theorem below_aux {q g k n : Int} (hv : tnB q g k = true) (h0 : 0 ≤ n) (h1 : n ≤ 4000000000) : 0 ≤ n / q * k ∧ n / q * k ≤ n ∧ 0 ≤ n % q ∧ n % q < q ∧ n.tdiv q = n / q ∧ n.tmod q = n % q := by
  have ha := tnB_t hv
  have h2 := Int.emod_nonneg n (show q ≠ 0 by omega)
  have h3 := Int.emod_lt_of_pos n (show 0 < q by omega)
  have h4 : 0 ≤ n / q := Int.ediv_nonneg h0 (by omega)
  have h5 := Int.emod_add_mul_ediv n q
  have h6 := Int.mul_le_mul_of_nonneg_left (show k ≤ q by omega) h4
  have h7 := Int.mul_nonneg h4 (show 0 ≤ k by omega)
  have h8 : q * (n / q) = n / q * q := Int.mul_comm _ _
  exact ⟨h7, by omega, h2, h3, Int.tdiv_eq_ediv_of_nonneg h0, Int.tmod_eq_emod_of_nonneg h0⟩
set_option maxHeartbeats 1000000 in
theorem below_any (q g k n : Int) (w : World) (hv : tnB q g k = true) (h0 : 0 ≤ n) (h1 : n ≤ 4000000000) :
    Calls Tryd.prog 71 #[.agg #[.int .i64 q, .int .i64 g, .int .i64 k], .int .i64 n] w fun e w' => e = .returned (.int .i64 (belowI q g k n)) ∧ Ext w w' := by
  have ha := tnB_t hv
  obtain ⟨b1, b2, b3, b4, b5, b6⟩ := below_aux hv h0 h1
  have hqz : (q == 0) = false := by rw [beq_eq_false_iff_ne]; omega
  have hdle : n / q ≤ n := Int.ediv_le_self _ h0
  have hd0 : 0 ≤ n / q := Int.ediv_nonneg h0 (by omega)
  have hw := IntWalk.wrap64_in (n / q * k) (by omega)
  have HB : Hid (belowI q g k n = n / q * k + max 0 (min (n % q) (g + k) - min (n % q) g) + max 0 (min (n % q) (g + k - q))) := Lib.hid rfl
  go_enter Tryd.func71, Tryd.ntmps71
  go_wp2
  all_goals
    go_ret
    exact ⟨ret_int (by rw [HB.out]; omega), (by repeat (first | exact Ext.refl _ | assumption | refine Ext.alloc ?_ _ | refine Ext.drew ?_ | refine Ext.drewN _ ?_ | refine Ext.trans ?_ (by assumption)))⟩

theorem below_cnt {q g k x : Int} (hv : tnB q g k = true) (h0 : 0 ≤ x) : belowI q g k x = cntI q g k x := by
  obtain ⟨n, rfl⟩ := Int.eq_ofNat_of_zero_le h0
  exact belowI_eq hv n
theorem cntI_bound (q g k : Int) {x : Int} (h0 : 0 ≤ x) : 0 ≤ cntI q g k x ∧ cntI q g k x ≤ x := by
  have := sumI_bound x.toNat (fun i => ind (tnIn q g k i)) 1 (fun i _ => ind_range _)
  unfold cntI
  omega
/-- the sum of the first occurrences -/
def rowsI (p f l q g k : Int) (n : Nat) : Int := sumI n (fun i => cntI q g k (f + i * p + l) - cntI q g k (f + i * p))
theorem rowsI_bound (p f l q g k : Int) (n : Nat) (hp : 1 ≤ p) (hf : 0 ≤ f) (hl : 0 ≤ l) : 0 ≤ rowsI p f l q g k n ∧ rowsI p f l q g k n ≤ n * l := by
  refine sumI_bound n _ l (fun i _ => ?_)
  have h1 := Int.mul_nonneg (show (0 : Int) ≤ i by omega) (show 0 ≤ p by omega)
  rw [cntI_diff q g k (f + i * p) l (by omega) hl]
  have := sumI_bound l.toNat (fun j => ind (tnIn q g k (f + i * p + j))) 1 (fun i _ => ind_range _)
  omega
theorem rowsI_succ (p f l q g k : Int) (n : Nat) : rowsI p f l q g k (n + 1) = rowsI p f l q g k n + (cntI q g k (f + n * p + l) - cntI q g k (f + n * p)) := rfl
set_option maxRecDepth 100000 in
set_option maxHeartbeats 2000000 in
theorem RefOften_any (p f l q g k : Int) (w : World) :
    Calls Tryd.prog 18 #[.agg #[.int .i64 p, .int .i64 f, .int .i64 l], .agg #[.int .i64 q, .int .i64 g, .int .i64 k]] w fun e w' => e = .returned (.tuple #[.int .i64 (oftX p f l q g k), .int .i64 (oftL p f l q g k), .int .i64 (pairE p f l q g k)]) ∧ Ext w w' := by
  cases hE : (pairE p f l q g k != 0)
  · have h0 : pairE p f l q g k = 0 := by simpa using hE
    obtain ⟨hv, hv2⟩ := pair_ok h0
    have ha := tnB_t hv
    have hc := tnB_t hv2
    have hg1 := gcdI_pos (q := q) ha.1
    have hL := lcmI_le ha.1 ha.2.1 hc.1 hc.2.1
    obtain ⟨K, hK, hKl, hK1⟩ : ∃ K : Nat, q = gcdI p q * K ∧ lcmI p q = p * K ∧ (K : Int) ≤ 40320 := by
      obtain ⟨c, d, e1, e2, e3, e4, e5, e6⟩ := lcmI_spec ha.1 hc.1
      have hc0 : (c.toNat : Int) = c := Int.toNat_of_nonneg (by omega)
      refine ⟨c.toNat, by rw [hc0]; exact e5, by rw [hc0]; exact e1, ?_⟩
      have := Int.mul_le_mul_of_nonneg_right hg1 (show 0 ≤ c by omega)
      omega
    have hpz : (p == 0) = false := by rw [beq_eq_false_iff_ne]; omega
    have hdv : (lcmI p q).tdiv p = K := by rw [hKl, Int.tdiv_eq_ediv_of_nonneg (Int.mul_nonneg (by omega) (by omega)), Int.mul_ediv_cancel_left _ (by omega)]
    have hsum := oft_rows hv hv2 hK
    have H0 := Lib.hid h0
    have HK := Lib.hid hK
    have HKL := Lib.hid hKl
    have HSUM := Lib.hid hsum
    clear h0 hK hKl hsum
    go_enter Tryd.func18, Tryd.ntmps18
    go_wp2_with fail
    refine (RefPair_any _ _ _ _ _ _ _).mono ?_
    rintro e w1 ⟨rfl, hx1⟩
    rw [H0.out]
    obtain ⟨q0, q1, hx2, hzz⟩ := alloc2 hx1
    have g0 : w1.cell? ⟨w.heap.size, 0, none⟩ = some (.int .i64 p) := q0.cell 0
    have g3 : w1.cell? ⟨w.heap.size + 1, 0, none⟩ = some (.int .i64 q) := q1.cell 0
    clear hx1
    go_wp2_with fail
    refine (multiple_any _ _ _ (by omega) (by omega) (by omega) (by omega)).mono ?_
    rintro e w2 ⟨rfl, hx3⟩
    have hx4 := hx2.trans hx3
    replace q0 := q0.ext hx3
    replace q1 := q1.ext hx3
    clear g0 g3 hx3
    go_wp2_with fail
    go_loopw [9, 10] (fun o i wr => ∃ n : Nat, n ≤ K ∧ i = .int .i64 n ∧ o = .int .i64 (rowsI p f l q g k n) ∧ Hid (Cls w.heap.size 23 #[.int .i64 p, .int .i64 f, .int .i64 l] wr) ∧ Hid (Cls (w.heap.size + 1) 23 #[.int .i64 q, .int .i64 g, .int .i64 k] wr) ∧ Ext w wr) (fun _ i _ => K - (intOf i).toNat)
    case atStart => exact ⟨0, by omega, rfl, rfl, Lib.hid q0, Lib.hid q1, hx4⟩
    case round =>
      obtain ⟨n, hn, rfl, rfl, HP, HQ, hx⟩ := hrel
      have d0 : wr.cell? ⟨w.heap.size, 0, none⟩ = some (.int .i64 p) := HP.out.cell 0
      have d1 : wr.cell? ⟨w.heap.size, 1, none⟩ = some (.int .i64 f) := HP.out.cell 1
      have d2 : wr.cell? ⟨w.heap.size, 2, none⟩ = some (.int .i64 l) := HP.out.cell 2
      have d3 : wr.cell? ⟨w.heap.size + 1, 0, none⟩ = some (.int .i64 q) := HQ.out.cell 0
      have d4 : wr.cell? ⟨w.heap.size + 1, 1, none⟩ = some (.int .i64 g) := HQ.out.cell 1
      have d5 : wr.cell? ⟨w.heap.size + 1, 2, none⟩ = some (.int .i64 k) := HQ.out.cell 2
      by_cases hlt : n < K
      · have hnp : (n : Int) * p ≤ 40320 * 40320 := Int.le_trans (Int.mul_le_mul_of_nonneg_right (show (n : Int) ≤ 40320 by omega) (by omega)) (Int.mul_le_mul_of_nonneg_left ha.2.1 (by omega))
        have hnp2 : 0 ≤ (n : Int) * p := Int.mul_nonneg (by omega) (by omega)
        have hnl : (n : Int) * l ≤ 40320 * 40320 := Int.le_trans (Int.mul_le_mul_of_nonneg_right (show (n : Int) ≤ 40320 by omega) (by omega)) (Int.mul_le_mul_of_nonneg_left (show l ≤ 40320 by omega) (by omega))
        have hw := IntWalk.wrap64_in ((n : Int) * p) (by omega)
        have hsb := rowsI_bound p f l q g k n ha.1 (by omega) (by omega)
        have hsu := rowsI_succ p f l q g k n
        obtain ⟨y, hy⟩ : ∃ y, (n : Int) * p = y := ⟨_, rfl⟩
        rw [hy] at hnp hnp2 hw hsu
        obtain ⟨x, hx9⟩ : ∃ x, f + y = x := ⟨_, rfl⟩
        rw [hx9] at hsu
        obtain ⟨r1, hr1⟩ : ∃ r1, rowsI p f l q g k n = r1 := ⟨_, rfl⟩
        rw [hr1] at hsb hsu ⊢
        rw [← below_cnt hv2 (show 0 ≤ x + l by omega), ← below_cnt hv2 (show 0 ≤ x by omega)] at hsu
        have b1 := cntI_bound q g k (show 0 ≤ x + l by omega)
        have b2 := cntI_bound q g k (show 0 ≤ x by omega)
        rw [← below_cnt hv2 (by omega)] at b1 b2
        have HSU := Lib.hid hsu
        have HY := Lib.hid hy
        have HB1 := fun W => below_any q g k (x + l) W hv2 (by omega) (by omega)
        have HB2 := fun W => below_any q g k x W hv2 (by omega) (by omega)
        have HW2 : Hid (IntKind.i64.wrap (x + l) = x + l) := Lib.hid (IntWalk.i64_in _ (by omega))
        clear hsu hr1
        go_wp2_with fail
        go_region_held3 (fun W' => W'.cell? ⟨w.heap.size, 0, none⟩ = some (.int .i64 p) ∧ W'.cell? ⟨w.heap.size, 1, none⟩ = some (.int .i64 f) ∧ W'.cell? ⟨w.heap.size, 2, none⟩ = some (.int .i64 l) ∧ W'.cell? ⟨w.heap.size + 1, 0, none⟩ = some (.int .i64 q) ∧ W'.cell? ⟨w.heap.size + 1, 1, none⟩ = some (.int .i64 g) ∧ W'.cell? ⟨w.heap.size + 1, 2, none⟩ = some (.int .i64 k) ∧ Ext wr W')
          ((refine ⟨Ext.cell (w := wr) ?_ d0, Ext.cell (w := wr) ?_ d1, Ext.cell (w := wr) ?_ d2, Ext.cell (w := wr) ?_ d3, Ext.cell (w := wr) ?_ d4, Ext.cell (w := wr) ?_ d5, ?_⟩; all_goals exact (by repeat (first | exact Ext.refl _ | assumption | refine Ext.alloc ?_ _ | refine Ext.drew ?_ | refine Ext.drewN _ ?_ | refine Ext.trans ?_ (by assumption)))))
          ((go_at_call 71; first | (rw [HW2.out]; refine (HB1 _).mono ?_; rintro e w' ⟨rfl, hz⟩) | (refine (HB2 _).mono ?_; rintro e w' ⟨rfl, hz⟩)))
        all_goals
          have hx5 : Ext wr w' := by exact (by repeat (first | exact Ext.refl _ | assumption | refine Ext.alloc ?_ _ | refine Ext.drew ?_ | refine Ext.drewN _ ?_ | refine Ext.trans ?_ (by assumption)))
          go_wp2_with fail
          go_roundw
          case rel => exact ⟨n + 1, by omega, by go_num, by exact vint (by rw [HSU.out, IntWalk.i64_in (r1 + belowI q g k (x + l)) (by omega), IntWalk.i64_in _ (by omega)]; omega), Lib.hid (HP.out.ext hx5), Lib.hid (HQ.out.ext hx5), hx.trans hx5⟩
          case measure => simp [intOf]; omega
      · have hnK : n = K := by omega
        subst hnK
        have HF : Hid (rowsI p f l q g k n = oftI p f l q g k) := Lib.hid HSUM.out
        go_wp2_with fail
        go_ret3
        exact ⟨ret3 (vint (by rw [oftX, if_pos H0.out, HF.out])) (vint (by rw [oftL, if_pos H0.out])) (vint H0.out.symm), (by repeat (first | exact Ext.refl _ | assumption | refine Ext.alloc ?_ _ | refine Ext.drew ?_ | refine Ext.drewN _ ?_ | refine Ext.trans ?_ (by assumption)))⟩
  · have h0 : pairE p f l q g k ≠ 0 := by simpa using hE
    go_enter Tryd.func18, Tryd.ntmps18
    go_wp2_with fail
    refine (RefPair_any _ _ _ _ _ _ _).mono ?_
    rintro e w1 ⟨rfl, hx1⟩
    go_wp2_with fail
    go_ret3
    exact ⟨ret3 (vint (by rw [oftX, if_neg h0])) (vint (by rw [oftL, if_neg h0])) rfl, (by repeat (first | exact Ext.refl _ | assumption | refine Ext.alloc ?_ _ | refine Ext.drew ?_ | refine Ext.drewN _ ?_ | refine Ext.trans ?_ (by assumption)))⟩
end Go.Proofs.YtejmmfjabmmihaaDoor
