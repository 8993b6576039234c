/- piece, add of the program. -/
import Derived.Test.YthopgonbndoidaaVRatW
import Derived.Deep.DeepCutAuto
import Derived.Deep.RegionHeld3
import Derived.StillTailTactics
namespace Go.Proofs.Ythopgonbndoidaa
open Go.RowKit Go.Shelf

def raV (r : Ra) : Value := .agg #[.int .i64 r.n, .int .i64 r.d]
set_option maxRecDepth 100000 in
set_option maxHeartbeats 2000000 in
theorem piece_any (id rc wt cost all : Int) (w : World) (h1 : -65536 ≤ cost) (h2 : cost ≤ 65536) (h3 : 1 ≤ wt) (h4 : wt ≤ 24) (h5 : 1 ≤ all) (h6 : all ≤ 24) :
    Calls Try.prog 63 #[.agg #[.int .i64 id, .int .i64 rc, .int .i64 wt], .int .i64 cost, .int .i64 all] w fun e w' => e = .returned (raV (ratF (cost * wt) all)) ∧ Ext w w' := by
  have hb1 : cost * wt ≤ 65536 * 24 := by
    have h := Int.mul_le_mul_of_nonneg_right (c := wt) h2 (by omega)
    have h' : 65536 * wt ≤ 65536 * 24 := by omega
    omega
  have hb2 : -(65536 * 24) ≤ cost * wt := by
    have h := Int.mul_le_mul_of_nonneg_right (c := wt) h1 (by omega)
    have h' : -(65536 * 24) ≤ -65536 * wt := by omega
    omega
  have hw : IntKind.i64.wrap (cost * wt) = cost * wt := IntWalk.i64_in _ (by omega)
  obtain ⟨x, hx⟩ : ∃ x, cost * wt = x := ⟨_, rfl⟩
  rw [hx] at hb1 hb2 hw ⊢
  have HXX := Lib.hid hx
  obtain ⟨r, hr⟩ : ∃ r, ratF x all = r := ⟨_, rfl⟩
  have K := fun W => ratio_any x all W (by omega) (by omega) (by omega) (by omega)
  rw [hr] at K ⊢
  clear hr
  go_enter Try.func63, Try.ntmps63
  go_wp2_with fail
  refine (K _).mono ?_
  rintro e w1 ⟨rfl, hz⟩
  obtain ⟨q0, q1, hx1, hs1⟩ := alloc2 hz
  have f0 := q1.frozen 0
  have f1 := q1.frozen 1
  have c0 := q1.cell 0
  have c1 := q1.cell 1
  clear hz
  go_wp2_with fail
  have hC := (q1.set 0 (.int .i64 r.n)).set 1 (.int .i64 r.d)
  exact bodyPost_ret (results_cell_row rfl _ _ (w.heap.size + 1) _ _ _ _ rfl hC Try.underlying42 rfl (by kernel_rfl)) rfl ⟨rfl, (hx1.setCell (p := ⟨w.heap.size + 1, 0, none⟩) (by simp) _).setCell (p := ⟨w.heap.size + 1, 1, none⟩) (Nat.le_add_right _ _) _⟩

set_option maxRecDepth 100000 in
set_option maxHeartbeats 2000000 in
theorem add_any (A B : Int) (w : World) (hA : -8421473853112320 ≤ A ∧ A ≤ 8421473853112320) (hB : -8421473853112320 ≤ B ∧ B ≤ 8421473853112320) :
    Calls Try.prog 120 #[raV (ratM A), raV (ratM B)] w fun e w' => e = .returned (raV (ratM (A + B))) ∧ Ext w w' := by
  obtain ⟨a1, a2, b1, b2, p, q, e1, e2, e3, ha2, hb2, hd, hq, hm1, hm2, hr⟩ := add_facts hA hB
  obtain ⟨r, hrr⟩ : ∃ r, ratM (A + B) = r := ⟨_, rfl⟩
  rw [e1, e2, hrr]
  rw [hrr] at hr
  have K0 := fun W => ratio_any a2 b2 W (by omega) (by omega) (by omega) (by omega)
  rw [e3] at K0
  obtain ⟨u1, hu1⟩ : ∃ u, a1 * q = u := ⟨_, rfl⟩
  obtain ⟨u2, hu2⟩ : ∃ u, b1 * p = u := ⟨_, rfl⟩
  obtain ⟨u3, hu3⟩ : ∃ u, a2 * q = u := ⟨_, rfl⟩
  rw [hu1] at hm1 hr
  rw [hu2] at hm2 hr
  rw [hu3] at hd hq hr
  have K1 := fun W => ratio_any (u1 + u2) u3 W (by omega) (by omega) (by omega) (by omega)
  rw [hr] at K1
  have hb0 : ¬ b2 = 0 := by omega
  have g1 : IntKind.i64.wrap u1 = u1 := IntWalk.i64_in _ (by omega)
  have g2 : IntKind.i64.wrap u2 = u2 := IntWalk.i64_in _ (by omega)
  have g3 : IntKind.i64.wrap u3 = u3 := IntWalk.i64_in _ (by omega)
  have g4 : IntKind.i64.wrap (u1 + u2) = u1 + u2 := IntWalk.i64_in _ (by omega)
  have g5 : IntKind.i64.wrap p = p := by
    rw [← hq]
    refine IntWalk.i64_in _ ?_
    rw [Int.tdiv_eq_ediv_of_nonneg (by omega)]
    have h1 := Int.ediv_nonneg (a := u3) (b := b2) (by omega) (by omega)
    have h2 := Int.ediv_le_self (a := u3) b2 (by omega)
    omega
  clear hr hrr e1 e2 e3 hd hm1 hm2 hA hB ha2 hb2
  unfold raV
  go_enter Try.func120, Try.ntmps120
  go_wp2_with fail
  refine (K0 _).mono ?_
  rintro e w1 ⟨rfl, hz⟩
  obtain ⟨q0, q1, q2, hx1, hs1⟩ := alloc3 hz
  clear hz
  have b0 := Cls.new w1 42 #[.int .i64 p, .int .i64 q]
  obtain ⟨W1, hW1⟩ : ∃ W1, w1.alloc (.cells #[.int .i64 p, .int .i64 q] 42) = W1 := ⟨_, rfl⟩
  have hz : Ext w1 W1 := by rw [← hW1]; exact (by repeat (first | exact Ext.refl _ | assumption | refine Ext.alloc ?_ _ | refine Ext.drew ?_ | refine Ext.drewN _ ?_ | refine Ext.trans ?_ (by assumption)))
  rw [hW1] at b0
  obtain ⟨CB, hCB⟩ : ∃ CB, w1.heap.size = CB := ⟨_, rfl⟩
  rw [hCB] at b0 hs1
  replace q0 := q0.ext hz
  replace q1 := q1.ext hz
  replace q2 := q2.ext hz
  replace hx1 := hx1.trans hz
  go_upto_region 2 with fail
  try rw [hCB]
  try rw [hW1]
  clear hW1 hz hCB
  have c00 : W1.cell? ⟨w.heap.size, 0, none⟩ = some (.int .i64 a1) := q0.cell 0
  have c01 : W1.cell? ⟨w.heap.size, 1, none⟩ = some (.int .i64 a2) := q0.cell 1
  have c10 : W1.cell? ⟨w.heap.size + 1, 0, none⟩ = some (.int .i64 b1) := q1.cell 0
  have c11 : W1.cell? ⟨w.heap.size + 1, 1, none⟩ = some (.int .i64 b2) := q1.cell 1
  have cc0 : W1.cell? ⟨CB, 0, none⟩ = some (.int .i64 p) := b0.cell 0
  have cc1 : W1.cell? ⟨CB, 1, none⟩ = some (.int .i64 q) := b0.cell 1
  have KE := fun W (h : Ext W1 W) => K1 W
  go_wp2_with fail
  have f20 := q2.frozen 0
  have f21 := q2.frozen 1
  go_still_tail 14, (by kernel_rfl)
  change wpList _ _ _ _ _ W1.drew
  obtain ⟨W2, hW2⟩ : ∃ W2, W1.drew = W2 := ⟨_, rfl⟩
  have hy : Ext W1 W2 := by rw [← hW2]; exact (by repeat (first | exact Ext.refl _ | assumption | refine Ext.alloc ?_ _ | refine Ext.drew ?_ | refine Ext.drewN _ ?_ | refine Ext.trans ?_ (by assumption)))
  rw [hW2]
  clear hW2 f20 f21 KE
  replace c00 := hy.cell c00
  replace c10 := hy.cell c10
  replace c11 := hy.cell c11
  replace cc1 := hy.cell cc1
  replace q2 := q2.ext hy
  replace hx1 := hx1.trans hy
  clear hy c01 cc0 b0 q0 q1
  go_wp2_with fail
  refine (K1 _).mono ?_
  rintro e w' ⟨rfl, hz⟩
  replace q2 := q2.ext hz
  replace hx1 := hx1.trans hz
  obtain ⟨R, hR⟩ : ∃ R, w.heap.size + 1 + 1 = R := ⟨_, rfl⟩
  have hRb : w.heap.size ≤ R := by omega
  rw [hR] at q2 ⊢
  clear hR hs1
  have f20 := q2.frozen 0
  have f21 := q2.frozen 1
  have d0 : w'.cell? ⟨R, 0, none⟩ = some (.int .i64 0) := q2.cell 0
  have d1 : w'.cell? ⟨R, 1, none⟩ = some (.int .i64 0) := q2.cell 1
  go_wp2_with fail
  have hC := (q2.set 0 (.int .i64 r.n)).set 1 (.int .i64 r.d)
  exact bodyPost_ret (results_cell_row rfl _ _ R _ _ _ _ rfl hC Try.underlying42 rfl (by kernel_rfl)) rfl ⟨rfl, (hx1.setCell (p := ⟨R, 0, none⟩) hRb _).setCell (p := ⟨R, 1, none⟩) hRb _⟩
end Go.Proofs.Ythopgonbndoidaa
