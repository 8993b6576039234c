/- Two turns: their errors, the greatest common divisor, the remainders that a turn has, whether a modulus keeps two turns apart. -/
import Derived.Test.YtejcmdoalhnpeaaGreatDoorHas
import Derived.Test.YtejcmdoalhnpeaaGreatDoorMap
namespace Go.Proofs.YtejcmdoalhnpeaaGreatDoor
open Go.RowKit Go.Shelf

/-- the first of two errors -/
def or2 (a b : Int) : Int := if a ≠ 0 then a else b
set_option maxHeartbeats 1000000 in
theorem cmpOr2_any (b o cap : Nat) (e1 e2 : Int) (w : World) (c1 : w.cell? ⟨b, o, none⟩ = some (.int .i64 e1)) (c2 : w.cell? ⟨b, o + 1, none⟩ = some (.int .i64 e2)) :
    Calls Tryz.prog 27 #[.slice (some ⟨b, o, none⟩) 2 cap] w fun e w' => e = .returned (.int .i64 (or2 e1 e2)) ∧ w = w' := by
  cases h1 : (e1 != 0)
  · have e1' : e1 = 0 := by simpa using h1
    subst e1'
    cases h2 : (e2 != 0)
    · have e2' : e2 = 0 := by simpa using h2
      subst e2'
      go_enter Tryz.func27, Tryz.ntmps27
      go_wp2
      go_loop [8] (fun i => i = .int .i64 0 ∨ i = .int .i64 1 ∨ i = .int .i64 2) (fun i => 2 - (intOf i).toNat)
      case atStart => exact .inl rfl
      rcases hrel with rfl | rfl | rfl
      · go_wp2
        go_round
        case rel => exact .inr (.inl rfl)
        case measure => simp [intOf]
      · go_wp2
        go_round
        case rel => exact .inr (.inr rfl)
        case measure => simp [intOf]
      · go_wp2
        go_ret
        exact ⟨rfl, rfl⟩
    · go_enter Tryz.func27, Tryz.ntmps27
      go_wp2
      go_loop [8] (fun i => i = .int .i64 0 ∨ i = .int .i64 1) (fun i => 2 - (intOf i).toNat)
      case atStart => exact .inl rfl
      rcases hrel with rfl | rfl
      · go_wp2
        go_round
        case rel => exact .inr rfl
        case measure => simp [intOf]
      · go_wp2
        go_ret
        exact ⟨rfl, rfl⟩
  · go_enter Tryz.func27, Tryz.ntmps27
    go_wp2
    refine wp_loop_once ?_
    go_wp2
    go_ret
    exact ⟨ret_int (by simp at h1; simp [or2, h1]), rfl⟩

/-- the error of two turns -/
def pairE (p f l q g m : Int) : Int := if tnB p f l && tnB q g m then 0 else 1
theorem pairE_or (p f l q g m : Int) : or2 (tnE p f l) (tnE q g m) = pairE p f l q g m := by
  unfold or2 tnE pairE
  cases tnB p f l <;> cases tnB q g m <;> simp

set_option maxHeartbeats 1000000 in
theorem both_any (p f l q g m : Int) (w : World) :
    Calls Tryz.prog 48 #[.agg #[.int .i64 p, .int .i64 f, .int .i64 l], .agg #[.int .i64 q, .int .i64 g, .int .i64 m]] w fun e w' => e = .returned (.int .i64 (pairE p f l q g m)) ∧ Ext w w' := by
  go_enter Tryz.func48, Tryz.ntmps48
  go_wp2
  obtain ⟨W1, hW1⟩ : ∃ W1, (w.alloc (.cells #[.int .i64 p, .int .i64 f, .int .i64 l] 42)).alloc (.cells #[.int .i64 q, .int .i64 g, .int .i64 m] 42) = W1 := ⟨_, rfl⟩
  have hx1 : Ext w W1 := by rw [← hW1]; exact (by repeat (first | exact Ext.refl _ | assumption | refine Ext.alloc ?_ _ | refine Ext.drew ?_ | refine Ext.drewN _ ?_ | refine Ext.trans ?_ (by assumption)))
  have d0 : W1.cell? ⟨w.heap.size, 0, none⟩ = some (.int .i64 p) := by rw [← hW1]; exact Ext.cell (by repeat (first | exact Ext.refl _ | assumption | refine Ext.alloc ?_ _ | refine Ext.drew ?_ | refine Ext.drewN _ ?_ | refine Ext.trans ?_ (by assumption))) (cell_at_new w _ _ _ _ _ rfl rfl)
  have d1 : W1.cell? ⟨w.heap.size, 1, none⟩ = some (.int .i64 f) := by rw [← hW1]; exact Ext.cell (by repeat (first | exact Ext.refl _ | assumption | refine Ext.alloc ?_ _ | refine Ext.drew ?_ | refine Ext.drewN _ ?_ | refine Ext.trans ?_ (by assumption))) (cell_at_new w _ _ _ _ _ rfl rfl)
  have d2 : W1.cell? ⟨w.heap.size, 2, none⟩ = some (.int .i64 l) := by rw [← hW1]; exact Ext.cell (by repeat (first | exact Ext.refl _ | assumption | refine Ext.alloc ?_ _ | refine Ext.drew ?_ | refine Ext.drewN _ ?_ | refine Ext.trans ?_ (by assumption))) (cell_at_new w _ _ _ _ _ rfl rfl)
  have d3 : W1.cell? ⟨w.heap.size + 1, 0, none⟩ = some (.int .i64 q) := by rw [← hW1]; exact cell_at_new _ _ _ _ _ _ (by simp) rfl
  have d4 : W1.cell? ⟨w.heap.size + 1, 1, none⟩ = some (.int .i64 g) := by rw [← hW1]; exact cell_at_new _ _ _ _ _ _ (by simp) rfl
  have d5 : W1.cell? ⟨w.heap.size + 1, 2, none⟩ = some (.int .i64 m) := by rw [← hW1]; exact cell_at_new _ _ _ _ _ _ (by simp) rfl
  rw [hW1]
  clear hW1
  go_region_held3 (fun W' => W'.cell? ⟨w.heap.size, 0, none⟩ = some (.int .i64 p) ∧ W'.cell? ⟨w.heap.size, 1, none⟩ = some (.int .i64 f) ∧ W'.cell? ⟨w.heap.size, 2, none⟩ = some (.int .i64 l) ∧ W'.cell? ⟨w.heap.size + 1, 0, none⟩ = some (.int .i64 q) ∧ W'.cell? ⟨w.heap.size + 1, 1, none⟩ = some (.int .i64 g) ∧ W'.cell? ⟨w.heap.size + 1, 2, none⟩ = some (.int .i64 m) ∧ Ext W1 W')
    ((refine ⟨Ext.cell (w := W1) ?_ d0, Ext.cell (w := W1) ?_ d1, Ext.cell (w := W1) ?_ d2, Ext.cell (w := W1) ?_ d3, Ext.cell (w := W1) ?_ d4, Ext.cell (w := W1) ?_ d5, ?_⟩; all_goals exact (by repeat (first | exact Ext.refl _ | assumption | refine Ext.alloc ?_ _ | refine Ext.drew ?_ | refine Ext.drewN _ ?_ | refine Ext.trans ?_ (by assumption)))))
    ((first | (go_at_call 40; refine (CheckTurn_any _ _ _ _).mono ?_; rintro e w' ⟨rfl, hx⟩) | (go_at_call 27; refine (cmpOr2_any _ _ _ _ _ _ (by exact cell_at_new _ _ _ _ _ _ rfl rfl) (by exact cell_at_new _ _ _ _ _ _ rfl rfl)).mono ?_; rintro e w' ⟨rfl, rfl⟩)))
  all_goals (go_wp2; go_ret; exact ⟨ret_int (pairE_or ..), (by repeat (first | exact Ext.refl _ | assumption | refine Ext.alloc ?_ _ | refine Ext.drew ?_ | refine Ext.drewN _ ?_ | refine Ext.trans ?_ (by assumption)))⟩)

/-- the greatest common divisor -/
def gcdI (a b : Int) : Int := (Nat.gcd a.toNat b.toNat : Nat)
theorem gcdI_nat (a b : Nat) : gcdI a b = (Nat.gcd a b : Nat) := by simp [gcdI]
theorem gcd_step (x y : Nat) : Nat.gcd y (x % y) = Nat.gcd x y := by
  rw [Nat.gcd_comm x y, Nat.gcd_rec y x, Nat.gcd_comm]


set_option maxHeartbeats 1000000 in
theorem divisorQ_any (a b : Int) (w : World) (ha : 0 ≤ a) (hb : 0 ≤ b) (ha2 : a ≤ 1000000000000) (hb2 : b ≤ 1000000000000) :
    Calls Tryz.prog 50 #[.int .i64 a, .int .i64 b] w fun e w' => e = .returned (.int .i64 (gcdI a b)) ∧ ∃ m, w' = w.drewN m := by
  obtain ⟨x, rfl⟩ := Int.eq_ofNat_of_zero_le ha
  obtain ⟨y, rfl⟩ := Int.eq_ofNat_of_zero_le hb
  rw [gcdI_nat]
  obtain ⟨g, hg⟩ : ∃ g, Nat.gcd x y = g := ⟨_, rfl⟩
  rw [hg]
  have HG := Lib.hid hg
  clear hg
  go_enter Tryz.func50, Tryz.ntmps50
  go_wp2
  go_loopw [0, 1] (fun u v wr => ∃ x y : Nat, u = .int .i64 x ∧ v = .int .i64 y ∧ Hid (Nat.gcd x y = g) ∧ x ≤ 1000000000000 ∧ y ≤ 1000000000000 ∧ ∃ m, wr = w.drewN m) (fun _ v _ => (intOf v).toNat)
  case atStart => exact ⟨x, y, rfl, rfl, HG, by omega, by omega, 0, rfl⟩
  case round =>
    obtain ⟨x, y, rfl, rfl, HG, hx, hy, m, rfl⟩ := hrel
    by_cases h0 : y = 0
    · subst h0
      go_wp2
      go_ret
      exact ⟨ret_int (by have := HG.out; simp at this; omega), m, rfl⟩
    · have hy1 : (1 : Int) ≤ y := by omega
      have hyz : ((y : Int) == 0) = false := by rw [beq_eq_false_iff_ne]; omega
      have hyz2 : ((y : Int) != 0) = true := by rw [bne_iff_ne]; omega
      have hb1 := Int.emod_nonneg (x : Int) (show (y : Int) ≠ 0 by omega)
      have hb2 := Int.emod_lt_of_pos (x : Int) (show (0 : Int) < y by omega)
      go_wp2
      all_goals (try go_quiet (fail))
      all_goals (try go_wp2)
      all_goals
        go_roundw
        case rel => exact ⟨y, x % y, by first | rfl | simp, by first | rfl | simp, (by have h := HG.out; exact Lib.hid (by rw [← h]; exact gcd_step x y)), hy, by have := Nat.mod_lt x (show 0 < y by omega); omega, _, World.drewN_drewN _ _ _⟩
        case measure => simp [intOf]; have := Nat.mod_lt x (show 0 < y by omega); omega

theorem divisor_any (a b : Int) (w : World) (ha : 0 ≤ a) (hb : 0 ≤ b) (ha2 : a ≤ 1000000000000) (hb2 : b ≤ 1000000000000) :
    Calls Tryz.prog 50 #[.int .i64 a, .int .i64 b] w fun e w' => e = .returned (.int .i64 (gcdI a b)) ∧ Ext w w' :=
  (divisorQ_any a b w ha hb ha2 hb2).mono fun _ _ ⟨h1, m, h2⟩ => ⟨h1, h2 ▸ Ext.drewN m (Ext.refl w)⟩


end Go.Proofs.YtejcmdoalhnpeaaGreatDoor
