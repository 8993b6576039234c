/- Contracts of the small functions of package turn and of its specification: within, mod, minute, span, CheckTurn, the methods of a turn and of a span. No condition but the stated ranges. -/
import Derived.Test.YtejcmdoalhnpeaaGreatDoorProg
import Derived.Test.YtejcmdoalhnpeaaGreatDoorBase
namespace Go.Proofs.YtejcmdoalhnpeaaGreatDoor
open Go.RowKit

/-- a number is from lo to hi -/
def inB (n lo hi : Int) : Bool := decide (lo ≤ n) && decide (n ≤ hi)
theorem inB_iff (n lo hi : Int) : inB n lo hi = true ↔ lo ≤ n ∧ n ≤ hi := by simp [inB]
theorem inB_t {n lo hi : Int} (h : inB n lo hi = true) : lo ≤ n ∧ n ≤ hi := by simpa [inB] using h
theorem inB_f {n lo hi : Int} (h : inB n lo hi = false) : n < lo ∨ hi < n := by
  simp [inB] at h; omega

set_option maxHeartbeats 400000 in
theorem within_any (n lo hi : Int) (w : World) :
    Calls Tryz.prog 34 #[.int .i64 n, .int .i64 lo, .int .i64 hi] w fun e w' => e = .returned (.bool (inB n lo hi)) ∧ w = w' := by
  go_enter Tryz.func34, Tryz.ntmps34
  go_wp2
  all_goals (go_ret; exact ⟨by simp [inB]; omega, rfl⟩)

set_option maxHeartbeats 400000 in
theorem in_any (n lo hi : Int) (w : World) :
    Calls Tryz.prog 36 #[.int .i64 n, .int .i64 lo, .int .i64 hi] w fun e w' => e = .returned (.bool (inB n lo hi)) ∧ w = w' := by
  go_enter Tryz.func36, Tryz.ntmps36
  go_wp2
  all_goals (go_ret; exact ⟨by simp [inB]; omega, rfl⟩)

theorem tmod_tmod_pos (n m : Int) (hm : 0 < m) : (n.tmod m + m).tmod m = n % m := by
  rw [Int.tmod_eq_emod_of_nonneg (by have := Int.lt_tmod_of_pos n hm; omega)]
  rw [Int.add_emod_right]
  exact Int.emod_emod_of_dvd n (Int.dvd_refl m) |> fun h => by
    rcases Int.le_total 0 n with h0 | h0
    · rw [Int.tmod_eq_emod_of_nonneg h0]; exact h
    · have : n.tmod m = -((-n) % m) := by
        rw [show n = -(-n) from by omega, Int.neg_tmod, Int.tmod_eq_emod_of_nonneg (by omega)]; simp
      rw [this]
      have h3 := Int.emod_add_mul_ediv (-n) m
      have h4 : n = -((-n) % m) + m * (-((-n) / m)) := by rw [Int.mul_neg]; omega
      conv => rhs; rw [h4]
      rw [Int.add_mul_emod_self_left]

set_option maxHeartbeats 400000 in
theorem mod_any (n m : Int) (w : World) (hm : 1 ≤ m) (hm2 : m ≤ 1000000) :
    Calls Tryz.prog 35 #[.int .i64 n, .int .i64 m] w fun e w' => e = .returned (.int .i64 (n % m)) ∧ w = w' := by
  have hz : (m == 0) = false := by rw [beq_eq_false_iff_ne]; omega
  have h1 := Int.lt_tmod_of_pos n (show 0 < m by omega)
  have h2 := Int.tmod_lt_of_pos n (show 0 < m by omega)
  go_enter Tryz.func35, Tryz.ntmps35
  go_wp2
  go_ret
  exact ⟨ret_int (by rw [← tmod_tmod_pos n m (by omega), Int.tmod_eq_emod_of_nonneg (a := n.tmod m + m) (by omega)]), rfl⟩

set_option maxHeartbeats 400000 in
theorem refmod_any (n m : Int) (w : World) (hm : 1 ≤ m) (hm2 : m ≤ 1000000) :
    Calls Tryz.prog 37 #[.int .i64 n, .int .i64 m] w fun e w' => e = .returned (.int .i64 (n % m)) ∧ w = w' := by
  have hz : (m == 0) = false := by rw [beq_eq_false_iff_ne]; omega
  have h1 := Int.lt_tmod_of_pos n (show 0 < m by omega)
  have h2 := Int.tmod_lt_of_pos n (show 0 < m by omega)
  go_enter Tryz.func37, Tryz.ntmps37
  go_wp2
  go_ret
  exact ⟨ret_int (by rw [← tmod_tmod_pos n m (by omega), Int.tmod_eq_emod_of_nonneg (a := n.tmod m + m) (by omega)]), rfl⟩

set_option maxHeartbeats 400000 in
theorem minute_any (n : Int) (w : World) :
    Calls Tryz.prog 47 #[.int .i64 n] w fun e w' => e = .returned (.bool (inB n 0 1048576)) ∧ w = w' := by
  go_enter Tryz.func47, Tryz.ntmps47
  go_wp2_with (go_at_call 34; refine (within_any _ _ _ _).mono ?_; rintro e w' ⟨rfl, rfl⟩)
  go_ret
  exact ⟨rfl, rfl⟩


/-- a span of minutes -/
def spB (lo hi : Int) : Bool := inB lo 0 1048576 && inB hi 0 1048576 && decide (lo ≤ hi)
theorem spB_t {lo hi : Int} (h : spB lo hi = true) : 0 ≤ lo ∧ lo ≤ hi ∧ hi ≤ 1048576 := by simp [spB, inB] at h; omega
theorem spB_mk {lo hi : Int} (h : 0 ≤ lo ∧ lo ≤ hi ∧ hi ≤ 1048576) : spB lo hi = true := by simp [spB, inB]; omega

set_option maxHeartbeats 400000 in
theorem span_any (lo hi : Int) (w : World) :
    Calls Tryz.prog 43 #[.agg #[.int .i64 lo, .int .i64 hi]] w fun e w' => e = .returned (.bool (spB lo hi)) ∧ Ext w w' := by
  go_enter Tryz.func43, Tryz.ntmps43
  go_wp2_with (go_at_call 47; refine (minute_any _ _).mono ?_; rintro e w' ⟨rfl, rfl⟩)
  all_goals (go_ret; exact ⟨ret_bool (by simp_all [spB]), (Ext.refl _).alloc _⟩)

set_option maxHeartbeats 400000 in
theorem Span_any (lo hi : Int) (w : World) :
    Calls Tryz.prog 70 #[.agg #[.int .i64 lo, .int .i64 hi]] w fun e w' => e = .returned (.bool (spB lo hi)) ∧ Ext w w' := by
  go_enter Tryz.func70, Tryz.ntmps70
  go_wp2
  all_goals (go_ret; exact ⟨ret_bool (by rw [Bool.eq_iff_iff]; simp [spB, inB]; omega), (Ext.refl _).alloc _⟩)

/-- a valid turn -/
def tnB (p f l : Int) : Bool := inB p 1 40320 && inB f 0 (p - 1) && inB l 1 p
theorem tnB_t {p f l : Int} (h : tnB p f l = true) : 1 ≤ p ∧ p ≤ 40320 ∧ 0 ≤ f ∧ f ≤ p - 1 ∧ 1 ≤ l ∧ l ≤ p := by simp [tnB, inB] at h; omega
/-- the error of a turn -/
def tnE (p f l : Int) : Int := if tnB p f l then 0 else 1

set_option maxHeartbeats 400000 in
theorem CheckTurn_any (p f l : Int) (w : World) :
    Calls Tryz.prog 40 #[.agg #[.int .i64 p, .int .i64 f, .int .i64 l]] w fun e w' => e = .returned (.int .i64 (tnE p f l)) ∧ Ext w w' := by
  by_cases h1 : inB p 1 40320 = true
  · have h1' := (inB_t h1).1
    have h1'' := (inB_t h1).2
    go_enter Tryz.func40, Tryz.ntmps40
    go_wp2_with (go_at_call 34; refine (within_any _ _ _ _).mono ?_; rintro e w' ⟨rfl, rfl⟩)
    all_goals (go_ret; exact ⟨ret_int (by simp_all [tnE, tnB]), (Ext.refl _).alloc _⟩)
  · go_enter Tryz.func40, Tryz.ntmps40
    go_wp2_with (go_at_call 34; refine (within_any _ _ _ _).mono ?_; rintro e w' ⟨rfl, rfl⟩)
    all_goals (go_ret; exact ⟨ret_int (by simp_all [tnE, tnB]), (Ext.refl _).alloc _⟩)

set_option maxHeartbeats 400000 in
theorem Valid_any (p f l : Int) (w : World) :
    Calls Tryz.prog 69 #[.agg #[.int .i64 p, .int .i64 f, .int .i64 l]] w fun e w' => e = .returned (.bool (tnB p f l)) ∧ Ext w w' := by
  by_cases h1 : inB p 1 40320 = true
  · have h1' := (inB_t h1).1
    have h1'' := (inB_t h1).2
    go_enter Tryz.func69, Tryz.ntmps69
    go_wp2_with (go_at_call 36; refine (in_any _ _ _ _).mono ?_; rintro e w' ⟨rfl, rfl⟩)
    all_goals (go_ret; exact ⟨ret_bool (by simp_all [tnB]), (Ext.refl _).alloc _⟩)
  · go_enter Tryz.func69, Tryz.ntmps69
    go_wp2_with (go_at_call 36; refine (in_any _ _ _ _).mono ?_; rintro e w' ⟨rfl, rfl⟩)
    all_goals (go_ret; exact ⟨ret_bool (by simp_all [tnB]), (Ext.refl _).alloc _⟩)


set_option maxHeartbeats 400000 in
theorem Check1_any (p f l : Int) (w : World) :
    Calls Tryz.prog 39 #[.agg #[.int .i64 p, .int .i64 f, .int .i64 l]] w fun e w' => e = .returned (.bool (!tnB p f l)) ∧ Ext w w' := by
  go_enter Tryz.func39, Tryz.ntmps39
  go_wp2_with (go_at_call 40; refine (CheckTurn_any _ _ _ _).mono ?_; rintro e w' ⟨rfl, hx⟩)
  all_goals (go_ret; exact ⟨ret_bool (by simp_all [tnE]; cases tnB p f l <;> simp), (by repeat (first | exact Ext.refl _ | assumption | refine Ext.alloc ?_ _ | refine Ext.drew ?_ | refine Ext.drewN _ ?_ | refine Ext.trans ?_ (by assumption)))⟩)

set_option maxHeartbeats 400000 in
theorem Check2_any (lo hi : Int) (w : World) :
    Calls Tryz.prog 42 #[.agg #[.int .i64 lo, .int .i64 hi]] w fun e w' => e = .returned (.bool (!spB lo hi)) ∧ Ext w w' := by
  go_enter Tryz.func42, Tryz.ntmps42
  go_wp2_with (go_at_call 43; refine (span_any _ _ _).mono ?_; rintro e w' ⟨rfl, hx⟩)
  all_goals (go_ret; exact ⟨rfl, (by repeat (first | exact Ext.refl _ | assumption | refine Ext.alloc ?_ _ | refine Ext.drew ?_ | refine Ext.drewN _ ?_ | refine Ext.trans ?_ (by assumption)))⟩)

set_option maxHeartbeats 400000 in
theorem less_any (a b : Int) (w : World) :
    Calls Tryz.prog 76 #[.int .i64 a, .int .i64 b] w fun e w' => e = .returned (.bool (decide (a < b))) ∧ w = w' := by
  go_enter Tryz.func76, Tryz.ntmps76
  go_wp2
  go_ret
  exact ⟨rfl, rfl⟩
set_option maxHeartbeats 400000 in
theorem more_any (a b : Int) (w : World) :
    Calls Tryz.prog 94 #[.int .i64 a, .int .i64 b] w fun e w' => e = .returned (.bool (decide (b < a))) ∧ w = w' := by
  go_enter Tryz.func94, Tryz.ntmps94
  go_wp2
  go_ret
  exact ⟨rfl, rfl⟩

/-- the least integer of a turn from one on; the last of the run in which one lies; the greatest up to one -/
def tnNext (p f l n : Int) : Int := if l ≤ (n - f) % p then n + p - (n - f) % p else n
def tnEnd (p f l n : Int) : Int := if l = p then 1125899906842624 else n + l - 1 - (n - f) % p
def tnIn (p f l n : Int) : Bool := decide ((n - f) % p < l)
def tnLast (p f l n : Int) : Int := if l ≤ (n - f) % p then n - ((n - f) % p - l + 1) else n

set_option maxHeartbeats 400000 in
theorem againNext_any (p f l n : Int) (w : World) (hp : tnB p f l = true) (h1 : -2000000000000000 ≤ n) (h2 : n ≤ 2000000000000000) :
    Calls Tryz.prog 78 #[.agg #[.int .i64 p, .int .i64 f, .int .i64 l], .int .i64 n] w fun e w' => e = .returned (.int .i64 (tnNext p f l n)) ∧ Ext w w' := by
  obtain ⟨a1, a2, a3, a4, a5, a6⟩ := tnB_t hp
  have b1 := Int.emod_nonneg (n - f) (show p ≠ 0 by omega)
  have b2 := Int.emod_lt_of_pos (n - f) (show 0 < p by omega)
  clear hp
  go_enter Tryz.func78, Tryz.ntmps78
  go_wp2_with (go_at_call 35; refine (mod_any _ _ _ (by omega) (by omega)).mono ?_; rintro e w' ⟨rfl, rfl⟩)
  all_goals (go_ret; exact ⟨ret_int (by unfold tnNext; first | rw [if_pos (by assumption)] | rw [if_neg (by omega)]), (by repeat (first | exact Ext.refl _ | assumption | refine Ext.alloc ?_ _ | refine Ext.drew ?_ | refine Ext.drewN _ ?_ | refine Ext.trans ?_ (by assumption)))⟩)

set_option maxHeartbeats 400000 in
theorem againEnd_any (p f l n : Int) (w : World) (hp : tnB p f l = true) (h1 : -2000000000000000 ≤ n) (h2 : n ≤ 2000000000000000) :
    Calls Tryz.prog 79 #[.agg #[.int .i64 p, .int .i64 f, .int .i64 l], .int .i64 n] w fun e w' => e = .returned (.tuple #[.int .i64 (tnEnd p f l n), .bool (tnIn p f l n)]) ∧ Ext w w' := by
  obtain ⟨a1, a2, a3, a4, a5, a6⟩ := tnB_t hp
  have b1 := Int.emod_nonneg (n - f) (show p ≠ 0 by omega)
  have b2 := Int.emod_lt_of_pos (n - f) (show 0 < p by omega)
  clear hp
  go_enter Tryz.func79, Tryz.ntmps79
  go_wp2_with (go_at_call 35; refine (mod_any _ _ _ (by omega) (by omega)).mono ?_; rintro e w' ⟨rfl, rfl⟩)
  · go_ret2
    have hl : l = p := by simp_all
    exact ⟨by simp [tnEnd, tnIn, hl, show (n - f) % p < p from b2], (by repeat (first | exact Ext.refl _ | assumption | refine Ext.alloc ?_ _ | refine Ext.drew ?_ | refine Ext.drewN _ ?_ | refine Ext.trans ?_ (by assumption)))⟩
  · have hl : ¬ l = p := by simp_all
    go_quiet (fail)
    go_wp2
    go_ret2
    exact ⟨by simp [tnEnd, tnIn, hl], (by repeat (first | exact Ext.refl _ | assumption | refine Ext.alloc ?_ _ | refine Ext.drew ?_ | refine Ext.drewN _ ?_ | refine Ext.trans ?_ (by assumption)))⟩


def spEnd (_lo hi _n : Int) : Int := hi
def spNext (lo hi n : Int) : Int := if hi < n then 1125899906842624 else max n lo
def spLast (lo hi n : Int) : Int := if n < lo then -1125899906842624 else min n hi
set_option maxHeartbeats 400000 in
theorem onceEnd_any (lo hi n : Int) (w : World) :
    Calls Tryz.prog 144 #[.agg #[.int .i64 lo, .int .i64 hi], .int .i64 n] w fun e w' => e = .returned (.tuple #[.int .i64 hi, .bool (inB n lo hi)]) ∧ Ext w w' := by
  go_enter Tryz.func144, Tryz.ntmps144
  go_wp2
  go_quiet ((go_at_call 34; exact Calls.quiet_of_same ((within_any _ _ _ _).mono fun e w' ⟨h1, h2⟩ => ⟨h1, h2.symm⟩)))
  go_wp2
  go_ret2
  exact ⟨rfl, (by repeat (first | exact Ext.refl _ | assumption | refine Ext.alloc ?_ _ | refine Ext.drew ?_ | refine Ext.drewN _ ?_ | refine Ext.trans ?_ (by assumption)))⟩
set_option maxHeartbeats 400000 in
theorem onceNext_any (lo hi n : Int) (w : World) :
    Calls Tryz.prog 146 #[.agg #[.int .i64 lo, .int .i64 hi], .int .i64 n] w fun e w' => e = .returned (.int .i64 (spNext lo hi n)) ∧ Ext w w' := by
  go_enter Tryz.func146, Tryz.ntmps146
  go_wp2
  all_goals (go_ret; exact ⟨ret_int (by unfold spNext; split <;> omega), (by repeat (first | exact Ext.refl _ | assumption | refine Ext.alloc ?_ _ | refine Ext.drew ?_ | refine Ext.drewN _ ?_ | refine Ext.trans ?_ (by assumption)))⟩)

end Go.Proofs.YtejcmdoalhnpeaaGreatDoor
