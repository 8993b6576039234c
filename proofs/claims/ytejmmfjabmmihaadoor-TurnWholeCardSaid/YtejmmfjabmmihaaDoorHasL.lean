/- The laws' own inTurn and has. -/
import Derived.Test.YtejmmfjabmmihaaDoorAsk
namespace Go.Proofs.YtejmmfjabmmihaaDoor
open Go.RowKit Go.Shelf

set_option maxHeartbeats 1000000 in
theorem lawInTurn_any (p f l n : Int) (w : World) (hv : tnB p f l = true) (h1 : -2000000000000000 ≤ n) (h2 : n ≤ 2000000000000000) :
    Calls Tryd.prog 26 #[.agg #[.int .i64 p, .int .i64 f, .int .i64 l], .int .i64 n] w fun e w' => e = .returned (.bool (tnIn p f l n)) ∧ Ext w w' := by
  have ha := tnB_t hv
  have hpz : (p == 0) = false := by rw [beq_eq_false_iff_ne]; omega
  have t1 := Int.lt_tmod_of_pos (n - f) (show 0 < p by omega)
  have t2 := Int.tmod_lt_of_pos (n - f) (show 0 < p by omega)
  have hm := tmod_tmod_pos (n - f) p (by omega)
  have HM := Lib.hid hm
  clear hm
  have hneg : (n - f).tmod p < 0 → (n - f) % p = (n - f).tmod p + p := fun h => by rw [← HM.out, Int.tmod_eq_emod_of_nonneg (by omega), Int.emod_eq_of_lt (by omega) (by omega)]
  have hpos : ¬ (n - f).tmod p < 0 → (n - f) % p = (n - f).tmod p := fun h => by
    rw [← HM.out, Int.tmod_eq_emod_of_nonneg (by omega)]
    rw [show (n - f).tmod p + p = (n - f).tmod p + p * 1 by omega, Int.add_mul_emod_self_left, Int.emod_eq_of_lt (by omega) (by omega)]
  have HN := Lib.hid hneg
  have HP := Lib.hid hpos
  clear hneg hpos
  by_cases hs : (n - f).tmod p < 0
  · have he := HN.out hs
    have HE := Lib.hid he
    clear he
    go_enter Tryd.func26, Tryd.ntmps26
    go_wp2_with fail
    go_ret
    exact ⟨ret_bool (by rw [tnIn, HE.out]), (by repeat (first | exact Ext.refl _ | assumption | refine Ext.alloc ?_ _ | refine Ext.drew ?_ | refine Ext.drewN _ ?_ | refine Ext.trans ?_ (by assumption)))⟩
  · have he := HP.out hs
    have HE := Lib.hid he
    clear he
    go_enter Tryd.func26, Tryd.ntmps26
    go_wp2_with fail
    go_ret
    exact ⟨ret_bool (by rw [tnIn, HE.out]), (by repeat (first | exact Ext.refl _ | assumption | refine Ext.alloc ?_ _ | refine Ext.drew ?_ | refine Ext.drewN _ ?_ | refine Ext.trans ?_ (by assumption)))⟩

/-- what has returns -/
def hasB (S : Mn) (n : Int) : Bool := decide (askE S n = 0) && mem S n
set_option maxHeartbeats 1000000 in
theorem has_any (a b : Value) (S : Mn) (n : Int) (w : World) (hS : MinsAt w a b S) :
    Calls Tryd.prog 56 #[.agg #[a, b], .int .i64 n] w fun e w' => e = .returned (.bool (hasB S n)) ∧ Ext w w' := by
  obtain ⟨aa, ca, rfl⟩ := hS.t.len
  obtain ⟨ab, cb, rfl⟩ := hS.s.len
  go_enter Tryd.func56, Tryd.ntmps56
  go_wp2_with fail
  refine (Holds_any _ _ S n _ (hS.ext (by repeat (first | exact Ext.refl _ | assumption | refine Ext.alloc ?_ _ | refine Ext.drew ?_ | refine Ext.drewN _ ?_ | refine Ext.trans ?_ (by assumption))))).mono ?_
  rintro e w1 ⟨rfl, hx1⟩
  cases hE : (askE S n == 0)
  · have h0 : askE S n ≠ 0 := by simpa using hE
    go_wp2_with fail
    go_ret
    exact ⟨ret_bool (by simp [hasB, h0]), (by repeat (first | exact Ext.refl _ | assumption | refine Ext.alloc ?_ _ | refine Ext.drew ?_ | refine Ext.drewN _ ?_ | refine Ext.trans ?_ (by assumption)))⟩
  · have h0 : askE S n = 0 := by simpa using hE
    go_wp2_with fail
    go_ret
    exact ⟨ret_bool (by simp [hasB, holdR, h0]), (by repeat (first | exact Ext.refl _ | assumption | refine Ext.alloc ?_ _ | refine Ext.drew ?_ | refine Ext.drewN _ ?_ | refine Ext.trans ?_ (by assumption)))⟩
end Go.Proofs.YtejmmfjabmmihaaDoor
