/- Contracts of the specification's Check, and of what asks for a set and a minute, or a set and a span. -/
import Derived.Test.YtejcmdoalhnpeaaGreatDoorCheck
namespace Go.Proofs.YtejcmdoalhnpeaaGreatDoor
open Go.RowKit

theorem badT_of_ok {l : List Tn} (h : okT l l.length) : badT l = false := by
  unfold badT
  simp only [List.any_eq_false]
  intro x hx
  obtain ⟨i, hi, rfl⟩ := List.getElem_of_mem hx
  simp [h i hi hi]
theorem badS_of_ok {l : List Sp} (h : okS l l.length) : badS l = false := by
  unfold badS
  simp only [List.any_eq_false]
  intro x hx
  obtain ⟨i, hi, rfl⟩ := List.getElem_of_mem hx
  simp [h i hi hi]
theorem badT_hit {l : List Tn} {k : Nat} (hk : k < l.length) (hq : tnB l[k].p l[k].f l[k].l = false) : badT l = true :=
  List.any_eq_true.2 ⟨_, List.getElem_mem hk, by simp [hq]⟩
theorem badS_hit {l : List Sp} {k : Nat} (hk : k < l.length) (hq : spB l[k].lo l[k].hi = false) : badS l = true :=
  List.any_eq_true.2 ⟨_, List.getElem_mem hk, by simp [hq]⟩

set_option maxHeartbeats 1000000 in
theorem RefCheck_any (a b : Value) (S : Mn) (w : World) (hS : MinsAt w a b S) :
    Calls Tryz.prog 31 #[.agg #[a, b]] w fun e w' => e = .returned (.int .i64 (chkE S)) ∧ Ext w w' := by
  obtain ⟨aa, ca, rfl⟩ := hS.t.len
  obtain ⟨ab, cb, rfl⟩ := hS.s.len
  by_cases h24 : S.ts.length ≤ 24
  · by_cases h40 : S.ss.length ≤ 40
    · go_enter Tryz.func31, Tryz.ntmps31
      go_wp2_with fail
      obtain ⟨W0, hW0⟩ : ∃ W0, w.alloc (.cells #[.slice aa S.ts.length ca, .slice ab S.ss.length cb] 25) = W0 := ⟨_, rfl⟩
      have hx0 : Ext w W0 := by rw [← hW0]; exact (by repeat (first | exact Ext.refl _ | assumption | refine Ext.alloc ?_ _ | refine Ext.drew ?_ | refine Ext.drewN _ ?_ | refine Ext.trans ?_ (by assumption)))
      have b0 : W0.cell? ⟨w.heap.size, 0, none⟩ = some (.slice aa S.ts.length ca) := by rw [← hW0]; simp
      have b1 : W0.cell? ⟨w.heap.size, 1, none⟩ = some (.slice ab S.ss.length cb) := by rw [← hW0]; simp
      rw [hW0]
      clear hW0
      go_loopw [3] (fun i wr => ∃ k : Nat, k ≤ S.ts.length ∧ i = .int .i64 k ∧ okT S.ts k ∧ Ext W0 wr) (fun i _ => S.ts.length - (intOf i).toNat)
      case atStart => exact ⟨0, by omega, rfl, fun i hi h => by omega, Ext.refl _⟩
      case round =>
        obtain ⟨k, hk, rfl, hok, hx⟩ := hrel
        have d0 := hx.cell b0
        have d1 := hx.cell b1
        by_cases hlt : k < S.ts.length
        · obtain ⟨b, o, rfl, c0, c1, c2⟩ := ((hS.t.ext hx0).ext hx).get k hlt
          cases hq : tnB S.ts[k].p S.ts[k].f S.ts[k].l
          · go_wp2_with (go_at_call 69; refine (Valid_any _ _ _ _).mono ?_; rintro e w' ⟨rfl, hx2⟩)
            go_ret
            exact ⟨ret_int (chkE_bad h24 h40 (by simp [badT_hit hlt hq])), (by repeat (first | exact Ext.refl _ | assumption | refine Ext.alloc ?_ _ | refine Ext.drew ?_ | refine Ext.drewN _ ?_ | refine Ext.trans ?_ (by assumption)))⟩
          · have hs := okT_succ hok hlt hq
            go_wp2_with (go_at_call 69; refine (Valid_any _ _ _ _).mono ?_; rintro e w' ⟨rfl, hx2⟩)
            go_roundw
            case rel => exact ⟨k + 1, by omega, by go_num, hs, (by repeat (first | exact Ext.refl _ | assumption | refine Ext.alloc ?_ _ | refine Ext.drew ?_ | refine Ext.drewN _ ?_ | refine Ext.trans ?_ (by assumption)))⟩
            case measure => simp [intOf]; omega
        · obtain rfl : k = S.ts.length := by omega
          have hbt := badT_of_ok hok
          go_wp2_with fail
          obtain ⟨W1, rfl⟩ : ∃ W1 : World, W1 = wr := ⟨_, rfl⟩
          go_loopw [5] (fun i wr => ∃ k : Nat, k ≤ S.ss.length ∧ i = .int .i64 k ∧ okS S.ss k ∧ Ext W1 wr) (fun i _ => S.ss.length - (intOf i).toNat)
          case atStart => exact ⟨0, by omega, rfl, fun i hi h => by omega, Ext.refl _⟩
          case round =>
            obtain ⟨k, hk, rfl, hok, hy⟩ := hrel
            have f0 := hy.cell d0
            have f1 := hy.cell d1
            by_cases hlt : k < S.ss.length
            · obtain ⟨b, o, rfl, c0, c1⟩ := (((hS.s.ext hx0).ext hx).ext hy).get k hlt
              cases hq : spB S.ss[k].lo S.ss[k].hi
              · go_wp2_with (go_at_call 70; refine (Span_any _ _ _).mono ?_; rintro e w' ⟨rfl, hx2⟩)
                go_ret
                exact ⟨ret_int (chkE_bad h24 h40 (by simp [badS_hit hlt hq])), (by repeat (first | exact Ext.refl _ | assumption | refine Ext.alloc ?_ _ | refine Ext.drew ?_ | refine Ext.drewN _ ?_ | refine Ext.trans ?_ (by assumption)))⟩
              · have hs := okS_succ hok hlt hq
                go_wp2_with (go_at_call 70; refine (Span_any _ _ _).mono ?_; rintro e w' ⟨rfl, hx2⟩)
                go_roundw
                case rel => exact ⟨k + 1, by omega, by go_num, hs, (by repeat (first | exact Ext.refl _ | assumption | refine Ext.alloc ?_ _ | refine Ext.drew ?_ | refine Ext.drewN _ ?_ | refine Ext.trans ?_ (by assumption)))⟩
                case measure => simp [intOf]; omega
            · obtain rfl : k = S.ss.length := by omega
              have hbs := badS_of_ok hok
              go_wp2_with fail
              go_ret
              exact ⟨ret_int (chkE_ok h24 h40 (by simp [hbt, hbs])), (by repeat (first | exact Ext.refl _ | assumption | refine Ext.alloc ?_ _ | refine Ext.drew ?_ | refine Ext.drewN _ ?_ | refine Ext.trans ?_ (by assumption)))⟩
    · go_enter Tryz.func31, Tryz.ntmps31
      go_wp2_with fail
      go_ret
      exact ⟨ret_int (chkE_big (by omega)), (by repeat (first | exact Ext.refl _ | assumption | refine Ext.alloc ?_ _ | refine Ext.drew ?_ | refine Ext.drewN _ ?_ | refine Ext.trans ?_ (by assumption)))⟩
  · go_enter Tryz.func31, Tryz.ntmps31
    go_wp2_with fail
    go_ret
    exact ⟨ret_int (chkE_big (by omega)), (by repeat (first | exact Ext.refl _ | assumption | refine Ext.alloc ?_ _ | refine Ext.drew ?_ | refine Ext.drewN _ ?_ | refine Ext.trans ?_ (by assumption)))⟩

/-- the error of a set and a minute; of a set and a span -/
def askE (S : Mn) (n : Int) : Int := if chkE S ≠ 0 then chkE S else if inB n 0 1048576 then 0 else 1
def spnE (S : Mn) (lo hi : Int) : Int := if chkE S ≠ 0 then chkE S else if spB lo hi then 0 else 1

set_option maxHeartbeats 400000 in
theorem asked_any (a b : Value) (S : Mn) (n : Int) (w : World) (hS : MinsAt w a b S) :
    Calls Tryz.prog 45 #[.agg #[a, b], .int .i64 n] w fun e w' => e = .returned (.int .i64 (askE S n)) ∧ Ext w w' := by
  cases hE : (chkE S != 0)
  · cases hq : inB n 0 1048576
    all_goals
      go_enter Tryz.func45, Tryz.ntmps45
      go_wp2_with fail
      refine (Check_any a b S _ (hS.ext (by repeat (first | exact Ext.refl _ | assumption | refine Ext.alloc ?_ _ | refine Ext.drew ?_ | refine Ext.drewN _ ?_ | refine Ext.trans ?_ (by assumption))))).mono ?_
      rintro e w1 ⟨rfl, hx1⟩
      go_wp2_with fail
      refine (minute_any _ _).mono ?_
      rintro e w2 ⟨rfl, rfl⟩
      go_wp2_with fail
      go_ret
      exact ⟨ret_int (by simp at hE; simp [askE, hE, hq]), (by repeat (first | exact Ext.refl _ | assumption | refine Ext.alloc ?_ _ | refine Ext.drew ?_ | refine Ext.drewN _ ?_ | refine Ext.trans ?_ (by assumption)))⟩
  · go_enter Tryz.func45, Tryz.ntmps45
    go_wp2_with fail
    refine (Check_any a b S _ (hS.ext (by repeat (first | exact Ext.refl _ | assumption | refine Ext.alloc ?_ _ | refine Ext.drew ?_ | refine Ext.drewN _ ?_ | refine Ext.trans ?_ (by assumption))))).mono ?_
    rintro e w1 ⟨rfl, hx1⟩
    go_wp2_with fail
    go_ret
    exact ⟨ret_int (by simp at hE; simp [askE, hE]), (by repeat (first | exact Ext.refl _ | assumption | refine Ext.alloc ?_ _ | refine Ext.drew ?_ | refine Ext.drewN _ ?_ | refine Ext.trans ?_ (by assumption)))⟩
set_option maxHeartbeats 400000 in
theorem spanned_any (a b : Value) (S : Mn) (lo hi : Int) (w : World) (hS : MinsAt w a b S) :
    Calls Tryz.prog 52 #[.agg #[a, b], .agg #[.int .i64 lo, .int .i64 hi]] w fun e w' => e = .returned (.int .i64 (spnE S lo hi)) ∧ Ext w w' := by
  cases hE : (chkE S != 0)
  · cases hq : spB lo hi
    all_goals
      go_enter Tryz.func52, Tryz.ntmps52
      go_wp2_with fail
      refine (Check_any a b S _ (hS.ext (by repeat (first | exact Ext.refl _ | assumption | refine Ext.alloc ?_ _ | refine Ext.drew ?_ | refine Ext.drewN _ ?_ | refine Ext.trans ?_ (by assumption))))).mono ?_
      rintro e w1 ⟨rfl, hx1⟩
      have hx1' := ecell hx1
      go_wp2_with fail
      refine (span_any _ _ _).mono ?_
      rintro e w2 ⟨rfl, hx2⟩
      go_wp2_with fail
      go_ret
      exact ⟨ret_int (by simp at hE; simp [spnE, hE, hq]), (by repeat (first | exact Ext.refl _ | assumption | refine Ext.alloc ?_ _ | refine Ext.drew ?_ | refine Ext.drewN _ ?_ | refine Ext.trans ?_ (by assumption)))⟩
  · go_enter Tryz.func52, Tryz.ntmps52
    go_wp2_with fail
    refine (Check_any a b S _ (hS.ext (by repeat (first | exact Ext.refl _ | assumption | refine Ext.alloc ?_ _ | refine Ext.drew ?_ | refine Ext.drewN _ ?_ | refine Ext.trans ?_ (by assumption))))).mono ?_
    rintro e w1 ⟨rfl, hx1⟩
    go_wp2_with fail
    go_ret
    exact ⟨ret_int (by simp at hE; simp [spnE, hE]), (by repeat (first | exact Ext.refl _ | assumption | refine Ext.alloc ?_ _ | refine Ext.drew ?_ | refine Ext.drewN _ ?_ | refine Ext.trans ?_ (by assumption)))⟩

end Go.Proofs.YtejcmdoalhnpeaaGreatDoor
