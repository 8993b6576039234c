/- CheckDivide of the program; the law's table. -/
import Derived.Test.YthopgonbndoidaaVPDw
namespace Go.Proofs.Ythopgonbndoidaa
open Go.RowKit Go.Shelf Go.Lib

theorem CheckDivide_any (a b v d : Value) (T : Tr) (l : List Int) (D : List (List Int)) (w : World) (hT : TrAt w a b T) (hl : IntsAt w v l) (hD : RowsAt w d D) (hn : l.length ≤ 100000) (hn2 : D.length ≤ 100000) :
    Calls Try.prog 51 #[.agg #[a, b], v, d] w fun e w' => e = .returned (.int .i64 (dveE T l D)) ∧ Ext w w' := by
  have hE : dveE T l D = if penE T l = 0 then (if dvdB T l D = true then 0 else 8) else penE T l := rfl
  have hok : penE T l = 0 → Ok T ∧ l.length = T.ps.length ∧ ∀ n ∈ l, 0 ≤ n ∧ n ≤ 1073741824 := penE_ok
  have KP := fun W (h : Ext w W) => sums_any a b v T l W (hT.ext h) (hl.ext h) hn
  have KD := fun (h : penE T l = 0) W (hx : Ext w W) => divides_any a b v d T (hok h).1 l D W (hT.ext hx) (hl.ext hx) (hD.ext hx) (hok h).2.1 hn2
  obtain ⟨E, hEE⟩ : ∃ E, penE T l = E := ⟨_, rfl⟩
  obtain ⟨F, hFF⟩ : ∃ E, dvdB T l D = E := ⟨_, rfl⟩
  obtain ⟨X, hXX⟩ : ∃ E, dveE T l D = E := ⟨_, rfl⟩
  rw [hEE] at hE KP KD
  rw [hFF] at hE KD
  rw [hXX] at hE
  rw [hXX]
  have HE := Lib.hid hE
  have HKD := Lib.hid KD
  clear hE hok KD hEE hFF hXX
  go_enter Try.func51, Try.ntmps51
  go_wp2_with fail
  refine (KP _ (by repeat (first | exact Ext.refl _ | assumption | refine Ext.alloc ?_ _ | refine Ext.drew ?_ | refine Ext.drewN _ ?_ | refine Ext.trans ?_ (by assumption)))).mono ?_
  rintro e w1 ⟨rfl, hx1⟩
  obtain ⟨q0, hx, hk0⟩ := alloc1 hx1
  have d0 : w1.cell? ⟨w.heap.size, 0, none⟩ = some a := q0.cell 0
  have d1 : w1.cell? ⟨w.heap.size, 1, none⟩ = some b := q0.cell 1
  clear hx1 q0 KP
  by_cases h0 : E = 0
  · have hb : (E != 0) = false := by simpa using h0
    have he := HE.out
    rw [if_pos h0] at he
    have HE2 := Lib.hid he
    have KD2 := HKD.out h0
    clear he h0
    go_wp2_with fail
    refine (KD2 _ hx).mono ?_
    rintro e w2 ⟨rfl, hz⟩
    clear KD2
    cases F
    · have he := HE2.out
      rw [if_neg (by decide)] at he
      have HE3 := Lib.hid he
      clear he
      go_wp2_with fail
      go_ret
      exact ⟨ret_int HE3.out.symm, hx.trans hz⟩
    · have he := HE2.out
      rw [if_pos rfl] at he
      have HE3 := Lib.hid he
      clear he
      go_wp2_with fail
      go_ret
      exact ⟨ret_int HE3.out.symm, hx.trans hz⟩
  · have hb : (E != 0) = true := by simpa using h0
    have he := HE.out
    rw [if_neg h0] at he
    have HE2 := Lib.hid he
    clear he h0
    go_wp2_with fail
    go_ret
    exact ⟨ret_int HE2.out.symm, hx⟩

set_option maxHeartbeats 4000000 in
theorem table_any (d : Value) (D : List (List Int)) (w : World) (hD : RowsAt w d D) (hn : D.length ≤ 9223372036854775807) :
    Calls Try.prog 49 #[d] w fun e w' => ∃ B : Bool, e = .returned (.bool B) ∧ (B = true → D.length ≤ 40) ∧ Ext w w' := by
  obtain ⟨ad, cd, rfl, hld⟩ := hD.len
  go_enter Try.func49, Try.ntmps49
  go_wp2_with fail
  go_loopw [3] (fun i wr => ∃ k : Nat, k ≤ D.length ∧ i = .int .i64 k ∧ Ext w wr) (fun i _ => D.length - (intOf i).toNat)
  case atStart => exact ⟨0, Nat.zero_le _, rfl, Ext.refl _⟩
  case round =>
    obtain ⟨k, hk, rfl, hx⟩ := hrel
    by_cases hlt : k < D.length
    · obtain ⟨bd, od, u, rfl, c0, hu⟩ := (hD.ext hx).get k hlt
      have hki : (k : Int) < (D.length : Int) := by omega
      obtain ⟨au, cu, rfl, _⟩ := hu.len
      obtain ⟨m, hm⟩ : ∃ m, D[k].length = m := ⟨_, rfl⟩
      rw [hm] at c0
      clear hu hm
      by_cases h40 : m ≤ 40
      · have hb : decide ((m : Int) > 40) = false := decide_eq_false (by omega)
        go_wp2_with fail
        go_roundw
        case rel => exact ⟨k + 1, by omega, by go_num, hx⟩
        case measure => simp [intOf]; omega
      · have hb : decide ((m : Int) > 40) = true := decide_eq_true (by omega)
        go_wp2_with fail
        go_ret
        exact ⟨false, rfl, (fun h => absurd h (by decide)), hx⟩
    · obtain rfl : k = D.length := by omega
      go_wp2_with fail
      go_ret
      exact ⟨_, rfl, (fun h => by have := of_decide_eq_true h; omega), hx⟩
end Go.Proofs.Ythopgonbndoidaa
