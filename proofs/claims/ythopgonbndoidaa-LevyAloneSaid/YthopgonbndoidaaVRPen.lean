/- pence of the specification. -/
import Derived.Test.YthopgonbndoidaaVRUs
namespace Go.Proofs.Ythopgonbndoidaa
open Go.RowKit Go.Shelf

set_option maxRecDepth 100000 in
set_option maxHeartbeats 4000000 in
theorem refPence_any (a b v : Value) (T : Tr) (l : List Int) (w : World) (hT : TrAt w a b T) (hl : IntsAt w v l) (hn : l.length ≤ 100000) :
    Calls Try.prog 98 #[.agg #[a, b], v] w fun e w' => e = .returned (.int .i64 (penE T l)) ∧ Ext w w' := by
  obtain ⟨ab, cb, rfl, hlb⟩ := hT.p.len
  obtain ⟨av, cv, rfl, hlv⟩ := hl.len
  have hE : penE T l = if chkE T = 0 then (if l.length = T.ps.length then (if 0 ≤ badF 0 l then 1 else 0) else 1) else chkE T := rfl
  obtain ⟨E, hEE⟩ : ∃ E, penE T l = E := ⟨_, rfl⟩
  obtain ⟨C, hCC⟩ : ∃ E, chkE T = E := ⟨_, rfl⟩
  rw [hEE, hCC] at hE
  rw [hEE]
  have HC := Lib.hid hCC
  have HE := Lib.hid hE
  clear hEE hCC hE
  go_enter Try.func98, Try.ntmps98
  go_wp2_with fail
  refine (refCheck_any _ _ T _ (hT.ext (by repeat (first | exact Ext.refl _ | assumption | refine Ext.alloc ?_ _ | refine Ext.drew ?_ | refine Ext.drewN _ ?_ | refine Ext.trans ?_ (by assumption))))).mono ?_
  rw [HC.out]
  rintro e w1 ⟨rfl, hx1⟩
  obtain ⟨q0, hx, hk0⟩ := alloc1 hx1
  have d0 : w1.cell? ⟨w.heap.size, 0, none⟩ = some a := q0.cell 0
  have d1 : w1.cell? ⟨w.heap.size, 1, none⟩ = some (.slice ab T.ps.length cb) := q0.cell 1
  clear hx1 q0
  by_cases h0 : C = 0
  · have hb : (C != 0) = false := by simpa using h0
    have he := HE.out
    rw [if_pos h0] at he
    have HE2 := Lib.hid he
    clear he h0
    by_cases hlen : l.length = T.ps.length
    · have he := HE2.out
      rw [if_pos hlen] at he
      have HE3 := Lib.hid he
      have hb2 : ((l.length : Int) == (T.ps.length : Int)) = true := by simp [hlen]
      have hli : (l.length : Int) = (T.ps.length : Int) := by omega
      have HLI := Lib.hid hli
      clear he hlen hb2
      go_wp2_with fail
      clear hli
      go_loopw [6] (fun i wr => ∃ k : Nat, k ≤ l.length ∧ i = .int .i64 k ∧ Hid (badF 0 l = badF k (l.drop k)) ∧ Ext w wr) (fun i _ => l.length - (intOf i).toNat)
      case atStart => exact ⟨0, Nat.zero_le _, rfl, Lib.hid rfl, hx⟩
      case round =>
        clear hx d0 d1
        obtain ⟨k, hk, rfl, HK, hx⟩ := hrel
        by_cases hlt : k < l.length
        · obtain ⟨b, o, rfl, c0⟩ := (hl.ext hx).get k hlt
          have hhit := badF_hit hlt
          have hmiss := badF_miss hlt
          rw [← HK.out] at hhit hmiss
          obtain ⟨x, hxx⟩ : ∃ x, l[k] = x := ⟨_, rfl⟩
          rw [hxx] at c0 hhit hmiss
          obtain ⟨B, hB⟩ : ∃ B, inB x 0 1073741824 = B := ⟨_, rfl⟩
          rw [hB] at hhit hmiss
          have HB := Lib.hid hB
          clear hxx hB
          cases B
          · have he := HE3.out
            rw [if_pos (by rw [hhit rfl]; omega)] at he
            have HX := Lib.hid he
            clear he hhit hmiss
            go_wp2_with (go_at_call 77; refine (refWithin_any _ _ _ _).mono ?_; rw [HB.out]; rintro e w2 ⟨rfl, rfl⟩)
            go_ret
            exact ⟨ret_int HX.out.symm, hx⟩
          · have HM := Lib.hid (hmiss rfl)
            clear hhit hmiss
            go_wp2_with (go_at_call 77; refine (refWithin_any _ _ _ _).mono ?_; rw [HB.out]; rintro e w2 ⟨rfl, rfl⟩)
            go_roundw
            case rel => exact ⟨k + 1, by omega, by go_num, HM, hx⟩
            case measure => simp [intOf]; omega
        · obtain rfl : k = l.length := by omega
          have he := HE3.out
          have hk2 := HK.out
          rw [badF_end] at hk2
          rw [if_neg (by omega)] at he
          have HX := Lib.hid he
          clear he hk2
          go_wp2
          go_ret
          exact ⟨ret_int HX.out.symm, hx⟩
    · have he := HE2.out
      rw [if_neg hlen] at he
      have HE3 := Lib.hid he
      have hne : ¬ ((l.length : Int) = (T.ps.length : Int)) := by omega
      clear he hlen
      go_wp2_with fail
      go_ret
      exact ⟨ret_int HE3.out.symm, hx⟩
  · have hb : (C != 0) = true := by simpa using h0
    have he := HE.out
    rw [if_neg h0] at he
    have HE2 := Lib.hid he
    clear he h0
    go_wp2_with fail
    go_ret
    exact ⟨ret_int HE2.out.symm, hx⟩
end Go.Proofs.Ythopgonbndoidaa
