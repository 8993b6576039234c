/- The reader's methods: word, number. -/
import Derived.Test.YtejcmdoalhnpeaaGreatDoorRead
import Derived.Test.YtejcmdoalhnpeaaGreatDoorBox
namespace Go.Proofs.YtejcmdoalhnpeaaGreatDoor
open Go.RowKit Go.Shelf

def badI (r : Rd) : Int := if r.bad then r.at_ else -1
theorem badI_f {r : Rd} (h : r.bad = false) : badI r = -1 := by simp [badI, h]
theorem badI_t {r : Rd} (h : r.bad = true) : badI r = r.at_ := by simp [badI, h]
/-- a reader in memory -/
def RdAt (R : Nat) (s : ByteArray) (r : Rd) (W : World) : Prop := Cls R 105 #[.string s, .int .i64 r.at_, .int .i64 (badI r)] W
def bytesOf (s : ByteArray) : List UInt8 := s.data.toList
theorem bytesOf_len (s : ByteArray) : (bytesOf s).length = s.size := by show s.data.toList.length = s.data.size; exact Array.length_toList
theorem grown_trans {a b c : World} {row : Option Nat} (h : a.grownBy b row) (k : b.grownBy c row) : a.grownBy c row :=
  ⟨k.os.trans h.os, k.tape.trans h.tape, k.output.trans h.output, Nat.le_trans h.size k.size, fun i hi hne => (k.block i (Nat.lt_of_lt_of_le hi h.size) hne).trans (h.block i hi hne)⟩
theorem grown_set {a w : World} {R : Nat} (h : a.grownBy w (some R)) (i : Nat) (u : Value) : a.grownBy (w.setCell ⟨R, i, none⟩ u) (some R) := grown_trans h ⟨rfl, rfl, rfl, by simp [World.setCell], fun j _ hne => Below.heap_setCell w ⟨R, i, none⟩ u j (fun e => hne (by rw [e]))⟩

theorem grown_drewN {a w : World} {row : Option Nat} (h : a.grownBy w row) (n : Nat) : a.grownBy (w.drewN n) row := ⟨h.os, h.tape, h.output, h.size, h.block⟩
theorem bytesOf_get {s : ByteArray} {i : Nat} (h : i < s.size) : (bytesOf s)[i]? = some s[i] := by
  have hl : i < s.data.toList.length := by rw [Array.length_toList]; exact h
  unfold bytesOf
  rw [List.getElem?_eq_getElem hl]
  rfl
theorem bytesOf_drop {s : ByteArray} {i : Nat} (h : i < s.size) : (bytesOf s).drop i = s[i] :: (bytesOf s).drop (i + 1) := by
  have hl : i < (bytesOf s).length := by rw [bytesOf_len]; exact h
  rw [List.drop_eq_getElem_cons hl]
  have := bytesOf_get h
  rw [List.getElem?_eq_getElem hl] at this
  rw [Option.some.inj this]
theorem RdAt.drewN {R : Nat} {s : ByteArray} {r : Rd} {W : World} (h : RdAt R s r W) (n : Nat) : RdAt R s r (W.drewN n) := h
theorem RdAt.fail {R : Nat} {s : ByteArray} {r : Rd} {W : World} (h : RdAt R s r W) : RdAt R s ⟨r.at_, true⟩ (W.setCell ⟨R, 2, none⟩ (.int .i64 r.at_)) := Cls.set h 2 (.int .i64 r.at_)
theorem RdAt.step {R : Nat} {s : ByteArray} {r : Rd} {W : World} (h : RdAt R s r W) (hb : r.bad = false) : RdAt R s ⟨r.at_ + 1, false⟩ (W.setCell ⟨R, 1, none⟩ (.int .i64 ((r.at_ : Int) + 1))) := by
  have := Cls.set h 1 (.int .i64 ((r.at_ : Int) + 1))
  rw [badI_f hb] at this
  exact this
theorem wordR_step {x w : List UInt8} {c : UInt8} {r : Rd} (hb : r.bad = false) (h : x[r.at_]? = some c) : wordR x (c :: w) r = wordR x w ⟨r.at_ + 1, false⟩ := by simp [wordR, hb, h]
theorem wordR_stop {x w : List UInt8} {c : UInt8} {r : Rd} (hb : r.bad = false) (h : x[r.at_]? ≠ some c) : wordR x (c :: w) r = ⟨r.at_, true⟩ := by simp [wordR, hb, h]

set_option maxHeartbeats 1000000 in
theorem word_any (R : Nat) (s q : ByteArray) (r : Rd) (w : World) (hR : RdAt R s r w) (hs : s.size ≤ 1000000) (hq : q.size ≤ 100) (ha : r.at_ ≤ s.size) :
    Calls Tryz.prog 86 #[.pointer (some ⟨R, 0, none⟩), .string q] w fun e w' => e = .returned (.tuple #[]) ∧ RdAt R s (wordR (bytesOf s) (bytesOf q) r) w' ∧ w.grownBy w' (some R) := by
  go_enter Tryz.func86, Tryz.ntmps86
  go_wp2_with fail
  go_loopw [4] (fun i wr => ∃ (k : Nat) (r' : Rd), k ≤ q.size ∧ i = .int .i64 k ∧ r'.at_ ≤ s.size ∧ Hid (wordR (bytesOf s) ((bytesOf q).drop k) r' = wordR (bytesOf s) (bytesOf q) r) ∧ Hid (RdAt R s r' wr) ∧ w.grownBy wr (some R)) (fun i _ => q.size - (intOf i).toNat)
  case atStart => exact ⟨0, r, by omega, rfl, ha, Lib.hid (by simp), Lib.hid hR, World.grownBy.refl _ _⟩
  case round =>
    obtain ⟨k, r', hk, rfl, ha', HW, HR, hg⟩ := hrel
    have hc0 : wr.cell? ⟨R, 0, none⟩ = some (.string s) := HR.out.cell 0
    have hc1 : wr.cell? ⟨R, 1, none⟩ = some (.int .i64 r'.at_) := HR.out.cell 1
    have hc2 : wr.cell? ⟨R, 2, none⟩ = some (.int .i64 (badI r')) := HR.out.cell 2
    by_cases hlt : k < q.size
    · cases hb : r'.bad
      · have hbi := badI_f hb
        rw [hbi] at hc2
        have HBI := Lib.hid hbi
        clear hbi
        by_cases hat : r'.at_ < s.size
        · have hne : ((r'.at_ : Int) == (s.size : Int)) = false := by rw [beq_eq_false_iff_ne]; omega
          have hdr := bytesOf_drop hlt
          cases hq1 : ((s[r'.at_].toNat : Int) != (q[k].toNat : Int))
          · have he : s[r'.at_] = q[k] := by
              rw [bne_eq_false_iff_eq] at hq1
              exact UInt8.toNat_inj.1 (by omega)
            have hst := wordR_step (w := (bytesOf q).drop (k + 1)) hb ((bytesOf_get hat).trans (by rw [he]))
            rw [← hdr, HW.out] at hst
            have HST := Lib.hid hst.symm
            have HRS := Lib.hid (HR.out.step hb)
            have f1 : wr.frozen? ⟨R, 1, none⟩ = false := HR.out.frozen 1
            clear hst he hdr
            go_wp2_with fail
            go_quiet (fail)
            go_wp2
            go_roundw
            case rel => exact ⟨k + 1, ⟨r'.at_ + 1, false⟩, by omega, by go_num, by simp; omega, HST, HRS, grown_set (grown_drewN hg _) _ _⟩
            case measure => simp [intOf]; omega
          · have he : (bytesOf s)[r'.at_]? ≠ some q[k] := by
              rw [bytesOf_get hat]
              intro h
              rw [Option.some.inj h] at hq1
              simp at hq1
            have hst := wordR_stop (w := (bytesOf q).drop (k + 1)) hb he
            rw [← hdr, HW.out] at hst
            have HST := Lib.hid hst
            have HRS := Lib.hid (HR.out.fail)
            have f1 : wr.frozen? ⟨R, 2, none⟩ = false := HR.out.frozen 2
            clear hst he hdr
            go_wp2_with fail
            go_quiet (fail)
            go_wp2
            refine bodyPost_ret (results_none rfl _ _ _) rfl ?_
            exact ⟨rfl, by rw [HST.out]; exact HRS.out, grown_set (grown_drewN hg _) _ _⟩
        · have hae : r'.at_ = s.size := by omega
          have hne : ((r'.at_ : Int) == (s.size : Int)) = true := by rw [beq_iff_eq]; omega
          have hdr := bytesOf_drop hlt
          have he : (bytesOf s)[r'.at_]? ≠ some q[k] := by
            rw [List.getElem?_eq_none (by rw [bytesOf_len]; omega)]
            intro h; cases h
          have hst := wordR_stop (w := (bytesOf q).drop (k + 1)) hb he
          rw [← hdr, HW.out] at hst
          have HST := Lib.hid hst
          have HRS := Lib.hid (HR.out.fail)
          have f1 : wr.frozen? ⟨R, 2, none⟩ = false := HR.out.frozen 2
          clear hst he hdr hae
          go_wp2_with fail
          go_quiet (fail)
          go_wp2
          refine bodyPost_ret (results_none rfl _ _ _) rfl ?_
          exact ⟨rfl, by rw [HST.out]; exact HRS.out, grown_set (grown_drewN hg _) _ _⟩
      · have hbi := badI_t hb
        have hlb : ((r'.at_ : Int) < 0) = False := by simp
        rw [hbi] at hc2
        have hwb := wordR_bad (bytesOf s) ((bytesOf q).drop k) r' hb
        rw [HW.out] at hwb
        have HWB := Lib.hid hwb
        clear hbi hwb
        go_wp2_with fail
        go_end0
        exact ⟨rfl, by rw [HWB.out]; exact HR.out, hg⟩
    · obtain rfl : k = q.size := by omega
      have hwb := HW.out
      rw [List.drop_of_length_le (by rw [bytesOf_len]; omega)] at hwb
      have HWB := Lib.hid hwb
      clear hwb
      go_wp2_with fail
      go_end0
      exact ⟨rfl, by rw [← HWB.out]; exact HR.out, hg⟩

end Go.Proofs.YtejcmdoalhnpeaaGreatDoor
