/- The specification's reader: can, word, number. -/
import Derived.Test.YtejmmfjabmmihaaDoorNum
import Derived.Deep.DeepCutAuto
namespace Go.Proofs.YtejmmfjabmmihaaDoor
open Go.RowKit Go.Shelf

/-- a reader of the specification in memory -/
def RrAt (R : Nat) (s : ByteArray) (r : Rd) (W : World) : Prop := Cls R 113 #[.string s, .int .i64 r.at_, .bool r.bad] W
theorem RrAt.drewN {R : Nat} {s : ByteArray} {r : Rd} {W : World} (h : RrAt R s r W) (n : Nat) : RrAt R s r (W.drewN n) := h
theorem RrAt.fail {R : Nat} {s : ByteArray} {r : Rd} {W : World} (h : RrAt R s r W) : RrAt R s ⟨r.at_, true⟩ (W.setCell ⟨R, 2, none⟩ (.bool true)) := Cls.set h 2 (.bool true)
theorem RrAt.step {R : Nat} {s : ByteArray} {r : Rd} {W : World} (h : RrAt R s r W) (hb : r.bad = false) : RrAt R s ⟨r.at_ + 1, false⟩ (W.setCell ⟨R, 1, none⟩ (.int .i64 ((r.at_ : Int) + 1))) := by
  have := Cls.set h 1 (.int .i64 ((r.at_ : Int) + 1))
  rw [hb] at this
  exact this
/-- what the specification reads as a number: 0 if it does not fit -/
def numQ (x : List UInt8) (lo hi : Int) (r : Rd) : Int := if (numR x lo hi r).2.bad then 0 else (numR x lo hi r).1

set_option maxHeartbeats 1000000 in
theorem can_any (n lo hi : Int) (w : World) (h0 : 0 ≤ n) (h1 : n ≤ 99999999) (h2 : 0 ≤ lo) (h3 : hi ≤ 9999999) (h4 : lo ≤ 9999999) :
    Calls Tryd.prog 124 #[.int .i64 n, .int .i64 lo, .int .i64 hi] w fun e w' => e = .returned (.bool (begB n lo hi)) ∧ ∃ m, w' = w.drewN m := by
  cases hz : (n == 0)
  · have hn : n ≠ 0 := by simpa using hz
    go_enter Tryd.func124, Tryd.ntmps124
    go_wp2_with fail
    go_loopw [7, 8] (fun f t wr => ∃ (k : Nat) (a b p : Int), f = .int .i64 a ∧ t = .int .i64 b ∧ Hid (begF lo hi k a b = begB n lo hi) ∧ 1 ≤ a ∧ a ≤ b ∧ b ≤ 2 * a - 1 ∧ a ≤ 99999999999 ∧ 1 ≤ p ∧ p ≤ a ∧ Hid (p * 10 ^ k = 1000000000) ∧ ∃ m, wr = w.drewN m) (fun f _ _ => (hi + 1 - intOf f).toNat)
    case atStart => exact ⟨9, n, n, 1, rfl, rfl, Lib.hid (by unfold begB; rw [if_neg hn]), by omega, by omega, by omega, by omega, by omega, by omega, Lib.hid (by decide), 0, rfl⟩
    case round =>
      obtain ⟨k, a, b, p, rfl, rfl, HB, ha1, ha2, ha3, ha4, hp1, hp2, HP, m, rfl⟩ := hrel
      by_cases hle : a ≤ hi
      · have hk : 1 ≤ k := by
          cases k with
          | zero => have := HP.out; simp at this; omega
          | succ k => omega
        obtain ⟨k', rfl⟩ : ∃ k', k = k' + 1 := ⟨k - 1, by omega⟩
        by_cases hlb : lo ≤ b
        · have hb := HB.out
          rw [begF_hit hle hlb] at hb
          have HB2 := Lib.hid hb
          clear hb
          go_wp2
          go_ret
          exact ⟨ret_bool HB2.out, m, rfl⟩
        · have hb := HB.out
          rw [begF_go hle hlb] at hb
          have HB2 := Lib.hid hb
          have HP2 : Hid (p * 10 * 10 ^ k' = 1000000000) := Lib.hid (by have := HP.out; rw [Int.pow_succ] at this; rw [Int.mul_assoc, Int.mul_comm 10]; exact this)
          clear hb
          go_wp2
          go_roundw
          case rel => exact ⟨k', 10 * a, 10 * b + 9, p * 10, rfl, rfl, HB2, by omega, by omega, by omega, by omega, by omega, by omega, HP2, by first | exact ⟨_, rfl⟩ | exact ⟨_, World.drewN_drewN _ _ _⟩⟩
          case measure => simp [intOf]; omega
      · have hb := HB.out
        rw [begF_end (by omega)] at hb
        have HB2 := Lib.hid hb
        clear hb
        go_wp2
        go_ret
        exact ⟨ret_bool HB2.out, m, rfl⟩
  · have hn : n = 0 := by simpa using hz
    go_enter Tryd.func124, Tryd.ntmps124
    go_wp2
    go_ret
    exact ⟨ret_bool (by unfold begB; rw [if_pos hn]; rw [Bool.eq_iff_iff]; simp; omega), 0, rfl⟩

set_option maxHeartbeats 1000000 in
theorem refWord_any (R : Nat) (s q : ByteArray) (r : Rd) (w : World) (hR : RrAt R s r w) (hs : s.size ≤ 1000000) (hq : q.size ≤ 100) (ha : r.at_ ≤ s.size) :
    Calls Tryd.prog 81 #[.pointer (some ⟨R, 0, none⟩), .string q] w fun e w' => e = .returned (.tuple #[]) ∧ RrAt R s (wordR (bytesOf s) (bytesOf q) r) w' ∧ w.grownBy w' (some R) := by
  go_enter Tryd.func81, Tryd.ntmps81
  go_wp2_with fail
  go_loopw [4] (fun i wr => ∃ (k : Nat) (r' : Rd), k ≤ q.size ∧ i = .int .i64 k ∧ r'.at_ ≤ s.size ∧ Hid (wordR (bytesOf s) ((bytesOf q).drop k) r' = wordR (bytesOf s) (bytesOf q) r) ∧ Hid (RrAt R s r' wr) ∧ w.grownBy wr (some R)) (fun i _ => q.size - (intOf i).toNat)
  case atStart => exact ⟨0, r, by omega, rfl, ha, Lib.hid (by simp), Lib.hid hR, World.grownBy.refl _ _⟩
  case round =>
    obtain ⟨k, r', hk, rfl, ha', HW, HR, hg⟩ := hrel
    have hc0 : wr.cell? ⟨R, 0, none⟩ = some (.string s) := HR.out.cell 0
    have hc1 : wr.cell? ⟨R, 1, none⟩ = some (.int .i64 r'.at_) := HR.out.cell 1
    have hc2 : wr.cell? ⟨R, 2, none⟩ = some (.bool r'.bad) := HR.out.cell 2
    by_cases hlt : k < q.size
    · cases hb : r'.bad
      · rw [hb] at hc2
        by_cases hat : r'.at_ < s.size
        · have hne : decide ((s.size : Int) ≤ (r'.at_ : Int)) = false := decide_eq_false (by omega)
          have hdr := bytesOf_drop hlt
          cases hq1 : ((s[r'.at_].toNat : Int) != (q[k].toNat : Int))
          · have he : s[r'.at_] = q[k] := by
              rw [bne_eq_false_iff_eq] at hq1
              exact UInt8.toNat_inj.1 (by omega)
            have hst := wordR_step (w := (bytesOf q).drop (k + 1)) hb ((bytesOf_get hat).trans (by rw [he]))
            rw [← hdr, HW.out] at hst
            have HST := Lib.hid hst.symm
            have HRS := Lib.hid (HR.out.step hb)
            have f1 : wr.frozen? ⟨R, 1, none⟩ = false := HR.out.frozen 1
            clear hst he hdr
            go_wp2_with fail
            go_quiet (fail)
            go_wp2
            go_roundw
            case rel => exact ⟨k + 1, ⟨r'.at_ + 1, false⟩, by omega, by go_num, by simp; omega, HST, HRS, grown_set (grown_drewN hg _) _ _⟩
            case measure => simp [intOf]; omega
          · have he : (bytesOf s)[r'.at_]? ≠ some q[k] := by
              rw [bytesOf_get hat]
              intro h
              rw [Option.some.inj h] at hq1
              simp at hq1
            have hst := wordR_stop (w := (bytesOf q).drop (k + 1)) hb he
            rw [← hdr, HW.out] at hst
            have HST := Lib.hid hst
            have HRS := Lib.hid (HR.out.fail)
            have f1 : wr.frozen? ⟨R, 2, none⟩ = false := HR.out.frozen 2
            clear hst he hdr
            go_wp2_with fail
            go_quiet (fail)
            go_wp2
            refine bodyPost_ret (results_none rfl _ _ _) rfl ?_
            exact ⟨rfl, by rw [HST.out]; exact HRS.out, grown_set (grown_drewN hg _) _ _⟩
        · have hne : decide ((s.size : Int) ≤ (r'.at_ : Int)) = true := decide_eq_true (by omega)
          have hat3 : (s.size : Int) ≤ (r'.at_ : Int) := by omega
          have hdr := bytesOf_drop hlt
          have he : (bytesOf s)[r'.at_]? ≠ some q[k] := by
            rw [List.getElem?_eq_none (by rw [bytesOf_len]; omega)]
            intro h; cases h
          have hst := wordR_stop (w := (bytesOf q).drop (k + 1)) hb he
          rw [← hdr, HW.out] at hst
          have HST := Lib.hid hst
          have HRS := Lib.hid (HR.out.fail)
          have f1 : wr.frozen? ⟨R, 2, none⟩ = false := HR.out.frozen 2
          clear hst he hdr
          go_wp2_with fail
          go_quiet (fail)
          go_wp2
          refine bodyPost_ret (results_none rfl _ _ _) rfl ?_
          exact ⟨rfl, by rw [HST.out]; exact HRS.out, grown_set (grown_drewN hg _) _ _⟩
      · rw [hb] at hc2
        have hwb := wordR_bad (bytesOf s) ((bytesOf q).drop k) r' hb
        rw [HW.out] at hwb
        have HWB := Lib.hid hwb
        clear hwb
        go_wp2_with fail
        go_end0
        exact ⟨rfl, by rw [HWB.out]; exact HR.out, hg⟩
    · obtain rfl : k = q.size := by omega
      have hwb := HW.out
      rw [List.drop_of_length_le (by rw [bytesOf_len]; omega)] at hwb
      have HWB := Lib.hid hwb
      clear hwb
      go_wp2_with fail
      go_end0
      exact ⟨rfl, by rw [← HWB.out]; exact HR.out, hg⟩

theorem numFin_bad {lo hi n : Int} {d : Nat} {r : Rd} (h : d = 0 ∨ inB n lo hi = false) : numFin lo hi n d r = (n, ⟨r.at_, true⟩) := by unfold numFin; rw [if_pos h]
theorem numFin_ok {lo hi n : Int} {d : Nat} {r : Rd} (h : ¬ (d = 0 ∨ inB n lo hi = false)) : numFin lo hi n d r = (n, r) := by unfold numFin; rw [if_neg h]
/-- whether a digit follows -/
def digAt (x : List UInt8) (a : Nat) : Bool := match x[a]? with | some c => isDig c | none => false
theorem digAt_t {x : List UInt8} {a : Nat} {c : UInt8} (h : x[a]? = some c) : digAt x a = isDig c := by unfold digAt; rw [h]
theorem digAt_n {x : List UInt8} {a : Nat} (h : x[a]? = none) : digAt x a = false := by unfold digAt; rw [h]
theorem numL_stop {x : List UInt8} {lo hi : Int} {k : Nat} {n : Int} {d : Nat} {r : Rd} (h : digAt x r.at_ = false) : numL x lo hi k n d r = numFin lo hi n d r := by
  cases hx : x[r.at_]? with
  | none => exact numL_none hx
  | some c => exact numL_other hx (by rw [← digAt_t hx]; exact h)
theorem digAt_lt {s : ByteArray} {a : Nat} (h : digAt (bytesOf s) a = true) : ∃ hlt : a < s.size, (48 : Int) ≤ (s[a].toNat : Int) ∧ (s[a].toNat : Int) ≤ 57 := by
  by_cases hlt : a < s.size
  · refine ⟨hlt, ?_⟩
    rw [digAt_t (bytesOf_get hlt)] at h
    have := dig_range h
    omega
  · rw [digAt_n (List.getElem?_eq_none (by rw [bytesOf_len]; omega))] at h
    cases h
theorem beg_max {M lo hi : Int} (h : begB M lo hi = true) : M ≤ max 0 hi := by
  by_cases h0 : 0 ≤ hi
  · have := begB_le h h0; omega
  · unfold begB at h
    split at h
    · omega
    · have := begF_le _ _ _ _ _ h; omega
set_option maxRecDepth 100000 in
set_option maxHeartbeats 4000000 in
theorem refNumber_any (R : Nat) (s : ByteArray) (r : Rd) (lo hi : Int) (w : World) (hR : RrAt R s r w) (hs : s.size ≤ 1000000) (ha : r.at_ ≤ s.size) (h2 : 0 ≤ lo) (h3 : hi ≤ 9999999) (h4 : lo ≤ 9999999) (h5 : -1 ≤ hi) :
    Calls Tryd.prog 82 #[.pointer (some ⟨R, 0, none⟩), .int .i64 lo, .int .i64 hi] w fun e w' => e = .returned (.int .i64 (numQ (bytesOf s) lo hi r)) ∧ RrAt R s (numR (bytesOf s) lo hi r).2 w' ∧ w.grownBy w' (some R) := by
  obtain ⟨Q, hQ⟩ : ∃ Q, numQ (bytesOf s) lo hi r = Q := ⟨_, rfl⟩
  rw [hQ]
  unfold numQ at hQ
  cases hb : r.bad
  · have hN0 : numL (bytesOf s) lo hi (s.size + 1 - r.at_) 0 0 r = numR (bytesOf s) lo hi r := by unfold numR; rw [if_neg (by simp [hb]), bytesOf_len]
    obtain ⟨V, hV⟩ : ∃ V, numR (bytesOf s) lo hi r = V := ⟨_, rfl⟩
    rw [hV] at hN0 hQ ⊢
    have HQ := Lib.hid hQ.symm
    have HN0 := Lib.hid hN0
    have HBR := Lib.hid hb
    have hc1 : w.cell? ⟨R, 1, none⟩ = some (.int .i64 r.at_) := hR.cell 1
    clear hN0 hV hb hQ
    go_enter Tryd.func82, Tryd.ntmps82
    go_wp2_with fail
    go_loopg [7, 9, 10] (s.size + 1 - r.at_) (fun g i _ _ wr => ∃ (k : Nat) (n : Int) (d : Nat) (r' : Rd), i = .int .i64 n ∧ 0 ≤ n ∧ n ≤ max 0 hi ∧ (r'.at_ ≤ r.at_ + d ∧ r.at_ + d ≤ r'.at_) ∧ r'.at_ ≤ s.size ∧ (k + r'.at_ ≤ s.size + 1 ∧ s.size + 1 ≤ k + r'.at_) ∧ Hid (g = s.size + 1 - r'.at_) ∧ Hid (r'.bad = false) ∧ Hid (numL (bytesOf s) lo hi k n d r' = V) ∧ Hid (RrAt R s r' wr) ∧ w.grownBy wr (some R))
    case atStart => exact ⟨_, 0, 0, r, rfl, by omega, by omega, by omega, ha, by omega, Lib.hid rfl, HBR, HN0, Lib.hid hR, World.grownBy.refl _ _⟩
    case round =>
      obtain ⟨k, n, d, r', rfl, hn0, hn1, hd, hat, hk, HGG, HB, HV, HR, hg⟩ := hrel
      have hc0 : wr.cell? ⟨R, 0, none⟩ = some (.string s) := HR.out.cell 0
      have hc1 : wr.cell? ⟨R, 1, none⟩ = some (.int .i64 r'.at_) := HR.out.cell 1
      have hc2 : wr.cell? ⟨R, 2, none⟩ = some (.bool false) := by have := Cls.cell HR.out 2; rw [this, HB.out]; rfl
      obtain ⟨dg, hdg⟩ : ∃ dg, digAt (bytesOf s) r'.at_ = dg := ⟨_, rfl⟩
      have HDG := Lib.hid hdg
      clear hdg
      go_upto_region 3 with fail
      go_cut [55] (fun u wx => u = .bool dg ∧ ∃ m, wx = wr.drewN m)
      case first =>
        by_cases hlt : r'.at_ < s.size
        · have hl1 : decide ((r'.at_ : Int) < (s.size : Int)) = true := by simp; omega
          have hdt := digAt_t (bytesOf_get hlt)
          rw [HDG.out] at hdt
          have hcl : (s[r'.at_].toNat : Int) ≤ 255 := by have := s[r'.at_].toNat_lt; omega
          by_cases h48 : (48 : Int) ≤ (s[r'.at_].toNat : Int)
          · by_cases h57 : (s[r'.at_].toNat : Int) ≤ 57
            · have hdd : dg = true := by rw [hdt]; exact isDig_t h48 h57
              subst hdd
              clear hdt
              go_quiet (fail)
              go_wp2
              go_meet
              case rel => exact ⟨rfl, _, rfl⟩
            · have hdd : dg = false := by rw [hdt]; exact isDig_f (by omega)
              subst hdd
              clear hdt
              go_quiet (fail)
              go_wp2
              go_meet
              case rel => exact ⟨rfl, _, rfl⟩
          · have hdd : dg = false := by rw [hdt]; exact isDig_f (by omega)
            have hd48 : decide ((48 : Int) ≤ (s[r'.at_].toNat : Int)) = false := decide_eq_false h48
            subst hdd
            clear hdt
            go_quiet (fail)
            go_wp2
            go_meet
            case rel => exact ⟨rfl, _, rfl⟩
        · have hl1 : decide ((r'.at_ : Int) < (s.size : Int)) = false := by simp; omega
          have hdd : dg = false := by rw [← HDG.out]; exact digAt_n (List.getElem?_eq_none (by rw [bytesOf_len]; omega))
          subst hdd
          go_quiet (fail)
          go_wp2
          go_meet
          case rel => exact ⟨rfl, _, rfl⟩
      case rest =>
        obtain ⟨rfl, m0, rfl⟩ := hcut
        have f1 : wr.frozen? ⟨R, 1, none⟩ = false := HR.out.frozen 1
        have f2 : wr.frozen? ⟨R, 2, none⟩ = false := HR.out.frozen 2
        cases dg
        · have HE := Lib.hid ((numL_stop (lo := lo) (hi := hi) (k := k) (n := n) (d := d) HDG.out).symm.trans HV.out)
          by_cases hd0 : d = 0
          · have HF : Hid (V = (n, ⟨r'.at_, true⟩)) := Lib.hid (by rw [← HE.out]; exact numFin_bad (.inl hd0))
            have HRS := Lib.hid (HR.out.fail)
            have hbe : ((r'.at_ : Int) == (r.at_ : Int)) = true := by rw [beq_iff_eq]; omega
            clear hd0
            go_wp2_with fail
            go_ret
            exact ⟨by rw [HQ.out, HF.out]; rfl, by rw [HF.out]; exact HRS.out, grown_set (grown_drewN hg _) _ _⟩
          · have hbe : ((r'.at_ : Int) == (r.at_ : Int)) = false := by rw [beq_eq_false_iff_ne]; omega
            cases hI : inB n lo hi
            · have HF : Hid (V = (n, ⟨r'.at_, true⟩)) := Lib.hid (by rw [← HE.out]; exact numFin_bad (.inr hI))
              have HRS := Lib.hid (HR.out.fail)
              clear hd0
              go_wp2_with fail
              refine (in_any _ _ _ _).mono ?_
              rw [hI]
              rintro e w' ⟨rfl, rfl⟩
              go_wp2_with fail
              go_ret
              exact ⟨by rw [HQ.out, HF.out]; rfl, by rw [HF.out]; exact HRS.out, grown_set (grown_drewN hg _) _ _⟩
            · have HF : Hid (V = (n, r')) := Lib.hid (by rw [← HE.out]; exact numFin_ok (by simp [hI, hd0]))
              clear hd0
              go_wp2_with fail
              refine (in_any _ _ _ _).mono ?_
              rw [hI]
              rintro e w' ⟨rfl, rfl⟩
              go_wp2_with fail
              go_ret
              exact ⟨by rw [HQ.out, HF.out]; simp [HB.out], by rw [HF.out]; exact HR.out, grown_drewN hg _⟩
        · obtain ⟨hlt, h48, h57⟩ := digAt_lt HDG.out
          have hget := bytesOf_get hlt
          obtain ⟨c, hcc⟩ : ∃ c, s[r'.at_] = c := ⟨_, rfl⟩
          rw [hcc] at hget
          have HC := Lib.hid hcc
          have HG := Lib.hid hget
          have hcl : (s[r'.at_].toNat : Int) ≤ 255 := by have := s[r'.at_].toNat_lt; omega
          clear hget hcc
          have hw1 : IntKind.u8.wrap ((s[r'.at_].toNat : Int) - 48) = (s[r'.at_].toNat : Int) - 48 := by rw [IntKind.wrap_u8]; omega
          have hw2 : IntKind.i64.wrap (10 * n) = 10 * n := IntWalk.i64_in _ (by omega)
          have hw3 : IntKind.i64.wrap ((s[r'.at_].toNat : Int) - 48) = (s[r'.at_].toNat : Int) - 48 := IntWalk.i64_in _ (by omega)
          have hw4 : IntKind.i64.wrap (10 * n + ((s[r'.at_].toNat : Int) - 48)) = 10 * n + ((s[r'.at_].toNat : Int) - 48) := IntWalk.i64_in _ (by omega)
          go_wp2_with fail
          go_quiet (fail)
          clear hw1 hw2 hw3 hw4
          have hdg2 : isDig c = true := by rw [← HC.out]; exact isDig_t h48 h57
          obtain ⟨M, hM⟩ : ∃ M, 10 * n + ((s[r'.at_].toNat : Int) - 48) = M := ⟨_, rfl⟩
          rw [hM]
          have hM0 : 0 ≤ M := by omega
          have hM1 : M ≤ 99999999 := by omega
          have HMM : Hid (10 * n + ((c.toNat : Int) - 48) = M) := Lib.hid (by rw [← hM, HC.out])
          have HD2 := Lib.hid hdg2
          obtain ⟨k', hk'⟩ : ∃ k', k = k' + 1 := ⟨k - 1, by omega⟩
          have HK := Lib.hid hk'
          clear hM hdg2 hk'
          go_wp2_with fail
          refine (can_any _ _ _ _ hM0 hM1 h2 h3 h4).mono ?_
          cases hB : begB M lo hi
          · rintro e w' ⟨rfl, m1, rfl⟩
            have hf := numL_fail (lo := lo) (hi := hi) (k := k') (n := n) (d := d) HG.out HD2.out (.inr (by rw [HMM.out]; exact hB))
            rw [← HK.out, HV.out] at hf
            have HF := Lib.hid hf
            have HRS := Lib.hid (HR.out.fail)
            clear hf
            go_wp2_with fail
            go_ret
            exact ⟨by rw [HQ.out, HF.out]; rfl, by rw [HF.out]; exact HRS.out, grown_set (grown_drewN hg _) _ _⟩
          · rintro e w' ⟨rfl, m1, rfl⟩
            by_cases hd0 : 0 < d
            · have hgt : decide ((r.at_ : Int) < (r'.at_ : Int)) = true := decide_eq_true (by omega)
              by_cases hn : n = 0
              · have hf := numL_fail (lo := lo) (hi := hi) (k := k') (n := n) (d := d) HG.out HD2.out (.inl ⟨hd0, hn⟩)
                rw [← HK.out, HV.out] at hf
                have HF := Lib.hid hf
                have HRS := Lib.hid (HR.out.fail)
                have hnb : (n == 0) = true := by rw [beq_iff_eq]; exact hn
                clear hf hn
                go_wp2_with fail
                go_ret
                exact ⟨by rw [HQ.out, HF.out]; rfl, by rw [HF.out]; exact HRS.out, grown_set (grown_drewN hg _) _ _⟩
              · have hf := numL_step (lo := lo) (hi := hi) (k := k') (n := n) (d := d) HG.out HD2.out (by rw [HMM.out, hB]; simp; exact fun _ => hn)
                rw [← HK.out, HV.out, HMM.out] at hf
                have HF := Lib.hid hf.symm
                have HRS := Lib.hid (HR.out.step HB.out)
                have hMhi : M ≤ max 0 hi := beg_max hB
                have hnb : (n == 0) = false := by rw [beq_eq_false_iff_ne]; exact hn
                have hkk := HK.out
                clear hf hn
                go_wp2_with fail
                go_roundg (s.size - r'.at_)
                case measure => have := HGG.out; omega
                case rel => exact ⟨k', M, d + 1, ⟨r'.at_ + 1, false⟩, rfl, hM0, hMhi, by simp; omega, by simp; omega, by simp; omega, Lib.hid (by simp), Lib.hid rfl, HF, HRS, grown_set (grown_drewN hg _) _ _⟩
            · have hgt : decide ((r.at_ : Int) < (r'.at_ : Int)) = false := decide_eq_false (by omega)
              have hgt2 : ¬ (r.at_ < r'.at_) := by omega
              have hf := numL_step (lo := lo) (hi := hi) (k := k') (n := n) (d := d) HG.out HD2.out (by rw [HMM.out, hB]; simp; exact fun h => absurd h hd0)
              rw [← HK.out, HV.out, HMM.out] at hf
              have HF := Lib.hid hf.symm
              have HRS := Lib.hid (HR.out.step HB.out)
              have hMhi : M ≤ max 0 hi := beg_max hB
              have hkk := HK.out
              clear hf
              go_wp2_with fail
              go_roundg (s.size - r'.at_)
              case measure => have := HGG.out; omega
              case rel => exact ⟨k', M, d + 1, ⟨r'.at_ + 1, false⟩, rfl, hM0, hMhi, by simp; omega, by simp; omega, by simp; omega, Lib.hid (by simp), Lib.hid rfl, HF, HRS, grown_set (grown_drewN hg _) _ _⟩
  · have hN : numR (bytesOf s) lo hi r = (0, r) := numR_bad _ _ _ _ hb
    rw [hN] at hQ ⊢
    have HQ : Hid (Q = 0) := Lib.hid (by rw [← hQ]; simp)
    clear hQ
    have hc1 : w.cell? ⟨R, 1, none⟩ = some (.int .i64 r.at_) := hR.cell 1
    have hc2 : w.cell? ⟨R, 2, none⟩ = some (.bool true) := by have := Cls.cell hR 2; rw [this, hb]; rfl
    have f2 : w.frozen? ⟨R, 2, none⟩ = false := hR.frozen 2
    have hfl := hR.fail
    have her : (⟨r.at_, true⟩ : Rd) = r := by rw [← hb]
    rw [her] at hfl
    have HRS := Lib.hid hfl
    clear hfl her
    clear hN hb
    go_enter Tryd.func82, Tryd.ntmps82
    go_wp2_with fail
    go_loopw [7, 9, 10] (fun i _ _ wr => i = .int .i64 0 ∧ ∃ m, wr = w.drewN m) (fun _ _ _ _ => 0)
    case atStart => exact ⟨rfl, 0, rfl⟩
    case round =>
      obtain ⟨rfl, m, rfl⟩ := hrel
      go_wp2_with fail
      go_quiet (fail)
      go_wp2
      go_ret
      exact ⟨by rw [HQ.out]; rfl, HRS.out, grown_set (grown_drewN (World.grownBy.refl _ _) _) _ _⟩
end Go.Proofs.YtejmmfjabmmihaaDoor
