/- The reader's methods: number. -/
import Derived.Test.YtejcmdoalhnpeaaGreatDoorWord
namespace Go.Proofs.YtejcmdoalhnpeaaGreatDoor
open Go.RowKit Go.Shelf

theorem begF_end {lo hi : Int} {k : Nat} {f t : Int} (h : hi < f) : begF lo hi k f t = false := by
  cases k with
  | zero => rfl
  | succ k => simp only [begF]; rw [if_neg (by omega)]
theorem begF_hit {lo hi : Int} {k : Nat} {f t : Int} (h : f ≤ hi) (h1 : lo ≤ t) : begF lo hi (k + 1) f t = true := by simp only [begF]; rw [if_pos h, if_pos h1]
theorem begF_go {lo hi : Int} {k : Nat} {f t : Int} (h : f ≤ hi) (h1 : ¬ lo ≤ t) : begF lo hi (k + 1) f t = begF lo hi k (10 * f) (10 * t + 9) := by simp only [begF]; rw [if_pos h, if_neg h1]
set_option maxHeartbeats 1000000 in
theorem begins_any (n lo hi : Int) (w : World) (h0 : 0 ≤ n) (h1 : n ≤ 99999999) (h2 : 0 ≤ lo) (h3 : hi ≤ 9999999) (h4 : lo ≤ 9999999) :
    Calls Tryz.prog 97 #[.int .i64 n, .int .i64 lo, .int .i64 hi] w fun e w' => e = .returned (.bool (begB n lo hi)) ∧ ∃ m, w' = w.drewN m := by
  cases hz : (n == 0)
  · have hn : n ≠ 0 := by simpa using hz
    go_enter Tryz.func97, Tryz.ntmps97
    go_wp2_with fail
    go_loopw [7, 8] (fun f t wr => ∃ (k : Nat) (a b p : Int), f = .int .i64 a ∧ t = .int .i64 b ∧ Hid (begF lo hi k a b = begB n lo hi) ∧ 1 ≤ a ∧ a ≤ b ∧ b ≤ 2 * a - 1 ∧ a ≤ 99999999999 ∧ 1 ≤ p ∧ p ≤ a ∧ Hid (p * 10 ^ k = 1000000000) ∧ ∃ m, wr = w.drewN m) (fun f _ _ => (hi + 1 - intOf f).toNat)
    case atStart => exact ⟨9, n, n, 1, rfl, rfl, Lib.hid (by unfold begB; rw [if_neg hn]), by omega, by omega, by omega, by omega, by omega, by omega, Lib.hid (by decide), 0, rfl⟩
    case round =>
      obtain ⟨k, a, b, p, rfl, rfl, HB, ha1, ha2, ha3, ha4, hp1, hp2, HP, m, rfl⟩ := hrel
      by_cases hle : a ≤ hi
      · have hk : 1 ≤ k := by
          cases k with
          | zero => have := HP.out; simp at this; omega
          | succ k => omega
        obtain ⟨k', rfl⟩ : ∃ k', k = k' + 1 := ⟨k - 1, by omega⟩
        by_cases hlb : lo ≤ b
        · have hb := HB.out
          rw [begF_hit hle hlb] at hb
          have HB2 := Lib.hid hb
          clear hb
          go_wp2
          go_ret
          exact ⟨ret_bool HB2.out, m, rfl⟩
        · have hb := HB.out
          rw [begF_go hle hlb] at hb
          have HB2 := Lib.hid hb
          have HP2 : Hid (p * 10 * 10 ^ k' = 1000000000) := Lib.hid (by have := HP.out; rw [Int.pow_succ] at this; rw [Int.mul_assoc, Int.mul_comm 10]; exact this)
          clear hb
          go_wp2
          all_goals (try go_quiet (fail))
          all_goals (try go_wp2)
          go_roundw
          case rel => exact ⟨k', 10 * a, 10 * b + 9, p * 10, rfl, rfl, HB2, by omega, by omega, by omega, by omega, by omega, by omega, HP2, by first | exact ⟨_, rfl⟩ | exact ⟨_, World.drewN_drewN _ _ _⟩⟩
          case measure => simp [intOf]; omega
      · have hb := HB.out
        rw [begF_end (by omega)] at hb
        have HB2 := Lib.hid hb
        clear hb
        go_wp2
        go_ret
        exact ⟨ret_bool HB2.out, m, rfl⟩
  · have hn : n = 0 := by simpa using hz
    go_enter Tryz.func97, Tryz.ntmps97
    go_wp2
    go_ret
    exact ⟨ret_bool (by unfold begB; rw [if_pos hn]; rw [Bool.eq_iff_iff]; simp), 0, rfl⟩

theorem numL_none {x : List UInt8} {lo hi : Int} {k : Nat} {n : Int} {d : Nat} {r : Rd} (h : x[r.at_]? = none) : numL x lo hi k n d r = numFin lo hi n d r := by
  cases k with
  | zero => rfl
  | succ k => simp [numL, h]
theorem numL_other {x : List UInt8} {lo hi : Int} {k : Nat} {n : Int} {d : Nat} {r : Rd} {c : UInt8} (h : x[r.at_]? = some c) (hc : isDig c = false) : numL x lo hi k n d r = numFin lo hi n d r := by
  cases k with
  | zero => rfl
  | succ k => simp [numL, h, hc]
theorem numL_fail {x : List UInt8} {lo hi : Int} {k : Nat} {n : Int} {d : Nat} {r : Rd} {c : UInt8} (h : x[r.at_]? = some c) (hc : isDig c = true) (hf : (0 < d ∧ n = 0) ∨ begB (10 * n + ((c.toNat : Int) - 48)) lo hi = false) : numL x lo hi (k + 1) n d r = (0, ⟨r.at_, true⟩) := by
  simp only [numL, h, hc, if_true]
  rw [if_pos hf]
theorem numL_step {x : List UInt8} {lo hi : Int} {k : Nat} {n : Int} {d : Nat} {r : Rd} {c : UInt8} (h : x[r.at_]? = some c) (hc : isDig c = true) (hf : ¬ ((0 < d ∧ n = 0) ∨ begB (10 * n + ((c.toNat : Int) - 48)) lo hi = false)) : numL x lo hi (k + 1) n d r = numL x lo hi k (10 * n + ((c.toNat : Int) - 48)) (d + 1) ⟨r.at_ + 1, false⟩ := by
  simp only [numL, h, hc, if_true]
  rw [if_neg hf]
theorem isDig_t {c : UInt8} (h1 : (48 : Int) ≤ c.toNat) (h2 : (c.toNat : Int) ≤ 57) : isDig c = true := by
  simp only [isDig, Bool.and_eq_true, decide_eq_true_eq, UInt8.le_iff_toNat_le]
  have h1 : (48 : UInt8).toNat = 48 := rfl
  have h2 : (57 : UInt8).toNat = 57 := rfl
  omega
theorem isDig_f {c : UInt8} (h : ¬ ((48 : Int) ≤ c.toNat ∧ (c.toNat : Int) ≤ 57)) : isDig c = false := by
  rw [← Bool.not_eq_true]
  intro h2
  simp only [isDig, Bool.and_eq_true, decide_eq_true_eq, UInt8.le_iff_toNat_le] at h2
  have h1 : (48 : UInt8).toNat = 48 := rfl
  have h3 : (57 : UInt8).toNat = 57 := rfl
  omega

set_option maxRecDepth 100000 in
set_option maxHeartbeats 400000 in
theorem number_any (R : Nat) (s : ByteArray) (r : Rd) (lo hi : Int) (w : World) (hR : RdAt R s r w) (hs : s.size ≤ 1000000) (ha : r.at_ ≤ s.size) (h2 : 0 ≤ lo) (h3 : hi ≤ 9999999) (h4 : lo ≤ 9999999) (h5 : -1 ≤ hi) :
    Calls Tryz.prog 87 #[.pointer (some ⟨R, 0, none⟩), .int .i64 lo, .int .i64 hi] w fun e w' => e = .returned (.int .i64 (numR (bytesOf s) lo hi r).1) ∧ RdAt R s (numR (bytesOf s) lo hi r).2 w' ∧ w.grownBy w' (some R) := by
  cases hb : r.bad
  · have hN0 : numL (bytesOf s) lo hi (s.size + 1 - r.at_) 0 0 r = numR (bytesOf s) lo hi r := by unfold numR; rw [if_neg (by simp [hb]), bytesOf_len]
    obtain ⟨V, hV⟩ : ∃ V, numR (bytesOf s) lo hi r = V := ⟨_, rfl⟩
    rw [hV] at hN0 ⊢
    have HN0 := Lib.hid hN0
    have HBR := Lib.hid hb
    clear hN0 hV hb
    go_enter Tryz.func87, Tryz.ntmps87
    go_wp2_with fail
    go_loopw [7, 8] (fun i j wr => ∃ (k : Nat) (n : Int) (d : Nat) (r' : Rd), i = .int .i64 n ∧ j = .int .i64 d ∧ 0 ≤ n ∧ n ≤ max 0 hi ∧ (r'.at_ ≤ r.at_ + d ∧ r.at_ + d ≤ r'.at_) ∧ r'.at_ ≤ s.size ∧ (k + r'.at_ ≤ s.size + 1 ∧ s.size + 1 ≤ k + r'.at_) ∧ Hid (r'.bad = false) ∧ Hid (numL (bytesOf s) lo hi k n d r' = V) ∧ Hid (RdAt R s r' wr) ∧ w.grownBy wr (some R)) (fun _ j _ => s.size + 1 - r.at_ - (intOf j).toNat)
    case atStart => exact ⟨_, 0, 0, r, rfl, rfl, by omega, by omega, by omega, ha, by omega, HBR, HN0, Lib.hid hR, World.grownBy.refl _ _⟩
    case round =>
      obtain ⟨k, n, d, r', rfl, rfl, hn0, hn1, hd, hat, hk, HB, HV, HR, hg⟩ := hrel
      have hc0 : wr.cell? ⟨R, 0, none⟩ = some (.string s) := HR.out.cell 0
      have hc1 : wr.cell? ⟨R, 1, none⟩ = some (.int .i64 r'.at_) := HR.out.cell 1
      have hc2 : wr.cell? ⟨R, 2, none⟩ = some (.int .i64 (-1)) := by have := Cls.cell HR.out 2; rw [this, badI_f HB.out]; rfl
      by_cases hlt : r'.at_ < s.size
      · have hl1 : decide ((r'.at_ : Int) < (s.size : Int)) = true := by simp; omega
        have hget := bytesOf_get hlt
        obtain ⟨c, hcc⟩ : ∃ c, s[r'.at_] = c := ⟨_, rfl⟩
        rw [hcc] at hget
        have HC := Lib.hid hcc
        have HG := Lib.hid hget
        have hcl : (c.toNat : Int) ≤ 255 := by have := c.toNat_lt; omega
        clear hget hcc
        by_cases h48 : (48 : Int) ≤ (s[r'.at_].toNat : Int)
        · by_cases h57 : (s[r'.at_].toNat : Int) ≤ 57
          · go_wp2_with fail
            go_quiet (fail)
            go_wp2_with fail
            have hw1 : IntKind.u8.wrap ((s[r'.at_].toNat : Int) - 48) = (s[r'.at_].toNat : Int) - 48 := by rw [IntKind.wrap_u8]; omega
            have hw2 : IntKind.i64.wrap (10 * n) = 10 * n := IntWalk.i64_in _ (by omega)
            have hw3 : IntKind.i64.wrap ((s[r'.at_].toNat : Int) - 48) = (s[r'.at_].toNat : Int) - 48 := IntWalk.i64_in _ (by omega)
            have hw4 : IntKind.i64.wrap (10 * n + ((s[r'.at_].toNat : Int) - 48)) = 10 * n + ((s[r'.at_].toNat : Int) - 48) := IntWalk.i64_in _ (by omega)
            go_quiet (fail)
            clear hw1 hw2 hw3 hw4
            have hdg : isDig c = true := by rw [← HC.out]; exact isDig_t h48 h57
            obtain ⟨M, hM⟩ : ∃ M, 10 * n + ((s[r'.at_].toNat : Int) - 48) = M := ⟨_, rfl⟩
            rw [hM]
            have hM0 : 0 ≤ M := by omega
            have hM1 : M ≤ 99999999 := by omega
            have HMM : Hid (10 * n + ((c.toNat : Int) - 48) = M) := Lib.hid (by rw [← hM, HC.out])
            have HDG := Lib.hid hdg
            obtain ⟨k', hk'⟩ : ∃ k', k = k' + 1 := ⟨k - 1, by omega⟩
            have HK := Lib.hid hk'
            have f1 : wr.frozen? ⟨R, 1, none⟩ = false := HR.out.frozen 1
            have f2 : wr.frozen? ⟨R, 2, none⟩ = false := HR.out.frozen 2
            clear hM hdg hk'
            by_cases hA : 0 < d ∧ n = 0
            · have hd0 : decide ((0 : Int) < d) = true := by simp; omega
              have hn2 : (n == 0) = true := by simp [hA.2]
              have hf := numL_fail (lo := lo) (hi := hi) (k := k') (n := n) (d := d) HG.out HDG.out (.inl hA)
              rw [← HK.out, HV.out] at hf
              have HF := Lib.hid hf
              have HRS := Lib.hid (HR.out.fail)
              have h0 := hA.1
              clear hf hA
              go_wp2_with fail
              go_ret
              exact ⟨by rw [HF.out]; rfl, by rw [HF.out]; exact HRS.out, grown_set (grown_drewN hg _) _ _⟩
            · have hnA : (decide ((0 : Int) < d) && (n == 0)) = false := by
                rw [Bool.and_eq_false_iff]
                by_cases h0 : 0 < d
                · right; rw [beq_eq_false_iff_ne]; intro h; exact hA ⟨h0, h⟩
                · left; simp; omega
              cases hB : begB M lo hi
              · have hf := numL_fail (lo := lo) (hi := hi) (k := k') (n := n) (d := d) HG.out HDG.out (.inr (by rw [HMM.out]; exact hB))
                rw [← HK.out, HV.out] at hf
                have HF := Lib.hid hf
                have HRS := Lib.hid (HR.out.fail)
                clear hf hA
                by_cases h0 : 0 < d
                · have hd0 : decide ((0 : Int) < d) = true := by simp; omega
                  have hn2 : (n == 0) = false := by simpa [h0] using hnA
                  go_wp2_with (go_at_call 97; refine (begins_any _ _ _ _ hM0 hM1 h2 h3 h4).mono ?_; rw [hB]; rintro e w' ⟨rfl, m, rfl⟩)
                  go_ret
                  exact ⟨by rw [HF.out]; rfl, by rw [HF.out]; exact HRS.out, grown_set (grown_drewN hg _) _ _⟩
                · obtain rfl : d = 0 := by omega
                  go_wp2_with (go_at_call 97; refine (begins_any _ _ _ _ hM0 hM1 h2 h3 h4).mono ?_; rw [hB]; rintro e w' ⟨rfl, m, rfl⟩)
                  go_ret
                  exact ⟨by rw [HF.out]; rfl, by rw [HF.out]; exact HRS.out, grown_set (grown_drewN hg _) _ _⟩
              · have hf := numL_step (lo := lo) (hi := hi) (k := k') (n := n) (d := d) HG.out HDG.out (by rw [HMM.out, hB]; simp; exact fun h => fun h' => hA ⟨h, h'⟩)
                rw [← HK.out, HV.out, HMM.out] at hf
                have HF := Lib.hid hf.symm
                have HRS := Lib.hid (HR.out.step HB.out)
                have hMhi : M ≤ max 0 hi := by
                  by_cases h0 : 0 ≤ hi
                  · have := begB_le hB h0; omega
                  · unfold begB at hB
                    split at hB
                    · omega
                    · have := begF_le _ _ _ _ _ hB; omega
                have hkk := HK.out
                clear hf hA
                by_cases h0 : 0 < d
                · have hd0 : decide ((0 : Int) < d) = true := by simp; omega
                  have hn2 : (n == 0) = false := by simpa [h0] using hnA
                  clear hkk
                  go_wp2_with (go_at_call 97; refine (begins_any _ _ _ _ hM0 hM1 h2 h3 h4).mono ?_; rw [hB]; rintro e w' ⟨rfl, m, rfl⟩)
                  go_roundw
                  case rel => exact ⟨k', M, d + 1, ⟨r'.at_ + 1, false⟩, rfl, by go_num, hM0, hMhi, by simp; omega, by simp; omega, by have := HK.out; simp; omega, Lib.hid rfl, HF, HRS, grown_set (grown_drewN hg _) _ _⟩
                  case measure => simp [intOf]; omega
                · obtain rfl : d = 0 := by omega
                  clear hkk
                  go_wp2_with (go_at_call 97; refine (begins_any _ _ _ _ hM0 hM1 h2 h3 h4).mono ?_; rw [hB]; rintro e w' ⟨rfl, m, rfl⟩)
                  go_roundw
                  case rel => exact ⟨k', M, 1, ⟨r'.at_ + 1, false⟩, rfl, rfl, hM0, hMhi, by simp; omega, by simp; omega, by have := HK.out; simp; omega, Lib.hid rfl, HF, HRS, grown_set (grown_drewN hg _) _ _⟩
                  case measure => simp [intOf]; omega
          · have hfin := numL_other (lo := lo) (hi := hi) (k := k) (n := n) (d := d) HG.out (isDig_f (by rw [← HC.out]; omega))
            have HE := Lib.hid (hfin.symm.trans HV.out)
            clear hfin
            have f2 : wr.frozen? ⟨R, 2, none⟩ = false := HR.out.frozen 2
            by_cases hd0 : d = 0
            · subst hd0
              have HF : Hid (V = (n, ⟨r'.at_, true⟩)) := Lib.hid (by rw [← HE.out, numFin, if_pos (.inl rfl)])
              have HRS := Lib.hid (HR.out.fail)
              go_wp2_with fail
              go_quiet (fail)
              go_wp2_with fail
              go_ret
              exact ⟨by rw [HF.out]; rfl, by rw [HF.out]; exact HRS.out, grown_set (grown_drewN hg _) _ _⟩
            · have hd1 : 0 < d := by omega
              have hdz : ((d : Int) == 0) = false := by rw [beq_eq_false_iff_ne]; omega
              cases hI : inB n lo hi
              · have HF : Hid (V = (n, ⟨r'.at_, true⟩)) := Lib.hid (by rw [← HE.out, numFin, if_pos (.inr hI)])
                have HRS := Lib.hid (HR.out.fail)
                clear hd0
                go_wp2_with fail
                go_quiet (fail)
                go_wp2_with (go_at_call 34; refine (within_any _ _ _ _).mono ?_; rw [hI]; rintro e w' ⟨rfl, rfl⟩)
                go_ret
                exact ⟨by rw [HF.out]; rfl, by rw [HF.out]; exact HRS.out, grown_set (grown_drewN hg _) _ _⟩
              · have HF : Hid (V = (n, r')) := Lib.hid (by rw [← HE.out, numFin, if_neg (by simp [hI, hd0])])
                clear hd0
                go_wp2_with fail
                go_quiet (fail)
                go_wp2_with (go_at_call 34; refine (within_any _ _ _ _).mono ?_; rw [hI]; rintro e w' ⟨rfl, rfl⟩)
                go_ret
                exact ⟨by rw [HF.out]; rfl, by rw [HF.out]; exact HR.out, grown_drewN hg _⟩
        · have hd48 : decide ((48 : Int) ≤ (s[r'.at_].toNat : Int)) = false := decide_eq_false h48
          have hfin := numL_other (lo := lo) (hi := hi) (k := k) (n := n) (d := d) HG.out (isDig_f (by rw [← HC.out]; omega))
          have HE := Lib.hid (hfin.symm.trans HV.out)
          clear hfin
          have f2 : wr.frozen? ⟨R, 2, none⟩ = false := HR.out.frozen 2
          by_cases hd0 : d = 0
          · subst hd0
            have HF : Hid (V = (n, ⟨r'.at_, true⟩)) := Lib.hid (by rw [← HE.out, numFin, if_pos (.inl rfl)])
            have HRS := Lib.hid (HR.out.fail)
            go_wp2_with fail
            go_quiet (fail)
            go_wp2_with fail
            go_ret
            exact ⟨by rw [HF.out]; rfl, by rw [HF.out]; exact HRS.out, grown_set (grown_drewN hg _) _ _⟩
          · have hd1 : 0 < d := by omega
            have hdz : ((d : Int) == 0) = false := by rw [beq_eq_false_iff_ne]; omega
            cases hI : inB n lo hi
            · have HF : Hid (V = (n, ⟨r'.at_, true⟩)) := Lib.hid (by rw [← HE.out, numFin, if_pos (.inr hI)])
              have HRS := Lib.hid (HR.out.fail)
              clear hd0
              go_wp2_with fail
              go_quiet (fail)
              go_wp2_with (go_at_call 34; refine (within_any _ _ _ _).mono ?_; rw [hI]; rintro e w' ⟨rfl, rfl⟩)
              go_ret
              exact ⟨by rw [HF.out]; rfl, by rw [HF.out]; exact HRS.out, grown_set (grown_drewN hg _) _ _⟩
            · have HF : Hid (V = (n, r')) := Lib.hid (by rw [← HE.out, numFin, if_neg (by simp [hI, hd0])])
              clear hd0
              go_wp2_with fail
              go_quiet (fail)
              go_wp2_with (go_at_call 34; refine (within_any _ _ _ _).mono ?_; rw [hI]; rintro e w' ⟨rfl, rfl⟩)
              go_ret
              exact ⟨by rw [HF.out]; rfl, by rw [HF.out]; exact HR.out, grown_drewN hg _⟩
      · have hat2 : s.size ≤ r'.at_ := by omega
        have hl1 : decide ((r'.at_ : Int) < (s.size : Int)) = false := by simp; omega
        have hfin := numL_none (lo := lo) (hi := hi) (k := k) (n := n) (d := d) (x := bytesOf s) (r := r') (List.getElem?_eq_none (by rw [bytesOf_len]; omega))
        have HE := Lib.hid (hfin.symm.trans HV.out)
        clear hfin
        have f2 : wr.frozen? ⟨R, 2, none⟩ = false := HR.out.frozen 2
        by_cases hd0 : d = 0
        · subst hd0
          have HF : Hid (V = (n, ⟨r'.at_, true⟩)) := Lib.hid (by rw [← HE.out, numFin, if_pos (.inl rfl)])
          have HRS := Lib.hid (HR.out.fail)
          go_wp2_with fail
          go_quiet (fail)
          go_wp2_with fail
          go_ret
          exact ⟨by rw [HF.out]; rfl, by rw [HF.out]; exact HRS.out, grown_set (grown_drewN hg _) _ _⟩
        · have hd1 : 0 < d := by omega
          have hdz : ((d : Int) == 0) = false := by rw [beq_eq_false_iff_ne]; omega
          cases hI : inB n lo hi
          · have HF : Hid (V = (n, ⟨r'.at_, true⟩)) := Lib.hid (by rw [← HE.out, numFin, if_pos (.inr hI)])
            have HRS := Lib.hid (HR.out.fail)
            clear hd0
            go_wp2_with fail
            go_quiet (fail)
            go_wp2_with (go_at_call 34; refine (within_any _ _ _ _).mono ?_; rw [hI]; rintro e w' ⟨rfl, rfl⟩)
            go_ret
            exact ⟨by rw [HF.out]; rfl, by rw [HF.out]; exact HRS.out, grown_set (grown_drewN hg _) _ _⟩
          · have HF : Hid (V = (n, r')) := Lib.hid (by rw [← HE.out, numFin, if_neg (by simp [hI, hd0])])
            clear hd0
            go_wp2_with fail
            go_quiet (fail)
            go_wp2_with (go_at_call 34; refine (within_any _ _ _ _).mono ?_; rw [hI]; rintro e w' ⟨rfl, rfl⟩)
            go_ret
            exact ⟨by rw [HF.out]; rfl, by rw [HF.out]; exact HR.out, grown_drewN hg _⟩
  · have hbi := badI_t hb
    have hN : numR (bytesOf s) lo hi r = (0, r) := numR_bad _ _ _ _ hb
    rw [hN]
    have hc2 : w.cell? ⟨R, 2, none⟩ = some (.int .i64 r.at_) := by have := Cls.cell hR 2; rw [this, hbi]; rfl
    have hlb : decide ((r.at_ : Int) < 0) = false := by simp
    clear hN hb hbi
    go_enter Tryz.func87, Tryz.ntmps87
    go_wp2_with fail
    go_loopw [7, 8] (fun i j wr => i = .int .i64 0 ∧ j = .int .i64 0 ∧ ∃ m, wr = w.drewN m) (fun _ _ _ => 0)
    case atStart => exact ⟨rfl, rfl, 0, rfl⟩
    case round =>
      obtain ⟨rfl, rfl, m, rfl⟩ := hrel
      go_wp2_with fail
      go_quiet (fail)
      go_wp2
      go_ret
      exact ⟨rfl, hR, grown_drewN (World.grownBy.refl _ _) _⟩

end Go.Proofs.YtejcmdoalhnpeaaGreatDoor
