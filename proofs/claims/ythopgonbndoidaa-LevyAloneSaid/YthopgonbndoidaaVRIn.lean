/- in and group of the specification, and its comparing of lists. -/
import Derived.Test.YthopgonbndoidaaVRChk
namespace Go.Proofs.Ythopgonbndoidaa
open Go.RowKit Go.Shelf

set_option maxRecDepth 100000 in
set_option maxHeartbeats 2000000 in
theorem refIn_any (v : Value) (l : List Int) (n : Int) (w : World) (hl : IntsAt w v l) (hn : l.length ≤ 1000000) :
    Calls Try.prog 110 #[v, .int .i64 n] w fun e w' => e = .returned (.bool (decide (n ∈ l))) ∧ Ext w w' := by
  obtain ⟨ao, cap, rfl, hcap⟩ := hl.len
  obtain ⟨D, hD⟩ : ∃ D, decide (n ∈ l) = D := ⟨_, rfl⟩
  have HD := Lib.hid hD
  rw [hD]
  clear hD
  go_enter Try.func110, Try.ntmps110
  go_wp2_with fail
  go_loopw [5] (fun i wr => ∃ k : Nat, k ≤ l.length ∧ i = .int .i64 k ∧ Hid (∀ j (h : j < l.length), j < k → l[j] ≠ n) ∧ Ext w wr) (fun i _ => l.length - (intOf i).toNat)
  case atStart => exact ⟨0, Nat.zero_le _, rfl, Lib.hid (fun _ _ h => by omega), Ext.refl _⟩
  case round =>
    obtain ⟨k, hk, rfl, HK, hx⟩ := hrel
    by_cases hlt : k < l.length
    · obtain ⟨b, o, rfl, c0⟩ := (hl.ext hx).get k hlt
      obtain ⟨x, hxx⟩ : ∃ x, l[k] = x := ⟨_, rfl⟩
      rw [hxx] at c0
      cases hq : (x == n)
      · have hne : x ≠ n := by simpa using hq
        have HK2 : Hid (∀ j (h : j < l.length), j < k + 1 → l[j] ≠ n) := Lib.hid (fun j h hj => by
          by_cases hjk : j = k
          · subst hjk; rw [hxx]; exact hne
          · exact HK.out j h (by omega))
        clear hxx hne HK
        go_wp2
        go_roundw
        case rel => exact ⟨k + 1, by omega, by go_num, HK2, hx⟩
        case measure => simp [intOf]; omega
      · have hm : D = true := by
          rw [← HD.out, decide_eq_true_eq]
          have : x = n := by simpa using hq
          rw [← this, ← hxx]
          exact List.getElem_mem _
        have HM := Lib.hid hm
        clear hxx hm HK
        go_wp2
        go_ret
        exact ⟨ret_bool HM.out.symm, hx⟩
    · have hm : D = false := by
        rw [← HD.out, decide_eq_false_iff_not]
        intro hm
        obtain ⟨j, hj, hjn⟩ := List.mem_iff_getElem.1 hm
        exact HK.out j hj (by omega) hjn
      have HM := Lib.hid hm
      clear hm HK
      go_wp2
      go_ret
      exact ⟨ret_bool HM.out.symm, hx⟩

set_option maxRecDepth 100000 in
set_option maxHeartbeats 2000000 in
theorem refSame_any (v u : Value) (l r : List Int) (w : World) (hl : IntsAt w v l) (hr : IntsAt w u r) (hn : l.length ≤ 1000000) :
    Calls Try.prog 42 #[v, u] w fun e w' => e = .returned (.bool (decide (l = r))) ∧ Ext w w' := by
  obtain ⟨ao, cap, rfl, hcap⟩ := hl.len
  obtain ⟨bo, cap2, rfl, hcap2⟩ := hr.len
  obtain ⟨D, hD⟩ : ∃ D, decide (l = r) = D := ⟨_, rfl⟩
  have HD := Lib.hid hD
  rw [hD]
  clear hD
  by_cases hlen : l.length = r.length
  · have HL := Lib.hid hlen
    have hb : ((l.length : Int) == (r.length : Int)) = true := by simp [hlen]
    rw [← hlen]
    clear hlen hb
    go_enter Try.func42, Try.ntmps42
    go_wp2_with fail
    go_loopw [5] (fun i wr => ∃ k : Nat, k ≤ l.length ∧ i = .int .i64 k ∧ Hid (∀ j (h : j < l.length) (h' : j < r.length), j < k → l[j] = r[j]) ∧ Ext w wr) (fun i _ => l.length - (intOf i).toNat)
    case atStart => exact ⟨0, Nat.zero_le _, rfl, Lib.hid (fun _ _ _ h => by omega), Ext.refl _⟩
    case round =>
      obtain ⟨k, hk, rfl, HK, hx⟩ := hrel
      by_cases hlt : k < l.length
      · have hlt2 : k < r.length := by have := HL.out; omega
        have hr' := hr.ext hx
        obtain ⟨b, o, rfl, c0⟩ := (hl.ext hx).get k hlt
        obtain ⟨b2, o2, rfl, c1⟩ := hr'.get k hlt2
        obtain ⟨x, hxx⟩ : ∃ x, l[k] = x := ⟨_, rfl⟩
        obtain ⟨y, hyy⟩ : ∃ x, r[k] = x := ⟨_, rfl⟩
        rw [hxx] at c0
        rw [hyy] at c1
        have hkr : (k : Int) < (r.length : Int) := by omega
        by_cases hq : x = y
        · have HK2 : Hid (∀ j (h : j < l.length) (h' : j < r.length), j < k + 1 → l[j] = r[j]) := Lib.hid (fun j h h' hj => by
            by_cases hjk : j = k
            · subst hjk; rw [hxx, hyy]; exact hq
            · exact HK.out j h h' (by omega))
          subst hq
          clear hxx hyy HK hr'
          go_wp2_with fail
          (try go_quiet (fail))
          (try go_wp2_with fail)
          go_roundw
          case rel => exact ⟨k + 1, by omega, by go_num, HK2, hx.trans (by repeat (first | exact Ext.refl _ | assumption | refine Ext.alloc ?_ _ | refine Ext.drew ?_ | refine Ext.drewN _ ?_ | refine Ext.trans ?_ (by assumption)))⟩
          case measure => simp [intOf]; omega
        · have hm : D = false := by
            rw [← HD.out, decide_eq_false_iff_not]
            intro he
            subst he
            exact hq (by rw [← hxx, ← hyy])
          have HM := Lib.hid hm
          have hqb : (x == y) = false := by simpa using hq
          have hqb2 : (x != y) = true := by simpa using hq
          clear hxx hyy hm HK hr'
          go_wp2_with fail
          (try go_quiet (fail))
          (try go_wp2_with fail)
          go_ret
          exact ⟨ret_bool HM.out.symm, hx.trans (by repeat (first | exact Ext.refl _ | assumption | refine Ext.alloc ?_ _ | refine Ext.drew ?_ | refine Ext.drewN _ ?_ | refine Ext.trans ?_ (by assumption)))⟩
      · have hm : D = true := by
          rw [← HD.out, decide_eq_true_eq]
          exact List.ext_getElem HL.out (fun j h1 h2 => HK.out j h1 h2 (by omega))
        have HM := Lib.hid hm
        clear hm HK
        go_wp2
        go_ret
        exact ⟨ret_bool HM.out.symm, hx⟩
  · have hm : D = false := by
      rw [← HD.out, decide_eq_false_iff_not]
      intro he
      exact hlen (by rw [he])
    have HM := Lib.hid hm
    have hne : ¬ ((l.length : Int) = (r.length : Int)) := by omega
    clear hm hlen
    go_enter Try.func42, Try.ntmps42
    go_wp2
    go_ret
    exact ⟨ret_bool HM.out.symm, Ext.refl _⟩
end Go.Proofs.Ythopgonbndoidaa
