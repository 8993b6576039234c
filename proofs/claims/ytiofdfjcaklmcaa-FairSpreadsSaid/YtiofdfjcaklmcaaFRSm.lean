/- The specification's tests of likeness; the pools that are few enough to be looked at. -/
import Derived.Test.YtiofdfjcaklmcaaFBs
namespace Go.Proofs.Ytiofdfjcaklmcaa
open Go.RowKit Go.Shelf

set_option maxRecDepth 100000 in
set_option maxHeartbeats 2000000 in
theorem refSame_any (v u : Value) (l r : List Int) (w : World) (hl : IntsAt w v l) (hr : IntsAt w u r) (hn : l.length ≤ 1000000) :
    Calls Try.prog 29 #[v, u] w fun e w' => e = .returned (.bool (decide (l = r))) ∧ Ext w w' := by
  obtain ⟨ao, cap, rfl, hcap⟩ := hl.len
  obtain ⟨bo, cap2, rfl, hcap2⟩ := hr.len
  obtain ⟨D, hD⟩ : ∃ D, decide (l = r) = D := ⟨_, rfl⟩
  have HD := Lib.hid hD
  rw [hD]
  clear hD
  by_cases hlen : l.length = r.length
  · have HL := Lib.hid hlen
    have hb : ((l.length : Int) == (r.length : Int)) = true := by simp [hlen]
    rw [← hlen]
    clear hlen hb
    go_enter Try.func29, Try.ntmps29
    go_wp2_with fail
    go_loopw [5] (fun i wr => ∃ k : Nat, k ≤ l.length ∧ i = .int .i64 k ∧ Hid (∀ j (h : j < l.length) (h' : j < r.length), j < k → l[j] = r[j]) ∧ Ext w wr) (fun i _ => l.length - (intOf i).toNat)
    case atStart => exact ⟨0, Nat.zero_le _, rfl, Lib.hid (fun _ _ _ h => by omega), Ext.refl _⟩
    case round =>
      obtain ⟨k, hk, rfl, HK, hx⟩ := hrel
      by_cases hlt : k < l.length
      · have hlt2 : k < r.length := by have := HL.out; omega
        have hr' := hr.ext hx
        obtain ⟨b, o, rfl, c0⟩ := (hl.ext hx).get k hlt
        obtain ⟨b2, o2, rfl, c1⟩ := hr'.get k hlt2
        obtain ⟨x, hxx⟩ : ∃ x, l[k] = x := ⟨_, rfl⟩
        obtain ⟨y, hyy⟩ : ∃ x, r[k] = x := ⟨_, rfl⟩
        rw [hxx] at c0
        rw [hyy] at c1
        have hkr : (k : Int) < (r.length : Int) := by omega
        by_cases hq : x = y
        · have HK2 : Hid (∀ j (h : j < l.length) (h' : j < r.length), j < k + 1 → l[j] = r[j]) := Lib.hid (fun j h h' hj => by
            by_cases hjk : j = k
            · subst hjk; rw [hxx, hyy]; exact hq
            · exact HK.out j h h' (by omega))
          subst hq
          clear hxx hyy HK hr'
          go_wp2_with fail
          (try go_quiet (fail))
          (try go_wp2_with fail)
          go_roundw
          case rel => exact ⟨k + 1, by omega, by go_num, HK2, hx.trans (by repeat (first | exact Ext.refl _ | assumption | refine Ext.alloc ?_ _ | refine Ext.drew ?_ | refine Ext.drewN _ ?_ | refine Ext.trans ?_ (by assumption)))⟩
          case measure => simp [intOf]; omega
        · have hm : D = false := by
            rw [← HD.out, decide_eq_false_iff_not]
            intro he
            subst he
            exact hq (by rw [← hxx, ← hyy])
          have HM := Lib.hid hm
          have hqb : (x == y) = false := by simpa using hq
          have hqb2 : (x != y) = true := by simpa using hq
          clear hxx hyy hm HK hr'
          go_wp2_with fail
          (try go_quiet (fail))
          (try go_wp2_with fail)
          go_ret
          exact ⟨ret_bool HM.out.symm, hx.trans (by repeat (first | exact Ext.refl _ | assumption | refine Ext.alloc ?_ _ | refine Ext.drew ?_ | refine Ext.drewN _ ?_ | refine Ext.trans ?_ (by assumption)))⟩
      · have hm : D = true := by
          rw [← HD.out, decide_eq_true_eq]
          exact List.ext_getElem HL.out (fun j h1 h2 => HK.out j h1 h2 (by omega))
        have HM := Lib.hid hm
        clear hm HK
        go_wp2
        go_ret
        exact ⟨ret_bool HM.out.symm, hx⟩
  · have hm : D = false := by
      rw [← HD.out, decide_eq_false_iff_not]
      intro he
      exact hlen (by rw [he])
    have HM := Lib.hid hm
    have hne : ¬ ((l.length : Int) = (r.length : Int)) := by omega
    clear hm hlen
    go_enter Try.func29, Try.ntmps29
    go_wp2
    go_ret
    exact ⟨ret_bool HM.out.symm, Ext.refl _⟩
set_option maxRecDepth 100000 in
set_option maxHeartbeats 4000000 in
theorem refSameS_any (v u : Value) (l r : List (Int × Int)) (w : World) (hl : SfsAt w v l) (hr : SfsAt w u r) (hn : l.length ≤ 1000000) :
    Calls Try.prog 26 #[v, u] w fun e w' => e = .returned (.bool (decide (l = r))) ∧ Ext w w' := by
  obtain ⟨ao, cap, rfl, hcap⟩ := hl.len
  obtain ⟨bo, cap2, rfl, hcap2⟩ := hr.len
  obtain ⟨D, hD⟩ : ∃ D, decide (l = r) = D := ⟨_, rfl⟩
  have HD := Lib.hid hD
  rw [hD]
  clear hD
  by_cases hlen : l.length = r.length
  · have HL := Lib.hid hlen
    have hb : ((l.length : Int) == (r.length : Int)) = true := by simp [hlen]
    rw [← hlen]
    clear hlen hb
    go_enter Try.func26, Try.ntmps26
    go_wp2_with fail
    go_loopw [5] (fun i wr => ∃ k : Nat, k ≤ l.length ∧ i = .int .i64 k ∧ Hid (∀ j (h : j < l.length) (h' : j < r.length), j < k → l[j] = r[j]) ∧ Ext w wr) (fun i _ => l.length - (intOf i).toNat)
    case atStart => exact ⟨0, Nat.zero_le _, rfl, Lib.hid (fun _ _ _ h => by omega), Ext.refl _⟩
    case round =>
      obtain ⟨k, hk, rfl, HK, hx⟩ := hrel
      by_cases hlt : k < l.length
      · have hlt2 : k < r.length := by have := HL.out; omega
        have hr' := hr.ext hx
        obtain ⟨b, o, rfl, c0, c1⟩ := (hl.ext hx).get k hlt
        obtain ⟨b2, o2, rfl, c2, c3⟩ := hr'.get k hlt2
        obtain ⟨x, hxx⟩ : ∃ x, l[k].1 = x := ⟨_, rfl⟩
        obtain ⟨z, hzz⟩ : ∃ x, l[k].2 = x := ⟨_, rfl⟩
        obtain ⟨y, hyy⟩ : ∃ x, r[k].1 = x := ⟨_, rfl⟩
        obtain ⟨t, htt⟩ : ∃ x, r[k].2 = x := ⟨_, rfl⟩
        rw [hxx] at c0
        rw [hzz] at c1
        rw [hyy] at c2
        rw [htt] at c3
        have hkr : (k : Int) < (r.length : Int) := by omega
        by_cases hq : x = y ∧ z = t
        · have HK2 : Hid (∀ j (h : j < l.length) (h' : j < r.length), j < k + 1 → l[j] = r[j]) := Lib.hid (fun j h h' hj => by
            by_cases hjk : j = k
            · subst hjk
              have e1 : l[j] = ⟨l[j].1, l[j].2⟩ := rfl
              have e2 : r[j] = ⟨r[j].1, r[j].2⟩ := rfl
              rw [e1, e2, hxx, hzz, hyy, htt, hq.1, hq.2]
            · exact HK.out j h h' (by omega))
          obtain ⟨rfl, rfl⟩ := hq
          clear hxx hyy hzz htt HK hr'
          go_wp2_with fail
          (try go_quiet (fail))
          (try go_wp2_with fail)
          go_roundw
          case rel => exact ⟨k + 1, by omega, by go_num, HK2, hx.trans (by repeat (first | exact Ext.refl _ | assumption | refine Ext.alloc ?_ _ | refine Ext.drew ?_ | refine Ext.drewN _ ?_ | refine Ext.trans ?_ (by assumption)))⟩
          case measure => simp [intOf]; omega
        · have hm : D = false := by
            rw [← HD.out, decide_eq_false_iff_not]
            intro he
            subst he
            exact hq ⟨by rw [← hxx, ← hyy], by rw [← hzz, ← htt]⟩
          have HM := Lib.hid hm
          clear hxx hyy hzz htt hm HK hr'
          cases hxb : (x == y)
          · have hxb2 : (x != y) = true := by simp [bne, hxb]
            go_wp2_with fail
            (try go_quiet (fail))
            (try go_wp2_with fail)
            go_ret
            exact ⟨ret_bool HM.out.symm, hx.trans (by repeat (first | exact Ext.refl _ | assumption | refine Ext.alloc ?_ _ | refine Ext.drew ?_ | refine Ext.drewN _ ?_ | refine Ext.trans ?_ (by assumption)))⟩
          · have hxe : x = y := by simpa using hxb
            have hze : ¬ z = t := fun h => hq ⟨hxe, h⟩
            have hzb : (z == t) = false := by simpa using hze
            subst hxe
            clear hq
            go_wp2_with fail
            (try go_quiet (fail))
            (try go_wp2_with fail)
            go_ret
            exact ⟨ret_bool HM.out.symm, hx.trans (by repeat (first | exact Ext.refl _ | assumption | refine Ext.alloc ?_ _ | refine Ext.drew ?_ | refine Ext.drewN _ ?_ | refine Ext.trans ?_ (by assumption)))⟩
      · have hm : D = true := by
          rw [← HD.out, decide_eq_true_eq]
          exact List.ext_getElem HL.out (fun j h1 h2 => HK.out j h1 h2 (by omega))
        have HM := Lib.hid hm
        clear hm HK
        go_wp2
        go_ret
        exact ⟨ret_bool HM.out.symm, hx⟩
  · have hm : D = false := by
      rw [← HD.out, decide_eq_false_iff_not]
      intro he
      exact hlen (by rw [he])
    have HM := Lib.hid hm
    have hne : ¬ ((l.length : Int) = (r.length : Int)) := by omega
    clear hm hlen
    go_enter Try.func26, Try.ntmps26
    go_wp2
    go_ret
    exact ⟨ret_bool HM.out.symm, Ext.refl _⟩
/-- whether a pool is small enough -/
def fewB (P : Po) : Bool := P.ss.all (fun s => decide (s.us.length ≤ 15)) && (decide (P.ts.length ≤ 6) || (decide (12 < P.ts.length) && decide (P.ts.length ≤ 16))) && (decide (P.ss.length ≤ 10) || (decide (40 < P.ss.length) && decide (P.ss.length ≤ 50)))
set_option maxRecDepth 100000 in
set_option maxHeartbeats 4000000 in
theorem few_any (a b : Value) (P : Po) (w : World) (hT : PoAt w a b P) (hn : P.ss.length ≤ 9223372036854775807) :
    Calls Try.prog 19 #[.agg #[a, b]] w fun e w' => e = .returned (.bool (fewB P)) ∧ Ext w w' := by
  obtain ⟨aa, ca, rfl, hla⟩ := hT.t.len
  obtain ⟨ab, cb, rfl, hlb⟩ := hT.s.len
  obtain ⟨D, hD⟩ : ∃ D, fewB P = D := ⟨_, rfl⟩
  have HD := Lib.hid hD
  rw [hD]
  clear hD
  go_enter Try.func19, Try.ntmps19
  go_wp2_with fail
  go_loopw [3] (fun i wr => ∃ k : Nat, k ≤ P.ss.length ∧ i = .int .i64 k ∧ Hid (∀ j (h : j < P.ss.length), j < k → P.ss[j].us.length ≤ 15) ∧ Cls w.heap.size 25 #[.slice aa P.ts.length ca, .slice ab P.ss.length cb] wr ∧ Ext w wr) (fun i _ => P.ss.length - (intOf i).toNat)
  case atStart => exact ⟨0, Nat.zero_le _, rfl, Lib.hid (fun _ _ h => by omega), Cls.newAt _ _ _ rfl, (by repeat (first | exact Ext.refl _ | assumption | refine Ext.alloc ?_ _ | refine Ext.drew ?_ | refine Ext.drewN _ ?_ | refine Ext.trans ?_ (by assumption)))⟩
  case round =>
    obtain ⟨k, hk, rfl, HK, q, hx⟩ := hrel
    have d0 : wr.cell? ⟨w.heap.size, 0, none⟩ = some (.slice aa P.ts.length ca) := q.cell 0
    have d1 : wr.cell? ⟨w.heap.size, 1, none⟩ = some (.slice ab P.ss.length cb) := q.cell 1
    by_cases hlt : k < P.ss.length
    · obtain ⟨b2, o2, ua, uc, hab, s0, s1, hucl, hU⟩ := (hT.s.ext hx).get k hlt
      subst hab
      have hki : (k : Int) < P.ss.length := by omega
      obtain ⟨u, hu⟩ : ∃ u, P.ss[k].us.length = u := ⟨_, rfl⟩
      rw [hu] at s1
      by_cases h15 : u ≤ 15
      · have hg : decide ((u : Int) > 15) = false := by simp; omega
        have hng : ¬ ((u : Int) > 15) := by omega
        have hng2 : ¬ (15 < (u : Int)) := by omega
        have HK2 : Hid (∀ j (h : j < P.ss.length), j < k + 1 → P.ss[j].us.length ≤ 15) := Lib.hid (fun j h hj => by
          by_cases hjk : j = k
          · subst hjk; rw [hu]; exact h15
          · exact HK.out j h (by omega))
        clear hu h15 HK hU hucl
        go_wp2_with fail
        go_roundw
        case rel => exact ⟨k + 1, by omega, by go_num, HK2, q, hx⟩
        case measure => simp [intOf]; omega
      · have hg : decide ((u : Int) > 15) = true := by simp; omega
        have hng : (u : Int) > 15 := by omega
        have hm : D = false := by
          rw [← HD.out]
          unfold fewB
          have : P.ss.all (fun s => decide (s.us.length ≤ 15)) = false := by
            rw [List.all_eq_false]
            exact ⟨_, List.getElem_mem hlt, by rw [hu]; simpa using h15⟩
          rw [this]; rfl
        have HM := Lib.hid hm
        clear hm hu h15 HK hU hucl
        go_wp2_with fail
        go_ret
        exact ⟨ret_bool HM.out.symm, hx⟩
    · have hall : P.ss.all (fun s => decide (s.us.length ≤ 15)) = true := by
        rw [List.all_eq_true]
        intro s hs
        obtain ⟨j, hj, rfl⟩ := List.mem_iff_getElem.1 hs
        exact decide_eq_true (HK.out j hj (by omega))
      have hfd := HD.out
      unfold fewB at hfd
      rw [hall, Bool.true_and] at hfd
      have hki : ¬ ((k : Int) < P.ss.length) := by omega
      obtain ⟨N, hN⟩ : ∃ n, P.ts.length = n := ⟨_, rfl⟩
      obtain ⟨M, hM⟩ : ∃ n, P.ss.length = n := ⟨_, rfl⟩
      rw [hN] at d0 hfd
      rw [hM] at d1 hfd hki
      have HF := Lib.hid hfd
      clear hfd hall HK HD q hN hM
      by_cases a1 : (N : Int) ≤ 6 <;> by_cases a2 : (N : Int) > 12 <;> by_cases a3 : (N : Int) ≤ 16 <;> by_cases a4 : (M : Int) ≤ 10 <;> by_cases a5 : (M : Int) > 40 <;> by_cases a6 : (M : Int) ≤ 50 <;> first
        | (exfalso; clear HF; omega)
        | (go_wp2_with fail
           go_ret
           refine ⟨ret_bool ?_, hx⟩
           rw [← HF.out]
           simp
           omega)
end Go.Proofs.Ytiofdfjcaklmcaa
