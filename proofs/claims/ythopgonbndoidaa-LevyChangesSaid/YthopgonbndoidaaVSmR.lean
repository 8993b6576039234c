/- SameRatios of the specification, slices.Equal at fractions, CheckShares of both. -/
import Derived.Test.YthopgonbndoidaaVRSs
import Derived.Test.YthopgonbndoidaaVRDv
namespace Go.Proofs.Ythopgonbndoidaa
open Go.RowKit Go.Shelf

set_option maxRecDepth 100000 in
set_option maxHeartbeats 4000000 in
theorem refSameR_any (v u : Value) (l r : List Ra) (w : World) (hl : RasAt w v l) (hr : RasAt w u r) (hn : l.length ≤ 1000000) :
    Calls Try.prog 33 #[v, u] w fun e w' => e = .returned (.bool (decide (l = r))) ∧ Ext w w' := by
  obtain ⟨ao, cap, rfl, hcap⟩ := hl.len
  obtain ⟨bo, cap2, rfl, hcap2⟩ := hr.len
  obtain ⟨D, hD⟩ : ∃ D, decide (l = r) = D := ⟨_, rfl⟩
  have HD := Lib.hid hD
  rw [hD]
  clear hD
  by_cases hlen : l.length = r.length
  · have HL := Lib.hid hlen
    have hb : ((l.length : Int) == (r.length : Int)) = true := by simp [hlen]
    rw [← hlen]
    clear hlen hb
    go_enter Try.func33, Try.ntmps33
    go_wp2_with fail
    go_loopw [5] (fun i wr => ∃ k : Nat, k ≤ l.length ∧ i = .int .i64 k ∧ Hid (∀ j (h : j < l.length) (h' : j < r.length), j < k → l[j] = r[j]) ∧ Ext w wr) (fun i _ => l.length - (intOf i).toNat)
    case atStart => exact ⟨0, Nat.zero_le _, rfl, Lib.hid (fun _ _ _ h => by omega), Ext.refl _⟩
    case round =>
      obtain ⟨k, hk, rfl, HK, hx⟩ := hrel
      by_cases hlt : k < l.length
      · have hlt2 : k < r.length := by have := HL.out; omega
        have hr' := hr.ext hx
        obtain ⟨b, o, rfl, c0, c1⟩ := (hl.ext hx).get k hlt
        obtain ⟨b2, o2, rfl, c2, c3⟩ := hr'.get k hlt2
        obtain ⟨x, hxx⟩ : ∃ x, l[k].n = x := ⟨_, rfl⟩
        obtain ⟨z, hzz⟩ : ∃ x, l[k].d = x := ⟨_, rfl⟩
        obtain ⟨y, hyy⟩ : ∃ x, r[k].n = x := ⟨_, rfl⟩
        obtain ⟨t, htt⟩ : ∃ x, r[k].d = x := ⟨_, rfl⟩
        rw [hxx] at c0
        rw [hzz] at c1
        rw [hyy] at c2
        rw [htt] at c3
        have hkr : (k : Int) < (r.length : Int) := by omega
        by_cases hq : x = y ∧ z = t
        · have HK2 : Hid (∀ j (h : j < l.length) (h' : j < r.length), j < k + 1 → l[j] = r[j]) := Lib.hid (fun j h h' hj => by
            by_cases hjk : j = k
            · subst hjk
              have e1 : l[j] = ⟨l[j].n, l[j].d⟩ := rfl
              have e2 : r[j] = ⟨r[j].n, r[j].d⟩ := rfl
              rw [e1, e2, hxx, hzz, hyy, htt, hq.1, hq.2]
            · exact HK.out j h h' (by omega))
          obtain ⟨rfl, rfl⟩ := hq
          clear hxx hyy hzz htt HK hr'
          go_wp2_with fail
          (try go_quiet (fail))
          (try go_wp2_with fail)
          go_roundw
          case rel => exact ⟨k + 1, by omega, by go_num, HK2, hx.trans (by repeat (first | exact Ext.refl _ | assumption | refine Ext.alloc ?_ _ | refine Ext.drew ?_ | refine Ext.drewN _ ?_ | refine Ext.trans ?_ (by assumption)))⟩
          case measure => simp [intOf]; omega
        · have hm : D = false := by
            rw [← HD.out, decide_eq_false_iff_not]
            intro he
            subst he
            exact hq ⟨by rw [← hxx, ← hyy], by rw [← hzz, ← htt]⟩
          have HM := Lib.hid hm
          clear hxx hyy hzz htt hm HK hr'
          cases hxb : (x == y)
          · have hxb2 : (x != y) = true := by simp [bne, hxb]
            go_wp2_with fail
            (try go_quiet (fail))
            (try go_wp2_with fail)
            go_ret
            exact ⟨ret_bool HM.out.symm, hx.trans (by repeat (first | exact Ext.refl _ | assumption | refine Ext.alloc ?_ _ | refine Ext.drew ?_ | refine Ext.drewN _ ?_ | refine Ext.trans ?_ (by assumption)))⟩
          · have hxe : x = y := by simpa using hxb
            have hze : ¬ z = t := fun h => hq ⟨hxe, h⟩
            have hzb : (z == t) = false := by simpa using hze
            subst hxe
            clear hq
            go_wp2_with fail
            (try go_quiet (fail))
            (try go_wp2_with fail)
            go_ret
            exact ⟨ret_bool HM.out.symm, hx.trans (by repeat (first | exact Ext.refl _ | assumption | refine Ext.alloc ?_ _ | refine Ext.drew ?_ | refine Ext.drewN _ ?_ | refine Ext.trans ?_ (by assumption)))⟩
      · have hm : D = true := by
          rw [← HD.out, decide_eq_true_eq]
          exact List.ext_getElem HL.out (fun j h1 h2 => HK.out j h1 h2 (by omega))
        have HM := Lib.hid hm
        clear hm HK
        go_wp2
        go_ret
        exact ⟨ret_bool HM.out.symm, hx⟩
  · have hm : D = false := by
      rw [← HD.out, decide_eq_false_iff_not]
      intro he
      exact hlen (by rw [he])
    have HM := Lib.hid hm
    have hne : ¬ ((l.length : Int) = (r.length : Int)) := by omega
    clear hm hlen
    go_enter Try.func33, Try.ntmps33
    go_wp2
    go_ret
    exact ⟨ret_bool HM.out.symm, Ext.refl _⟩

end Go.Proofs.Ythopgonbndoidaa
