/- SameRatios of the specification, slices.Equal at fractions, CheckShares of both. -/
import Derived.Test.YthopgonbndoidaaGreatVRSs
import Derived.Test.YthopgonbndoidaaGreatVRDv
namespace Go.Proofs.YthopgonbndoidaaGreat
open Go.RowKit Go.Shelf

set_option maxRecDepth 100000 in
set_option maxHeartbeats 4000000 in
theorem refSameR_any (v u : Value) (l r : List Ra) (w : World) (hl : RasAt w v l) (hr : RasAt w u r) (hn : l.length ≤ 1000000) :
    Calls Tryz.prog 27 #[v, u] w fun e w' => e = .returned (.bool (decide (l = r))) ∧ Ext w w' := by
  obtain ⟨ao, cap, rfl, hcap⟩ := hl.len
  obtain ⟨bo, cap2, rfl, hcap2⟩ := hr.len
  obtain ⟨D, hD⟩ : ∃ D, decide (l = r) = D := ⟨_, rfl⟩
  have HD := Lib.hid hD
  rw [hD]
  clear hD
  by_cases hlen : l.length = r.length
  · have HL := Lib.hid hlen
    have hb : ((l.length : Int) == (r.length : Int)) = true := by simp [hlen]
    rw [← hlen]
    clear hlen hb
    go_enter Tryz.func27, Tryz.ntmps27
    go_wp2_with fail
    go_loopw [5] (fun i wr => ∃ k : Nat, k ≤ l.length ∧ i = .int .i64 k ∧ Hid (∀ j (h : j < l.length) (h' : j < r.length), j < k → l[j] = r[j]) ∧ Ext w wr) (fun i _ => l.length - (intOf i).toNat)
    case atStart => exact ⟨0, Nat.zero_le _, rfl, Lib.hid (fun _ _ _ h => by omega), Ext.refl _⟩
    case round =>
      obtain ⟨k, hk, rfl, HK, hx⟩ := hrel
      by_cases hlt : k < l.length
      · have hlt2 : k < r.length := by have := HL.out; omega
        have hr' := hr.ext hx
        obtain ⟨b, o, rfl, c0, c1⟩ := (hl.ext hx).get k hlt
        obtain ⟨b2, o2, rfl, c2, c3⟩ := hr'.get k hlt2
        obtain ⟨x, hxx⟩ : ∃ x, l[k].n = x := ⟨_, rfl⟩
        obtain ⟨z, hzz⟩ : ∃ x, l[k].d = x := ⟨_, rfl⟩
        obtain ⟨y, hyy⟩ : ∃ x, r[k].n = x := ⟨_, rfl⟩
        obtain ⟨t, htt⟩ : ∃ x, r[k].d = x := ⟨_, rfl⟩
        rw [hxx] at c0
        rw [hzz] at c1
        rw [hyy] at c2
        rw [htt] at c3
        have hkr : (k : Int) < (r.length : Int) := by omega
        by_cases hq : x = y ∧ z = t
        · have HK2 : Hid (∀ j (h : j < l.length) (h' : j < r.length), j < k + 1 → l[j] = r[j]) := Lib.hid (fun j h h' hj => by
            by_cases hjk : j = k
            · subst hjk
              have e1 : l[j] = ⟨l[j].n, l[j].d⟩ := rfl
              have e2 : r[j] = ⟨r[j].n, r[j].d⟩ := rfl
              rw [e1, e2, hxx, hzz, hyy, htt, hq.1, hq.2]
            · exact HK.out j h h' (by omega))
          obtain ⟨rfl, rfl⟩ := hq
          clear hxx hyy hzz htt HK hr'
          go_wp2_with fail
          (try go_quiet (fail))
          (try go_wp2_with fail)
          go_roundw
          case rel => exact ⟨k + 1, by omega, by go_num, HK2, hx.trans (by repeat (first | exact Ext.refl _ | assumption | refine Ext.alloc ?_ _ | refine Ext.drew ?_ | refine Ext.drewN _ ?_ | refine Ext.trans ?_ (by assumption)))⟩
          case measure => simp [intOf]; omega
        · have hm : D = false := by
            rw [← HD.out, decide_eq_false_iff_not]
            intro he
            subst he
            exact hq ⟨by rw [← hxx, ← hyy], by rw [← hzz, ← htt]⟩
          have HM := Lib.hid hm
          clear hxx hyy hzz htt hm HK hr'
          cases hxb : (x == y)
          · have hxb2 : (x != y) = true := by simp [bne, hxb]
            go_wp2_with fail
            (try go_quiet (fail))
            (try go_wp2_with fail)
            go_ret
            exact ⟨ret_bool HM.out.symm, hx.trans (by repeat (first | exact Ext.refl _ | assumption | refine Ext.alloc ?_ _ | refine Ext.drew ?_ | refine Ext.drewN _ ?_ | refine Ext.trans ?_ (by assumption)))⟩
          · have hxe : x = y := by simpa using hxb
            have hze : ¬ z = t := fun h => hq ⟨hxe, h⟩
            have hzb : (z == t) = false := by simpa using hze
            subst hxe
            clear hq
            go_wp2_with fail
            (try go_quiet (fail))
            (try go_wp2_with fail)
            go_ret
            exact ⟨ret_bool HM.out.symm, hx.trans (by repeat (first | exact Ext.refl _ | assumption | refine Ext.alloc ?_ _ | refine Ext.drew ?_ | refine Ext.drewN _ ?_ | refine Ext.trans ?_ (by assumption)))⟩
      · have hm : D = true := by
          rw [← HD.out, decide_eq_true_eq]
          exact List.ext_getElem HL.out (fun j h1 h2 => HK.out j h1 h2 (by omega))
        have HM := Lib.hid hm
        clear hm HK
        go_wp2
        go_ret
        exact ⟨ret_bool HM.out.symm, hx⟩
  · have hm : D = false := by
      rw [← HD.out, decide_eq_false_iff_not]
      intro he
      exact hlen (by rw [he])
    have HM := Lib.hid hm
    have hne : ¬ ((l.length : Int) = (r.length : Int)) := by omega
    clear hm hlen
    go_enter Tryz.func27, Tryz.ntmps27
    go_wp2
    go_ret
    exact ⟨ret_bool HM.out.symm, Ext.refl _⟩

set_option maxRecDepth 100000 in
set_option maxHeartbeats 4000000 in
theorem equalR_any (v u : Value) (l r : List Ra) (w : World) (hl : RasAt w v l) (hr : RasAt w u r) (hn : l.length ≤ 1000000) :
    Calls Tryz.prog 75 #[v, u] w fun e w' => e = .returned (.bool (decide (l = r))) ∧ Ext w w' := by
  obtain ⟨ao, cap, rfl, hcap⟩ := hl.len
  obtain ⟨bo, cap2, rfl, hcap2⟩ := hr.len
  obtain ⟨D, hD⟩ : ∃ D, decide (l = r) = D := ⟨_, rfl⟩
  have HD := Lib.hid hD
  rw [hD]
  clear hD
  by_cases hlen : l.length = r.length
  · have HL := Lib.hid hlen
    have hb : ((l.length : Int) == (r.length : Int)) = true := by simp [hlen]
    rw [← hlen]
    clear hlen hb
    go_enter Tryz.func75, Tryz.ntmps75
    go_wp2_with fail
    go_loopw [13] (fun i wr => ∃ k : Nat, k ≤ l.length ∧ i = .int .i64 k ∧ Hid (∀ j (h : j < l.length) (h' : j < r.length), j < k → l[j] = r[j]) ∧ Ext w wr) (fun i _ => l.length - (intOf i).toNat)
    case atStart => exact ⟨0, Nat.zero_le _, rfl, Lib.hid (fun _ _ _ h => by omega), Ext.refl _⟩
    case round =>
      obtain ⟨k, hk, rfl, HK, hx⟩ := hrel
      by_cases hlt : k < l.length
      · have hlt2 : k < r.length := by have := HL.out; omega
        have hr' := hr.ext hx
        obtain ⟨b, o, rfl, c0, c1⟩ := (hl.ext hx).get k hlt
        obtain ⟨b2, o2, rfl, c2, c3⟩ := hr'.get k hlt2
        obtain ⟨x, hxx⟩ : ∃ x, l[k].n = x := ⟨_, rfl⟩
        obtain ⟨z, hzz⟩ : ∃ x, l[k].d = x := ⟨_, rfl⟩
        obtain ⟨y, hyy⟩ : ∃ x, r[k].n = x := ⟨_, rfl⟩
        obtain ⟨t, htt⟩ : ∃ x, r[k].d = x := ⟨_, rfl⟩
        rw [hxx] at c0
        rw [hzz] at c1
        rw [hyy] at c2
        rw [htt] at c3
        have hkr : (k : Int) < (r.length : Int) := by omega
        by_cases hq : x = y ∧ z = t
        · have HK2 : Hid (∀ j (h : j < l.length) (h' : j < r.length), j < k + 1 → l[j] = r[j]) := Lib.hid (fun j h h' hj => by
            by_cases hjk : j = k
            · subst hjk
              have e1 : l[j] = ⟨l[j].n, l[j].d⟩ := rfl
              have e2 : r[j] = ⟨r[j].n, r[j].d⟩ := rfl
              rw [e1, e2, hxx, hzz, hyy, htt, hq.1, hq.2]
            · exact HK.out j h h' (by omega))
          obtain ⟨rfl, rfl⟩ := hq
          clear hxx hyy hzz htt HK hr'
          go_wp2_with fail
          (try go_quiet (fail))
          (try go_wp2_with fail)
          go_roundw
          case rel => exact ⟨k + 1, by omega, by go_num, HK2, hx.trans (by repeat (first | exact Ext.refl _ | assumption | refine Ext.alloc ?_ _ | refine Ext.drew ?_ | refine Ext.drewN _ ?_ | refine Ext.trans ?_ (by assumption)))⟩
          case measure => simp [intOf]; omega
        · have hm : D = false := by
            rw [← HD.out, decide_eq_false_iff_not]
            intro he
            subst he
            exact hq ⟨by rw [← hxx, ← hyy], by rw [← hzz, ← htt]⟩
          have HM := Lib.hid hm
          clear hxx hyy hzz htt hm HK hr'
          cases hxb : (x == y)
          · have hxb2 : (x != y) = true := by simp [bne, hxb]
            go_wp2_with fail
            (try go_quiet (fail))
            (try go_wp2_with fail)
            go_ret
            exact ⟨ret_bool HM.out.symm, hx.trans (by repeat (first | exact Ext.refl _ | assumption | refine Ext.alloc ?_ _ | refine Ext.drew ?_ | refine Ext.drewN _ ?_ | refine Ext.trans ?_ (by assumption)))⟩
          · have hxe : x = y := by simpa using hxb
            have hze : ¬ z = t := fun h => hq ⟨hxe, h⟩
            have hzb : (z == t) = false := by simpa using hze
            subst hxe
            clear hq
            go_wp2_with fail
            (try go_quiet (fail))
            (try go_wp2_with fail)
            go_ret
            exact ⟨ret_bool HM.out.symm, hx.trans (by repeat (first | exact Ext.refl _ | assumption | refine Ext.alloc ?_ _ | refine Ext.drew ?_ | refine Ext.drewN _ ?_ | refine Ext.trans ?_ (by assumption)))⟩
      · have hm : D = true := by
          rw [← HD.out, decide_eq_true_eq]
          exact List.ext_getElem HL.out (fun j h1 h2 => HK.out j h1 h2 (by omega))
        have HM := Lib.hid hm
        clear hm HK
        go_wp2
        go_ret
        exact ⟨ret_bool HM.out.symm, hx⟩
  · have hm : D = false := by
      rw [← HD.out, decide_eq_false_iff_not]
      intro he
      exact hlen (by rw [he])
    have HM := Lib.hid hm
    have hne : ¬ ((l.length : Int) = (r.length : Int)) := by omega
    clear hm hlen
    go_enter Tryz.func75, Tryz.ntmps75
    go_wp2
    go_ret
    exact ⟨ret_bool HM.out.symm, Ext.refl _⟩

def cksE (T : Tr) (l : List Ra) : Int := if chkE T = 0 then (if l = shL T T.ps then 0 else 8) else chkE T
set_option maxRecDepth 100000 in
set_option maxHeartbeats 4000000 in
theorem CheckShares_any (a b v : Value) (T : Tr) (l : List Ra) (w : World) (hT : TrAt w a b T) (hl : RasAt w v l) (hn : l.length ≤ 100000) :
    Calls Tryz.prog 28 #[.agg #[a, b], v] w fun e w' => e = .returned (.int .i64 (cksE T l)) ∧ Ext w w' := by
  have hE : cksE T l = if chkE T = 0 then (if decide (l = shL T T.ps) = true then 0 else 8) else chkE T := by unfold cksE; simp only [decide_eq_true_eq]
  have hok := @Ok.of T
  have KC := fun W (h : Ext w W) => Check_any a b T W (hT.ext h)
  have KD := fun (h : Ok T) W (hx : Ext w W) => shares_any a b T h W (hT.ext hx)
  have KE := fun u W (hx : Ext w W) (hu : RasAt W u (shL T T.ps)) => equalR_any v u l (shL T T.ps) W (hl.ext hx) hu (by omega)
  obtain ⟨E, hEE⟩ : ∃ E, chkE T = E := ⟨_, rfl⟩
  obtain ⟨L, hLL⟩ : ∃ E, shL T T.ps = E := ⟨_, rfl⟩
  obtain ⟨X, hXX⟩ : ∃ E, cksE T l = E := ⟨_, rfl⟩
  rw [hEE] at hE KC hok
  rw [hLL] at hE KD KE
  rw [hXX] at hE
  rw [hXX]
  obtain ⟨D, hDD⟩ : ∃ D, decide (l = L) = D := ⟨_, rfl⟩
  rw [hDD] at hE KE
  have HE := Lib.hid hE
  have HKD := Lib.hid KD
  have HKE := Lib.hid KE
  clear hE KD KE hEE hLL hXX hDD
  go_enter Tryz.func28, Tryz.ntmps28
  go_wp2_with fail
  refine (KC _ (by repeat (first | exact Ext.refl _ | assumption | refine Ext.alloc ?_ _ | refine Ext.drew ?_ | refine Ext.drewN _ ?_ | refine Ext.trans ?_ (by assumption)))).mono ?_
  rintro e w1 ⟨rfl, hx1⟩
  obtain ⟨q0, hx, hk0⟩ := alloc1 hx1
  have d0 : w1.cell? ⟨w.heap.size, 0, none⟩ = some a := q0.cell 0
  have d1 : w1.cell? ⟨w.heap.size, 1, none⟩ = some b := q0.cell 1
  clear hx1 q0 KC
  by_cases h0 : E = 0
  · have hb : (E != 0) = false := by simpa using h0
    have he := HE.out
    rw [if_pos h0] at he
    have HE2 := Lib.hid he
    have KD2 := HKD.out (hok h0)
    clear he h0 hok
    go_wp2_with fail
    refine (KD2 _ hx).mono ?_
    rintro e w2 ⟨u, rfl, hu, hz⟩
    have hx2 := hx.trans hz
    clear KD2 d0 d1
    go_wp2_with fail
    refine (HKE.out _ _ hx2 (by first | exact hu | exact hu.at_)).mono ?_
    rintro e w3 ⟨rfl, hz2⟩
    cases D
    · have he := HE2.out
      rw [if_neg (by decide)] at he
      have HE3 := Lib.hid he
      clear he
      go_wp2_with fail
      go_ret
      exact ⟨ret_int HE3.out.symm, hx2.trans hz2⟩
    · have he := HE2.out
      rw [if_pos rfl] at he
      have HE3 := Lib.hid he
      clear he
      go_wp2_with fail
      go_ret
      exact ⟨ret_int HE3.out.symm, hx2.trans hz2⟩
  · have hb : (E != 0) = true := by simpa using h0
    have he := HE.out
    rw [if_neg h0] at he
    have HE2 := Lib.hid he
    clear he h0 hok
    go_wp2_with fail
    go_ret
    exact ⟨ret_int HE2.out.symm, hx⟩

set_option maxRecDepth 100000 in
set_option maxHeartbeats 4000000 in
theorem refCheckShares_any (a b v : Value) (T : Tr) (l : List Ra) (w : World) (hT : TrAt w a b T) (hl : RasAt w v l) (hn : l.length ≤ 100000) :
    Calls Tryz.prog 29 #[.agg #[a, b], v] w fun e w' => e = .returned (.int .i64 (cksE T l)) ∧ Ext w w' := by
  have hE : cksE T l = if chkE T = 0 then (if decide (l = shL T T.ps) = true then 0 else 8) else chkE T := by unfold cksE; simp only [decide_eq_true_eq]
  have hok := @Ok.of T
  have KC := fun W (h : Ext w W) => refCheck_any a b T W (hT.ext h)
  have KD := fun (h : Ok T) W (hx : Ext w W) => refShares0_any a b T h W (hT.ext hx)
  have KE := fun u W (hx : Ext w W) (hu : RasAt W u (shL T T.ps)) => refSameR_any v u l (shL T T.ps) W (hl.ext hx) hu (by omega)
  obtain ⟨E, hEE⟩ : ∃ E, chkE T = E := ⟨_, rfl⟩
  obtain ⟨L, hLL⟩ : ∃ E, shL T T.ps = E := ⟨_, rfl⟩
  obtain ⟨X, hXX⟩ : ∃ E, cksE T l = E := ⟨_, rfl⟩
  rw [hEE] at hE KC hok
  rw [hLL] at hE KD KE
  rw [hXX] at hE
  rw [hXX]
  obtain ⟨D, hDD⟩ : ∃ D, decide (l = L) = D := ⟨_, rfl⟩
  rw [hDD] at hE KE
  have HE := Lib.hid hE
  have HKD := Lib.hid KD
  have HKE := Lib.hid KE
  clear hE KD KE hEE hLL hXX hDD
  go_enter Tryz.func29, Tryz.ntmps29
  go_wp2_with fail
  refine (KC _ (by repeat (first | exact Ext.refl _ | assumption | refine Ext.alloc ?_ _ | refine Ext.drew ?_ | refine Ext.drewN _ ?_ | refine Ext.trans ?_ (by assumption)))).mono ?_
  rintro e w1 ⟨rfl, hx1⟩
  obtain ⟨q0, hx, hk0⟩ := alloc1 hx1
  have d0 : w1.cell? ⟨w.heap.size, 0, none⟩ = some a := q0.cell 0
  have d1 : w1.cell? ⟨w.heap.size, 1, none⟩ = some b := q0.cell 1
  clear hx1 q0 KC
  by_cases h0 : E = 0
  · have hb : (E != 0) = false := by simpa using h0
    have he := HE.out
    rw [if_pos h0] at he
    have HE2 := Lib.hid he
    have KD2 := HKD.out (hok h0)
    clear he h0 hok
    go_wp2_with fail
    refine (KD2 _ hx).mono ?_
    rintro e w2 ⟨u, rfl, hu, hz⟩
    have hx2 := hx.trans hz
    clear KD2 d0 d1
    go_wp2_with fail
    refine (HKE.out _ _ hx2 (by first | exact hu | exact hu.at_)).mono ?_
    rintro e w3 ⟨rfl, hz2⟩
    cases D
    · have he := HE2.out
      rw [if_neg (by decide)] at he
      have HE3 := Lib.hid he
      clear he
      go_wp2_with fail
      go_ret
      exact ⟨ret_int HE3.out.symm, hx2.trans hz2⟩
    · have he := HE2.out
      rw [if_pos rfl] at he
      have HE3 := Lib.hid he
      clear he
      go_wp2_with fail
      go_ret
      exact ⟨ret_int HE3.out.symm, hx2.trans hz2⟩
  · have hb : (E != 0) = true := by simpa using h0
    have he := HE.out
    rw [if_neg h0] at he
    have HE2 := Lib.hid he
    clear he h0 hok
    go_wp2_with fail
    go_ret
    exact ⟨ret_int HE2.out.symm, hx⟩

end Go.Proofs.YthopgonbndoidaaGreat
