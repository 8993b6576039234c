/- dues, Purse of both; Arrears of both. -/
import Derived.Test.YthopgonbndoidaaGreatVRPn
import Derived.Test.YthopgonbndoidaaGreatVTre
import Derived.Test.YthopgonbndoidaaGreatVRFai
namespace Go.Proofs.YthopgonbndoidaaGreat
open Go.RowKit Go.Shelf Go.Lib

structure Du where
  id : Int
  day : Int
  p : Int
def fD (d : Du) : List Int := [d.id, d.day, d.p]
abbrev DusAt (W : World) (v : Value) (l : List Du) : Prop := SeqK fD 3 W v l
theorem dus_len {W : World} {v : Value} {l : List Du} (h : DusAt W v l) : ∃ ao cap, v = .slice ao l.length cap ∧ l.length ≤ cap := by obtain ⟨ao, cap, hv, hle, _⟩ := h; exact ⟨ao, cap, hv, hle⟩
theorem dus_get {W : World} {ao : Option Addr} {n cap : Nat} {l : List Du} (h : DusAt W (.slice ao n cap) l) (i : Nat) (hi : i < l.length) : ∃ b o, ao = some ⟨b, o, none⟩ ∧
    W.cell? ⟨b, o + i * 3, none⟩ = some (.int .i64 (l[i].id)) ∧ W.cell? ⟨b, o + i * 3 + 1, none⟩ = some (.int .i64 (l[i].day)) ∧ W.cell? ⟨b, o + i * 3 + 2, none⟩ = some (.int .i64 (l[i].p)) := by
  obtain ⟨ao', cap', hv, _, hc⟩ := h
  simp only [Value.slice.injEq] at hv
  obtain ⟨rfl, rfl, rfl⟩ := hv
  obtain ⟨b, o, h0, h1⟩ := hc i hi
  exact ⟨b, o, h0, h1 0 (by decide), h1 1 (by decide), h1 2 (by decide)⟩
/-- a payment that is right; the error of payments -/
def duB (T : Tr) (d : Du) : Bool := !(decide (fnd T.ps d.id < 0)) && (inB d.day 0 728 && inB d.p 1 1073741824)
def duE (T : Tr) (l : List Du) (day : Int) : Int := if chkE T = 0 then (if 200 < l.length then 2 else if l.all (duB T) = true then (if inB day 0 728 = true then 0 else 1) else 1) else chkE T
theorem duE_ok {T : Tr} {l : List Du} {day : Int} (h : duE T l day = 0) : Ok T ∧ l.length ≤ 200 ∧ ∀ d ∈ l, duB T d = true := by
  unfold duE at h
  split at h
  · rename_i h0
    split at h
    · cases h
    · split at h
      · rename_i h2
        exact ⟨Ok.of h0, by omega, fun d hd => List.all_eq_true.1 h2 d hd⟩
      · cases h
  · exact absurd h (by assumption)
theorem all_bad {T : Tr} {l : List Du} {k : Nat} (h : k < l.length) (hb : duB T l[k] = false) : l.all (duB T) = false := by
  rw [List.all_eq_false]
  exact ⟨l[k], List.getElem_mem h, by rw [hb]; decide⟩
theorem all_good {T : Tr} {l : List Du} (h : ∀ j (hj : j < l.length), duB T l[j] = true) : l.all (duB T) = true := by
  rw [List.all_eq_true]
  intro d hd
  obtain ⟨j, hj, rfl⟩ := List.mem_iff_getElem.1 hd
  exact h j hj

set_option maxRecDepth 100000 in
set_option maxHeartbeats 8000000 in
theorem dues_any (a b v : Value) (T : Tr) (l : List Du) (day : Int) (w : World) (hT : TrAt w a b T) (hl : DusAt w v l) (hp : T.ps.length ≤ 1000) :
    Calls Tryz.prog 76 #[.agg #[a, b], v, .int .i64 day] w fun e w' => e = .returned (.int .i64 (duE T l day)) ∧ Ext w w' := by
  have hE : duE T l day = if chkE T = 0 then (if 200 < l.length then 2 else if l.all (duB T) = true then (if inB day 0 728 = true then 0 else 1) else 1) else chkE T := rfl
  have KC := fun W (hx : Ext w W) => Check_any a b T W (hT.ext hx)
  have KF := fun id W (hx : Ext w W) => find_any b T.ps id W (hT.ext hx).p hp
  obtain ⟨av, cv, rfl, hlv⟩ := dus_len hl
  obtain ⟨C, hC⟩ : ∃ E, chkE T = E := ⟨_, rfl⟩
  obtain ⟨E, hEE⟩ : ∃ E, duE T l day = E := ⟨_, rfl⟩
  obtain ⟨D, hD⟩ : ∃ E, inB day 0 728 = E := ⟨_, rfl⟩
  rw [hC] at KC
  rw [hEE, hC, hD] at hE
  rw [hEE]
  have HE := Lib.hid hE
  have HKF := Lib.hid KF
  have HD := Lib.hid hD
  clear hE hC hEE hD KF hT
  go_enter Tryz.func76, Tryz.ntmps76
  go_wp2_with fail
  refine (KC _ (by repeat (first | exact Ext.refl _ | assumption | refine Ext.alloc ?_ _ | refine Ext.drew ?_ | refine Ext.drewN _ ?_ | refine Ext.trans ?_ (by assumption)))).mono ?_
  rintro e w1 ⟨rfl, hx1⟩
  obtain ⟨q0, hx, hk0⟩ := alloc1 hx1
  have d0 : w1.cell? ⟨w.heap.size, 0, none⟩ = some a := q0.cell 0
  have d1 : w1.cell? ⟨w.heap.size, 1, none⟩ = some b := q0.cell 1
  clear hx1 KC
  by_cases h0 : C = 0
  · have hb : (C != 0) = false := by simpa using h0
    have he := HE.out
    rw [if_pos h0] at he
    have HE2 := Lib.hid he
    clear he h0 HE
    by_cases h200 : 200 < l.length
    · have he := HE2.out
      rw [if_pos h200] at he
      have HE3 := Lib.hid he
      have hbq : decide ((l.length : Int) > 200) = true := decide_eq_true (by omega)
      clear he
      go_wp2_with fail
      go_ret
      exact ⟨ret_int HE3.out.symm, hx⟩
    · have he := HE2.out
      rw [if_neg h200] at he
      have HE3 := Lib.hid he
      have hbq : decide ((l.length : Int) > 200) = false := decide_eq_false (by omega)
      clear he HE2
      go_upto_region 7 with fail
      clear d0 d1 hbq
      go_loopw [20] (fun i wr => ∃ k : Nat, k ≤ l.length ∧ i = .int .i64 k ∧ Hid (∀ j (hj : j < l.length), j < k → duB T l[j] = true) ∧ Cls w.heap.size 25 #[a, b] wr ∧ Ext w wr) (fun i _ => l.length - (intOf i).toNat)
      case atStart => exact ⟨0, Nat.zero_le _, rfl, Lib.hid (fun _ _ h => by omega), q0, hx⟩
      case round =>
        clear q0 hx
        obtain ⟨k, hk, rfl, HK, q0, hx⟩ := hrel
        by_cases hlt : k < l.length
        · have hki : (k : Int) < (l.length : Int) := by omega
          obtain ⟨bb, oo, rfl, c0, c1, c2⟩ := dus_get (hl.ext hx) k hlt
          have hdb : duB T l[k] = (!(decide (fnd T.ps l[k].id < 0)) && (inB l[k].day 0 728 && inB l[k].p 1 1073741824)) := rfl
          obtain ⟨x, hxx⟩ : ∃ x, l[k].id = x := ⟨_, rfl⟩
          obtain ⟨y, hyy⟩ : ∃ x, l[k].day = x := ⟨_, rfl⟩
          obtain ⟨z, hzz⟩ : ∃ x, l[k].p = x := ⟨_, rfl⟩
          rw [hxx] at c0 hdb
          rw [hyy] at c1 hdb
          rw [hzz] at c2 hdb
          have KF := HKF.out x
          obtain ⟨I, hI⟩ : ∃ u, fnd T.ps x = u := ⟨_, rfl⟩
          obtain ⟨D1, hD1⟩ : ∃ u, inB y 0 728 = u := ⟨_, rfl⟩
          obtain ⟨D2, hD2⟩ : ∃ u, inB z 1 1073741824 = u := ⟨_, rfl⟩
          rw [hI] at KF hdb
          rw [hD1, hD2] at hdb
          have HD1 := Lib.hid hD1
          have HD2 := Lib.hid hD2
          obtain ⟨N, hN⟩ : ∃ N, decide (I < 0) = N := ⟨_, rfl⟩
          rw [hN] at hdb
          have HDB := Lib.hid hdb
          have hxt : Ext wr (wr.alloc (.cells #[.int .i64 x, .int .i64 y, .int .i64 z] 110)) := (by repeat (first | exact Ext.refl _ | assumption | refine Ext.alloc ?_ _ | refine Ext.drew ?_ | refine Ext.drewN _ ?_ | refine Ext.trans ?_ (by assumption)))
          have hnew := Cls.new wr 110 #[.int .i64 x, .int .i64 y, .int .i64 z]
          have e0 := (q0.ext hxt).cell 0
          have e1 := (q0.ext hxt).cell 1
          have bad : duB T l[k] = false → Hid (E = 1) := fun h => Lib.hid (by rw [HE3.out, all_bad hlt h]; rfl)
          have good : duB T l[k] = true → Hid (∀ j (hj : j < l.length), j < k + 1 → duB T l[j] = true) := fun h => Lib.hid (fun j hj hjk => by
            by_cases he : j = k
            · subst he; exact h
            · exact HK.out j hj (by omega))
          clear hdb hI hD1 hD2 hxx hyy hzz HK
          cases N with
          | true =>
            have HB := bad (by rw [HDB.out]; rfl)
            clear bad good
            go_wp2_with (first | (go_at_call 69; (with_reducible refine (KF _ ?_).mono ?_); (focus (exact (by repeat (first | exact Ext.refl _ | assumption | refine Ext.alloc ?_ _ | refine Ext.drew ?_ | refine Ext.drewN _ ?_ | refine Ext.trans ?_ (by assumption))))); rintro e w' ⟨rfl, hz⟩; have g1 := (hnew.ext hz).cell 1; have g2 := (hnew.ext hz).cell 2) | (go_at_call 88; refine (within_any _ _ _ _).mono ?_; (first | rw [HD1.out] | rw [HD2.out]); rintro e w' ⟨rfl, rfl⟩))
            go_ret
            exact ⟨ret_int HB.out.symm, hx.trans (by repeat (first | exact Ext.refl _ | assumption | refine Ext.alloc ?_ _ | refine Ext.drew ?_ | refine Ext.drewN _ ?_ | refine Ext.trans ?_ (by assumption)))⟩
          | false =>
            cases D1 with
            | false =>
              have HB := bad (by rw [HDB.out]; rfl)
              clear bad good
              go_wp2_with (first | (go_at_call 69; (with_reducible refine (KF _ ?_).mono ?_); (focus (exact (by repeat (first | exact Ext.refl _ | assumption | refine Ext.alloc ?_ _ | refine Ext.drew ?_ | refine Ext.drewN _ ?_ | refine Ext.trans ?_ (by assumption))))); rintro e w' ⟨rfl, hz⟩; have g1 := (hnew.ext hz).cell 1; have g2 := (hnew.ext hz).cell 2) | (go_at_call 88; refine (within_any _ _ _ _).mono ?_; (first | rw [HD1.out] | rw [HD2.out]); rintro e w' ⟨rfl, rfl⟩))
              go_ret
              exact ⟨ret_int HB.out.symm, hx.trans (by repeat (first | exact Ext.refl _ | assumption | refine Ext.alloc ?_ _ | refine Ext.drew ?_ | refine Ext.drewN _ ?_ | refine Ext.trans ?_ (by assumption)))⟩
            | true =>
              cases D2 with
              | false =>
                have HB := bad (by rw [HDB.out]; rfl)
                clear bad good
                go_wp2_with (first | (go_at_call 69; (with_reducible refine (KF _ ?_).mono ?_); (focus (exact (by repeat (first | exact Ext.refl _ | assumption | refine Ext.alloc ?_ _ | refine Ext.drew ?_ | refine Ext.drewN _ ?_ | refine Ext.trans ?_ (by assumption))))); rintro e w' ⟨rfl, hz⟩; have g1 := (hnew.ext hz).cell 1; have g2 := (hnew.ext hz).cell 2) | (go_at_call 88; refine (within_any _ _ _ _).mono ?_; (first | rw [HD1.out] | rw [HD2.out]); rintro e w' ⟨rfl, rfl⟩))
                go_ret
                exact ⟨ret_int HB.out.symm, hx.trans (by repeat (first | exact Ext.refl _ | assumption | refine Ext.alloc ?_ _ | refine Ext.drew ?_ | refine Ext.drewN _ ?_ | refine Ext.trans ?_ (by assumption)))⟩
              | true =>
                have HG := good (by rw [HDB.out]; rfl)
                clear bad good
                go_wp2_with (first | (go_at_call 69; (with_reducible refine (KF _ ?_).mono ?_); (focus (exact (by repeat (first | exact Ext.refl _ | assumption | refine Ext.alloc ?_ _ | refine Ext.drew ?_ | refine Ext.drewN _ ?_ | refine Ext.trans ?_ (by assumption))))); rintro e w' ⟨rfl, hz⟩; have g1 := (hnew.ext hz).cell 1; have g2 := (hnew.ext hz).cell 2) | (go_at_call 88; refine (within_any _ _ _ _).mono ?_; (first | rw [HD1.out] | rw [HD2.out]); rintro e w' ⟨rfl, rfl⟩))
                go_roundw
                case rel => exact ⟨k + 1, by omega, by go_num, HG, q0.ext (by repeat (first | exact Ext.refl _ | assumption | refine Ext.alloc ?_ _ | refine Ext.drew ?_ | refine Ext.drewN _ ?_ | refine Ext.trans ?_ (by assumption))), hx.trans (by repeat (first | exact Ext.refl _ | assumption | refine Ext.alloc ?_ _ | refine Ext.drew ?_ | refine Ext.drewN _ ?_ | refine Ext.trans ?_ (by assumption)))⟩
                case measure => simp [intOf]; omega
        · obtain rfl : k = l.length := by omega
          have he := HE3.out
          rw [all_good (fun j hj => HK.out j hj hj), if_pos rfl] at he
          cases D with
          | true =>
            rw [if_pos rfl] at he
            have HE4 := Lib.hid he
            clear he
            go_wp2_with (go_at_call 88; refine (within_any _ _ _ _).mono ?_; rw [HD.out]; rintro e w' ⟨rfl, rfl⟩)
            go_ret
            exact ⟨ret_int HE4.out.symm, hx⟩
          | false =>
            rw [if_neg (by decide)] at he
            have HE4 := Lib.hid he
            clear he
            go_wp2_with (go_at_call 88; refine (within_any _ _ _ _).mono ?_; rw [HD.out]; rintro e w' ⟨rfl, rfl⟩)
            go_ret
            exact ⟨ret_int HE4.out.symm, hx⟩
  · have hb : (C != 0) = true := by simpa using h0
    have he := HE.out
    rw [if_neg h0] at he
    have HE2 := Lib.hid he
    clear he h0
    go_wp2_with fail
    go_ret
    exact ⟨ret_int HE2.out.symm, hx⟩
end Go.Proofs.YthopgonbndoidaaGreat
