/- Payments: Arrears and Purse of the program. -/
import Derived.Test.YthopgonbndoidaaVTre
import Derived.Test.YthopgonbndoidaaVBtw
import Derived.Test.YthopgonbndoidaaVMst
namespace Go.Proofs.Ythopgonbndoidaa
open Go.RowKit Go.Shelf Go.Lib

structure Du where
  id : Int
  day : Int
  p : Int
def fD (d : Du) : List Int := [d.id, d.day, d.p]
abbrev DusAt (W : World) (v : Value) (l : List Du) : Prop := SeqK fD 3 W v l
theorem dus_len {W : World} {v : Value} {l : List Du} (h : DusAt W v l) : ∃ ao cap, v = .slice ao l.length cap ∧ l.length ≤ cap := by obtain ⟨ao, cap, hv, hle, _⟩ := h; exact ⟨ao, cap, hv, hle⟩
theorem dus_get {W : World} {ao : Option Addr} {n cap : Nat} {l : List Du} (h : DusAt W (.slice ao n cap) l) (i : Nat) (hi : i < l.length) : ∃ b o, ao = some ⟨b, o, none⟩ ∧
    W.cell? ⟨b, o + i * 3, none⟩ = some (.int .i64 (l[i].id)) ∧ W.cell? ⟨b, o + i * 3 + 1, none⟩ = some (.int .i64 (l[i].day)) ∧ W.cell? ⟨b, o + i * 3 + 2, none⟩ = some (.int .i64 (l[i].p)) := by
  obtain ⟨ao', cap', hv, _, hc⟩ := h
  simp only [Value.slice.injEq] at hv
  obtain ⟨rfl, rfl, rfl⟩ := hv
  obtain ⟨b, o, h0, h1⟩ := hc i hi
  exact ⟨b, o, h0, h1 0 (by decide), h1 1 (by decide), h1 2 (by decide)⟩
/-- a payment that is right; the error of payments -/
def duB (T : Tr) (d : Du) : Bool := !(decide (fnd T.ps d.id < 0)) && (inB d.day 0 728 && inB d.p 1 1073741824)
def duE (T : Tr) (l : List Du) (day : Int) : Int := if chkE T = 0 then (if 200 < l.length then 2 else if l.all (duB T) = true then (if inB day 0 728 = true then 0 else 1) else 1) else chkE T
theorem duE_ok {T : Tr} {l : List Du} {day : Int} (h : duE T l day = 0) : Ok T ∧ l.length ≤ 200 ∧ ∀ d ∈ l, duB T d = true := by
  unfold duE at h
  split at h
  · rename_i h0
    split at h
    · cases h
    · split at h
      · rename_i h2
        exact ⟨Ok.of h0, by omega, fun d hd => List.all_eq_true.1 h2 d hd⟩
      · cases h
  · exact absurd h (by assumption)
theorem all_bad {T : Tr} {l : List Du} {k : Nat} (h : k < l.length) (hb : duB T l[k] = false) : l.all (duB T) = false := by
  rw [List.all_eq_false]
  exact ⟨l[k], List.getElem_mem h, by rw [hb]; decide⟩
theorem all_good {T : Tr} {l : List Du} (h : ∀ j (hj : j < l.length), duB T l[j] = true) : l.all (duB T) = true := by
  rw [List.all_eq_true]
  intro d hd
  obtain ⟨j, hj, rfl⟩ := List.mem_iff_getElem.1 hd
  exact h j hj

set_option maxRecDepth 100000 in
set_option maxHeartbeats 8000000 in
theorem dues_any (a b v : Value) (T : Tr) (l : List Du) (day : Int) (w : World) (hT : TrAt w a b T) (hl : DusAt w v l) (hp : T.ps.length ≤ 1000) :
    Calls Try.prog 87 #[.agg #[a, b], v, .int .i64 day] w fun e w' => e = .returned (.int .i64 (duE T l day)) ∧ Ext w w' := by
  have hE : duE T l day = if chkE T = 0 then (if 200 < l.length then 2 else if l.all (duB T) = true then (if inB day 0 728 = true then 0 else 1) else 1) else chkE T := rfl
  have KC := fun W (hx : Ext w W) => Check_any a b T W (hT.ext hx)
  have KF := fun id W (hx : Ext w W) => find_any b T.ps id W (hT.ext hx).p hp
  obtain ⟨av, cv, rfl, hlv⟩ := dus_len hl
  obtain ⟨C, hC⟩ : ∃ E, chkE T = E := ⟨_, rfl⟩
  obtain ⟨E, hEE⟩ : ∃ E, duE T l day = E := ⟨_, rfl⟩
  obtain ⟨D, hD⟩ : ∃ E, inB day 0 728 = E := ⟨_, rfl⟩
  rw [hC] at KC
  rw [hEE, hC, hD] at hE
  rw [hEE]
  have HE := Lib.hid hE
  have HKF := Lib.hid KF
  have HD := Lib.hid hD
  clear hE hC hEE hD KF hT
  go_enter Try.func87, Try.ntmps87
  go_wp2_with fail
  refine (KC _ (by repeat (first | exact Ext.refl _ | assumption | refine Ext.alloc ?_ _ | refine Ext.drew ?_ | refine Ext.drewN _ ?_ | refine Ext.trans ?_ (by assumption)))).mono ?_
  rintro e w1 ⟨rfl, hx1⟩
  obtain ⟨q0, hx, hk0⟩ := alloc1 hx1
  have d0 : w1.cell? ⟨w.heap.size, 0, none⟩ = some a := q0.cell 0
  have d1 : w1.cell? ⟨w.heap.size, 1, none⟩ = some b := q0.cell 1
  clear hx1 KC
  by_cases h0 : C = 0
  · have hb : (C != 0) = false := by simpa using h0
    have he := HE.out
    rw [if_pos h0] at he
    have HE2 := Lib.hid he
    clear he h0 HE
    by_cases h200 : 200 < l.length
    · have he := HE2.out
      rw [if_pos h200] at he
      have HE3 := Lib.hid he
      have hbq : decide ((l.length : Int) > 200) = true := decide_eq_true (by omega)
      clear he
      go_wp2_with fail
      go_ret
      exact ⟨ret_int HE3.out.symm, hx⟩
    · have he := HE2.out
      rw [if_neg h200] at he
      have HE3 := Lib.hid he
      have hbq : decide ((l.length : Int) > 200) = false := decide_eq_false (by omega)
      clear he HE2
      go_upto_region 7 with fail
      clear d0 d1 hbq
      go_loopw [20] (fun i wr => ∃ k : Nat, k ≤ l.length ∧ i = .int .i64 k ∧ Hid (∀ j (hj : j < l.length), j < k → duB T l[j] = true) ∧ Cls w.heap.size 25 #[a, b] wr ∧ Ext w wr) (fun i _ => l.length - (intOf i).toNat)
      case atStart => exact ⟨0, Nat.zero_le _, rfl, Lib.hid (fun _ _ h => by omega), q0, hx⟩
      case round =>
        clear q0 hx
        obtain ⟨k, hk, rfl, HK, q0, hx⟩ := hrel
        by_cases hlt : k < l.length
        · have hki : (k : Int) < (l.length : Int) := by omega
          obtain ⟨bb, oo, rfl, c0, c1, c2⟩ := dus_get (hl.ext hx) k hlt
          have hdb : duB T l[k] = (!(decide (fnd T.ps l[k].id < 0)) && (inB l[k].day 0 728 && inB l[k].p 1 1073741824)) := rfl
          obtain ⟨x, hxx⟩ : ∃ x, l[k].id = x := ⟨_, rfl⟩
          obtain ⟨y, hyy⟩ : ∃ x, l[k].day = x := ⟨_, rfl⟩
          obtain ⟨z, hzz⟩ : ∃ x, l[k].p = x := ⟨_, rfl⟩
          rw [hxx] at c0 hdb
          rw [hyy] at c1 hdb
          rw [hzz] at c2 hdb
          have KF := HKF.out x
          obtain ⟨I, hI⟩ : ∃ u, fnd T.ps x = u := ⟨_, rfl⟩
          obtain ⟨D1, hD1⟩ : ∃ u, inB y 0 728 = u := ⟨_, rfl⟩
          obtain ⟨D2, hD2⟩ : ∃ u, inB z 1 1073741824 = u := ⟨_, rfl⟩
          rw [hI] at KF hdb
          rw [hD1, hD2] at hdb
          have HD1 := Lib.hid hD1
          have HD2 := Lib.hid hD2
          obtain ⟨N, hN⟩ : ∃ N, decide (I < 0) = N := ⟨_, rfl⟩
          rw [hN] at hdb
          have HDB := Lib.hid hdb
          have hxt : Ext wr (wr.alloc (.cells #[.int .i64 x, .int .i64 y, .int .i64 z] 84)) := (by repeat (first | exact Ext.refl _ | assumption | refine Ext.alloc ?_ _ | refine Ext.drew ?_ | refine Ext.drewN _ ?_ | refine Ext.trans ?_ (by assumption)))
          have hnew := Cls.new wr 84 #[.int .i64 x, .int .i64 y, .int .i64 z]
          have e0 := (q0.ext hxt).cell 0
          have e1 := (q0.ext hxt).cell 1
          have bad : duB T l[k] = false → Hid (E = 1) := fun h => Lib.hid (by rw [HE3.out, all_bad hlt h]; rfl)
          have good : duB T l[k] = true → Hid (∀ j (hj : j < l.length), j < k + 1 → duB T l[j] = true) := fun h => Lib.hid (fun j hj hjk => by
            by_cases he : j = k
            · subst he; exact h
            · exact HK.out j hj (by omega))
          clear hdb hI hD1 hD2 hxx hyy hzz HK
          cases N with
          | true =>
            have HB := bad (by rw [HDB.out]; rfl)
            clear bad good
            go_wp2_with (first | (go_at_call 60; (with_reducible refine (KF _ ?_).mono ?_); (focus (exact (by repeat (first | exact Ext.refl _ | assumption | refine Ext.alloc ?_ _ | refine Ext.drew ?_ | refine Ext.drewN _ ?_ | refine Ext.trans ?_ (by assumption))))); rintro e w' ⟨rfl, hz⟩; have g1 := (hnew.ext hz).cell 1; have g2 := (hnew.ext hz).cell 2) | (go_at_call 64; refine (within_any _ _ _ _).mono ?_; (first | rw [HD1.out] | rw [HD2.out]); rintro e w' ⟨rfl, rfl⟩))
            go_ret
            exact ⟨ret_int HB.out.symm, hx.trans (by repeat (first | exact Ext.refl _ | assumption | refine Ext.alloc ?_ _ | refine Ext.drew ?_ | refine Ext.drewN _ ?_ | refine Ext.trans ?_ (by assumption)))⟩
          | false =>
            cases D1 with
            | false =>
              have HB := bad (by rw [HDB.out]; rfl)
              clear bad good
              go_wp2_with (first | (go_at_call 60; (with_reducible refine (KF _ ?_).mono ?_); (focus (exact (by repeat (first | exact Ext.refl _ | assumption | refine Ext.alloc ?_ _ | refine Ext.drew ?_ | refine Ext.drewN _ ?_ | refine Ext.trans ?_ (by assumption))))); rintro e w' ⟨rfl, hz⟩; have g1 := (hnew.ext hz).cell 1; have g2 := (hnew.ext hz).cell 2) | (go_at_call 64; refine (within_any _ _ _ _).mono ?_; (first | rw [HD1.out] | rw [HD2.out]); rintro e w' ⟨rfl, rfl⟩))
              go_ret
              exact ⟨ret_int HB.out.symm, hx.trans (by repeat (first | exact Ext.refl _ | assumption | refine Ext.alloc ?_ _ | refine Ext.drew ?_ | refine Ext.drewN _ ?_ | refine Ext.trans ?_ (by assumption)))⟩
            | true =>
              cases D2 with
              | false =>
                have HB := bad (by rw [HDB.out]; rfl)
                clear bad good
                go_wp2_with (first | (go_at_call 60; (with_reducible refine (KF _ ?_).mono ?_); (focus (exact (by repeat (first | exact Ext.refl _ | assumption | refine Ext.alloc ?_ _ | refine Ext.drew ?_ | refine Ext.drewN _ ?_ | refine Ext.trans ?_ (by assumption))))); rintro e w' ⟨rfl, hz⟩; have g1 := (hnew.ext hz).cell 1; have g2 := (hnew.ext hz).cell 2) | (go_at_call 64; refine (within_any _ _ _ _).mono ?_; (first | rw [HD1.out] | rw [HD2.out]); rintro e w' ⟨rfl, rfl⟩))
                go_ret
                exact ⟨ret_int HB.out.symm, hx.trans (by repeat (first | exact Ext.refl _ | assumption | refine Ext.alloc ?_ _ | refine Ext.drew ?_ | refine Ext.drewN _ ?_ | refine Ext.trans ?_ (by assumption)))⟩
              | true =>
                have HG := good (by rw [HDB.out]; rfl)
                clear bad good
                go_wp2_with (first | (go_at_call 60; (with_reducible refine (KF _ ?_).mono ?_); (focus (exact (by repeat (first | exact Ext.refl _ | assumption | refine Ext.alloc ?_ _ | refine Ext.drew ?_ | refine Ext.drewN _ ?_ | refine Ext.trans ?_ (by assumption))))); rintro e w' ⟨rfl, hz⟩; have g1 := (hnew.ext hz).cell 1; have g2 := (hnew.ext hz).cell 2) | (go_at_call 64; refine (within_any _ _ _ _).mono ?_; (first | rw [HD1.out] | rw [HD2.out]); rintro e w' ⟨rfl, rfl⟩))
                go_roundw
                case rel => exact ⟨k + 1, by omega, by go_num, HG, q0.ext (by repeat (first | exact Ext.refl _ | assumption | refine Ext.alloc ?_ _ | refine Ext.drew ?_ | refine Ext.drewN _ ?_ | refine Ext.trans ?_ (by assumption))), hx.trans (by repeat (first | exact Ext.refl _ | assumption | refine Ext.alloc ?_ _ | refine Ext.drew ?_ | refine Ext.drewN _ ?_ | refine Ext.trans ?_ (by assumption)))⟩
                case measure => simp [intOf]; omega
        · obtain rfl : k = l.length := by omega
          have he := HE3.out
          rw [all_good (fun j hj => HK.out j hj hj), if_pos rfl] at he
          cases D with
          | true =>
            rw [if_pos rfl] at he
            have HE4 := Lib.hid he
            clear he
            go_wp2_with (go_at_call 64; refine (within_any _ _ _ _).mono ?_; rw [HD.out]; rintro e w' ⟨rfl, rfl⟩)
            go_ret
            exact ⟨ret_int HE4.out.symm, hx⟩
          | false =>
            rw [if_neg (by decide)] at he
            have HE4 := Lib.hid he
            clear he
            go_wp2_with (go_at_call 64; refine (within_any _ _ _ _).mono ?_; rw [HD.out]; rintro e w' ⟨rfl, rfl⟩)
            go_ret
            exact ⟨ret_int HE4.out.symm, hx⟩
  · have hb : (C != 0) = true := by simpa using h0
    have he := HE.out
    rw [if_neg h0] at he
    have HE2 := Lib.hid he
    clear he h0
    go_wp2_with fail
    go_ret
    exact ⟨ret_int HE2.out.symm, hx⟩
end Go.Proofs.Ythopgonbndoidaa
namespace Go.Proofs.Ythopgonbndoidaa
open Go.RowKit Go.Shelf Go.Lib

def puS (day n : Int) (d : Du) : Int := if d.day ≤ day then n + d.p else n
def puL (day : Int) (l : List Du) : Int := l.foldl (puS day) 0
theorem puL_snoc (day : Int) (l : List Du) (d : Du) : puL day (l ++ [d]) = puS day (puL day l) d := by simp [puL]
theorem puL_bd {T : Tr} (day : Int) (l : List Du) (h : ∀ d ∈ l, duB T d = true) : 0 ≤ puL day l ∧ puL day l ≤ l.length * 1073741824 := by
  induction l using snoc_ind with
  | h0 => simp [puL]
  | h1 l d ih =>
    have i := ih (fun q hq => h q (by simp [hq]))
    have j := h d (by simp)
    unfold duB at j
    rw [Bool.and_eq_true, Bool.and_eq_true] at j
    have k := inB_t j.2.2
    rw [puL_snoc, List.length_append, List.length_singleton]
    unfold puS
    push_cast
    split <;> omega
theorem puL_take_bd {T : Tr} (day : Int) {l : List Du} (h : ∀ d ∈ l, duB T d = true) (hl : l.length ≤ 200) (j : Nat) : 0 ≤ puL day (l.take j) ∧ puL day (l.take j) ≤ 214748364800 := by
  have h1 := puL_bd (T := T) day (l.take j) (fun d hd => h d (List.mem_of_mem_take hd))
  have hlen : (l.take j).length ≤ 200 := by simp; omega
  have : ((l.take j).length : Int) * 1073741824 ≤ 200 * 1073741824 := Int.mul_le_mul_of_nonneg_right (by omega) (by decide)
  omega
def puX (T : Tr) (l : List Du) (day : Int) : Int := if duE T l day = 0 then puL day l else 0
end Go.Proofs.Ythopgonbndoidaa
namespace Go.Proofs.Ythopgonbndoidaa
open Go.RowKit Go.Shelf Go.Lib

def puV (day : Int) (d : Du) : Int := if d.day ≤ day then d.p else 0
theorem puS_eq (day n : Int) (d : Du) : puS day n d = n + puV day d := by
  unfold puS puV; split <;> omega
set_option maxHeartbeats 1000000 in
theorem purse1_any (B : Nat) (day : Int) (d : Du) (W : World) (hB : Cls B 3 #[.int .i64 day] W) :
    Calls Try.prog 89 #[.agg #[.int .i64 d.id, .int .i64 d.day, .int .i64 d.p], .pointer (some ⟨B, 0, none⟩)] W fun e W' => e = .returned (.int .i64 (puV day d)) ∧ Ext W W' := by
  obtain ⟨x, y, z⟩ := d
  have hV : puV day ⟨x, y, z⟩ = if y ≤ day then z else 0 := rfl
  dsimp only
  obtain ⟨V, hVV⟩ : ∃ V, puV day ⟨x, y, z⟩ = V := ⟨_, rfl⟩
  rw [hVV] at hV ⊢
  have HV := Lib.hid hV
  have c0 : (W.alloc (.cells #[.int .i64 x, .int .i64 y, .int .i64 z] 84)).cell? ⟨B, 0, none⟩ = some (.int .i64 day) := (hB.ext (by repeat (first | exact Ext.refl _ | assumption | refine Ext.alloc ?_ _ | refine Ext.drew ?_ | refine Ext.drewN _ ?_ | refine Ext.trans ?_ (by assumption)))).cell 0
  clear hV hVV
  by_cases hq : y ≤ day
  · have hv := HV.out
    rw [if_pos hq] at hv
    have HV2 := Lib.hid hv
    have hbq : decide (y > day) = false := decide_eq_false (by omega)
    have hbq2 : decide (day < y) = false := decide_eq_false (by omega)
    clear hv hq
    go_enter Try.func89, Try.ntmps89
    go_wp2_with fail
    go_ret
    exact ⟨ret_int HV2.out.symm, (by repeat (first | exact Ext.refl _ | assumption | refine Ext.alloc ?_ _ | refine Ext.drew ?_ | refine Ext.drewN _ ?_ | refine Ext.trans ?_ (by assumption)))⟩
  · have hv := HV.out
    rw [if_neg hq] at hv
    have HV2 := Lib.hid hv
    have hbq : decide (y > day) = true := decide_eq_true (by omega)
    have hbq2 : decide (day < y) = true := decide_eq_true (by omega)
    clear hv hq
    go_enter Try.func89, Try.ntmps89
    go_wp2_with fail
    go_ret
    exact ⟨ret_int HV2.out.symm, (by repeat (first | exact Ext.refl _ | assumption | refine Ext.alloc ?_ _ | refine Ext.drew ?_ | refine Ext.drewN _ ?_ | refine Ext.trans ?_ (by assumption)))⟩
set_option maxRecDepth 100000 in
set_option maxHeartbeats 8000000 in
theorem totalD_any (B : Nat) (day : Int) (v : Value) (l : List Du) (T : Tr) (w : World) (hl : DusAt w v l) (hB : Cls B 3 #[.int .i64 day] w) (hg : ∀ d ∈ l, duB T d = true) (hn : l.length ≤ 200) :
    Calls Try.prog 88 #[v, .func (.func 89) #[] #[.pointer (some ⟨B, 0, none⟩)]] w fun e w' => e = .returned (.int .i64 (puL day l)) ∧ Ext w w' := by
  obtain ⟨av, cv, rfl, hlv⟩ := dus_len hl
  obtain ⟨X, hX⟩ : ∃ X, puL day l = X := ⟨_, rfl⟩
  have HX := Lib.hid hX
  have HG := Lib.hid hg
  rw [hX]
  clear hX hg
  go_enter Try.func88, Try.ntmps88
  go_wp2_with fail
  go_loopw [5, 10] (fun s i wr => ∃ k : Nat, k ≤ l.length ∧ i = .int .i64 k ∧ s = .int .i64 (puL day (l.take k)) ∧ Ext w wr) (fun _ i _ => l.length - (intOf i).toNat)
  case atStart => exact ⟨0, Nat.zero_le _, rfl, rfl, Ext.refl _⟩
  case round =>
    obtain ⟨k, hk, rfl, rfl, hx⟩ := hrel
    by_cases hlt : k < l.length
    · have hki : (k : Int) < (l.length : Int) := by omega
      have hst := puL_snoc day (l.take k) l[k]
      rw [← take_succ_get _ _ hlt, puS_eq] at hst
      have hb1 := puL_take_bd day HG.out hn k
      have hb2 := puL_take_bd day HG.out hn (k + 1)
      obtain ⟨bb, oo, rfl, c0, c1, c2⟩ := dus_get (hl.ext hx) k hlt
      have C := fun W (h : Ext wr W) => purse1_any B day l[k] W ((hB.ext hx).ext h)
      obtain ⟨x, hxx⟩ : ∃ x, l[k].id = x := ⟨_, rfl⟩
      obtain ⟨y, hyy⟩ : ∃ x, l[k].day = x := ⟨_, rfl⟩
      obtain ⟨z, hzz⟩ : ∃ x, l[k].p = x := ⟨_, rfl⟩
      obtain ⟨V, hV⟩ : ∃ x, puV day l[k] = x := ⟨_, rfl⟩
      rw [hxx] at c0 C
      rw [hyy] at c1 C
      rw [hzz] at c2 C
      rw [hV] at hst C
      obtain ⟨S, hS⟩ : ∃ x, puL day (l.take k) = x := ⟨_, rfl⟩
      rw [hS] at hst hb1 ⊢
      rw [hst] at hb2
      have hw1 : IntKind.i64.wrap (S + V) = S + V := IntWalk.i64_in _ (by omega)
      have HST := Lib.hid hst
      clear hst hb1 hb2 hxx hyy hzz hV hS
      go_wp2_with fail
      refine (C _ (by repeat (first | exact Ext.refl _ | assumption | refine Ext.alloc ?_ _ | refine Ext.drew ?_ | refine Ext.drewN _ ?_ | refine Ext.trans ?_ (by assumption)))).mono ?_
      rintro e w2 ⟨rfl, hz⟩
      have hx2 : Ext w w2 := (hx.trans (by repeat (first | exact Ext.refl _ | assumption | refine Ext.alloc ?_ _ | refine Ext.drew ?_ | refine Ext.drewN _ ?_ | refine Ext.trans ?_ (by assumption)))).trans hz
      clear C
      go_wp2_with fail
      go_roundw
      case rel => exact ⟨k + 1, by omega, by go_num, by rw [HST.out], hx2⟩
      case measure => simp [intOf]; omega
    · obtain rfl : k = l.length := by omega
      rw [List.take_length, HX.out]
      go_wp2_with fail
      go_ret
      exact ⟨rfl, hx⟩
set_option maxRecDepth 100000 in
set_option maxHeartbeats 8000000 in
theorem Purse_any (a b v : Value) (T : Tr) (l : List Du) (day : Int) (w : World) (hT : TrAt w a b T) (hl : DusAt w v l) (hp : T.ps.length ≤ 1000) :
    Calls Try.prog 41 #[.agg #[a, b], v, .int .i64 day] w fun e w' => e = .returned (.tuple #[.int .i64 (puX T l day), .int .i64 (duE T l day)]) ∧ Ext w w' := by
  have hX : puX T l day = if duE T l day = 0 then puL day l else 0 := rfl
  have KC := fun W (hx : Ext w W) => dues_any a b v T l day W (hT.ext hx) (hl.ext hx) hp
  have KT := fun (h : duE T l day = 0) B W (hx : Ext w W) (hB : Cls B 3 #[.int .i64 day] W) => totalD_any B day v l T W (hl.ext hx) hB (duE_ok h).2.2 (duE_ok h).2.1
  obtain ⟨E, hE⟩ : ∃ E, duE T l day = E := ⟨_, rfl⟩
  obtain ⟨X, hXX⟩ : ∃ E, puX T l day = E := ⟨_, rfl⟩
  obtain ⟨P, hP⟩ : ∃ E, puL day l = E := ⟨_, rfl⟩
  rw [hE] at KC hX KT
  rw [hXX, hP] at hX
  rw [hP] at KT
  rw [hE, hXX]
  have HX := Lib.hid hX
  have HKT := Lib.hid KT
  clear hX hE hXX hP KT hT
  go_enter Try.func41, Try.ntmps41
  go_wp2_with fail
  refine (KC _ (by repeat (first | exact Ext.refl _ | assumption | refine Ext.alloc ?_ _ | refine Ext.drew ?_ | refine Ext.drewN _ ?_ | refine Ext.trans ?_ (by assumption)))).mono ?_
  rintro e w1 ⟨rfl, hx1⟩
  obtain ⟨q0, q1, hx, hk0⟩ := alloc2 hx1
  clear hx1 KC
  by_cases h0 : E = 0
  · have hb : (E != 0) = false := by simpa using h0
    have hxx := HX.out
    rw [if_pos h0] at hxx
    have HX2 := Lib.hid hxx
    have H0 := Lib.hid h0
    have KT := HKT.out h0
    clear hxx h0 HX HKT
    go_wp2_with fail
    refine (KT _ _ hx q1).mono ?_
    rintro e w2 ⟨rfl, hz⟩
    go_wp2_with fail
    go_ret2
    exact ⟨ret2 (by rw [HX2.out]; rfl) (by rw [H0.out]; rfl), hx.trans hz⟩
  · have hb : (E != 0) = true := by simpa using h0
    have hxx := HX.out
    rw [if_neg h0] at hxx
    have HX2 := Lib.hid hxx
    clear hxx h0
    go_wp2_with fail
    go_ret2
    exact ⟨ret2 (by rw [HX2.out]; rfl) rfl, hx⟩

/-- what all owe -/
def arS (T : Tr) (day : Int) (s : List Int) (d : Du) : List Int := if d.day ≤ day then s.set (fnd T.ps d.id).toNat (s.getD (fnd T.ps d.id).toNat 0 - d.p) else s
def arL (T : Tr) (day : Int) (l : List Du) : List Int := l.foldl (arS T day) (pnX T)
theorem arL_snoc (T : Tr) (day : Int) (l : List Du) (d : Du) : arL T day (l ++ [d]) = arS T day (arL T day l) d := by simp [arL]
theorem arL_bd {T : Tr} (hok : Ok T) (day : Int) (l : List Du) (h : ∀ d ∈ l, duB T d = true) : (arL T day l).length = T.ps.length ∧ ∀ x ∈ arL T day l, -(l.length * 1073741824) ≤ x ∧ x ≤ 1073741824 := by
  induction l using snoc_ind with
  | h0 =>
    have := pnX_bd hok
    exact ⟨this.1, fun x hx => by have := this.2 x hx; simp; omega⟩
  | h1 l d ih =>
    have i := ih (fun q hq => h q (by simp [hq]))
    have j := h d (by simp)
    unfold duB at j
    rw [Bool.and_eq_true, Bool.and_eq_true] at j
    have k := inB_t j.2.2
    have hf : ¬ fnd T.ps d.id < 0 := by simpa using j.1
    have hfl := fnd_lt (l := T.ps) (id := d.id) (by omega)
    rw [arL_snoc, List.length_append, List.length_singleton]
    unfold arS
    split
    · refine ⟨by rw [List.length_set]; exact i.1, fun x hx => ?_⟩
      rcases mem_set_of hx with rfl | hx
      · have := i.2 _ (getD_mem (l := arL T day l) (i := (fnd T.ps d.id).toNat) (by rw [i.1]; omega))
        push_cast
        omega
      · have := i.2 x hx
        push_cast
        omega
    · refine ⟨i.1, fun x hx => ?_⟩
      have := i.2 x hx
      push_cast
      omega
def arX (T : Tr) (l : List Du) (day : Int) : List Int := if duE T l day = 0 then arL T day l else []

set_option maxRecDepth 100000 in
set_option maxHeartbeats 16000000 in
theorem Arrears_any (a b v : Value) (T : Tr) (l : List Du) (day : Int) (w : World) (hT : TrAt w a b T) (hl : DusAt w v l) (hp : T.ps.length ≤ 1000) :
    Calls Try.prog 40 #[.agg #[a, b], v, .int .i64 day] w (InsPost w (arX T l day) (duE T l day)) := by
  have hX : arX T l day = if duE T l day = 0 then arL T day l else [] := rfl
  have KC := fun W (hx : Ext w W) => dues_any a b v T l day W (hT.ext hx) (hl.ext hx) hp
  have KF := fun id W (hx : Ext w W) => find_any b T.ps id W (hT.ext hx).p hp
  have hok := @duE_ok T l day
  have KI := fun (h : duE T l day = 0) W (hx : Ext w W) => inPence_any a b T (duE_ok h).1 W (hT.ext hx)
  obtain ⟨av, cv, rfl, hlv⟩ := dus_len hl
  obtain ⟨E, hE⟩ : ∃ E, duE T l day = E := ⟨_, rfl⟩
  obtain ⟨X, hXX⟩ : ∃ E, arX T l day = E := ⟨_, rfl⟩
  rw [hE] at KC hX hok KI
  rw [hXX] at hX
  rw [hE, hXX]
  have HX := Lib.hid hX
  have HOK := Lib.hid hok
  have HKF := Lib.hid KF
  have HKI := Lib.hid KI
  clear hX hE hXX hok KF KI hT
  go_enter Try.func40, Try.ntmps40
  go_wp2_with fail
  refine (KC _ (by repeat (first | exact Ext.refl _ | assumption | refine Ext.alloc ?_ _ | refine Ext.drew ?_ | refine Ext.drewN _ ?_ | refine Ext.trans ?_ (by assumption)))).mono ?_
  rintro e w1 ⟨rfl, hx1⟩
  obtain ⟨q0, hx, hk0⟩ := alloc1 hx1
  have d0 : w1.cell? ⟨w.heap.size, 0, none⟩ = some a := q0.cell 0
  have d1 : w1.cell? ⟨w.heap.size, 1, none⟩ = some b := q0.cell 1
  clear hx1 KC
  by_cases h0 : E = 0
  · have hb : (E != 0) = false := by simpa using h0
    have hxx := HX.out
    rw [if_pos h0] at hxx
    have HX2 := Lib.hid hxx
    have H0 := Lib.hid h0
    have hok2 := HOK.out h0
    have KI := HKI.out h0
    have HOK2 := Lib.hid hok2
    have hl200 := hok2.2.1
    have hok := hok2.1
    have HOKT := Lib.hid hok
    clear hxx h0 HX HOK hok2 hok HKI
    go_wp2_with fail
    refine (KI _ hx).mono ?_
    rintro e w2 ⟨u, rfl, hu, hz⟩
    have hx2 := hx.trans hz
    have q2 := q0.ext hz
    have hsz := hz.size
    have hpl := (pnX_bd HOKT.out).1
    obtain ⟨uA, uc, rfl⟩ := hu.form
    rw [hpl] at hu ⊢
    have HU : Hid (RowI w1.heap.size (.slice uA T.ps.length uc) (arL T day (l.take 0)) w2) := Lib.hid hu
    clear hz q0 hx d0 d1 hu hpl KI
    go_upto_region 6 with fail
    go_loopw [23] (fun i wr => ∃ k : Nat, k ≤ l.length ∧ i = .int .i64 k ∧ Hid (RowI w1.heap.size (.slice uA T.ps.length uc) (arL T day (l.take k)) wr) ∧ Cls w.heap.size 25 #[a, b] wr ∧ Ext w wr) (fun i _ => l.length - (intOf i).toNat)
    case atStart => exact ⟨0, Nat.zero_le _, rfl, HU, q2, hx2⟩
    case round =>
      clear q2 hx2 HU
      obtain ⟨k, hk, rfl, HR, q0, hx⟩ := hrel
      have hR := HR.out
      have hok := HOKT.out
      by_cases hlt : k < l.length
      · have hki : (k : Int) < (l.length : Int) := by omega
        have hwr := q0.lt
        have hst := arL_snoc T day (l.take k) l[k]
        rw [← take_succ_get _ _ hlt] at hst
        have hgd := HOK2.out.2.2 _ (List.getElem_mem hlt)
        have hbd := arL_bd hok day (l.take k) (fun d hd => HOK2.out.2.2 d (List.mem_of_mem_take hd))
        have hlk : ((l.take k).length : Int) ≤ 200 := by have := HOK2.out.2.1; simp; omega
        have hlm : ((l.take k).length : Int) * 1073741824 ≤ 200 * 1073741824 := Int.mul_le_mul_of_nonneg_right hlk (by decide)
        have hgs : ∀ s, arS T day s l[k] = if l[k].day ≤ day then s.set (fnd T.ps l[k].id).toNat (s.getD (fnd T.ps l[k].id).toNat 0 - l[k].p) else s := fun _ => rfl
        rw [hgs] at hst
        unfold duB at hgd
        rw [Bool.and_eq_true, Bool.and_eq_true] at hgd
        have hpb := inB_t hgd.2.2
        have hf0 : ¬ fnd T.ps l[k].id < 0 := by simpa using hgd.1
        have hfl := fnd_lt (l := T.ps) (id := l[k].id) (by omega)
        obtain ⟨f, hf⟩ : ∃ f : Nat, fnd T.ps l[k].id = f := ⟨(fnd T.ps l[k].id).toNat, by omega⟩
        rw [hf] at hst hfl
        rw [Int.toNat_natCast] at hst
        obtain ⟨bb, oo, rfl, c0, c1, c2⟩ := dus_get (hl.ext hx) k hlt
        obtain ⟨x, hxx⟩ : ∃ x, l[k].id = x := ⟨_, rfl⟩
        obtain ⟨y, hyy⟩ : ∃ x, l[k].day = x := ⟨_, rfl⟩
        obtain ⟨z, hzz⟩ : ∃ x, l[k].p = x := ⟨_, rfl⟩
        rw [hxx] at c0 hf
        rw [hyy] at c1 hst
        rw [hzz] at c2 hst hpb
        obtain ⟨L, hL⟩ : ∃ x, arL T day (l.take k) = x := ⟨_, rfl⟩
        rw [hL] at hst hbd hR
        have hsl : L.length = T.ps.length := hbd.1
        have hfL : f < L.length := by omega
        have hgD : L.getD f 0 = L[f] := by rw [List.getD_eq_getElem?_getD, List.getElem?_eq_getElem hfL]; rfl
        have hsb := hbd.2 _ (List.getElem_mem hfL)
        obtain ⟨g, rfl, hg0, hg1, hgc⟩ := hR.opened hsl (by omega)
        have r0 := hR.cell hsl hfL
        obtain ⟨s, hs⟩ : ∃ s, L[f] = s := ⟨_, rfl⟩
        rw [hs] at r0 hgD hsb
        rw [hgD] at hst
        have hw1 : IntKind.i64.wrap (s - z) = s - z := IntWalk.i64_in _ (by omega)
        have hfi : (0 : Int) ≤ f ∧ (f : Int) < (T.ps.length : Int) := by omega
        have KF := HKF.out x
        rw [hf] at KF
        have HKF2 := Lib.hid KF
        have HST := Lib.hid hst
        clear hst hgd hbd hgs hf0 hxx hyy hzz hL hs hgD hpb hsb hlk hlm KF hf HR
        obtain ⟨B, hB⟩ : ∃ B, wr.heap.size = B := ⟨_, rfl⟩
        obtain ⟨W0, hW0⟩ : ∃ Y, wr.alloc (.cells #[.int .i64 x, .int .i64 y, .int .i64 z] 84) = Y := ⟨_, rfl⟩
        have hxt : Ext wr W0 := by rw [← hW0]; exact (by repeat (first | exact Ext.refl _ | assumption | refine Ext.alloc ?_ _ | refine Ext.drew ?_ | refine Ext.drewN _ ?_ | refine Ext.trans ?_ (by assumption)))
        have hbx : Cls B 84 #[.int .i64 x, .int .i64 y, .int .i64 z] W0 := by rw [← hW0]; exact Cls.newAt _ _ _ hB.symm
        have hx0 := hx.trans hxt
        have q9 := q0.ext hxt
        have hR0 := rowI_ext hR hxt
        have b0 := hbx.cell 0
        have b1 := hbx.cell 1
        have b2 := hbx.cell 2
        have d1 := q9.cell 1
        replace r0 := hxt.cell r0
        by_cases hq : y ≤ day
        · have hst := HST.out
          rw [if_pos hq] at hst
          have HST2 := Lib.hid hst
          have hbq : decide (y ≤ day) = true := decide_eq_true hq
          clear hst hq HST hR hx q0 hxt hbx
          go_upto_region 9 with fail
          clear b1 hbq
          clear hW0 hB
          refine wp_region_last (z := 12) (S := fun W' => W'.cell? ⟨w.heap.size, 1, none⟩ = some b ∧ W'.cell? ⟨B, 0, none⟩ = some (.int .i64 x) ∧ W'.cell? ⟨B, 2, none⟩ = some (.int .i64 z) ∧ W'.cell? ⟨g, f, none⟩ = some (.int .i64 s) ∧ Ext W0 W') (by kernel_rfl) ?_ (fun hHeld => ?_)
          · exact ⟨d1, b0, b2, r0, Ext.drew (Ext.refl _)⟩
          (refine wpAnyL_take (i := 0) (v := ?_) rfl (by kernel_rfl) (by kernel_rfl) (by kernel_rfl) (by kernel_rfl) (fun _ _ _ h => h) (Or.inl ⟨by rfl, ?_⟩) (by assumption) ?_; rotate_left 1; (focus (intro w hSw; (try dsimp only at hSw); go_simp; try (with_reducible rfl))))
          try simp only [Act.put, List.getElem_toArray, List.getElem_cons_zero, List.setIfInBounds_toArray, List.set_cons_zero, List.set_cons_succ]
          (refine wpAnyL_take (i := 1) (v := ?_) rfl (by kernel_rfl) (by kernel_rfl) (by kernel_rfl) (by kernel_rfl) (fun _ _ _ h => h) (Or.inl ⟨by rfl, ?_⟩) (by assumption) ?_; rotate_left 1; (focus (intro w hSw; (try dsimp only at hSw); go_simp; try (with_reducible rfl))))
          try simp only [Act.put, List.getElem_toArray, List.getElem_cons_zero, List.getElem_cons_succ, List.setIfInBounds_toArray, List.set_cons_zero, List.set_cons_succ]
          (refine wpAnyL_take (i := 2) (v := ?_) rfl (by kernel_rfl) (by kernel_rfl) (by kernel_rfl) (by kernel_rfl) (fun _ _ _ h => h) (Or.inl ⟨by rfl, ?_⟩) (by assumption) ?_; rotate_left 1; (focus (intro w hSw; (try dsimp only at hSw); go_simp; try (with_reducible rfl))))
          try simp only [Act.put, List.getElem_toArray, List.getElem_cons_zero, List.getElem_cons_succ, List.setIfInBounds_toArray, List.set_cons_zero, List.set_cons_succ]
          (refine wpAnyL_take (i := 3) (v := ?_) rfl (by kernel_rfl) (by kernel_rfl) (by kernel_rfl) (by kernel_rfl) (fun _ _ _ h => h) (Or.inl ⟨by rfl, ?_⟩) (by assumption) ?_; rotate_left 1; (focus (intro w hSw; (try dsimp only at hSw); go_simp; try (with_reducible rfl))))
          try simp only [Act.put, List.getElem_toArray, List.getElem_cons_zero, List.getElem_cons_succ, List.setIfInBounds_toArray, List.set_cons_zero, List.set_cons_succ]
          (refine wpAnyL_take (i := 4) (v := ?_) rfl (by kernel_rfl) (by kernel_rfl) (by kernel_rfl) (by kernel_rfl) (fun _ _ _ h => h) (Or.inl ⟨by rfl, ?_⟩) (by assumption) ?_; rotate_left 1; (focus (intro w hSw; (try dsimp only at hSw); go_simp; try (with_reducible rfl))))
          try simp only [Act.put, List.getElem_toArray, List.getElem_cons_zero, List.getElem_cons_succ, List.setIfInBounds_toArray, List.set_cons_zero, List.set_cons_succ]
          (refine wpAnyL_take (i := 8) (v := ?_) rfl (by kernel_rfl) (by kernel_rfl) (by kernel_rfl) (by kernel_rfl) (fun _ _ _ h => h) (Or.inl ⟨by rfl, ?_⟩) (by assumption) ?_; rotate_left 1; (focus (intro w hSw; (try dsimp only at hSw); go_simp; try (with_reducible rfl))))
          try simp only [Act.put, List.getElem_toArray, List.getElem_cons_zero, List.getElem_cons_succ, List.setIfInBounds_toArray, List.set_cons_zero, List.set_cons_succ]
          (refine wpAnyL_take (i := 9) (v := ?_) rfl (by kernel_rfl) (by kernel_rfl) (by kernel_rfl) (by kernel_rfl) (fun _ _ _ h => h) (Or.inl ⟨by rfl, ?_⟩) (by assumption) ?_; rotate_left 1; (focus (intro w hSw; (try dsimp only at hSw); go_simp; try (with_reducible rfl))))
          try simp only [Act.put, List.getElem_toArray, List.getElem_cons_zero, List.getElem_cons_succ, List.setIfInBounds_toArray, List.set_cons_zero, List.set_cons_succ]
          refine wpAnyL_one (i := 5) (by kernel_rfl) rfl (fun K hK => ?_)
          obtain ⟨V0, hV0⟩ : ∃ V, W0.drew = V := ⟨_, rfl⟩
          rw [hV0] at hHeld ⊢
          go_simp
          go_at_call 60; refine (HKF2.out _ (hx0.trans hHeld.2.2.2.2)).mono ?_; rintro e V1 ⟨rfl, hz⟩
          refine hK.out _ _ (fun _ => ?_) (fun hHeld => ?_)
          · exact ⟨Ext.cell hz hHeld.1, Ext.cell hz hHeld.2.1, Ext.cell hz hHeld.2.2.1, Ext.cell hz hHeld.2.2.2.1, hHeld.2.2.2.2.trans hz⟩
          replace hHeld := hHeld (by decide)
          clear hK K
          clear hz hV0
          try simp only [Act.put, List.getElem_toArray, List.getElem_cons_zero, List.getElem_cons_succ, List.setIfInBounds_toArray, List.set_cons_zero, List.set_cons_succ]
          (refine wpAnyL_take (i := 6) (v := ?_) rfl (by kernel_rfl) (by kernel_rfl) (by kernel_rfl) (by kernel_rfl) (fun _ _ _ h => h) (Or.inl ⟨by rfl, ?_⟩) (by assumption) ?_; rotate_left 1; (focus (intro w hSw; (try dsimp only at hSw); go_simp; try (with_reducible rfl))))
          try simp only [Act.put, List.getElem_toArray, List.getElem_cons_zero, List.getElem_cons_succ, List.setIfInBounds_toArray, List.set_cons_zero, List.set_cons_succ]
          (refine wpAnyL_take (i := 7) (v := ?_) rfl (by kernel_rfl) (by kernel_rfl) (by kernel_rfl) (by kernel_rfl) (fun _ _ _ h => h) (Or.inl ⟨by rfl, ?_⟩) (by assumption) ?_; rotate_left 1; (focus (intro w hSw; (try dsimp only at hSw); go_simp; try (with_reducible rfl))))
          try simp only [Act.put, List.getElem_toArray, List.getElem_cons_zero, List.getElem_cons_succ, List.setIfInBounds_toArray, List.set_cons_zero, List.set_cons_succ]
          (refine wpAnyL_take (i := 10) (v := ?_) rfl (by kernel_rfl) (by kernel_rfl) (by kernel_rfl) (by kernel_rfl) (fun _ _ _ h => h) (Or.inl ⟨by rfl, ?_⟩) (by assumption) ?_; rotate_left 1; (focus (intro w hSw; (try dsimp only at hSw); go_simp; try (with_reducible rfl))))
          try simp only [Act.put, List.getElem_toArray, List.getElem_cons_zero, List.getElem_cons_succ, List.setIfInBounds_toArray, List.set_cons_zero, List.set_cons_succ]
          (refine wpAnyL_take (i := 11) (v := ?_) rfl (by kernel_rfl) (by kernel_rfl) (by kernel_rfl) (by kernel_rfl) (fun _ _ _ h => h) (Or.inl ⟨by rfl, ?_⟩) (by assumption) ?_; rotate_left 1; (focus (intro w hSw; (try dsimp only at hSw); go_simp; try (with_reducible rfl))))
          try simp only [Act.put, List.getElem_toArray, List.getElem_cons_zero, List.getElem_cons_succ, List.setIfInBounds_toArray, List.set_cons_zero, List.set_cons_succ]
          refine wpAnyL_one (i := 12) (by kernel_rfl) rfl (fun K hK => ?_)
          have hRV := rowI_ext hR0 hHeld.2.2.2.2
          have fz := hRV.frozen hsl f
          have r1 := hHeld.2.2.2.1
          go_simp
          refine hK.out _ _ (fun h => absurd rfl h) (fun _ => ?_)
          clear hK K
          try simp only [Act.put, List.getElem_toArray, List.getElem_cons_zero, List.getElem_cons_succ, List.setIfInBounds_toArray, List.set_cons_zero, List.set_cons_succ]
          refine wpAnyL_done (by kernel_rfl) ?_ _
          have hRW : RowI w1.heap.size (.slice (some ⟨g, 0, none⟩) T.ps.length uc) (L.set f (s - z)) (V1.setCell ⟨g, f, none⟩ (.int .i64 (s - z))) := by
            have hRV2 := hRV
            rw [← hsl] at hRV2 ⊢
            exact rowI_set hRV2 _
          have q9W := (q9.ext hHeld.2.2.2.2).other (B' := g) (by omega) f (.int .i64 (s - z))
          have hxW := (hx0.trans hHeld.2.2.2.2).setCell (p := ⟨g, f, none⟩) (by simp; omega) (.int .i64 (s - z))
          go_wp2_with fail
          go_roundw
          case rel => exact ⟨k + 1, by omega, by go_num, Lib.hid (by rw [HST2.out]; exact hRW), q9W, hxW⟩
          case measure => simp [intOf]; omega
        · have hst := HST.out
          rw [if_neg hq] at hst
          have HST2 := Lib.hid hst
          have hbq : decide (y ≤ day) = false := decide_eq_false hq
          clear hst hq HST
          go_wp2_with fail
          go_roundw
          case rel => exact ⟨k + 1, by omega, by go_num, Lib.hid (by rw [HST2.out]; exact hR0), q9, hx0⟩
          case measure => simp [intOf]; omega
      · obtain rfl : k = l.length := by omega
        rw [List.take_length, ← HX2.out] at hR
        clear HR
        go_wp2_with fail
        go_ret2
        exact ⟨_, ret2 rfl (by rw [H0.out]; rfl), hR.at_, hx⟩
  · have hb : (E != 0) = true := by simpa using h0
    have hxx := HX.out
    rw [if_neg h0] at hxx
    have HX2 := Lib.hid hxx
    clear hxx h0
    go_wp2_with fail
    go_ret2
    exact ⟨_, ret2 rfl rfl, by rw [HX2.out]; exact intsAt_nil _, hx⟩

end Go.Proofs.Ythopgonbndoidaa
