/- Purse of the program; Arrears of both. -/
import Derived.Test.YthopgonbndoidaaGreatVDu2
namespace Go.Proofs.YthopgonbndoidaaGreat
open Go.RowKit Go.Shelf Go.Lib

def puV (day : Int) (d : Du) : Int := if d.day ≤ day then d.p else 0
theorem puS_eq (day n : Int) (d : Du) : puS day n d = n + puV day d := by
  unfold puS puV; split <;> omega
set_option maxHeartbeats 1000000 in
theorem purse1_any (B : Nat) (day : Int) (d : Du) (W : World) (hB : Cls B 3 #[.int .i64 day] W) :
    Calls Tryz.prog 79 #[.agg #[.int .i64 d.id, .int .i64 d.day, .int .i64 d.p], .pointer (some ⟨B, 0, none⟩)] W fun e W' => e = .returned (.int .i64 (puV day d)) ∧ Ext W W' := by
  obtain ⟨x, y, z⟩ := d
  have hV : puV day ⟨x, y, z⟩ = if y ≤ day then z else 0 := rfl
  dsimp only
  obtain ⟨V, hVV⟩ : ∃ V, puV day ⟨x, y, z⟩ = V := ⟨_, rfl⟩
  rw [hVV] at hV ⊢
  have HV := Lib.hid hV
  have c0 : (W.alloc (.cells #[.int .i64 x, .int .i64 y, .int .i64 z] 110)).cell? ⟨B, 0, none⟩ = some (.int .i64 day) := (hB.ext (by repeat (first | exact Ext.refl _ | assumption | refine Ext.alloc ?_ _ | refine Ext.drew ?_ | refine Ext.drewN _ ?_ | refine Ext.trans ?_ (by assumption)))).cell 0
  clear hV hVV
  by_cases hq : y ≤ day
  · have hv := HV.out
    rw [if_pos hq] at hv
    have HV2 := Lib.hid hv
    have hbq : decide (y > day) = false := decide_eq_false (by omega)
    have hbq2 : decide (day < y) = false := decide_eq_false (by omega)
    clear hv hq
    go_enter Tryz.func79, Tryz.ntmps79
    go_wp2_with fail
    go_ret
    exact ⟨ret_int HV2.out.symm, (by repeat (first | exact Ext.refl _ | assumption | refine Ext.alloc ?_ _ | refine Ext.drew ?_ | refine Ext.drewN _ ?_ | refine Ext.trans ?_ (by assumption)))⟩
  · have hv := HV.out
    rw [if_neg hq] at hv
    have HV2 := Lib.hid hv
    have hbq : decide (y > day) = true := decide_eq_true (by omega)
    have hbq2 : decide (day < y) = true := decide_eq_true (by omega)
    clear hv hq
    go_enter Tryz.func79, Tryz.ntmps79
    go_wp2_with fail
    go_ret
    exact ⟨ret_int HV2.out.symm, (by repeat (first | exact Ext.refl _ | assumption | refine Ext.alloc ?_ _ | refine Ext.drew ?_ | refine Ext.drewN _ ?_ | refine Ext.trans ?_ (by assumption)))⟩
set_option maxRecDepth 100000 in
set_option maxHeartbeats 8000000 in
theorem totalD_any (B : Nat) (day : Int) (v : Value) (l : List Du) (T : Tr) (w : World) (hl : DusAt w v l) (hB : Cls B 3 #[.int .i64 day] w) (hg : ∀ d ∈ l, duB T d = true) (hn : l.length ≤ 200) :
    Calls Tryz.prog 78 #[v, .func (.func 79) #[] #[.pointer (some ⟨B, 0, none⟩)]] w fun e w' => e = .returned (.int .i64 (puL day l)) ∧ Ext w w' := by
  obtain ⟨av, cv, rfl, hlv⟩ := dus_len hl
  obtain ⟨X, hX⟩ : ∃ X, puL day l = X := ⟨_, rfl⟩
  have HX := Lib.hid hX
  have HG := Lib.hid hg
  rw [hX]
  clear hX hg
  go_enter Tryz.func78, Tryz.ntmps78
  go_wp2_with fail
  go_loopw [5, 10] (fun s i wr => ∃ k : Nat, k ≤ l.length ∧ i = .int .i64 k ∧ s = .int .i64 (puL day (l.take k)) ∧ Ext w wr) (fun _ i _ => l.length - (intOf i).toNat)
  case atStart => exact ⟨0, Nat.zero_le _, rfl, rfl, Ext.refl _⟩
  case round =>
    obtain ⟨k, hk, rfl, rfl, hx⟩ := hrel
    by_cases hlt : k < l.length
    · have hki : (k : Int) < (l.length : Int) := by omega
      have hst := puL_snoc day (l.take k) l[k]
      rw [← take_succ_get _ _ hlt, puS_eq] at hst
      have hb1 := puL_take_bd day HG.out hn k
      have hb2 := puL_take_bd day HG.out hn (k + 1)
      obtain ⟨bb, oo, rfl, c0, c1, c2⟩ := dus_get (hl.ext hx) k hlt
      have C := fun W (h : Ext wr W) => purse1_any B day l[k] W ((hB.ext hx).ext h)
      obtain ⟨x, hxx⟩ : ∃ x, l[k].id = x := ⟨_, rfl⟩
      obtain ⟨y, hyy⟩ : ∃ x, l[k].day = x := ⟨_, rfl⟩
      obtain ⟨z, hzz⟩ : ∃ x, l[k].p = x := ⟨_, rfl⟩
      obtain ⟨V, hV⟩ : ∃ x, puV day l[k] = x := ⟨_, rfl⟩
      rw [hxx] at c0 C
      rw [hyy] at c1 C
      rw [hzz] at c2 C
      rw [hV] at hst C
      obtain ⟨S, hS⟩ : ∃ x, puL day (l.take k) = x := ⟨_, rfl⟩
      rw [hS] at hst hb1 ⊢
      rw [hst] at hb2
      have hw1 : IntKind.i64.wrap (S + V) = S + V := IntWalk.i64_in _ (by omega)
      have HST := Lib.hid hst
      clear hst hb1 hb2 hxx hyy hzz hV hS
      go_wp2_with fail
      refine (C _ (by repeat (first | exact Ext.refl _ | assumption | refine Ext.alloc ?_ _ | refine Ext.drew ?_ | refine Ext.drewN _ ?_ | refine Ext.trans ?_ (by assumption)))).mono ?_
      rintro e w2 ⟨rfl, hz⟩
      have hx2 : Ext w w2 := (hx.trans (by repeat (first | exact Ext.refl _ | assumption | refine Ext.alloc ?_ _ | refine Ext.drew ?_ | refine Ext.drewN _ ?_ | refine Ext.trans ?_ (by assumption)))).trans hz
      clear C
      go_wp2_with fail
      go_roundw
      case rel => exact ⟨k + 1, by omega, by go_num, by rw [HST.out], hx2⟩
      case measure => simp [intOf]; omega
    · obtain rfl : k = l.length := by omega
      rw [List.take_length, HX.out]
      go_wp2_with fail
      go_ret
      exact ⟨rfl, hx⟩
set_option maxRecDepth 100000 in
set_option maxHeartbeats 8000000 in
theorem Purse_any (a b v : Value) (T : Tr) (l : List Du) (day : Int) (w : World) (hT : TrAt w a b T) (hl : DusAt w v l) (hp : T.ps.length ≤ 1000) :
    Calls Tryz.prog 32 #[.agg #[a, b], v, .int .i64 day] w fun e w' => e = .returned (.tuple #[.int .i64 (puX T l day), .int .i64 (duE T l day)]) ∧ Ext w w' := by
  have hX : puX T l day = if duE T l day = 0 then puL day l else 0 := rfl
  have KC := fun W (hx : Ext w W) => dues_any a b v T l day W (hT.ext hx) (hl.ext hx) hp
  have KT := fun (h : duE T l day = 0) B W (hx : Ext w W) (hB : Cls B 3 #[.int .i64 day] W) => totalD_any B day v l T W (hl.ext hx) hB (duE_ok h).2.2 (duE_ok h).2.1
  obtain ⟨E, hE⟩ : ∃ E, duE T l day = E := ⟨_, rfl⟩
  obtain ⟨X, hXX⟩ : ∃ E, puX T l day = E := ⟨_, rfl⟩
  obtain ⟨P, hP⟩ : ∃ E, puL day l = E := ⟨_, rfl⟩
  rw [hE] at KC hX KT
  rw [hXX, hP] at hX
  rw [hP] at KT
  rw [hE, hXX]
  have HX := Lib.hid hX
  have HKT := Lib.hid KT
  clear hX hE hXX hP KT hT
  go_enter Tryz.func32, Tryz.ntmps32
  go_wp2_with fail
  refine (KC _ (by repeat (first | exact Ext.refl _ | assumption | refine Ext.alloc ?_ _ | refine Ext.drew ?_ | refine Ext.drewN _ ?_ | refine Ext.trans ?_ (by assumption)))).mono ?_
  rintro e w1 ⟨rfl, hx1⟩
  obtain ⟨q0, q1, hx, hk0⟩ := alloc2 hx1
  clear hx1 KC
  by_cases h0 : E = 0
  · have hb : (E != 0) = false := by simpa using h0
    have hxx := HX.out
    rw [if_pos h0] at hxx
    have HX2 := Lib.hid hxx
    have H0 := Lib.hid h0
    have KT := HKT.out h0
    clear hxx h0 HX HKT
    go_wp2_with fail
    refine (KT _ _ hx q1).mono ?_
    rintro e w2 ⟨rfl, hz⟩
    go_wp2_with fail
    go_ret2
    exact ⟨ret2 (by rw [HX2.out]; rfl) (by rw [H0.out]; rfl), hx.trans hz⟩
  · have hb : (E != 0) = true := by simpa using h0
    have hxx := HX.out
    rw [if_neg h0] at hxx
    have HX2 := Lib.hid hxx
    clear hxx h0
    go_wp2_with fail
    go_ret2
    exact ⟨ret2 (by rw [HX2.out]; rfl) rfl, hx⟩

/-- what all owe -/
def arS (T : Tr) (day : Int) (s : List Int) (d : Du) : List Int := if d.day ≤ day then s.set (fnd T.ps d.id).toNat (s.getD (fnd T.ps d.id).toNat 0 - d.p) else s
def arL (T : Tr) (day : Int) (l : List Du) : List Int := l.foldl (arS T day) (pnX T)
theorem arL_snoc (T : Tr) (day : Int) (l : List Du) (d : Du) : arL T day (l ++ [d]) = arS T day (arL T day l) d := by simp [arL]
theorem arL_bd {T : Tr} (hok : Ok T) (day : Int) (l : List Du) (h : ∀ d ∈ l, duB T d = true) : (arL T day l).length = T.ps.length ∧ ∀ x ∈ arL T day l, -(l.length * 1073741824) ≤ x ∧ x ≤ 1073741824 := by
  induction l using snoc_ind with
  | h0 =>
    have := pnX_bd hok
    exact ⟨this.1, fun x hx => by have := this.2 x hx; simp; omega⟩
  | h1 l d ih =>
    have i := ih (fun q hq => h q (by simp [hq]))
    have j := h d (by simp)
    unfold duB at j
    rw [Bool.and_eq_true, Bool.and_eq_true] at j
    have k := inB_t j.2.2
    have hf : ¬ fnd T.ps d.id < 0 := by simpa using j.1
    have hfl := fnd_lt (l := T.ps) (id := d.id) (by omega)
    rw [arL_snoc, List.length_append, List.length_singleton]
    unfold arS
    split
    · refine ⟨by rw [List.length_set]; exact i.1, fun x hx => ?_⟩
      rcases mem_set_of hx with rfl | hx
      · have := i.2 _ (getD_mem (l := arL T day l) (i := (fnd T.ps d.id).toNat) (by rw [i.1]; omega))
        push_cast
        omega
      · have := i.2 x hx
        push_cast
        omega
    · refine ⟨i.1, fun x hx => ?_⟩
      have := i.2 x hx
      push_cast
      omega
def arX (T : Tr) (l : List Du) (day : Int) : List Int := if duE T l day = 0 then arL T day l else []

set_option maxRecDepth 100000 in
set_option maxHeartbeats 16000000 in
theorem Arrears_any (a b v : Value) (T : Tr) (l : List Du) (day : Int) (w : World) (hT : TrAt w a b T) (hl : DusAt w v l) (hp : T.ps.length ≤ 1000) :
    Calls Tryz.prog 30 #[.agg #[a, b], v, .int .i64 day] w (InsPost w (arX T l day) (duE T l day)) := by
  have hX : arX T l day = if duE T l day = 0 then arL T day l else [] := rfl
  have KC := fun W (hx : Ext w W) => dues_any a b v T l day W (hT.ext hx) (hl.ext hx) hp
  have KF := fun id W (hx : Ext w W) => find_any b T.ps id W (hT.ext hx).p hp
  have hok := @duE_ok T l day
  have KI := fun (h : duE T l day = 0) W (hx : Ext w W) => inPence_any a b T (duE_ok h).1 W (hT.ext hx)
  obtain ⟨av, cv, rfl, hlv⟩ := dus_len hl
  obtain ⟨E, hE⟩ : ∃ E, duE T l day = E := ⟨_, rfl⟩
  obtain ⟨X, hXX⟩ : ∃ E, arX T l day = E := ⟨_, rfl⟩
  rw [hE] at KC hX hok KI
  rw [hXX] at hX
  rw [hE, hXX]
  have HX := Lib.hid hX
  have HOK := Lib.hid hok
  have HKF := Lib.hid KF
  have HKI := Lib.hid KI
  clear hX hE hXX hok KF KI hT
  go_enter Tryz.func30, Tryz.ntmps30
  go_wp2_with fail
  refine (KC _ (by repeat (first | exact Ext.refl _ | assumption | refine Ext.alloc ?_ _ | refine Ext.drew ?_ | refine Ext.drewN _ ?_ | refine Ext.trans ?_ (by assumption)))).mono ?_
  rintro e w1 ⟨rfl, hx1⟩
  obtain ⟨q0, hx, hk0⟩ := alloc1 hx1
  have d0 : w1.cell? ⟨w.heap.size, 0, none⟩ = some a := q0.cell 0
  have d1 : w1.cell? ⟨w.heap.size, 1, none⟩ = some b := q0.cell 1
  clear hx1 KC
  by_cases h0 : E = 0
  · have hb : (E != 0) = false := by simpa using h0
    have hxx := HX.out
    rw [if_pos h0] at hxx
    have HX2 := Lib.hid hxx
    have H0 := Lib.hid h0
    have hok2 := HOK.out h0
    have KI := HKI.out h0
    have HOK2 := Lib.hid hok2
    have hl200 := hok2.2.1
    have hok := hok2.1
    have HOKT := Lib.hid hok
    clear hxx h0 HX HOK hok2 hok HKI
    go_wp2_with fail
    refine (KI _ hx).mono ?_
    rintro e w2 ⟨u, rfl, hu, hz⟩
    have hx2 := hx.trans hz
    have q2 := q0.ext hz
    have hsz := hz.size
    have hpl := (pnX_bd HOKT.out).1
    obtain ⟨uA, uc, rfl⟩ := hu.form
    rw [hpl] at hu ⊢
    have HU : Hid (RowI w1.heap.size (.slice uA T.ps.length uc) (arL T day (l.take 0)) w2) := Lib.hid hu
    clear hz q0 hx d0 d1 hu hpl KI
    go_upto_region 6 with fail
    go_loopw [23] (fun i wr => ∃ k : Nat, k ≤ l.length ∧ i = .int .i64 k ∧ Hid (RowI w1.heap.size (.slice uA T.ps.length uc) (arL T day (l.take k)) wr) ∧ Cls w.heap.size 25 #[a, b] wr ∧ Ext w wr) (fun i _ => l.length - (intOf i).toNat)
    case atStart => exact ⟨0, Nat.zero_le _, rfl, HU, q2, hx2⟩
    case round =>
      clear q2 hx2 HU
      obtain ⟨k, hk, rfl, HR, q0, hx⟩ := hrel
      have hR := HR.out
      have hok := HOKT.out
      by_cases hlt : k < l.length
      · have hki : (k : Int) < (l.length : Int) := by omega
        have hwr := q0.lt
        have hst := arL_snoc T day (l.take k) l[k]
        rw [← take_succ_get _ _ hlt] at hst
        have hgd := HOK2.out.2.2 _ (List.getElem_mem hlt)
        have hbd := arL_bd hok day (l.take k) (fun d hd => HOK2.out.2.2 d (List.mem_of_mem_take hd))
        have hlk : ((l.take k).length : Int) ≤ 200 := by have := HOK2.out.2.1; simp; omega
        have hlm : ((l.take k).length : Int) * 1073741824 ≤ 200 * 1073741824 := Int.mul_le_mul_of_nonneg_right hlk (by decide)
        have hgs : ∀ s, arS T day s l[k] = if l[k].day ≤ day then s.set (fnd T.ps l[k].id).toNat (s.getD (fnd T.ps l[k].id).toNat 0 - l[k].p) else s := fun _ => rfl
        rw [hgs] at hst
        unfold duB at hgd
        rw [Bool.and_eq_true, Bool.and_eq_true] at hgd
        have hpb := inB_t hgd.2.2
        have hf0 : ¬ fnd T.ps l[k].id < 0 := by simpa using hgd.1
        have hfl := fnd_lt (l := T.ps) (id := l[k].id) (by omega)
        obtain ⟨f, hf⟩ : ∃ f : Nat, fnd T.ps l[k].id = f := ⟨(fnd T.ps l[k].id).toNat, by omega⟩
        rw [hf] at hst hfl
        rw [Int.toNat_natCast] at hst
        obtain ⟨bb, oo, rfl, c0, c1, c2⟩ := dus_get (hl.ext hx) k hlt
        obtain ⟨x, hxx⟩ : ∃ x, l[k].id = x := ⟨_, rfl⟩
        obtain ⟨y, hyy⟩ : ∃ x, l[k].day = x := ⟨_, rfl⟩
        obtain ⟨z, hzz⟩ : ∃ x, l[k].p = x := ⟨_, rfl⟩
        rw [hxx] at c0 hf
        rw [hyy] at c1 hst
        rw [hzz] at c2 hst hpb
        obtain ⟨L, hL⟩ : ∃ x, arL T day (l.take k) = x := ⟨_, rfl⟩
        rw [hL] at hst hbd hR
        have hsl : L.length = T.ps.length := hbd.1
        have hfL : f < L.length := by omega
        have hgD : L.getD f 0 = L[f] := by rw [List.getD_eq_getElem?_getD, List.getElem?_eq_getElem hfL]; rfl
        have hsb := hbd.2 _ (List.getElem_mem hfL)
        obtain ⟨g, rfl, hg0, hg1, hgc⟩ := hR.opened hsl (by omega)
        have r0 := hR.cell hsl hfL
        obtain ⟨s, hs⟩ : ∃ s, L[f] = s := ⟨_, rfl⟩
        rw [hs] at r0 hgD hsb
        rw [hgD] at hst
        have hw1 : IntKind.i64.wrap (s - z) = s - z := IntWalk.i64_in _ (by omega)
        have hfi : (0 : Int) ≤ f ∧ (f : Int) < (T.ps.length : Int) := by omega
        have KF := HKF.out x
        rw [hf] at KF
        have HKF2 := Lib.hid KF
        have HST := Lib.hid hst
        clear hst hgd hbd hgs hf0 hxx hyy hzz hL hs hgD hpb hsb hlk hlm KF hf HR
        obtain ⟨B, hB⟩ : ∃ B, wr.heap.size = B := ⟨_, rfl⟩
        obtain ⟨W0, hW0⟩ : ∃ Y, wr.alloc (.cells #[.int .i64 x, .int .i64 y, .int .i64 z] 110) = Y := ⟨_, rfl⟩
        have hxt : Ext wr W0 := by rw [← hW0]; exact (by repeat (first | exact Ext.refl _ | assumption | refine Ext.alloc ?_ _ | refine Ext.drew ?_ | refine Ext.drewN _ ?_ | refine Ext.trans ?_ (by assumption)))
        have hbx : Cls B 110 #[.int .i64 x, .int .i64 y, .int .i64 z] W0 := by rw [← hW0]; exact Cls.newAt _ _ _ hB.symm
        have hx0 := hx.trans hxt
        have q9 := q0.ext hxt
        have hR0 := rowI_ext hR hxt
        have b0 := hbx.cell 0
        have b1 := hbx.cell 1
        have b2 := hbx.cell 2
        have d1 := q9.cell 1
        replace r0 := hxt.cell r0
        by_cases hq : y ≤ day
        · have hst := HST.out
          rw [if_pos hq] at hst
          have HST2 := Lib.hid hst
          have hbq : decide (y ≤ day) = true := decide_eq_true hq
          clear hst hq HST hR hx q0 hxt hbx
          go_upto_region 9 with fail
          clear b1 hbq
          clear hW0 hB
          refine wp_region_last (z := 12) (S := fun W' => W'.cell? ⟨w.heap.size, 1, none⟩ = some b ∧ W'.cell? ⟨B, 0, none⟩ = some (.int .i64 x) ∧ W'.cell? ⟨B, 2, none⟩ = some (.int .i64 z) ∧ W'.cell? ⟨g, f, none⟩ = some (.int .i64 s) ∧ Ext W0 W') (by kernel_rfl) ?_ (fun hHeld => ?_)
          · exact ⟨d1, b0, b2, r0, Ext.drew (Ext.refl _)⟩
          (refine wpAnyL_take (i := 0) (v := ?_) rfl (by kernel_rfl) (by kernel_rfl) (by kernel_rfl) (by kernel_rfl) (fun _ _ _ h => h) (Or.inl ⟨by rfl, ?_⟩) (by assumption) ?_; rotate_left 1; (focus (intro w hSw; (try dsimp only at hSw); go_simp; try (with_reducible rfl))))
          try simp only [Act.put, List.getElem_toArray, List.getElem_cons_zero, List.setIfInBounds_toArray, List.set_cons_zero, List.set_cons_succ]
          (refine wpAnyL_take (i := 1) (v := ?_) rfl (by kernel_rfl) (by kernel_rfl) (by kernel_rfl) (by kernel_rfl) (fun _ _ _ h => h) (Or.inl ⟨by rfl, ?_⟩) (by assumption) ?_; rotate_left 1; (focus (intro w hSw; (try dsimp only at hSw); go_simp; try (with_reducible rfl))))
          try simp only [Act.put, List.getElem_toArray, List.getElem_cons_zero, List.getElem_cons_succ, List.setIfInBounds_toArray, List.set_cons_zero, List.set_cons_succ]
          (refine wpAnyL_take (i := 2) (v := ?_) rfl (by kernel_rfl) (by kernel_rfl) (by kernel_rfl) (by kernel_rfl) (fun _ _ _ h => h) (Or.inl ⟨by rfl, ?_⟩) (by assumption) ?_; rotate_left 1; (focus (intro w hSw; (try dsimp only at hSw); go_simp; try (with_reducible rfl))))
          try simp only [Act.put, List.getElem_toArray, List.getElem_cons_zero, List.getElem_cons_succ, List.setIfInBounds_toArray, List.set_cons_zero, List.set_cons_succ]
          (refine wpAnyL_take (i := 3) (v := ?_) rfl (by kernel_rfl) (by kernel_rfl) (by kernel_rfl) (by kernel_rfl) (fun _ _ _ h => h) (Or.inl ⟨by rfl, ?_⟩) (by assumption) ?_; rotate_left 1; (focus (intro w hSw; (try dsimp only at hSw); go_simp; try (with_reducible rfl))))
          try simp only [Act.put, List.getElem_toArray, List.getElem_cons_zero, List.getElem_cons_succ, List.setIfInBounds_toArray, List.set_cons_zero, List.set_cons_succ]
          (refine wpAnyL_take (i := 4) (v := ?_) rfl (by kernel_rfl) (by kernel_rfl) (by kernel_rfl) (by kernel_rfl) (fun _ _ _ h => h) (Or.inl ⟨by rfl, ?_⟩) (by assumption) ?_; rotate_left 1; (focus (intro w hSw; (try dsimp only at hSw); go_simp; try (with_reducible rfl))))
          try simp only [Act.put, List.getElem_toArray, List.getElem_cons_zero, List.getElem_cons_succ, List.setIfInBounds_toArray, List.set_cons_zero, List.set_cons_succ]
          (refine wpAnyL_take (i := 8) (v := ?_) rfl (by kernel_rfl) (by kernel_rfl) (by kernel_rfl) (by kernel_rfl) (fun _ _ _ h => h) (Or.inl ⟨by rfl, ?_⟩) (by assumption) ?_; rotate_left 1; (focus (intro w hSw; (try dsimp only at hSw); go_simp; try (with_reducible rfl))))
          try simp only [Act.put, List.getElem_toArray, List.getElem_cons_zero, List.getElem_cons_succ, List.setIfInBounds_toArray, List.set_cons_zero, List.set_cons_succ]
          (refine wpAnyL_take (i := 9) (v := ?_) rfl (by kernel_rfl) (by kernel_rfl) (by kernel_rfl) (by kernel_rfl) (fun _ _ _ h => h) (Or.inl ⟨by rfl, ?_⟩) (by assumption) ?_; rotate_left 1; (focus (intro w hSw; (try dsimp only at hSw); go_simp; try (with_reducible rfl))))
          try simp only [Act.put, List.getElem_toArray, List.getElem_cons_zero, List.getElem_cons_succ, List.setIfInBounds_toArray, List.set_cons_zero, List.set_cons_succ]
          refine wpAnyL_one (i := 5) (by kernel_rfl) rfl (fun K hK => ?_)
          obtain ⟨V0, hV0⟩ : ∃ V, W0.drew = V := ⟨_, rfl⟩
          rw [hV0] at hHeld ⊢
          go_simp
          go_at_call 69; refine (HKF2.out _ (hx0.trans hHeld.2.2.2.2)).mono ?_; rintro e V1 ⟨rfl, hz⟩
          refine hK.out _ _ (fun _ => ?_) (fun hHeld => ?_)
          · exact ⟨Ext.cell hz hHeld.1, Ext.cell hz hHeld.2.1, Ext.cell hz hHeld.2.2.1, Ext.cell hz hHeld.2.2.2.1, hHeld.2.2.2.2.trans hz⟩
          replace hHeld := hHeld (by decide)
          clear hK K
          clear hz hV0
          try simp only [Act.put, List.getElem_toArray, List.getElem_cons_zero, List.getElem_cons_succ, List.setIfInBounds_toArray, List.set_cons_zero, List.set_cons_succ]
          (refine wpAnyL_take (i := 6) (v := ?_) rfl (by kernel_rfl) (by kernel_rfl) (by kernel_rfl) (by kernel_rfl) (fun _ _ _ h => h) (Or.inl ⟨by rfl, ?_⟩) (by assumption) ?_; rotate_left 1; (focus (intro w hSw; (try dsimp only at hSw); go_simp; try (with_reducible rfl))))
          try simp only [Act.put, List.getElem_toArray, List.getElem_cons_zero, List.getElem_cons_succ, List.setIfInBounds_toArray, List.set_cons_zero, List.set_cons_succ]
          (refine wpAnyL_take (i := 7) (v := ?_) rfl (by kernel_rfl) (by kernel_rfl) (by kernel_rfl) (by kernel_rfl) (fun _ _ _ h => h) (Or.inl ⟨by rfl, ?_⟩) (by assumption) ?_; rotate_left 1; (focus (intro w hSw; (try dsimp only at hSw); go_simp; try (with_reducible rfl))))
          try simp only [Act.put, List.getElem_toArray, List.getElem_cons_zero, List.getElem_cons_succ, List.setIfInBounds_toArray, List.set_cons_zero, List.set_cons_succ]
          (refine wpAnyL_take (i := 10) (v := ?_) rfl (by kernel_rfl) (by kernel_rfl) (by kernel_rfl) (by kernel_rfl) (fun _ _ _ h => h) (Or.inl ⟨by rfl, ?_⟩) (by assumption) ?_; rotate_left 1; (focus (intro w hSw; (try dsimp only at hSw); go_simp; try (with_reducible rfl))))
          try simp only [Act.put, List.getElem_toArray, List.getElem_cons_zero, List.getElem_cons_succ, List.setIfInBounds_toArray, List.set_cons_zero, List.set_cons_succ]
          (refine wpAnyL_take (i := 11) (v := ?_) rfl (by kernel_rfl) (by kernel_rfl) (by kernel_rfl) (by kernel_rfl) (fun _ _ _ h => h) (Or.inl ⟨by rfl, ?_⟩) (by assumption) ?_; rotate_left 1; (focus (intro w hSw; (try dsimp only at hSw); go_simp; try (with_reducible rfl))))
          try simp only [Act.put, List.getElem_toArray, List.getElem_cons_zero, List.getElem_cons_succ, List.setIfInBounds_toArray, List.set_cons_zero, List.set_cons_succ]
          refine wpAnyL_one (i := 12) (by kernel_rfl) rfl (fun K hK => ?_)
          have hRV := rowI_ext hR0 hHeld.2.2.2.2
          have fz := hRV.frozen hsl f
          have r1 := hHeld.2.2.2.1
          go_simp
          refine hK.out _ _ (fun h => absurd rfl h) (fun _ => ?_)
          clear hK K
          try simp only [Act.put, List.getElem_toArray, List.getElem_cons_zero, List.getElem_cons_succ, List.setIfInBounds_toArray, List.set_cons_zero, List.set_cons_succ]
          refine wpAnyL_done (by kernel_rfl) ?_ _
          have hRW : RowI w1.heap.size (.slice (some ⟨g, 0, none⟩) T.ps.length uc) (L.set f (s - z)) (V1.setCell ⟨g, f, none⟩ (.int .i64 (s - z))) := by
            have hRV2 := hRV
            rw [← hsl] at hRV2 ⊢
            exact rowI_set hRV2 _
          have q9W := (q9.ext hHeld.2.2.2.2).other (B' := g) (by omega) f (.int .i64 (s - z))
          have hxW := (hx0.trans hHeld.2.2.2.2).setCell (p := ⟨g, f, none⟩) (by simp; omega) (.int .i64 (s - z))
          go_wp2_with fail
          go_roundw
          case rel => exact ⟨k + 1, by omega, by go_num, Lib.hid (by rw [HST2.out]; exact hRW), q9W, hxW⟩
          case measure => simp [intOf]; omega
        · have hst := HST.out
          rw [if_neg hq] at hst
          have HST2 := Lib.hid hst
          have hbq : decide (y ≤ day) = false := decide_eq_false hq
          clear hst hq HST
          go_wp2_with fail
          go_roundw
          case rel => exact ⟨k + 1, by omega, by go_num, Lib.hid (by rw [HST2.out]; exact hR0), q9, hx0⟩
          case measure => simp [intOf]; omega
      · obtain rfl : k = l.length := by omega
        rw [List.take_length, ← HX2.out] at hR
        clear HR
        go_wp2_with fail
        go_ret2
        exact ⟨_, ret2 rfl (by rw [H0.out]; rfl), hR.at_, hx⟩
  · have hb : (E != 0) = true := by simpa using h0
    have hxx := HX.out
    rw [if_neg h0] at hxx
    have HX2 := Lib.hid hxx
    clear hxx h0
    go_wp2_with fail
    go_ret2
    exact ⟨_, ret2 rfl rfl, by rw [HX2.out]; exact intsAt_nil _, hx⟩

end Go.Proofs.YthopgonbndoidaaGreat
