/- Pence, Most and Least of the specification. -/
import Derived.Test.YthopgonbndoidaaGreatVRRd
import Derived.Test.YthopgonbndoidaaGreatVRSs
import Derived.Test.YthopgonbndoidaaGreatVMst
import Derived.Test.YthopgonbndoidaaGreatReg
namespace Go.Proofs.YthopgonbndoidaaGreat
open Go.RowKit Go.Shelf Go.Lib

def InrPost (w : World) (l : List Int) (E : Int) (e : Ending) (w' : World) : Prop := ∃ v, e = .returned (.agg #[v, .int .i64 E]) ∧ IntsAt w' v l ∧ Ext w w'
set_option maxRecDepth 100000 in
set_option maxHeartbeats 4000000 in
theorem refPenceP_any (a b : Value) (T : Tr) (w : World) (hT : TrAt w a b T) :
    Calls Tryz.prog 11 #[.agg #[a, b]] w (InrPost w (penX T) (chkE T)) := by
  have hX : penX T = if chkE T = 0 then pnX T else [] := rfl
  have hok := @Ok.of T
  have KU := fun (h : Ok T) W (hx : Ext w W) => refRounded_any a b T h W (hT.ext hx)
  have KC := fun W (hx : Ext w W) => refCheck_any a b T W (hT.ext hx)
  obtain ⟨E, hE⟩ : ∃ E, chkE T = E := ⟨_, rfl⟩
  obtain ⟨X, hXX⟩ : ∃ E, penX T = E := ⟨_, rfl⟩
  obtain ⟨Y, hYY⟩ : ∃ E, pnX T = E := ⟨_, rfl⟩
  rw [hE] at hok KC hX
  rw [hXX, hYY] at hX
  rw [hYY] at KU
  rw [hXX, hE]
  have HX := Lib.hid hX
  clear hE hX hXX hYY hT
  go_enter Tryz.func11, Tryz.ntmps11
  go_wp2_with fail
  refine (KC _ (by repeat (first | exact Ext.refl _ | assumption | refine Ext.alloc ?_ _ | refine Ext.drew ?_ | refine Ext.drewN _ ?_ | refine Ext.trans ?_ (by assumption)))).mono ?_
  rintro e w1 ⟨rfl, hx1⟩
  obtain ⟨q0, q1, hx, hk0⟩ := alloc2 hx1
  have d0 : w1.cell? ⟨w.heap.size, 0, none⟩ = some a := q0.cell 0
  have d1 : w1.cell? ⟨w.heap.size, 1, none⟩ = some b := q0.cell 1
  have f0 := q1.frozen 0
  have f1 := q1.frozen 1
  have c0 := q1.cell 0
  have c1 := q1.cell 1
  clear hx1 KC
  by_cases h0 : E = 0
  · have hb : (E != 0) = false := by simpa using h0
    have hxx := HX.out
    rw [if_pos h0] at hxx
    have KU := KU (hok h0)
    have HX2 := Lib.hid hxx
    have H0 := Lib.hid h0
    clear hxx h0 HX
    go_wp2_with fail
    refine (KU _ hx).mono ?_
    rintro e w2 ⟨u, rfl, hu, hz⟩
    have q12 := q1.ext hz
    obtain ⟨au, cu, rfl⟩ := hu.form
    have hx2 := hx.trans hz
    have f0 := q12.frozen 0
    have f1 := q12.frozen 1
    replace c0 := hz.cell c0
    replace c1 := hz.cell c1
    go_wp2_with fail
    have hC := (q12.set 0 (.slice au Y.length cu)).set 1 (.int .i64 0)
    exact bodyPost_ret (results_cell_row rfl _ _ (w.heap.size + 1) _ _ _ _ rfl hC Tryz.underlying33 rfl (by kernel_rfl)) rfl ⟨_, by rw [H0.out]; rfl, by rw [HX2.out]; exact (rowI_cell1 (rowI_cell1 hu (by omega) 0 _) (by omega) 1 _).at_, ixr_ext _ hx2 (by omega) _ _⟩
  · have hb : (E != 0) = true := by simpa using h0
    have hxx := HX.out
    rw [if_neg h0] at hxx
    have HX2 := Lib.hid hxx
    clear hxx h0 HX KU hok
    go_wp2_with fail
    have hC := (q1.set 0 (.slice none 0 0)).set 1 (.int .i64 E)
    exact bodyPost_ret (results_cell_row rfl _ _ (w.heap.size + 1) _ _ _ _ rfl hC Tryz.underlying33 rfl (by kernel_rfl)) rfl ⟨_, rfl, by rw [HX2.out]; exact intsAt_nil _, ixr_ext _ hx (by omega) _ _⟩

theorem alnG_one (T : Tr) (id : Int) : alnG T [id] = alnE T (fun p => p.id == id) := by
  unfold alnG
  congr 1
  funext p
  rw [Bool.eq_iff_iff]
  simp
theorem alnG_but (T : Tr) (id : Int) : alnG T (idsL [id] T.ps) = alnE T (fun p => !(p.id == id)) := by
  unfold alnG alnE
  refine sumR_congr (fun k _ => ?_)
  have e : T.ps.any (fun p => decide (p.id ∈ idsL [id] T.ps) && usB T.rs p.reach k) = T.ps.any (fun p => !(p.id == id) && usB T.rs p.reach k) := by
    rw [Bool.eq_iff_iff, List.any_eq_true, List.any_eq_true]
    constructor
    · rintro ⟨p, h1, h2⟩
      rw [Bool.and_eq_true] at h2
      have h3 := (idsL_mem.1 (of_decide_eq_true h2.1)).1
      exact ⟨p, h1, by rw [h2.2]; simpa using h3⟩
    · rintro ⟨p, h1, h2⟩
      rw [Bool.and_eq_true] at h2
      exact ⟨p, h1, by rw [decide_eq_true (idsL_mem.2 ⟨by simpa using h2.1, p, h1, rfl⟩)]; exact h2.2⟩
  rw [e]
set_option maxRecDepth 100000 in
set_option maxHeartbeats 4000000 in
theorem refMost_any (a b : Value) (T : Tr) (id : Int) (w : World) (hT : TrAt w a b T) (hn : T.ps.length ≤ 100000) :
    Calls Tryz.prog 13 #[.agg #[a, b], .int .i64 id] w fun e w' => e = .returned (.tuple #[.int .i64 (if sngE T id = 0 then alnE T (fun p => p.id == id) else 0), .int .i64 (sngE T id)]) ∧ Ext w w' := by
  have hE : sngE T id = if chkE T = 0 then (if fnd T.ps id < 0 then 5 else 0) else chkE T := rfl
  have hok := @Ok.of T
  have KC := fun W (hx : Ext w W) => refCheck_any a b T W (hT.ext hx)
  have KP := fun W (hx : Ext w W) => refPayer_any a b T id W (hT.ext hx) hn
  have KA := fun (h : Ok T) u W (hx : Ext w W) (hu : IntsAt W u [id]) => refAlone0_any a b u T h [id] W (hT.ext hx) hu (by simp)
  rw [alnG_one] at KA
  obtain ⟨C, hC⟩ : ∃ E, chkE T = E := ⟨_, rfl⟩
  obtain ⟨I, hI⟩ : ∃ E, fnd T.ps id = E := ⟨_, rfl⟩
  obtain ⟨E, hEE⟩ : ∃ E, sngE T id = E := ⟨_, rfl⟩
  obtain ⟨A, hA⟩ : ∃ E, alnE T (fun p => p.id == id) = E := ⟨_, rfl⟩
  rw [hC] at KC hok hE
  rw [hI] at KP hE
  rw [hA] at KA
  rw [hEE] at hE
  rw [hEE, hA]
  obtain ⟨X, hX⟩ : ∃ X, (if E = 0 then A else 0) = X := ⟨_, rfl⟩
  rw [hX]
  have HX := Lib.hid hX
  have HE := Lib.hid hE
  have HKA := Lib.hid KA
  have HOK := Lib.hid hok
  clear hE hX hok KA hC hI hEE hA hT
  go_enter Tryz.func13, Tryz.ntmps13
  go_wp2_with fail
  refine (KC _ (by repeat (first | exact Ext.refl _ | assumption | refine Ext.alloc ?_ _ | refine Ext.drew ?_ | refine Ext.drewN _ ?_ | refine Ext.trans ?_ (by assumption)))).mono ?_
  rintro e w1 ⟨rfl, hx1⟩
  obtain ⟨q0, hx, hk0⟩ := alloc1 hx1
  have d0 : w1.cell? ⟨w.heap.size, 0, none⟩ = some a := q0.cell 0
  have d1 : w1.cell? ⟨w.heap.size, 1, none⟩ = some b := q0.cell 1
  clear hx1 KC
  by_cases h0 : C = 0
  · have hb : (C != 0) = false := by simpa using h0
    have he := HE.out
    rw [if_pos h0] at he
    have KA := HKA.out (HOK.out h0)
    have HE2 := Lib.hid he
    clear he h0
    go_wp2_with fail
    refine (KP _ hx).mono ?_
    rintro e w2 ⟨rfl, hz⟩
    replace hx := hx.trans hz
    replace q0 := q0.ext hz
    have d0 : w2.cell? ⟨w.heap.size, 0, none⟩ = some a := q0.cell 0
    have d1 : w2.cell? ⟨w.heap.size, 1, none⟩ = some b := q0.cell 1
    clear hz KP
    by_cases hi0 : I < 0
    · have he := HE2.out
      rw [if_pos hi0] at he
      have hxx := HX.out
      rw [if_neg (by rw [he]; decide)] at hxx
      have HE3 := Lib.hid he
      have HX3 := Lib.hid hxx
      have hbq : decide (I < 0) = true := decide_eq_true hi0
      clear he hxx hi0
      go_wp2_with fail
      go_ret2
      exact ⟨ret2 (by rw [← HX3.out]; rfl) (by rw [HE3.out]; rfl), hx⟩
    · have he := HE2.out
      rw [if_neg hi0] at he
      have hxx := HX.out
      rw [if_pos he] at hxx
      have HE3 := Lib.hid he
      have HX3 := Lib.hid hxx
      have hbq : decide (I < 0) = false := decide_eq_false hi0
      clear he hxx hi0
      go_wp2_with fail
      refine (KA _ _ (hx.trans (by repeat (first | exact Ext.refl _ | assumption | refine Ext.alloc ?_ _ | refine Ext.drew ?_ | refine Ext.drewN _ ?_ | refine Ext.trans ?_ (by assumption)))) (ints_one _ _ 3)).mono ?_
      rintro e w3 ⟨rfl, hz⟩
      clear KA d0 d1
      go_wp2_with fail
      go_ret2
      exact ⟨ret2 (by rw [← HX3.out]; rfl) (by rw [HE3.out]; rfl), (hx.trans (by repeat (first | exact Ext.refl _ | assumption | refine Ext.alloc ?_ _ | refine Ext.drew ?_ | refine Ext.drewN _ ?_ | refine Ext.trans ?_ (by assumption)))).trans hz⟩
  · have hb : (C != 0) = true := by simpa using h0
    have he := HE.out
    rw [if_neg h0] at he
    have hxx := HX.out
    rw [if_neg (by rw [he]; exact h0)] at hxx
    have HE2 := Lib.hid he
    have HX2 := Lib.hid hxx
    clear he hxx h0
    go_wp2_with fail
    go_ret2
    exact ⟨ret2 (by rw [← HX2.out]; rfl) (by rw [HE2.out]; rfl), hx⟩
set_option maxRecDepth 100000 in
set_option maxHeartbeats 8000000 in
theorem refLeast_any (a b : Value) (T : Tr) (id : Int) (w : World) (hT : TrAt w a b T) (hn : T.ps.length ≤ 100000) :
    Calls Tryz.prog 15 #[.agg #[a, b], .int .i64 id] w fun e w' => e = .returned (.tuple #[.int .i64 (if sngE T id = 0 then alnE T (fun _ => true) - alnE T (fun p => !(p.id == id)) else 0), .int .i64 (sngE T id)]) ∧ Ext w w' := by
  have hE : sngE T id = if chkE T = 0 then (if fnd T.ps id < 0 then 5 else 0) else chkE T := rfl
  have hok := @Ok.of T
  have KC := fun W (hx : Ext w W) => refCheck_any a b T W (hT.ext hx)
  have KP := fun W (hx : Ext w W) => refPayer_any a b T id W (hT.ext hx) hn
  have KI0 := fun (h : Ok T) W (hx : Ext w W) => refIds_any a b (.slice none 0 0) T h [] W (hT.ext hx) (intsAt_nil _) (by decide)
  have KI1 := fun (h : Ok T) u W (hx : Ext w W) (hu : IntsAt W u [id]) => refIds_any a b u T h [id] W (hT.ext hx) hu (by simp)
  have hI0 : (idsL [] T.ps).length ≤ 100000 := Nat.le_trans (idsL_len _ _) (by omega)
  have hI1 : (idsL [id] T.ps).length ≤ 100000 := Nat.le_trans (idsL_len _ _) (by omega)
  have KA0 := fun (h : Ok T) u W (hx : Ext w W) (hu : IntsAt W u (idsL [] T.ps)) => refAlone0_any a b u T h (idsL [] T.ps) W (hT.ext hx) hu hI0
  have KA1 := fun (h : Ok T) u W (hx : Ext w W) (hu : IntsAt W u (idsL [id] T.ps)) => refAlone0_any a b u T h (idsL [id] T.ps) W (hT.ext hx) hu hI1
  rw [alnG_all] at KA0
  rw [alnG_but] at KA1
  have hb0 := fun (h : Ok T) => alnE_bd h (fun _ => true)
  have hb1 := fun (h : Ok T) => alnE_bd h (fun p => !(p.id == id))
  obtain ⟨C, hC⟩ : ∃ E, chkE T = E := ⟨_, rfl⟩
  obtain ⟨I, hI⟩ : ∃ E, fnd T.ps id = E := ⟨_, rfl⟩
  obtain ⟨E, hEE⟩ : ∃ E, sngE T id = E := ⟨_, rfl⟩
  obtain ⟨A, hA⟩ : ∃ E, alnE T (fun _ => true) = E := ⟨_, rfl⟩
  obtain ⟨B, hB⟩ : ∃ E, alnE T (fun p => !(p.id == id)) = E := ⟨_, rfl⟩
  obtain ⟨J0, hJ0⟩ : ∃ E, idsL [] T.ps = E := ⟨_, rfl⟩
  obtain ⟨J1, hJ1⟩ : ∃ E, idsL [id] T.ps = E := ⟨_, rfl⟩
  rw [hC] at KC hok hE
  rw [hI] at KP hE
  rw [hA] at KA0 hb0
  rw [hB] at KA1 hb1
  rw [hJ0] at KI0 KA0
  rw [hJ1] at KI1 KA1
  rw [hEE] at hE
  rw [hEE, hA, hB]
  obtain ⟨X, hX⟩ : ∃ X, (if E = 0 then A - B else 0) = X := ⟨_, rfl⟩
  rw [hX]
  have HX := Lib.hid hX
  have HE := Lib.hid hE
  have HKA0 := Lib.hid KA0
  have HKA1 := Lib.hid KA1
  have HKI0 := Lib.hid KI0
  have HKI1 := Lib.hid KI1
  have HB0 := Lib.hid hb0
  have HB1 := Lib.hid hb1
  have HOK := Lib.hid hok
  clear hE hX hok KA0 KA1 KI0 KI1 hb0 hb1 hC hI hEE hA hB hJ0 hJ1 hT hI0 hI1
  go_enter Tryz.func15, Tryz.ntmps15
  go_wp2_with fail
  refine (KC _ (by repeat (first | exact Ext.refl _ | assumption | refine Ext.alloc ?_ _ | refine Ext.drew ?_ | refine Ext.drewN _ ?_ | refine Ext.trans ?_ (by assumption)))).mono ?_
  rintro e w1 ⟨rfl, hx1⟩
  obtain ⟨q0, hx, hk0⟩ := alloc1 hx1
  have d0 : w1.cell? ⟨w.heap.size, 0, none⟩ = some a := q0.cell 0
  have d1 : w1.cell? ⟨w.heap.size, 1, none⟩ = some b := q0.cell 1
  clear hx1 KC
  by_cases h0 : C = 0
  · have hb : (C != 0) = false := by simpa using h0
    have he := HE.out
    rw [if_pos h0] at he
    have hok := HOK.out h0
    have HE2 := Lib.hid he
    have KA0 := HKA0.out hok
    have KA1 := HKA1.out hok
    have KI0 := HKI0.out hok
    have KI1 := HKI1.out hok
    have hb0 := HB0.out hok
    have hb1 := HB1.out hok
    have hw1 : IntKind.i64.wrap (A - B) = A - B := IntWalk.i64_in _ (by omega)
    have GA0 := Lib.hid KA0
    have GA1 := Lib.hid KA1
    have GI0 := Lib.hid KI0
    have GI1 := Lib.hid KI1
    clear he h0 hok hb0 hb1 KA0 KA1 KI0 KI1
    go_wp2_with fail
    refine (KP _ hx).mono ?_
    rintro e w2 ⟨rfl, hz⟩
    replace hx := hx.trans hz
    replace q0 := q0.ext hz
    have d0 : w2.cell? ⟨w.heap.size, 0, none⟩ = some a := q0.cell 0
    have d1 : w2.cell? ⟨w.heap.size, 1, none⟩ = some b := q0.cell 1
    clear hz KP
    by_cases hi0 : I < 0
    · have he := HE2.out
      rw [if_pos hi0] at he
      have hxx := HX.out
      rw [if_neg (by rw [he]; decide)] at hxx
      have HE3 := Lib.hid he
      have HX3 := Lib.hid hxx
      have hbq : decide (I < 0) = true := decide_eq_true hi0
      clear he hxx hi0
      go_wp2_with fail
      go_ret2
      exact ⟨ret2 (by rw [← HX3.out]; rfl) (by rw [HE3.out]; rfl), hx⟩
    · have he := HE2.out
      rw [if_neg hi0] at he
      have hxx := HX.out
      rw [if_pos he] at hxx
      have HE3 := Lib.hid he
      have HX3 := Lib.hid hxx
      have hbq : decide (I < 0) = false := decide_eq_false hi0
      clear he hxx hi0
      go_upto_region 6 with fail
      have KI0 := Lib.hid (fun W (h : Ext w2 W) => GI0.out W (hx.trans h))
      have KI1 := Lib.hid (fun u W (h : Ext w2 W) => GI1.out u W (hx.trans h))
      have KA0 := Lib.hid (fun u W (h : Ext w2 W) => GA0.out u W (hx.trans h))
      have KA1 := Lib.hid (fun u W (h : Ext w2 W) => GA1.out u W (hx.trans h))
      clear GI0 GI1 GA0 GA1
      refine wp_region_held_drew (S := fun W' => W'.cell? ⟨w.heap.size, 0, none⟩ = some a ∧ W'.cell? ⟨w.heap.size, 1, none⟩ = some b ∧ Ext w2 W') (by kernel_rfl) ?_ (fun hHeld => ?_)
      · exact ⟨d0, d1, Ext.drew (Ext.refl _)⟩
      (refine wpAnyH_take (i := 0) (v := ?_) rfl (by kernel_rfl) (by kernel_rfl) (by kernel_rfl) (fun _ _ _ h => h) (Or.inl ⟨by rfl, ?_⟩) (by assumption) ?_; rotate_left 1; (focus (intro w hSw; (try dsimp only at hSw); go_simp; try (with_reducible rfl))))
      try simp only [Act.put, List.getElem_toArray, List.getElem_cons_zero, List.setIfInBounds_toArray, List.set_cons_zero, List.set_cons_succ]
      (refine wpAnyH_take (i := 1) (v := ?_) rfl (by kernel_rfl) (by kernel_rfl) (by kernel_rfl) (fun _ _ _ h => h) (Or.inl ⟨by rfl, ?_⟩) (by assumption) ?_; rotate_left 1; (focus (intro w hSw; (try dsimp only at hSw); go_simp; try (with_reducible rfl))))
      try simp only [Act.put, List.getElem_toArray, List.getElem_cons_zero, List.getElem_cons_succ, List.setIfInBounds_toArray, List.set_cons_zero, List.set_cons_succ]
      (refine wpAnyH_take (i := 4) (v := ?_) rfl (by kernel_rfl) (by kernel_rfl) (by kernel_rfl) (fun _ _ _ h => h) (Or.inl ⟨by rfl, ?_⟩) (by assumption) ?_; rotate_left 1; (focus (intro w hSw; (try dsimp only at hSw); go_simp; try (with_reducible rfl))))
      try simp only [Act.put, List.getElem_toArray, List.getElem_cons_zero, List.getElem_cons_succ, List.setIfInBounds_toArray, List.set_cons_zero, List.set_cons_succ]
      (refine wpAnyH_take (i := 5) (v := ?_) rfl (by kernel_rfl) (by kernel_rfl) (by kernel_rfl) (fun _ _ _ h => h) (Or.inl ⟨by rfl, ?_⟩) (by assumption) ?_; rotate_left 1; (focus (intro w hSw; (try dsimp only at hSw); go_simp; try (with_reducible rfl))))
      try simp only [Act.put, List.getElem_toArray, List.getElem_cons_zero, List.getElem_cons_succ, List.setIfInBounds_toArray, List.set_cons_zero, List.set_cons_succ]
      (refine wpAnyH_take (i := 6) (v := ?_) rfl (by kernel_rfl) (by kernel_rfl) (by kernel_rfl) (fun _ _ _ h => h) (Or.inl ⟨by rfl, ?_⟩) (by assumption) ?_; rotate_left 1; (focus (intro w hSw; (try dsimp only at hSw); go_simp; try (with_reducible rfl))))
      try simp only [Act.put, List.getElem_toArray, List.getElem_cons_zero, List.getElem_cons_succ, List.setIfInBounds_toArray, List.set_cons_zero, List.set_cons_succ]
      refine wpAnyH_from [(2, 18), (3, 19), (7, 23), (8, 24), (9, 25), (10, 26), (11, 4), (12, 5)] (fun j v c w => match j with | 2 => (IntsAt w (v 2) J0) | 3 => (v 3 = .int .i64 A) | 7 => (IntsAt w (v 7) [id]) | 8 => (IntsAt w (v 8) J1) | 9 => (v 9 = .int .i64 B) | 10 => (v 10 = .int .i64 (A - B)) | 11 => (v 11 = .int .i64 (A - B)) | 12 => (v 12 = .int .i64 0) | _ => True) (fun W => Ext w2 W) [2, 3, 7, 8, 9, 10, 11, 12] ?_ ?_ ?_ ?_ ?_ ?_ ?_ ?_ ?_ ?_ ?_
      · exact fun W h => ⟨Ext.cell h d0, Ext.cell h d1, h⟩
      · kernel_rfl
      · kernel_rfl
      · rfl
      · kernel_rfl
      · kernel_rfl
      · decide
      · exact Ext.drew (Ext.refl _)
      · refine StepsAll.cons rfl (fun v c W K hK hG hc hd hcl hF => ?_) ?_
        · simp only [putAll, List.setIfInBounds_toArray, List.set_cons_zero, List.set_cons_succ]
          go_simp
          go_at_call 55
          refine (KI0.out _ hG).mono ?_
          rintro e W' ⟨u0, rfl, hu0, hz⟩
          refine hK.out u0 _ _ (by kernel_rfl) (hG.trans hz) (fun j hj hcj => ?_)
          simp only [List.mem_cons, List.not_mem_nil, or_false] at hj
          rcases hj with rfl | rfl | rfl | rfl | rfl | rfl | rfl | rfl
          · show IntsAt W' (u0) J0
            exact hu0
          · have hP : v 3 = .int .i64 A := hF 3 (by simp) (by simpa [updN] using hcj)
            show v 3 = .int .i64 A
            exact hP
          · have hP : IntsAt W (v 7) [id] := hF 7 (by simp) (by simpa [updN] using hcj)
            show IntsAt W' (v 7) [id]
            exact hP.ext hz
          · have hP : IntsAt W (v 8) J1 := hF 8 (by simp) (by simpa [updN] using hcj)
            show IntsAt W' (v 8) J1
            exact hP.ext hz
          · have hP : v 9 = .int .i64 B := hF 9 (by simp) (by simpa [updN] using hcj)
            show v 9 = .int .i64 B
            exact hP
          · have hP : v 10 = .int .i64 (A - B) := hF 10 (by simp) (by simpa [updN] using hcj)
            show v 10 = .int .i64 (A - B)
            exact hP
          · have hP : v 11 = .int .i64 (A - B) := hF 11 (by simp) (by simpa [updN] using hcj)
            show v 11 = .int .i64 (A - B)
            exact hP
          · have hP : v 12 = .int .i64 0 := hF 12 (by simp) (by simpa [updN] using hcj)
            show v 12 = .int .i64 0
            exact hP
        refine StepsAll.cons rfl (fun v c W K hK hG hc hd hcl hF => ?_) ?_
        · simp only [putAll, List.setIfInBounds_toArray, List.set_cons_zero, List.set_cons_succ]
          have h2 : IntsAt W (v 2) J0 := hF 2 (by simp) (hd 2 (by kernel_rfl))
          go_simp
          go_at_call 51
          refine (KA0.out _ _ hG h2).mono ?_
          rintro e W' ⟨rfl, hz⟩
          refine hK.out (Value.int .i64 A) _ _ (by kernel_rfl) (hG.trans hz) (fun j hj hcj => ?_)
          simp only [List.mem_cons, List.not_mem_nil, or_false] at hj
          rcases hj with rfl | rfl | rfl | rfl | rfl | rfl | rfl | rfl
          · have hP : IntsAt W (v 2) J0 := hF 2 (by simp) (by simpa [updN] using hcj)
            show IntsAt W' (v 2) J0
            exact hP.ext hz
          · show (Value.int .i64 A) = .int .i64 A
            exact rfl
          · have hP : IntsAt W (v 7) [id] := hF 7 (by simp) (by simpa [updN] using hcj)
            show IntsAt W' (v 7) [id]
            exact hP.ext hz
          · have hP : IntsAt W (v 8) J1 := hF 8 (by simp) (by simpa [updN] using hcj)
            show IntsAt W' (v 8) J1
            exact hP.ext hz
          · have hP : v 9 = .int .i64 B := hF 9 (by simp) (by simpa [updN] using hcj)
            show v 9 = .int .i64 B
            exact hP
          · have hP : v 10 = .int .i64 (A - B) := hF 10 (by simp) (by simpa [updN] using hcj)
            show v 10 = .int .i64 (A - B)
            exact hP
          · have hP : v 11 = .int .i64 (A - B) := hF 11 (by simp) (by simpa [updN] using hcj)
            show v 11 = .int .i64 (A - B)
            exact hP
          · have hP : v 12 = .int .i64 0 := hF 12 (by simp) (by simpa [updN] using hcj)
            show v 12 = .int .i64 0
            exact hP
        refine StepsAll.cons rfl (fun v c W K hK hG hc hd hcl hF => ?_) ?_
        · simp only [putAll, List.setIfInBounds_toArray, List.set_cons_zero, List.set_cons_succ]
          go_simp
          obtain ⟨W', hN⟩ : ∃ X, W.alloc (.cells #[.int .i64 id] 3) = X := ⟨_, rfl⟩
          have hz : Ext W W' := by rw [← hN]; exact (by repeat (first | exact Ext.refl _ | assumption | refine Ext.alloc ?_ _ | refine Ext.drew ?_ | refine Ext.drewN _ ?_ | refine Ext.trans ?_ (by assumption)))
          have hB : IntsAt W' (.slice (some ⟨W.heap.size, 0, none⟩) 1 1) [id] := by rw [← hN]; exact ints_one _ _ _
          rw [hN]
          refine hK.out (Value.slice (some ⟨W.heap.size, 0, none⟩) 1 1) _ _ (by kernel_rfl) (hG.trans hz) (fun j hj hcj => ?_)
          simp only [List.mem_cons, List.not_mem_nil, or_false] at hj
          rcases hj with rfl | rfl | rfl | rfl | rfl | rfl | rfl | rfl
          · have hP : IntsAt W (v 2) J0 := hF 2 (by simp) (by simpa [updN] using hcj)
            show IntsAt W' (v 2) J0
            exact hP.ext hz
          · have hP : v 3 = .int .i64 A := hF 3 (by simp) (by simpa [updN] using hcj)
            show v 3 = .int .i64 A
            exact hP
          · show IntsAt W' ((Value.slice (some ⟨W.heap.size, 0, none⟩) 1 1)) [id]
            exact hB
          · have hP : IntsAt W (v 8) J1 := hF 8 (by simp) (by simpa [updN] using hcj)
            show IntsAt W' (v 8) J1
            exact hP.ext hz
          · have hP : v 9 = .int .i64 B := hF 9 (by simp) (by simpa [updN] using hcj)
            show v 9 = .int .i64 B
            exact hP
          · have hP : v 10 = .int .i64 (A - B) := hF 10 (by simp) (by simpa [updN] using hcj)
            show v 10 = .int .i64 (A - B)
            exact hP
          · have hP : v 11 = .int .i64 (A - B) := hF 11 (by simp) (by simpa [updN] using hcj)
            show v 11 = .int .i64 (A - B)
            exact hP
          · have hP : v 12 = .int .i64 0 := hF 12 (by simp) (by simpa [updN] using hcj)
            show v 12 = .int .i64 0
            exact hP
        refine StepsAll.cons rfl (fun v c W K hK hG hc hd hcl hF => ?_) ?_
        · simp only [putAll, List.setIfInBounds_toArray, List.set_cons_zero, List.set_cons_succ]
          have h7 : IntsAt W (v 7) [id] := hF 7 (by simp) (hd 7 (by kernel_rfl))
          go_simp
          go_at_call 55
          refine (KI1.out _ _ hG h7).mono ?_
          rintro e W' ⟨u0, rfl, hu0, hz⟩
          refine hK.out u0 _ _ (by kernel_rfl) (hG.trans hz) (fun j hj hcj => ?_)
          simp only [List.mem_cons, List.not_mem_nil, or_false] at hj
          rcases hj with rfl | rfl | rfl | rfl | rfl | rfl | rfl | rfl
          · have hP : IntsAt W (v 2) J0 := hF 2 (by simp) (by simpa [updN] using hcj)
            show IntsAt W' (v 2) J0
            exact hP.ext hz
          · have hP : v 3 = .int .i64 A := hF 3 (by simp) (by simpa [updN] using hcj)
            show v 3 = .int .i64 A
            exact hP
          · have hP : IntsAt W (v 7) [id] := hF 7 (by simp) (by simpa [updN] using hcj)
            show IntsAt W' (v 7) [id]
            exact hP.ext hz
          · show IntsAt W' (u0) J1
            exact hu0
          · have hP : v 9 = .int .i64 B := hF 9 (by simp) (by simpa [updN] using hcj)
            show v 9 = .int .i64 B
            exact hP
          · have hP : v 10 = .int .i64 (A - B) := hF 10 (by simp) (by simpa [updN] using hcj)
            show v 10 = .int .i64 (A - B)
            exact hP
          · have hP : v 11 = .int .i64 (A - B) := hF 11 (by simp) (by simpa [updN] using hcj)
            show v 11 = .int .i64 (A - B)
            exact hP
          · have hP : v 12 = .int .i64 0 := hF 12 (by simp) (by simpa [updN] using hcj)
            show v 12 = .int .i64 0
            exact hP
        refine StepsAll.cons rfl (fun v c W K hK hG hc hd hcl hF => ?_) ?_
        · simp only [putAll, List.setIfInBounds_toArray, List.set_cons_zero, List.set_cons_succ]
          have h8 : IntsAt W (v 8) J1 := hF 8 (by simp) (hd 8 (by kernel_rfl))
          go_simp
          go_at_call 51
          refine (KA1.out _ _ hG h8).mono ?_
          rintro e W' ⟨rfl, hz⟩
          refine hK.out (Value.int .i64 B) _ _ (by kernel_rfl) (hG.trans hz) (fun j hj hcj => ?_)
          simp only [List.mem_cons, List.not_mem_nil, or_false] at hj
          rcases hj with rfl | rfl | rfl | rfl | rfl | rfl | rfl | rfl
          · have hP : IntsAt W (v 2) J0 := hF 2 (by simp) (by simpa [updN] using hcj)
            show IntsAt W' (v 2) J0
            exact hP.ext hz
          · have hP : v 3 = .int .i64 A := hF 3 (by simp) (by simpa [updN] using hcj)
            show v 3 = .int .i64 A
            exact hP
          · have hP : IntsAt W (v 7) [id] := hF 7 (by simp) (by simpa [updN] using hcj)
            show IntsAt W' (v 7) [id]
            exact hP.ext hz
          · have hP : IntsAt W (v 8) J1 := hF 8 (by simp) (by simpa [updN] using hcj)
            show IntsAt W' (v 8) J1
            exact hP.ext hz
          · show (Value.int .i64 B) = .int .i64 B
            exact rfl
          · have hP : v 10 = .int .i64 (A - B) := hF 10 (by simp) (by simpa [updN] using hcj)
            show v 10 = .int .i64 (A - B)
            exact hP
          · have hP : v 11 = .int .i64 (A - B) := hF 11 (by simp) (by simpa [updN] using hcj)
            show v 11 = .int .i64 (A - B)
            exact hP
          · have hP : v 12 = .int .i64 0 := hF 12 (by simp) (by simpa [updN] using hcj)
            show v 12 = .int .i64 0
            exact hP
        refine StepsAll.cons rfl (fun v c W K hK hG hc hd hcl hF => ?_) ?_
        · simp only [putAll, List.setIfInBounds_toArray, List.set_cons_zero, List.set_cons_succ]
          have h3 : v 3 = .int .i64 A := hF 3 (by simp) (hd 3 (by kernel_rfl))
          have h9 : v 9 = .int .i64 B := hF 9 (by simp) (hd 9 (by kernel_rfl))
          simp only [h3, h9]
          go_simp
          refine hK.out (Value.int .i64 (A - B)) _ _ (by simp [putAll, updN, h3, h9]) (hG) (fun j hj hcj => ?_)
          simp only [List.mem_cons, List.not_mem_nil, or_false] at hj
          rcases hj with rfl | rfl | rfl | rfl | rfl | rfl | rfl | rfl
          · have hP : IntsAt W (v 2) J0 := hF 2 (by simp) (by simpa [updN] using hcj)
            show IntsAt W (v 2) J0
            exact hP
          · have hP : v 3 = .int .i64 A := hF 3 (by simp) (by simpa [updN] using hcj)
            show v 3 = .int .i64 A
            exact hP
          · have hP : IntsAt W (v 7) [id] := hF 7 (by simp) (by simpa [updN] using hcj)
            show IntsAt W (v 7) [id]
            exact hP
          · have hP : IntsAt W (v 8) J1 := hF 8 (by simp) (by simpa [updN] using hcj)
            show IntsAt W (v 8) J1
            exact hP
          · have hP : v 9 = .int .i64 B := hF 9 (by simp) (by simpa [updN] using hcj)
            show v 9 = .int .i64 B
            exact hP
          · show (Value.int .i64 (A - B)) = .int .i64 (A - B)
            exact rfl
          · have hP : v 11 = .int .i64 (A - B) := hF 11 (by simp) (by simpa [updN] using hcj)
            show v 11 = .int .i64 (A - B)
            exact hP
          · have hP : v 12 = .int .i64 0 := hF 12 (by simp) (by simpa [updN] using hcj)
            show v 12 = .int .i64 0
            exact hP
        refine StepsAll.cons rfl (fun v c W K hK hG hc hd hcl hF => ?_) ?_
        · simp only [putAll, List.setIfInBounds_toArray, List.set_cons_zero, List.set_cons_succ]
          have h10 : v 10 = .int .i64 (A - B) := hF 10 (by simp) (hd 10 (by kernel_rfl))
          simp only [h10]
          go_simp
          refine hK.out (Value.int .i64 (A - B)) _ _ (by simp [putAll, updN, h10]) (hG) (fun j hj hcj => ?_)
          simp only [List.mem_cons, List.not_mem_nil, or_false] at hj
          rcases hj with rfl | rfl | rfl | rfl | rfl | rfl | rfl | rfl
          · have hP : IntsAt W (v 2) J0 := hF 2 (by simp) (by simpa [updN] using hcj)
            show IntsAt W (v 2) J0
            exact hP
          · have hP : v 3 = .int .i64 A := hF 3 (by simp) (by simpa [updN] using hcj)
            show v 3 = .int .i64 A
            exact hP
          · have hP : IntsAt W (v 7) [id] := hF 7 (by simp) (by simpa [updN] using hcj)
            show IntsAt W (v 7) [id]
            exact hP
          · have hP : IntsAt W (v 8) J1 := hF 8 (by simp) (by simpa [updN] using hcj)
            show IntsAt W (v 8) J1
            exact hP
          · have hP : v 9 = .int .i64 B := hF 9 (by simp) (by simpa [updN] using hcj)
            show v 9 = .int .i64 B
            exact hP
          · have hP : v 10 = .int .i64 (A - B) := hF 10 (by simp) (by simpa [updN] using hcj)
            show v 10 = .int .i64 (A - B)
            exact hP
          · show (Value.int .i64 (A - B)) = .int .i64 (A - B)
            exact rfl
          · have hP : v 12 = .int .i64 0 := hF 12 (by simp) (by simpa [updN] using hcj)
            show v 12 = .int .i64 0
            exact hP
        refine StepsAll.cons rfl (fun v c W K hK hG hc hd hcl hF => ?_) ?_
        · simp only [putAll, List.setIfInBounds_toArray, List.set_cons_zero, List.set_cons_succ]
          go_simp
          refine hK.out (Value.int .i64 0) _ _ (by kernel_rfl) (hG) (fun j hj hcj => ?_)
          simp only [List.mem_cons, List.not_mem_nil, or_false] at hj
          rcases hj with rfl | rfl | rfl | rfl | rfl | rfl | rfl | rfl
          · have hP : IntsAt W (v 2) J0 := hF 2 (by simp) (by simpa [updN] using hcj)
            show IntsAt W (v 2) J0
            exact hP
          · have hP : v 3 = .int .i64 A := hF 3 (by simp) (by simpa [updN] using hcj)
            show v 3 = .int .i64 A
            exact hP
          · have hP : IntsAt W (v 7) [id] := hF 7 (by simp) (by simpa [updN] using hcj)
            show IntsAt W (v 7) [id]
            exact hP
          · have hP : IntsAt W (v 8) J1 := hF 8 (by simp) (by simpa [updN] using hcj)
            show IntsAt W (v 8) J1
            exact hP
          · have hP : v 9 = .int .i64 B := hF 9 (by simp) (by simpa [updN] using hcj)
            show v 9 = .int .i64 B
            exact hP
          · have hP : v 10 = .int .i64 (A - B) := hF 10 (by simp) (by simpa [updN] using hcj)
            show v 10 = .int .i64 (A - B)
            exact hP
          · have hP : v 11 = .int .i64 (A - B) := hF 11 (by simp) (by simpa [updN] using hcj)
            show v 11 = .int .i64 (A - B)
            exact hP
          · show (Value.int .i64 0) = .int .i64 0
            exact rfl
        exact StepsAll.nil
      rotate_left 1
      · kernel_rfl
      · intro v W hG hF
        have h2 : IntsAt W (v 2) J0 := hF 2 (by simp)
        have h3 : v 3 = .int .i64 A := hF 3 (by simp)
        have h7 : IntsAt W (v 7) [id] := hF 7 (by simp)
        have h8 : IntsAt W (v 8) J1 := hF 8 (by simp)
        have h9 : v 9 = .int .i64 B := hF 9 (by simp)
        have h10 : v 10 = .int .i64 (A - B) := hF 10 (by simp)
        have h11 : v 11 = .int .i64 (A - B) := hF 11 (by simp)
        have h12 : v 12 = .int .i64 0 := hF 12 (by simp)
        simp only [putAll, List.setIfInBounds_toArray, List.set_cons_zero, List.set_cons_succ]
        simp only [h11, h12]
        clear h2 h3 h7 h8 h9 h10 h11 h12 hF KI0 KI1 KA0 KA1 d0 d1
        go_wp2_with fail
        go_ret2
        exact ⟨ret2 (by rw [← HX3.out]; rfl) (by rw [HE3.out]; rfl), hx.trans hG⟩
  · have hb : (C != 0) = true := by simpa using h0
    have he := HE.out
    rw [if_neg h0] at he
    have hxx := HX.out
    rw [if_neg (by rw [he]; exact h0)] at hxx
    have HE2 := Lib.hid he
    have HX2 := Lib.hid hxx
    clear he hxx h0
    go_wp2_with fail
    go_ret2
    exact ⟨ret2 (by rw [← HX2.out]; rfl) (by rw [HE2.out]; rfl), hx⟩
end Go.Proofs.YthopgonbndoidaaGreat
