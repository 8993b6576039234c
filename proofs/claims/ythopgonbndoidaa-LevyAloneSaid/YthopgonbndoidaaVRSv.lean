/- grouped, Alone and Saved of the specification. -/
import Derived.Test.YthopgonbndoidaaVRAl
namespace Go.Proofs.Ythopgonbndoidaa
open Go.RowKit Go.Shelf

set_option maxRecDepth 100000 in
set_option maxHeartbeats 4000000 in
theorem refGrouped_any (a b v : Value) (T : Tr) (l : List Int) (w : World) (hT : TrAt w a b T) (hl : IntsAt w v l) (hn : l.length ≤ 100000) (hp : T.ps.length ≤ 100000) :
    Calls Try.prog 72 #[.agg #[a, b], v] w fun e w' => e = .returned (.int .i64 (askE T l)) ∧ Ext w w' := by
  have hE : askE T l = if chkE T ≠ 0 then chkE T else if grB T.ps l = true then 0 else 1 := rfl
  have KC := fun W (h : Ext w W) => refCheck_any a b T W (hT.ext h)
  have KG := fun W (h : Ext w W) => refGroup_any a b v T l W (hT.ext h) (hl.ext h) hn hp
  obtain ⟨E, hEE⟩ : ∃ E, askE T l = E := ⟨_, rfl⟩
  obtain ⟨C, hCC⟩ : ∃ E, chkE T = E := ⟨_, rfl⟩
  obtain ⟨G, hGG⟩ : ∃ E, grB T.ps l = E := ⟨_, rfl⟩
  rw [hEE, hCC, hGG] at hE
  rw [hCC] at KC
  rw [hGG] at KG
  rw [hEE]
  have HE := Lib.hid hE
  clear hE hEE hCC hGG
  go_enter Try.func72, Try.ntmps72
  go_wp2_with fail
  refine (KC _ (by repeat (first | exact Ext.refl _ | assumption | refine Ext.alloc ?_ _ | refine Ext.drew ?_ | refine Ext.drewN _ ?_ | refine Ext.trans ?_ (by assumption)))).mono ?_
  rintro e w1 ⟨rfl, hx1⟩
  obtain ⟨q0, hx, hk0⟩ := alloc1 hx1
  have d0 : w1.cell? ⟨w.heap.size, 0, none⟩ = some a := q0.cell 0
  have d1 : w1.cell? ⟨w.heap.size, 1, none⟩ = some b := q0.cell 1
  clear hx1 q0 KC
  by_cases h0 : C = 0
  · have hb : (C != 0) = false := by simpa using h0
    have he := HE.out
    rw [if_neg (by simpa using h0)] at he
    have HE2 := Lib.hid he
    clear he h0
    go_wp2_with fail
    refine (KG _ hx).mono ?_
    rintro e w2 ⟨rfl, hz⟩
    cases G
    · have he := HE2.out
      rw [if_neg (by decide)] at he
      have HE3 := Lib.hid he
      clear he
      go_wp2_with fail
      go_ret
      exact ⟨ret_int HE3.out.symm, hx.trans hz⟩
    · have he := HE2.out
      rw [if_pos rfl] at he
      have HE3 := Lib.hid he
      clear he
      go_wp2_with fail
      go_ret
      exact ⟨ret_int HE3.out.symm, hx.trans hz⟩
  · have hb : (C != 0) = true := by simpa using h0
    have he := HE.out
    rw [if_pos h0] at he
    have HE2 := Lib.hid he
    clear he h0
    go_wp2_with fail
    go_ret
    exact ⟨ret_int HE2.out.symm, hx⟩

set_option maxRecDepth 100000 in
set_option maxHeartbeats 4000000 in
theorem refAlone_any (a b v : Value) (T : Tr) (l : List Int) (w : World) (hT : TrAt w a b T) (hl : IntsAt w v l) (hn : l.length ≤ 100000) (hp : T.ps.length ≤ 100000) :
    Calls Try.prog 26 #[.agg #[a, b], v] w fun e w' => e = .returned (.tuple #[.int .i64 (AlnX T l), .int .i64 (askE T l)]) ∧ Ext w w' := by
  have hX : AlnX T l = if askE T l = 0 then alnG T l else 0 := rfl
  have KG := fun W (h : Ext w W) => refGrouped_any a b v T l W (hT.ext h) (hl.ext h) hn hp
  have KA := fun (h0 : askE T l = 0) W (h : Ext w W) => refAlone0_any a b v T (Ok.of (askE_ok h0).1) l W (hT.ext h) (hl.ext h) hn
  obtain ⟨E, hE⟩ : ∃ E, askE T l = E := ⟨_, rfl⟩
  obtain ⟨X, hXX⟩ : ∃ X, AlnX T l = X := ⟨_, rfl⟩
  obtain ⟨G, hGG⟩ : ∃ X, alnG T l = X := ⟨_, rfl⟩
  rw [hE] at hX KG KA ⊢
  rw [hXX, hGG] at hX
  rw [hGG] at KA
  rw [hXX]
  have HX := Lib.hid hX
  have HKA := Lib.hid KA
  clear hE hX hXX hGG KA
  go_enter Try.func26, Try.ntmps26
  go_wp2_with fail
  refine (KG _ (by repeat (first | exact Ext.refl _ | assumption | refine Ext.alloc ?_ _ | refine Ext.drew ?_ | refine Ext.drewN _ ?_ | refine Ext.trans ?_ (by assumption)))).mono ?_
  rintro e w1 ⟨rfl, hx1⟩
  obtain ⟨q0, hx, hk0⟩ := alloc1 hx1
  have d0 : w1.cell? ⟨w.heap.size, 0, none⟩ = some a := q0.cell 0
  have d1 : w1.cell? ⟨w.heap.size, 1, none⟩ = some b := q0.cell 1
  clear hx1 q0 KG
  by_cases h0 : E = 0
  · have hb : (E != 0) = false := by simpa using h0
    have he := HX.out
    rw [if_pos h0] at he
    have HX2 := Lib.hid he
    have H0 := Lib.hid h0
    have KA := HKA.out h0
    clear he h0
    go_wp2_with fail
    refine (KA _ hx).mono ?_
    rintro e w2 ⟨rfl, hz⟩
    go_wp2_with fail
    go_ret2
    exact ⟨ret2 (by rw [HX2.out]; rfl) (by rw [H0.out]; rfl), hx.trans hz⟩
  · have hb : (E != 0) = true := by simpa using h0
    have he := HX.out
    rw [if_neg h0] at he
    have HX2 := Lib.hid he
    clear he h0
    go_wp2_with fail
    go_ret2
    exact ⟨ret2 (by rw [HX2.out]; rfl) rfl, hx⟩

theorem sav_eq {T : Tr} (l : List Int) : savG T l = alnG T (idsL [] T.ps) - alnG T (idsL l T.ps) := by
  unfold savG alnG alnE
  congr 1
  · refine sumR_congr (fun k _ => ?_)
    have e : T.ps.any (fun p => true && usB T.rs p.reach k) = T.ps.any (fun p => decide (p.id ∈ idsL [] T.ps) && usB T.rs p.reach k) := by
      rw [Bool.eq_iff_iff, List.any_eq_true, List.any_eq_true]
      constructor
      · rintro ⟨p, h1, h2⟩
        exact ⟨p, h1, by rw [decide_eq_true (idsL_mem.2 ⟨by simp, p, h1, rfl⟩)]; exact h2⟩
      · rintro ⟨p, h1, h2⟩
        rw [Bool.and_eq_true] at h2
        exact ⟨p, h1, by rw [h2.2]; rfl⟩
    rw [e]
  · refine sumR_congr (fun k _ => ?_)
    have e : T.ps.any (fun p => !decide (p.id ∈ l) && usB T.rs p.reach k) = T.ps.any (fun p => decide (p.id ∈ idsL l T.ps) && usB T.rs p.reach k) := by
      rw [Bool.eq_iff_iff, List.any_eq_true, List.any_eq_true]
      constructor
      · rintro ⟨p, h1, h2⟩
        rw [Bool.and_eq_true] at h2
        exact ⟨p, h1, by rw [decide_eq_true (idsL_mem.2 ⟨by simpa using h2.1, p, h1, rfl⟩)]; exact h2.2⟩
      · rintro ⟨p, h1, h2⟩
        rw [Bool.and_eq_true] at h2
        have h3 := (idsL_mem.1 (of_decide_eq_true h2.1)).1
        exact ⟨p, h1, by rw [h2.2]; simpa using h3⟩
    rw [e]

set_option maxRecDepth 100000 in
set_option maxHeartbeats 4000000 in
theorem refSaved_any (a b v : Value) (T : Tr) (l : List Int) (w : World) (hT : TrAt w a b T) (hl : IntsAt w v l) (hn : l.length ≤ 100000) (hp : T.ps.length ≤ 100000) :
    Calls Try.prog 28 #[.agg #[a, b], v] w fun e w' => e = .returned (.tuple #[.int .i64 (SavX T l), .int .i64 (askE T l)]) ∧ Ext w w' := by
  have hX : SavX T l = if askE T l = 0 then alnG T (idsL [] T.ps) - alnG T (idsL l T.ps) else 0 := by unfold SavX; rw [sav_eq]
  have KG := fun W (h : Ext w W) => refGrouped_any a b v T l W (hT.ext h) (hl.ext h) hn hp
  have KA0 := fun (h0 : Ok T) u W (L : List Int) (h : Ext w W) (hu : IntsAt W u L) (hL : L.length ≤ 100000) => refAlone0_any a b u T h0 L W (hT.ext h) hu hL
  have KI00 := fun (h0 : Ok T) W (h : Ext w W) => refIds_any a b (.slice none 0 0) T h0 [] W (hT.ext h) (intsAt_nil _) (by decide)
  have KI10 := fun (h0 : Ok T) W (h : Ext w W) => refIds_any a b v T h0 l W (hT.ext h) (hl.ext h) hn
  have hok := fun (h0 : askE T l = 0) => Ok.of (askE_ok h0).1
  have hI0 : (idsL [] T.ps).length ≤ 100000 := Nat.le_trans (idsL_len _ _) (by omega)
  have hI1 : (idsL l T.ps).length ≤ 100000 := Nat.le_trans (idsL_len _ _) (by omega)
  have hbd := fun (h0 : Ok T) (L : List Int) => alnE_bd h0 (fun p => decide (p.id ∈ L))
  obtain ⟨E, hE⟩ : ∃ E, askE T l = E := ⟨_, rfl⟩
  obtain ⟨X, hXX⟩ : ∃ X, SavX T l = X := ⟨_, rfl⟩
  obtain ⟨I0, hI0e⟩ : ∃ X, idsL [] T.ps = X := ⟨_, rfl⟩
  obtain ⟨I1, hI1e⟩ : ∃ X, idsL l T.ps = X := ⟨_, rfl⟩
  rw [hI0e] at hX KI00 hI0
  rw [hI1e] at hX KI10 hI1
  rw [hE] at hX KG hok ⊢
  rw [hXX] at hX
  rw [hXX]
  have HX := Lib.hid hX
  have HOK := Lib.hid hok
  have HKA := Lib.hid KA0
  have HK0 := Lib.hid KI00
  have HK1 := Lib.hid KI10
  have HBD := Lib.hid hbd
  clear hE hX hXX hI0e hI1e KA0 KI00 KI10 hok hbd
  go_enter Try.func28, Try.ntmps28
  go_wp2_with fail
  refine (KG _ (by repeat (first | exact Ext.refl _ | assumption | refine Ext.alloc ?_ _ | refine Ext.drew ?_ | refine Ext.drewN _ ?_ | refine Ext.trans ?_ (by assumption)))).mono ?_
  rintro e w1 ⟨rfl, hx1⟩
  obtain ⟨q0, hx, hk0⟩ := alloc1 hx1
  have d0 : w1.cell? ⟨w.heap.size, 0, none⟩ = some a := q0.cell 0
  have d1 : w1.cell? ⟨w.heap.size, 1, none⟩ = some b := q0.cell 1
  clear hx1 q0 KG
  by_cases h0 : E = 0
  · have hb : (E != 0) = false := by simpa using h0
    have he := HX.out
    rw [if_pos h0] at he
    have hk := HOK.out h0
    have KA := HKA.out hk
    have KI0 := HK0.out hk
    have KI1 := HK1.out hk
    have b0 := HBD.out hk I0
    have b1 := HBD.out hk I1
    have KA : ∀ (u : Value) (W : World) (L : List Int), Ext w W → IntsAt W u L → L.length ≤ 100000 → _ := KA
    change 0 ≤ alnG T I0 ∧ alnG T I0 ≤ 1572864 at b0
    change 0 ≤ alnG T I1 ∧ alnG T I1 ≤ 1572864 at b1
    have H0 := Lib.hid h0
    have hws : IntKind.i64.wrap (alnG T I0 - alnG T I1) = alnG T I0 - alnG T I1 := IntWalk.i64_in _ (by omega)
    have HX2 := Lib.hid he
    clear he h0 b0 b1
    go_upto_region 4 with fail
    refine wp_region_held_drew (S := fun W' => (W'.cell? ⟨w.heap.size, 0, none⟩ = some a ∧ W'.cell? ⟨w.heap.size, 1, none⟩ = some b) ∧ Ext w W') (by kernel_rfl) ?_ (fun hHeld => ?_)
    · exact ⟨⟨d0, d1⟩, hx.trans (Ext.drew (Ext.refl _))⟩
    first | (refine wpAnyH_take (i := 0) (v := ?_) rfl (by kernel_rfl) (by kernel_rfl) (by kernel_rfl) (fun _ _ _ h => h) (Or.inl ⟨by rfl, ?_⟩) (by assumption) ?_; rotate_left 1; (focus (intro w hSw; (try dsimp only at hSw); go_simp; try (with_reducible rfl)))) | (refine wpAnyH_take (i := 0) (v := undef) rfl (by kernel_rfl) (by kernel_rfl) (by kernel_rfl) (fun _ _ _ h => h) (Or.inr ⟨by rfl, rfl⟩) (by assumption) ?_)
    try simp only [Act.put, List.getElem_toArray, List.getElem_cons_zero, List.setIfInBounds_toArray, List.set_cons_zero, List.set_cons_succ]
    first | (refine wpAnyH_take (i := 1) (v := ?_) rfl (by kernel_rfl) (by kernel_rfl) (by kernel_rfl) (fun _ _ _ h => h) (Or.inl ⟨by rfl, ?_⟩) (by assumption) ?_; rotate_left 1; (focus (intro w hSw; (try dsimp only at hSw); go_simp; try (with_reducible rfl)))) | (refine wpAnyH_take (i := 1) (v := undef) rfl (by kernel_rfl) (by kernel_rfl) (by kernel_rfl) (fun _ _ _ h => h) (Or.inr ⟨by rfl, rfl⟩) (by assumption) ?_)
    try simp only [Act.put, List.getElem_toArray, List.getElem_cons_zero, List.getElem_cons_succ, List.setIfInBounds_toArray, List.set_cons_zero, List.set_cons_succ]
    first | (refine wpAnyH_take (i := 4) (v := ?_) rfl (by kernel_rfl) (by kernel_rfl) (by kernel_rfl) (fun _ _ _ h => h) (Or.inl ⟨by rfl, ?_⟩) (by assumption) ?_; rotate_left 1; (focus (intro w hSw; (try dsimp only at hSw); go_simp; try (with_reducible rfl)))) | (refine wpAnyH_take (i := 4) (v := undef) rfl (by kernel_rfl) (by kernel_rfl) (by kernel_rfl) (fun _ _ _ h => h) (Or.inr ⟨by rfl, rfl⟩) (by assumption) ?_)
    try simp only [Act.put, List.getElem_toArray, List.getElem_cons_zero, List.getElem_cons_succ, List.setIfInBounds_toArray, List.set_cons_zero, List.set_cons_succ]
    first | (refine wpAnyH_take (i := 5) (v := ?_) rfl (by kernel_rfl) (by kernel_rfl) (by kernel_rfl) (fun _ _ _ h => h) (Or.inl ⟨by rfl, ?_⟩) (by assumption) ?_; rotate_left 1; (focus (intro w hSw; (try dsimp only at hSw); go_simp; try (with_reducible rfl)))) | (refine wpAnyH_take (i := 5) (v := undef) rfl (by kernel_rfl) (by kernel_rfl) (by kernel_rfl) (fun _ _ _ h => h) (Or.inr ⟨by rfl, rfl⟩) (by assumption) ?_)
    try simp only [Act.put, List.getElem_toArray, List.getElem_cons_zero, List.getElem_cons_succ, List.setIfInBounds_toArray, List.set_cons_zero, List.set_cons_succ]
    first | (refine wpAnyH_take (i := 6) (v := ?_) rfl (by kernel_rfl) (by kernel_rfl) (by kernel_rfl) (fun _ _ _ h => h) (Or.inl ⟨by rfl, ?_⟩) (by assumption) ?_; rotate_left 1; (focus (intro w hSw; (try dsimp only at hSw); go_simp; try (with_reducible rfl)))) | (refine wpAnyH_take (i := 6) (v := undef) rfl (by kernel_rfl) (by kernel_rfl) (by kernel_rfl) (fun _ _ _ h => h) (Or.inr ⟨by rfl, rfl⟩) (by assumption) ?_)
    try simp only [Act.put, List.getElem_toArray, List.getElem_cons_zero, List.getElem_cons_succ, List.setIfInBounds_toArray, List.set_cons_zero, List.set_cons_succ]
    refine wpAnyH_ready (rs := [2]) (by kernel_rfl) (by simp) ?_
    refine AllReadyH.cons rfl (fun K hK => ?_) AllReadyH.nil
    go_simp
    go_at_call 75; refine (KI0 _ hHeld.2).mono ?_; rintro e w3 ⟨u1, rfl, hu1, hz⟩
    refine hK.out _ _ ?_ (fun hHeld => ?_)
    · exact ⟨⟨hz.cell hHeld.1.1, hz.cell hHeld.1.2⟩, hHeld.2.trans hz⟩
    clear hK K
    try simp only [Act.put, List.getElem_toArray, List.getElem_cons_zero, List.getElem_cons_succ, List.setIfInBounds_toArray, List.set_cons_zero, List.set_cons_succ]
    refine wpAnyH_ready (rs := [3]) (by kernel_rfl) (by simp) ?_
    refine AllReadyH.cons rfl (fun K hK => ?_) AllReadyH.nil
    go_simp
    go_at_call 73; refine (KA _ _ _ hHeld.2 hu1 hI0).mono ?_; rintro e w4 ⟨rfl, hz⟩
    refine hK.out _ _ ?_ (fun hHeld => ?_)
    · exact ⟨⟨hz.cell hHeld.1.1, hz.cell hHeld.1.2⟩, hHeld.2.trans hz⟩
    clear hK K
    try simp only [Act.put, List.getElem_toArray, List.getElem_cons_zero, List.getElem_cons_succ, List.setIfInBounds_toArray, List.set_cons_zero, List.set_cons_succ]
    refine wpAnyH_ready (rs := [7]) (by kernel_rfl) (by simp) ?_
    refine AllReadyH.cons rfl (fun K hK => ?_) AllReadyH.nil
    go_simp
    go_at_call 75; refine (KI1 _ hHeld.2).mono ?_; rintro e w5 ⟨u2, rfl, hu2, hz⟩
    refine hK.out _ _ ?_ (fun hHeld => ?_)
    · exact ⟨⟨hz.cell hHeld.1.1, hz.cell hHeld.1.2⟩, hHeld.2.trans hz⟩
    clear hK K
    try simp only [Act.put, List.getElem_toArray, List.getElem_cons_zero, List.getElem_cons_succ, List.setIfInBounds_toArray, List.set_cons_zero, List.set_cons_succ]
    refine wpAnyH_ready (rs := [8]) (by kernel_rfl) (by simp) ?_
    refine AllReadyH.cons rfl (fun K hK => ?_) AllReadyH.nil
    go_simp
    go_at_call 73; refine (KA _ _ _ hHeld.2 hu2 hI1).mono ?_; rintro e w6 ⟨rfl, hz⟩
    refine hK.out _ _ ?_ (fun hHeld => ?_)
    · exact ⟨⟨hz.cell hHeld.1.1, hz.cell hHeld.1.2⟩, hHeld.2.trans hz⟩
    clear hK K
    try simp only [Act.put, List.getElem_toArray, List.getElem_cons_zero, List.getElem_cons_succ, List.setIfInBounds_toArray, List.set_cons_zero, List.set_cons_succ]
    first | (refine wpAnyH_take (i := 9) (v := ?_) rfl (by kernel_rfl) (by kernel_rfl) (by kernel_rfl) (fun _ _ _ h => h) (Or.inl ⟨by rfl, ?_⟩) (by assumption) ?_; rotate_left 1; (focus (intro w hSw; (try dsimp only at hSw); go_simp; try (with_reducible rfl)))) | (refine wpAnyH_take (i := 9) (v := undef) rfl (by kernel_rfl) (by kernel_rfl) (by kernel_rfl) (fun _ _ _ h => h) (Or.inr ⟨by rfl, rfl⟩) (by assumption) ?_)
    try simp only [Act.put, List.getElem_toArray, List.getElem_cons_zero, List.getElem_cons_succ, List.setIfInBounds_toArray, List.set_cons_zero, List.set_cons_succ]
    first | (refine wpAnyH_take (i := 10) (v := ?_) rfl (by kernel_rfl) (by kernel_rfl) (by kernel_rfl) (fun _ _ _ h => h) (Or.inl ⟨by rfl, ?_⟩) (by assumption) ?_; rotate_left 1; (focus (intro w hSw; (try dsimp only at hSw); go_simp; try (with_reducible rfl)))) | (refine wpAnyH_take (i := 10) (v := undef) rfl (by kernel_rfl) (by kernel_rfl) (by kernel_rfl) (fun _ _ _ h => h) (Or.inr ⟨by rfl, rfl⟩) (by assumption) ?_)
    try simp only [Act.put, List.getElem_toArray, List.getElem_cons_zero, List.getElem_cons_succ, List.setIfInBounds_toArray, List.set_cons_zero, List.set_cons_succ]
    first | (refine wpAnyH_take (i := 11) (v := ?_) rfl (by kernel_rfl) (by kernel_rfl) (by kernel_rfl) (fun _ _ _ h => h) (Or.inl ⟨by rfl, ?_⟩) (by assumption) ?_; rotate_left 1; (focus (intro w hSw; (try dsimp only at hSw); go_simp; try (with_reducible rfl)))) | (refine wpAnyH_take (i := 11) (v := undef) rfl (by kernel_rfl) (by kernel_rfl) (by kernel_rfl) (fun _ _ _ h => h) (Or.inr ⟨by rfl, rfl⟩) (by assumption) ?_)
    try simp only [Act.put, List.getElem_toArray, List.getElem_cons_zero, List.getElem_cons_succ, List.setIfInBounds_toArray, List.set_cons_zero, List.set_cons_succ]
    refine wpAnyH_done (by kernel_rfl) ?_ _
    go_wp2
    go_ret2
    exact ⟨ret2 (by rw [HX2.out]; rfl) (by rw [H0.out]; rfl), hHeld.2⟩
  · have hb : (E != 0) = true := by simpa using h0
    have he := HX.out
    rw [if_neg h0] at he
    have HX2 := Lib.hid he
    clear he h0
    go_wp2_with fail
    go_ret2
    exact ⟨ret2 (by rw [HX2.out]; rfl) rfl, hx⟩
end Go.Proofs.Ythopgonbndoidaa

