/- The specification's Compare. -/
import Derived.Test.YtiofdfjcaklmcaaFRsd
namespace Go.Proofs.Ytiofdfjcaklmcaa
open Go.RowKit Go.Shelf

set_option maxRecDepth 100000 in
set_option maxHeartbeats 8000000 in
theorem refCompare_any (pa pb va vb : Value) (P : Po) (a b : List Int) (w : World) (hT : PoAt w pa pb P) (ha0 : IntsAt w va a) (hb0 : IntsAt w vb b) (hus : ∀ s ∈ P.ss, s.us.length ≤ 1000000) :
    Calls Try.prog 50 #[.agg #[pa, pb], va, vb] w fun e w' => e = .returned (.tuple #[.int .i64 (cmpX P a b), .int .i64 (cmpE P a b)]) ∧ Ext w w' := by
  have hE : cmpE P a b = if cgE P a = 0 then cgE P b else cgE P a := rfl
  have hX : cmpX P a b = if cmpE P a b = 0 then cmpL (ladL P a) (ladL P b) else 0 := rfl
  have hoa := @cg_ok P a
  have hob := @cg_ok P b
  have KC := fun W (x : Ext w W) => refCheckGiven_any pa pb va P a W (hT.ext x) (ha0.ext x) hus
  have KC2 := fun W (x : Ext w W) => refCheckGiven_any pa pb vb P b W (hT.ext x) (hb0.ext x) hus
  have KL1 := fun (h : OkP P ∧ ShrV P a) W (x : Ext w W) => refLadder0_any pa pb va P a h.1 (by have := h.2.le h.1; omega) W (hT.ext x) (ha0.ext x)
  have KL2 := fun (h : OkP P ∧ ShrV P b) W (x : Ext w W) => refLadder0_any pa pb vb P b h.1 (by have := h.2.le h.1; omega) W (hT.ext x) (hb0.ext x)
  have hla : OkP P → (ladL P a).length ≤ 1000000 := fun h => by rw [ladL_len]; have := h.lt; omega
  have hlb : (ladL P a).length = (ladL P b).length := by rw [ladL_len, ladL_len]
  obtain ⟨X, hXX⟩ : ∃ E, cmpX P a b = E := ⟨_, rfl⟩
  obtain ⟨E, hEE⟩ : ∃ E, cmpE P a b = E := ⟨_, rfl⟩
  obtain ⟨A, hA⟩ : ∃ E, cgE P a = E := ⟨_, rfl⟩
  obtain ⟨B, hB⟩ : ∃ E, cgE P b = E := ⟨_, rfl⟩
  obtain ⟨LA, hLA⟩ : ∃ E, ladL P a = E := ⟨_, rfl⟩
  obtain ⟨LB, hLB⟩ : ∃ E, ladL P b = E := ⟨_, rfl⟩
  rw [hXX, hEE, hLA, hLB] at hX
  rw [hEE, hA, hB] at hE
  rw [hA] at hoa KC
  rw [hB] at hob KC2
  rw [hLA] at KL1 hla
  rw [hLB] at KL2
  rw [hLA, hLB] at hlb
  rw [hXX, hEE]
  have HX := Lib.hid hX
  have HE := Lib.hid hE
  have HKC := Lib.hid KC
  have HK2 := Lib.hid KC2
  have HOA := Lib.hid hoa
  have HOB := Lib.hid hob
  have GL1 := Lib.hid KL1
  have GL2 := Lib.hid KL2
  have GA := Lib.hid hla
  have GB := Lib.hid hlb
  clear hX hE KC KC2 hoa hob KL1 KL2 hla hlb hXX hEE hA hB hLA hLB
  go_enter Try.func50, Try.ntmps50
  go_wp2_with fail
  refine (HKC.out _ (by repeat (first | exact Ext.refl _ | assumption | refine Ext.alloc ?_ _ | refine Ext.drew ?_ | refine Ext.drewN _ ?_ | refine Ext.trans ?_ (by assumption)))).mono ?_
  rintro e w1 ⟨rfl, hx1⟩
  obtain ⟨q, hx, hk0⟩ := alloc1 hx1
  have d0 : w1.cell? ⟨w.heap.size, 0, none⟩ = some pa := q.cell 0
  have d1 : w1.cell? ⟨w.heap.size, 1, none⟩ = some pb := q.cell 1
  clear hx1 hk0
  by_cases h0 : A = 0
  · have h2 := HE.out
    rw [if_pos h0] at h2
    have hoA := HOA.out.1 h0
    have hb1 : (A != 0) = false := by simp [h0]
    have hb0 : (A == 0) = true := by simp [h0]
    have HE2 := Lib.hid h2
    have HPA := Lib.hid hoA
    clear h2 h0 hoA HE HOA
    go_wp2_with fail
    refine (HK2.out _ hx).mono ?_
    rintro e w2 ⟨rfl, hz⟩
    replace d0 := hz.cell d0
    replace d1 := hz.cell d1
    have hx2 := hx.trans hz
    clear hz hx q hb1 hb0
    by_cases h1 : B = 0
    · have hx3 := HX.out
      have hE0 := HE2.out
      rw [h1] at hE0
      rw [if_pos hE0] at hx3
      have hoB := HOB.out.1 h1
      have HX2 := Lib.hid hx3
      have HE3 := Lib.hid hE0
      have HL1 := Lib.hid (GL1.out HPA.out)
      have HL2 := Lib.hid (GL2.out hoB)
      have HLa := Lib.hid (GA.out HPA.out.1)
      have HLe := GB
      have hb1 : (B != 0) = false := by simp [h1]
      clear hx3 hE0 hoB h1 GL1 GL2 GA GB HX HE2 HOB HPA
      go_upto_region 6 with fail
      refine wp_region_held_drew (S := fun W' => W'.cell? ⟨w.heap.size, 0, none⟩ = some pa ∧ W'.cell? ⟨w.heap.size, 1, none⟩ = some pb ∧ Ext w2 W') (by kernel_rfl) ?_ (fun hHeld => ?_)
      · exact ⟨d0, d1, Ext.drew (Ext.refl _)⟩
      obtain ⟨V0, hV0⟩ : ∃ V, World.drew w2 = V := ⟨_, rfl⟩
      rw [hV0] at hHeld ⊢
      clear hV0
      (refine tkH (i := 0) (v := ?_) rfl ?_ ?_; rotate_left 1; (focus (intro w hSw; (try dsimp only at hSw); go_simp; try (with_reducible rfl))))
      try simp only [Act.put, xA1, xA2, xA4, xA5, xA6]
      (refine tkH (i := 1) (v := ?_) rfl ?_ ?_; rotate_left 1; (focus (intro w hSw; (try dsimp only at hSw); go_simp; try (with_reducible rfl))))
      try simp only [Act.put, xA1, xA2, xA3, xA4, xA5, xA6]
      (refine tkH (i := 3) (v := ?_) rfl ?_ ?_; rotate_left 1; (focus (intro w hSw; (try dsimp only at hSw); go_simp; try (with_reducible rfl))))
      try simp only [Act.put, xA1, xA2, xA3, xA4, xA5, xA6]
      (refine tkH (i := 4) (v := ?_) rfl ?_ ?_; rotate_left 1; (focus (intro w hSw; (try dsimp only at hSw); go_simp; try (with_reducible rfl))))
      try simp only [Act.put, xA1, xA2, xA3, xA4, xA5, xA6]
      refine wpAnyH_ready (rs := [2]) (by kernel_rfl) (by simp) ?_
      refine AllReadyH.cons rfl (fun K hK => ?_) AllReadyH.nil
      go_simp
      go_at_call 81; refine (HL1.out V0 (hx2.trans hHeld.2.2)).mono ?_; rintro e V1 ⟨u1, rfl, ha, hz⟩
      refine hK.out _ _ ?_ (fun hHeld => ?_)
      · exact ⟨Ext.cell hz hHeld.1, Ext.cell hz hHeld.2.1, hHeld.2.2.trans hz⟩
      clear hK K
      clear hz
      try simp only [Act.put, xA1, xA2, xA3, xA4, xA5, xA6]
      refine wpAnyH_ready (rs := [5]) (by kernel_rfl) (by simp) ?_
      refine AllReadyH.cons rfl (fun K hK => ?_) AllReadyH.nil
      go_simp
      go_at_call 81; refine (HL2.out V1 (hx2.trans hHeld.2.2)).mono ?_; rintro e V2 ⟨u2, rfl, hb, hz⟩
      refine hK.out _ _ ?_ (fun hHeld => ?_)
      · exact ⟨Ext.cell hz hHeld.1, Ext.cell hz hHeld.2.1, hHeld.2.2.trans hz⟩
      clear hK K
      replace ha := ha.ext hz
      clear hz
      try simp only [Act.put, xA1, xA2, xA3, xA4, xA5, xA6]
      refine wpAnyH_ready (rs := [6]) (by kernel_rfl) (by simp) ?_
      refine AllReadyH.cons rfl (fun K hK => ?_) AllReadyH.nil
      go_simp
      go_at_call 101; refine (refCmp0_any _ _ _ _ V2 ha hb HLa.out HLe.out).mono ?_; rintro e V3 ⟨rfl, hz⟩
      refine hK.out _ _ ?_ (fun hHeld => ?_)
      · exact ⟨Ext.cell hz hHeld.1, Ext.cell hz hHeld.2.1, hHeld.2.2.trans hz⟩
      clear hK K
      clear hz ha hb
      try simp only [Act.put, xA1, xA2, xA3, xA4, xA5, xA6]
      (refine tkH (i := 7) (v := ?_) rfl ?_ ?_; rotate_left 1; (focus (intro w hSw; (try dsimp only at hSw); go_simp; try (with_reducible rfl))))
      try simp only [Act.put, xA1, xA2, xA3, xA4, xA5, xA6]
      (refine tkH (i := 8) (v := ?_) rfl ?_ ?_; rotate_left 1; (focus (intro w hSw; (try dsimp only at hSw); go_simp; try (with_reducible rfl))))
      try simp only [Act.put, xA1, xA2, xA3, xA4, xA5, xA6]
      refine wpAnyH_done (by kernel_rfl) ?_ _
      have hzz := hHeld.2.2
      go_wp2_with fail
      go_ret2
      exact ⟨ret2 (by rw [HX2.out]; rfl) (by rw [HE3.out]; rfl), hx2.trans hzz⟩
    · have hx3 := HX.out
      rw [if_neg (by rw [HE2.out]; exact h1)] at hx3
      have HX2 := Lib.hid hx3
      have hb1 : (B != 0) = true := by simp [h1]
      clear hx3 h1
      go_wp2_with fail
      go_ret2
      exact ⟨ret2 (by rw [HX2.out]; rfl) (by rw [HE2.out]; rfl), hx2⟩
  · have h2 := HE.out
    rw [if_neg h0] at h2
    have hx3 := HX.out
    rw [if_neg (by rw [h2]; exact h0)] at hx3
    have HX2 := Lib.hid hx3
    have HE2 := Lib.hid h2
    have hb1 : (A != 0) = true := by simp [h0]
    have hb0 : (A == 0) = false := by simp [h0]
    clear h2 h0 hx3
    go_wp2_with fail
    go_ret2
    exact ⟨ret2 (by rw [HX2.out]; rfl) (by rw [HE2.out]; rfl), hx⟩
end Go.Proofs.Ytiofdfjcaklmcaa
