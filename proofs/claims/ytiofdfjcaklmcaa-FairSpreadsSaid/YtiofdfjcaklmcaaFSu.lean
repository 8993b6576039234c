/- Ladder, Could, Surely of the program. Surely of the program: the slots that all fairest sharings give to the same tenant. -/
import Derived.Test.YtiofdfjcaklmcaaFCo
namespace Go.Proofs.Ytiofdfjcaklmcaa
open Go.RowKit Go.Shelf

set_option maxRecDepth 100000 in
set_option maxHeartbeats 8000000 in
theorem Ladder_any (a b : Value) (P : Po) (w : World) (hT : PoAt w a b P) (hus : ∀ s ∈ P.ss, s.us.length ≤ 1000000) :
    Calls Try.prog 28 #[.agg #[a, b]] w (InsPost w (ladX P) (chkE P)) := by
  have hX : ladX P = if chkE P = 0 then ladL P (faiG P) else [] := rfl
  have hok := @chk_ok P
  have KC := fun W (x : Ext w W) => Check_any a b P W (hT.ext x) hus
  have KF := fun (h : OkP P) W (x : Ext w W) => fairest_any a b P h W (hT.ext x)
  have KL := fun (h : OkP P) W (x : Ext w W) gv (hv : IntsAt W gv (faiG P)) => ladder_any a b gv P (faiG P) W (hT.t.ext x) hv (by have := h.lt; omega) (by have := (faiG_V h.pv).1.le h; omega)
  obtain ⟨X, hXX⟩ : ∃ E, ladX P = E := ⟨_, rfl⟩
  obtain ⟨E, hE⟩ : ∃ E, chkE P = E := ⟨_, rfl⟩
  obtain ⟨L, hL⟩ : ∃ E, ladL P (faiG P) = E := ⟨_, rfl⟩
  rw [hXX, hE, hL] at hX
  simp only [hE] at hok KC
  simp only [hL] at KL
  rw [hXX, hE]
  have HX := Lib.hid hX
  have HKC := Lib.hid KC
  have HKF := Lib.hid KF
  have HKL := Lib.hid KL
  clear hX hXX hE hL KC KF KL
  go_enter Try.func28, Try.ntmps28
  go_wp2_with fail
  refine (HKC.out _ (by repeat (first | exact Ext.refl _ | assumption | refine Ext.alloc ?_ _ | refine Ext.drew ?_ | refine Ext.drewN _ ?_ | refine Ext.trans ?_ (by assumption)))).mono ?_
  rintro e w1 ⟨rfl, hx1⟩
  obtain ⟨q, hx, hk0⟩ := alloc1 hx1
  have d0 : w1.cell? ⟨w.heap.size, 0, none⟩ = some a := q.cell 0
  have d1 : w1.cell? ⟨w.heap.size, 1, none⟩ = some b := q.cell 1
  clear hx1 hk0
  by_cases h0 : E = 0
  · have h2 := HX.out
    rw [if_pos h0] at h2
    have HX2 := Lib.hid h2
    have H0 := Lib.hid h0
    have hb : (E != 0) = false := by simp [h0]
    have hokk := hok.1 h0
    have HKF2 := Lib.hid (HKF.out hokk)
    have HKL2 := Lib.hid (HKL.out hokk)
    clear h2 h0 hok
    go_upto_region 4 with fail
    refine wp_region_held_drew (S := fun W' => W'.cell? ⟨w.heap.size, 0, none⟩ = some a ∧ W'.cell? ⟨w.heap.size, 1, none⟩ = some b ∧ Ext w1 W') (by kernel_rfl) ?_ (fun hHeld => ?_)
    · exact ⟨d0, d1, Ext.drew (Ext.refl _)⟩
    obtain ⟨V0, hV0⟩ : ∃ V, World.drew w1 = V := ⟨_, rfl⟩
    rw [hV0] at hHeld ⊢
    clear hV0
    (refine tkH (i := 0) (v := ?_) rfl ?_ ?_; rotate_left 1; (focus (intro w hSw; (try dsimp only at hSw); go_simp; try (with_reducible rfl))))
    try simp only [Act.put, xA1, xA2, xA4, xA5, xA6]
    (refine tkH (i := 1) (v := ?_) rfl ?_ ?_; rotate_left 1; (focus (intro w hSw; (try dsimp only at hSw); go_simp; try (with_reducible rfl))))
    try simp only [Act.put, xA1, xA2, xA3, xA4, xA5, xA6]
    refine wpAnyH_ready (rs := [2]) (by kernel_rfl) (by simp) ?_
    refine AllReadyH.cons rfl (fun K hK => ?_) AllReadyH.nil
    go_simp
    go_at_call 73; refine (HKF2.out V0 (hx.trans hHeld.2.2)).mono ?_; rintro e V1 ⟨gv, rfl, hgv, hz⟩
    refine hK.out _ _ ?_ (fun hHeld => ?_)
    · exact ⟨Ext.cell hz hHeld.1, Ext.cell hz hHeld.2.1, hHeld.2.2.trans hz⟩
    clear hK K
    clear hz
    try simp only [Act.put, xA1, xA2, xA3, xA4, xA5, xA6]
    refine wpAnyH_ready (rs := [3]) (by kernel_rfl) (by simp) ?_
    refine AllReadyH.cons rfl (fun K hK => ?_) AllReadyH.nil
    go_simp
    go_at_call 74; refine (HKL2.out V1 (hx.trans hHeld.2.2) gv hgv).mono ?_; rintro e V2 ⟨lv, rfl, hlv, hz⟩
    refine hK.out _ _ ?_ (fun hHeld => ?_)
    · exact ⟨Ext.cell hz hHeld.1, Ext.cell hz hHeld.2.1, hHeld.2.2.trans hz⟩
    clear hK K
    replace hlv := hlv.at_
    clear hz hgv
    try simp only [Act.put, xA1, xA2, xA3, xA4, xA5, xA6]
    (refine tkH (i := 4) (v := ?_) rfl ?_ ?_; rotate_left 1; (focus (intro w hSw; (try dsimp only at hSw); go_simp; try (with_reducible rfl))))
    try simp only [Act.put, xA1, xA2, xA3, xA4, xA5, xA6]
    (refine tkH (i := 5) (v := ?_) rfl ?_ ?_; rotate_left 1; (focus (intro w hSw; (try dsimp only at hSw); go_simp; try (with_reducible rfl))))
    try simp only [Act.put, xA1, xA2, xA3, xA4, xA5, xA6]
    refine wpAnyH_done (by kernel_rfl) ?_ _
    have hzz := hHeld.2.2
    go_wp2_with fail
    go_ret2
    exact ⟨_, ret2 rfl (by rw [H0.out]; rfl), by rw [HX2.out]; exact hlv, hx.trans hzz⟩
  · have h2 := HX.out
    rw [if_neg h0] at h2
    have HX2 := Lib.hid h2
    have hb : (E != 0) = true := by simp [h0]
    clear h2 h0
    go_wp2_with fail
    go_ret2
    exact ⟨_, rfl, by rw [HX2.out]; exact intsAt_nil _, hx⟩
set_option maxRecDepth 100000 in
set_option maxHeartbeats 8000000 in
theorem Could_any (a b : Value) (P : Po) (sl tn : Int) (w : World) (hT : PoAt w a b P) (hus : ∀ s ∈ P.ss, s.us.length ≤ 1000000) :
    Calls Try.prog 22 #[.agg #[a, b], .int .i64 sl, .int .i64 tn] w fun e w' => e = .returned (.tuple #[.bool (cldX P sl tn), .int .i64 (cldE P sl tn)]) ∧ Ext w w' := by
  have hX : cldX P sl tn = if cldE P sl tn = 0 then couX P (slI P sl).toNat tn (ladL P (faiG P)) else false := rfl
  have hE : cldE P sl tn = if chkE P = 0 then (if slI P sl < 0 ∨ tn ≠ 0 ∧ tnI P tn < 0 then 5 else 0) else chkE P := rfl
  have hok := @chk_ok P
  have KC := fun W (x : Ext w W) => Check_any a b P W (hT.ext x) hus
  have KS := fun (h : OkP P) W (x : Ext w W) => sl_any a b P sl W (hT.s.ext x) (by have := h.ls; omega)
  have KT := fun (h : OkP P) W (x : Ext w W) => tn_any a b P tn W (hT.t.ext x) (by have := h.lt; omega)
  have KF := fun (h : OkP P) W (x : Ext w W) => fairest_any a b P h W (hT.ext x)
  have KL := fun (h : OkP P) W (x : Ext w W) gv (hv : IntsAt W gv (faiG P)) => ladder_any a b gv P (faiG P) W (hT.t.ext x) hv (by have := h.lt; omega) (by have := (faiG_V h.pv).1.le h; omega)
  have KD := fun (h : OkP P) (hi : 0 ≤ slI P sl) W (x : Ext w W) lv (hv : IntsAt W lv (ladL P (faiG P))) => could_any a b lv P (slI P sl).toNat tn (ladL P (faiG P)) h (by
    obtain ⟨k, hk, h1, _⟩ := ixF_some (show 0 ≤ ixF (fun s : Sl => s.id == sl) 0 P.ss from hi)
    have h2 : slI P sl = ((0 + k : Nat) : Int) := h1
    omega) (by have := ladL_len P (faiG P); have := h.lt; omega) W (hT.ext x) hv
  have hsn : ∀ h : 0 ≤ slI P sl, ((slI P sl).toNat : Int) = slI P sl := fun h => by omega
  obtain ⟨X, hXX⟩ : ∃ E, cldX P sl tn = E := ⟨_, rfl⟩
  obtain ⟨D, hD⟩ : ∃ E, cldE P sl tn = E := ⟨_, rfl⟩
  obtain ⟨E, hEE⟩ : ∃ E, chkE P = E := ⟨_, rfl⟩
  obtain ⟨S, hS⟩ : ∃ E, slI P sl = E := ⟨_, rfl⟩
  obtain ⟨T, hTT⟩ : ∃ E, tnI P tn = E := ⟨_, rfl⟩
  obtain ⟨C, hC⟩ : ∃ E, couX P S.toNat tn (ladL P (faiG P)) = E := ⟨_, rfl⟩
  rw [hXX, hD, hS, hC] at hX
  rw [hD, hEE, hS, hTT] at hE
  simp only [hEE] at hok KC
  simp only [hS] at KS KD hsn
  simp only [hC] at KD
  simp only [hTT] at KT
  rw [hXX, hD]
  have HX := Lib.hid hX
  have HE := Lib.hid hE
  have HSN := Lib.hid hsn
  have HKC := Lib.hid KC
  have HKS := Lib.hid KS
  have HKT := Lib.hid KT
  have HKF := Lib.hid KF
  have HKL := Lib.hid KL
  have HKD := Lib.hid KD
  clear hX hE hXX hD hEE hS hTT hC KC KS KT KF KL KD hsn
  go_enter Try.func22, Try.ntmps22
  go_wp2_with fail
  refine (HKC.out _ (by repeat (first | exact Ext.refl _ | assumption | refine Ext.alloc ?_ _ | refine Ext.drew ?_ | refine Ext.drewN _ ?_ | refine Ext.trans ?_ (by assumption)))).mono ?_
  rintro e w1 ⟨rfl, hx1⟩
  obtain ⟨q, hx, hk0⟩ := alloc1 hx1
  have d0 : w1.cell? ⟨w.heap.size, 0, none⟩ = some a := q.cell 0
  have d1 : w1.cell? ⟨w.heap.size, 1, none⟩ = some b := q.cell 1
  clear hx1 hk0
  by_cases h0 : E = 0
  · have h2 := HE.out
    rw [if_pos h0] at h2
    have HE2 := Lib.hid h2
    have hb : (E != 0) = false := by simp [h0]
    have hokk := hok.1 h0
    clear h2 h0 hok
    go_wp2_with fail
    refine (HKS.out hokk _ hx).mono ?_
    rintro e w2 ⟨rfl, hz⟩
    have hx2 := hx.trans hz
    replace d0 := hz.cell d0
    replace d1 := hz.cell d1
    clear hx hz q
    by_cases hs0 : S < 0
    · have h2 := HE2.out
      rw [if_pos (.inl hs0)] at h2
      have h3 := HX.out
      rw [h2, if_neg (by decide)] at h3
      have H2 := Lib.hid h2
      have H3 := Lib.hid h3
      clear h2 h3
      go_wp2_with fail
      go_ret2
      exact ⟨by rw [H2.out, H3.out]; rfl, hx2⟩
    · obtain ⟨i, rfl⟩ : ∃ i : Nat, S = i := ⟨S.toNat, by omega⟩
      have hkd := HKD.out hokk (by omega)
      simp only [Int.toNat_natCast] at hkd
      have HKD2 := Lib.hid hkd
      clear hkd
      have HKF2 := Lib.hid (HKF.out hokk)
      have HKL2 := Lib.hid (HKL.out hokk)
      by_cases ht0 : tn = 0
      · have hbt : (tn != 0) = false := by simp [ht0]
        have h2 := HE2.out
        rw [if_neg (by rintro (h | ⟨h, _⟩); omega; exact h ht0)] at h2
        have h3 := HX.out
        rw [if_pos h2] at h3
        have H2 := Lib.hid h2
        have H3 := Lib.hid h3
        clear h2 h3 ht0
        go_upto_region 7 with fail
        refine wp_region_held_drew (S := fun W' => W'.cell? ⟨w.heap.size, 0, none⟩ = some a ∧ W'.cell? ⟨w.heap.size, 1, none⟩ = some b ∧ Ext w2 W') (by kernel_rfl) ?_ (fun hHeld => ?_)
        · exact ⟨d0, d1, Ext.drew (Ext.refl _)⟩
        obtain ⟨V0, hV0⟩ : ∃ V, World.drew w2 = V := ⟨_, rfl⟩
        rw [hV0] at hHeld ⊢
        clear hV0
        (refine tkH (i := 0) (v := ?_) rfl ?_ ?_; rotate_left 1; (focus (intro w hSw; (try dsimp only at hSw); go_simp; try (with_reducible rfl))))
        try simp only [Act.put, xA1, xA2, xA4, xA5, xA6]
        (refine tkH (i := 1) (v := ?_) rfl ?_ ?_; rotate_left 1; (focus (intro w hSw; (try dsimp only at hSw); go_simp; try (with_reducible rfl))))
        try simp only [Act.put, xA1, xA2, xA3, xA4, xA5, xA6]
        (refine tkH (i := 2) (v := ?_) rfl ?_ ?_; rotate_left 1; (focus (intro w hSw; (try dsimp only at hSw); go_simp; try (with_reducible rfl))))
        try simp only [Act.put, xA1, xA2, xA3, xA4, xA5, xA6]
        (refine tkH (i := 3) (v := ?_) rfl ?_ ?_; rotate_left 1; (focus (intro w hSw; (try dsimp only at hSw); go_simp; try (with_reducible rfl))))
        try simp only [Act.put, xA1, xA2, xA3, xA4, xA5, xA6]
        (refine tkH (i := 4) (v := ?_) rfl ?_ ?_; rotate_left 1; (focus (intro w hSw; (try dsimp only at hSw); go_simp; try (with_reducible rfl))))
        try simp only [Act.put, xA1, xA2, xA3, xA4, xA5, xA6]
        refine wpAnyH_ready (rs := [5]) (by kernel_rfl) (by simp) ?_
        refine AllReadyH.cons rfl (fun K hK => ?_) AllReadyH.nil
        go_simp
        go_at_call 73; refine (HKF2.out V0 (hx2.trans hHeld.2.2)).mono ?_; rintro e V1 ⟨gv, rfl, hgv, hz⟩
        refine hK.out _ _ ?_ (fun hHeld => ?_)
        · exact ⟨Ext.cell hz hHeld.1, Ext.cell hz hHeld.2.1, hHeld.2.2.trans hz⟩
        clear hK K
        clear hz
        try simp only [Act.put, xA1, xA2, xA3, xA4, xA5, xA6]
        refine wpAnyH_ready (rs := [6]) (by kernel_rfl) (by simp) ?_
        refine AllReadyH.cons rfl (fun K hK => ?_) AllReadyH.nil
        go_simp
        go_at_call 74; refine (HKL2.out V1 (hx2.trans hHeld.2.2) gv hgv).mono ?_; rintro e V2 ⟨lv, rfl, hlv, hz⟩
        refine hK.out _ _ ?_ (fun hHeld => ?_)
        · exact ⟨Ext.cell hz hHeld.1, Ext.cell hz hHeld.2.1, hHeld.2.2.trans hz⟩
        clear hK K
        replace hlv := hlv.at_
        clear hz hgv
        try simp only [Act.put, xA1, xA2, xA3, xA4, xA5, xA6]
        refine wpAnyH_ready (rs := [7]) (by kernel_rfl) (by simp) ?_
        refine AllReadyH.cons rfl (fun K hK => ?_) AllReadyH.nil
        go_simp
        go_at_call 85; refine (HKD2.out V2 (hx2.trans hHeld.2.2) lv hlv).mono ?_; rintro e V3 ⟨rfl, hz⟩
        refine hK.out _ _ ?_ (fun hHeld => ?_)
        · exact ⟨Ext.cell hz hHeld.1, Ext.cell hz hHeld.2.1, hHeld.2.2.trans hz⟩
        clear hK K
        clear hz hlv
        try simp only [Act.put, xA1, xA2, xA3, xA4, xA5, xA6]
        (refine tkH (i := 8) (v := ?_) rfl ?_ ?_; rotate_left 1; (focus (intro w hSw; (try dsimp only at hSw); go_simp; try (with_reducible rfl))))
        try simp only [Act.put, xA1, xA2, xA3, xA4, xA5, xA6]
        (refine tkH (i := 9) (v := ?_) rfl ?_ ?_; rotate_left 1; (focus (intro w hSw; (try dsimp only at hSw); go_simp; try (with_reducible rfl))))
        try simp only [Act.put, xA1, xA2, xA3, xA4, xA5, xA6]
        refine wpAnyH_done (by kernel_rfl) ?_ _
        have hzz := hHeld.2.2
        go_wp2_with fail
        go_ret2
        exact ⟨by rw [H2.out, H3.out]; rfl, hx2.trans hzz⟩
      · have hbt : (tn != 0) = true := by simp [ht0]
        go_wp2_with fail
        refine (HKT.out hokk _ hx2).mono ?_
        rintro e w3 ⟨rfl, hz⟩
        have hx3 := hx2.trans hz
        replace d0 := hz.cell d0
        replace d1 := hz.cell d1
        clear hz
        by_cases hT0 : T < 0
        · have h2 := HE2.out
          rw [if_pos (.inr ⟨ht0, hT0⟩)] at h2
          have h3 := HX.out
          rw [h2, if_neg (by decide)] at h3
          have H2 := Lib.hid h2
          have H3 := Lib.hid h3
          clear h2 h3 ht0
          go_wp2_with fail
          go_ret2
          exact ⟨by rw [H2.out, H3.out]; rfl, hx3⟩
        · have h2 := HE2.out
          rw [if_neg (by rintro (h | ⟨_, h⟩); omega; exact hT0 h)] at h2
          have h3 := HX.out
          rw [if_pos h2] at h3
          have H2 := Lib.hid h2
          have H3 := Lib.hid h3
          clear h2 h3 ht0
          go_upto_region 7 with fail
          refine wp_region_held_drew (S := fun W' => W'.cell? ⟨w.heap.size, 0, none⟩ = some a ∧ W'.cell? ⟨w.heap.size, 1, none⟩ = some b ∧ Ext w3 W') (by kernel_rfl) ?_ (fun hHeld => ?_)
          · exact ⟨d0, d1, Ext.drew (Ext.refl _)⟩
          obtain ⟨V0, hV0⟩ : ∃ V, World.drew w3 = V := ⟨_, rfl⟩
          rw [hV0] at hHeld ⊢
          clear hV0
          (refine tkH (i := 0) (v := ?_) rfl ?_ ?_; rotate_left 1; (focus (intro w hSw; (try dsimp only at hSw); go_simp; try (with_reducible rfl))))
          try simp only [Act.put, xA1, xA2, xA4, xA5, xA6]
          (refine tkH (i := 1) (v := ?_) rfl ?_ ?_; rotate_left 1; (focus (intro w hSw; (try dsimp only at hSw); go_simp; try (with_reducible rfl))))
          try simp only [Act.put, xA1, xA2, xA3, xA4, xA5, xA6]
          (refine tkH (i := 2) (v := ?_) rfl ?_ ?_; rotate_left 1; (focus (intro w hSw; (try dsimp only at hSw); go_simp; try (with_reducible rfl))))
          try simp only [Act.put, xA1, xA2, xA3, xA4, xA5, xA6]
          (refine tkH (i := 3) (v := ?_) rfl ?_ ?_; rotate_left 1; (focus (intro w hSw; (try dsimp only at hSw); go_simp; try (with_reducible rfl))))
          try simp only [Act.put, xA1, xA2, xA3, xA4, xA5, xA6]
          (refine tkH (i := 4) (v := ?_) rfl ?_ ?_; rotate_left 1; (focus (intro w hSw; (try dsimp only at hSw); go_simp; try (with_reducible rfl))))
          try simp only [Act.put, xA1, xA2, xA3, xA4, xA5, xA6]
          refine wpAnyH_ready (rs := [5]) (by kernel_rfl) (by simp) ?_
          refine AllReadyH.cons rfl (fun K hK => ?_) AllReadyH.nil
          go_simp
          go_at_call 73; refine (HKF2.out V0 (hx3.trans hHeld.2.2)).mono ?_; rintro e V1 ⟨gv, rfl, hgv, hz⟩
          refine hK.out _ _ ?_ (fun hHeld => ?_)
          · exact ⟨Ext.cell hz hHeld.1, Ext.cell hz hHeld.2.1, hHeld.2.2.trans hz⟩
          clear hK K
          clear hz
          try simp only [Act.put, xA1, xA2, xA3, xA4, xA5, xA6]
          refine wpAnyH_ready (rs := [6]) (by kernel_rfl) (by simp) ?_
          refine AllReadyH.cons rfl (fun K hK => ?_) AllReadyH.nil
          go_simp
          go_at_call 74; refine (HKL2.out V1 (hx3.trans hHeld.2.2) gv hgv).mono ?_; rintro e V2 ⟨lv, rfl, hlv, hz⟩
          refine hK.out _ _ ?_ (fun hHeld => ?_)
          · exact ⟨Ext.cell hz hHeld.1, Ext.cell hz hHeld.2.1, hHeld.2.2.trans hz⟩
          clear hK K
          replace hlv := hlv.at_
          clear hz hgv
          try simp only [Act.put, xA1, xA2, xA3, xA4, xA5, xA6]
          refine wpAnyH_ready (rs := [7]) (by kernel_rfl) (by simp) ?_
          refine AllReadyH.cons rfl (fun K hK => ?_) AllReadyH.nil
          go_simp
          go_at_call 85; refine (HKD2.out V2 (hx3.trans hHeld.2.2) lv hlv).mono ?_; rintro e V3 ⟨rfl, hz⟩
          refine hK.out _ _ ?_ (fun hHeld => ?_)
          · exact ⟨Ext.cell hz hHeld.1, Ext.cell hz hHeld.2.1, hHeld.2.2.trans hz⟩
          clear hK K
          clear hz hlv
          try simp only [Act.put, xA1, xA2, xA3, xA4, xA5, xA6]
          (refine tkH (i := 8) (v := ?_) rfl ?_ ?_; rotate_left 1; (focus (intro w hSw; (try dsimp only at hSw); go_simp; try (with_reducible rfl))))
          try simp only [Act.put, xA1, xA2, xA3, xA4, xA5, xA6]
          (refine tkH (i := 9) (v := ?_) rfl ?_ ?_; rotate_left 1; (focus (intro w hSw; (try dsimp only at hSw); go_simp; try (with_reducible rfl))))
          try simp only [Act.put, xA1, xA2, xA3, xA4, xA5, xA6]
          refine wpAnyH_done (by kernel_rfl) ?_ _
          have hzz := hHeld.2.2
          go_wp2_with fail
          go_ret2
          exact ⟨by rw [H2.out, H3.out]; rfl, hx3.trans hzz⟩
  · have h2 := HE.out
    rw [if_neg h0] at h2
    have h3 := HX.out
    rw [if_neg (by rw [h2]; exact h0)] at h3
    have H2 := Lib.hid h2
    have H3 := Lib.hid h3
    have hb : (E != 0) = true := by simp [h0]
    clear h2 h3 h0
    go_wp2_with fail
    go_ret2
    exact ⟨by rw [H2.out, H3.out]; rfl, hx⟩
end Go.Proofs.Ytiofdfjcaklmcaa
namespace Go.Proofs.Ytiofdfjcaklmcaa
open Go.RowKit Go.Shelf

theorem rowS_not {n₀ : Nat} {v : Value} {l : List (Int × Int)} {W : World} (h : RowS n₀ v l W) {b : Nat} (hb : v.ownBlock = some b) : ∃ cs, Cls b 58 cs W := by
  rcases h.2 with ⟨rfl, _⟩ | ⟨g, cap, cur, rfl, _, h1, _⟩
  · cases hb
  · simp only [Value.ownBlock, Option.some.injEq] at hb
    subst hb
    exact ⟨_, h1⟩
theorem intsAt_grown {W W' : World} {v : Value} {l : List Int} {row : Option Nat} {N : Nat} (h : IntsAt W v l) (hg : W.grownBy W' row) (hb : ∀ ad, ∀ n c, v = .slice (some ad) n c → ad.block < N) (hr : ∀ r, row = some r → N ≤ r) : IntsAt W' v l := by
  obtain ⟨ao, c, hv, hc, hi⟩ := h
  refine ⟨ao, c, hv, hc, fun i hl => ?_⟩
  obtain ⟨b, o, h0, h1⟩ := hi i hl
  refine ⟨b, o, h0, grown_cellO hg h1 (fun r e => ?_)⟩
  subst h0
  have h2 := hb _ _ _ hv
  have h3 := hr r e
  simp only at h2 ⊢
  omega
def SfsPost (w : World) (l : List (Int × Int)) (E : Int) (e : Ending) (w' : World) : Prop := ∃ v, e = .returned (.tuple #[v, .int .i64 E]) ∧ SfsAt w' v l ∧ Ext w w'
set_option maxRecDepth 100000 in
set_option maxHeartbeats 16000000 in
theorem Surely_any (a b : Value) (P : Po) (w : World) (hT : PoAt w a b P) (hus : ∀ s ∈ P.ss, s.us.length ≤ 1000000) :
    Calls Try.prog 24 #[.agg #[a, b]] w (SfsPost w (surX P) (chkE P)) := by
  have hX : surX P = if chkE P = 0 then surL P (ladL P (faiG P)) P.ss.length else [] := rfl
  have hok := @chk_ok P
  have KC := fun W (x : Ext w W) => Check_any a b P W (hT.ext x) hus
  have KF := fun (h : OkP P) W (x : Ext w W) => fairest_any a b P h W (hT.ext x)
  have KL := fun (h : OkP P) W (x : Ext w W) gv (hv : IntsAt W gv (faiG P)) => ladder_any a b gv P (faiG P) W (hT.t.ext x) hv (by have := h.lt; omega) (by have := (faiG_V h.pv).1.le h; omega)
  have KD := fun (h : OkP P) (i : Nat) (hi : i < P.ss.length) (tn : Int) W (x : Ext w W) lv (hv : IntsAt W lv (ladL P (faiG P))) => could_any a b lv P i tn (ladL P (faiG P)) h hi (by have := ladL_len P (faiG P); have := h.lt; omega) W (hT.ext x) hv
  obtain ⟨ab, cb, rfl, hlb⟩ := hT.s.len
  obtain ⟨X, hXX⟩ : ∃ E, surX P = E := ⟨_, rfl⟩
  obtain ⟨E, hE⟩ : ∃ E, chkE P = E := ⟨_, rfl⟩
  obtain ⟨L, hL⟩ : ∃ E, ladL P (faiG P) = E := ⟨_, rfl⟩
  rw [hXX, hE, hL] at hX
  simp only [hE] at hok KC
  simp only [hL] at KL KD
  rw [hXX, hE]
  have HX := Lib.hid hX
  have HKC := Lib.hid KC
  have HKF := Lib.hid KF
  have HKL := Lib.hid KL
  have HKD := Lib.hid KD
  clear hX hXX hE hL KC KF KL KD
  go_enter Try.func24, Try.ntmps24
  go_wp2_with fail
  refine (HKC.out _ (by repeat (first | exact Ext.refl _ | assumption | refine Ext.alloc ?_ _ | refine Ext.drew ?_ | refine Ext.drewN _ ?_ | refine Ext.trans ?_ (by assumption)))).mono ?_
  rintro e w1 ⟨rfl, hx1⟩
  obtain ⟨q, hx, hk0⟩ := alloc1 hx1
  have d0 : w1.cell? ⟨w.heap.size, 0, none⟩ = some a := q.cell 0
  have d1 : w1.cell? ⟨w.heap.size, 1, none⟩ = some (.slice ab P.ss.length cb) := q.cell 1
  clear hx1 hk0
  by_cases h0 : E = 0
  · have h2 := HX.out
    rw [if_pos h0] at h2
    have HX2 := Lib.hid h2
    have H0 := Lib.hid h0
    have hb : (E != 0) = false := by simp [h0]
    have hokk := hok.1 h0
    have hls := hokk.ls
    have HUL := Lib.hid hokk.ul
    have HKF2 := Lib.hid (HKF.out hokk)
    have HKL2 := Lib.hid (HKL.out hokk)
    have HKD2 := Lib.hid (HKD.out hokk)
    clear h2 h0 hok HX HKF HKL HKD HKC
    go_upto_region 4 with fail
    refine wp_region_held_drew (S := fun W' => W'.cell? ⟨w.heap.size, 0, none⟩ = some a ∧ W'.cell? ⟨w.heap.size, 1, none⟩ = some (.slice ab P.ss.length cb) ∧ Ext w1 W') (by kernel_rfl) ?_ (fun hHeld => ?_)
    · exact ⟨d0, d1, Ext.drew (Ext.refl _)⟩
    obtain ⟨V0, hV0⟩ : ∃ V, World.drew w1 = V := ⟨_, rfl⟩
    rw [hV0] at hHeld ⊢
    clear hV0
    (refine tkH (i := 0) (v := ?_) rfl ?_ ?_; rotate_left 1; (focus (intro w hSw; (try dsimp only at hSw); go_simp; try (with_reducible rfl))))
    try simp only [Act.put, xA1, xA2, xA4, xA5, xA6]
    (refine tkH (i := 1) (v := ?_) rfl ?_ ?_; rotate_left 1; (focus (intro w hSw; (try dsimp only at hSw); go_simp; try (with_reducible rfl))))
    try simp only [Act.put, xA1, xA2, xA3, xA4, xA5, xA6]
    refine wpAnyH_ready (rs := [2]) (by kernel_rfl) (by simp) ?_
    refine AllReadyH.cons rfl (fun K hK => ?_) AllReadyH.nil
    go_simp
    go_at_call 73; refine (HKF2.out V0 (hx.trans hHeld.2.2)).mono ?_; rintro e V1 ⟨gv, rfl, hgv, hz⟩
    refine hK.out _ _ ?_ (fun hHeld => ?_)
    · exact ⟨Ext.cell hz hHeld.1, Ext.cell hz hHeld.2.1, hHeld.2.2.trans hz⟩
    clear hK K
    clear hz
    try simp only [Act.put, xA1, xA2, xA3, xA4, xA5, xA6]
    refine wpAnyH_ready (rs := [3]) (by kernel_rfl) (by simp) ?_
    refine AllReadyH.cons rfl (fun K hK => ?_) AllReadyH.nil
    go_simp
    go_at_call 74; refine (HKL2.out V1 (hx.trans hHeld.2.2) gv hgv).mono ?_; rintro e V2 ⟨lv, rfl, hlv, hz⟩
    refine hK.out _ _ ?_ (fun hHeld => ?_)
    · exact ⟨Ext.cell hz hHeld.1, Ext.cell hz hHeld.2.1, hHeld.2.2.trans hz⟩
    clear hK K
    replace hlv := hlv.at_
    obtain ⟨lA, lc, hle, _⟩ := hlv.len
    subst hle
    clear hz hgv
    try simp only [Act.put, xA1, xA2, xA3, xA4, xA5, xA6]
    (refine tkH (i := 4) (v := ?_) rfl ?_ ?_; rotate_left 1; (focus (intro w hSw; (try dsimp only at hSw); go_simp; try (with_reducible rfl))))
    try simp only [Act.put, xA1, xA2, xA3, xA4, xA5, xA6]
    refine wpAnyH_done (by kernel_rfl) ?_ _
    have hzz := hHeld.2.2
    have hx3 := hx.trans hzz
    have q3 := q.ext hzz
    obtain ⟨w3, hw3⟩ : ∃ W, V2 = W := ⟨_, rfl⟩
    rw [hw3] at hlv hx3 q3 ⊢
    have g1 : w3.cell? ⟨w.heap.size, 1, none⟩ = some (.slice ab P.ss.length cb) := q3.cell 1
    clear hw3 hHeld hzz hx q d0 d1
    go_wp2_with fail
    go_loopw [6, 24] (fun o i wr => ∃ k : Nat, k ≤ P.ss.length ∧ i = .int .i64 k ∧ Hid (RowS w3.heap.size o (surL P L k) wr) ∧ Ext w3 wr) (fun _ i _ => P.ss.length - (intOf i).toNat)
    case atStart => exact ⟨0, Nat.zero_le _, rfl, Lib.hid (RowK.nil _ _ _ _ _), Ext.refl _⟩
    case round =>
      clear g1
      obtain ⟨k, hk, rfl, HR, hy⟩ := hrel
      have hx := hx3.trans hy
      have q := q3.ext hy
      have d0 : wr.cell? ⟨w.heap.size, 0, none⟩ = some a := q.cell 0
      have d1 : wr.cell? ⟨w.heap.size, 1, none⟩ = some (.slice ab P.ss.length cb) := q.cell 1
      by_cases hlk : k < P.ss.length
      · obtain ⟨b2, o2, ua, uc, hab, s0, s1, hucl, hU⟩ := (hT.s.ext hx).get k hlk
        subst hab
        have hst := surL_succ P L k
        have hll := surL_len P L k
        have hul := HUL.out _ (List.getElem_mem hlk)
        have hone := fun x => surS_one (P := P) (best := L) (i := k) (x := x)
        have hno := surS_no (P := P) (best := L) (i := k)
        have huo := usOf_at hlk
        have hid : (P.ss.getD k ⟨0, []⟩).id = P.ss[k].id := by simp [hlk]
        rw [huo] at hno
        simp only [huo, hid] at hone
        obtain ⟨s, hs⟩ : ∃ s, P.ss[k].id = s := ⟨_, rfl⟩
        obtain ⟨us, huu⟩ : ∃ us, P.ss[k].us = us := ⟨_, rfl⟩
        rw [hs] at s0
        rw [huu] at s1 hucl hU hno hul
        simp only [hs, huu] at hone
        obtain ⟨SL, hSL⟩ : ∃ SL, surL P L k = SL := ⟨_, rfl⟩
        rw [hSL] at hst HR hll
        obtain ⟨SS, hSS⟩ : ∃ SS, surS P L k = SS := ⟨_, rfl⟩
        rw [hSS] at hst hno
        simp only [hSS] at hone
        have HST := Lib.hid hst
        have HONE := Lib.hid hone
        have HNO := Lib.hid hno
        have HKD3 := Lib.hid (fun tn => HKD2.out k hlk tn)
        obtain ⟨PB, hPB⟩ : ∃ PB, wr.heap.size = PB := ⟨_, rfl⟩
        obtain ⟨Y, hY⟩ : ∃ Y, wr.alloc (.cells #[.int .i64 s, .slice ua us.length uc] 48) = Y := ⟨_, rfl⟩
        have hxY : Ext wr Y := by rw [← hY]; exact (by repeat (first | exact Ext.refl _ | assumption | refine Ext.alloc ?_ _ | refine Ext.drew ?_ | refine Ext.drewN _ ?_ | refine Ext.trans ?_ (by assumption)))
        have hbY : Cls PB 48 #[.int .i64 s, .slice ua us.length uc] Y := by rw [← hY]; exact Cls.newAt _ _ _ hPB.symm
        have e1 : Y.cell? ⟨PB, 1, none⟩ = some (.slice ua us.length uc) := hbY.cell 1
        have hyY := hy.trans hxY
        have HRY := Lib.hid (RowS.ext HR.out hxY)
        have hUY := hU.ext hxY
        have hYs := hyY.size
        -- the list of those who may have it
        obtain ⟨Y2, hY2⟩ : ∃ Y2, Y.alloc (.cells #[.int .i64 0] 3) = Y2 := ⟨_, rfl⟩
        have hxY2 : Ext Y Y2 := by rw [← hY2]; exact (by repeat (first | exact Ext.refl _ | assumption | refine Ext.alloc ?_ _ | refine Ext.drew ?_ | refine Ext.drewN _ ?_ | refine Ext.trans ?_ (by assumption)))
        have hr0 : RowI w3.heap.size (.slice (some ⟨Y.heap.size, 0, none⟩) 1 1) [0] Y2 := by
          rw [← hY2]
          exact World.ownsRow_lit (base := w3.heap.size) (e := 3) (size := 1) Y #[.int .i64 0] 1 hYs (by decide) (by simp)
        have hUY2 := hUY.ext hxY2
        have hyY2 := hyY.trans hxY2
        have HRY2 := Lib.hid (RowS.ext HRY.out hxY2)
        have hbY2 := hbY.ext hxY2
        have e1' : (Y.alloc (.cells #[.int .i64 0] 3)).cell? ⟨PB, 1, none⟩ = some (.slice ua us.length uc) := by rw [hY2]; exact hbY2.cell 1
        have HY2 := Lib.hid hY2
        obtain ⟨ws, hws⟩ : ∃ ws, ([0] ++ us : List Int) = ws := ⟨_, rfl⟩
        have HWS := Lib.hid hws
        have hws2 : (0 :: us : List Int) = ws := hws
        rw [hws2] at HONE HNO
        have hwl : ws.length ≤ 20 := by rw [← hws]; simp; omega
        clear hws hws2
        clear hst hone hno huo hid hs huu hSL hSS HR hU hx q hxY hxY2 hUY HRY hbY hY2
        go_wp2_with (at_builtin; refine append_ints rfl _ _ rfl w3.heap.size (.slice (some ⟨Y.heap.size, 0, none⟩) 1 1) _ [0] us rfl (by rw [HY2.out]; exact hr0) rfl (by rw [HY2.out]; exact hUY2) (by rw [HY2.out]; exact hyY2.size) (by simp; omega) ?_; intro v4 W4 hr4 hg4 _; rw [HWS.out] at hr4; obtain ⟨wA, wc, hv4⟩ := hr4.form; subst hv4)
        rw [HY2.out] at hg4
        have hy4 : Ext w3 W4 := ext_own hyY2 hr0 (Nat.le_refl _) hg4
        have HR4 : Hid (RowS w3.heap.size u6 SL W4) := Lib.hid (rowS_kept HRY2.out hg4 (fun r e cs hc => by
          obtain ⟨cs', h2⟩ := rowI_not hr0 e
          exact absurd (cls_uniq hc h2) (by decide)))
        have hb4 := hbY2.kept hg4 (fun e => by
          obtain ⟨cs', h2⟩ := rowI_not hr0 e.symm
          exact absurd (cls_uniq hbY2 h2) (by decide))
        have hwa := hr4.at_
        obtain ⟨NB, hNB⟩ : ∃ N, W4.heap.size = N := ⟨_, rfl⟩
        have hNB3 : w3.heap.size ≤ NB := by rw [← hNB]; exact hy4.size
        have hNBs : NB ≤ W4.heap.size := by omega
        have hPBn : PB < NB := by rw [← hNB]; exact hb4.lt
        have hwB : ∀ ad : Addr, wA = some ad → ad.block < NB := fun ad e => by subst e; rw [← hNB]; exact (hr4.lt ad.block rfl).2
        clear hg4 hY hPB hbY2 HRY2 hyY2 hr0 HY2 e1' e1 hUY2 hNB hr4 hyY hYs
        go_loopw [9, 34] (fun o i wt => ∃ j : Nat, j ≤ ws.length ∧ i = .int .i64 j ∧ Hid (RowI NB o (whoL P k L (ws.take j)) wt) ∧ Hid (RowS w3.heap.size u6 SL wt) ∧ Cls PB 48 #[.int .i64 s, .slice ua us.length uc] wt ∧ IntsAt wt (.slice wA ws.length wc) ws ∧ Ext w3 wt ∧ NB ≤ wt.heap.size) (fun _ i _ => ws.length - (intOf i).toNat)
        case atStart => exact ⟨0, Nat.zero_le _, rfl, Lib.hid (rowI_nil _ _), HR4, hb4, hwa, hy4, hNBs⟩
        case round =>
          clear HR4 hb4 hwa hy4 hNBs d0 d1
          obtain ⟨j, hj, rfl, HW, HO, hbx, hwa, hyt, hsz⟩ := hrel
          have hx := hx3.trans hyt
          have q := q3.ext hyt
          have d0 : wr.cell? ⟨w.heap.size, 0, none⟩ = some a := q.cell 0
          have d1 : wr.cell? ⟨w.heap.size, 1, none⟩ = some (.slice (some ⟨b2, o2, none⟩) P.ss.length cb) := q.cell 1
          by_cases hlj : j < ws.length
          · obtain ⟨b5, o5, hwe, c5⟩ := hwa.get j hlj
            subst hwe
            have hst := whoL_snoc P k L (ws.take j) ws[j]
            rw [← take_succ_get ws j hlj] at hst
            have hKD := HKD3.out ws[j]
            have hwl2 : (whoL P k L (ws.take j)).length ≤ 20 := Nat.le_trans (List.length_filter_le _ _) (by simp; omega)
            obtain ⟨x, hxx⟩ : ∃ x, ws[j] = x := ⟨_, rfl⟩
            rw [hxx] at c5 hst hKD
            obtain ⟨cu, hcu⟩ : ∃ c, couX P k x L = c := ⟨_, rfl⟩
            rw [hcu] at hst
            simp only [hcu] at hKD
            obtain ⟨WL, hWL⟩ : ∃ WL, whoL P k L (ws.take j) = WL := ⟨_, rfl⟩
            rw [hWL] at hst HW hwl2
            have HST2 := Lib.hid hst
            have HK5 := Lib.hid hKD
            have hLv := hlv.ext hyt
            clear hst hKD hxx hcu hWL
            go_wp2_with fail
            refine (HK5.out _ hx _ hLv).mono ?_
            rintro e w6 ⟨rfl, hz⟩
            have HW6 := Lib.hid (rowI_ext HW.out hz)
            have HO6 := Lib.hid (RowS.ext HO.out hz)
            have hb6 := hbx.ext hz
            have hwa6 := hwa.ext hz
            have hy6 := hyt.trans hz
            have hsz6 : NB ≤ w6.heap.size := Nat.le_trans hsz hz.size
            clear HW HO hbx hwa hyt hsz hz d0 d1 q hx hLv c5
            cases cu
            · have hs := HST2.out
              rw [if_neg (by decide)] at hs
              have HS := Lib.hid hs
              clear hs
              go_wp2_with fail
              go_roundw
              case rel => exact ⟨j + 1, by omega, by go_num, Lib.hid (by rw [HS.out]; exact HW6.out), HO6, hb6, hwa6, hy6, hsz6⟩
              case measure => simp [intOf]; omega
            · have hs := HST2.out
              rw [if_pos rfl] at hs
              have HS := Lib.hid hs
              have hR := HW6.out
              have hNBx : ∀ ad, ∀ n c, Value.slice (some ⟨b5, o5, none⟩) ws.length wc = .slice (some ad) n c → ad.block < NB := fun ad n c e => hwB ad (by simp only [Value.slice.injEq] at e; exact e.1)
              clear hs
              go_wp2_with (at_builtin; refine append_ints rfl _ _ rfl NB _ _ WL [x] rfl (rowI_ext hR (by repeat (first | exact Ext.refl _ | assumption | refine Ext.alloc ?_ _ | refine Ext.drew ?_ | refine Ext.drewN _ ?_ | refine Ext.trans ?_ (by assumption)))) rfl (ints_oneAt _ _ _ rfl) (by simp; omega) (by simp; omega) ?_; intro v7 W7 hr7 hg7 _; have hx7 := ext_own hy6 hR hNB3 (grown_pre hg7); have hb7 := hb6.kept (grown_pre hg7) (own_ge hR hPBn); have hO7 := rowS_kept HO6.out (grown_pre hg7) (fun r e cs hc => by obtain ⟨cs', h2⟩ := rowI_not hR e; exact absurd (cls_uniq hc h2) (by decide)); have hwa7 := intsAt_grown hwa6 (grown_pre hg7) hNBx (fun r e => (hR.lt r e).1); have hsz7 : NB ≤ W7.heap.size := Nat.le_trans hsz6 (grown_pre hg7).size; clear hg7)
              go_roundw
              case rel => exact ⟨j + 1, by omega, by go_num, Lib.hid (by rw [HS.out]; exact hr7), Lib.hid hO7, hb7, hwa7, hx7, hsz7⟩
              case measure => simp [intOf]; omega
          · obtain rfl : j = ws.length := by omega
            rw [List.take_length] at HW
            have hwl2 : (whoL P k L ws).length ≤ 20 := Nat.le_trans (List.length_filter_le _ _) hwl
            obtain ⟨WL, hWL⟩ : ∃ WL, whoL P k L ws = WL := ⟨_, rfl⟩
            rw [hWL] at HW hwl2
            rw [hWL] at HNO
            simp only [hWL] at HONE
            obtain ⟨hA, hc, hhe⟩ := HW.out.form
            subst hhe
            have e0 : wr.cell? ⟨PB, 0, none⟩ = some (.int .i64 s) := hbx.cell 0
            obtain ⟨oA, oc, hoe⟩ := HO.out.form
            subst hoe
            clear hWL hwa hlj hj
            by_cases h1 : WL.length = 1
            · obtain ⟨x, rfl⟩ : ∃ x, WL = [x] := by
                cases WL with
                | nil => simp at h1
                | cons x t => cases t with
                  | nil => exact ⟨x, rfl⟩
                  | cons y t => simp at h1
              obtain ⟨b7, o7, hhe7, c7⟩ := HW.out.at_.get 0 (by simp)
              subst hhe7
              replace c7 : wr.cell? ⟨b7, o7 + 0, none⟩ = some (.int .i64 x) := c7
              rw [Nat.add_zero] at c7
              have hwn7 : ∀ V, Ext wr V → ∀ cs, ¬ Cls b7 58 cs V := fun V hV cs hc => by
                obtain ⟨cs', h2⟩ := rowI_not (rowI_ext HW.out hV) (b := b7) rfl
                exact absurd (cls_uniq hc h2) (by decide)
              by_cases hx0 : x = 0
              · have hb0 : (x != 0) = false := by simp [hx0]
                have hs : SS = [] := HNO.out (fun y hy => by cases hy; exact hx0)
                have HS := Lib.hid hs
                clear hs hx0
                go_wp2_with fail
                go_roundw
                case rel => exact ⟨k + 1, by omega, by go_num, Lib.hid (by rw [HST.out, HS.out, List.append_nil]; exact HO.out), hyt⟩
                case measure => simp [intOf]; omega
              · have hb0 : (x != 0) = true := by simp [hx0]
                have hs : SS = [(s, x)] := HONE.out x rfl hx0
                have HS := Lib.hid hs
                clear hs hx0
                go_upto_region 17 with fail
                refine wp_region_held_drew (S := fun W' => W'.cell? ⟨PB, 0, none⟩ = some (.int .i64 s) ∧ W'.cell? ⟨b7, o7, none⟩ = some (.int .i64 x) ∧ Ext w3 W') (by kernel_rfl) ?_ (fun hHeld => ?_)
                · exact ⟨e0, c7, Ext.drew hyt⟩
                obtain ⟨V0, hV0⟩ : ∃ V, World.drew wr = V := ⟨_, rfl⟩
                rw [hV0] at hHeld ⊢
                have hV0x : Ext wr V0 := by rw [← hV0]; exact Ext.drew (Ext.refl _)
                clear hV0
                (refine tkH (i := 0) (v := ?_) rfl ?_ ?_; rotate_left 1; (focus (intro w hSw; (try dsimp only at hSw); go_simp; try (with_reducible rfl))))
                try simp only [Act.put, xA1, xA2, xA4, xA5, xA6]
                (refine tkH (i := 1) (v := ?_) rfl ?_ ?_; rotate_left 1; (focus (intro w hSw; (try dsimp only at hSw); go_simp; try (with_reducible rfl))))
                try simp only [Act.put, xA1, xA2, xA3, xA4, xA5, xA6]
                (refine tkH (i := 2) (v := ?_) rfl ?_ ?_; rotate_left 1; (focus (intro w hSw; (try dsimp only at hSw); go_simp; try (with_reducible rfl))))
                try simp only [Act.put, xA1, xA2, xA3, xA4, xA5, xA6]
                (refine tkH (i := 3) (v := ?_) rfl ?_ ?_; rotate_left 1; (focus (intro w hSw; (try dsimp only at hSw); go_simp; try (with_reducible rfl))))
                try simp only [Act.put, xA1, xA2, xA3, xA4, xA5, xA6]
                (refine tkH (i := 4) (v := ?_) rfl ?_ ?_; rotate_left 1; (focus (intro w hSw; (try dsimp only at hSw); go_simp; try (with_reducible rfl))))
                try simp only [Act.put, xA1, xA2, xA3, xA4, xA5, xA6]
                (refine tkH (i := 5) (v := ?_) rfl ?_ ?_; rotate_left 1; (focus (intro w hSw; (try dsimp only at hSw); go_simp; try (with_reducible rfl))))
                try simp only [Act.put, xA1, xA2, xA3, xA4, xA5, xA6]
                (refine tkH (i := 6) (v := ?_) rfl ?_ ?_; rotate_left 1; (focus (intro w hSw; (try dsimp only at hSw); go_simp; try (with_reducible rfl))))
                try simp only [Act.put, xA1, xA2, xA3, xA4, xA5, xA6]
                refine wpAnyH_ready (rs := [7]) (by kernel_rfl) (by simp) ?_
                refine AllReadyH.cons rfl (fun K hK => ?_) AllReadyH.nil
                have hzV : Ext wr V0 := hV0x
                go_simp
                obtain ⟨LB, hLB⟩ : ∃ N, V0.heap.size = N := ⟨_, rfl⟩
                obtain ⟨V1, hN⟩ : ∃ X, V0.alloc (.cells #[.int .i64 s, .int .i64 x] 58) = X := ⟨_, rfl⟩
                have hz : Ext V0 V1 := by rw [← hN]; exact (by repeat (first | exact Ext.refl _ | assumption | refine Ext.alloc ?_ _ | refine Ext.drew ?_ | refine Ext.drewN _ ?_ | refine Ext.trans ?_ (by assumption)))
                have hone : Cls LB 58 #[.int .i64 s, .int .i64 x] V1 := by rw [← hN]; exact Cls.newAt _ _ _ hLB.symm
                rw [hN, hLB]
                refine hK.out _ _ ?_ (fun hHeld => ?_)
                · exact ⟨Ext.cell hz hHeld.1, Ext.cell hz hHeld.2.1, hHeld.2.2.trans hz⟩
                clear hK K
                replace hzV := hzV.trans hz
                clear hz hN hLB
                try simp only [Act.put, xA1, xA2, xA3, xA4, xA5, xA6]
                refine wpAnyH_ready (rs := [8]) (by kernel_rfl) (by simp) ?_
                refine AllReadyH.cons rfl (fun K hK => ?_) AllReadyH.nil
                rw [if_pos (by rfl)]
                have hO8 := RowS.ext HO.out hzV
                obtain ⟨v9, V2, hrun, hr9, hg9, _⟩ := run_append_sfs V1 35 w3.heap.size _ _ SL [(s, x)] hO8 (sfs_one hone) hHeld.2.2.size (by simp; omega)
                refine oper_append _ _ 35 rfl _ _ v9 V2 rfl rfl hrun ?_
                have hnS : ∀ r, Value.ownBlock (.slice oA SL.length oc) = some r → ∃ cs, Cls r 58 cs V1 := fun r e => rowS_not hO8 e
                refine hK.out _ _ ?_ (fun hHeld => ?_)
                · exact ⟨grown_cellO hg9 hHeld.1 (fun r e => by obtain ⟨cs, h2⟩ := hnS r e; intro e3; subst e3; exact absurd (cls_uniq h2 (hbx.ext hzV)) (by decide)), grown_cellO hg9 hHeld.2.1 (fun r e => by obtain ⟨cs, h2⟩ := hnS r e; intro e3; subst e3; exact hwn7 V1 hzV cs h2), ext_own hHeld.2.2 hO8 (Nat.le_refl _) hg9⟩
                clear hK K
                try simp only [Act.put, xA1, xA2, xA3, xA4, xA5, xA6]
                (refine tkH (i := 9) (v := ?_) rfl ?_ ?_; rotate_left 1; (focus (intro w hSw; (try dsimp only at hSw); go_simp; try (with_reducible rfl))))
                try simp only [Act.put, xA1, xA2, xA3, xA4, xA5, xA6]
                refine wpAnyH_done (by kernel_rfl) ?_ _
                go_wp2_with fail
                go_roundw
                case rel => exact ⟨k + 1, by omega, by go_num, Lib.hid (by rw [HST.out, HS.out]; exact hr9), hHeld.2.2⟩
                case measure => simp [intOf]; omega
            · have hb0 : ((WL.length : Int) == 1) = false := by
                rw [beq_eq_false_iff_ne]; omega
              have hs : SS = [] := HNO.out (fun y hy => by rw [hy] at h1; simp at h1)
              have HS := Lib.hid hs
              have h1i : ¬ (WL.length : Int) = 1 := by omega
              clear hs h1
              go_wp2_with fail
              go_roundw
              case rel => exact ⟨k + 1, by omega, by go_num, Lib.hid (by rw [HST.out, HS.out, List.append_nil]; exact HO.out), hyt⟩
              case measure => simp [intOf]; omega
      · obtain rfl : k = P.ss.length := by omega
        have hR := HR.out
        rw [← HX2.out] at hR
        have HRR := Lib.hid hR
        clear HR hR
        go_wp2_with fail
        go_ret2
        exact ⟨_, ret2 rfl (by rw [H0.out]; rfl), HRR.out.at_, hx⟩
  · have h2 := HX.out
    rw [if_neg h0] at h2
    have HX2 := Lib.hid h2
    have hb : (E != 0) = true := by simp [h0]
    clear h2 h0
    go_wp2_with fail
    go_ret2
    exact ⟨_, rfl, by rw [HX2.out]; exact SeqK.nil _ _ _, hx⟩
end Go.Proofs.Ytiofdfjcaklmcaa
