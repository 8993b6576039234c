/- FairChecks: true whatever the pool and the lists. -/
import Derived.Test.YtiofdfjcaklmcaaFLaw
import Derived.Test.YtiofdfjcaklmcaaFRcm
namespace Go.Proofs.Ytiofdfjcaklmcaa
open Go.RowKit Go.Shelf
set_option maxRecDepth 100000 in
set_option maxHeartbeats 16000000 in
theorem FairChecks_any (pa pb va vb : Value) (P : Po) (a b : List Int) (w : World) (hT : PoAt w pa pb P) (hn : P.ss.length ≤ 9223372036854775807) (hA : IntsAt w va a) (hB : IntsAt w vb b) :
    Calls Try.prog 10 #[.agg #[pa, pb], va, vb] w fun e w' => e = .returned (.bool true) ∧ Ext w w' := by
  obtain ⟨av, ac, rfl, _⟩ := hA.len
  obtain ⟨bv, bc, rfl, _⟩ := hB.len
  have KF := fun W (h : Ext w W) => few_any pa pb P W (hT.ext h) hn
  have KN := fun (h : fewB P = true) W (x : Ext w W) => Counts_any pa pb _ P a W (hT.ext x) (hA.ext x) (few_us h)
  have RN := fun (h : fewB P = true) W (x : Ext w W) => refCounts_any pa pb _ P a W (hT.ext x) (hA.ext x) (few_us h)
  have KM := fun (h : fewB P = true) W (x : Ext w W) => Compare_any pa pb _ _ P a b W (hT.ext x) (hA.ext x) (hB.ext x) (few_us h)
  have RM := fun (h : fewB P = true) W (x : Ext w W) => refCompare_any pa pb _ _ P a b W (hT.ext x) (hA.ext x) (hB.ext x) (few_us h)
  have KK := fun (h : fewB P = true) W (x : Ext w W) => Check_any pa pb P W (hT.ext x) (few_us h)
  have RK := fun (h : fewB P = true) W (x : Ext w W) => refCheck_any pa pb P W (hT.ext x) (few_us h)
  have KG := fun (h : fewB P = true) W (x : Ext w W) => CheckGiven_any pa pb _ P a W (hT.ext x) (hA.ext x) (few_us h)
  have RG := fun (h : fewB P = true) W (x : Ext w W) => refCheckGiven_any pa pb _ P a W (hT.ext x) (hA.ext x) (few_us h)
  have hlx : (cntsX P a).length ≤ 1000000 := by
    unfold cntsX
    split
    · rename_i h
      rw [cntT_len]
      have := (cg_ok.1 h).1.lt
      omega
    · simp
  obtain ⟨C, hC_⟩ : ∃ x, chkE P = x := ⟨_, rfl⟩
  obtain ⟨F, hF_⟩ : ∃ x, fewB P = x := ⟨_, rfl⟩
  obtain ⟨A, hA_⟩ : ∃ x, cgE P a = x := ⟨_, rfl⟩
  obtain ⟨X, hX_⟩ : ∃ x, cntsX P a = x := ⟨_, rfl⟩
  obtain ⟨MX, hMX_⟩ : ∃ x, cmpX P a b = x := ⟨_, rfl⟩
  obtain ⟨ME, hME_⟩ : ∃ x, cmpE P a b = x := ⟨_, rfl⟩
  obtain ⟨na, hna_⟩ : ∃ x, a.length = x := ⟨_, rfl⟩
  obtain ⟨nb, hnb_⟩ : ∃ x, b.length = x := ⟨_, rfl⟩
  rw [hF_] at KF KN RN KM RM KK RK KG RG
  simp only [hC_] at KK RK
  simp only [hA_, hX_] at KN RN
  simp only [hA_] at KG RG
  simp only [hMX_, hME_] at KM RM
  rw [hX_] at hlx
  simp only [hna_] at KN RN KM RM KG RG
  simp only [hnb_] at KM RM
  rw [hna_, hnb_]
  have HKF := Lib.hid KF
  have HKN := Lib.hid KN
  have HRN := Lib.hid RN
  have HKM := Lib.hid KM
  have HRM := Lib.hid RM
  have HKK := Lib.hid KK
  have HRK := Lib.hid RK
  have HKG := Lib.hid KG
  have HRG := Lib.hid RG
  have Hhlx := Lib.hid hlx
  clear KF KN RN KM RM KK RK KG RG hlx hC_ hF_ hA_ hX_ hMX_ hME_ hna_ hnb_ hT hn hA hB
  go_enter Try.func10, Try.ntmps10
  go_wp2_with fail
  refine (head_any _).mono ?_
  rintro e w1 ⟨rfl, hx⟩
  obtain ⟨q0, hx1, hk0⟩ := alloc1 hx
  have d0 : w1.cell? ⟨w.heap.size, 0, none⟩ = some pa := q0.cell 0
  have d1 : w1.cell? ⟨w.heap.size, 1, none⟩ = some pb := q0.cell 1
  clear hx q0 hk0
  go_wp2_with fail
  refine (HKF.out _ hx1).mono ?_
  rintro e w2 ⟨rfl, hz⟩
  have hx2 := hx1.trans hz
  replace d0 := hz.cell d0
  replace d1 := hz.cell d1
  clear hz hx1
  cases F with
  | false =>
    go_wp2_with fail
    go_ret
    exact ⟨rfl, hx2⟩
  | true =>
    have GKN := Lib.hid (HKN.out rfl)
    have GRN := Lib.hid (HRN.out rfl)
    have GKM := Lib.hid (HKM.out rfl)
    have GRM := Lib.hid (HRM.out rfl)
    have GKK := Lib.hid (HKK.out rfl)
    have GRK := Lib.hid (HRK.out rfl)
    have GKG := Lib.hid (HKG.out rfl)
    have GRG := Lib.hid (HRG.out rfl)
    clear HKN HRN HKM HRM HKK HRK HKG HRG
    by_cases gna : na ≤ 60
    rotate_left 1
    · have bna : decide ((na : Int) > 60) = true := decide_eq_true (by omega)
      clear gna
      go_wp2_with fail
      go_ret
      exact ⟨rfl, hx2⟩
    have bna : decide ((na : Int) > 60) = false := decide_eq_false (by omega)
    by_cases gnb : nb ≤ 60
    rotate_left 1
    · have bnb : decide ((nb : Int) > 60) = true := decide_eq_true (by omega)
      clear gnb
      go_wp2_with fail
      go_ret
      exact ⟨rfl, hx2⟩
    have bnb : decide ((nb : Int) > 60) = false := decide_eq_false (by omega)
    clear gna gnb
    go_wp2_with fail
    refine (GKN.out _ hx2).mono ?_
    rintro e w3 ⟨u, rfl, hu, hz⟩
    have hx3 := hx2.trans hz
    replace d0 := hz.cell d0
    replace d1 := hz.cell d1
    clear hz hx2
    obtain ⟨ua, uc, rfl, _⟩ := hu.len
    clear bna bnb
    go_wp2_with fail
    refine (GRN.out _ hx3).mono ?_
    rintro e w4 ⟨v, rfl, hv, hz⟩
    have hx4 := hx3.trans hz
    replace d0 := hz.cell d0
    replace d1 := hz.cell d1
    replace hu := hu.ext hz
    clear hz hx3
    obtain ⟨va, vc, rfl, _⟩ := hv.len
    obtain ⟨gl, hgl⟩ : ∃ n, X.length = n := ⟨_, rfl⟩
    rw [hgl] at hu hv ⊢
    have HLX : Hid (X.length ≤ 1000000) := Hhlx
    obtain ⟨WB, hWB⟩ : ∃ W, w4.alloc (.cells #[.slice va gl vc, .int .i64 A] 55) = W := ⟨_, rfl⟩
    obtain ⟨FB, hFB⟩ : ∃ B, w4.heap.size = B := ⟨_, rfl⟩
    have hxB : Ext w4 WB := by rw [← hWB]; exact (by repeat (first | exact Ext.refl _ | assumption | refine Ext.alloc ?_ _ | refine Ext.drew ?_ | refine Ext.drewN _ ?_ | refine Ext.trans ?_ (by assumption)))
    have qf : Cls FB 55 #[.slice va gl vc, .int .i64 A] WB := by rw [← hWB]; exact Cls.newAt _ _ _ hFB.symm
    replace d0 := hxB.cell d0
    replace d1 := hxB.cell d1
    replace hu := hu.ext hxB
    replace hv := hv.ext hxB
    have f0 : WB.cell? ⟨FB, 0, none⟩ = some (.slice va gl vc) := qf.cell 0
    have f1 : WB.cell? ⟨FB, 1, none⟩ = some (.int .i64 A) := qf.cell 1
    have hxW := hx4.trans hxB
    clear hxB qf hgl hx4
    go_wp2_with fail
    refine (GKM.out _ hxW).mono ?_
    rintro e w5 ⟨rfl, hz⟩
    have hx5 := hxW.trans hz
    replace d0 := hz.cell d0
    replace d1 := hz.cell d1
    replace f0 := hz.cell f0
    replace f1 := hz.cell f1
    replace hu := hu.ext hz
    replace hv := hv.ext hz
    clear hz hxW
    clear hWB hFB
    go_wp2_with fail
    refine (GRM.out _ hx5).mono ?_
    rintro e w6 ⟨rfl, hz⟩
    have hx6 := hx5.trans hz
    replace d0 := hz.cell d0
    replace d1 := hz.cell d1
    replace f0 := hz.cell f0
    replace f1 := hz.cell f1
    replace hu := hu.ext hz
    replace hv := hv.ext hz
    clear hz hx5
    go_wp2_with fail
    refine (refSame_any _ _ X X _ hu hv HLX.out).mono ?_
    rintro e w7 ⟨rfl, hz⟩
    have hx7 := hx6.trans hz
    replace d0 := hz.cell d0
    replace d1 := hz.cell d1
    replace f0 := hz.cell f0
    replace f1 := hz.cell f1
    replace hu := hu.ext hz
    replace hv := hv.ext hz
    clear hz hx6
    clear hu hv
    have hXX : decide (X = X) = true := decide_eq_true rfl
    go_upto_region 9 with fail
    have e1 : (C == C) = true := by simp
    have e2 : (A == A) = true := by simp
    have e3 : (MX == MX) = true := by simp
    have e4 : (ME == ME) = true := by simp
    refine wp_region_held_drew (S := fun W' => W'.cell? ⟨w.heap.size, 0, none⟩ = some pa ∧ W'.cell? ⟨w.heap.size, 1, none⟩ = some pb ∧ W'.cell? ⟨FB, 0, none⟩ = some (.slice va gl vc) ∧ W'.cell? ⟨FB, 1, none⟩ = some (.int .i64 A) ∧ Ext w7 W') (by kernel_rfl) ?_ (fun hHeld => ?_)
    · exact ⟨d0, d1, f0, f1, Ext.drew (Ext.refl _)⟩
    obtain ⟨V0, hV0⟩ : ∃ V, World.drew w7 = V := ⟨_, rfl⟩
    rw [hV0] at hHeld ⊢
    clear hV0
    (refine tkH (i := 0) (v := ?_) rfl ?_ ?_; rotate_left 1; (focus (intro w hSw; (try dsimp only at hSw); go_simp; try (with_reducible rfl))))
    try simp only [Act.put, xA1, xA2, xA4, xA5, xA6]
    (refine tkH (i := 1) (v := ?_) rfl ?_ ?_; rotate_left 1; (focus (intro w hSw; (try dsimp only at hSw); go_simp; try (with_reducible rfl))))
    try simp only [Act.put, xA1, xA2, xA3, xA4, xA5, xA6]
    (refine tkH (i := 2) (v := ?_) rfl ?_ ?_; rotate_left 1; (focus (intro w hSw; (try dsimp only at hSw); go_simp; try (with_reducible rfl))))
    try simp only [Act.put, xA1, xA2, xA3, xA4, xA5, xA6]
    (refine tkH (i := 4) (v := ?_) rfl ?_ ?_; rotate_left 1; (focus (intro w hSw; (try dsimp only at hSw); go_simp; try (with_reducible rfl))))
    try simp only [Act.put, xA1, xA2, xA3, xA4, xA5, xA6]
    refine wpAnyH_ready (rs := [3]) (by kernel_rfl) (by simp) ?_
    refine AllReadyH.cons rfl (fun K hK => ?_) AllReadyH.nil
    go_simp
    go_at_call 27; refine (GKK.out V0 (hx7.trans hHeld.2.2.2.2)).mono ?_; rintro e V1 ⟨rfl, hz⟩
    refine hK.out _ _ ?_ (fun hHeld => ?_)
    · exact ⟨Ext.cell hz hHeld.1, Ext.cell hz hHeld.2.1, Ext.cell hz hHeld.2.2.1, Ext.cell hz hHeld.2.2.2.1, hHeld.2.2.2.2.trans hz⟩
    clear hK K
    clear hz
    try simp only [Act.put, xA1, xA2, xA3, xA4, xA5, xA6]
    refine wpAnyH_ready (rs := [5]) (by kernel_rfl) (by simp) ?_
    refine AllReadyH.cons rfl (fun K hK => ?_) AllReadyH.nil
    go_simp
    go_at_call 51; refine (GRK.out V1 (hx7.trans hHeld.2.2.2.2)).mono ?_; rintro e V2 ⟨rfl, hz⟩
    refine hK.out _ _ ?_ (fun hHeld => ?_)
    · exact ⟨Ext.cell hz hHeld.1, Ext.cell hz hHeld.2.1, Ext.cell hz hHeld.2.2.1, Ext.cell hz hHeld.2.2.2.1, hHeld.2.2.2.2.trans hz⟩
    clear hK K
    clear hz
    try simp only [Act.put, xA1, xA2, xA3, xA4, xA5, xA6]
    (refine tkH (i := 6) (v := ?_) rfl ?_ ?_; rotate_left 1; (focus (intro w hSw; (try dsimp only at hSw); go_simp; try (with_reducible rfl))))
    try simp only [Act.put, xA1, xA2, xA3, xA4, xA5, xA6]
    (refine tkH (i := 7) (v := ?_) rfl ?_ ?_; rotate_left 1; (focus (intro w hSw; (try dsimp only at hSw); go_simp; try (with_reducible rfl))))
    try simp only [Act.put, xA1, xA2, xA3, xA4, xA5, xA6]
    (refine tkH (i := 8) (v := ?_) rfl ?_ ?_; rotate_left 1; (focus (intro w hSw; (try dsimp only at hSw); go_simp; try (with_reducible rfl))))
    try simp only [Act.put, xA1, xA2, xA3, xA4, xA5, xA6]
    (refine tkH (i := 9) (v := ?_) rfl ?_ ?_; rotate_left 1; (focus (intro w hSw; (try dsimp only at hSw); go_simp; try (with_reducible rfl))))
    try simp only [Act.put, xA1, xA2, xA3, xA4, xA5, xA6]
    (refine tkH (i := 10) (v := ?_) rfl ?_ ?_; rotate_left 1; (focus (intro w hSw; (try dsimp only at hSw); go_simp; try (with_reducible rfl))))
    try simp only [Act.put, xA1, xA2, xA3, xA4, xA5, xA6]
    (refine tkH (i := 12) (v := ?_) rfl ?_ ?_; rotate_left 1; (focus (intro w hSw; (try dsimp only at hSw); go_simp; try (with_reducible rfl))))
    try simp only [Act.put, xA1, xA2, xA3, xA4, xA5, xA6]
    (refine tkH (i := 13) (v := ?_) rfl ?_ ?_; rotate_left 1; (focus (intro w hSw; (try dsimp only at hSw); go_simp; try (with_reducible rfl))))
    try simp only [Act.put, xA1, xA2, xA3, xA4, xA5, xA6]
    refine wpAnyH_ready (rs := [11]) (by kernel_rfl) (by simp) ?_
    refine AllReadyH.cons rfl (fun K hK => ?_) AllReadyH.nil
    go_simp
    go_at_call 52; refine (GKG.out V2 (hx7.trans hHeld.2.2.2.2)).mono ?_; rintro e V3 ⟨rfl, hz⟩
    refine hK.out _ _ ?_ (fun hHeld => ?_)
    · exact ⟨Ext.cell hz hHeld.1, Ext.cell hz hHeld.2.1, Ext.cell hz hHeld.2.2.1, Ext.cell hz hHeld.2.2.2.1, hHeld.2.2.2.2.trans hz⟩
    clear hK K
    clear hz
    try simp only [Act.put, xA1, xA2, xA3, xA4, xA5, xA6]
    refine wpAnyH_ready (rs := [14]) (by kernel_rfl) (by simp) ?_
    refine AllReadyH.cons rfl (fun K hK => ?_) AllReadyH.nil
    go_simp
    go_at_call 37; refine (GRG.out V3 (hx7.trans hHeld.2.2.2.2)).mono ?_; rintro e V4 ⟨rfl, hz⟩
    refine hK.out _ _ ?_ (fun hHeld => ?_)
    · exact ⟨Ext.cell hz hHeld.1, Ext.cell hz hHeld.2.1, Ext.cell hz hHeld.2.2.1, Ext.cell hz hHeld.2.2.2.1, hHeld.2.2.2.2.trans hz⟩
    clear hK K
    clear hz
    try simp only [Act.put, xA1, xA2, xA3, xA4, xA5, xA6]
    (refine tkH (i := 15) (v := ?_) rfl ?_ ?_; rotate_left 1; (focus (intro w hSw; (try dsimp only at hSw); go_simp; try (with_reducible rfl))))
    try simp only [Act.put, xA1, xA2, xA3, xA4, xA5, xA6]
    (refine tkH (i := 16) (v := ?_) rfl ?_ ?_; rotate_left 1; (focus (intro w hSw; (try dsimp only at hSw); go_simp; try (with_reducible rfl))))
    try simp only [Act.put, xA1, xA2, xA3, xA4, xA5, xA6]
    (refine tkH (i := 17) (v := ?_) rfl ?_ ?_; rotate_left 1; (focus (intro w hSw; (try dsimp only at hSw); go_simp; try (with_reducible rfl))))
    try simp only [Act.put, xA1, xA2, xA3, xA4, xA5, xA6]
    (refine tkH (i := 18) (v := ?_) rfl ?_ ?_; rotate_left 1; (focus (intro w hSw; (try dsimp only at hSw); go_simp; try (with_reducible rfl))))
    try simp only [Act.put, xA1, xA2, xA3, xA4, xA5, xA6]
    (refine tkH (i := 19) (v := ?_) rfl ?_ ?_; rotate_left 1; (focus (intro w hSw; (try dsimp only at hSw); go_simp; try (with_reducible rfl))))
    try simp only [Act.put, xA1, xA2, xA3, xA4, xA5, xA6]
    (refine tkH (i := 20) (v := ?_) rfl ?_ ?_; rotate_left 1; (focus (intro w hSw; (try dsimp only at hSw); go_simp; try (with_reducible rfl))))
    try simp only [Act.put, xA1, xA2, xA3, xA4, xA5, xA6]
    (refine tkH (i := 21) (v := ?_) rfl ?_ ?_; rotate_left 1; (focus (intro w hSw; (try dsimp only at hSw); go_simp; try (with_reducible rfl))))
    try simp only [Act.put, xA1, xA2, xA3, xA4, xA5, xA6]
    (refine tkH (i := 22) (v := ?_) rfl ?_ ?_; rotate_left 1; (focus (intro w hSw; (try dsimp only at hSw); go_simp; try (with_reducible rfl))))
    try simp only [Act.put, xA1, xA2, xA3, xA4, xA5, xA6]
    (refine tkH (i := 23) (v := ?_) rfl ?_ ?_; rotate_left 1; (focus (intro w hSw; (try dsimp only at hSw); go_simp; try (with_reducible rfl))))
    try simp only [Act.put, xA1, xA2, xA3, xA4, xA5, xA6]
    (refine tkH (i := 24) (v := ?_) rfl ?_ ?_; rotate_left 1; (focus (intro w hSw; (try dsimp only at hSw); go_simp; try (with_reducible rfl))))
    try simp only [Act.put, xA1, xA2, xA3, xA4, xA5, xA6]
    (refine tkH (i := 25) (v := ?_) rfl ?_ ?_; rotate_left 1; (focus (intro w hSw; (try dsimp only at hSw); go_simp; try (with_reducible rfl))))
    try simp only [Act.put, xA1, xA2, xA3, xA4, xA5, xA6]
    (refine tkH (i := 26) (v := ?_) rfl ?_ ?_; rotate_left 1; (focus (intro w hSw; (try dsimp only at hSw); go_simp; try (with_reducible rfl))))
    try simp only [Act.put, xA1, xA2, xA3, xA4, xA5, xA6]
    (refine tkH (i := 27) (v := ?_) rfl ?_ ?_; rotate_left 1; (focus (intro w hSw; (try dsimp only at hSw); go_simp; try (with_reducible rfl))))
    try simp only [Act.put, xA1, xA2, xA3, xA4, xA5, xA6]
    (refine tkH (i := 28) (v := ?_) rfl ?_ ?_; rotate_left 1; (focus (intro w hSw; (try dsimp only at hSw); go_simp; try (with_reducible rfl))))
    try simp only [Act.put, xA1, xA2, xA3, xA4, xA5, xA6]
    (refine tkH (i := 29) (v := ?_) rfl ?_ ?_; rotate_left 1; (focus (intro w hSw; (try dsimp only at hSw); go_simp; try (with_reducible rfl))))
    try simp only [Act.put, xA1, xA2, xA3, xA4, xA5, xA6]
    (refine tkH (i := 30) (v := ?_) rfl ?_ ?_; rotate_left 1; (focus (intro w hSw; (try dsimp only at hSw); go_simp; try (with_reducible rfl))))
    try simp only [Act.put, xA1, xA2, xA3, xA4, xA5, xA6]
    (refine tkH (i := 31) (v := ?_) rfl ?_ ?_; rotate_left 1; (focus (intro w hSw; (try dsimp only at hSw); go_simp; try (with_reducible rfl))))
    try simp only [Act.put, xA1, xA2, xA3, xA4, xA5, xA6]
    (refine tkH (i := 32) (v := ?_) rfl ?_ ?_; rotate_left 1; (focus (intro w hSw; (try dsimp only at hSw); go_simp; try (with_reducible rfl))))
    try simp only [Act.put, xA1, xA2, xA3, xA4, xA5, xA6]
    (refine tkH (i := 33) (v := ?_) rfl ?_ ?_; rotate_left 1; (focus (intro w hSw; (try dsimp only at hSw); go_simp; try (with_reducible rfl))))
    try simp only [Act.put, xA1, xA2, xA3, xA4, xA5, xA6]
    (refine tkH (i := 34) (v := ?_) rfl ?_ ?_; rotate_left 1; (focus (intro w hSw; (try dsimp only at hSw); go_simp; try (with_reducible rfl))))
    try simp only [Act.put, xA1, xA2, xA3, xA4, xA5, xA6]
    (refine tkH (i := 35) (v := ?_) rfl ?_ ?_; rotate_left 1; (focus (intro w hSw; (try dsimp only at hSw); go_simp; try (with_reducible rfl))))
    try simp only [Act.put, xA1, xA2, xA3, xA4, xA5, xA6]
    (refine tkH (i := 36) (v := ?_) rfl ?_ ?_; rotate_left 1; (focus (intro w hSw; (try dsimp only at hSw); go_simp; try (with_reducible rfl))))
    try simp only [Act.put, xA1, xA2, xA3, xA4, xA5, xA6]
    refine wpAnyH_done (by kernel_rfl) ?_ _
    have hzz := hHeld.2.2.2.2
    go_wp2_with fail
    go_ret
    exact ⟨rfl, hx7.trans hzz⟩
end Go.Proofs.Ytiofdfjcaklmcaa
namespace Go.Proofs.Ytiofdfjcaklmcaa.fairChecks
open Go.ChangeShapes Go.WideShapes Go.ChangeAt Go.RowKit Go.Deep Go.Joins

noncomputable def wArgs : Array Value := #[.agg #[.slice none 0 0, .slice none 0 0], .slice none 0 0, .slice none 0 0]
noncomputable def laidWorld (os : Os) : World := World.holding Try.prog os ⟨#[], #[], []⟩

set_option maxRecDepth 100000 in
theorem contract (H : Type) (enc : TypeId × Value → H) (W : World) (base : Nat) (args : Array Value) (ds gs : List (DataW H)) (before : List MemPlace)
    (hval : ∀ (j : Nat) t v, Try.f10.params[j]? = some t → args[j]? = some v → Value.okWide Try.prog W .any base t v)
    (hW : DataW.Whole enc Try.prog Try.f10.params.toList Rows.fairChecksSpec.vars false W args.toList ds gs before) :
    Calls Try.prog 10 args W fun e W' => ∃ v, e = .returned v ∧ Rows.fairChecksSpec.post enc Try.prog Try.f10 false true false false W args v W' := by
  have hW' := hW
  obtain ⟨p, q, hA, hV, rfl, hfz, hnd⟩ := hW
  rw [show Try.f10.params = #[25, 46, 46] from rfl] at hA hval
  obtain ⟨v0, vs0, d0, ds0, p0, q0, hargs, rfl, rfl, h0, r0⟩ := trodAll_cons hA
  obtain ⟨v1, vs1, d1, ds1, p1, q1, rfl, rfl, rfl, h1, r1⟩ := trodAll_cons r0
  obtain ⟨v2, vs2, d2, ds2, p2, q2, rfl, rfl, rfl, h2, r2⟩ := trodAll_cons r1
  obtain ⟨rfl, rfl, rfl⟩ := trodAll_nil r2
  obtain rfl : args = #[v0, v1, v2] := by cases args; simp_all
  obtain ⟨rfl, rfl⟩ := trodVars_none hV
  obtain ⟨a0, b0, T0, rfl, hT0, hn0⟩ := open_pool (hval 0 25 v0 rfl rfl) h0
  obtain ⟨L1, hL1⟩ := open_ints' (hval 1 46 v1 rfl rfl) h1
  obtain ⟨L2, hL2⟩ := open_ints' (hval 2 46 v2 rfl rfl) h2
  refine (FairChecks_any _ _ _ _ T0 L1 L2 W hT0 hn0 hL1 hL2).mono fun e W' ⟨he, hg⟩ => ?_
  subst he
  refine ⟨_, rfl, post_true hW' rfl rfl ⟨rfl, rfl, rfl⟩ ?_ hg⟩
  rw [show Try.f10.params = #[25, 46, 46] from rfl]
  intro t ht
  simp only [List.mem_cons, List.not_mem_nil, or_false] at ht
  rcases ht with rfl | rfl | rfl <;> exact ⟨by kernel_rfl, of_decide_eq_true (by kernel_rfl)⟩

set_option maxRecDepth 100000 in
theorem laid_met (os : Os) : laidMet Try.prog Rows.fairChecksRow.laid ((laidWorld os).forCall (fun _ _ => 0) ⟨#[], wArgs, []⟩).memory :=
  laidMet_of_run' 8 (by kernel_rfl) (by kernel_rfl)
set_option maxRecDepth 100000 in
theorem reads (os : Os) {H : Type} (enc : TypeId × Value → H) : ∃ x places, DataW.whole enc Try.prog ((laidWorld os).forCall (fun _ _ => 0) ⟨#[], wArgs, []⟩).memory Try.f10.params.toList Rows.fairChecksSpec.vars false wArgs.toList 8 = some (x, [], places) :=
  ⟨[.agg [.nil, .nil], .nil, .nil], [], by kernel_rfl⟩

set_option maxRecDepth 100000 in
theorem lifted (os : Os) (started : os.Started) (H : Type) (enc : TypeId × Value → H) (F : Stop.Interp) :
    ReturnsInHanded {} Try.checked os 10 .any ((OpenSpec.ofChange Rows.fairChecksSpec).preRow enc Try.prog Try.f10 Rows.fairChecksRow.domain false Rows.fairChecksRow.laid) (((OpenSpec.ofChange Rows.fairChecksSpec).at F).post enc Try.prog Try.f10 false true false false) := by
  obtain ⟨x, places, hx⟩ := reads os enc
  refine returnsInHanded_of_row (C := Try.checked) (s := OpenSpec.ofChange Rows.fairChecksSpec) own started (by kernel_rfl) Try.func10
    (witness_row_at (enc := enc) (C := Try.checked) false (laidWorld os) wArgs rfl (by kernel_rfl) (by kernel_rfl) (by kernel_rfl)
      (OpenSpec.preRow_of_cond 8 hx (by kernel_rfl) (fun k hk => by cases hk) (by kernel_rfl) (laid_met os))) ?_
  intro W base args ds gs before hval hW _ _ _ hL _ _
  exact contract H enc W base args ds gs before hval hW

set_option maxRecDepth 100000 in
theorem said : Rows.FairChecksSaid :=
  OpenClaim.holds_of_cond 10 Try.f10 rfl rfl rfl rfl rfl rfl rfl ⟨rfl, rfl, rfl, rfl, rfl⟩ rfl rfl rfl rfl rfl (by kernel_rfl) Try.func10 (by kernel_rfl)
    (of_decide_eq_true (by kernel_rfl)) (by unfold Func.isWrapper; first | (rw [if_pos (by decide +kernel)]; kernel_rfl) | (rw [if_neg (by decide +kernel)]; exact ⟨rfl, rfl⟩))
    (fun os started H enc _ F => by rw [OpenClaim.pre_eq_preRow]; exact lifted os started H enc F)
end Go.Proofs.Ytiofdfjcaklmcaa.fairChecks

