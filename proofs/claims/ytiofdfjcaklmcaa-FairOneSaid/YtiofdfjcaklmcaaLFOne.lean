/- FairOne: true whatever the pool and the sharing. -/
import Derived.Test.YtiofdfjcaklmcaaFPq
import Derived.Test.YtiofdfjcaklmcaaFRis
namespace Go.Proofs.Ytiofdfjcaklmcaa
open Go.RowKit Go.Shelf

theorem few_small {P : Po} (h : fewB P = true) (hok : OkP P) : P.ts.length ≤ 6 ∧ P.ss.length ≤ 10 := by
  unfold fewB at h
  have h1 := hok.lt
  have h2 := hok.ls
  simp only [Bool.and_eq_true, Bool.or_eq_true, decide_eq_true_eq] at h
  omega
theorem one_step {P : Po} {g : List Int} (hok : OkP P) (hS : ShrV P g) (h : chnL P g ≠ []) : cgE P g = 0 ∧ chaX P g = chnL P g ∧ decide (0 < (chnL P g).length) = true ∧ ccE P g (shW P (chnL P g)) = 0 ∧ aplX P g (shW P (chnL P g)) = appW g (chnL P g) ∧
    cmpE P (appW g (chnL P g)) g = 0 ∧ cmpX P (appW g (chnL P g)) g = 1 := by
  have hg := cg_V hok hS
  obtain ⟨h1, h2⟩ := chn_acc hok hS h
  have h3 := chn_ok hok.pv hS h
  have h4 := cmp_V hok h3.1 hS
  have h5 := chn_better hok.pv hS h
  refine ⟨hg, by unfold chaX; rw [if_pos hg], decide_eq_true (List.length_pos_iff.2 h), h1, h2, h4.1, ?_⟩
  rw [h4.2]
  rcases cmpL_val (ladL P (appW g (chnL P g))) (ladL P g) with q | q | q <;> omega
theorem one_end {P : Po} {g : List Int} (hok : OkP P) (hS : ShrV P g) (h : NoChn P g) : cgE P g = 0 ∧ cntsX P g = cntT P g ∧ srtI (cntT P g) = ladX P := by
  have hg := cg_V hok hS
  refine ⟨hg, by unfold cntsX; rw [if_pos hg], ?_⟩
  show ladL P g = ladX P
  unfold ladX
  rw [if_pos (chk_ok.2 hok)]
  exact fai_lad hok.pv hS h
set_option maxRecDepth 100000 in
set_option maxHeartbeats 16000000 in
theorem FairOne_any (pa pb va : Value) (P : Po) (g0 : List Int) (w : World) (hT : PoAt w pa pb P) (hn : P.ss.length ≤ 9223372036854775807) (hA : IntsAt w va g0) :
    Calls Try.prog 15 #[.agg #[pa, pb], va] w fun e w' => e = .returned (.bool true) ∧ Ext w w' := by
  obtain ⟨av, ac, rfl, _⟩ := hA.len
  have KF := fun W (h : Ext w W) => few_any pa pb P W (hT.ext h) hn
  have KX := fun (h : fewB P = true) W (x : Ext w W) => Fairest_any pa pb P W (hT.ext x) (few_us h)
  have KL := fun (h : fewB P = true) W (x : Ext w W) => Ladder_any pa pb P W (hT.ext x) (few_us h)
  have KG := fun (h : fewB P = true) W (x : Ext w W) => CheckGiven_any pa pb _ P g0 W (hT.ext x) (hA.ext x) (few_us h)
  have KM := fun (h : fewB P = true) u v g m W (x : Ext w W) (hu : IntsAt W u g) (hv : IntsAt W v m) => Compare_any pa pb u v P g m W (hT.ext x) hu hv (few_us h)
  have KA := fun (h : fewB P = true) u v g m W (x : Ext w W) (hu : IntsAt W u g) (hv : SfsAt W v m) => Apply_any pa pb u v P g m W (hT.ext x) hu hv (few_us h)
  have KH := fun (h : fewB P = true) u g W (x : Ext w W) (hu : IntsAt W u g) => Chain_any pa pb u P g W (hT.ext x) hu (few_us h)
  have KN := fun (h : fewB P = true) u g W (x : Ext w W) (hu : IntsAt W u g) => Counts_any pa pb u P g W (hT.ext x) hu (few_us h)
  have f1 := fun h => @few_small P h
  have f2 := @cg_ok P g0
  have f3 : chkE P = 0 ↔ OkP P := chk_ok
  have f4 : chkE P = 0 → faxG P = faiG P := fun h => (fax_is h).1
  have f5 : chkE P = 0 → ShrV P (faxG P) ∧ NoChn P (faxG P) := fax_V
  obtain ⟨C, hC_⟩ : ∃ x, chkE P = x := ⟨_, rfl⟩
  obtain ⟨F, hF_⟩ : ∃ x, fewB P = x := ⟨_, rfl⟩
  obtain ⟨G, hG_⟩ : ∃ x, faxG P = x := ⟨_, rfl⟩
  obtain ⟨GL, hGL_⟩ : ∃ x, faxL P = x := ⟨_, rfl⟩
  obtain ⟨A, hA_⟩ : ∃ x, cgE P g0 = x := ⟨_, rfl⟩
  obtain ⟨LX, hLX_⟩ : ∃ x, ladX P = x := ⟨_, rfl⟩
  obtain ⟨na, hna_⟩ : ∃ x, g0.length = x := ⟨_, rfl⟩
  rw [hF_] at KF KX KL KG KM KA KH KN f1
  simp only [hC_] at KX KL
  rw [hC_] at f3 f4 f5
  simp only [hG_, hGL_] at KX
  rw [hG_] at f5
  simp only [hLX_] at KL
  simp only [hA_] at f2 KG
  have f6 : ∀ g, OkP P → ShrV P g → NoChn P g → cgE P g = 0 ∧ cntsX P g = cntT P g ∧ srtI (cntT P g) = LX := fun g a b c => hLX_ ▸ one_end a b c
  rw [hna_] at KG ⊢
  have hAa : IntsAt w (.slice av na ac) g0 := hna_ ▸ hA
  have hna2 := hna_
  have HKF := Lib.hid KF
  have HKX := Lib.hid KX
  have HKL := Lib.hid KL
  have HKG := Lib.hid KG
  have HKM := Lib.hid KM
  have HKA := Lib.hid KA
  have HKH := Lib.hid KH
  have HKN := Lib.hid KN
  have Hf1 := Lib.hid f1
  have Hf2 := Lib.hid f2
  have Hf3 := Lib.hid f3
  have Hf5 := Lib.hid f5
  have Hf6 := Lib.hid f6
  have HhAa := Lib.hid hAa
  have Hhna2 := Lib.hid hna2
  clear KF KX KL KG KM KA KH KN f1 f2 f3 f4 f5 f6 hC_ hF_ hG_ hGL_ hA_ hLX_ hna_ hna2 hT hn hA hAa
  go_enter Try.func15, Try.ntmps15
  go_wp2_with fail
  refine (head_any _).mono ?_
  rintro e w1 ⟨rfl, hx⟩
  obtain ⟨q0, hx1, hk0⟩ := alloc1 hx
  have d0 : w1.cell? ⟨w.heap.size, 0, none⟩ = some pa := q0.cell 0
  have d1 : w1.cell? ⟨w.heap.size, 1, none⟩ = some pb := q0.cell 1
  clear hx q0 hk0
  go_wp2_with fail
  refine (HKF.out _ hx1).mono ?_
  rintro e w2 ⟨rfl, hz⟩
  have hx2 := hx1.trans hz
  replace d0 := hz.cell d0
  replace d1 := hz.cell d1
  clear hz hx1
  cases F with
  | false =>
    go_wp2_with fail
    go_ret
    exact ⟨rfl, hx2⟩
  | true =>
    have GKX := Lib.hid (HKX.out rfl)
    have GKL := Lib.hid (HKL.out rfl)
    have GKG := Lib.hid (HKG.out rfl)
    have GKM := Lib.hid (HKM.out rfl)
    have GKA := Lib.hid (HKA.out rfl)
    have GKH := Lib.hid (HKH.out rfl)
    have GKN := Lib.hid (HKN.out rfl)
    have Gf1 := Lib.hid (Hf1.out rfl)
    clear HKX HKL HKG HKM HKA HKH HKN Hf1
    by_cases gna : na ≤ 60
    rotate_left 1
    · have bna : decide ((na : Int) > 60) = true := decide_eq_true (by omega)
      clear gna
      go_wp2_with fail
      go_ret
      exact ⟨rfl, hx2⟩
    have bna : decide ((na : Int) > 60) = false := decide_eq_false (by omega)
    go_wp2_with fail
    refine (GKG.out _ hx2).mono ?_
    rintro e w3 ⟨rfl, hz⟩
    have hx3 := hx2.trans hz
    replace d0 := hz.cell d0
    replace d1 := hz.cell d1
    clear hz hx2
    by_cases h0 : A = 0
    rotate_left 1
    · have hc : (A != 0) = true := by simpa using h0
      clear h0
      go_wp2_with fail
      go_ret
      exact ⟨rfl, hx3⟩
    obtain ⟨hok, hSg⟩ := Hf2.out.1 h0
    have hA0 : (A != 0) = false := by rw [h0]; rfl
    obtain rfl : C = 0 := Hf3.out.2 hok
    have HOK := Lib.hid hok
    have HSG := Lib.hid hSg
    have HSM := Lib.hid (Gf1.out hok)
    have HGV := Lib.hid (Hf5.out rfl)
    clear hok hSg h0 Hf2 Hf3 Hf5 Gf1
    go_wp2_with fail
    refine (GKL.out _ hx3).mono ?_
    rintro e w4 ⟨u, rfl, hl, hz⟩
    have hx4 := hx3.trans hz
    replace d0 := hz.cell d0
    replace d1 := hz.cell d1
    clear hz hx3
    obtain ⟨la, lc, rfl, _⟩ := hl.len
    clear hA0 bna
    go_wp2_with fail
    refine (GKX.out _ hx4).mono ?_
    rintro e w5 ⟨u, v, rfl, hu, hv, hz⟩
    have hx5 := hx4.trans hz
    replace d0 := hz.cell d0
    replace d1 := hz.cell d1
    replace hl := hl.ext hz
    clear hz hx4
    obtain ⟨ua, uc, rfl, _⟩ := hu.len
    obtain ⟨va, vc, rfl, _⟩ := hv.len
    obtain ⟨gl, hgl⟩ : ∃ n, G.length = n := ⟨_, rfl⟩
    obtain ⟨ll, hll⟩ : ∃ n, GL.length = n := ⟨_, rfl⟩
    obtain ⟨xl, hxl⟩ : ∃ n, LX.length = n := ⟨_, rfl⟩
    rw [hgl] at hu ⊢
    rw [hll] at hv ⊢
    rw [hxl] at hl ⊢
    clear hgl hll hxl hv
    obtain ⟨WB, hWB⟩ : ∃ W, w5.alloc (.cells #[.slice ua gl uc, .slice va ll vc] 71) = W := ⟨_, rfl⟩
    obtain ⟨FB, hFB⟩ : ∃ B, w5.heap.size = B := ⟨_, rfl⟩
    have hxB : Ext w5 WB := by rw [← hWB]; exact (by repeat (first | exact Ext.refl _ | assumption | refine Ext.alloc ?_ _ | refine Ext.drew ?_ | refine Ext.drewN _ ?_ | refine Ext.trans ?_ (by assumption)))
    have qf : Cls FB 71 #[.slice ua gl uc, .slice va ll vc] WB := by rw [← hWB]; exact Cls.newAt _ _ _ hFB.symm
    replace d0 := hxB.cell d0
    replace d1 := hxB.cell d1
    replace hu := hu.ext hxB
    replace hl := hl.ext hxB
    have e0 : WB.cell? ⟨FB, 0, none⟩ = some (.slice ua gl uc) := qf.cell 0
    have hxW := hx5.trans hxB
    have hga := HhAa.out.ext hxW
    have hn10 : na = P.ss.length := by have := HSG.out.len; have := Hhna2.out; omega
    have HN10 := Lib.hid hn10
    clear hxB qf HhAa Hhna2 hn10 hx5
    obtain ⟨BB, hBB⟩ : ∃ B, WB.heap.size = B := ⟨_, rfl⟩
    have hg1 : g0.length ≤ 2000000 := by have := HSG.out.len; have := HSM.out; omega
    go_wp2_with (at_builtin; refine append_ints rfl _ _ rfl WB.heap.size _ _ [] g0 rfl (by rw [← hBB]; exact rowI_lit0 WB (Nat.le_refl _)) rfl (hga.ext (by repeat (first | exact Ext.refl _ | assumption | refine Ext.alloc ?_ _ | refine Ext.drew ?_ | refine Ext.drewN _ ?_ | refine Ext.trans ?_ (by assumption)))) (by simp) (by simpa using hg1) ?_; intro v1 w9 hr9 hg9 _)
    rw [List.nil_append] at hr9
    have hz9 : Ext WB w9 := ext_own (by repeat (first | exact Ext.refl _ | assumption | refine Ext.alloc ?_ _ | refine Ext.drew ?_ | refine Ext.drewN _ ?_ | refine Ext.trans ?_ (by assumption))) (by rw [← hBB]; exact rowI_lit0 WB (Nat.le_refl _)) (Nat.le_refl _) hg9
    obtain ⟨rA, rc, rfl⟩ := hr9.form
    have hr9 := hr9.at_
    have hx9 := hxW.trans hz9
    have hg0l := HSG.out.len
    rw [hg0l] at hr9 ⊢
    obtain ⟨m, hm⟩ : ∃ m, P.ss.length = m := ⟨_, rfl⟩
    rw [hm] at hr9 ⊢
    have HM := Lib.hid hm
    have hp0 := potS_bd (P := P) (g := g0) (by have := HSM.out; omega) HSM.out.1
    have HP0 := Lib.hid hp0
    replace d0 := hz9.cell d0
    replace d1 := hz9.cell d1
    replace e0 := hz9.cell e0
    replace hu := hu.ext hz9
    replace hl := hl.ext hz9
    clear hz9 hxW hg9 hga hg1 hBB hm hg0l hp0
    go_wp2_with fail
    have HR9 := Lib.hid hr9
    clear hr9
    go_loopw [10, 11] (fun nv i wr => ∃ (n : Nat) (g : List Int) (A : Option Addr) (c : Nat), nv = .slice A m c ∧ i = .int .i64 n ∧ Hid (ShrV P g ∧ (n : Int) + potS P g ≤ 810) ∧ Hid (IntsAt wr (.slice A m c) g) ∧ Ext w9 wr) (fun _ i _ => 1000 - (intOf i).toNat)
    case atStart => exact ⟨0, g0, rA, rc, rfl, rfl, Lib.hid ⟨HSG.out, by have := HP0.out; omega⟩, HR9, Ext.refl _⟩
    case round =>
      clear HR9
      obtain ⟨n, g, A, c, rfl, rfl, HS, HG, hxr⟩ := hrel
      have hg := HG.out
      replace d0 := hxr.cell d0
      replace d1 := hxr.cell d1
      replace e0 := hxr.cell e0
      replace hu := hu.ext hxr
      replace hl := hl.ext hxr
      replace hx9 := hx9.trans hxr
      clear HG
      have hgl : g.length ≤ 10 := by have := HS.out.1.len; have := HSM.out; omega
      have hpn := potS_bd hgl HSM.out.1
      have hni : decide ((n : Int) < 1000) = true := decide_eq_true (by have := HS.out.2; omega)
      have hn8 : n ≤ 810 := by have := HS.out.2; omega
      have HGL := Lib.hid hgl
      clear hpn hgl
      by_cases hch : chnL P g = []
      · have hno := chn_no HOK.out.pv HS.out.1.len hch
        obtain ⟨k1, k2, k3⟩ := Hf6.out g HOK.out HS.out.1 hno
        obtain ⟨k4, k5, k6⟩ := Hf6.out G HOK.out HGV.out.1 HGV.out.2
        have kc : chaX P g = [] := by unfold chaX; rw [if_pos k1, hch]
        have KH1 := Lib.hid (GKH.out (.slice A m c) g)
        have KN1 := Lib.hid (GKN.out (.slice A m c) g)
        have KN2 := Lib.hid (GKN.out (.slice ua gl uc) G)
        unfold ChaPost at KH1
        simp only [kc, k1, List.length_nil, Nat.lt_irrefl, decide_false] at KH1
        simp only [k1, k2] at KN1
        simp only [k4, k5] at KN2
        have hc1 := cntT_len P g
        have hc2 := cntT_len P G
        have KR1 := fun v W h => rising_any v (cntT P g) W h (by rw [hc1]; have := HSM.out; omega)
        have KR2 := fun v W h => rising_any v (cntT P G) W h (by rw [hc2]; have := HSM.out; omega)
        rw [k3] at KR1
        rw [k6] at KR2
        obtain ⟨cg, hcg_⟩ : ∃ x, cntT P g = x := ⟨_, rfl⟩
        obtain ⟨cG, hcG_⟩ : ∃ x, cntT P G = x := ⟨_, rfl⟩
        rw [hcg_] at KN1 hc1 KR1
        rw [hcG_] at KN2 hc2 KR2
        have HC1 := Lib.hid hc1
        have HC2 := Lib.hid hc2
        have HR1 := Lib.hid KR1
        have HR2 := Lib.hid KR2
        have hLl : LX.length ≤ 1000000 := by rw [← k3, hcg_]; unfold srtI; rw [List.length_mergeSort, hc1]; have := HSM.out; omega
        have HLL := Lib.hid hLl
        clear hch hno k1 k2 k3 k4 k5 k6 kc hcg_ hcG_ hc1 hc2 KR1 KR2 hLl GKH GKM GKA
        go_wp2_with fail
        refine (KH1.out _ hx9 hg).mono ?_
        rintro e w21 ⟨x, rfl, hc, hz⟩
        have hx21 := hx9.trans hz
        replace d0 := hz.cell d0
        replace d1 := hz.cell d1
        replace e0 := hz.cell e0
        replace hu := hu.ext hz
        replace hl := hl.ext hz
        replace hg := hg.ext hz
        replace hxr := hxr.trans hz
        clear hz hx9
        obtain ⟨xa, xc, rfl, _⟩ := hc.len
        clear hc
        go_wp2_with fail
        refine (KN1.out _ hx21 hg).mono ?_
        rintro e w22 ⟨x, rfl, hc1, hz⟩
        have hx22 := hx21.trans hz
        replace d0 := hz.cell d0
        replace d1 := hz.cell d1
        replace e0 := hz.cell e0
        replace hu := hu.ext hz
        replace hl := hl.ext hz
        replace hg := hg.ext hz
        replace hxr := hxr.trans hz
        clear hz hx21
        obtain ⟨ya, yc, rfl, _⟩ := hc1.len
        go_wp2_with fail
        refine (KN2.out _ hx22 hu).mono ?_
        rintro e w23 ⟨x, rfl, hc2, hz⟩
        have hx23 := hx22.trans hz
        replace d0 := hz.cell d0
        replace d1 := hz.cell d1
        replace e0 := hz.cell e0
        replace hu := hu.ext hz
        replace hl := hl.ext hz
        replace hg := hg.ext hz
        replace hc1 := hc1.ext hz
        replace hxr := hxr.trans hz
        clear hz hx22
        obtain ⟨za, zc, rfl, _⟩ := hc2.len
        obtain ⟨nc1, hnc1⟩ : ∃ n, cg.length = n := ⟨_, rfl⟩
        obtain ⟨nc2, hnc2⟩ : ∃ n, cG.length = n := ⟨_, rfl⟩
        rw [hnc1] at hc1 ⊢
        rw [hnc2] at hc2 ⊢
        clear hnc1 hnc2
        go_wp2_with fail
        refine (HR1.out _ _ hc1).mono ?_
        rintro e w40 ⟨u40, rfl, hu40, hz⟩
        have hx40 := hx23.trans hz
        replace d0 := hz.cell d0
        replace d1 := hz.cell d1
        replace e0 := hz.cell e0
        replace hu := hu.ext hz
        replace hl := hl.ext hz
        replace hg := hg.ext hz
        replace hc1 := hc1.ext hz
        replace hc2 := hc2.ext hz
        replace hxr := hxr.trans hz
        clear hz hx23
        obtain ⟨pa1, pc1, rfl, _⟩ := hu40.len
        go_wp2_with fail
        refine (refSame_any _ _ _ _ _ hu40 hl HLL.out).mono ?_
        rintro e w41 ⟨rfl, hz⟩
        have hx41 := hx40.trans hz
        replace d0 := hz.cell d0
        replace d1 := hz.cell d1
        replace e0 := hz.cell e0
        replace hu := hu.ext hz
        replace hl := hl.ext hz
        replace hg := hg.ext hz
        replace hc1 := hc1.ext hz
        replace hc2 := hc2.ext hz
        replace hxr := hxr.trans hz
        clear hz hx40 hu40
        have hdd : decide (LX = LX) = true := decide_eq_true rfl
        go_wp2_with fail
        refine (HR2.out _ _ hc2).mono ?_
        rintro e w42 ⟨u42, rfl, hu42, hz⟩
        have hx42 := hx41.trans hz
        replace d0 := hz.cell d0
        replace d1 := hz.cell d1
        replace e0 := hz.cell e0
        replace hu := hu.ext hz
        replace hl := hl.ext hz
        replace hg := hg.ext hz
        replace hc1 := hc1.ext hz
        replace hc2 := hc2.ext hz
        replace hxr := hxr.trans hz
        clear hz hx41
        obtain ⟨pa2, pc2, rfl, _⟩ := hu42.len
        go_wp2_with fail
        refine (refSame_any _ _ _ _ _ hu42 hl HLL.out).mono ?_
        rintro e w43 ⟨rfl, hz⟩
        have hx43 := hx42.trans hz
        go_wp2_with fail
        go_ret
        exact ⟨rfl, hx43⟩
      · obtain ⟨k1, k2, k3, k4, k5, k6, k7⟩ := one_step HOK.out HS.out.1 hch
        have hfa := chn_fall HOK.out.pv HS.out.1 HGL.out hch
        have hal : (appW g (chnL P g)).length = m := by rw [appW_len, HS.out.1.len]; exact HM.out
        have KH1 := Lib.hid (GKH.out (.slice A m c) g)
        have KA1 := Lib.hid (fun u => GKA.out (.slice A m c) u g (shW P (chnL P g)))
        have KM1 := Lib.hid (fun u => GKM.out u (.slice A m c) (appW g (chnL P g)) g)
        unfold ChaPost at KH1
        rw [k2, k1, k3] at KH1
        simp only [k4, k5] at KA1
        simp only [k6, k7] at KM1
        clear k1 k2 k3 k4 k5 k6 k7
        obtain ⟨ng, hng_⟩ : ∃ x, appW g (chnL P g) = x := ⟨_, rfl⟩
        obtain ⟨sl, hsl_⟩ : ∃ x, shW P (chnL P g) = x := ⟨_, rfl⟩
        rw [hng_] at KA1 KM1 hfa hal
        rw [hsl_] at KA1 KH1
        have HFA := Lib.hid hfa
        have HAL := Lib.hid hal
        clear hng_ hsl_ hfa hal hch GKH GKM GKA GKN hu hl e0
        go_wp2_with fail
        refine (KH1.out _ hx9 hg).mono ?_
        rintro e w21 ⟨x, rfl, hc, hz⟩
        have hx21 := hx9.trans hz
        replace d0 := hz.cell d0
        replace d1 := hz.cell d1
        replace hg := hg.ext hz
        replace hxr := hxr.trans hz
        clear hz hx9
        obtain ⟨xa, xc, rfl, _⟩ := hc.len
        obtain ⟨ns, hns⟩ : ∃ n, sl.length = n := ⟨_, rfl⟩
        rw [hns] at hc ⊢
        clear hns
        go_wp2_with fail
        refine (KA1.out _ _ hx21 hg hc).mono ?_
        rintro e w22 ⟨y, rfl, hy, hz⟩
        have hx22 := hx21.trans hz
        replace d0 := hz.cell d0
        replace d1 := hz.cell d1
        replace hg := hg.ext hz
        replace hc := hc.ext hz
        replace hxr := hxr.trans hz
        clear hz hx21
        obtain ⟨ya, yc, rfl, _⟩ := hy.len
        clear hc
        rw [HAL.out] at hy ⊢
        go_wp2_with fail
        refine (KM1.out _ _ hx22 hy hg).mono ?_
        rintro e w23 ⟨rfl, hz⟩
        have hx23 := hx22.trans hz
        replace d0 := hz.cell d0
        replace d1 := hz.cell d1
        replace hg := hg.ext hz
        replace hy := hy.ext hz
        replace hxr := hxr.trans hz
        clear hz hx22
        go_wp2_with fail
        go_roundw
        case rel => exact ⟨n + 1, ng, ya, yc, rfl, by go_num, Lib.hid ⟨HFA.out.1, by have := HFA.out.2; have := HS.out.2; omega⟩, Lib.hid hy, hxr⟩
        case measure => have h8 := HS.out.2; have h9 := (potS_bd HGL.out HSM.out.1).1; simp [intOf]; omega
end Go.Proofs.Ytiofdfjcaklmcaa
namespace Go.Proofs.Ytiofdfjcaklmcaa.fairOne
open Go.ChangeShapes Go.WideShapes Go.ChangeAt Go.RowKit Go.Deep Go.Joins

noncomputable def wArgs : Array Value := #[.agg #[.slice none 0 0, .slice none 0 0], .slice none 0 0]
noncomputable def laidWorld (os : Os) : World := World.holding Try.prog os ⟨#[], #[], []⟩

set_option maxRecDepth 100000 in
theorem contract (H : Type) (enc : TypeId × Value → H) (W : World) (base : Nat) (args : Array Value) (ds gs : List (DataW H)) (before : List MemPlace)
    (hval : ∀ (j : Nat) t v, Try.f15.params[j]? = some t → args[j]? = some v → Value.okWide Try.prog W .any base t v)
    (hW : DataW.Whole enc Try.prog Try.f15.params.toList Rows.fairOneSpec.vars false W args.toList ds gs before) :
    Calls Try.prog 15 args W fun e W' => ∃ v, e = .returned v ∧ Rows.fairOneSpec.post enc Try.prog Try.f15 false true false false W args v W' := by
  have hW' := hW
  obtain ⟨p, q, hA, hV, rfl, hfz, hnd⟩ := hW
  rw [show Try.f15.params = #[25, 46] from rfl] at hA hval
  obtain ⟨v0, vs0, d0, ds0, p0, q0, hargs, rfl, rfl, h0, r0⟩ := trodAll_cons hA
  obtain ⟨v1, vs1, d1, ds1, p1, q1, rfl, rfl, rfl, h1, r1⟩ := trodAll_cons r0
  obtain ⟨rfl, rfl, rfl⟩ := trodAll_nil r1
  obtain rfl : args = #[v0, v1] := by cases args; simp_all
  obtain ⟨rfl, rfl⟩ := trodVars_none hV
  obtain ⟨a0, b0, T0, rfl, hT0, hn0⟩ := open_pool (hval 0 25 v0 rfl rfl) h0
  obtain ⟨L1, hL1⟩ := open_ints' (hval 1 46 v1 rfl rfl) h1
  refine (FairOne_any _ _ _ T0 L1 W hT0 hn0 hL1).mono fun e W' ⟨he, hg⟩ => ?_
  subst he
  refine ⟨_, rfl, post_true hW' rfl rfl ⟨rfl, rfl, rfl⟩ ?_ hg⟩
  rw [show Try.f15.params = #[25, 46] from rfl]
  intro t ht
  simp only [List.mem_cons, List.not_mem_nil, or_false] at ht
  rcases ht with rfl | rfl <;> exact ⟨by kernel_rfl, of_decide_eq_true (by kernel_rfl)⟩

set_option maxRecDepth 100000 in
theorem laid_met (os : Os) : laidMet Try.prog Rows.fairOneRow.laid ((laidWorld os).forCall (fun _ _ => 0) ⟨#[], wArgs, []⟩).memory :=
  laidMet_of_run' 8 (by kernel_rfl) (by kernel_rfl)
set_option maxRecDepth 100000 in
theorem reads (os : Os) {H : Type} (enc : TypeId × Value → H) : ∃ x places, DataW.whole enc Try.prog ((laidWorld os).forCall (fun _ _ => 0) ⟨#[], wArgs, []⟩).memory Try.f15.params.toList Rows.fairOneSpec.vars false wArgs.toList 8 = some (x, [], places) :=
  ⟨[.agg [.nil, .nil], .nil], [], by kernel_rfl⟩

set_option maxRecDepth 100000 in
theorem lifted (os : Os) (started : os.Started) (H : Type) (enc : TypeId × Value → H) (F : Stop.Interp) :
    ReturnsInHanded {} Try.checked os 15 .any ((OpenSpec.ofChange Rows.fairOneSpec).preRow enc Try.prog Try.f15 Rows.fairOneRow.domain false Rows.fairOneRow.laid) (((OpenSpec.ofChange Rows.fairOneSpec).at F).post enc Try.prog Try.f15 false true false false) := by
  obtain ⟨x, places, hx⟩ := reads os enc
  refine returnsInHanded_of_row (C := Try.checked) (s := OpenSpec.ofChange Rows.fairOneSpec) own started (by kernel_rfl) Try.func15
    (witness_row_at (enc := enc) (C := Try.checked) false (laidWorld os) wArgs rfl (by kernel_rfl) (by kernel_rfl) (by kernel_rfl)
      (OpenSpec.preRow_of_cond 8 hx (by kernel_rfl) (fun k hk => by cases hk) (by kernel_rfl) (laid_met os))) ?_
  intro W base args ds gs before hval hW _ _ _ hL _ _
  exact contract H enc W base args ds gs before hval hW

set_option maxRecDepth 100000 in
theorem said : Rows.FairOneSaid :=
  OpenClaim.holds_of_cond 15 Try.f15 rfl rfl rfl rfl rfl rfl rfl ⟨rfl, rfl, rfl, rfl, rfl⟩ rfl rfl rfl rfl rfl (by kernel_rfl) Try.func15 (by kernel_rfl)
    (of_decide_eq_true (by kernel_rfl)) (by unfold Func.isWrapper; first | (rw [if_pos (by decide +kernel)]; kernel_rfl) | (rw [if_neg (by decide +kernel)]; exact ⟨rfl, rfl⟩))
    (fun os started H enc _ F => by rw [OpenClaim.pre_eq_preRow]; exact lifted os started H enc F)
end Go.Proofs.Ytiofdfjcaklmcaa.fairOne

