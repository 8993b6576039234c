/- FairProofs: true whatever the pool, the sharings, the labels and the shifts. -/
import Derived.Test.YtiofdfjcaklmcaaFLaw
namespace Go.Proofs.Ytiofdfjcaklmcaa
open Go.RowKit Go.Shelf

theorem pr2 {P : Po} {a : List Int} (hc : chkE P = 0) (ha : cgE P a = 0) : cmpE P a (faxG P) = 0 ∧ cmpX P a (faxG P) ≤ 0 := by
  have hok := chk_ok.1 hc
  have h := cmp_V hok (cg_ok.1 ha).2 (fax_V hc).1
  refine ⟨h.1, ?_⟩
  rw [h.2, cmpL_neg]
  have := nochn_best hok.pv (fax_V hc).1 (cg_ok.1 ha).2 (fax_V hc).2
  omega
theorem pr3 {P : Po} {a : List Int} {l : List (Int × Int)} (h : ccE P a l = 0) : cmpE P (aplX P a l) a = 0 ∧ cmpX P (aplX P a l) a = 1 ∧ cmpX P a (faxG P) ≠ 0 := by
  obtain ⟨⟨hok, hS⟩, _, hl⟩ := cc_ok.1 h
  have hc := chk_ok.2 hok
  obtain ⟨hV, hb⟩ := lnk_ok hok hS hl
  have e : aplX P a l = appW a (ixW P l) := by unfold aplX; rw [if_pos h]
  rw [e]
  have h1 := cmp_V hok hV hS
  have h2 := cmp_V hok hS (fax_V hc).1
  refine ⟨h1.1, ?_, ?_⟩
  · rw [h1.2]
    rcases cmpL_val (ladL P (appW a (ixW P l))) (ladL P a) with q | q | q <;> omega
  · rw [h2.2]
    intro q
    have q1 := lad_eq q
    have q2 := nochn_best hok.pv (fax_V hc).1 hV (fax_V hc).2
    rw [← q1] at q2
    rw [cmpL_neg] at hb
    omega
theorem pr4 {P : Po} {a b L : List Int} (h : cfE P a L = 0) : cgE P a = 0 ∧ (chaX P a).length = 0 ∧ cmpX P b a ≤ 0 ∧ cmpX P a (faxG P) = 0 := by
  obtain ⟨hok, hS, hN⟩ := cf_nochn h
  have hc := chk_ok.2 hok
  have hg := cg_V hok hS
  refine ⟨hg, ?_, ?_, ?_⟩
  · unfold chaX; rw [if_pos hg, nochn_chn hok.pv hS hN]; rfl
  · by_cases q : cmpE P b a = 0
    · have hb := (cmp_ok q).2.1
      rw [(cmp_V hok hb hS).2, cmpL_neg]
      have := nochn_best hok.pv hS hb hN
      omega
    · unfold cmpX; rw [if_neg q]; omega
  · rw [(cmp_V hok hS (fax_V hc).1).2, nochn_same hok.pv hS (fax_V hc).1 hN (fax_V hc).2, cmpL_self]
set_option maxRecDepth 100000 in
set_option maxHeartbeats 16000000 in
theorem FairProofs_any (pa pb va vb vL vl : Value) (P : Po) (a b L : List Int) (l : List (Int × Int)) (w : World) (hT : PoAt w pa pb P) (hn : P.ss.length ≤ 9223372036854775807) (hA : IntsAt w va a) (hB : IntsAt w vb b) (hL : IntsAt w vL L) (hl : SfsAt w vl l) :
    Calls Try.prog 14 #[.agg #[pa, pb], va, vb, vL, vl] w fun e w' => e = .returned (.bool true) ∧ Ext w w' := by
  obtain ⟨av, ac, rfl, _⟩ := hA.len
  obtain ⟨bv, bc, rfl, _⟩ := hB.len
  obtain ⟨Lv, Lc, rfl, _⟩ := hL.len
  obtain ⟨lv, lc, rfl, _⟩ := hl.len
  have KF := fun W (h : Ext w W) => few_any pa pb P W (hT.ext h) hn
  have KK := fun (h : fewB P = true) W (x : Ext w W) => Check_any pa pb P W (hT.ext x) (few_us h)
  have KX := fun (h : fewB P = true) W (x : Ext w W) => Fairest_any pa pb P W (hT.ext x) (few_us h)
  have KC := fun (h : fewB P = true) u v g m W (x : Ext w W) (hu : IntsAt W u g) (hv : IntsAt W v m) => CheckFair_any pa pb u v P g m W (hT.ext x) hu hv (few_us h)
  have KG := fun (h : fewB P = true) W (x : Ext w W) => CheckGiven_any pa pb _ P a W (hT.ext x) (hA.ext x) (few_us h)
  have KM := fun (h : fewB P = true) u v g m W (x : Ext w W) (hu : IntsAt W u g) (hv : IntsAt W v m) => Compare_any pa pb u v P g m W (hT.ext x) hu hv (few_us h)
  have KN := fun (h : fewB P = true) W (x : Ext w W) => CheckChain_any pa pb _ _ P a l W (hT.ext x) (hA.ext x) (SeqK.ext hl x) (few_us h)
  have KA := fun (h : fewB P = true) W (x : Ext w W) => Apply_any pa pb _ _ P a l W (hT.ext x) (hA.ext x) (SeqK.ext hl x) (few_us h)
  have KH := fun (h : fewB P = true) W (x : Ext w W) => Chain_any pa pb _ P a W (hT.ext x) (hA.ext x) (few_us h)
  have f1 := @fax_cf P
  have f2 := @pr2 P a
  have f3 := @pr3 P a l
  have f4 := @pr4 P a b L
  obtain ⟨C, hC_⟩ : ∃ x, chkE P = x := ⟨_, rfl⟩
  obtain ⟨F, hF_⟩ : ∃ x, fewB P = x := ⟨_, rfl⟩
  obtain ⟨G, hG_⟩ : ∃ x, faxG P = x := ⟨_, rfl⟩
  obtain ⟨GL, hGL_⟩ : ∃ x, faxL P = x := ⟨_, rfl⟩
  obtain ⟨A, hA_⟩ : ∃ x, cgE P a = x := ⟨_, rfl⟩
  obtain ⟨CC, hCC_⟩ : ∃ x, ccE P a l = x := ⟨_, rfl⟩
  obtain ⟨Z, hZ_⟩ : ∃ x, aplX P a l = x := ⟨_, rfl⟩
  obtain ⟨CH, hCH_⟩ : ∃ x, chaX P a = x := ⟨_, rfl⟩
  obtain ⟨na, hna_⟩ : ∃ x, a.length = x := ⟨_, rfl⟩
  obtain ⟨nb, hnb_⟩ : ∃ x, b.length = x := ⟨_, rfl⟩
  obtain ⟨nL, hnL_⟩ : ∃ x, L.length = x := ⟨_, rfl⟩
  obtain ⟨nl, hnl_⟩ : ∃ x, l.length = x := ⟨_, rfl⟩
  rw [hF_] at KF KK KX KC KG KM KN KA KH
  rw [hC_] at f1 f2
  simp only [hC_] at KK KX
  simp only [hG_, hGL_] at KX f1 f2 f3 f4
  simp only [hA_] at f2 f4 KG KH
  simp only [hCC_] at f3 KN KA
  simp only [hZ_] at f3 KA
  simp only [hCH_] at f4 KH
  rw [hna_] at KG KN KA KH ⊢
  rw [hnb_] at ⊢
  rw [hnL_] at ⊢
  rw [hnl_] at KN KA ⊢
  have hAa : IntsAt w (.slice av na ac) a := hna_ ▸ hA
  have hBb : IntsAt w (.slice bv nb bc) b := hnb_ ▸ hB
  have hLL : IntsAt w (.slice Lv nL Lc) L := hnL_ ▸ hL
  have HKF := Lib.hid KF
  have HKK := Lib.hid KK
  have HKX := Lib.hid KX
  have HKC := Lib.hid KC
  have HKG := Lib.hid KG
  have HKM := Lib.hid KM
  have HKN := Lib.hid KN
  have HKA := Lib.hid KA
  have HKH := Lib.hid KH
  have Hf1 := Lib.hid f1
  have Hf2 := Lib.hid f2
  have Hf3 := Lib.hid f3
  have Hf4 := Lib.hid f4
  have HhAa := Lib.hid hAa
  have HhBb := Lib.hid hBb
  have HhLL := Lib.hid hLL
  clear KF KK KX KC KG KM KN KA KH f1 f2 f3 f4 hC_ hF_ hG_ hGL_ hA_ hCC_ hZ_ hCH_ hna_ hnb_ hnL_ hnl_ hT hn hA hB hL hl hAa hBb hLL
  go_enter Try.func14, Try.ntmps14
  go_wp2_with fail
  refine (head_any _).mono ?_
  rintro e w1 ⟨rfl, hx⟩
  obtain ⟨q0, hx1, hk0⟩ := alloc1 hx
  have d0 : w1.cell? ⟨w.heap.size, 0, none⟩ = some pa := q0.cell 0
  have d1 : w1.cell? ⟨w.heap.size, 1, none⟩ = some pb := q0.cell 1
  clear hx q0 hk0
  go_wp2_with fail
  refine (HKF.out _ hx1).mono ?_
  rintro e w2 ⟨rfl, hz⟩
  have hx2 := hx1.trans hz
  replace d0 := hz.cell d0
  replace d1 := hz.cell d1
  clear hz hx1
  cases F with
  | false =>
    go_wp2_with fail
    go_ret
    exact ⟨rfl, hx2⟩
  | true =>
    have GKK := Lib.hid (HKK.out rfl)
    have GKX := Lib.hid (HKX.out rfl)
    have GKC := Lib.hid (HKC.out rfl)
    have GKG := Lib.hid (HKG.out rfl)
    have GKM := Lib.hid (HKM.out rfl)
    have GKN := Lib.hid (HKN.out rfl)
    have GKA := Lib.hid (HKA.out rfl)
    have GKH := Lib.hid (HKH.out rfl)
    clear HKK HKX HKC HKG HKM HKN HKA HKH
    by_cases gna : na ≤ 60
    rotate_left 1
    · have bna : decide ((na : Int) > 60) = true := decide_eq_true (by omega)
      clear gna
      go_wp2_with fail
      go_ret
      exact ⟨rfl, hx2⟩
    have bna : decide ((na : Int) > 60) = false := decide_eq_false (by omega)
    by_cases gnb : nb ≤ 60
    rotate_left 1
    · have bnb : decide ((nb : Int) > 60) = true := decide_eq_true (by omega)
      clear gnb
      go_wp2_with fail
      go_ret
      exact ⟨rfl, hx2⟩
    have bnb : decide ((nb : Int) > 60) = false := decide_eq_false (by omega)
    by_cases gnL : nL ≤ 30
    rotate_left 1
    · have bnL : decide ((nL : Int) > 30) = true := decide_eq_true (by omega)
      clear gnL
      go_wp2_with fail
      go_ret
      exact ⟨rfl, hx2⟩
    have bnL : decide ((nL : Int) > 30) = false := decide_eq_false (by omega)
    by_cases gnl : nl ≤ 30
    rotate_left 1
    · have bnl : decide ((nl : Int) > 30) = true := decide_eq_true (by omega)
      clear gnl
      go_wp2_with fail
      go_ret
      exact ⟨rfl, hx2⟩
    have bnl : decide ((nl : Int) > 30) = false := decide_eq_false (by omega)
    clear gna gnb gnL gnl
    go_wp2_with fail
    refine (GKK.out _ hx2).mono ?_
    rintro e w3 ⟨rfl, hz⟩
    have hx3 := hx2.trans hz
    replace d0 := hz.cell d0
    replace d1 := hz.cell d1
    clear hz hx2
    clear bna bnb bnL bnl
    by_cases h0 : C = 0
    rotate_left 1
    · have hc : (C != 0) = true := by simpa using h0
      clear h0
      go_wp2_with fail
      go_ret
      exact ⟨rfl, hx3⟩
    subst h0
    go_wp2_with fail
    refine (GKX.out _ hx3).mono ?_
    rintro e w4 ⟨u, v, rfl, hu, hv, hz⟩
    have hx4 := hx3.trans hz
    replace d0 := hz.cell d0
    replace d1 := hz.cell d1
    clear hz hx3
    obtain ⟨ua, uc, rfl, _⟩ := hu.len
    obtain ⟨va, vc, rfl, _⟩ := hv.len
    have hcf := Lib.hid (Hf1.out (by simp))
    obtain ⟨FB, hFB⟩ : ∃ B, w4.heap.size = B := ⟨_, rfl⟩
    obtain ⟨gl, hgl⟩ : ∃ n, G.length = n := ⟨_, rfl⟩
    obtain ⟨ll, hll⟩ : ∃ n, GL.length = n := ⟨_, rfl⟩
    rw [hgl] at hu ⊢
    rw [hll] at hv ⊢
    have hE1 : (cfE P G GL != 0) = false := by rw [hcf.out]; rfl
    obtain ⟨CG, hCG⟩ : ∃ x, cfE P G GL = x := ⟨_, rfl⟩
    have GC1 := Lib.hid (GKC.out (.slice ua gl uc) (.slice va ll vc) G GL)
    rw [hCG] at GC1 hE1
    clear hgl hll hCG hcf
    have hxB : Ext w4 (w4.alloc (.cells #[.slice ua gl uc, .slice va ll vc] 71)) := (by repeat (first | exact Ext.refl _ | assumption | refine Ext.alloc ?_ _ | refine Ext.drew ?_ | refine Ext.drewN _ ?_ | refine Ext.trans ?_ (by assumption)))
    have d0B := hxB.cell d0
    have d1B := hxB.cell d1
    have HFB := Lib.hid hFB
    clear hFB
    go_wp2_with fail
    refine (GC1.out _ (hx4.trans hxB) (hu.ext hxB) (hv.ext hxB)).mono ?_
    rintro e w5 ⟨rfl, hz⟩
    have qf : Cls w4.heap.size 71 #[.slice ua gl uc, .slice va ll vc] w5 := (Cls.new _ _ _).ext hz
    have hzB := hxB.trans hz
    have hx5 := hx4.trans hzB
    replace d0 := hzB.cell d0
    replace d1 := hzB.cell d1
    replace hu := hu.ext hzB
    have e0 : w5.cell? ⟨w4.heap.size, 0, none⟩ = some (.slice ua gl uc) := qf.cell 0
    clear hz hzB hxB hv GC1 qf hx4 d0B d1B
    rw [HFB.out] at e0
    try rw [HFB.out]
    clear HFB
    go_wp2_with fail
    refine (GKG.out _ hx5).mono ?_
    rintro e w6 ⟨rfl, hz⟩
    have hx6 := hx5.trans hz
    replace d0 := hz.cell d0
    replace d1 := hz.cell d1
    replace e0 := hz.cell e0
    replace hu := hu.ext hz
    clear hz hx5
    clear hE1
    by_cases h0 : A = 0
    rotate_left 1
    · have hc : (A != 0) = true := by simpa using h0
      clear h0 hu
      go_wp2_with fail
      go_ret
      exact ⟨rfl, hx6⟩
    obtain ⟨h1, h2⟩ := Hf2.out (by simp) h0
    obtain ⟨X1, hX1⟩ : ∃ x, cmpX P a G = x := ⟨_, rfl⟩
    obtain ⟨E1, hE1⟩ : ∃ x, cmpE P a G = x := ⟨_, rfl⟩
    have GM1 := Lib.hid (GKM.out (.slice av na ac) (.slice ua gl uc) a G)
    have hf3 := Hf3.out
    have hf4 := Hf4.out
    rw [hX1] at h2 GM1 hf3 hf4
    rw [hE1] at h1 GM1
    have HF3 := Lib.hid hf3
    have HF4 := Lib.hid hf4
    have hA0 : (A != 0) = false := by rw [h0]; rfl
    subst h1
    have hgt : decide (X1 > 0) = false := decide_eq_false (by omega)
    clear hX1 hE1 hf3 hf4 Hf3 Hf4 h2 Hf1 Hf2
    go_wp2_with fail
    refine (GM1.out _ hx6 (HhAa.out.ext hx6) hu).mono ?_
    rintro e w7 ⟨rfl, hz⟩
    have hx7 := hx6.trans hz
    replace d0 := hz.cell d0
    replace d1 := hz.cell d1
    replace e0 := hz.cell e0
    replace hu := hu.ext hz
    clear hz hx6
    clear hu hA0 GM1
    go_wp2_with fail
    refine (GKN.out _ hx7).mono ?_
    rintro e w8 ⟨rfl, hz⟩
    have hx8 := hx7.trans hz
    replace d0 := hz.cell d0
    replace d1 := hz.cell d1
    replace e0 := hz.cell e0
    clear hz hx7
    clear hgt
    by_cases hcc : CC = 0
    · obtain ⟨h31, h32, h33⟩ := HF3.out hcc
      subst hcc
      have GM2 := Lib.hid (fun u => GKM.out u (.slice av na ac) Z a)
      simp only [h31, h32] at GM2
      have hx0 : (X1 == 0) = false := by simpa using h33
      clear h31 h32 h33 HF3
      go_wp2_with fail
      refine (GKA.out _ hx8).mono ?_
      rintro e w9 ⟨x, rfl, hc, hz⟩
      have hx9 := hx8.trans hz
      replace d0 := hz.cell d0
      replace d1 := hz.cell d1
      replace e0 := hz.cell e0
      clear hz hx8
      obtain ⟨xa, xc, rfl, _⟩ := hc.len
      obtain ⟨zl, hzl⟩ : ∃ n, Z.length = n := ⟨_, rfl⟩
      rw [hzl] at hc ⊢
      clear hzl
      go_wp2_with fail
      refine (GM2.out _ _ hx9 hc (HhAa.out.ext hx9)).mono ?_
      rintro e w10 ⟨rfl, hz⟩
      have hx10 := hx9.trans hz
      replace d0 := hz.cell d0
      replace d1 := hz.cell d1
      replace e0 := hz.cell e0
      replace hc := hc.ext hz
      clear hz hx9
      clear hc GM2
      have HF4' := HF4
      go_wp2_with fail
      refine (GKC.out _ _ a L _ hx10 (HhAa.out.ext hx10) (HhLL.out.ext hx10)).mono ?_
      rintro e w11 ⟨rfl, hz⟩
      have hx11 := hx10.trans hz
      replace d0 := hz.cell d0
      replace d1 := hz.cell d1
      replace e0 := hz.cell e0
      clear hz hx10
      obtain ⟨CF, hCF⟩ : ∃ x, cfE P a L = x := ⟨_, rfl⟩
      have h4 := HF4.out
      rw [hCF] at h4 ⊢
      clear hCF
      by_cases hcf : CF = 0
      rotate_left 1
      · have hc : (CF != 0) = true := by simpa using hcf
        clear hcf h4
        go_wp2_with fail
        go_ret
        exact ⟨rfl, hx11⟩
      obtain ⟨h41, h42, h43, h44⟩ := h4 hcf
      subst hcf
      obtain ⟨X3, hX3⟩ : ∃ x, cmpX P b a = x := ⟨_, rfl⟩
      obtain ⟨E3, hE3⟩ : ∃ x, cmpE P b a = x := ⟨_, rfl⟩
      have GM3 := Lib.hid (GKM.out (.slice bv nb bc) (.slice av na ac) b a)
      rw [hX3] at h43 GM3
      rw [hE3] at GM3
      have hle : decide (X3 ≤ 0) = true := decide_eq_true h43
      clear hX3 hE3 h43
      have hnil : decide (0 < CH.length) = false := decide_eq_false (by omega)
      have GH := Lib.hid GKH.out
      unfold ChaPost at GH
      rw [hnil, h41] at GH
      clear hnil h42 h41
      go_wp2_with fail
      refine (GH.out _ hx11).mono ?_
      rintro e w12 ⟨x, rfl, hc, hz⟩
      have hx12 := hx11.trans hz
      replace d0 := hz.cell d0
      replace d1 := hz.cell d1
      replace e0 := hz.cell e0
      clear hz hx11
      obtain ⟨xa, xc, rfl, _⟩ := hc.len
      clear hc
      go_wp2_with fail
      refine (GM3.out _ hx12 (HhBb.out.ext hx12) (HhAa.out.ext hx12)).mono ?_
      rintro e w13 ⟨rfl, hz⟩
      have hx13 := hx12.trans hz
      replace d0 := hz.cell d0
      replace d1 := hz.cell d1
      replace e0 := hz.cell e0
      clear hz hx12
      subst h44
      by_cases he3 : E3 = 0
      · have hc3 : (E3 != 0) = false := by rw [he3]; rfl
        clear he3
        go_wp2_with fail
        go_ret
        exact ⟨rfl, hx13⟩
      · have hc3 : (E3 != 0) = true := by simpa using he3
        clear he3
        go_wp2_with fail
        go_ret
        exact ⟨rfl, hx13⟩
    · have hb : (CC == 0) = false := by simpa using hcc
      clear hcc HF3
      go_wp2_with fail
      refine (GKC.out _ _ a L _ hx8 (HhAa.out.ext hx8) (HhLL.out.ext hx8)).mono ?_
      rintro e w9 ⟨rfl, hz⟩
      have hx9 := hx8.trans hz
      replace d0 := hz.cell d0
      replace d1 := hz.cell d1
      replace e0 := hz.cell e0
      clear hz hx8
      obtain ⟨CF, hCF⟩ : ∃ x, cfE P a L = x := ⟨_, rfl⟩
      have h4 := HF4.out
      rw [hCF] at h4 ⊢
      clear hCF
      by_cases hcf : CF = 0
      rotate_left 1
      · have hc : (CF != 0) = true := by simpa using hcf
        clear hcf h4
        go_wp2_with fail
        go_ret
        exact ⟨rfl, hx9⟩
      obtain ⟨h41, h42, h43, h44⟩ := h4 hcf
      subst hcf
      obtain ⟨X3, hX3⟩ : ∃ x, cmpX P b a = x := ⟨_, rfl⟩
      obtain ⟨E3, hE3⟩ : ∃ x, cmpE P b a = x := ⟨_, rfl⟩
      have GM3 := Lib.hid (GKM.out (.slice bv nb bc) (.slice av na ac) b a)
      rw [hX3] at h43 GM3
      rw [hE3] at GM3
      have hle : decide (X3 ≤ 0) = true := decide_eq_true h43
      clear hX3 hE3 h43
      have hnil : decide (0 < CH.length) = false := decide_eq_false (by omega)
      have GH := Lib.hid GKH.out
      unfold ChaPost at GH
      rw [hnil, h41] at GH
      clear hnil h42 h41
      go_wp2_with fail
      refine (GH.out _ hx9).mono ?_
      rintro e w10 ⟨x, rfl, hc, hz⟩
      have hx10 := hx9.trans hz
      replace d0 := hz.cell d0
      replace d1 := hz.cell d1
      replace e0 := hz.cell e0
      clear hz hx9
      obtain ⟨xa, xc, rfl, _⟩ := hc.len
      clear hc
      go_wp2_with fail
      refine (GM3.out _ hx10 (HhBb.out.ext hx10) (HhAa.out.ext hx10)).mono ?_
      rintro e w11 ⟨rfl, hz⟩
      have hx11 := hx10.trans hz
      replace d0 := hz.cell d0
      replace d1 := hz.cell d1
      replace e0 := hz.cell e0
      clear hz hx10
      subst h44
      by_cases he3 : E3 = 0
      · have hc3 : (E3 != 0) = false := by rw [he3]; rfl
        clear he3
        go_wp2_with fail
        go_ret
        exact ⟨rfl, hx11⟩
      · have hc3 : (E3 != 0) = true := by simpa using he3
        clear he3
        go_wp2_with fail
        go_ret
        exact ⟨rfl, hx11⟩
end Go.Proofs.Ytiofdfjcaklmcaa
namespace Go.Proofs.Ytiofdfjcaklmcaa.fairProofs
open Go.ChangeShapes Go.WideShapes Go.ChangeAt Go.RowKit Go.Deep Go.Joins

noncomputable def wArgs : Array Value := #[.agg #[.slice none 0 0, .slice none 0 0], .slice none 0 0, .slice none 0 0, .slice none 0 0, .slice none 0 0]
noncomputable def laidWorld (os : Os) : World := World.holding Try.prog os ⟨#[], #[], []⟩

set_option maxRecDepth 100000 in
theorem contract (H : Type) (enc : TypeId × Value → H) (W : World) (base : Nat) (args : Array Value) (ds gs : List (DataW H)) (before : List MemPlace)
    (hval : ∀ (j : Nat) t v, Try.f14.params[j]? = some t → args[j]? = some v → Value.okWide Try.prog W .any base t v)
    (hW : DataW.Whole enc Try.prog Try.f14.params.toList Rows.fairProofsSpec.vars false W args.toList ds gs before) :
    Calls Try.prog 14 args W fun e W' => ∃ v, e = .returned v ∧ Rows.fairProofsSpec.post enc Try.prog Try.f14 false true false false W args v W' := by
  have hW' := hW
  obtain ⟨p, q, hA, hV, rfl, hfz, hnd⟩ := hW
  rw [show Try.f14.params = #[25, 46, 46, 46, 35] from rfl] at hA hval
  obtain ⟨v0, vs0, d0, ds0, p0, q0, hargs, rfl, rfl, h0, r0⟩ := trodAll_cons hA
  obtain ⟨v1, vs1, d1, ds1, p1, q1, rfl, rfl, rfl, h1, r1⟩ := trodAll_cons r0
  obtain ⟨v2, vs2, d2, ds2, p2, q2, rfl, rfl, rfl, h2, r2⟩ := trodAll_cons r1
  obtain ⟨v3, vs3, d3, ds3, p3, q3, rfl, rfl, rfl, h3, r3⟩ := trodAll_cons r2
  obtain ⟨v4, vs4, d4, ds4, p4, q4, rfl, rfl, rfl, h4, r4⟩ := trodAll_cons r3
  obtain ⟨rfl, rfl, rfl⟩ := trodAll_nil r4
  obtain rfl : args = #[v0, v1, v2, v3, v4] := by cases args; simp_all
  obtain ⟨rfl, rfl⟩ := trodVars_none hV
  obtain ⟨a0, b0, T0, rfl, hT0, hn0⟩ := open_pool (hval 0 25 v0 rfl rfl) h0
  obtain ⟨L1, hL1⟩ := open_ints' (hval 1 46 v1 rfl rfl) h1
  obtain ⟨L2, hL2⟩ := open_ints' (hval 2 46 v2 rfl rfl) h2
  obtain ⟨L3, hL3⟩ := open_ints' (hval 3 46 v3 rfl rfl) h3
  obtain ⟨L4, hL4⟩ := open_sfs' (hval 4 35 v4 rfl rfl) h4
  refine (FairProofs_any _ _ _ _ _ _ T0 L1 L2 L3 L4 W hT0 hn0 hL1 hL2 hL3 hL4).mono fun e W' ⟨he, hg⟩ => ?_
  subst he
  refine ⟨_, rfl, post_true hW' rfl rfl ⟨rfl, rfl, rfl⟩ ?_ hg⟩
  rw [show Try.f14.params = #[25, 46, 46, 46, 35] from rfl]
  intro t ht
  simp only [List.mem_cons, List.not_mem_nil, or_false] at ht
  rcases ht with rfl | rfl | rfl | rfl | rfl <;> exact ⟨by kernel_rfl, of_decide_eq_true (by kernel_rfl)⟩

set_option maxRecDepth 100000 in
theorem laid_met (os : Os) : laidMet Try.prog Rows.fairProofsRow.laid ((laidWorld os).forCall (fun _ _ => 0) ⟨#[], wArgs, []⟩).memory :=
  laidMet_of_run' 8 (by kernel_rfl) (by kernel_rfl)
set_option maxRecDepth 100000 in
theorem reads (os : Os) {H : Type} (enc : TypeId × Value → H) : ∃ x places, DataW.whole enc Try.prog ((laidWorld os).forCall (fun _ _ => 0) ⟨#[], wArgs, []⟩).memory Try.f14.params.toList Rows.fairProofsSpec.vars false wArgs.toList 8 = some (x, [], places) :=
  ⟨[.agg [.nil, .nil], .nil, .nil, .nil, .nil], [], by kernel_rfl⟩

set_option maxRecDepth 100000 in
theorem lifted (os : Os) (started : os.Started) (H : Type) (enc : TypeId × Value → H) (F : Stop.Interp) :
    ReturnsInHanded {} Try.checked os 14 .any ((OpenSpec.ofChange Rows.fairProofsSpec).preRow enc Try.prog Try.f14 Rows.fairProofsRow.domain false Rows.fairProofsRow.laid) (((OpenSpec.ofChange Rows.fairProofsSpec).at F).post enc Try.prog Try.f14 false true false false) := by
  obtain ⟨x, places, hx⟩ := reads os enc
  refine returnsInHanded_of_row (C := Try.checked) (s := OpenSpec.ofChange Rows.fairProofsSpec) own started (by kernel_rfl) Try.func14
    (witness_row_at (enc := enc) (C := Try.checked) false (laidWorld os) wArgs rfl (by kernel_rfl) (by kernel_rfl) (by kernel_rfl)
      (OpenSpec.preRow_of_cond 8 hx (by kernel_rfl) (fun k hk => by cases hk) (by kernel_rfl) (laid_met os))) ?_
  intro W base args ds gs before hval hW _ _ _ hL _ _
  exact contract H enc W base args ds gs before hval hW

set_option maxRecDepth 100000 in
theorem said : Rows.FairProofsSaid :=
  OpenClaim.holds_of_cond 14 Try.f14 rfl rfl rfl rfl rfl rfl rfl ⟨rfl, rfl, rfl, rfl, rfl⟩ rfl rfl rfl rfl rfl (by kernel_rfl) Try.func14 (by kernel_rfl)
    (of_decide_eq_true (by kernel_rfl)) (by unfold Func.isWrapper; first | (rw [if_pos (by decide +kernel)]; kernel_rfl) | (rw [if_neg (by decide +kernel)]; exact ⟨rfl, rfl⟩))
    (fun os started H enc _ F => by rw [OpenClaim.pre_eq_preRow]; exact lifted os started H enc F)
end Go.Proofs.Ytiofdfjcaklmcaa.fairProofs

