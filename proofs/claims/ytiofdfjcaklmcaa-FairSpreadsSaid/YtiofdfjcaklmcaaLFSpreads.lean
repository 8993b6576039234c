/- FairSpreads: true whatever the pool, the tenant and the sharing with labels. -/
import Derived.Test.YtiofdfjcaklmcaaFLaw
import Derived.Test.YtiofdfjcaklmcaaFSpW
namespace Go.Proofs.Ytiofdfjcaklmcaa
open Go.RowKit Go.Shelf

theorem spd_zero {P : Po} {tn : Int} (h : spdE P tn = 0) : OkP P ∧ ∃ k, ∃ (hk : k < P.ts.length), tnI P tn = k ∧ P.ts[k].id = tn := by
  unfold spdE at h
  split at h
  · rename_i hc
    split at h
    · cases h
    · rename_i hn
      obtain ⟨k, hk, h1, h2⟩ := ixF_some (show 0 ≤ ixF (fun t : Te => t.id == tn) 0 P.ts from (by have h : tnI P tn = ixF (fun t : Te => t.id == tn) 0 P.ts := rfl; omega))
      exact ⟨chk_ok.1 hc, k, hk, by have h : tnI P tn = ixF (fun t : Te => t.id == tn) 0 P.ts := rfl; omega, by simpa using h2⟩
  · rename_i hc
    exact absurd h hc
theorem rowT_len {n₀ n : Nat} {A : Option Addr} {c k : Nat} {m : Int} {P : Po} {W : World} (_hn : P.ts.length = n) (h : RowT n₀ (.slice A n c) (setM P k m).ts W) : RowK 45 fT 2 n₀ (.slice A n c) (setM P k m).ts W := h
theorem rowT_lenB {n₀ n : Nat} {A : Option Addr} {c : Nat} {l : List Te} {W : World} (hn : l.length = n) (h : RowK 45 fT 2 n₀ (.slice A n c) l W) : RowT n₀ (.slice A l.length c) l W := by rw [hn]; exact h
theorem ladX_len {P : Po} (hok : OkP P) : (ladX P).length ≤ 12 := by
  unfold ladX
  rw [if_pos (chk_ok.2 hok), ladL_len]
  exact hok.lt
set_option maxRecDepth 100000 in
set_option maxHeartbeats 16000000 in
theorem FairSpreads_any (pa pb ga la : Value) (P : Po) (tn : Int) (g L : List Int) (w : World) (hT : PoAt w pa pb P) (hn : P.ss.length ≤ 9223372036854775807) (hg : IntsAt w ga g) (hL : IntsAt w la L) :
    Calls Try.prog 9 #[.agg #[pa, pb], .int .i64 tn, .agg #[ga, la]] w fun e w' => e = .returned (.bool true) ∧ Ext w w' := by
  obtain ⟨ta, tc, rfl, _⟩ := hT.t.len
  obtain ⟨sa, sc, rfl, _⟩ := hT.s.len
  obtain ⟨gv, gc, rfl, _⟩ := hg.len
  obtain ⟨lv, lc, rfl, _⟩ := hL.len
  obtain ⟨nt, hnt_⟩ : ∃ x, P.ts.length = x := ⟨_, rfl⟩
  obtain ⟨ns, hns_⟩ : ∃ x, P.ss.length = x := ⟨_, rfl⟩
  have hT1 : PoAt w (.slice ta nt tc) (.slice sa ns sc) P := by rw [← hnt_, ← hns_]; exact hT
  rw [hnt_, hns_]
  clear hT
  have hT := hT1
  clear hT1
  have KF := fun W (h : Ext w W) => few_any _ _ P W (hT.ext h) hn
  have KD := fun (h : fewB P = true) W (x : Ext w W) => Spread_any _ _ P tn W (hT.ext x) (few_us h)
  have KT := fun (h : P.ts.length ≤ 100000) W (x : Ext w W) => at_any _ _ P tn W (hT.ext x) h
  have KX := fun (h : fewB P = true) W (x : Ext w W) => Fairest_any _ _ P W (hT.ext x) (few_us h)
  have KL := fun (h : fewB P = true) W (x : Ext w W) => Ladder_any _ _ P W (hT.ext x) (few_us h)
  have KC := fun (h : fewB P = true) W (x : Ext w W) => CheckFair_any _ _ _ _ P g L W (hT.ext x) (hg.ext x) (hL.ext x) (few_us h)
  have KB := fun (h : fewB P = true) u v G GL k lo hi (hok : OkP P) (hS : ShrV P G) (hk : k < P.ts.length) (h1 : lo ≤ cntI G P.ts[k].id) (h2 : cntI G P.ts[k].id ≤ hi) W (x : Ext w W) (hu : IntsAt W u G) (hv : IntsAt W v GL) => between_any _ _ u v P G GL k lo hi hok hS hk h1 h2 (few_us h) W (hT.ext x) hu hv
  have KM := fun (h : fewB P = true) k m W va (x : Ext w W) (hv : TesAt W va (setM P k m).ts) => Ladder_any va _ (setM P k m) W ⟨hv, hT.s.ext x⟩ (fun s hs => few_us h s hs)
  have hft : fewB P = true → P.ts.length ≤ 100000 := fun h => by
    unfold fewB at h
    simp only [Bool.and_eq_true, Bool.or_eq_true, decide_eq_true_eq] at h
    omega
  have f1 := @spd_zero P tn
  have f2 := @fax_V P
  have f3 := @cf_nochn P g L
  have hTT := hT.t
  obtain ⟨F, hF_⟩ : ∃ x, fewB P = x := ⟨_, rfl⟩
  obtain ⟨G, hG_⟩ : ∃ x, faxG P = x := ⟨_, rfl⟩
  obtain ⟨GL, hGL_⟩ : ∃ x, faxL P = x := ⟨_, rfl⟩
  obtain ⟨CF, hCF_⟩ : ∃ x, cfE P g L = x := ⟨_, rfl⟩
  obtain ⟨LX, hLX_⟩ : ∃ x, ladX P = x := ⟨_, rfl⟩
  obtain ⟨SE, hSE_⟩ : ∃ x, spdE P tn = x := ⟨_, rfl⟩
  obtain ⟨lo, hlo_⟩ : ∃ x, (spdX P tn).1 = x := ⟨_, rfl⟩
  obtain ⟨hi, hhi_⟩ : ∃ x, (spdX P tn).2 = x := ⟨_, rfl⟩
  obtain ⟨ng, hng_⟩ : ∃ x, g.length = x := ⟨_, rfl⟩
  obtain ⟨nL, hnL_⟩ : ∃ x, L.length = x := ⟨_, rfl⟩
  rw [hF_] at KF KD KX KL KC KB KM hft
  unfold SpdPost at KD
  simp only [hlo_, hhi_, hSE_] at KD
  simp only [hG_, hGL_] at KX
  simp only [hLX_] at KL
  rw [hSE_] at f1
  rw [hG_] at f2
  simp only [hCF_] at KC f3
  have hgg : IntsAt w (.slice gv ng gc) g := hng_ ▸ hg
  have hLL : IntsAt w (.slice lv nL lc) L := hnL_ ▸ hL
  simp only [hng_, hnL_] at KC
  rw [hng_, hnL_]
  have hloP := hlo_
  have hhiP := hhi_
  have hLXP := hLX_
  have hntP := hnt_
  have HKF := Lib.hid KF
  have HKD := Lib.hid KD
  have HKT := Lib.hid KT
  have HKX := Lib.hid KX
  have HKL := Lib.hid KL
  have HKC := Lib.hid KC
  have HKB := Lib.hid KB
  have HKM := Lib.hid KM
  have Hhft := Lib.hid hft
  have Hf1 := Lib.hid f1
  have Hf2 := Lib.hid f2
  have Hf3 := Lib.hid f3
  have Hhgg := Lib.hid hgg
  have HhLL := Lib.hid hLL
  have HhloP := Lib.hid hloP
  have HhhiP := Lib.hid hhiP
  have HhLXP := Lib.hid hLXP
  have HhntP := Lib.hid hntP
  have HhTT := Lib.hid hTT
  clear KF KD KT KX KL KC KB KM hft f1 f2 f3 hF_ hG_ hGL_ hCF_ hLX_ hSE_ hlo_ hhi_ hng_ hnL_ hnt_ hns_ hT hn hg hL hgg hLL hloP hhiP hLXP hntP hTT
  go_enter Try.func9, Try.ntmps9
  go_wp2_with fail
  refine (head_any _).mono ?_
  rintro e w1 ⟨rfl, hx⟩
  obtain ⟨q0, q1, hx1, hk0⟩ := alloc2 hx
  have d0 : w1.cell? ⟨w.heap.size, 0, none⟩ = some (.slice ta nt tc) := q0.cell 0
  have d1 : w1.cell? ⟨w.heap.size, 1, none⟩ = some (.slice sa ns sc) := q0.cell 1
  have e0 : w1.cell? ⟨w.heap.size + 1, 0, none⟩ = some (.slice gv ng gc) := q1.cell 0
  have e1 : w1.cell? ⟨w.heap.size + 1, 1, none⟩ = some (.slice lv nL lc) := q1.cell 1
  clear hx q0 q1 hk0
  go_wp2_with fail
  refine (HKF.out _ hx1).mono ?_
  rintro e w2 ⟨rfl, hz⟩
  have hx2 := hx1.trans hz
  replace d0 := hz.cell d0
  replace d1 := hz.cell d1
  replace e0 := hz.cell e0
  replace e1 := hz.cell e1
  clear hz hx1
  cases F with
  | false =>
    go_wp2_with fail
    go_ret
    exact ⟨rfl, hx2⟩
  | true =>
    have GKD := Lib.hid (HKD.out rfl)
    have GKX := Lib.hid (HKX.out rfl)
    have GKL := Lib.hid (HKL.out rfl)
    have GKC := Lib.hid (HKC.out rfl)
    have GKB := Lib.hid (HKB.out rfl)
    have GKM := Lib.hid (HKM.out rfl)
    have GKT := Lib.hid (HKT.out (Hhft.out rfl))
    clear HKD HKX HKL HKC HKB HKM HKT Hhft
    by_cases gnt : nt = 6
    · have bnt : ((nt : Int) == 6) = true := by rw [gnt]; rfl
      clear gnt
      go_wp2_with fail
      go_ret
      exact ⟨rfl, hx2⟩
    have bnt : ((nt : Int) == 6) = false := by rw [beq_eq_false_iff_ne]; omega
    by_cases gns : ns ≤ 8
    rotate_left 1
    · have bns : decide ((ns : Int) > 8) = true := decide_eq_true (by omega)
      clear gns
      go_wp2_with fail
      go_ret
      exact ⟨rfl, hx2⟩
    have bns : decide ((ns : Int) > 8) = false := decide_eq_false (by omega)
    by_cases gng : ng ≤ 60
    rotate_left 1
    · have bng : decide ((ng : Int) > 60) = true := decide_eq_true (by omega)
      clear gng
      go_wp2_with fail
      go_ret
      exact ⟨rfl, hx2⟩
    have bng : decide ((ng : Int) > 60) = false := decide_eq_false (by omega)
    by_cases gnL : nL ≤ 30
    rotate_left 1
    · have bnL : decide ((nL : Int) > 30) = true := decide_eq_true (by omega)
      clear gnL
      go_wp2_with fail
      go_ret
      exact ⟨rfl, hx2⟩
    have bnL : decide ((nL : Int) > 30) = false := decide_eq_false (by omega)
    clear gnt gns gng gnL
    go_wp2_with fail
    refine (GKD.out _ hx2).mono ?_
    rintro e w3 ⟨rfl, hz⟩
    have hx3 := hx2.trans hz
    replace d0 := hz.cell d0
    replace d1 := hz.cell d1
    replace e0 := hz.cell e0
    replace e1 := hz.cell e1
    clear hz hx2
    clear bnt bns bng bnL
    obtain ⟨WSB, hWSB⟩ : ∃ W, w3.alloc (.cells #[.int .i64 lo, .int .i64 hi] 29) = W := ⟨_, rfl⟩
    obtain ⟨SB, hSB⟩ : ∃ B, w3.heap.size = B := ⟨_, rfl⟩
    have hxSB : Ext w3 WSB := by rw [← hWSB]; exact (by repeat (first | exact Ext.refl _ | assumption | refine Ext.alloc ?_ _ | refine Ext.drew ?_ | refine Ext.drewN _ ?_ | refine Ext.trans ?_ (by assumption)))
    have qSB : Cls SB 29 #[.int .i64 lo, .int .i64 hi] WSB := by rw [← hWSB]; exact Cls.newAt _ _ _ hSB.symm
    have hxwSB := hx3.trans hxSB
    replace d0 := hxSB.cell d0
    replace d1 := hxSB.cell d1
    replace e0 := hxSB.cell e0
    replace e1 := hxSB.cell e1
    have s0 : WSB.cell? ⟨SB, 0, none⟩ = some (.int .i64 lo) := qSB.cell 0
    have s1 : WSB.cell? ⟨SB, 1, none⟩ = some (.int .i64 hi) := qSB.cell 1
    clear hxSB qSB hx3
    go_wp2_with fail
    refine (GKT.out _ hxwSB).mono ?_
    rintro e w4 ⟨rfl, hz⟩
    have hx4 := hxwSB.trans hz
    replace d0 := hz.cell d0
    replace d1 := hz.cell d1
    replace e0 := hz.cell e0
    replace e1 := hz.cell e1
    replace s0 := hz.cell s0
    replace s1 := hz.cell s1
    clear hz hxwSB
    clear hWSB hSB
    by_cases hE : SE = 0
    rotate_left 1
    · have hb : (SE != 0) = true := by simpa using hE
      clear hE
      go_wp2_with fail
      go_ret
      exact ⟨rfl, hx4⟩
    obtain ⟨hok, k, hk, hK, hid⟩ := Hf1.out hE
    have hnear := spread_near hok (List.getElem_mem hk)
    obtain ⟨_, _, hlaw⟩ := spread_law hok (List.getElem_mem hk)
    rw [hid, HhloP.out, HhhiP.out] at hnear hlaw
    have hst := setM_stay hok hk
    have hle := fun h => setM_less hok hk h
    rw [hid, HhloP.out, HhLXP.out] at hst
    rw [hid, HhloP.out, HhLXP.out] at hle
    have hm0 : max 0 lo = lo := by omega
    rw [hm0] at hst
    have hkn : k < nt := by have := HhntP.out; omega
    have hti := hok.ti _ (List.getElem_mem hk)
    have hlx := ladX_len hok
    rw [HhLXP.out] at hlx
    have hlx2 : LX.length ≤ 1000000 := by omega
    have hll40 : lo ≤ 40 := by omega
    have hcc := chk_ok.2 hok
    obtain ⟨hVG, hNG⟩ := Hf2.out hcc
    have hbG := hlaw G hVG hNG
    have KBG := fun u v GL W x hu hv => GKB.out u v G GL k lo hi hok hVG hk (by rw [hid]; exact hbG.1) (by rw [hid]; exact hbG.2) W x hu hv
    have KBF := fun (hS : ShrV P g) (hN : NoChn P g) u v W x hu hv => GKB.out u v g L k lo hi hok hS hk (by rw [hid]; exact (hlaw g hS hN).1) (by rw [hid]; exact (hlaw g hS hN).2) W x hu hv
    rw [hcc] at GKX GKL
    have HOK := Lib.hid hok
    have HST := Lib.hid hst
    have HLE := Lib.hid hle
    have HKBG := Lib.hid KBG
    have HKBF := Lib.hid KBF
    have HNE := Lib.hid hnear
    have HID := Lib.hid hid
    have HLX2 := Lib.hid hlx2
    have HK := Lib.hid hk
    rw [hK]
    subst hE
    have hlo0 : 0 ≤ lo := hnear.1
    have g1 : decide (lo > hi) = false := decide_eq_false (by omega)
    have g2 : IntKind.i64.wrap (lo + 1) = lo + 1 := IntWalk.i64_in _ (by omega)
    have g3 : decide (hi > lo + 1) = false := decide_eq_false (by omega)
    have g4 : decide ((k : Int) < 0) = false := decide_eq_false (by omega)
    clear hst hle KBG KBF hnear hid hlx2 hlx hlaw hbG hVG hNG hcc hti hm0 Hf1 Hf2 hK HKF
    go_wp2_with fail
    refine (GKX.out _ hx4).mono ?_
    rintro e w5 ⟨u, v, rfl, hu, hv, hz⟩
    have hx5 := hx4.trans hz
    replace d0 := hz.cell d0
    replace d1 := hz.cell d1
    replace e0 := hz.cell e0
    replace e1 := hz.cell e1
    replace s0 := hz.cell s0
    replace s1 := hz.cell s1
    clear hz hx4
    obtain ⟨ua, uc, rfl, _⟩ := hu.len
    obtain ⟨va, vc, rfl, _⟩ := hv.len
    have KB1 := HKBG.out (.slice ua G.length uc) (.slice va GL.length vc) GL
    obtain ⟨gl, hgl⟩ : ∃ n, G.length = n := ⟨_, rfl⟩
    obtain ⟨ll, hll⟩ : ∃ n, GL.length = n := ⟨_, rfl⟩
    rw [hgl] at hu KB1 ⊢
    rw [hll] at hv KB1 ⊢
    have HKB1 := Lib.hid KB1
    clear hgl hll KB1 g4
    obtain ⟨WFB, hWFB⟩ : ∃ W, w5.alloc (.cells #[.slice ua gl uc, .slice va ll vc] 71) = W := ⟨_, rfl⟩
    obtain ⟨FB, hFB⟩ : ∃ B, w5.heap.size = B := ⟨_, rfl⟩
    have hxFB : Ext w5 WFB := by rw [← hWFB]; exact (by repeat (first | exact Ext.refl _ | assumption | refine Ext.alloc ?_ _ | refine Ext.drew ?_ | refine Ext.drewN _ ?_ | refine Ext.trans ?_ (by assumption)))
    have qFB : Cls FB 71 #[.slice ua gl uc, .slice va ll vc] WFB := by rw [← hWFB]; exact Cls.newAt _ _ _ hFB.symm
    have hxwFB := hx5.trans hxFB
    replace d0 := hxFB.cell d0
    replace d1 := hxFB.cell d1
    replace e0 := hxFB.cell e0
    replace e1 := hxFB.cell e1
    replace s0 := hxFB.cell s0
    replace s1 := hxFB.cell s1
    replace hu := hu.ext hxFB
    replace hv := hv.ext hxFB
    have f0 : WFB.cell? ⟨FB, 0, none⟩ = some (.slice ua gl uc) := qFB.cell 0
    have f1 : WFB.cell? ⟨FB, 1, none⟩ = some (.slice va ll vc) := qFB.cell 1
    clear hxFB qFB hx5
    go_wp2_with fail
    refine (HKB1.out _ hxwFB hu hv).mono ?_
    rintro e w6 ⟨rfl, hz⟩
    have hx6 := hxwFB.trans hz
    replace d0 := hz.cell d0
    replace d1 := hz.cell d1
    replace e0 := hz.cell e0
    replace e1 := hz.cell e1
    replace s0 := hz.cell s0
    replace s1 := hz.cell s1
    replace f0 := hz.cell f0
    replace f1 := hz.cell f1
    replace hu := hu.ext hz
    replace hv := hv.ext hz
    clear hz hxwFB
    clear hWFB hFB HKB1 f0 f1 hu hv g1 g2 g3
    go_wp2_with fail
    refine (GKC.out _ hx6).mono ?_
    rintro e w7 ⟨rfl, hz⟩
    have hx7 := hx6.trans hz
    replace d0 := hz.cell d0
    replace d1 := hz.cell d1
    replace e0 := hz.cell e0
    replace e1 := hz.cell e1
    replace s0 := hz.cell s0
    replace s1 := hz.cell s1
    clear hz hx6
    by_cases hcf : CF = 0
    · obtain ⟨_, hV, hN⟩ := Hf3.out hcf
      have hc : (CF == 0) = true := by simp [hcf]
      have KS2 := HKBF.out hV hN (.slice gv ng gc) (.slice lv nL lc)
      have HKS2 := Lib.hid KS2
      clear KS2 hV hN hcf
      go_wp2_with fail
      refine (HKS2.out _ hx7 (Hhgg.out.ext hx7) (HhLL.out.ext hx7)).mono ?_
      rintro e w8 ⟨rfl, hz⟩
      have hx8 := hx7.trans hz
      replace d0 := hz.cell d0
      replace d1 := hz.cell d1
      replace e0 := hz.cell e0
      replace e1 := hz.cell e1
      replace s0 := hz.cell s0
      replace s1 := hz.cell s1
      clear hz hx7
      go_wp2_with fail
      refine (GKL.out _ hx8).mono ?_
      rintro e w9 ⟨u, rfl, hl, hz⟩
      have hx9 := hx8.trans hz
      replace d0 := hz.cell d0
      replace d1 := hz.cell d1
      replace e0 := hz.cell e0
      replace e1 := hz.cell e1
      replace s0 := hz.cell s0
      replace s1 := hz.cell s1
      clear hz hx8
      obtain ⟨xa, xc, rfl, _⟩ := hl.len
      obtain ⟨xl, hxl_⟩ : ∃ n, LX.length = n := ⟨_, rfl⟩
      rw [hxl_] at hl ⊢
      clear hxl_
      have hlW := hl
      have d0w := d0
      have d1w := d1
      have s0w := s0
      have s1w := s1
      go_upto_region 14 with fail
      go_cut [15] (fun p W => ∃ (B : Nat) (tA : Option Addr) (tc' : Nat), p = .pointer (some ⟨B, 0, none⟩) ∧ Cls B 25 #[.slice tA nt tc', .slice sa ns sc] W ∧ RowT w9.heap.size (.slice tA nt tc') P.ts W ∧ Ext w9 W ∧ w9.heap.size ≤ B)
      case first =>
        have hTT2 : TesAt w9 (.slice ta nt tc) P.ts := HhTT.out.ext hx9
        have HhTT2 := Lib.hid hTT2
        clear hTT2
        have hws : w.heap.size ≤ w9.heap.size := hx9.size
        refine wp_region_last (z := 8) (S := fun W' => W'.cell? ⟨w.heap.size, 0, none⟩ = some (.slice ta nt tc) ∧ W'.cell? ⟨w.heap.size, 1, none⟩ = some (.slice sa ns sc) ∧ Ext w9 W') (by kernel_rfl) ?_ (fun hHeld => ?_)
        · exact ⟨d0, d1, Ext.drew (Ext.refl _)⟩
        obtain ⟨V0, hV0⟩ : ∃ V, World.drew w9 = V := ⟨_, rfl⟩
        rw [hV0] at hHeld ⊢
        clear hV0
        (refine tkL (i := 1) (v := ?_) rfl ?_ ?_; rotate_left 1; (focus (intro w hSw; (try dsimp only at hSw); go_simp; try (with_reducible rfl))))
        try simp only [Act.put, xA1, xA4]
        (refine tkL (i := 2) (v := ?_) rfl ?_ ?_; rotate_left 1; (focus (intro w hSw; (try dsimp only at hSw); go_simp; try (with_reducible rfl))))
        try simp only [Act.put, xA1, xA2, xA3, xA4, xA5, xA6]
        (refine tkL (i := 4) (v := ?_) rfl ?_ ?_; rotate_left 1; (focus (intro w hSw; (try dsimp only at hSw); go_simp; try (with_reducible rfl))))
        try simp only [Act.put, xA1, xA2, xA3, xA4, xA5, xA6]
        (refine tkL (i := 5) (v := ?_) rfl ?_ ?_; rotate_left 1; (focus (intro w hSw; (try dsimp only at hSw); go_simp; try (with_reducible rfl))))
        try simp only [Act.put, xA1, xA2, xA3, xA4, xA5, xA6]
        refine wpAnyL_two (i := 0) (j := 7) (by kernel_rfl) rfl rfl (fun K hK => ?_) (fun K hK => ?_)
        · skip
          go_simp
          obtain ⟨LB, hLB⟩ : ∃ N, V0.heap.size = N := ⟨_, rfl⟩
          obtain ⟨V1, hN⟩ : ∃ X, V0.alloc (.cells #[] 45) = X := ⟨_, rfl⟩
          have hz : Ext V0 V1 := by rw [← hN]; exact (by repeat (first | exact Ext.refl _ | assumption | refine Ext.alloc ?_ _ | refine Ext.drew ?_ | refine Ext.drewN _ ?_ | refine Ext.trans ?_ (by assumption)))
          have hlit : RowT w9.heap.size (.slice (some ⟨LB, 0, none⟩) 0 0) [] V1 := by rw [← hN, ← hLB]; exact rowT_lit0 _ hHeld.2.2.size
          rw [hN, hLB]
          refine hK.out _ _ (fun _ => ?_) (fun hHeld => ?_)
          · exact ⟨Ext.cell hz hHeld.1, Ext.cell hz hHeld.2.1, hHeld.2.2.trans hz⟩
          replace hHeld := hHeld (by decide)
          clear hK K
          clear hN hLB
          (try replace hbox := hbox.ext hz)
          clear hz
          try simp only [Act.put, xA1, xA2, xA3, xA4, xA5, xA6]
          refine wpAnyL_two (i := 3) (j := 7) (by kernel_rfl) rfl rfl (fun K hK => ?_) (fun K hK => ?_)
          · skip
            rw [if_pos (by rfl)]
            obtain ⟨v8, V2, hrun, hrt, hz⟩ := run_append_lit0T V1 22 w9.heap.size LB _ P.ts hlit (HhTT2.out.ext hHeld.2.2) hHeld.2.2.size (by have h1 := HOK.out.lt; have h2 := HhntP.out; omega)
            refine oper_append _ _ 22 rfl _ _ v8 V2 rfl rfl hrun ?_
            refine hK.out _ _ (fun _ => ?_) (fun hHeld => ?_)
            · exact ⟨Ext.cell hz hHeld.1, Ext.cell hz hHeld.2.1, hHeld.2.2.trans hz⟩
            replace hHeld := hHeld (by decide)
            clear hK K
            obtain ⟨tA, tc', htv⟩ := RowK.form hrt
            rw [HhntP.out] at htv
            subst htv
            (try replace hbox := hbox.ext hz)
            clear hrun hlit
            clear hz
            try simp only [Act.put, xA1, xA2, xA3, xA4, xA5, xA6]
            (refine tkL (i := 6) (v := ?_) rfl ?_ ?_; rotate_left 1; (focus (intro w hSw; (try dsimp only at hSw); go_simp; try (with_reducible rfl))))
            try simp only [Act.put, xA1, xA2, xA3, xA4, xA5, xA6]
            refine wpAnyL_one (i := 7) (by kernel_rfl) rfl (fun K hK => ?_)
            go_simp
            obtain ⟨B3, hB3⟩ : ∃ N, V2.heap.size = N := ⟨_, rfl⟩
            have hB3s : w9.heap.size ≤ B3 := by rw [← hB3]; exact hHeld.2.2.size
            obtain ⟨V3, hN⟩ : ∃ X, V2.alloc (.cells #[.slice none 0 0, .slice none 0 0] 25) = X := ⟨_, rfl⟩
            have hz : Ext V2 V3 := by rw [← hN]; exact (by repeat (first | exact Ext.refl _ | assumption | refine Ext.alloc ?_ _ | refine Ext.drew ?_ | refine Ext.drewN _ ?_ | refine Ext.trans ?_ (by assumption)))
            have hbox : Cls B3 25 #[.slice none 0 0, .slice none 0 0] V3 := by rw [← hN]; exact Cls.newAt _ _ _ hB3.symm
            rw [hN, hB3]
            refine hK.out _ _ (fun _ => ?_) (fun hHeld => ?_)
            · exact ⟨Ext.cell hz hHeld.1, Ext.cell hz hHeld.2.1, hHeld.2.2.trans hz⟩
            replace hHeld := hHeld (by decide)
            clear hK K
            clear hN hB3
            (try replace hlit := RowT.ext hlit hz)
            (try replace hrt := RowT.ext hrt hz)
            clear hz
            try simp only [Act.put, xA1, xA2, xA3, xA4, xA5, xA6]
            refine wpAnyL_one (i := 8) (by kernel_rfl) rfl (fun K hK => ?_)
            have k0 := hbox.frozen 0
            have k1 := hbox.frozen 1
            have k2 := hbox.cell 0
            have k3 := hbox.cell 1
            go_simp
            refine hK.out _ _ (fun h => absurd rfl h) (fun _ => ?_)
            clear hK K
            try simp only [Act.put, xA1, xA2, xA3, xA4, xA5, xA6]
            refine wpAnyL_done (by kernel_rfl) ?_ _
            have hb2 := (hbox.set 0 (.slice tA nt tc')).set 1 (.slice sa ns sc)
            have hrt2 := rowK_setC (j := 1) (u := .slice sa ns sc) (rowK_setC (j := 0) (u := .slice tA nt tc') hrt hbox (by decide)) (hbox.set 0 _) (by decide)
            have hx2 := (hHeld.2.2.setCell (p := ⟨B3, 0, none⟩) (by simp; omega) (.slice tA nt tc')).setCell (p := ⟨B3, 1, none⟩) (by simp; omega) (.slice sa ns sc)
            go_wp2_with fail
            go_meet
            case rel => exact ⟨B3, _, _, rfl, hb2, hrt2, hx2, by omega⟩
          · skip
            go_simp
            obtain ⟨B3, hB3⟩ : ∃ N, V1.heap.size = N := ⟨_, rfl⟩
            have hB3s : w9.heap.size ≤ B3 := by rw [← hB3]; exact hHeld.2.2.size
            obtain ⟨V2, hN⟩ : ∃ X, V1.alloc (.cells #[.slice none 0 0, .slice none 0 0] 25) = X := ⟨_, rfl⟩
            have hz : Ext V1 V2 := by rw [← hN]; exact (by repeat (first | exact Ext.refl _ | assumption | refine Ext.alloc ?_ _ | refine Ext.drew ?_ | refine Ext.drewN _ ?_ | refine Ext.trans ?_ (by assumption)))
            have hbox : Cls B3 25 #[.slice none 0 0, .slice none 0 0] V2 := by rw [← hN]; exact Cls.newAt _ _ _ hB3.symm
            rw [hN, hB3]
            refine hK.out _ _ (fun _ => ?_) (fun hHeld => ?_)
            · exact ⟨Ext.cell hz hHeld.1, Ext.cell hz hHeld.2.1, hHeld.2.2.trans hz⟩
            replace hHeld := hHeld (by decide)
            clear hK K
            clear hN hB3
            (try replace hlit := RowT.ext hlit hz)
            (try replace hrt := RowT.ext hrt hz)
            clear hz
            try simp only [Act.put, xA1, xA2, xA3, xA4, xA5, xA6]
            refine wpAnyL_one (i := 3) (by kernel_rfl) rfl (fun K hK => ?_)
            rw [if_pos (by rfl)]
            obtain ⟨v8, V3, hrun, hrt, hz⟩ := run_append_lit0T V2 22 w9.heap.size LB _ P.ts hlit (HhTT2.out.ext hHeld.2.2) hHeld.2.2.size (by have h1 := HOK.out.lt; have h2 := HhntP.out; omega)
            refine oper_append _ _ 22 rfl _ _ v8 V3 rfl rfl hrun ?_
            refine hK.out _ _ (fun _ => ?_) (fun hHeld => ?_)
            · exact ⟨Ext.cell hz hHeld.1, Ext.cell hz hHeld.2.1, hHeld.2.2.trans hz⟩
            replace hHeld := hHeld (by decide)
            clear hK K
            obtain ⟨tA, tc', htv⟩ := RowK.form hrt
            rw [HhntP.out] at htv
            subst htv
            (try replace hbox := hbox.ext hz)
            clear hrun hlit
            clear hz
            try simp only [Act.put, xA1, xA2, xA3, xA4, xA5, xA6]
            (refine tkL (i := 6) (v := ?_) rfl ?_ ?_; rotate_left 1; (focus (intro w hSw; (try dsimp only at hSw); go_simp; try (with_reducible rfl))))
            try simp only [Act.put, xA1, xA2, xA3, xA4, xA5, xA6]
            refine wpAnyL_one (i := 8) (by kernel_rfl) rfl (fun K hK => ?_)
            have k0 := hbox.frozen 0
            have k1 := hbox.frozen 1
            have k2 := hbox.cell 0
            have k3 := hbox.cell 1
            go_simp
            refine hK.out _ _ (fun h => absurd rfl h) (fun _ => ?_)
            clear hK K
            try simp only [Act.put, xA1, xA2, xA3, xA4, xA5, xA6]
            refine wpAnyL_done (by kernel_rfl) ?_ _
            have hb2 := (hbox.set 0 (.slice tA nt tc')).set 1 (.slice sa ns sc)
            have hrt2 := rowK_setC (j := 1) (u := .slice sa ns sc) (rowK_setC (j := 0) (u := .slice tA nt tc') hrt hbox (by decide)) (hbox.set 0 _) (by decide)
            have hx2 := (hHeld.2.2.setCell (p := ⟨B3, 0, none⟩) (by simp; omega) (.slice tA nt tc')).setCell (p := ⟨B3, 1, none⟩) (by simp; omega) (.slice sa ns sc)
            go_wp2_with fail
            go_meet
            case rel => exact ⟨B3, _, _, rfl, hb2, hrt2, hx2, by omega⟩
        · skip
          go_simp
          obtain ⟨B3, hB3⟩ : ∃ N, V0.heap.size = N := ⟨_, rfl⟩
          have hB3s : w9.heap.size ≤ B3 := by rw [← hB3]; exact hHeld.2.2.size
          obtain ⟨V1, hN⟩ : ∃ X, V0.alloc (.cells #[.slice none 0 0, .slice none 0 0] 25) = X := ⟨_, rfl⟩
          have hz : Ext V0 V1 := by rw [← hN]; exact (by repeat (first | exact Ext.refl _ | assumption | refine Ext.alloc ?_ _ | refine Ext.drew ?_ | refine Ext.drewN _ ?_ | refine Ext.trans ?_ (by assumption)))
          have hbox : Cls B3 25 #[.slice none 0 0, .slice none 0 0] V1 := by rw [← hN]; exact Cls.newAt _ _ _ hB3.symm
          rw [hN, hB3]
          refine hK.out _ _ (fun _ => ?_) (fun hHeld => ?_)
          · exact ⟨Ext.cell hz hHeld.1, Ext.cell hz hHeld.2.1, hHeld.2.2.trans hz⟩
          replace hHeld := hHeld (by decide)
          clear hK K
          clear hN hB3
          (try replace hlit := RowT.ext hlit hz)
          (try replace hrt := RowT.ext hrt hz)
          clear hz
          try simp only [Act.put, xA1, xA2, xA3, xA4, xA5, xA6]
          refine wpAnyL_one (i := 0) (by kernel_rfl) rfl (fun K hK => ?_)
          go_simp
          obtain ⟨LB, hLB⟩ : ∃ N, V1.heap.size = N := ⟨_, rfl⟩
          obtain ⟨V2, hN⟩ : ∃ X, V1.alloc (.cells #[] 45) = X := ⟨_, rfl⟩
          have hz : Ext V1 V2 := by rw [← hN]; exact (by repeat (first | exact Ext.refl _ | assumption | refine Ext.alloc ?_ _ | refine Ext.drew ?_ | refine Ext.drewN _ ?_ | refine Ext.trans ?_ (by assumption)))
          have hlit : RowT w9.heap.size (.slice (some ⟨LB, 0, none⟩) 0 0) [] V2 := by rw [← hN, ← hLB]; exact rowT_lit0 _ hHeld.2.2.size
          rw [hN, hLB]
          refine hK.out _ _ (fun _ => ?_) (fun hHeld => ?_)
          · exact ⟨Ext.cell hz hHeld.1, Ext.cell hz hHeld.2.1, hHeld.2.2.trans hz⟩
          replace hHeld := hHeld (by decide)
          clear hK K
          clear hN hLB
          (try replace hbox := hbox.ext hz)
          clear hz
          try simp only [Act.put, xA1, xA2, xA3, xA4, xA5, xA6]
          refine wpAnyL_one (i := 3) (by kernel_rfl) rfl (fun K hK => ?_)
          rw [if_pos (by rfl)]
          obtain ⟨v8, V3, hrun, hrt, hz⟩ := run_append_lit0T V2 22 w9.heap.size LB _ P.ts hlit (HhTT2.out.ext hHeld.2.2) hHeld.2.2.size (by have h1 := HOK.out.lt; have h2 := HhntP.out; omega)
          refine oper_append _ _ 22 rfl _ _ v8 V3 rfl rfl hrun ?_
          refine hK.out _ _ (fun _ => ?_) (fun hHeld => ?_)
          · exact ⟨Ext.cell hz hHeld.1, Ext.cell hz hHeld.2.1, hHeld.2.2.trans hz⟩
          replace hHeld := hHeld (by decide)
          clear hK K
          obtain ⟨tA, tc', htv⟩ := RowK.form hrt
          rw [HhntP.out] at htv
          subst htv
          (try replace hbox := hbox.ext hz)
          clear hrun hlit
          clear hz
          try simp only [Act.put, xA1, xA2, xA3, xA4, xA5, xA6]
          (refine tkL (i := 6) (v := ?_) rfl ?_ ?_; rotate_left 1; (focus (intro w hSw; (try dsimp only at hSw); go_simp; try (with_reducible rfl))))
          try simp only [Act.put, xA1, xA2, xA3, xA4, xA5, xA6]
          refine wpAnyL_one (i := 8) (by kernel_rfl) rfl (fun K hK => ?_)
          have k0 := hbox.frozen 0
          have k1 := hbox.frozen 1
          have k2 := hbox.cell 0
          have k3 := hbox.cell 1
          go_simp
          refine hK.out _ _ (fun h => absurd rfl h) (fun _ => ?_)
          clear hK K
          try simp only [Act.put, xA1, xA2, xA3, xA4, xA5, xA6]
          refine wpAnyL_done (by kernel_rfl) ?_ _
          have hb2 := (hbox.set 0 (.slice tA nt tc')).set 1 (.slice sa ns sc)
          have hrt2 := rowK_setC (j := 1) (u := .slice sa ns sc) (rowK_setC (j := 0) (u := .slice tA nt tc') hrt hbox (by decide)) (hbox.set 0 _) (by decide)
          have hx2 := (hHeld.2.2.setCell (p := ⟨B3, 0, none⟩) (by simp; omega) (.slice tA nt tc')).setCell (p := ⟨B3, 1, none⟩) (by simp; omega) (.slice sa ns sc)
          go_wp2_with fail
          go_meet
          case rel => exact ⟨B3, _, _, rfl, hb2, hrt2, hx2, by omega⟩
      case rest =>
        obtain ⟨B, tA, tc', rfl, hb, hrt, hxc, hB0⟩ := hcut
        have hws := hx9.size
        replace d0 := hxc.cell d0
        replace d1 := hxc.cell d1
        replace e0 := hxc.cell e0
        replace e1 := hxc.cell e1
        replace s0 := hxc.cell s0
        replace s1 := hxc.cell s1
        replace hl := hl.ext hxc
        have hxa := hx9.trans hxc
        have hrt0 := hrt
        rw [← HhntP.out] at hrt0
        obtain ⟨gt, tct, gcs, hv, hgt, hgb⟩ := rowT_cls hrt0 (by have := HhntP.out; omega)
        rw [HhntP.out] at hv
        simp only [Value.slice.injEq] at hv
        obtain ⟨rfl, _, rfl⟩ := hv
        have kf := hgt.frozen (k * 2 + 1)
        have hte := hrt0.at_
        rw [HhntP.out] at hte
        obtain ⟨bt, ot, hbt, c0, c1⟩ := TesAt.get hte k HK.out
        simp only [Option.some.injEq, Addr.mk.injEq, and_true] at hbt
        obtain ⟨rfl, rfl⟩ := hbt
        rw [Nat.zero_add] at c1
        clear hte c0
        have b0 := hb.cell 0
        have b1 := hb.cell 1
        have hBg : B ≠ gt := fun e => by subst e; exact absurd (hb.symm.trans hgt) (by simp)
        have hmx : max 0 lo = lo := by omega
        have hmx2 : ¬ lo < 0 := by omega
        have hmx3 : 0 ≤ lo := hlo0
        have hki : (k : Int) < nt := by omega
        have hset := rowT_set hrt0 HK.out lo
        rw [← setM_is HK.out lo, HhntP.out] at hset
        obtain ⟨WA, hWA⟩ : ∃ W, wc.setCell ⟨gt, k * 2 + 1, none⟩ (.int .i64 lo) = W := ⟨_, rfl⟩
        rw [hWA] at hset
        have hxA : Ext w WA := by rw [← hWA]; exact hxa.setCell (by simp; omega) _
        have hxlA : Ext w9 WA := by rw [← hWA]; exact hxc.setCell (by simp; omega) _
        have hbA : Cls B 25 #[.slice (some ⟨gt, 0, none⟩) nt tc', .slice sa ns sc] WA := by rw [← hWA]; exact hb.other hBg _ _
        have hgA : ∃ cs, Cls gt 45 cs WA := ⟨_, by rw [← hWA]; exact hgt.set _ _⟩
        have hlA : IntsAt WA (.slice xa xl xc) LX := hlW.ext hxlA
        have D0 := hxlA.cell d0w
        have D1 := hxlA.cell d1w
        have S0 := hxlA.cell s0w
        have S1 := hxlA.cell s1w
        have B0 := hbA.cell 0
        have B1 := hbA.cell 1
        clear hl hrt hrt0 hb hgt hxc
        have hTA : TesAt WA (.slice (some ⟨gt, 0, none⟩) nt tc') (setM P k lo).ts := by
          have h9 := RowK.at_ fT_len (show RowK 45 fT 2 _ _ (setM P k lo).ts WA from rowT_len HhntP.out hset)
          exact h9
        have KM1 := GKM.out k lo WA (.slice (some ⟨gt, 0, none⟩) nt tc') hxA hTA
        rw [HST.out.1, HST.out.2] at KM1
        have HKM1 := Lib.hid KM1
        have HSET := Lib.hid hset
        have HTA := Lib.hid hTA
        clear KM1 hset hTA
        go_wp2_with fail
        refine HKM1.out.mono ?_
        rintro e wm ⟨u, rfl, hm, hz⟩
        obtain ⟨ma, mc, rfl, _⟩ := hm.len
        obtain ⟨ml, hml⟩ : ∃ n, LX.length = n := ⟨_, rfl⟩
        rw [hml] at hm ⊢
        clear hml HKM1 hWA c1 kf d0 d1 s0 s1 e0 e1 b0 b1
        have hxm := hxA.trans hz
        replace hxlA := hxlA.trans hz
        replace hlA := hlA.ext hz
        replace D0 := hz.cell D0
        replace D1 := hz.cell D1
        replace S0 := hz.cell S0
        replace S1 := hz.cell S1
        replace B0 := hz.cell B0
        replace B1 := hz.cell B1
        have hgM : ∃ cs, Cls gt 45 cs wm := by obtain ⟨cs, h⟩ := hgA; exact ⟨cs, h.ext hz⟩
        have HSET2 := Lib.hid (RowK.ext HSET.out hz)
        clear hz hgA HSET HTA
        go_wp2_with fail
        refine (refSame_any _ _ LX LX wm hlA hm HLX2.out).mono ?_
        rintro e wn ⟨rfl, hz⟩
        have hdd : decide (LX = LX) = true := decide_eq_true rfl
        have hxn := hxm.trans hz
        replace hxlA := hxlA.trans hz
        replace hlA := hlA.ext hz
        replace D0 := hz.cell D0
        replace D1 := hz.cell D1
        replace S0 := hz.cell S0
        replace S1 := hz.cell S1
        replace B0 := hz.cell B0
        replace B1 := hz.cell B1
        obtain ⟨cs2, hgN⟩ : ∃ cs, Cls gt 45 cs wn := by obtain ⟨cs, h⟩ := hgM; exact ⟨cs, h.ext hz⟩
        have HSET3 := Lib.hid (RowK.ext HSET2.out hz)
        clear hz hgM HSET2 hm
        by_cases hl1 : lo < 1
        · have hb1 : decide (lo < 1) = true := decide_eq_true hl1
          go_wp2_with fail
          go_ret
          exact ⟨rfl, hxn⟩
        · have hb1 : decide (lo < 1) = false := decide_eq_false hl1
          obtain ⟨hne, hc2⟩ := HLE.out (by omega)
          have kf := hgN.frozen (k * 2 + 1)
          have hml : (setM P k lo).ts.length = nt := by rw [setM_len, HhntP.out]
          have hk2 : k < (setM P k lo).ts.length := by rw [hml]; exact hkn
          have hrt0 := rowT_lenB hml HSET3.out
          have hte := RowK.at_ fT_len hrt0
          have hset := rowT_set hrt0 hk2 (lo - 1)
          rw [← setM_is hk2 (lo - 1), setM_setM HK.out, hml] at hset
          rw [hml] at hte
          obtain ⟨bt, ot, hbt, c0, c1⟩ := TesAt.get hte k hk2
          simp only [Option.some.injEq, Addr.mk.injEq, and_true] at hbt
          obtain ⟨rfl, rfl⟩ := hbt
          rw [Nat.zero_add] at c1
          obtain ⟨z9, c9⟩ : ∃ z, wn.cell? ⟨gt, k * 2 + 1, none⟩ = some z := ⟨_, c1⟩
          clear c0 c1 hte hrt0
          have hw2 : IntKind.i64.wrap (lo - 1) = lo - 1 := IntWalk.i64_in _ (by omega)
          obtain ⟨WC, hWC⟩ : ∃ W, wn.setCell ⟨gt, k * 2 + 1, none⟩ (.int .i64 (lo - 1)) = W := ⟨_, rfl⟩
          rw [hWC] at hset
          have hxC : Ext w WC := by rw [← hWC]; exact hxn.setCell (by simp; omega) _
          have hlC : IntsAt WC (.slice xa xl xc) LX := hlW.ext (by rw [← hWC]; exact hxlA.setCell (by simp; omega) _)
          have hBg2 : B ≠ gt := hBg
          have E0 : WC.cell? ⟨B, 0, none⟩ = some (.slice (some ⟨gt, 0, none⟩) nt tc') := by rw [← hWC, World.cell?_setCell_other _ _ _ _ (by first | (simp; done) | (simp; omega))]; exact B0
          have E1 : WC.cell? ⟨B, 1, none⟩ = some (.slice sa ns sc) := by rw [← hWC, World.cell?_setCell_other _ _ _ _ (by first | (simp; done) | (simp; omega))]; exact B1
          have hTC : TesAt WC (.slice (some ⟨gt, 0, none⟩) nt tc') (setM P k (lo - 1)).ts := by
            have h9 := RowK.at_ fT_len (show RowK 45 fT 2 _ _ (setM P k (lo - 1)).ts WC from rowT_len HhntP.out hset)
            exact h9
          have KM2 := GKM.out k (lo - 1) WC (.slice (some ⟨gt, 0, none⟩) nt tc') hxC hTC
          rw [hc2] at KM2
          obtain ⟨LY, hLY⟩ : ∃ x, ladX (setM P k (lo - 1)) = x := ⟨_, rfl⟩
          rw [hLY] at KM2 hne
          have hdn : decide (LX = LY) = false := decide_eq_false (fun e => hne e.symm)
          have HKM2 := Lib.hid KM2
          clear KM2 hset hTC hne hc2 hLY hgN hml hk2
          go_wp2_with fail
          refine HKM2.out.mono ?_
          rintro e wp ⟨u, rfl, hm, hz⟩
          obtain ⟨pa2, pc2, rfl, _⟩ := hm.len
          replace hlC := hlC.ext hz
          have hxp := hxC.trans hz
          clear hz HKM2 hWC c9 kf
          go_wp2_with fail
          refine (refSame_any _ _ LX LY wp hlC hm HLX2.out).mono ?_
          rintro e wq ⟨rfl, hz⟩
          rw [hdn]
          go_wp2_with fail
          go_ret
          exact ⟨rfl, hxp.trans hz⟩
    · have hc : (CF == 0) = false := by simpa using hcf
      clear hcf
      go_wp2_with fail
      refine (GKL.out _ hx7).mono ?_
      rintro e w8 ⟨u, rfl, hl, hz⟩
      have hx8 := hx7.trans hz
      replace d0 := hz.cell d0
      replace d1 := hz.cell d1
      replace e0 := hz.cell e0
      replace e1 := hz.cell e1
      replace s0 := hz.cell s0
      replace s1 := hz.cell s1
      clear hz hx7
      obtain ⟨xa, xc, rfl, _⟩ := hl.len
      obtain ⟨xl, hxl_⟩ : ∃ n, LX.length = n := ⟨_, rfl⟩
      rw [hxl_] at hl ⊢
      clear hxl_
      have hlW := hl
      have d0w := d0
      have d1w := d1
      have s0w := s0
      have s1w := s1
      go_upto_region 14 with fail
      go_cut [15] (fun p W => ∃ (B : Nat) (tA : Option Addr) (tc' : Nat), p = .pointer (some ⟨B, 0, none⟩) ∧ Cls B 25 #[.slice tA nt tc', .slice sa ns sc] W ∧ RowT w8.heap.size (.slice tA nt tc') P.ts W ∧ Ext w8 W ∧ w8.heap.size ≤ B)
      case first =>
        have hTT2 : TesAt w8 (.slice ta nt tc) P.ts := HhTT.out.ext hx8
        have HhTT2 := Lib.hid hTT2
        clear hTT2
        have hws : w.heap.size ≤ w8.heap.size := hx8.size
        refine wp_region_last (z := 8) (S := fun W' => W'.cell? ⟨w.heap.size, 0, none⟩ = some (.slice ta nt tc) ∧ W'.cell? ⟨w.heap.size, 1, none⟩ = some (.slice sa ns sc) ∧ Ext w8 W') (by kernel_rfl) ?_ (fun hHeld => ?_)
        · exact ⟨d0, d1, Ext.drew (Ext.refl _)⟩
        obtain ⟨V0, hV0⟩ : ∃ V, World.drew w8 = V := ⟨_, rfl⟩
        rw [hV0] at hHeld ⊢
        clear hV0
        (refine tkL (i := 1) (v := ?_) rfl ?_ ?_; rotate_left 1; (focus (intro w hSw; (try dsimp only at hSw); go_simp; try (with_reducible rfl))))
        try simp only [Act.put, xA1, xA4]
        (refine tkL (i := 2) (v := ?_) rfl ?_ ?_; rotate_left 1; (focus (intro w hSw; (try dsimp only at hSw); go_simp; try (with_reducible rfl))))
        try simp only [Act.put, xA1, xA2, xA3, xA4, xA5, xA6]
        (refine tkL (i := 4) (v := ?_) rfl ?_ ?_; rotate_left 1; (focus (intro w hSw; (try dsimp only at hSw); go_simp; try (with_reducible rfl))))
        try simp only [Act.put, xA1, xA2, xA3, xA4, xA5, xA6]
        (refine tkL (i := 5) (v := ?_) rfl ?_ ?_; rotate_left 1; (focus (intro w hSw; (try dsimp only at hSw); go_simp; try (with_reducible rfl))))
        try simp only [Act.put, xA1, xA2, xA3, xA4, xA5, xA6]
        refine wpAnyL_two (i := 0) (j := 7) (by kernel_rfl) rfl rfl (fun K hK => ?_) (fun K hK => ?_)
        · skip
          go_simp
          obtain ⟨LB, hLB⟩ : ∃ N, V0.heap.size = N := ⟨_, rfl⟩
          obtain ⟨V1, hN⟩ : ∃ X, V0.alloc (.cells #[] 45) = X := ⟨_, rfl⟩
          have hz : Ext V0 V1 := by rw [← hN]; exact (by repeat (first | exact Ext.refl _ | assumption | refine Ext.alloc ?_ _ | refine Ext.drew ?_ | refine Ext.drewN _ ?_ | refine Ext.trans ?_ (by assumption)))
          have hlit : RowT w8.heap.size (.slice (some ⟨LB, 0, none⟩) 0 0) [] V1 := by rw [← hN, ← hLB]; exact rowT_lit0 _ hHeld.2.2.size
          rw [hN, hLB]
          refine hK.out _ _ (fun _ => ?_) (fun hHeld => ?_)
          · exact ⟨Ext.cell hz hHeld.1, Ext.cell hz hHeld.2.1, hHeld.2.2.trans hz⟩
          replace hHeld := hHeld (by decide)
          clear hK K
          clear hN hLB
          (try replace hbox := hbox.ext hz)
          clear hz
          try simp only [Act.put, xA1, xA2, xA3, xA4, xA5, xA6]
          refine wpAnyL_two (i := 3) (j := 7) (by kernel_rfl) rfl rfl (fun K hK => ?_) (fun K hK => ?_)
          · skip
            rw [if_pos (by rfl)]
            obtain ⟨v8, V2, hrun, hrt, hz⟩ := run_append_lit0T V1 22 w8.heap.size LB _ P.ts hlit (HhTT2.out.ext hHeld.2.2) hHeld.2.2.size (by have h1 := HOK.out.lt; have h2 := HhntP.out; omega)
            refine oper_append _ _ 22 rfl _ _ v8 V2 rfl rfl hrun ?_
            refine hK.out _ _ (fun _ => ?_) (fun hHeld => ?_)
            · exact ⟨Ext.cell hz hHeld.1, Ext.cell hz hHeld.2.1, hHeld.2.2.trans hz⟩
            replace hHeld := hHeld (by decide)
            clear hK K
            obtain ⟨tA, tc', htv⟩ := RowK.form hrt
            rw [HhntP.out] at htv
            subst htv
            (try replace hbox := hbox.ext hz)
            clear hrun hlit
            clear hz
            try simp only [Act.put, xA1, xA2, xA3, xA4, xA5, xA6]
            (refine tkL (i := 6) (v := ?_) rfl ?_ ?_; rotate_left 1; (focus (intro w hSw; (try dsimp only at hSw); go_simp; try (with_reducible rfl))))
            try simp only [Act.put, xA1, xA2, xA3, xA4, xA5, xA6]
            refine wpAnyL_one (i := 7) (by kernel_rfl) rfl (fun K hK => ?_)
            go_simp
            obtain ⟨B3, hB3⟩ : ∃ N, V2.heap.size = N := ⟨_, rfl⟩
            have hB3s : w8.heap.size ≤ B3 := by rw [← hB3]; exact hHeld.2.2.size
            obtain ⟨V3, hN⟩ : ∃ X, V2.alloc (.cells #[.slice none 0 0, .slice none 0 0] 25) = X := ⟨_, rfl⟩
            have hz : Ext V2 V3 := by rw [← hN]; exact (by repeat (first | exact Ext.refl _ | assumption | refine Ext.alloc ?_ _ | refine Ext.drew ?_ | refine Ext.drewN _ ?_ | refine Ext.trans ?_ (by assumption)))
            have hbox : Cls B3 25 #[.slice none 0 0, .slice none 0 0] V3 := by rw [← hN]; exact Cls.newAt _ _ _ hB3.symm
            rw [hN, hB3]
            refine hK.out _ _ (fun _ => ?_) (fun hHeld => ?_)
            · exact ⟨Ext.cell hz hHeld.1, Ext.cell hz hHeld.2.1, hHeld.2.2.trans hz⟩
            replace hHeld := hHeld (by decide)
            clear hK K
            clear hN hB3
            (try replace hlit := RowT.ext hlit hz)
            (try replace hrt := RowT.ext hrt hz)
            clear hz
            try simp only [Act.put, xA1, xA2, xA3, xA4, xA5, xA6]
            refine wpAnyL_one (i := 8) (by kernel_rfl) rfl (fun K hK => ?_)
            have k0 := hbox.frozen 0
            have k1 := hbox.frozen 1
            have k2 := hbox.cell 0
            have k3 := hbox.cell 1
            go_simp
            refine hK.out _ _ (fun h => absurd rfl h) (fun _ => ?_)
            clear hK K
            try simp only [Act.put, xA1, xA2, xA3, xA4, xA5, xA6]
            refine wpAnyL_done (by kernel_rfl) ?_ _
            have hb2 := (hbox.set 0 (.slice tA nt tc')).set 1 (.slice sa ns sc)
            have hrt2 := rowK_setC (j := 1) (u := .slice sa ns sc) (rowK_setC (j := 0) (u := .slice tA nt tc') hrt hbox (by decide)) (hbox.set 0 _) (by decide)
            have hx2 := (hHeld.2.2.setCell (p := ⟨B3, 0, none⟩) (by simp; omega) (.slice tA nt tc')).setCell (p := ⟨B3, 1, none⟩) (by simp; omega) (.slice sa ns sc)
            go_wp2_with fail
            go_meet
            case rel => exact ⟨B3, _, _, rfl, hb2, hrt2, hx2, by omega⟩
          · skip
            go_simp
            obtain ⟨B3, hB3⟩ : ∃ N, V1.heap.size = N := ⟨_, rfl⟩
            have hB3s : w8.heap.size ≤ B3 := by rw [← hB3]; exact hHeld.2.2.size
            obtain ⟨V2, hN⟩ : ∃ X, V1.alloc (.cells #[.slice none 0 0, .slice none 0 0] 25) = X := ⟨_, rfl⟩
            have hz : Ext V1 V2 := by rw [← hN]; exact (by repeat (first | exact Ext.refl _ | assumption | refine Ext.alloc ?_ _ | refine Ext.drew ?_ | refine Ext.drewN _ ?_ | refine Ext.trans ?_ (by assumption)))
            have hbox : Cls B3 25 #[.slice none 0 0, .slice none 0 0] V2 := by rw [← hN]; exact Cls.newAt _ _ _ hB3.symm
            rw [hN, hB3]
            refine hK.out _ _ (fun _ => ?_) (fun hHeld => ?_)
            · exact ⟨Ext.cell hz hHeld.1, Ext.cell hz hHeld.2.1, hHeld.2.2.trans hz⟩
            replace hHeld := hHeld (by decide)
            clear hK K
            clear hN hB3
            (try replace hlit := RowT.ext hlit hz)
            (try replace hrt := RowT.ext hrt hz)
            clear hz
            try simp only [Act.put, xA1, xA2, xA3, xA4, xA5, xA6]
            refine wpAnyL_one (i := 3) (by kernel_rfl) rfl (fun K hK => ?_)
            rw [if_pos (by rfl)]
            obtain ⟨v8, V3, hrun, hrt, hz⟩ := run_append_lit0T V2 22 w8.heap.size LB _ P.ts hlit (HhTT2.out.ext hHeld.2.2) hHeld.2.2.size (by have h1 := HOK.out.lt; have h2 := HhntP.out; omega)
            refine oper_append _ _ 22 rfl _ _ v8 V3 rfl rfl hrun ?_
            refine hK.out _ _ (fun _ => ?_) (fun hHeld => ?_)
            · exact ⟨Ext.cell hz hHeld.1, Ext.cell hz hHeld.2.1, hHeld.2.2.trans hz⟩
            replace hHeld := hHeld (by decide)
            clear hK K
            obtain ⟨tA, tc', htv⟩ := RowK.form hrt
            rw [HhntP.out] at htv
            subst htv
            (try replace hbox := hbox.ext hz)
            clear hrun hlit
            clear hz
            try simp only [Act.put, xA1, xA2, xA3, xA4, xA5, xA6]
            (refine tkL (i := 6) (v := ?_) rfl ?_ ?_; rotate_left 1; (focus (intro w hSw; (try dsimp only at hSw); go_simp; try (with_reducible rfl))))
            try simp only [Act.put, xA1, xA2, xA3, xA4, xA5, xA6]
            refine wpAnyL_one (i := 8) (by kernel_rfl) rfl (fun K hK => ?_)
            have k0 := hbox.frozen 0
            have k1 := hbox.frozen 1
            have k2 := hbox.cell 0
            have k3 := hbox.cell 1
            go_simp
            refine hK.out _ _ (fun h => absurd rfl h) (fun _ => ?_)
            clear hK K
            try simp only [Act.put, xA1, xA2, xA3, xA4, xA5, xA6]
            refine wpAnyL_done (by kernel_rfl) ?_ _
            have hb2 := (hbox.set 0 (.slice tA nt tc')).set 1 (.slice sa ns sc)
            have hrt2 := rowK_setC (j := 1) (u := .slice sa ns sc) (rowK_setC (j := 0) (u := .slice tA nt tc') hrt hbox (by decide)) (hbox.set 0 _) (by decide)
            have hx2 := (hHeld.2.2.setCell (p := ⟨B3, 0, none⟩) (by simp; omega) (.slice tA nt tc')).setCell (p := ⟨B3, 1, none⟩) (by simp; omega) (.slice sa ns sc)
            go_wp2_with fail
            go_meet
            case rel => exact ⟨B3, _, _, rfl, hb2, hrt2, hx2, by omega⟩
        · skip
          go_simp
          obtain ⟨B3, hB3⟩ : ∃ N, V0.heap.size = N := ⟨_, rfl⟩
          have hB3s : w8.heap.size ≤ B3 := by rw [← hB3]; exact hHeld.2.2.size
          obtain ⟨V1, hN⟩ : ∃ X, V0.alloc (.cells #[.slice none 0 0, .slice none 0 0] 25) = X := ⟨_, rfl⟩
          have hz : Ext V0 V1 := by rw [← hN]; exact (by repeat (first | exact Ext.refl _ | assumption | refine Ext.alloc ?_ _ | refine Ext.drew ?_ | refine Ext.drewN _ ?_ | refine Ext.trans ?_ (by assumption)))
          have hbox : Cls B3 25 #[.slice none 0 0, .slice none 0 0] V1 := by rw [← hN]; exact Cls.newAt _ _ _ hB3.symm
          rw [hN, hB3]
          refine hK.out _ _ (fun _ => ?_) (fun hHeld => ?_)
          · exact ⟨Ext.cell hz hHeld.1, Ext.cell hz hHeld.2.1, hHeld.2.2.trans hz⟩
          replace hHeld := hHeld (by decide)
          clear hK K
          clear hN hB3
          (try replace hlit := RowT.ext hlit hz)
          (try replace hrt := RowT.ext hrt hz)
          clear hz
          try simp only [Act.put, xA1, xA2, xA3, xA4, xA5, xA6]
          refine wpAnyL_one (i := 0) (by kernel_rfl) rfl (fun K hK => ?_)
          go_simp
          obtain ⟨LB, hLB⟩ : ∃ N, V1.heap.size = N := ⟨_, rfl⟩
          obtain ⟨V2, hN⟩ : ∃ X, V1.alloc (.cells #[] 45) = X := ⟨_, rfl⟩
          have hz : Ext V1 V2 := by rw [← hN]; exact (by repeat (first | exact Ext.refl _ | assumption | refine Ext.alloc ?_ _ | refine Ext.drew ?_ | refine Ext.drewN _ ?_ | refine Ext.trans ?_ (by assumption)))
          have hlit : RowT w8.heap.size (.slice (some ⟨LB, 0, none⟩) 0 0) [] V2 := by rw [← hN, ← hLB]; exact rowT_lit0 _ hHeld.2.2.size
          rw [hN, hLB]
          refine hK.out _ _ (fun _ => ?_) (fun hHeld => ?_)
          · exact ⟨Ext.cell hz hHeld.1, Ext.cell hz hHeld.2.1, hHeld.2.2.trans hz⟩
          replace hHeld := hHeld (by decide)
          clear hK K
          clear hN hLB
          (try replace hbox := hbox.ext hz)
          clear hz
          try simp only [Act.put, xA1, xA2, xA3, xA4, xA5, xA6]
          refine wpAnyL_one (i := 3) (by kernel_rfl) rfl (fun K hK => ?_)
          rw [if_pos (by rfl)]
          obtain ⟨v8, V3, hrun, hrt, hz⟩ := run_append_lit0T V2 22 w8.heap.size LB _ P.ts hlit (HhTT2.out.ext hHeld.2.2) hHeld.2.2.size (by have h1 := HOK.out.lt; have h2 := HhntP.out; omega)
          refine oper_append _ _ 22 rfl _ _ v8 V3 rfl rfl hrun ?_
          refine hK.out _ _ (fun _ => ?_) (fun hHeld => ?_)
          · exact ⟨Ext.cell hz hHeld.1, Ext.cell hz hHeld.2.1, hHeld.2.2.trans hz⟩
          replace hHeld := hHeld (by decide)
          clear hK K
          obtain ⟨tA, tc', htv⟩ := RowK.form hrt
          rw [HhntP.out] at htv
          subst htv
          (try replace hbox := hbox.ext hz)
          clear hrun hlit
          clear hz
          try simp only [Act.put, xA1, xA2, xA3, xA4, xA5, xA6]
          (refine tkL (i := 6) (v := ?_) rfl ?_ ?_; rotate_left 1; (focus (intro w hSw; (try dsimp only at hSw); go_simp; try (with_reducible rfl))))
          try simp only [Act.put, xA1, xA2, xA3, xA4, xA5, xA6]
          refine wpAnyL_one (i := 8) (by kernel_rfl) rfl (fun K hK => ?_)
          have k0 := hbox.frozen 0
          have k1 := hbox.frozen 1
          have k2 := hbox.cell 0
          have k3 := hbox.cell 1
          go_simp
          refine hK.out _ _ (fun h => absurd rfl h) (fun _ => ?_)
          clear hK K
          try simp only [Act.put, xA1, xA2, xA3, xA4, xA5, xA6]
          refine wpAnyL_done (by kernel_rfl) ?_ _
          have hb2 := (hbox.set 0 (.slice tA nt tc')).set 1 (.slice sa ns sc)
          have hrt2 := rowK_setC (j := 1) (u := .slice sa ns sc) (rowK_setC (j := 0) (u := .slice tA nt tc') hrt hbox (by decide)) (hbox.set 0 _) (by decide)
          have hx2 := (hHeld.2.2.setCell (p := ⟨B3, 0, none⟩) (by simp; omega) (.slice tA nt tc')).setCell (p := ⟨B3, 1, none⟩) (by simp; omega) (.slice sa ns sc)
          go_wp2_with fail
          go_meet
          case rel => exact ⟨B3, _, _, rfl, hb2, hrt2, hx2, by omega⟩
      case rest =>
        obtain ⟨B, tA, tc', rfl, hb, hrt, hxc, hB0⟩ := hcut
        have hws := hx8.size
        replace d0 := hxc.cell d0
        replace d1 := hxc.cell d1
        replace e0 := hxc.cell e0
        replace e1 := hxc.cell e1
        replace s0 := hxc.cell s0
        replace s1 := hxc.cell s1
        replace hl := hl.ext hxc
        have hxa := hx8.trans hxc
        have hrt0 := hrt
        rw [← HhntP.out] at hrt0
        obtain ⟨gt, tct, gcs, hv, hgt, hgb⟩ := rowT_cls hrt0 (by have := HhntP.out; omega)
        rw [HhntP.out] at hv
        simp only [Value.slice.injEq] at hv
        obtain ⟨rfl, _, rfl⟩ := hv
        have kf := hgt.frozen (k * 2 + 1)
        have hte := hrt0.at_
        rw [HhntP.out] at hte
        obtain ⟨bt, ot, hbt, c0, c1⟩ := TesAt.get hte k HK.out
        simp only [Option.some.injEq, Addr.mk.injEq, and_true] at hbt
        obtain ⟨rfl, rfl⟩ := hbt
        rw [Nat.zero_add] at c1
        clear hte c0
        have b0 := hb.cell 0
        have b1 := hb.cell 1
        have hBg : B ≠ gt := fun e => by subst e; exact absurd (hb.symm.trans hgt) (by simp)
        have hmx : max 0 lo = lo := by omega
        have hmx2 : ¬ lo < 0 := by omega
        have hmx3 : 0 ≤ lo := hlo0
        have hki : (k : Int) < nt := by omega
        have hset := rowT_set hrt0 HK.out lo
        rw [← setM_is HK.out lo, HhntP.out] at hset
        obtain ⟨WA, hWA⟩ : ∃ W, wc.setCell ⟨gt, k * 2 + 1, none⟩ (.int .i64 lo) = W := ⟨_, rfl⟩
        rw [hWA] at hset
        have hxA : Ext w WA := by rw [← hWA]; exact hxa.setCell (by simp; omega) _
        have hxlA : Ext w8 WA := by rw [← hWA]; exact hxc.setCell (by simp; omega) _
        have hbA : Cls B 25 #[.slice (some ⟨gt, 0, none⟩) nt tc', .slice sa ns sc] WA := by rw [← hWA]; exact hb.other hBg _ _
        have hgA : ∃ cs, Cls gt 45 cs WA := ⟨_, by rw [← hWA]; exact hgt.set _ _⟩
        have hlA : IntsAt WA (.slice xa xl xc) LX := hlW.ext hxlA
        have D0 := hxlA.cell d0w
        have D1 := hxlA.cell d1w
        have S0 := hxlA.cell s0w
        have S1 := hxlA.cell s1w
        have B0 := hbA.cell 0
        have B1 := hbA.cell 1
        clear hl hrt hrt0 hb hgt hxc
        have hTA : TesAt WA (.slice (some ⟨gt, 0, none⟩) nt tc') (setM P k lo).ts := by
          have h9 := RowK.at_ fT_len (show RowK 45 fT 2 _ _ (setM P k lo).ts WA from rowT_len HhntP.out hset)
          exact h9
        have KM1 := GKM.out k lo WA (.slice (some ⟨gt, 0, none⟩) nt tc') hxA hTA
        rw [HST.out.1, HST.out.2] at KM1
        have HKM1 := Lib.hid KM1
        have HSET := Lib.hid hset
        have HTA := Lib.hid hTA
        clear KM1 hset hTA
        go_wp2_with fail
        refine HKM1.out.mono ?_
        rintro e wm ⟨u, rfl, hm, hz⟩
        obtain ⟨ma, mc, rfl, _⟩ := hm.len
        obtain ⟨ml, hml⟩ : ∃ n, LX.length = n := ⟨_, rfl⟩
        rw [hml] at hm ⊢
        clear hml HKM1 hWA c1 kf d0 d1 s0 s1 e0 e1 b0 b1
        have hxm := hxA.trans hz
        replace hxlA := hxlA.trans hz
        replace hlA := hlA.ext hz
        replace D0 := hz.cell D0
        replace D1 := hz.cell D1
        replace S0 := hz.cell S0
        replace S1 := hz.cell S1
        replace B0 := hz.cell B0
        replace B1 := hz.cell B1
        have hgM : ∃ cs, Cls gt 45 cs wm := by obtain ⟨cs, h⟩ := hgA; exact ⟨cs, h.ext hz⟩
        have HSET2 := Lib.hid (RowK.ext HSET.out hz)
        clear hz hgA HSET HTA
        go_wp2_with fail
        refine (refSame_any _ _ LX LX wm hlA hm HLX2.out).mono ?_
        rintro e wn ⟨rfl, hz⟩
        have hdd : decide (LX = LX) = true := decide_eq_true rfl
        have hxn := hxm.trans hz
        replace hxlA := hxlA.trans hz
        replace hlA := hlA.ext hz
        replace D0 := hz.cell D0
        replace D1 := hz.cell D1
        replace S0 := hz.cell S0
        replace S1 := hz.cell S1
        replace B0 := hz.cell B0
        replace B1 := hz.cell B1
        obtain ⟨cs2, hgN⟩ : ∃ cs, Cls gt 45 cs wn := by obtain ⟨cs, h⟩ := hgM; exact ⟨cs, h.ext hz⟩
        have HSET3 := Lib.hid (RowK.ext HSET2.out hz)
        clear hz hgM HSET2 hm
        by_cases hl1 : lo < 1
        · have hb1 : decide (lo < 1) = true := decide_eq_true hl1
          go_wp2_with fail
          go_ret
          exact ⟨rfl, hxn⟩
        · have hb1 : decide (lo < 1) = false := decide_eq_false hl1
          obtain ⟨hne, hc2⟩ := HLE.out (by omega)
          have kf := hgN.frozen (k * 2 + 1)
          have hml : (setM P k lo).ts.length = nt := by rw [setM_len, HhntP.out]
          have hk2 : k < (setM P k lo).ts.length := by rw [hml]; exact hkn
          have hrt0 := rowT_lenB hml HSET3.out
          have hte := RowK.at_ fT_len hrt0
          have hset := rowT_set hrt0 hk2 (lo - 1)
          rw [← setM_is hk2 (lo - 1), setM_setM HK.out, hml] at hset
          rw [hml] at hte
          obtain ⟨bt, ot, hbt, c0, c1⟩ := TesAt.get hte k hk2
          simp only [Option.some.injEq, Addr.mk.injEq, and_true] at hbt
          obtain ⟨rfl, rfl⟩ := hbt
          rw [Nat.zero_add] at c1
          obtain ⟨z9, c9⟩ : ∃ z, wn.cell? ⟨gt, k * 2 + 1, none⟩ = some z := ⟨_, c1⟩
          clear c0 c1 hte hrt0
          have hw2 : IntKind.i64.wrap (lo - 1) = lo - 1 := IntWalk.i64_in _ (by omega)
          obtain ⟨WC, hWC⟩ : ∃ W, wn.setCell ⟨gt, k * 2 + 1, none⟩ (.int .i64 (lo - 1)) = W := ⟨_, rfl⟩
          rw [hWC] at hset
          have hxC : Ext w WC := by rw [← hWC]; exact hxn.setCell (by simp; omega) _
          have hlC : IntsAt WC (.slice xa xl xc) LX := hlW.ext (by rw [← hWC]; exact hxlA.setCell (by simp; omega) _)
          have hBg2 : B ≠ gt := hBg
          have E0 : WC.cell? ⟨B, 0, none⟩ = some (.slice (some ⟨gt, 0, none⟩) nt tc') := by rw [← hWC, World.cell?_setCell_other _ _ _ _ (by first | (simp; done) | (simp; omega))]; exact B0
          have E1 : WC.cell? ⟨B, 1, none⟩ = some (.slice sa ns sc) := by rw [← hWC, World.cell?_setCell_other _ _ _ _ (by first | (simp; done) | (simp; omega))]; exact B1
          have hTC : TesAt WC (.slice (some ⟨gt, 0, none⟩) nt tc') (setM P k (lo - 1)).ts := by
            have h9 := RowK.at_ fT_len (show RowK 45 fT 2 _ _ (setM P k (lo - 1)).ts WC from rowT_len HhntP.out hset)
            exact h9
          have KM2 := GKM.out k (lo - 1) WC (.slice (some ⟨gt, 0, none⟩) nt tc') hxC hTC
          rw [hc2] at KM2
          obtain ⟨LY, hLY⟩ : ∃ x, ladX (setM P k (lo - 1)) = x := ⟨_, rfl⟩
          rw [hLY] at KM2 hne
          have hdn : decide (LX = LY) = false := decide_eq_false (fun e => hne e.symm)
          have HKM2 := Lib.hid KM2
          clear KM2 hset hTC hne hc2 hLY hgN hml hk2
          go_wp2_with fail
          refine HKM2.out.mono ?_
          rintro e wp ⟨u, rfl, hm, hz⟩
          obtain ⟨pa2, pc2, rfl, _⟩ := hm.len
          replace hlC := hlC.ext hz
          have hxp := hxC.trans hz
          clear hz HKM2 hWC c9 kf
          go_wp2_with fail
          refine (refSame_any _ _ LX LY wp hlC hm HLX2.out).mono ?_
          rintro e wq ⟨rfl, hz⟩
          rw [hdn]
          go_wp2_with fail
          go_ret
          exact ⟨rfl, hxp.trans hz⟩
end Go.Proofs.Ytiofdfjcaklmcaa
namespace Go.Proofs.Ytiofdfjcaklmcaa.fairSpreads
open Go.ChangeShapes Go.WideShapes Go.ChangeAt Go.RowKit Go.Deep Go.Joins

noncomputable def wArgs : Array Value := #[.agg #[.slice none 0 0, .slice none 0 0], .int .i64 0, .agg #[.slice none 0 0, .slice none 0 0]]
noncomputable def laidWorld (os : Os) : World := World.holding Try.prog os ⟨#[], #[], []⟩

set_option maxRecDepth 100000 in
theorem contract (H : Type) (enc : TypeId × Value → H) (W : World) (base : Nat) (args : Array Value) (ds gs : List (DataW H)) (before : List MemPlace)
    (hval : ∀ (j : Nat) t v, Try.f9.params[j]? = some t → args[j]? = some v → Value.okWide Try.prog W .any base t v)
    (hW : DataW.Whole enc Try.prog Try.f9.params.toList Rows.fairSpreadsSpec.vars false W args.toList ds gs before) :
    Calls Try.prog 9 args W fun e W' => ∃ v, e = .returned v ∧ Rows.fairSpreadsSpec.post enc Try.prog Try.f9 false true false false W args v W' := by
  have hW' := hW
  obtain ⟨p, q, hA, hV, rfl, hfz, hnd⟩ := hW
  rw [show Try.f9.params = #[25, 3, 71] from rfl] at hA hval
  obtain ⟨v0, vs0, d0, ds0, p0, q0, hargs, rfl, rfl, h0, r0⟩ := trodAll_cons hA
  obtain ⟨v1, vs1, d1, ds1, p1, q1, rfl, rfl, rfl, h1, r1⟩ := trodAll_cons r0
  obtain ⟨v2, vs2, d2, ds2, p2, q2, rfl, rfl, rfl, h2, r2⟩ := trodAll_cons r1
  obtain ⟨rfl, rfl, rfl⟩ := trodAll_nil r2
  obtain rfl : args = #[v0, v1, v2] := by cases args; simp_all
  obtain ⟨rfl, rfl⟩ := trodVars_none hV
  obtain ⟨a0, b0, T0, rfl, hT0, hn0⟩ := open_pool (hval 0 25 v0 rfl rfl) h0
  obtain ⟨x1, rfl, _, _, hf1⟩ := open_int Try.underlying3 (hval 1 3 v1 rfl rfl) h1
  obtain ⟨a2, b2, G2, L2, rfl, hG2, hL2⟩ := open_fair (hval 2 71 v2 rfl rfl) h2
  refine (FairSpreads_any _ _ _ _ T0 x1 G2 L2 W hT0 hn0 hG2 hL2).mono fun e W' ⟨he, hg⟩ => ?_
  subst he
  refine ⟨_, rfl, post_true hW' rfl rfl ⟨rfl, rfl, rfl⟩ ?_ hg⟩
  rw [show Try.f9.params = #[25, 3, 71] from rfl]
  intro t ht
  simp only [List.mem_cons, List.not_mem_nil, or_false] at ht
  rcases ht with rfl | rfl | rfl <;> exact ⟨by kernel_rfl, of_decide_eq_true (by kernel_rfl)⟩

set_option maxRecDepth 100000 in
theorem laid_met (os : Os) : laidMet Try.prog Rows.fairSpreadsRow.laid ((laidWorld os).forCall (fun _ _ => 0) ⟨#[], wArgs, []⟩).memory :=
  laidMet_of_run' 8 (by kernel_rfl) (by kernel_rfl)
set_option maxRecDepth 100000 in
theorem reads (os : Os) {H : Type} (enc : TypeId × Value → H) : ∃ x places, DataW.whole enc Try.prog ((laidWorld os).forCall (fun _ _ => 0) ⟨#[], wArgs, []⟩).memory Try.f9.params.toList Rows.fairSpreadsSpec.vars false wArgs.toList 8 = some (x, [], places) :=
  ⟨[.agg [.nil, .nil], .lit (.int .i64 0), .agg [.nil, .nil]], [], by kernel_rfl⟩

set_option maxRecDepth 100000 in
theorem lifted (os : Os) (started : os.Started) (H : Type) (enc : TypeId × Value → H) (F : Stop.Interp) :
    ReturnsInHanded {} Try.checked os 9 .any ((OpenSpec.ofChange Rows.fairSpreadsSpec).preRow enc Try.prog Try.f9 Rows.fairSpreadsRow.domain false Rows.fairSpreadsRow.laid) (((OpenSpec.ofChange Rows.fairSpreadsSpec).at F).post enc Try.prog Try.f9 false true false false) := by
  obtain ⟨x, places, hx⟩ := reads os enc
  refine returnsInHanded_of_row (C := Try.checked) (s := OpenSpec.ofChange Rows.fairSpreadsSpec) own started (by kernel_rfl) Try.func9
    (witness_row_at (enc := enc) (C := Try.checked) false (laidWorld os) wArgs rfl (by kernel_rfl) (by kernel_rfl) (by kernel_rfl)
      (OpenSpec.preRow_of_cond 8 hx (by kernel_rfl) (fun k hk => by cases hk) (by kernel_rfl) (laid_met os))) ?_
  intro W base args ds gs before hval hW _ _ _ hL _ _
  exact contract H enc W base args ds gs before hval hW

set_option maxRecDepth 100000 in
theorem said : Rows.FairSpreadsSaid :=
  OpenClaim.holds_of_cond 9 Try.f9 rfl rfl rfl rfl rfl rfl rfl ⟨rfl, rfl, rfl, rfl, rfl⟩ rfl rfl rfl rfl rfl (by kernel_rfl) Try.func9 (by kernel_rfl)
    (of_decide_eq_true (by kernel_rfl)) (by unfold Func.isWrapper; first | (rw [if_pos (by decide +kernel)]; kernel_rfl) | (rw [if_neg (by decide +kernel)]; exact ⟨rfl, rfl⟩))
    (fun os started H enc _ F => by rw [OpenClaim.pre_eq_preRow]; exact lifted os started H enc F)
end Go.Proofs.Ytiofdfjcaklmcaa.fairSpreads

