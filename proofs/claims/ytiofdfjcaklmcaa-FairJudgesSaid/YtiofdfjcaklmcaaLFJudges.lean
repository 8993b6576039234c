/- FairJudges: true whatever the pool, the sharing with labels, and the change. -/
import Derived.Test.YtiofdfjcaklmcaaFLaw
import Derived.Test.YtiofdfjcaklmcaaFBen
import Derived.Test.YtiofdfjcaklmcaaFRcf
namespace Go.Proofs.Ytiofdfjcaklmcaa
open Go.RowKit Go.Shelf
set_option maxRecDepth 100000 in
set_option maxHeartbeats 16000000 in
theorem FairJudges_any (pa pb ga la : Value) (P : Po) (g L : List Int) (at_ what n : Int) (w : World) (hT : PoAt w pa pb P) (hn : P.ss.length ≤ 9223372036854775807) (hg : IntsAt w ga g) (hL : IntsAt w la L) (ha : 0 ≤ at_ ∧ at_ ≤ 255) (hw : 0 ≤ what ∧ what ≤ 255) :
    Calls Try.prog 7 #[.agg #[pa, pb], .agg #[ga, la], .int .u8 at_, .int .u8 what, .int .i64 n] w fun e w' => e = .returned (.bool true) ∧ Ext w w' := by
  obtain ⟨gv, gc, rfl, _⟩ := hg.len
  obtain ⟨lv, lc, rfl, _⟩ := hL.len
  have KF := fun W (h : Ext w W) => few_any pa pb P W (hT.ext h) hn
  have KX := fun (h : fewB P = true) W (x : Ext w W) => Fairest_any pa pb P W (hT.ext x) (few_us h)
  have KC := fun (h : fewB P = true) u v g m W (x : Ext w W) (hu : IntsAt W u g) (hv : IntsAt W v m) => CheckFair_any pa pb u v P g m W (hT.ext x) hu hv (few_us h)
  have KR := fun (h : fewB P = true) u v g m W (x : Ext w W) (hu : IntsAt W u g) (hv : IntsAt W v m) => refCheckFair_any pa pb u v P g m W (hT.ext x) hu hv (few_us h)
  have hlx : (faxG P).length ≤ 1000 ∧ (faxL P).length ≤ 1000 := by
    by_cases hc : chkE P = 0
    · have h1 := (fax_V hc).1.le (chk_ok.1 hc)
      have h2 := (chk_ok.1 hc).lt
      rw [(fax_is hc).2]
      refine ⟨by omega, by simp [labL]; omega⟩
    · unfold faxG faxL
      rw [if_neg hc, if_neg hc]
      simp
  obtain ⟨EF, hEF⟩ : ∃ x, cfE P g L = x := ⟨_, rfl⟩
  obtain ⟨C, hC_⟩ : ∃ x, chkE P = x := ⟨_, rfl⟩
  obtain ⟨F, hF_⟩ : ∃ x, fewB P = x := ⟨_, rfl⟩
  obtain ⟨G, hG_⟩ : ∃ x, faxG P = x := ⟨_, rfl⟩
  obtain ⟨GL, hGL_⟩ : ∃ x, faxL P = x := ⟨_, rfl⟩
  obtain ⟨ng, hng_⟩ : ∃ x, g.length = x := ⟨_, rfl⟩
  obtain ⟨nL, hnL_⟩ : ∃ x, L.length = x := ⟨_, rfl⟩
  rw [hF_] at KF KX KC KR
  simp only [hC_, hG_, hGL_] at KX
  rw [hG_, hGL_] at hlx
  rw [hng_, hnL_]
  have hgg : IntsAt w (.slice gv ng gc) g := hng_ ▸ hg
  have hLL : IntsAt w (.slice lv nL lc) L := hnL_ ▸ hL
  have HKF := Lib.hid KF
  have HKX := Lib.hid KX
  have HKC := Lib.hid KC
  have HKR := Lib.hid KR
  have Hhlx := Lib.hid hlx
  have Hhgg := Lib.hid hgg
  have HhLL := Lib.hid hLL
  have HhEF := Lib.hid hEF
  clear KF KX KC KR hlx hC_ hF_ hG_ hGL_ hng_ hnL_ hT hn hg hL hgg hLL hEF
  go_enter Try.func7, Try.ntmps7
  go_wp2_with fail
  refine (head_any _).mono ?_
  rintro e w1 ⟨rfl, hx⟩
  obtain ⟨q0, q1, hx1, hk0⟩ := alloc2 hx
  have d0 : w1.cell? ⟨w.heap.size, 0, none⟩ = some pa := q0.cell 0
  have d1 : w1.cell? ⟨w.heap.size, 1, none⟩ = some pb := q0.cell 1
  have e0 : w1.cell? ⟨w.heap.size + 1, 0, none⟩ = some (.slice gv ng gc) := q1.cell 0
  have e1 : w1.cell? ⟨w.heap.size + 1, 1, none⟩ = some (.slice lv nL lc) := q1.cell 1
  clear hx q0 q1 hk0
  go_wp2_with fail
  refine (HKF.out _ hx1).mono ?_
  rintro e w2 ⟨rfl, hz⟩
  have hx2 := hx1.trans hz
  replace d0 := hz.cell d0
  replace d1 := hz.cell d1
  replace e0 := hz.cell e0
  replace e1 := hz.cell e1
  clear hz hx1
  cases F with
  | false =>
    go_wp2_with fail
    go_ret
    exact ⟨rfl, hx2⟩
  | true =>
    have GKX := Lib.hid (HKX.out rfl)
    have GKC := Lib.hid (HKC.out rfl)
    have GKR := Lib.hid (HKR.out rfl)
    clear HKX HKC HKR
    by_cases gng : ng ≤ 60
    rotate_left 1
    · have bng : decide ((ng : Int) > 60) = true := decide_eq_true (by omega)
      clear gng
      go_wp2_with fail
      go_ret
      exact ⟨rfl, hx2⟩
    have bng : decide ((ng : Int) > 60) = false := decide_eq_false (by omega)
    by_cases gnL : nL ≤ 60
    rotate_left 1
    · have bnL : decide ((nL : Int) > 60) = true := decide_eq_true (by omega)
      clear gnL
      go_wp2_with fail
      go_ret
      exact ⟨rfl, hx2⟩
    have bnL : decide ((nL : Int) > 60) = false := decide_eq_false (by omega)
    clear gng gnL
    go_wp2_with fail
    refine (GKX.out _ hx2).mono ?_
    rintro e w3 ⟨u, v, rfl, hu, hv, hz⟩
    have hx3 := hx2.trans hz
    replace d0 := hz.cell d0
    replace d1 := hz.cell d1
    replace e0 := hz.cell e0
    replace e1 := hz.cell e1
    clear hz hx2
    obtain ⟨ua, uc, rfl, _⟩ := hu.len
    obtain ⟨va, vc, rfl, _⟩ := hv.len
    clear bng bnL
    obtain ⟨gl, hgl⟩ : ∃ n, G.length = n := ⟨_, rfl⟩
    obtain ⟨ll, hll⟩ : ∃ n, GL.length = n := ⟨_, rfl⟩
    have KB := fun W hu hv => bent_any (.slice ua G.length uc) (.slice va GL.length vc) G GL at_ what n W hu hv Hhlx.out.1 Hhlx.out.2 ha hw
    rw [hgl] at hu KB ⊢
    rw [hll] at hv KB ⊢
    have HKB := Lib.hid KB
    clear hgl hll KB Hhlx ha hw
    obtain ⟨WB, hWB⟩ : ∃ W, w3.alloc (.cells #[.slice ua gl uc, .slice va ll vc] 71) = W := ⟨_, rfl⟩
    obtain ⟨FB, hFB⟩ : ∃ B, w3.heap.size = B := ⟨_, rfl⟩
    have hxB : Ext w3 WB := by rw [← hWB]; exact (by repeat (first | exact Ext.refl _ | assumption | refine Ext.alloc ?_ _ | refine Ext.drew ?_ | refine Ext.drewN _ ?_ | refine Ext.trans ?_ (by assumption)))
    have qf : Cls FB 71 #[.slice ua gl uc, .slice va ll vc] WB := by rw [← hWB]; exact Cls.newAt _ _ _ hFB.symm
    replace d0 := hxB.cell d0
    replace d1 := hxB.cell d1
    replace e0 := hxB.cell e0
    replace e1 := hxB.cell e1
    replace hu := hu.ext hxB
    replace hv := hv.ext hxB
    have f0 : WB.cell? ⟨FB, 0, none⟩ = some (.slice ua gl uc) := qf.cell 0
    have f1 : WB.cell? ⟨FB, 1, none⟩ = some (.slice va ll vc) := qf.cell 1
    have hxW := hx3.trans hxB
    clear hxB qf hx3
    go_wp2_with fail
    refine (HKB.out _ hu hv).mono ?_
    rintro e w20 ⟨yu, yv, YG, YL, rfl, hyu, hyv, hz⟩
    obtain ⟨ya, yc, rfl, _⟩ := hyu.len
    obtain ⟨za, zc, rfl, _⟩ := hyv.len
    have hx20 := hxW.trans hz
    replace d0 := hz.cell d0
    replace d1 := hz.cell d1
    replace e0 := hz.cell e0
    replace e1 := hz.cell e1
    clear hz hxW hu hv f0 f1 hWB hFB HKB
    obtain ⟨yl, hyl⟩ : ∃ n, YG.length = n := ⟨_, rfl⟩
    obtain ⟨zl, hzl⟩ : ∃ n, YL.length = n := ⟨_, rfl⟩
    rw [hyl] at hyu ⊢
    rw [hzl] at hyv ⊢
    clear hyl hzl
    obtain ⟨WC, hWC⟩ : ∃ W, w20.alloc (.cells #[.slice ya yl yc, .slice za zl zc] 71) = W := ⟨_, rfl⟩
    obtain ⟨YB, hYB⟩ : ∃ B, w20.heap.size = B := ⟨_, rfl⟩
    have hxC : Ext w20 WC := by rw [← hWC]; exact (by repeat (first | exact Ext.refl _ | assumption | refine Ext.alloc ?_ _ | refine Ext.drew ?_ | refine Ext.drewN _ ?_ | refine Ext.trans ?_ (by assumption)))
    have qy : Cls YB 71 #[.slice ya yl yc, .slice za zl zc] WC := by rw [← hWC]; exact Cls.newAt _ _ _ hYB.symm
    replace d0 := hxC.cell d0
    replace d1 := hxC.cell d1
    replace e0 := hxC.cell e0
    replace e1 := hxC.cell e1
    replace hyu := hyu.ext hxC
    replace hyv := hyv.ext hxC
    have y0 : WC.cell? ⟨YB, 0, none⟩ = some (.slice ya yl yc) := qy.cell 0
    have y1 : WC.cell? ⟨YB, 1, none⟩ = some (.slice za zl zc) := qy.cell 1
    have hxY := hx20.trans hxC
    obtain ⟨EY, hEY⟩ : ∃ x, cfE P YG YL = x := ⟨_, rfl⟩
    have KC1 := fun u v W x hu hv => GKC.out u v g L W x hu hv
    have KR1 := fun u v W x hu hv => GKR.out u v g L W x hu hv
    have KC2 := fun u v W x hu hv => GKC.out u v YG YL W x hu hv
    have KR2 := fun u v W x hu hv => GKR.out u v YG YL W x hu hv
    simp only [HhEF.out] at KC1 KR1
    simp only [hEY] at KC2 KR2
    have HC1 := Lib.hid KC1
    have HR1 := Lib.hid KR1
    have HC2 := Lib.hid KC2
    have HR2 := Lib.hid KR2
    have hyy := hyu
    have hyw := hyv
    have HYU := Lib.hid hyy
    have HYV := Lib.hid hyw
    clear hxC qy hx20 KC1 KR1 KC2 KR2 hEY hyu hyv hyy hyw
    go_upto_region 6 with fail
    clear hWC hYB
    refine wp_region_held_drew (S := fun W' => W'.cell? ⟨w.heap.size, 0, none⟩ = some pa ∧ W'.cell? ⟨w.heap.size, 1, none⟩ = some pb ∧ W'.cell? ⟨w.heap.size + 1, 0, none⟩ = some (.slice gv ng gc) ∧ W'.cell? ⟨w.heap.size + 1, 1, none⟩ = some (.slice lv nL lc) ∧ W'.cell? ⟨YB, 0, none⟩ = some (.slice ya yl yc) ∧ W'.cell? ⟨YB, 1, none⟩ = some (.slice za zl zc) ∧ Ext WC W') (by kernel_rfl) ?_ (fun hHeld => ?_)
    · exact ⟨d0, d1, e0, e1, y0, y1, Ext.drew (Ext.refl _)⟩
    obtain ⟨V0, hV0⟩ : ∃ V, World.drew WC = V := ⟨_, rfl⟩
    rw [hV0] at hHeld ⊢
    clear hV0
    (refine tkH (i := 0) (v := ?_) rfl ?_ ?_; rotate_left 1; (focus (intro w hSw; (try dsimp only at hSw); go_simp; try (with_reducible rfl))))
    try simp only [Act.put, xA1, xA2, xA4, xA5, xA6]
    (refine tkH (i := 1) (v := ?_) rfl ?_ ?_; rotate_left 1; (focus (intro w hSw; (try dsimp only at hSw); go_simp; try (with_reducible rfl))))
    try simp only [Act.put, xA1, xA2, xA3, xA4, xA5, xA6]
    (refine tkH (i := 2) (v := ?_) rfl ?_ ?_; rotate_left 1; (focus (intro w hSw; (try dsimp only at hSw); go_simp; try (with_reducible rfl))))
    try simp only [Act.put, xA1, xA2, xA3, xA4, xA5, xA6]
    (refine tkH (i := 3) (v := ?_) rfl ?_ ?_; rotate_left 1; (focus (intro w hSw; (try dsimp only at hSw); go_simp; try (with_reducible rfl))))
    try simp only [Act.put, xA1, xA2, xA3, xA4, xA5, xA6]
    (refine tkH (i := 5) (v := ?_) rfl ?_ ?_; rotate_left 1; (focus (intro w hSw; (try dsimp only at hSw); go_simp; try (with_reducible rfl))))
    try simp only [Act.put, xA1, xA2, xA3, xA4, xA5, xA6]
    (refine tkH (i := 6) (v := ?_) rfl ?_ ?_; rotate_left 1; (focus (intro w hSw; (try dsimp only at hSw); go_simp; try (with_reducible rfl))))
    try simp only [Act.put, xA1, xA2, xA3, xA4, xA5, xA6]
    refine wpAnyH_ready (rs := [4]) (by kernel_rfl) (by simp) ?_
    refine AllReadyH.cons rfl (fun K hK => ?_) AllReadyH.nil
    go_simp
    go_at_call 43; refine (HC1.out _ _ V0 (hxY.trans hHeld.2.2.2.2.2.2) (Hhgg.out.ext (hxY.trans hHeld.2.2.2.2.2.2)) (HhLL.out.ext (hxY.trans hHeld.2.2.2.2.2.2))).mono ?_; rintro e V1 ⟨rfl, hz⟩
    refine hK.out _ _ ?_ (fun hHeld => ?_)
    · exact ⟨Ext.cell hz hHeld.1, Ext.cell hz hHeld.2.1, Ext.cell hz hHeld.2.2.1, Ext.cell hz hHeld.2.2.2.1, Ext.cell hz hHeld.2.2.2.2.1, Ext.cell hz hHeld.2.2.2.2.2.1, hHeld.2.2.2.2.2.2.trans hz⟩
    clear hK K
    clear hz
    try simp only [Act.put, xA1, xA2, xA3, xA4, xA5, xA6]
    refine wpAnyH_ready (rs := [7]) (by kernel_rfl) (by simp) ?_
    refine AllReadyH.cons rfl (fun K hK => ?_) AllReadyH.nil
    go_simp
    go_at_call 41; refine (HR1.out _ _ V1 (hxY.trans hHeld.2.2.2.2.2.2) (Hhgg.out.ext (hxY.trans hHeld.2.2.2.2.2.2)) (HhLL.out.ext (hxY.trans hHeld.2.2.2.2.2.2))).mono ?_; rintro e V2 ⟨rfl, hz⟩
    refine hK.out _ _ ?_ (fun hHeld => ?_)
    · exact ⟨Ext.cell hz hHeld.1, Ext.cell hz hHeld.2.1, Ext.cell hz hHeld.2.2.1, Ext.cell hz hHeld.2.2.2.1, Ext.cell hz hHeld.2.2.2.2.1, Ext.cell hz hHeld.2.2.2.2.2.1, hHeld.2.2.2.2.2.2.trans hz⟩
    clear hK K
    clear hz
    have hee : (EF == EF) = true := by simp
    try simp only [Act.put, xA1, xA2, xA3, xA4, xA5, xA6]
    (refine tkH (i := 8) (v := ?_) rfl ?_ ?_; rotate_left 1; (focus (intro w hSw; (try dsimp only at hSw); go_simp; try (with_reducible rfl))))
    try simp only [Act.put, xA1, xA2, xA3, xA4, xA5, xA6]
    (refine tkH (i := 9) (v := ?_) rfl ?_ ?_; rotate_left 1; (focus (intro w hSw; (try dsimp only at hSw); go_simp; try (with_reducible rfl))))
    try simp only [Act.put, xA1, xA2, xA3, xA4, xA5, xA6]
    (refine tkH (i := 10) (v := ?_) rfl ?_ ?_; rotate_left 1; (focus (intro w hSw; (try dsimp only at hSw); go_simp; try (with_reducible rfl))))
    try simp only [Act.put, xA1, xA2, xA3, xA4, xA5, xA6]
    (refine tkH (i := 11) (v := ?_) rfl ?_ ?_; rotate_left 1; (focus (intro w hSw; (try dsimp only at hSw); go_simp; try (with_reducible rfl))))
    try simp only [Act.put, xA1, xA2, xA3, xA4, xA5, xA6]
    (refine tkH (i := 12) (v := ?_) rfl ?_ ?_; rotate_left 1; (focus (intro w hSw; (try dsimp only at hSw); go_simp; try (with_reducible rfl))))
    try simp only [Act.put, xA1, xA2, xA3, xA4, xA5, xA6]
    (refine tkH (i := 14) (v := ?_) rfl ?_ ?_; rotate_left 1; (focus (intro w hSw; (try dsimp only at hSw); go_simp; try (with_reducible rfl))))
    try simp only [Act.put, xA1, xA2, xA3, xA4, xA5, xA6]
    (refine tkH (i := 15) (v := ?_) rfl ?_ ?_; rotate_left 1; (focus (intro w hSw; (try dsimp only at hSw); go_simp; try (with_reducible rfl))))
    try simp only [Act.put, xA1, xA2, xA3, xA4, xA5, xA6]
    refine wpAnyH_ready (rs := [13]) (by kernel_rfl) (by simp) ?_
    refine AllReadyH.cons rfl (fun K hK => ?_) AllReadyH.nil
    go_simp
    go_at_call 43; refine (HC2.out _ _ V2 (hxY.trans hHeld.2.2.2.2.2.2) (HYU.out.ext hHeld.2.2.2.2.2.2) (HYV.out.ext hHeld.2.2.2.2.2.2)).mono ?_; rintro e V3 ⟨rfl, hz⟩
    refine hK.out _ _ ?_ (fun hHeld => ?_)
    · exact ⟨Ext.cell hz hHeld.1, Ext.cell hz hHeld.2.1, Ext.cell hz hHeld.2.2.1, Ext.cell hz hHeld.2.2.2.1, Ext.cell hz hHeld.2.2.2.2.1, Ext.cell hz hHeld.2.2.2.2.2.1, hHeld.2.2.2.2.2.2.trans hz⟩
    clear hK K
    clear hz
    try simp only [Act.put, xA1, xA2, xA3, xA4, xA5, xA6]
    refine wpAnyH_ready (rs := [16]) (by kernel_rfl) (by simp) ?_
    refine AllReadyH.cons rfl (fun K hK => ?_) AllReadyH.nil
    go_simp
    go_at_call 41; refine (HR2.out _ _ V3 (hxY.trans hHeld.2.2.2.2.2.2) (HYU.out.ext hHeld.2.2.2.2.2.2) (HYV.out.ext hHeld.2.2.2.2.2.2)).mono ?_; rintro e V4 ⟨rfl, hz⟩
    refine hK.out _ _ ?_ (fun hHeld => ?_)
    · exact ⟨Ext.cell hz hHeld.1, Ext.cell hz hHeld.2.1, Ext.cell hz hHeld.2.2.1, Ext.cell hz hHeld.2.2.2.1, Ext.cell hz hHeld.2.2.2.2.1, Ext.cell hz hHeld.2.2.2.2.2.1, hHeld.2.2.2.2.2.2.trans hz⟩
    clear hK K
    clear hz
    have hey : (EY == EY) = true := by simp
    try simp only [Act.put, xA1, xA2, xA3, xA4, xA5, xA6]
    (refine tkH (i := 17) (v := ?_) rfl ?_ ?_; rotate_left 1; (focus (intro w hSw; (try dsimp only at hSw); go_simp; try (with_reducible rfl))))
    try simp only [Act.put, xA1, xA2, xA3, xA4, xA5, xA6]
    (refine tkH (i := 18) (v := ?_) rfl ?_ ?_; rotate_left 1; (focus (intro w hSw; (try dsimp only at hSw); go_simp; try (with_reducible rfl))))
    try simp only [Act.put, xA1, xA2, xA3, xA4, xA5, xA6]
    (refine tkH (i := 19) (v := ?_) rfl ?_ ?_; rotate_left 1; (focus (intro w hSw; (try dsimp only at hSw); go_simp; try (with_reducible rfl))))
    try simp only [Act.put, xA1, xA2, xA3, xA4, xA5, xA6]
    refine wpAnyH_done (by kernel_rfl) ?_ _
    have hzz := hHeld.2.2.2.2.2.2
    go_wp2_with fail
    go_ret
    exact ⟨rfl, hxY.trans hzz⟩
end Go.Proofs.Ytiofdfjcaklmcaa
namespace Go.Proofs.Ytiofdfjcaklmcaa.fairJudges
open Go.ChangeShapes Go.WideShapes Go.ChangeAt Go.RowKit Go.Deep Go.Joins

noncomputable def wArgs : Array Value := #[.agg #[.slice none 0 0, .slice none 0 0], .agg #[.slice none 0 0, .slice none 0 0], .int .u8 0, .int .u8 0, .int .i64 0]
noncomputable def laidWorld (os : Os) : World := World.holding Try.prog os ⟨#[], #[], []⟩

set_option maxRecDepth 100000 in
theorem contract (H : Type) (enc : TypeId × Value → H) (W : World) (base : Nat) (args : Array Value) (ds gs : List (DataW H)) (before : List MemPlace)
    (hval : ∀ (j : Nat) t v, Try.f7.params[j]? = some t → args[j]? = some v → Value.okWide Try.prog W .any base t v)
    (hW : DataW.Whole enc Try.prog Try.f7.params.toList Rows.fairJudgesSpec.vars false W args.toList ds gs before) :
    Calls Try.prog 7 args W fun e W' => ∃ v, e = .returned v ∧ Rows.fairJudgesSpec.post enc Try.prog Try.f7 false true false false W args v W' := by
  have hW' := hW
  obtain ⟨p, q, hA, hV, rfl, hfz, hnd⟩ := hW
  rw [show Try.f7.params = #[25, 71, 5, 5, 3] from rfl] at hA hval
  obtain ⟨v0, vs0, d0, ds0, p0, q0, hargs, rfl, rfl, h0, r0⟩ := trodAll_cons hA
  obtain ⟨v1, vs1, d1, ds1, p1, q1, rfl, rfl, rfl, h1, r1⟩ := trodAll_cons r0
  obtain ⟨v2, vs2, d2, ds2, p2, q2, rfl, rfl, rfl, h2, r2⟩ := trodAll_cons r1
  obtain ⟨v3, vs3, d3, ds3, p3, q3, rfl, rfl, rfl, h3, r3⟩ := trodAll_cons r2
  obtain ⟨v4, vs4, d4, ds4, p4, q4, rfl, rfl, rfl, h4, r4⟩ := trodAll_cons r3
  obtain ⟨rfl, rfl, rfl⟩ := trodAll_nil r4
  obtain rfl : args = #[v0, v1, v2, v3, v4] := by cases args; simp_all
  obtain ⟨rfl, rfl⟩ := trodVars_none hV
  obtain ⟨a0, b0, T0, rfl, hT0, hn0⟩ := open_pool (hval 0 25 v0 rfl rfl) h0
  obtain ⟨a1, b1, G1, L1, rfl, hG1, hL1⟩ := open_fair (hval 1 71 v1 rfl rfl) h1
  obtain ⟨x2, rfl, _, _, hf2⟩ := open_int Try.underlying5 (hval 2 5 v2 rfl rfl) h2
  obtain ⟨x3, rfl, _, _, hf3⟩ := open_int Try.underlying5 (hval 3 5 v3 rfl rfl) h3
  obtain ⟨x4, rfl, _, _, hf4⟩ := open_int Try.underlying3 (hval 4 3 v4 rfl rfl) h4
  refine (FairJudges_any _ _ _ _ T0 G1 L1 x2 x3 x4 W hT0 hn0 hG1 hL1 (wf_u8 hf2) (wf_u8 hf3)).mono fun e W' ⟨he, hg⟩ => ?_
  subst he
  refine ⟨_, rfl, post_true hW' rfl rfl ⟨rfl, rfl, rfl⟩ ?_ hg⟩
  rw [show Try.f7.params = #[25, 71, 5, 5, 3] from rfl]
  intro t ht
  simp only [List.mem_cons, List.not_mem_nil, or_false] at ht
  rcases ht with rfl | rfl | rfl | rfl | rfl <;> exact ⟨by kernel_rfl, of_decide_eq_true (by kernel_rfl)⟩

set_option maxRecDepth 100000 in
theorem laid_met (os : Os) : laidMet Try.prog Rows.fairJudgesRow.laid ((laidWorld os).forCall (fun _ _ => 0) ⟨#[], wArgs, []⟩).memory :=
  laidMet_of_run' 8 (by kernel_rfl) (by kernel_rfl)
set_option maxRecDepth 100000 in
theorem reads (os : Os) {H : Type} (enc : TypeId × Value → H) : ∃ x places, DataW.whole enc Try.prog ((laidWorld os).forCall (fun _ _ => 0) ⟨#[], wArgs, []⟩).memory Try.f7.params.toList Rows.fairJudgesSpec.vars false wArgs.toList 8 = some (x, [], places) :=
  ⟨[.agg [.nil, .nil], .agg [.nil, .nil], .lit (.int .u8 0), .lit (.int .u8 0), .lit (.int .i64 0)], [], by kernel_rfl⟩

set_option maxRecDepth 100000 in
theorem lifted (os : Os) (started : os.Started) (H : Type) (enc : TypeId × Value → H) (F : Stop.Interp) :
    ReturnsInHanded {} Try.checked os 7 .any ((OpenSpec.ofChange Rows.fairJudgesSpec).preRow enc Try.prog Try.f7 Rows.fairJudgesRow.domain false Rows.fairJudgesRow.laid) (((OpenSpec.ofChange Rows.fairJudgesSpec).at F).post enc Try.prog Try.f7 false true false false) := by
  obtain ⟨x, places, hx⟩ := reads os enc
  refine returnsInHanded_of_row (C := Try.checked) (s := OpenSpec.ofChange Rows.fairJudgesSpec) own started (by kernel_rfl) Try.func7
    (witness_row_at (enc := enc) (C := Try.checked) false (laidWorld os) wArgs rfl (by kernel_rfl) (by kernel_rfl) (by kernel_rfl)
      (OpenSpec.preRow_of_cond 8 hx (by kernel_rfl) (fun k hk => by cases hk) (by kernel_rfl) (laid_met os))) ?_
  intro W base args ds gs before hval hW _ _ _ hL _ _
  exact contract H enc W base args ds gs before hval hW

set_option maxRecDepth 100000 in
theorem said : Rows.FairJudgesSaid :=
  OpenClaim.holds_of_cond 7 Try.f7 rfl rfl rfl rfl rfl rfl rfl ⟨rfl, rfl, rfl, rfl, rfl⟩ rfl rfl rfl rfl rfl (by kernel_rfl) Try.func7 (by kernel_rfl)
    (of_decide_eq_true (by kernel_rfl)) (by unfold Func.isWrapper; first | (rw [if_pos (by decide +kernel)]; kernel_rfl) | (rw [if_neg (by decide +kernel)]; exact ⟨rfl, rfl⟩))
    (fun os started H enc _ F => by rw [OpenClaim.pre_eq_preRow]; exact lifted os started H enc F)
end Go.Proofs.Ytiofdfjcaklmcaa.fairJudges

