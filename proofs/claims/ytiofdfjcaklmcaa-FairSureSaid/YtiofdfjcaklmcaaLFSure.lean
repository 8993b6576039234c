/- FairSure: true whatever the pool and the sharing with labels. -/
import Derived.Test.YtiofdfjcaklmcaaFLaw
import Derived.Test.YtiofdfjcaklmcaaFSry
namespace Go.Proofs.Ytiofdfjcaklmcaa
open Go.RowKit Go.Shelf
set_option maxRecDepth 100000 in
set_option maxHeartbeats 16000000 in
theorem FairSure_any (pa pb ga la : Value) (P : Po) (g L : List Int) (w : World) (hT : PoAt w pa pb P) (hn : P.ss.length ≤ 9223372036854775807) (hg : IntsAt w ga g) (hL : IntsAt w la L) :
    Calls Try.prog 8 #[.agg #[pa, pb], .agg #[ga, la]] w fun e w' => e = .returned (.bool true) ∧ Ext w w' := by
  obtain ⟨ta, tc, rfl, _⟩ := hT.t.len
  obtain ⟨sa, sc, rfl, _⟩ := hT.s.len
  obtain ⟨gv, gc, rfl, _⟩ := hg.len
  obtain ⟨lv, lc, rfl, _⟩ := hL.len
  have KF := fun W (h : Ext w W) => few_any _ _ P W (hT.ext h) hn
  have KK := fun (h : fewB P = true) W (x : Ext w W) => Check_any _ _ P W (hT.ext x) (few_us h)
  have KX := fun (h : fewB P = true) W (x : Ext w W) => Fairest_any _ _ P W (hT.ext x) (few_us h)
  have KC := fun (h : fewB P = true) W (x : Ext w W) => CheckFair_any _ _ _ _ P g L W (hT.ext x) (hg.ext x) (hL.ext x) (few_us h)
  have KS := fun (h : fewB P = true) u v G GL (hok : OkP P) (hS : ShrV P G) (hN : NoChn P G) W (x : Ext w W) (hu : IntsAt W u G) (hv : IntsAt W v GL) => surely_any _ _ u v P G GL hok hS hN (few_us h) W (hT.ext x) hu hv
  have f1 := @chk_ok P
  have f2 := @fax_V P
  have f3 := @cf_nochn P g L
  obtain ⟨C, hC_⟩ : ∃ x, chkE P = x := ⟨_, rfl⟩
  obtain ⟨F, hF_⟩ : ∃ x, fewB P = x := ⟨_, rfl⟩
  obtain ⟨G, hG_⟩ : ∃ x, faxG P = x := ⟨_, rfl⟩
  obtain ⟨GL, hGL_⟩ : ∃ x, faxL P = x := ⟨_, rfl⟩
  obtain ⟨CF, hCF_⟩ : ∃ x, cfE P g L = x := ⟨_, rfl⟩
  obtain ⟨nt, hnt_⟩ : ∃ x, P.ts.length = x := ⟨_, rfl⟩
  obtain ⟨ns, hns_⟩ : ∃ x, P.ss.length = x := ⟨_, rfl⟩
  obtain ⟨ng, hng_⟩ : ∃ x, g.length = x := ⟨_, rfl⟩
  obtain ⟨nL, hnL_⟩ : ∃ x, L.length = x := ⟨_, rfl⟩
  rw [hF_] at KF KK KX KC KS
  simp only [hC_] at KK KX
  simp only [hG_, hGL_] at KX
  rw [hC_] at f1 f2
  rw [hG_] at f2
  simp only [hCF_] at KC f3
  have hgg : IntsAt w (.slice gv ng gc) g := hng_ ▸ hg
  have hLL : IntsAt w (.slice lv nL lc) L := hnL_ ▸ hL
  simp only [hnt_, hns_] at KF KK KX KC KS
  simp only [hng_, hnL_] at KC
  rw [hnt_, hns_, hng_, hnL_]
  have HKF := Lib.hid KF
  have HKK := Lib.hid KK
  have HKX := Lib.hid KX
  have HKC := Lib.hid KC
  have HKS := Lib.hid KS
  have Hf1 := Lib.hid f1
  have Hf2 := Lib.hid f2
  have Hf3 := Lib.hid f3
  have Hhgg := Lib.hid hgg
  have HhLL := Lib.hid hLL
  clear KF KK KX KC KS f1 f2 f3 hC_ hF_ hG_ hGL_ hCF_ hnt_ hns_ hng_ hnL_ hT hn hg hL hgg hLL
  go_enter Try.func8, Try.ntmps8
  go_wp2_with fail
  refine (head_any _).mono ?_
  rintro e w1 ⟨rfl, hx⟩
  obtain ⟨q0, q1, hx1, hk0⟩ := alloc2 hx
  have d0 : w1.cell? ⟨w.heap.size, 0, none⟩ = some (.slice ta nt tc) := q0.cell 0
  have d1 : w1.cell? ⟨w.heap.size, 1, none⟩ = some (.slice sa ns sc) := q0.cell 1
  have e0 : w1.cell? ⟨w.heap.size + 1, 0, none⟩ = some (.slice gv ng gc) := q1.cell 0
  have e1 : w1.cell? ⟨w.heap.size + 1, 1, none⟩ = some (.slice lv nL lc) := q1.cell 1
  clear hx q0 q1 hk0
  go_wp2_with fail
  refine (HKF.out _ hx1).mono ?_
  rintro e w2 ⟨rfl, hz⟩
  have hx2 := hx1.trans hz
  replace d0 := hz.cell d0
  replace d1 := hz.cell d1
  replace e0 := hz.cell e0
  replace e1 := hz.cell e1
  clear hz hx1
  cases F with
  | false =>
    go_wp2_with fail
    go_ret
    exact ⟨rfl, hx2⟩
  | true =>
    have GKK := Lib.hid (HKK.out rfl)
    have GKX := Lib.hid (HKX.out rfl)
    have GKC := Lib.hid (HKC.out rfl)
    have GKS := Lib.hid (HKS.out rfl)
    clear HKK HKX HKC HKS
    by_cases gnt : nt = 6
    · have bnt : ((nt : Int) == 6) = true := by rw [gnt]; rfl
      clear gnt
      go_wp2_with fail
      go_ret
      exact ⟨rfl, hx2⟩
    have bnt : ((nt : Int) == 6) = false := by rw [beq_eq_false_iff_ne]; omega
    by_cases gns : ns ≤ 8
    rotate_left 1
    · have bns : decide ((ns : Int) > 8) = true := decide_eq_true (by omega)
      clear gns
      go_wp2_with fail
      go_ret
      exact ⟨rfl, hx2⟩
    have bns : decide ((ns : Int) > 8) = false := decide_eq_false (by omega)
    by_cases gng : ng ≤ 60
    rotate_left 1
    · have bng : decide ((ng : Int) > 60) = true := decide_eq_true (by omega)
      clear gng
      go_wp2_with fail
      go_ret
      exact ⟨rfl, hx2⟩
    have bng : decide ((ng : Int) > 60) = false := decide_eq_false (by omega)
    by_cases gnL : nL ≤ 30
    rotate_left 1
    · have bnL : decide ((nL : Int) > 30) = true := decide_eq_true (by omega)
      clear gnL
      go_wp2_with fail
      go_ret
      exact ⟨rfl, hx2⟩
    have bnL : decide ((nL : Int) > 30) = false := decide_eq_false (by omega)
    clear gnt gns gng gnL
    go_wp2_with fail
    refine (GKK.out _ hx2).mono ?_
    rintro e w3 ⟨rfl, hz⟩
    have hx3 := hx2.trans hz
    replace d0 := hz.cell d0
    replace d1 := hz.cell d1
    replace e0 := hz.cell e0
    replace e1 := hz.cell e1
    clear hz hx2
    by_cases h0 : C = 0
    rotate_left 1
    · have hc : (C != 0) = true := by simpa using h0
      clear h0
      go_wp2_with fail
      go_ret
      exact ⟨rfl, hx3⟩
    have hok := Hf1.out.1 h0
    obtain ⟨hVG, hNG⟩ := Hf2.out h0
    subst h0
    have HOK := Lib.hid hok
    have HVG := Lib.hid hVG
    have HNG := Lib.hid hNG
    clear hok hVG hNG Hf1 Hf2 bnt bns bng bnL
    go_wp2_with fail
    refine (GKX.out _ hx3).mono ?_
    rintro e w4 ⟨u, v, rfl, hu, hv, hz⟩
    have hx4 := hx3.trans hz
    replace d0 := hz.cell d0
    replace d1 := hz.cell d1
    replace e0 := hz.cell e0
    replace e1 := hz.cell e1
    clear hz hx3
    obtain ⟨ua, uc, rfl, _⟩ := hu.len
    obtain ⟨va, vc, rfl, _⟩ := hv.len
    have KS1 := fun W x hu hv => GKS.out (.slice ua G.length uc) (.slice va GL.length vc) G GL HOK.out HVG.out HNG.out W x hu hv
    obtain ⟨gl, hgl⟩ : ∃ n, G.length = n := ⟨_, rfl⟩
    obtain ⟨ll, hll⟩ : ∃ n, GL.length = n := ⟨_, rfl⟩
    rw [hgl] at hu KS1 ⊢
    rw [hll] at hv KS1 ⊢
    have HKS1 := Lib.hid KS1
    clear hgl hll KS1
    obtain ⟨WB, hWB⟩ : ∃ W, w4.alloc (.cells #[.slice ua gl uc, .slice va ll vc] 71) = W := ⟨_, rfl⟩
    obtain ⟨FB, hFB⟩ : ∃ B, w4.heap.size = B := ⟨_, rfl⟩
    have hxB : Ext w4 WB := by rw [← hWB]; exact (by repeat (first | exact Ext.refl _ | assumption | refine Ext.alloc ?_ _ | refine Ext.drew ?_ | refine Ext.drewN _ ?_ | refine Ext.trans ?_ (by assumption)))
    have qf : Cls FB 71 #[.slice ua gl uc, .slice va ll vc] WB := by rw [← hWB]; exact Cls.newAt _ _ _ hFB.symm
    replace d0 := hxB.cell d0
    replace d1 := hxB.cell d1
    replace e0 := hxB.cell e0
    replace e1 := hxB.cell e1
    replace hu := hu.ext hxB
    replace hv := hv.ext hxB
    have f0 : WB.cell? ⟨FB, 0, none⟩ = some (.slice ua gl uc) := qf.cell 0
    have f1 : WB.cell? ⟨FB, 1, none⟩ = some (.slice va ll vc) := qf.cell 1
    have hxW := hx4.trans hxB
    clear hxB qf hx4
    go_wp2_with fail
    refine (HKS1.out _ hxW hu hv).mono ?_
    rintro e w20 ⟨rfl, hz⟩
    have hx20 := hxW.trans hz
    replace d0 := hz.cell d0
    replace d1 := hz.cell d1
    replace e0 := hz.cell e0
    replace e1 := hz.cell e1
    clear hz hxW hu hv f0 f1 hWB hFB HKS1
    go_wp2_with fail
    refine (GKC.out _ hx20).mono ?_
    rintro e w21 ⟨rfl, hz⟩
    have hx21 := hx20.trans hz
    replace d0 := hz.cell d0
    replace d1 := hz.cell d1
    replace e0 := hz.cell e0
    replace e1 := hz.cell e1
    clear hz hx20
    by_cases hcf : CF = 0
    rotate_left 1
    · have hc : (CF != 0) = true := by simpa using hcf
      clear hcf
      go_wp2_with fail
      go_ret
      exact ⟨rfl, hx21⟩
    obtain ⟨_, hV, hN⟩ := Hf3.out hcf
    have hc : (CF != 0) = false := by simp [hcf]
    have KS2 := fun W x hu hv => GKS.out (.slice gv ng gc) (.slice lv nL lc) g L HOK.out hV hN W x hu hv
    have HKS2 := Lib.hid KS2
    clear KS2 hV hN hcf
    go_wp2_with fail
    refine (HKS2.out _ hx21 (Hhgg.out.ext hx21) (HhLL.out.ext hx21)).mono ?_
    rintro e w22 ⟨rfl, hz⟩
    have hx22 := hx21.trans hz
    replace d0 := hz.cell d0
    replace d1 := hz.cell d1
    replace e0 := hz.cell e0
    replace e1 := hz.cell e1
    clear hz hx21
    go_wp2_with fail
    go_ret
    exact ⟨rfl, hx22⟩
end Go.Proofs.Ytiofdfjcaklmcaa
namespace Go.Proofs.Ytiofdfjcaklmcaa.fairSure
open Go.ChangeShapes Go.WideShapes Go.ChangeAt Go.RowKit Go.Deep Go.Joins

noncomputable def wArgs : Array Value := #[.agg #[.slice none 0 0, .slice none 0 0], .agg #[.slice none 0 0, .slice none 0 0]]
noncomputable def laidWorld (os : Os) : World := World.holding Try.prog os ⟨#[], #[], []⟩

set_option maxRecDepth 100000 in
theorem contract (H : Type) (enc : TypeId × Value → H) (W : World) (base : Nat) (args : Array Value) (ds gs : List (DataW H)) (before : List MemPlace)
    (hval : ∀ (j : Nat) t v, Try.f8.params[j]? = some t → args[j]? = some v → Value.okWide Try.prog W .any base t v)
    (hW : DataW.Whole enc Try.prog Try.f8.params.toList Rows.fairSureSpec.vars false W args.toList ds gs before) :
    Calls Try.prog 8 args W fun e W' => ∃ v, e = .returned v ∧ Rows.fairSureSpec.post enc Try.prog Try.f8 false true false false W args v W' := by
  have hW' := hW
  obtain ⟨p, q, hA, hV, rfl, hfz, hnd⟩ := hW
  rw [show Try.f8.params = #[25, 71] from rfl] at hA hval
  obtain ⟨v0, vs0, d0, ds0, p0, q0, hargs, rfl, rfl, h0, r0⟩ := trodAll_cons hA
  obtain ⟨v1, vs1, d1, ds1, p1, q1, rfl, rfl, rfl, h1, r1⟩ := trodAll_cons r0
  obtain ⟨rfl, rfl, rfl⟩ := trodAll_nil r1
  obtain rfl : args = #[v0, v1] := by cases args; simp_all
  obtain ⟨rfl, rfl⟩ := trodVars_none hV
  obtain ⟨a0, b0, T0, rfl, hT0, hn0⟩ := open_pool (hval 0 25 v0 rfl rfl) h0
  obtain ⟨a1, b1, G1, L1, rfl, hG1, hL1⟩ := open_fair (hval 1 71 v1 rfl rfl) h1
  refine (FairSure_any _ _ _ _ T0 G1 L1 W hT0 hn0 hG1 hL1).mono fun e W' ⟨he, hg⟩ => ?_
  subst he
  refine ⟨_, rfl, post_true hW' rfl rfl ⟨rfl, rfl, rfl⟩ ?_ hg⟩
  rw [show Try.f8.params = #[25, 71] from rfl]
  intro t ht
  simp only [List.mem_cons, List.not_mem_nil, or_false] at ht
  rcases ht with rfl | rfl <;> exact ⟨by kernel_rfl, of_decide_eq_true (by kernel_rfl)⟩

set_option maxRecDepth 100000 in
theorem laid_met (os : Os) : laidMet Try.prog Rows.fairSureRow.laid ((laidWorld os).forCall (fun _ _ => 0) ⟨#[], wArgs, []⟩).memory :=
  laidMet_of_run' 8 (by kernel_rfl) (by kernel_rfl)
set_option maxRecDepth 100000 in
theorem reads (os : Os) {H : Type} (enc : TypeId × Value → H) : ∃ x places, DataW.whole enc Try.prog ((laidWorld os).forCall (fun _ _ => 0) ⟨#[], wArgs, []⟩).memory Try.f8.params.toList Rows.fairSureSpec.vars false wArgs.toList 8 = some (x, [], places) :=
  ⟨[.agg [.nil, .nil], .agg [.nil, .nil]], [], by kernel_rfl⟩

set_option maxRecDepth 100000 in
theorem lifted (os : Os) (started : os.Started) (H : Type) (enc : TypeId × Value → H) (F : Stop.Interp) :
    ReturnsInHanded {} Try.checked os 8 .any ((OpenSpec.ofChange Rows.fairSureSpec).preRow enc Try.prog Try.f8 Rows.fairSureRow.domain false Rows.fairSureRow.laid) (((OpenSpec.ofChange Rows.fairSureSpec).at F).post enc Try.prog Try.f8 false true false false) := by
  obtain ⟨x, places, hx⟩ := reads os enc
  refine returnsInHanded_of_row (C := Try.checked) (s := OpenSpec.ofChange Rows.fairSureSpec) own started (by kernel_rfl) Try.func8
    (witness_row_at (enc := enc) (C := Try.checked) false (laidWorld os) wArgs rfl (by kernel_rfl) (by kernel_rfl) (by kernel_rfl)
      (OpenSpec.preRow_of_cond 8 hx (by kernel_rfl) (fun k hk => by cases hk) (by kernel_rfl) (laid_met os))) ?_
  intro W base args ds gs before hval hW _ _ _ hL _ _
  exact contract H enc W base args ds gs before hval hW

set_option maxRecDepth 100000 in
theorem said : Rows.FairSureSaid :=
  OpenClaim.holds_of_cond 8 Try.f8 rfl rfl rfl rfl rfl rfl rfl ⟨rfl, rfl, rfl, rfl, rfl⟩ rfl rfl rfl rfl rfl (by kernel_rfl) Try.func8 (by kernel_rfl)
    (of_decide_eq_true (by kernel_rfl)) (by unfold Func.isWrapper; first | (rw [if_pos (by decide +kernel)]; kernel_rfl) | (rw [if_neg (by decide +kernel)]; exact ⟨rfl, rfl⟩))
    (fun os started H enc _ F => by rw [OpenClaim.pre_eq_preRow]; exact lifted os started H enc F)
end Go.Proofs.Ytiofdfjcaklmcaa.fairSure

