/- TurnJoins: the walk and the card. -/
import Derived.Test.YtejcmdoalhnpeaaGreatDoorSanity
import Derived.Test.YtejcmdoalhnpeaaGreatDoorArgs
import Derived.Test.YtejcmdoalhnpeaaGreatDoorFew
import Derived.Test.YtejcmdoalhnpeaaGreatDoorJoinP
import Derived.Test.YtejcmdoalhnpeaaGreatDoorHasL
import Derived.Test.YtejcmdoalhnpeaaGreatDoorUnionW
import Derived.Deep.DeepCutAuto
namespace Go.Proofs.YtejcmdoalhnpeaaGreatDoor
open Go.RowKit Go.Shelf

theorem has_c (a b : Value) (S : Mn) (w : World) (hS : MinsAt w a b S) (hok : Ok S) (x : Int) (h0 : 0 ≤ x) (h1 : x ≤ 1048576) (v : Bool) (hv : mem S x = v) (W : World) (h : Ext w W) :
    Calls Tryz.prog 13 #[.agg #[a, b], .int .i64 x] W fun e W' => e = .returned (.bool v) ∧ Ext W W' :=
  (has_any a b S x W (hS.ext h)).mono fun e w' ⟨h2, h3⟩ => ⟨by rw [h2, has_mem hok h0 h1, hv], h3⟩
theorem Check_c (a b : Value) (S : Mn) (w : World) (hS : MinsAt w a b S) (v : Int) (hv : chkE S = v) (W : World) (h : Ext w W) :
    Calls Tryz.prog 12 #[.agg #[a, b]] W fun e W' => e = .returned (.int .i64 v) ∧ Ext W W' :=
  (Check_any a b S W (hS.ext h)).mono fun e w' ⟨h2, h3⟩ => ⟨by rw [h2, hv], h3⟩

set_option maxRecDepth 100000 in
set_option maxHeartbeats 8000000 in
theorem Joins_main (aa ab ac ad : Option Addr) (ca cb cc cd : Nat) (A B : Mn) (x m : Int) (w : World) (hT : Tab w) (hA : MinsAt w (.slice aa A.ts.length ca) (.slice ab A.ss.length cb) A) (hB : MinsAt w (.slice ac B.ts.length cc) (.slice ad B.ss.length cd) B)
    (hfA : fewB A = true) (hfB : fewB B = true) (hm0 : 0 ≤ m) (hm1 : m ≤ 1048576) (hx0 : -1048576 ≤ x) (hx1 : x ≤ 1048576) :
    Calls Tryz.prog 4 #[.agg #[.slice aa A.ts.length ca, .slice ab A.ss.length cb], .agg #[.slice ac B.ts.length cc, .slice ad B.ss.length cd], .int .i64 x, .int .i64 m] w fun e w' => e = .returned (.bool true) ∧ Ext w w' := by
  have hsw := @uniE_swap A B
  have hEok := @uniE_ok A B
  have hFok := @uniE_ok B A
  have hmU := fun h => @uni_mem A B h m
  have hmV := fun h => @uni_mem B A h m
  have hgU := @uni_good A B
  have hgV := @uni_good B A
  have hsF := @shf_facts A x
  have hsM := fun h => @shf_mem A x h m
  have hsG := @shf_good A x
  obtain ⟨X, hX⟩ : ∃ X, uniX A B = X := ⟨_, rfl⟩
  obtain ⟨E, hE⟩ : ∃ E, uniE A B = E := ⟨_, rfl⟩
  obtain ⟨V, hV⟩ : ∃ V, uniX B A = V := ⟨_, rfl⟩
  obtain ⟨F, hF⟩ : ∃ F, uniE B A = F := ⟨_, rfl⟩
  obtain ⟨Y, hY⟩ : ∃ Y, shfX A x = Y := ⟨_, rfl⟩
  obtain ⟨G, hG⟩ : ∃ G, shfE A x = G := ⟨_, rfl⟩
  rw [hE, hF] at hsw
  rw [hE] at hEok
  rw [hF] at hFok
  rw [hE, hX] at hmU hgU
  rw [hF, hV] at hmV hgV
  rw [hG] at hsF
  rw [hG, hY] at hsM hsG
  have HX := Lib.hid hX
  have HE := Lib.hid hE
  have HV := Lib.hid hV
  have HF := Lib.hid hF
  have HY := Lib.hid hY
  have HG := Lib.hid hG
  have HSW := Lib.hid hsw
  have HEOK := Lib.hid hEok
  have HFOK := Lib.hid hFok
  have HMU := Lib.hid hmU
  have HMV := Lib.hid hmV
  have HGU := Lib.hid hgU
  have HGV := Lib.hid hgV
  have HSF := Lib.hid hsF
  have HSM := Lib.hid hsM
  have HSG := Lib.hid hsG
  have HFA := Lib.hid hfA
  have HFB := Lib.hid hfB
  clear hX hE hV hF hY hG hsw hEok hFok hmU hmV hgU hgV hsF hsM hsG hfA hfB
  go_enter Tryz.func4, Tryz.ntmps4
  go_wp2_with fail
  refine (few_any _ _ A _ (hA.ext (by repeat (first | exact Ext.refl _ | assumption | refine Ext.alloc ?_ _ | refine Ext.drew ?_ | refine Ext.drewN _ ?_ | refine Ext.trans ?_ (by assumption))))).mono ?_
  rw [HFA.out]
  rintro e w0 ⟨rfl, hy⟩
  obtain ⟨q0, q1, hx, hzz⟩ := alloc2 hy
  clear hy
  have d2 : w0.cell? ⟨w.heap.size + 1, 0, none⟩ = some (.slice ac B.ts.length cc) := q1.cell 0
  have d3 : w0.cell? ⟨w.heap.size + 1, 1, none⟩ = some (.slice ad B.ss.length cd) := q1.cell 1
  go_wp2_with fail
  refine (few_any _ _ B _ (hB.ext hx)).mono ?_
  rw [HFB.out]
  rintro e w1 ⟨rfl, hy⟩
  replace q0 := q0.ext hy
  replace q1 := q1.ext hy
  replace hx := hx.trans hy
  clear hy d2 d3
  have d0 : w1.cell? ⟨w.heap.size, 0, none⟩ = some (.slice aa A.ts.length ca) := q0.cell 0
  have d1 : w1.cell? ⟨w.heap.size, 1, none⟩ = some (.slice ab A.ss.length cb) := q0.cell 1
  have d2 : w1.cell? ⟨w.heap.size + 1, 0, none⟩ = some (.slice ac B.ts.length cc) := q1.cell 0
  have d3 : w1.cell? ⟨w.heap.size + 1, 1, none⟩ = some (.slice ad B.ss.length cd) := q1.cell 1
  go_wp2_with fail
  refine (Union_any _ _ _ _ A B _ (hA.ext hx) (hB.ext hx)).mono ?_
  rw [HX.out, HE.out]
  rintro e w2 ⟨va, vb, rfl, hmu, hy⟩
  obtain ⟨a1, k1, rfl⟩ := hmu.t.len
  obtain ⟨a2, k2, rfl⟩ := hmu.s.len
  have hb1 := Cls.new w2 25 #[.slice a1 X.ts.length k1, .slice a2 X.ss.length k2]
  obtain ⟨W2, hW2⟩ : ∃ W2, w2.alloc (.cells #[.slice a1 X.ts.length k1, .slice a2 X.ss.length k2] 25) = W2 := ⟨_, rfl⟩
  have hz : Ext w2 W2 := by rw [← hW2]; exact (by repeat (first | exact Ext.refl _ | assumption | refine Ext.alloc ?_ _ | refine Ext.drew ?_ | refine Ext.drewN _ ?_ | refine Ext.trans ?_ (by assumption)))
  rw [hW2] at hb1
  replace q0 := (q0.ext hy).ext hz
  replace q1 := (q1.ext hy).ext hz
  replace hx := (hx.trans hy).trans hz
  replace hmu := hmu.ext hz
  clear hy hz d0 d1 d2 d3
  have d0 : W2.cell? ⟨w.heap.size, 0, none⟩ = some (.slice aa A.ts.length ca) := q0.cell 0
  have d1 : W2.cell? ⟨w.heap.size, 1, none⟩ = some (.slice ab A.ss.length cb) := q0.cell 1
  have d2 : W2.cell? ⟨w.heap.size + 1, 0, none⟩ = some (.slice ac B.ts.length cc) := q1.cell 0
  have d3 : W2.cell? ⟨w.heap.size + 1, 1, none⟩ = some (.slice ad B.ss.length cd) := q1.cell 1
  go_upto_region 4 with fail
  try rw [hW2]
  clear hW2
  go_wp2_with fail
  refine (Union_any _ _ _ _ B A _ (hB.ext hx) (hA.ext hx)).mono ?_
  rw [HV.out, HF.out]
  rintro e w3 ⟨va, vb, rfl, hmv, hy⟩
  obtain ⟨a3, k3, rfl⟩ := hmv.t.len
  obtain ⟨a4, k4, rfl⟩ := hmv.s.len
  have hb2 := Cls.new w3 25 #[.slice a3 V.ts.length k3, .slice a4 V.ss.length k4]
  obtain ⟨W3, hW3⟩ : ∃ W3, w3.alloc (.cells #[.slice a3 V.ts.length k3, .slice a4 V.ss.length k4] 25) = W3 := ⟨_, rfl⟩
  have hz : Ext w3 W3 := by rw [← hW3]; exact (by repeat (first | exact Ext.refl _ | assumption | refine Ext.alloc ?_ _ | refine Ext.drew ?_ | refine Ext.drewN _ ?_ | refine Ext.trans ?_ (by assumption)))
  rw [hW3] at hb2
  replace q0 := (q0.ext hy).ext hz
  replace q1 := (q1.ext hy).ext hz
  replace hb1 := (hb1.ext hy).ext hz
  replace hx := (hx.trans hy).trans hz
  replace hmu := (hmu.ext hy).ext hz
  replace hmv := hmv.ext hz
  clear hy hz d0 d1 d2 d3
  have d0 : W3.cell? ⟨w.heap.size, 0, none⟩ = some (.slice aa A.ts.length ca) := q0.cell 0
  have d1 : W3.cell? ⟨w.heap.size, 1, none⟩ = some (.slice ab A.ss.length cb) := q0.cell 1
  have d2 : W3.cell? ⟨w.heap.size + 1, 0, none⟩ = some (.slice ac B.ts.length cc) := q1.cell 0
  have d3 : W3.cell? ⟨w.heap.size + 1, 1, none⟩ = some (.slice ad B.ss.length cd) := q1.cell 1
  go_upto_region 5 with fail
  try rw [hW3]
  clear hW3
  replace hA := hA.ext hx
  replace hB := hB.ext hx
  replace hT := hT.ext hx
  obtain ⟨N1, hN1⟩ : ∃ N1, w2.heap.size = N1 := ⟨_, rfl⟩
  obtain ⟨N2, hN2⟩ : ∃ N2, w3.heap.size = N2 := ⟨_, rfl⟩
  rw [hN1] at hb1 ⊢
  rw [hN2] at hb2 ⊢
  clear hN1 hN2
  go_cut [64] (fun s wx => s = .bool false ∧ Ext W3 wx)
  case first =>
    by_cases hEF : E = F
    · have hne : (E != F) = false := by simpa using hEF
      go_wp2_with fail
      go_meet
      case rel => exact ⟨rfl, (by repeat (first | exact Ext.refl _ | assumption | refine Ext.alloc ?_ _ | refine Ext.drew ?_ | refine Ext.drewN _ ?_ | refine Ext.trans ?_ (by assumption)))⟩
    · have hne : (E != F) = true := by simpa using hEF
      by_cases hcA : chkE A = 0
      · have hcB : (chkE B == 0) = false := by
          rw [beq_eq_false_iff_ne]
          exact fun h => hEF (HSW.out hcA h)
        have hcA' : (chkE A == 0) = true := by simpa using hcA
        go_wp2_with fail
        refine (Check_any _ _ A _ hA).mono ?_
        rintro e w4 ⟨rfl, hy⟩
        have g2 := hy.cell d2
        have g3 := hy.cell d3
        go_wp2_with fail
        refine (Check_any _ _ B _ (hB.ext hy)).mono ?_
        rintro e w5 ⟨rfl, hz⟩
        go_wp2_with fail
        go_meet
        case rel => exact ⟨rfl, hy.trans hz⟩
      · have hcA' : (chkE A == 0) = false := by rw [beq_eq_false_iff_ne]; exact hcA
        go_wp2_with fail
        refine (Check_any _ _ A _ hA).mono ?_
        rintro e w4 ⟨rfl, hy⟩
        go_wp2_with fail
        go_meet
        case rel => exact ⟨rfl, hy⟩
  case rest =>
    obtain ⟨rfl, hy⟩ := hcut
    replace hA := hA.ext hy
    replace hB := hB.ext hy
    replace hT := hT.ext hy
    replace hmu := hmu.ext hy
    replace hmv := hmv.ext hy
    replace hx := hx.trans hy
    replace q0 := q0.ext hy
    replace q1 := q1.ext hy
    replace hb1 := hb1.ext hy
    replace hb2 := hb2.ext hy
    clear hy d0 d1 d2 d3
    have d0 : wc.cell? ⟨w.heap.size, 0, none⟩ = some (.slice aa A.ts.length ca) := q0.cell 0
    have d1 : wc.cell? ⟨w.heap.size, 1, none⟩ = some (.slice ab A.ss.length cb) := q0.cell 1
    have d2 : wc.cell? ⟨w.heap.size + 1, 0, none⟩ = some (.slice ac B.ts.length cc) := q1.cell 0
    have d3 : wc.cell? ⟨w.heap.size + 1, 1, none⟩ = some (.slice ad B.ss.length cd) := q1.cell 1
    have e0 : wc.cell? ⟨N1, 0, none⟩ = some (.slice a1 X.ts.length k1) := hb1.cell 0
    have e1 : wc.cell? ⟨N1, 1, none⟩ = some (.slice a2 X.ss.length k2) := hb1.cell 1
    have e2 : wc.cell? ⟨N2, 0, none⟩ = some (.slice a3 V.ts.length k3) := hb2.cell 0
    have e3 : wc.cell? ⟨N2, 1, none⟩ = some (.slice a4 V.ss.length k4) := hb2.cell 1
    go_upto_region 7 with fail
    obtain ⟨wo, hwo⟩ : ∃ wo, wc = wo := ⟨_, rfl⟩
    rw [hwo] at hA hB hT hmu hmv hx q0 q1 hb1 hb2 d0 d1 d2 d3 e0 e1 e2 e3 ⊢
    clear hwo
    go_cut [94] (fun s wx => s = .bool false ∧ Ext wo wx)
    case first =>
      by_cases hE0 : E = 0
      · obtain ⟨hcA, hcB⟩ := HEOK.out hE0
        have hkA := Ok.of hcA
        have hkB := Ok.of hcB
        have hkU := HGU.out hE0
        have hF0 : F = 0 := by rw [← HSW.out hcA hcB]; exact hE0
        have hkV := HGV.out hF0
        have hmU := HMU.out hE0
        have hmV := HMV.out hF0
        have hE1 : (E == 0) = true := by simpa using hE0
        obtain ⟨ma, hma⟩ : ∃ v, mem A m = v := ⟨_, rfl⟩
        obtain ⟨mb, hmb⟩ : ∃ v, mem B m = v := ⟨_, rfl⟩
        rw [hma, hmb] at hmU
        rw [hma, hmb, Bool.or_comm] at hmV
        have KU := fun W h => has_c _ _ X wo hmu hkU m hm0 hm1 _ hmU W h
        have KA := fun W h => has_c _ _ A wo hA hkA m hm0 hm1 _ hma W h
        have KB := fun W h => has_c _ _ B wo hB hkB m hm0 hm1 _ hmb W h
        have KV := fun W h => has_c _ _ V wo hmv hkV m hm0 hm1 _ hmV W h
        have KC := fun W h => Check_c _ _ X wo hmu 0 hkU.chk W h
        clear hma hmb hmU hmV hF0
        subst hE0
        cases ma
        · cases mb
          all_goals
            go_region_held3 (fun W' => W'.cell? ⟨w.heap.size, 0, none⟩ = some (.slice aa A.ts.length ca) ∧ W'.cell? ⟨w.heap.size, 1, none⟩ = some (.slice ab A.ss.length cb) ∧ W'.cell? ⟨w.heap.size + 1, 0, none⟩ = some (.slice ac B.ts.length cc) ∧ W'.cell? ⟨w.heap.size + 1, 1, none⟩ = some (.slice ad B.ss.length cd) ∧ W'.cell? ⟨N1, 0, none⟩ = some (.slice a1 X.ts.length k1) ∧ W'.cell? ⟨N1, 1, none⟩ = some (.slice a2 X.ss.length k2) ∧ W'.cell? ⟨N2, 0, none⟩ = some (.slice a3 V.ts.length k3) ∧ W'.cell? ⟨N2, 1, none⟩ = some (.slice a4 V.ss.length k4) ∧ Ext wo W')
              ((refine ⟨Ext.cell (w := wo) ?_ d0, Ext.cell (w := wo) ?_ d1, Ext.cell (w := wo) ?_ d2, Ext.cell (w := wo) ?_ d3, Ext.cell (w := wo) ?_ e0, Ext.cell (w := wo) ?_ e1, Ext.cell (w := wo) ?_ e2, Ext.cell (w := wo) ?_ e3, ?_⟩; all_goals exact (by repeat (first | exact Ext.refl _ | assumption | refine Ext.alloc ?_ _ | refine Ext.drew ?_ | refine Ext.drewN _ ?_ | refine Ext.trans ?_ (by assumption)))))
              ((first | (go_at_call 13; first | ((with_reducible refine (KU _ ?_).mono ?_); (focus (exact (by repeat (first | exact Ext.refl _ | assumption | refine Ext.alloc ?_ _ | refine Ext.drew ?_ | refine Ext.drewN _ ?_ | refine Ext.trans ?_ (by assumption))))); rintro e w' ⟨rfl, hz⟩) | ((with_reducible refine (KA _ ?_).mono ?_); (focus (exact (by repeat (first | exact Ext.refl _ | assumption | refine Ext.alloc ?_ _ | refine Ext.drew ?_ | refine Ext.drewN _ ?_ | refine Ext.trans ?_ (by assumption))))); rintro e w' ⟨rfl, hz⟩) | ((with_reducible refine (KB _ ?_).mono ?_); (focus (exact (by repeat (first | exact Ext.refl _ | assumption | refine Ext.alloc ?_ _ | refine Ext.drew ?_ | refine Ext.drewN _ ?_ | refine Ext.trans ?_ (by assumption))))); rintro e w' ⟨rfl, hz⟩) | ((with_reducible refine (KV _ ?_).mono ?_); (focus (exact (by repeat (first | exact Ext.refl _ | assumption | refine Ext.alloc ?_ _ | refine Ext.drew ?_ | refine Ext.drewN _ ?_ | refine Ext.trans ?_ (by assumption))))); rintro e w' ⟨rfl, hz⟩)) | (go_at_call 12; (with_reducible refine (KC _ ?_).mono ?_); (focus (exact (by repeat (first | exact Ext.refl _ | assumption | refine Ext.alloc ?_ _ | refine Ext.drew ?_ | refine Ext.drewN _ ?_ | refine Ext.trans ?_ (by assumption))))); rintro e w' ⟨rfl, hz⟩)))
            go_wp2_with fail
            go_meet
            case rel => exact ⟨rfl, (by repeat (first | exact Ext.refl _ | assumption | refine Ext.alloc ?_ _ | refine Ext.drew ?_ | refine Ext.drewN _ ?_ | refine Ext.trans ?_ (by assumption)))⟩
        · simp only [Bool.true_or] at KU KV
          refine wp_region_held_drew (S := (fun W' => W'.cell? ⟨w.heap.size, 0, none⟩ = some (.slice aa A.ts.length ca) ∧ W'.cell? ⟨w.heap.size, 1, none⟩ = some (.slice ab A.ss.length cb) ∧ W'.cell? ⟨w.heap.size + 1, 0, none⟩ = some (.slice ac B.ts.length cc) ∧ W'.cell? ⟨w.heap.size + 1, 1, none⟩ = some (.slice ad B.ss.length cd) ∧ W'.cell? ⟨N1, 0, none⟩ = some (.slice a1 X.ts.length k1) ∧ W'.cell? ⟨N1, 1, none⟩ = some (.slice a2 X.ss.length k2) ∧ W'.cell? ⟨N2, 0, none⟩ = some (.slice a3 V.ts.length k3) ∧ W'.cell? ⟨N2, 1, none⟩ = some (.slice a4 V.ss.length k4) ∧ Ext wo W')) (by kernel_rfl) ?_ (fun hHeld => ?_)
          · exact ⟨Ext.cell (w := wo) (by repeat (first | exact Ext.refl _ | assumption | refine Ext.alloc ?_ _ | refine Ext.drew ?_ | refine Ext.drewN _ ?_ | refine Ext.trans ?_ (by assumption))) d0, Ext.cell (w := wo) (by repeat (first | exact Ext.refl _ | assumption | refine Ext.alloc ?_ _ | refine Ext.drew ?_ | refine Ext.drewN _ ?_ | refine Ext.trans ?_ (by assumption))) d1, Ext.cell (w := wo) (by repeat (first | exact Ext.refl _ | assumption | refine Ext.alloc ?_ _ | refine Ext.drew ?_ | refine Ext.drewN _ ?_ | refine Ext.trans ?_ (by assumption))) d2, Ext.cell (w := wo) (by repeat (first | exact Ext.refl _ | assumption | refine Ext.alloc ?_ _ | refine Ext.drew ?_ | refine Ext.drewN _ ?_ | refine Ext.trans ?_ (by assumption))) d3, Ext.cell (w := wo) (by repeat (first | exact Ext.refl _ | assumption | refine Ext.alloc ?_ _ | refine Ext.drew ?_ | refine Ext.drewN _ ?_ | refine Ext.trans ?_ (by assumption))) e0, Ext.cell (w := wo) (by repeat (first | exact Ext.refl _ | assumption | refine Ext.alloc ?_ _ | refine Ext.drew ?_ | refine Ext.drewN _ ?_ | refine Ext.trans ?_ (by assumption))) e1, Ext.cell (w := wo) (by repeat (first | exact Ext.refl _ | assumption | refine Ext.alloc ?_ _ | refine Ext.drew ?_ | refine Ext.drewN _ ?_ | refine Ext.trans ?_ (by assumption))) e2, Ext.cell (w := wo) (by repeat (first | exact Ext.refl _ | assumption | refine Ext.alloc ?_ _ | refine Ext.drew ?_ | refine Ext.drewN _ ?_ | refine Ext.trans ?_ (by assumption))) e3, (by repeat (first | exact Ext.refl _ | assumption | refine Ext.alloc ?_ _ | refine Ext.drew ?_ | refine Ext.drewN _ ?_ | refine Ext.trans ?_ (by assumption)))⟩
          first | (refine wpAnyH_take (i := 0) (v := ?_) rfl (by kernel_rfl) (by kernel_rfl) (by kernel_rfl) (fun _ _ _ h => h) (Or.inl ⟨by rfl, ?_⟩) (by assumption) ?_; rotate_left 1; (focus (intro w hSw; (try dsimp only at hSw); go_simp; try (with_reducible rfl)))) | (refine wpAnyH_take (i := 0) (v := undef) rfl (by kernel_rfl) (by kernel_rfl) (by kernel_rfl) (fun _ _ _ h => h) (Or.inr ⟨by rfl, rfl⟩) (by assumption) ?_)
          try simp only [Act.put, List.getElem_toArray, List.getElem_cons_zero, List.setIfInBounds_toArray, List.set_cons_zero, List.set_cons_succ]
          first | (refine wpAnyH_take (i := 1) (v := ?_) rfl (by kernel_rfl) (by kernel_rfl) (by kernel_rfl) (fun _ _ _ h => h) (Or.inl ⟨by rfl, ?_⟩) (by assumption) ?_; rotate_left 1; (focus (intro w hSw; (try dsimp only at hSw); go_simp; try (with_reducible rfl)))) | (refine wpAnyH_take (i := 1) (v := undef) rfl (by kernel_rfl) (by kernel_rfl) (by kernel_rfl) (fun _ _ _ h => h) (Or.inr ⟨by rfl, rfl⟩) (by assumption) ?_)
          try simp only [Act.put, List.getElem_toArray, List.getElem_cons_zero, List.getElem_cons_succ, List.setIfInBounds_toArray, List.set_cons_zero, List.set_cons_succ]
          first | (refine wpAnyH_take (i := 2) (v := ?_) rfl (by kernel_rfl) (by kernel_rfl) (by kernel_rfl) (fun _ _ _ h => h) (Or.inl ⟨by rfl, ?_⟩) (by assumption) ?_; rotate_left 1; (focus (intro w hSw; (try dsimp only at hSw); go_simp; try (with_reducible rfl)))) | (refine wpAnyH_take (i := 2) (v := undef) rfl (by kernel_rfl) (by kernel_rfl) (by kernel_rfl) (fun _ _ _ h => h) (Or.inr ⟨by rfl, rfl⟩) (by assumption) ?_)
          try simp only [Act.put, List.getElem_toArray, List.getElem_cons_zero, List.getElem_cons_succ, List.setIfInBounds_toArray, List.set_cons_zero, List.set_cons_succ]
          first | (refine wpAnyH_take (i := 3) (v := ?_) rfl (by kernel_rfl) (by kernel_rfl) (by kernel_rfl) (fun _ _ _ h => h) (Or.inl ⟨by rfl, ?_⟩) (by assumption) ?_; rotate_left 1; (focus (intro w hSw; (try dsimp only at hSw); go_simp; try (with_reducible rfl)))) | (refine wpAnyH_take (i := 3) (v := undef) rfl (by kernel_rfl) (by kernel_rfl) (by kernel_rfl) (fun _ _ _ h => h) (Or.inr ⟨by rfl, rfl⟩) (by assumption) ?_)
          try simp only [Act.put, List.getElem_toArray, List.getElem_cons_zero, List.getElem_cons_succ, List.setIfInBounds_toArray, List.set_cons_zero, List.set_cons_succ]
          first | (refine wpAnyH_take (i := 4) (v := ?_) rfl (by kernel_rfl) (by kernel_rfl) (by kernel_rfl) (fun _ _ _ h => h) (Or.inl ⟨by rfl, ?_⟩) (by assumption) ?_; rotate_left 1; (focus (intro w hSw; (try dsimp only at hSw); go_simp; try (with_reducible rfl)))) | (refine wpAnyH_take (i := 4) (v := undef) rfl (by kernel_rfl) (by kernel_rfl) (by kernel_rfl) (fun _ _ _ h => h) (Or.inr ⟨by rfl, rfl⟩) (by assumption) ?_)
          try simp only [Act.put, List.getElem_toArray, List.getElem_cons_zero, List.getElem_cons_succ, List.setIfInBounds_toArray, List.set_cons_zero, List.set_cons_succ]
          first | (refine wpAnyH_take (i := 6) (v := ?_) rfl (by kernel_rfl) (by kernel_rfl) (by kernel_rfl) (fun _ _ _ h => h) (Or.inl ⟨by rfl, ?_⟩) (by assumption) ?_; rotate_left 1; (focus (intro w hSw; (try dsimp only at hSw); go_simp; try (with_reducible rfl)))) | (refine wpAnyH_take (i := 6) (v := undef) rfl (by kernel_rfl) (by kernel_rfl) (by kernel_rfl) (fun _ _ _ h => h) (Or.inr ⟨by rfl, rfl⟩) (by assumption) ?_)
          try simp only [Act.put, List.getElem_toArray, List.getElem_cons_zero, List.getElem_cons_succ, List.setIfInBounds_toArray, List.set_cons_zero, List.set_cons_succ]
          first | (refine wpAnyH_take (i := 7) (v := ?_) rfl (by kernel_rfl) (by kernel_rfl) (by kernel_rfl) (fun _ _ _ h => h) (Or.inl ⟨by rfl, ?_⟩) (by assumption) ?_; rotate_left 1; (focus (intro w hSw; (try dsimp only at hSw); go_simp; try (with_reducible rfl)))) | (refine wpAnyH_take (i := 7) (v := undef) rfl (by kernel_rfl) (by kernel_rfl) (by kernel_rfl) (fun _ _ _ h => h) (Or.inr ⟨by rfl, rfl⟩) (by assumption) ?_)
          try simp only [Act.put, List.getElem_toArray, List.getElem_cons_zero, List.getElem_cons_succ, List.setIfInBounds_toArray, List.set_cons_zero, List.set_cons_succ]
          refine wpAnyH_ready (rs := [5]) (by kernel_rfl) (by simp) ?_
          refine AllReadyH.cons rfl (fun K hK => ?_) AllReadyH.nil
          go_simp
          (refine (KU _ hHeld.2.2.2.2.2.2.2.2).mono ?_; rintro e w' ⟨rfl, hz⟩; try dsimp only)
          refine hK.out _ _ ?_ (fun hHeld => ?_)
          · exact ⟨Ext.cell (w := wo) (hHeld.2.2.2.2.2.2.2.2.trans hz) d0, Ext.cell (w := wo) (hHeld.2.2.2.2.2.2.2.2.trans hz) d1, Ext.cell (w := wo) (hHeld.2.2.2.2.2.2.2.2.trans hz) d2, Ext.cell (w := wo) (hHeld.2.2.2.2.2.2.2.2.trans hz) d3, Ext.cell (w := wo) (hHeld.2.2.2.2.2.2.2.2.trans hz) e0, Ext.cell (w := wo) (hHeld.2.2.2.2.2.2.2.2.trans hz) e1, Ext.cell (w := wo) (hHeld.2.2.2.2.2.2.2.2.trans hz) e2, Ext.cell (w := wo) (hHeld.2.2.2.2.2.2.2.2.trans hz) e3, hHeld.2.2.2.2.2.2.2.2.trans hz⟩
          clear hK K
          try simp only [Act.put, List.getElem_toArray, List.getElem_cons_zero, List.getElem_cons_succ, List.setIfInBounds_toArray, List.set_cons_zero, List.set_cons_succ]
          refine wpAnyH_ready (rs := [8]) (by kernel_rfl) (by simp) ?_
          refine AllReadyH.cons rfl (fun K hK => ?_) AllReadyH.nil
          go_simp
          (refine (KA _ hHeld.2.2.2.2.2.2.2.2).mono ?_; rintro e w' ⟨rfl, hz⟩; try dsimp only)
          refine hK.out _ _ ?_ (fun hHeld => ?_)
          · exact ⟨Ext.cell (w := wo) (hHeld.2.2.2.2.2.2.2.2.trans hz) d0, Ext.cell (w := wo) (hHeld.2.2.2.2.2.2.2.2.trans hz) d1, Ext.cell (w := wo) (hHeld.2.2.2.2.2.2.2.2.trans hz) d2, Ext.cell (w := wo) (hHeld.2.2.2.2.2.2.2.2.trans hz) d3, Ext.cell (w := wo) (hHeld.2.2.2.2.2.2.2.2.trans hz) e0, Ext.cell (w := wo) (hHeld.2.2.2.2.2.2.2.2.trans hz) e1, Ext.cell (w := wo) (hHeld.2.2.2.2.2.2.2.2.trans hz) e2, Ext.cell (w := wo) (hHeld.2.2.2.2.2.2.2.2.trans hz) e3, hHeld.2.2.2.2.2.2.2.2.trans hz⟩
          clear hK K
          try simp only [Act.put, List.getElem_toArray, List.getElem_cons_zero, List.getElem_cons_succ, List.setIfInBounds_toArray, List.set_cons_zero, List.set_cons_succ]
          first | (refine wpAnyH_take (i := 9) (v := ?_) rfl (by kernel_rfl) (by kernel_rfl) (by kernel_rfl) (fun _ _ _ h => h) (Or.inl ⟨by rfl, ?_⟩) (by assumption) ?_; rotate_left 1; (focus (intro w hSw; (try dsimp only at hSw); go_simp; try (with_reducible rfl)))) | (refine wpAnyH_take (i := 9) (v := undef) rfl (by kernel_rfl) (by kernel_rfl) (by kernel_rfl) (fun _ _ _ h => h) (Or.inr ⟨by rfl, rfl⟩) (by assumption) ?_)
          try simp only [Act.put, List.getElem_toArray, List.getElem_cons_zero, List.getElem_cons_succ, List.setIfInBounds_toArray, List.set_cons_zero, List.set_cons_succ]
          (refine wpAnyH_take (i := 10) (v := undef) rfl (by kernel_rfl) (by kernel_rfl) (by kernel_rfl) (fun _ _ _ h => h) (Or.inr ⟨by rfl, rfl⟩) (by assumption) ?_)
          try simp only [Act.put, List.getElem_toArray, List.getElem_cons_zero, List.getElem_cons_succ, List.setIfInBounds_toArray, List.set_cons_zero, List.set_cons_succ]
          (refine wpAnyH_take (i := 11) (v := undef) rfl (by kernel_rfl) (by kernel_rfl) (by kernel_rfl) (fun _ _ _ h => h) (Or.inr ⟨by rfl, rfl⟩) (by assumption) ?_)
          try simp only [Act.put, List.getElem_toArray, List.getElem_cons_zero, List.getElem_cons_succ, List.setIfInBounds_toArray, List.set_cons_zero, List.set_cons_succ]
          (refine wpAnyH_take (i := 12) (v := undef) rfl (by kernel_rfl) (by kernel_rfl) (by kernel_rfl) (fun _ _ _ h => h) (Or.inr ⟨by rfl, rfl⟩) (by assumption) ?_)
          try simp only [Act.put, List.getElem_toArray, List.getElem_cons_zero, List.getElem_cons_succ, List.setIfInBounds_toArray, List.set_cons_zero, List.set_cons_succ]
          first | (refine wpAnyH_take (i := 13) (v := ?_) rfl (by kernel_rfl) (by kernel_rfl) (by kernel_rfl) (fun _ _ _ h => h) (Or.inl ⟨by rfl, ?_⟩) (by assumption) ?_; rotate_left 1; (focus (intro w hSw; (try dsimp only at hSw); go_simp; try (with_reducible rfl)))) | (refine wpAnyH_take (i := 13) (v := undef) rfl (by kernel_rfl) (by kernel_rfl) (by kernel_rfl) (fun _ _ _ h => h) (Or.inr ⟨by rfl, rfl⟩) (by assumption) ?_)
          try simp only [Act.put, List.getElem_toArray, List.getElem_cons_zero, List.getElem_cons_succ, List.setIfInBounds_toArray, List.set_cons_zero, List.set_cons_succ]
          first | (refine wpAnyH_take (i := 14) (v := ?_) rfl (by kernel_rfl) (by kernel_rfl) (by kernel_rfl) (fun _ _ _ h => h) (Or.inl ⟨by rfl, ?_⟩) (by assumption) ?_; rotate_left 1; (focus (intro w hSw; (try dsimp only at hSw); go_simp; try (with_reducible rfl)))) | (refine wpAnyH_take (i := 14) (v := undef) rfl (by kernel_rfl) (by kernel_rfl) (by kernel_rfl) (fun _ _ _ h => h) (Or.inr ⟨by rfl, rfl⟩) (by assumption) ?_)
          try simp only [Act.put, List.getElem_toArray, List.getElem_cons_zero, List.getElem_cons_succ, List.setIfInBounds_toArray, List.set_cons_zero, List.set_cons_succ]
          first | (refine wpAnyH_take (i := 15) (v := ?_) rfl (by kernel_rfl) (by kernel_rfl) (by kernel_rfl) (fun _ _ _ h => h) (Or.inl ⟨by rfl, ?_⟩) (by assumption) ?_; rotate_left 1; (focus (intro w hSw; (try dsimp only at hSw); go_simp; try (with_reducible rfl)))) | (refine wpAnyH_take (i := 15) (v := undef) rfl (by kernel_rfl) (by kernel_rfl) (by kernel_rfl) (fun _ _ _ h => h) (Or.inr ⟨by rfl, rfl⟩) (by assumption) ?_)
          try simp only [Act.put, List.getElem_toArray, List.getElem_cons_zero, List.getElem_cons_succ, List.setIfInBounds_toArray, List.set_cons_zero, List.set_cons_succ]
          first | (refine wpAnyH_take (i := 16) (v := ?_) rfl (by kernel_rfl) (by kernel_rfl) (by kernel_rfl) (fun _ _ _ h => h) (Or.inl ⟨by rfl, ?_⟩) (by assumption) ?_; rotate_left 1; (focus (intro w hSw; (try dsimp only at hSw); go_simp; try (with_reducible rfl)))) | (refine wpAnyH_take (i := 16) (v := undef) rfl (by kernel_rfl) (by kernel_rfl) (by kernel_rfl) (fun _ _ _ h => h) (Or.inr ⟨by rfl, rfl⟩) (by assumption) ?_)
          try simp only [Act.put, List.getElem_toArray, List.getElem_cons_zero, List.getElem_cons_succ, List.setIfInBounds_toArray, List.set_cons_zero, List.set_cons_succ]
          first | (refine wpAnyH_take (i := 17) (v := ?_) rfl (by kernel_rfl) (by kernel_rfl) (by kernel_rfl) (fun _ _ _ h => h) (Or.inl ⟨by rfl, ?_⟩) (by assumption) ?_; rotate_left 1; (focus (intro w hSw; (try dsimp only at hSw); go_simp; try (with_reducible rfl)))) | (refine wpAnyH_take (i := 17) (v := undef) rfl (by kernel_rfl) (by kernel_rfl) (by kernel_rfl) (fun _ _ _ h => h) (Or.inr ⟨by rfl, rfl⟩) (by assumption) ?_)
          try simp only [Act.put, List.getElem_toArray, List.getElem_cons_zero, List.getElem_cons_succ, List.setIfInBounds_toArray, List.set_cons_zero, List.set_cons_succ]
          first | (refine wpAnyH_take (i := 19) (v := ?_) rfl (by kernel_rfl) (by kernel_rfl) (by kernel_rfl) (fun _ _ _ h => h) (Or.inl ⟨by rfl, ?_⟩) (by assumption) ?_; rotate_left 1; (focus (intro w hSw; (try dsimp only at hSw); go_simp; try (with_reducible rfl)))) | (refine wpAnyH_take (i := 19) (v := undef) rfl (by kernel_rfl) (by kernel_rfl) (by kernel_rfl) (fun _ _ _ h => h) (Or.inr ⟨by rfl, rfl⟩) (by assumption) ?_)
          try simp only [Act.put, List.getElem_toArray, List.getElem_cons_zero, List.getElem_cons_succ, List.setIfInBounds_toArray, List.set_cons_zero, List.set_cons_succ]
          first | (refine wpAnyH_take (i := 20) (v := ?_) rfl (by kernel_rfl) (by kernel_rfl) (by kernel_rfl) (fun _ _ _ h => h) (Or.inl ⟨by rfl, ?_⟩) (by assumption) ?_; rotate_left 1; (focus (intro w hSw; (try dsimp only at hSw); go_simp; try (with_reducible rfl)))) | (refine wpAnyH_take (i := 20) (v := undef) rfl (by kernel_rfl) (by kernel_rfl) (by kernel_rfl) (fun _ _ _ h => h) (Or.inr ⟨by rfl, rfl⟩) (by assumption) ?_)
          try simp only [Act.put, List.getElem_toArray, List.getElem_cons_zero, List.getElem_cons_succ, List.setIfInBounds_toArray, List.set_cons_zero, List.set_cons_succ]
          refine wpAnyH_ready (rs := [18]) (by kernel_rfl) (by simp) ?_
          refine AllReadyH.cons rfl (fun K hK => ?_) AllReadyH.nil
          go_simp
          (refine (KU _ hHeld.2.2.2.2.2.2.2.2).mono ?_; rintro e w' ⟨rfl, hz⟩; try dsimp only)
          refine hK.out _ _ ?_ (fun hHeld => ?_)
          · exact ⟨Ext.cell (w := wo) (hHeld.2.2.2.2.2.2.2.2.trans hz) d0, Ext.cell (w := wo) (hHeld.2.2.2.2.2.2.2.2.trans hz) d1, Ext.cell (w := wo) (hHeld.2.2.2.2.2.2.2.2.trans hz) d2, Ext.cell (w := wo) (hHeld.2.2.2.2.2.2.2.2.trans hz) d3, Ext.cell (w := wo) (hHeld.2.2.2.2.2.2.2.2.trans hz) e0, Ext.cell (w := wo) (hHeld.2.2.2.2.2.2.2.2.trans hz) e1, Ext.cell (w := wo) (hHeld.2.2.2.2.2.2.2.2.trans hz) e2, Ext.cell (w := wo) (hHeld.2.2.2.2.2.2.2.2.trans hz) e3, hHeld.2.2.2.2.2.2.2.2.trans hz⟩
          clear hK K
          try simp only [Act.put, List.getElem_toArray, List.getElem_cons_zero, List.getElem_cons_succ, List.setIfInBounds_toArray, List.set_cons_zero, List.set_cons_succ]
          refine wpAnyH_ready (rs := [21]) (by kernel_rfl) (by simp) ?_
          refine AllReadyH.cons rfl (fun K hK => ?_) AllReadyH.nil
          go_simp
          (refine (KV _ hHeld.2.2.2.2.2.2.2.2).mono ?_; rintro e w' ⟨rfl, hz⟩; try dsimp only)
          refine hK.out _ _ ?_ (fun hHeld => ?_)
          · exact ⟨Ext.cell (w := wo) (hHeld.2.2.2.2.2.2.2.2.trans hz) d0, Ext.cell (w := wo) (hHeld.2.2.2.2.2.2.2.2.trans hz) d1, Ext.cell (w := wo) (hHeld.2.2.2.2.2.2.2.2.trans hz) d2, Ext.cell (w := wo) (hHeld.2.2.2.2.2.2.2.2.trans hz) d3, Ext.cell (w := wo) (hHeld.2.2.2.2.2.2.2.2.trans hz) e0, Ext.cell (w := wo) (hHeld.2.2.2.2.2.2.2.2.trans hz) e1, Ext.cell (w := wo) (hHeld.2.2.2.2.2.2.2.2.trans hz) e2, Ext.cell (w := wo) (hHeld.2.2.2.2.2.2.2.2.trans hz) e3, hHeld.2.2.2.2.2.2.2.2.trans hz⟩
          clear hK K
          try simp only [Act.put, List.getElem_toArray, List.getElem_cons_zero, List.getElem_cons_succ, List.setIfInBounds_toArray, List.set_cons_zero, List.set_cons_succ]
          first | (refine wpAnyH_take (i := 22) (v := ?_) rfl (by kernel_rfl) (by kernel_rfl) (by kernel_rfl) (fun _ _ _ h => h) (Or.inl ⟨by rfl, ?_⟩) (by assumption) ?_; rotate_left 1; (focus (intro w hSw; (try dsimp only at hSw); go_simp; try (with_reducible rfl)))) | (refine wpAnyH_take (i := 22) (v := undef) rfl (by kernel_rfl) (by kernel_rfl) (by kernel_rfl) (fun _ _ _ h => h) (Or.inr ⟨by rfl, rfl⟩) (by assumption) ?_)
          try simp only [Act.put, List.getElem_toArray, List.getElem_cons_zero, List.getElem_cons_succ, List.setIfInBounds_toArray, List.set_cons_zero, List.set_cons_succ]
          first | (refine wpAnyH_take (i := 23) (v := ?_) rfl (by kernel_rfl) (by kernel_rfl) (by kernel_rfl) (fun _ _ _ h => h) (Or.inl ⟨by rfl, ?_⟩) (by assumption) ?_; rotate_left 1; (focus (intro w hSw; (try dsimp only at hSw); go_simp; try (with_reducible rfl)))) | (refine wpAnyH_take (i := 23) (v := undef) rfl (by kernel_rfl) (by kernel_rfl) (by kernel_rfl) (fun _ _ _ h => h) (Or.inr ⟨by rfl, rfl⟩) (by assumption) ?_)
          try simp only [Act.put, List.getElem_toArray, List.getElem_cons_zero, List.getElem_cons_succ, List.setIfInBounds_toArray, List.set_cons_zero, List.set_cons_succ]
          first | (refine wpAnyH_take (i := 24) (v := ?_) rfl (by kernel_rfl) (by kernel_rfl) (by kernel_rfl) (fun _ _ _ h => h) (Or.inl ⟨by rfl, ?_⟩) (by assumption) ?_; rotate_left 1; (focus (intro w hSw; (try dsimp only at hSw); go_simp; try (with_reducible rfl)))) | (refine wpAnyH_take (i := 24) (v := undef) rfl (by kernel_rfl) (by kernel_rfl) (by kernel_rfl) (fun _ _ _ h => h) (Or.inr ⟨by rfl, rfl⟩) (by assumption) ?_)
          try simp only [Act.put, List.getElem_toArray, List.getElem_cons_zero, List.getElem_cons_succ, List.setIfInBounds_toArray, List.set_cons_zero, List.set_cons_succ]
          first | (refine wpAnyH_take (i := 25) (v := ?_) rfl (by kernel_rfl) (by kernel_rfl) (by kernel_rfl) (fun _ _ _ h => h) (Or.inl ⟨by rfl, ?_⟩) (by assumption) ?_; rotate_left 1; (focus (intro w hSw; (try dsimp only at hSw); go_simp; try (with_reducible rfl)))) | (refine wpAnyH_take (i := 25) (v := undef) rfl (by kernel_rfl) (by kernel_rfl) (by kernel_rfl) (fun _ _ _ h => h) (Or.inr ⟨by rfl, rfl⟩) (by assumption) ?_)
          try simp only [Act.put, List.getElem_toArray, List.getElem_cons_zero, List.getElem_cons_succ, List.setIfInBounds_toArray, List.set_cons_zero, List.set_cons_succ]
          refine wpAnyH_ready (rs := [26]) (by kernel_rfl) (by simp) ?_
          refine AllReadyH.cons rfl (fun K hK => ?_) AllReadyH.nil
          go_simp
          (refine (KC _ hHeld.2.2.2.2.2.2.2.2).mono ?_; rintro e w' ⟨rfl, hz⟩; try dsimp only)
          refine hK.out _ _ ?_ (fun hHeld => ?_)
          · exact ⟨Ext.cell (w := wo) (hHeld.2.2.2.2.2.2.2.2.trans hz) d0, Ext.cell (w := wo) (hHeld.2.2.2.2.2.2.2.2.trans hz) d1, Ext.cell (w := wo) (hHeld.2.2.2.2.2.2.2.2.trans hz) d2, Ext.cell (w := wo) (hHeld.2.2.2.2.2.2.2.2.trans hz) d3, Ext.cell (w := wo) (hHeld.2.2.2.2.2.2.2.2.trans hz) e0, Ext.cell (w := wo) (hHeld.2.2.2.2.2.2.2.2.trans hz) e1, Ext.cell (w := wo) (hHeld.2.2.2.2.2.2.2.2.trans hz) e2, Ext.cell (w := wo) (hHeld.2.2.2.2.2.2.2.2.trans hz) e3, hHeld.2.2.2.2.2.2.2.2.trans hz⟩
          clear hK K
          try simp only [Act.put, List.getElem_toArray, List.getElem_cons_zero, List.getElem_cons_succ, List.setIfInBounds_toArray, List.set_cons_zero, List.set_cons_succ]
          first | (refine wpAnyH_take (i := 27) (v := ?_) rfl (by kernel_rfl) (by kernel_rfl) (by kernel_rfl) (fun _ _ _ h => h) (Or.inl ⟨by rfl, ?_⟩) (by assumption) ?_; rotate_left 1; (focus (intro w hSw; (try dsimp only at hSw); go_simp; try (with_reducible rfl)))) | (refine wpAnyH_take (i := 27) (v := undef) rfl (by kernel_rfl) (by kernel_rfl) (by kernel_rfl) (fun _ _ _ h => h) (Or.inr ⟨by rfl, rfl⟩) (by assumption) ?_)
          try simp only [Act.put, List.getElem_toArray, List.getElem_cons_zero, List.getElem_cons_succ, List.setIfInBounds_toArray, List.set_cons_zero, List.set_cons_succ]
          first | (refine wpAnyH_take (i := 28) (v := ?_) rfl (by kernel_rfl) (by kernel_rfl) (by kernel_rfl) (fun _ _ _ h => h) (Or.inl ⟨by rfl, ?_⟩) (by assumption) ?_; rotate_left 1; (focus (intro w hSw; (try dsimp only at hSw); go_simp; try (with_reducible rfl)))) | (refine wpAnyH_take (i := 28) (v := undef) rfl (by kernel_rfl) (by kernel_rfl) (by kernel_rfl) (fun _ _ _ h => h) (Or.inr ⟨by rfl, rfl⟩) (by assumption) ?_)
          try simp only [Act.put, List.getElem_toArray, List.getElem_cons_zero, List.getElem_cons_succ, List.setIfInBounds_toArray, List.set_cons_zero, List.set_cons_succ]
          first | (refine wpAnyH_take (i := 29) (v := ?_) rfl (by kernel_rfl) (by kernel_rfl) (by kernel_rfl) (fun _ _ _ h => h) (Or.inl ⟨by rfl, ?_⟩) (by assumption) ?_; rotate_left 1; (focus (intro w hSw; (try dsimp only at hSw); go_simp; try (with_reducible rfl)))) | (refine wpAnyH_take (i := 29) (v := undef) rfl (by kernel_rfl) (by kernel_rfl) (by kernel_rfl) (fun _ _ _ h => h) (Or.inr ⟨by rfl, rfl⟩) (by assumption) ?_)
          try simp only [Act.put, List.getElem_toArray, List.getElem_cons_zero, List.getElem_cons_succ, List.setIfInBounds_toArray, List.set_cons_zero, List.set_cons_succ]
          refine wpAnyH_done (by kernel_rfl) ?_ _
          go_wp2_with fail
          go_meet
          case rel => exact ⟨rfl, hHeld.2.2.2.2.2.2.2.2⟩
      · have hE1 : (E == 0) = false := by rw [beq_eq_false_iff_ne]; exact hE0
        refine wp_region_held_drew (S := (fun W' => Ext wo W')) (by kernel_rfl) ?_ (fun hHeld => ?_)
        · exact (by repeat (first | exact Ext.refl _ | assumption | refine Ext.alloc ?_ _ | refine Ext.drew ?_ | refine Ext.drewN _ ?_ | refine Ext.trans ?_ (by assumption)))
        first | (refine wpAnyH_take (i := 0) (v := ?_) rfl (by kernel_rfl) (by kernel_rfl) (by kernel_rfl) (fun _ _ _ h => h) (Or.inl ⟨by rfl, ?_⟩) (by assumption) ?_; rotate_left 1; (focus (intro w hSw; (try dsimp only at hSw); go_simp; try (with_reducible rfl)))) | (refine wpAnyH_take (i := 0) (v := undef) rfl (by kernel_rfl) (by kernel_rfl) (by kernel_rfl) (fun _ _ _ h => h) (Or.inr ⟨by rfl, rfl⟩) (by assumption) ?_)
        try simp only [Act.put, List.getElem_toArray, List.getElem_cons_zero, List.setIfInBounds_toArray, List.set_cons_zero, List.set_cons_succ]
        first | (refine wpAnyH_take (i := 1) (v := ?_) rfl (by kernel_rfl) (by kernel_rfl) (by kernel_rfl) (fun _ _ _ h => h) (Or.inl ⟨by rfl, ?_⟩) (by assumption) ?_; rotate_left 1; (focus (intro w hSw; (try dsimp only at hSw); go_simp; try (with_reducible rfl)))) | (refine wpAnyH_take (i := 1) (v := undef) rfl (by kernel_rfl) (by kernel_rfl) (by kernel_rfl) (fun _ _ _ h => h) (Or.inr ⟨by rfl, rfl⟩) (by assumption) ?_)
        try simp only [Act.put, List.getElem_toArray, List.getElem_cons_zero, List.getElem_cons_succ, List.setIfInBounds_toArray, List.set_cons_zero, List.set_cons_succ]
        first | (refine wpAnyH_take (i := 2) (v := ?_) rfl (by kernel_rfl) (by kernel_rfl) (by kernel_rfl) (fun _ _ _ h => h) (Or.inl ⟨by rfl, ?_⟩) (by assumption) ?_; rotate_left 1; (focus (intro w hSw; (try dsimp only at hSw); go_simp; try (with_reducible rfl)))) | (refine wpAnyH_take (i := 2) (v := undef) rfl (by kernel_rfl) (by kernel_rfl) (by kernel_rfl) (fun _ _ _ h => h) (Or.inr ⟨by rfl, rfl⟩) (by assumption) ?_)
        try simp only [Act.put, List.getElem_toArray, List.getElem_cons_zero, List.getElem_cons_succ, List.setIfInBounds_toArray, List.set_cons_zero, List.set_cons_succ]
        (refine wpAnyH_take (i := 3) (v := undef) rfl (by kernel_rfl) (by kernel_rfl) (by kernel_rfl) (fun _ _ _ h => h) (Or.inr ⟨by rfl, rfl⟩) (by assumption) ?_)
        try simp only [Act.put, List.getElem_toArray, List.getElem_cons_zero, List.getElem_cons_succ, List.setIfInBounds_toArray, List.set_cons_zero, List.set_cons_succ]
        (refine wpAnyH_take (i := 4) (v := undef) rfl (by kernel_rfl) (by kernel_rfl) (by kernel_rfl) (fun _ _ _ h => h) (Or.inr ⟨by rfl, rfl⟩) (by assumption) ?_)
        try simp only [Act.put, List.getElem_toArray, List.getElem_cons_zero, List.getElem_cons_succ, List.setIfInBounds_toArray, List.set_cons_zero, List.set_cons_succ]
        (refine wpAnyH_take (i := 5) (v := undef) rfl (by kernel_rfl) (by kernel_rfl) (by kernel_rfl) (fun _ _ _ h => h) (Or.inr ⟨by rfl, rfl⟩) (by assumption) ?_)
        try simp only [Act.put, List.getElem_toArray, List.getElem_cons_zero, List.getElem_cons_succ, List.setIfInBounds_toArray, List.set_cons_zero, List.set_cons_succ]
        (refine wpAnyH_take (i := 6) (v := undef) rfl (by kernel_rfl) (by kernel_rfl) (by kernel_rfl) (fun _ _ _ h => h) (Or.inr ⟨by rfl, rfl⟩) (by assumption) ?_)
        try simp only [Act.put, List.getElem_toArray, List.getElem_cons_zero, List.getElem_cons_succ, List.setIfInBounds_toArray, List.set_cons_zero, List.set_cons_succ]
        (refine wpAnyH_take (i := 7) (v := undef) rfl (by kernel_rfl) (by kernel_rfl) (by kernel_rfl) (fun _ _ _ h => h) (Or.inr ⟨by rfl, rfl⟩) (by assumption) ?_)
        try simp only [Act.put, List.getElem_toArray, List.getElem_cons_zero, List.getElem_cons_succ, List.setIfInBounds_toArray, List.set_cons_zero, List.set_cons_succ]
        (refine wpAnyH_take (i := 8) (v := undef) rfl (by kernel_rfl) (by kernel_rfl) (by kernel_rfl) (fun _ _ _ h => h) (Or.inr ⟨by rfl, rfl⟩) (by assumption) ?_)
        try simp only [Act.put, List.getElem_toArray, List.getElem_cons_zero, List.getElem_cons_succ, List.setIfInBounds_toArray, List.set_cons_zero, List.set_cons_succ]
        (refine wpAnyH_take (i := 9) (v := undef) rfl (by kernel_rfl) (by kernel_rfl) (by kernel_rfl) (fun _ _ _ h => h) (Or.inr ⟨by rfl, rfl⟩) (by assumption) ?_)
        try simp only [Act.put, List.getElem_toArray, List.getElem_cons_zero, List.getElem_cons_succ, List.setIfInBounds_toArray, List.set_cons_zero, List.set_cons_succ]
        (refine wpAnyH_take (i := 10) (v := undef) rfl (by kernel_rfl) (by kernel_rfl) (by kernel_rfl) (fun _ _ _ h => h) (Or.inr ⟨by rfl, rfl⟩) (by assumption) ?_)
        try simp only [Act.put, List.getElem_toArray, List.getElem_cons_zero, List.getElem_cons_succ, List.setIfInBounds_toArray, List.set_cons_zero, List.set_cons_succ]
        (refine wpAnyH_take (i := 11) (v := undef) rfl (by kernel_rfl) (by kernel_rfl) (by kernel_rfl) (fun _ _ _ h => h) (Or.inr ⟨by rfl, rfl⟩) (by assumption) ?_)
        try simp only [Act.put, List.getElem_toArray, List.getElem_cons_zero, List.getElem_cons_succ, List.setIfInBounds_toArray, List.set_cons_zero, List.set_cons_succ]
        (refine wpAnyH_take (i := 12) (v := undef) rfl (by kernel_rfl) (by kernel_rfl) (by kernel_rfl) (fun _ _ _ h => h) (Or.inr ⟨by rfl, rfl⟩) (by assumption) ?_)
        try simp only [Act.put, List.getElem_toArray, List.getElem_cons_zero, List.getElem_cons_succ, List.setIfInBounds_toArray, List.set_cons_zero, List.set_cons_succ]
        (refine wpAnyH_take (i := 13) (v := undef) rfl (by kernel_rfl) (by kernel_rfl) (by kernel_rfl) (fun _ _ _ h => h) (Or.inr ⟨by rfl, rfl⟩) (by assumption) ?_)
        try simp only [Act.put, List.getElem_toArray, List.getElem_cons_zero, List.getElem_cons_succ, List.setIfInBounds_toArray, List.set_cons_zero, List.set_cons_succ]
        (refine wpAnyH_take (i := 14) (v := undef) rfl (by kernel_rfl) (by kernel_rfl) (by kernel_rfl) (fun _ _ _ h => h) (Or.inr ⟨by rfl, rfl⟩) (by assumption) ?_)
        try simp only [Act.put, List.getElem_toArray, List.getElem_cons_zero, List.getElem_cons_succ, List.setIfInBounds_toArray, List.set_cons_zero, List.set_cons_succ]
        (refine wpAnyH_take (i := 15) (v := undef) rfl (by kernel_rfl) (by kernel_rfl) (by kernel_rfl) (fun _ _ _ h => h) (Or.inr ⟨by rfl, rfl⟩) (by assumption) ?_)
        try simp only [Act.put, List.getElem_toArray, List.getElem_cons_zero, List.getElem_cons_succ, List.setIfInBounds_toArray, List.set_cons_zero, List.set_cons_succ]
        (refine wpAnyH_take (i := 16) (v := undef) rfl (by kernel_rfl) (by kernel_rfl) (by kernel_rfl) (fun _ _ _ h => h) (Or.inr ⟨by rfl, rfl⟩) (by assumption) ?_)
        try simp only [Act.put, List.getElem_toArray, List.getElem_cons_zero, List.getElem_cons_succ, List.setIfInBounds_toArray, List.set_cons_zero, List.set_cons_succ]
        (refine wpAnyH_take (i := 17) (v := undef) rfl (by kernel_rfl) (by kernel_rfl) (by kernel_rfl) (fun _ _ _ h => h) (Or.inr ⟨by rfl, rfl⟩) (by assumption) ?_)
        try simp only [Act.put, List.getElem_toArray, List.getElem_cons_zero, List.getElem_cons_succ, List.setIfInBounds_toArray, List.set_cons_zero, List.set_cons_succ]
        (refine wpAnyH_take (i := 18) (v := undef) rfl (by kernel_rfl) (by kernel_rfl) (by kernel_rfl) (fun _ _ _ h => h) (Or.inr ⟨by rfl, rfl⟩) (by assumption) ?_)
        try simp only [Act.put, List.getElem_toArray, List.getElem_cons_zero, List.getElem_cons_succ, List.setIfInBounds_toArray, List.set_cons_zero, List.set_cons_succ]
        (refine wpAnyH_take (i := 19) (v := undef) rfl (by kernel_rfl) (by kernel_rfl) (by kernel_rfl) (fun _ _ _ h => h) (Or.inr ⟨by rfl, rfl⟩) (by assumption) ?_)
        try simp only [Act.put, List.getElem_toArray, List.getElem_cons_zero, List.getElem_cons_succ, List.setIfInBounds_toArray, List.set_cons_zero, List.set_cons_succ]
        (refine wpAnyH_take (i := 20) (v := undef) rfl (by kernel_rfl) (by kernel_rfl) (by kernel_rfl) (fun _ _ _ h => h) (Or.inr ⟨by rfl, rfl⟩) (by assumption) ?_)
        try simp only [Act.put, List.getElem_toArray, List.getElem_cons_zero, List.getElem_cons_succ, List.setIfInBounds_toArray, List.set_cons_zero, List.set_cons_succ]
        (refine wpAnyH_take (i := 21) (v := undef) rfl (by kernel_rfl) (by kernel_rfl) (by kernel_rfl) (fun _ _ _ h => h) (Or.inr ⟨by rfl, rfl⟩) (by assumption) ?_)
        try simp only [Act.put, List.getElem_toArray, List.getElem_cons_zero, List.getElem_cons_succ, List.setIfInBounds_toArray, List.set_cons_zero, List.set_cons_succ]
        (refine wpAnyH_take (i := 22) (v := undef) rfl (by kernel_rfl) (by kernel_rfl) (by kernel_rfl) (fun _ _ _ h => h) (Or.inr ⟨by rfl, rfl⟩) (by assumption) ?_)
        try simp only [Act.put, List.getElem_toArray, List.getElem_cons_zero, List.getElem_cons_succ, List.setIfInBounds_toArray, List.set_cons_zero, List.set_cons_succ]
        (refine wpAnyH_take (i := 23) (v := undef) rfl (by kernel_rfl) (by kernel_rfl) (by kernel_rfl) (fun _ _ _ h => h) (Or.inr ⟨by rfl, rfl⟩) (by assumption) ?_)
        try simp only [Act.put, List.getElem_toArray, List.getElem_cons_zero, List.getElem_cons_succ, List.setIfInBounds_toArray, List.set_cons_zero, List.set_cons_succ]
        (refine wpAnyH_take (i := 24) (v := undef) rfl (by kernel_rfl) (by kernel_rfl) (by kernel_rfl) (fun _ _ _ h => h) (Or.inr ⟨by rfl, rfl⟩) (by assumption) ?_)
        try simp only [Act.put, List.getElem_toArray, List.getElem_cons_zero, List.getElem_cons_succ, List.setIfInBounds_toArray, List.set_cons_zero, List.set_cons_succ]
        (refine wpAnyH_take (i := 25) (v := undef) rfl (by kernel_rfl) (by kernel_rfl) (by kernel_rfl) (fun _ _ _ h => h) (Or.inr ⟨by rfl, rfl⟩) (by assumption) ?_)
        try simp only [Act.put, List.getElem_toArray, List.getElem_cons_zero, List.getElem_cons_succ, List.setIfInBounds_toArray, List.set_cons_zero, List.set_cons_succ]
        (refine wpAnyH_take (i := 26) (v := undef) rfl (by kernel_rfl) (by kernel_rfl) (by kernel_rfl) (fun _ _ _ h => h) (Or.inr ⟨by rfl, rfl⟩) (by assumption) ?_)
        try simp only [Act.put, List.getElem_toArray, List.getElem_cons_zero, List.getElem_cons_succ, List.setIfInBounds_toArray, List.set_cons_zero, List.set_cons_succ]
        (refine wpAnyH_take (i := 27) (v := undef) rfl (by kernel_rfl) (by kernel_rfl) (by kernel_rfl) (fun _ _ _ h => h) (Or.inr ⟨by rfl, rfl⟩) (by assumption) ?_)
        try simp only [Act.put, List.getElem_toArray, List.getElem_cons_zero, List.getElem_cons_succ, List.setIfInBounds_toArray, List.set_cons_zero, List.set_cons_succ]
        (refine wpAnyH_take (i := 28) (v := undef) rfl (by kernel_rfl) (by kernel_rfl) (by kernel_rfl) (fun _ _ _ h => h) (Or.inr ⟨by rfl, rfl⟩) (by assumption) ?_)
        try simp only [Act.put, List.getElem_toArray, List.getElem_cons_zero, List.getElem_cons_succ, List.setIfInBounds_toArray, List.set_cons_zero, List.set_cons_succ]
        first | (refine wpAnyH_take (i := 29) (v := ?_) rfl (by kernel_rfl) (by kernel_rfl) (by kernel_rfl) (fun _ _ _ h => h) (Or.inl ⟨by rfl, ?_⟩) (by assumption) ?_; rotate_left 1; (focus (intro w hSw; (try dsimp only at hSw); go_simp; try (with_reducible rfl)))) | (refine wpAnyH_take (i := 29) (v := undef) rfl (by kernel_rfl) (by kernel_rfl) (by kernel_rfl) (fun _ _ _ h => h) (Or.inr ⟨by rfl, rfl⟩) (by assumption) ?_)
        try simp only [Act.put, List.getElem_toArray, List.getElem_cons_zero, List.getElem_cons_succ, List.setIfInBounds_toArray, List.set_cons_zero, List.set_cons_succ]
        refine wpAnyH_done (by kernel_rfl) ?_ _
        go_wp2_with fail
        go_meet
        case rel => exact ⟨rfl, hHeld⟩
    case rest =>
      obtain ⟨rfl, hy⟩ := hcut
      replace hA := hA.ext hy
      replace hT := hT.ext hy
      replace hx := hx.trans hy
      replace q0 := q0.ext hy
      clear hy d0 d1 d2 d3 e0 e1 e2 e3 hB hmu hmv q1 hb1 hb2 HX HV HF HE HSW HEOK HFOK HMU HMV HGU HGV HFA HFB
      have d0 : wc.cell? ⟨w.heap.size, 0, none⟩ = some (.slice aa A.ts.length ca) := q0.cell 0
      have d1 : wc.cell? ⟨w.heap.size, 1, none⟩ = some (.slice ab A.ss.length cb) := q0.cell 1
      go_wp2_with fail
      refine (Shift_any _ _ A x _ hA).mono ?_
      rw [HY.out, HG.out]
      rintro e w6 ⟨va, vb, rfl, hms, hy⟩
      obtain ⟨a5, k5, rfl⟩ := hms.t.len
      obtain ⟨a6, k6, rfl⟩ := hms.s.len
      have hb3 := Cls.new w6 25 #[.slice a5 Y.ts.length k5, .slice a6 Y.ss.length k6]
      obtain ⟨W6, hW6⟩ : ∃ W6, w6.alloc (.cells #[.slice a5 Y.ts.length k5, .slice a6 Y.ss.length k6] 25) = W6 := ⟨_, rfl⟩
      have hz : Ext w6 W6 := by rw [← hW6]; exact (by repeat (first | exact Ext.refl _ | assumption | refine Ext.alloc ?_ _ | refine Ext.drew ?_ | refine Ext.drewN _ ?_ | refine Ext.trans ?_ (by assumption)))
      rw [hW6] at hb3
      replace q0 := (q0.ext hy).ext hz
      replace hx := (hx.trans hy).trans hz
      replace hT := (hT.ext hy).ext hz
      replace hA := (hA.ext hy).ext hz
      replace hms := hms.ext hz
      clear hy hz d0 d1
      have d0 : W6.cell? ⟨w.heap.size, 0, none⟩ = some (.slice aa A.ts.length ca) := q0.cell 0
      have d1 : W6.cell? ⟨w.heap.size, 1, none⟩ = some (.slice ab A.ss.length cb) := q0.cell 1
      have e0 : W6.cell? ⟨w6.heap.size, 0, none⟩ = some (.slice a5 Y.ts.length k5) := hb3.cell 0
      have e1 : W6.cell? ⟨w6.heap.size, 1, none⟩ = some (.slice a6 Y.ss.length k6) := hb3.cell 1
      go_upto_region 10 with fail
      try rw [hW6]
      clear hW6
      obtain ⟨D, hD⟩ : ∃ D, m - x = D := ⟨_, rfl⟩
      have hDb : -1048576 ≤ D ∧ D ≤ 2097152 := by omega
      have hwD : IntKind.i64.wrap (m - x) = D := by rw [IntWalk.i64_in _ (by omega)]; exact hD
      rw [hD] at HSM
      by_cases hG0 : G = 0
      · have hG1 : (G != 0) = false := by simpa using hG0
        by_cases h1 : D < 0
        · clear hD
          go_wp2_with fail
          refine (sanity_any _ hT).mono ?_
          rintro e w7 ⟨rfl, hy⟩
          go_wp2_with fail
          go_ret
          exact ⟨rfl, hx.trans hy⟩
        · by_cases h2 : 1048576 < D
          · clear hD
            go_wp2_with fail
            refine (sanity_any _ hT).mono ?_
            rintro e w7 ⟨rfl, hy⟩
            go_wp2_with fail
            go_ret
            exact ⟨rfl, hx.trans hy⟩
          · have hkA := Ok.of (HSF.out hG0).1
            have hkY := HSG.out hG0
            have hmm := HSM.out hG0
            obtain ⟨v, hv⟩ : ∃ v, mem A D = v := ⟨_, rfl⟩
            rw [hv] at hmm
            have KY := fun W h => has_c _ _ Y W6 hms hkY m hm0 hm1 _ hmm W h
            have KA := fun W h => has_c _ _ A W6 hA hkA D (by omega) (by omega) _ hv W h
            have KS := fun W (h : Ext W6 W) => sanity_any W (hT.ext h)
            clear hD hmm hv
            go_upto_region 12 with fail
            cases v
            all_goals
              go_region_held3 (fun W' => W'.cell? ⟨w.heap.size, 0, none⟩ = some (.slice aa A.ts.length ca) ∧ W'.cell? ⟨w.heap.size, 1, none⟩ = some (.slice ab A.ss.length cb) ∧ W'.cell? ⟨w6.heap.size, 0, none⟩ = some (.slice a5 Y.ts.length k5) ∧ W'.cell? ⟨w6.heap.size, 1, none⟩ = some (.slice a6 Y.ss.length k6) ∧ Ext W6 W')
                ((refine ⟨Ext.cell (w := W6) ?_ d0, Ext.cell (w := W6) ?_ d1, Ext.cell (w := W6) ?_ e0, Ext.cell (w := W6) ?_ e1, ?_⟩; all_goals exact (by repeat (first | exact Ext.refl _ | assumption | refine Ext.alloc ?_ _ | refine Ext.drew ?_ | refine Ext.drewN _ ?_ | refine Ext.trans ?_ (by assumption)))))
                ((first | (go_at_call 13; first | ((with_reducible refine (KY _ ?_).mono ?_); (focus (exact (by repeat (first | exact Ext.refl _ | assumption | refine Ext.alloc ?_ _ | refine Ext.drew ?_ | refine Ext.drewN _ ?_ | refine Ext.trans ?_ (by assumption))))); rintro e w' ⟨rfl, hz⟩) | ((with_reducible refine (KA _ ?_).mono ?_); (focus (exact (by repeat (first | exact Ext.refl _ | assumption | refine Ext.alloc ?_ _ | refine Ext.drew ?_ | refine Ext.drewN _ ?_ | refine Ext.trans ?_ (by assumption))))); rintro e w' ⟨rfl, hz⟩)) | (go_at_call 5; (with_reducible refine (KS _ ?_).mono ?_); (focus (exact (by repeat (first | exact Ext.refl _ | assumption | refine Ext.alloc ?_ _ | refine Ext.drew ?_ | refine Ext.drewN _ ?_ | refine Ext.trans ?_ (by assumption))))); rintro e w' ⟨rfl, hz⟩)))
              go_wp2_with fail
              go_ret
              exact ⟨ret_bool (by simp), hx.trans (by repeat (first | exact Ext.refl _ | assumption | refine Ext.alloc ?_ _ | refine Ext.drew ?_ | refine Ext.drewN _ ?_ | refine Ext.trans ?_ (by assumption)))⟩
      · have hG1 : (G != 0) = true := by simpa using hG0
        clear hD
        go_wp2_with fail
        refine (sanity_any _ hT).mono ?_
        rintro e w7 ⟨rfl, hy⟩
        go_wp2_with fail
        go_ret
        exact ⟨rfl, hx.trans hy⟩

set_option maxRecDepth 100000 in
set_option maxHeartbeats 4000000 in
theorem TurnJoins_any (a b : Value) (A : Mn) (c d : Value) (B : Mn) (x m : Int) (w : World) (hT : Tab w) (hA : MinsAt w a b A) (hB : MinsAt w c d B) :
    Calls Tryz.prog 4 #[.agg #[a, b], .agg #[c, d], .int .i64 x, .int .i64 m] w fun e w' => e = .returned (.bool true) ∧ Ext w w' := by
  obtain ⟨aa, ca, rfl⟩ := hA.t.len
  obtain ⟨ab, cb, rfl⟩ := hA.s.len
  obtain ⟨ac, cc, rfl⟩ := hB.t.len
  obtain ⟨ad, cd, rfl⟩ := hB.s.len
  cases hfA : fewB A
  · have HFA := Lib.hid hfA
    clear hfA
    go_enter Tryz.func4, Tryz.ntmps4
    go_wp2_with fail
    refine (few_any _ _ A _ (hA.ext (by repeat (first | exact Ext.refl _ | assumption | refine Ext.alloc ?_ _ | refine Ext.drew ?_ | refine Ext.drewN _ ?_ | refine Ext.trans ?_ (by assumption))))).mono ?_
    rw [HFA.out]
    rintro e w0 ⟨rfl, hy⟩
    obtain ⟨_, _, hx, hzz⟩ := alloc2 hy
    go_wp2_with fail
    refine (sanity_any _ (hT.ext hx)).mono ?_
    rintro e w1 ⟨rfl, hx1⟩
    go_wp2_with fail
    go_ret
    exact ⟨rfl, hx.trans hx1⟩
  · by_cases hall : fewB B = true ∧ 0 ≤ m ∧ m ≤ 1048576 ∧ -1048576 ≤ x ∧ x ≤ 1048576
    · obtain ⟨h1, h2, h3, h4, h5⟩ := hall
      exact Joins_main aa ab ac ad ca cb cc cd A B x m w hT hA hB hfA h1 h2 h3 h4 h5
    · have HFA := Lib.hid hfA
      obtain ⟨fb, hfb⟩ : ∃ fb, fewB B = fb := ⟨_, rfl⟩
      rw [hfb] at hall
      have HFB := Lib.hid hfb
      clear hfA hfb
      have hw : fb = false ∨ fb = true ∧ (m < 0 ∨ ¬ m < 0 ∧ (1048576 < m ∨ ¬ 1048576 < m ∧ (x < -1048576 ∨ ¬ x < -1048576 ∧ 1048576 < x))) := by
        cases fb
        · exact .inl rfl
        · right
          refine ⟨rfl, ?_⟩
          simp at hall
          omega
      clear hall
      go_enter Tryz.func4, Tryz.ntmps4
      go_wp2_with fail
      refine (few_any _ _ A _ (hA.ext (by repeat (first | exact Ext.refl _ | assumption | refine Ext.alloc ?_ _ | refine Ext.drew ?_ | refine Ext.drewN _ ?_ | refine Ext.trans ?_ (by assumption))))).mono ?_
      rw [HFA.out]
      rintro e w0 ⟨rfl, hy⟩
      obtain ⟨q0, q1, hx, hzz⟩ := alloc2 hy
      clear hy
      have d2 : w0.cell? ⟨w.heap.size + 1, 0, none⟩ = some (.slice ac B.ts.length cc) := q1.cell 0
      have d3 : w0.cell? ⟨w.heap.size + 1, 1, none⟩ = some (.slice ad B.ss.length cd) := q1.cell 1
      go_wp2_with fail
      refine (few_any _ _ B _ (hB.ext hx)).mono ?_
      rw [HFB.out]
      rintro e w1 ⟨rfl, hy⟩
      replace hx := hx.trans hy
      clear hy d2 d3 q0 q1 HFA HFB
      rcases hw with rfl | ⟨rfl, h1 | ⟨h1, h2 | ⟨h2, h3 | ⟨h3, h4⟩⟩⟩⟩
      all_goals
        go_wp2_with fail
        refine (sanity_any _ (hT.ext hx)).mono ?_
        rintro e w2 ⟨rfl, hx1⟩
        go_wp2_with fail
        go_ret
        exact ⟨rfl, hx.trans hx1⟩
end Go.Proofs.YtejcmdoalhnpeaaGreatDoor
namespace Go.Proofs.YtejcmdoalhnpeaaGreatDoor.turnJoins
open Go.ChangeShapes Go.WideShapes Go.ChangeAt Go.RowKit

set_option maxRecDepth 100000 in
theorem contract (H : Type) (enc : TypeId × Value → H) (W : World) (base : Nat) (args : Array Value) (ds gs : List (DataW H)) (before : List MemPlace)
    (hval : ∀ (j : Nat) t v, Tryz.f4.params[j]? = some t → args[j]? = some v → Value.okWide Tryz.prog W .any base t v)
    (hW : DataW.Whole enc Tryz.prog Tryz.f4.params.toList Rows.turnJoinsSpec.vars false W args.toList ds gs before) (hL : laidMetH Tryz.prog Rows.turnJoinsRow.laid W) :
    Calls Tryz.prog 4 args W fun e W' => ∃ v, e = .returned v ∧ Rows.turnJoinsSpec.post enc Tryz.prog Tryz.f4 false true false false W args v W' := by
  have hW' := hW
  obtain ⟨p, q, hA, hV, rfl, hfz, hnd⟩ := hW
  rw [show Tryz.f4.params = #[25, 25, 3, 3] from rfl] at hA hval
  obtain ⟨v0, vs0, d0, ds0, p0, q0, hargs, rfl, rfl, h0, r0⟩ := trodAll_cons hA
  obtain ⟨v1, vs1, d1, ds1, p1, q1, rfl, rfl, rfl, h1, r1⟩ := trodAll_cons r0
  obtain ⟨v2, vs2, d2, ds2, p2, q2, rfl, rfl, rfl, h2, r2⟩ := trodAll_cons r1
  obtain ⟨v3, vs3, d3, ds3, p3, q3, rfl, rfl, rfl, h3, r3⟩ := trodAll_cons r2
  obtain ⟨rfl, rfl, rfl⟩ := trodAll_nil r3
  obtain rfl : args = #[v0, v1, v2, v3] := by cases args; simp_all
  obtain ⟨rfl, rfl⟩ := trodVars_none hV
  obtain ⟨x0, y0, S0, rfl, hS0⟩ := open_minutes (hval 0 25 v0 rfl rfl) h0
  obtain ⟨x1, y1, S1, rfl, hS1⟩ := open_minutes (hval 1 25 v1 rfl rfl) h1
  obtain ⟨x2, rfl, hd2, hp2, hf2⟩ := open_int Tryz.underlying3 (hval 2 3 v2 rfl rfl) h2
  obtain ⟨x3, rfl, hd3, hp3, hf3⟩ := open_int Tryz.underlying3 (hval 3 3 v3 rfl rfl) h3
  refine (TurnJoins_any _ _ S0 _ _ S1 _ _ W (tab_of hL) hS0 hS1).mono fun e W' ⟨he, hg⟩ => ?_
  subst he
  refine ⟨_, rfl, post_true hW' rfl rfl ⟨rfl, rfl, rfl⟩ ?_ hg⟩
  rw [show Tryz.f4.params = #[25, 25, 3, 3] from rfl]
  intro t ht
  simp only [List.mem_cons, List.not_mem_nil, or_false] at ht
  rcases ht with rfl | rfl | rfl | rfl <;> exact ⟨by kernel_rfl, of_decide_eq_true (by kernel_rfl)⟩

noncomputable def wArgs : Array Value := #[.agg #[.slice none 0 0, .slice none 0 0], .agg #[.slice none 0 0, .slice none 0 0], .int .i64 0, .int .i64 0]
set_option maxRecDepth 100000 in
theorem laid_met (os : Os) : laidMet Tryz.prog Rows.turnJoinsRow.laid ((laidWorld os).forCall (fun _ _ => 0) ⟨#[], wArgs, []⟩).memory :=
  laidMet_of_run' 8 (by kernel_rfl) (by kernel_rfl)
set_option maxRecDepth 100000 in
theorem reads (os : Os) {H : Type} (enc : TypeId × Value → H) : ∃ x places, DataW.whole enc Tryz.prog ((laidWorld os).forCall (fun _ _ => 0) ⟨#[], wArgs, []⟩).memory Tryz.f4.params.toList Rows.turnJoinsSpec.vars false wArgs.toList 8 = some (x, [], places) :=
  ⟨[.agg [.nil, .nil], .agg [.nil, .nil], .lit (.int .i64 0), .lit (.int .i64 0)], [], by kernel_rfl⟩

set_option maxRecDepth 100000 in
theorem lifted (os : Os) (started : os.Started) (H : Type) (enc : TypeId × Value → H) (F : Stop.Interp) :
    ReturnsInHanded {} Tryz.checked os 4 .any ((OpenSpec.ofChange Rows.turnJoinsSpec).preRow enc Tryz.prog Tryz.f4 Rows.turnJoinsRow.domain false Rows.turnJoinsRow.laid) (((OpenSpec.ofChange Rows.turnJoinsSpec).at F).post enc Tryz.prog Tryz.f4 false true false false) := by
  obtain ⟨x, places, hx⟩ := reads os enc
  refine returnsInHanded_of_row (C := Tryz.checked) (s := OpenSpec.ofChange Rows.turnJoinsSpec) own started (by kernel_rfl) Tryz.func4
    (witness_row_at (enc := enc) (C := Tryz.checked) false (laidWorld os) wArgs rfl (by kernel_rfl) (by kernel_rfl) (by kernel_rfl)
      (OpenSpec.preRow_of_cond 8 hx (by kernel_rfl) (fun k hk => by cases hk) (by kernel_rfl) (laid_met os))) ?_
  intro W base args ds gs before hval hW _ _ _ hL _ _
  exact contract H enc W base args ds gs before hval hW hL

set_option maxRecDepth 100000 in
theorem said : Rows.TurnJoinsSaid :=
  OpenClaim.holds_of_cond 4 Tryz.f4 rfl rfl rfl rfl rfl rfl rfl ⟨rfl, rfl, rfl, rfl, rfl⟩ rfl rfl rfl rfl rfl (by kernel_rfl) Tryz.func4 (by kernel_rfl)
    (of_decide_eq_true (by kernel_rfl)) (by unfold Func.isWrapper; first | (rw [if_pos (by decide +kernel)]; kernel_rfl) | (rw [if_neg (by decide +kernel)]; exact ⟨rfl, rfl⟩))
    (fun os started H enc _ F => by rw [OpenClaim.pre_eq_preRow]; exact lifted os started H enc F)

set_option maxRecDepth 100000 in
theorem plain (f : FuncId) (fn : Func) (hf : Tryz.pinned.checked.prog.funcNamed "drowner/drownerlaw01.TurnJoins" = some f) (hfn : Tryz.pinned.checked.prog.funcs[f]? = some fn) :
    false = Tryz.pinned.checked.prog.looks [] ∧ ∀ (j : Nat) t, fn.params[j]? = some t → Tryz.pinned.checked.prog.wantsStandIn t = false := by
  obtain rfl : f = 4 := Option.some.inj ((show Tryz.prog.funcNamed "drowner/drownerlaw01.TurnJoins" = some 4 by kernel_rfl).symm.trans hf) |>.symm
  obtain rfl : fn = Tryz.f4 := (Option.some.inj (Tryz.func4.symm.trans hfn)).symm
  refine ⟨by kernel_rfl, fun j t ht => ?_⟩
  rw [show Tryz.f4.params = #[25, 25, 3, 3] from rfl] at ht
  have hm := Array.mem_of_getElem? ht
  simp only [List.mem_toArray, List.mem_cons, List.not_mem_nil, or_false] at hm
  rcases hm with rfl | rfl | rfl | rfl
  · exact (show Tryz.prog.wantsStandIn 25 = false by kernel_rfl)
  · exact (show Tryz.prog.wantsStandIn 25 = false by kernel_rfl)
  · exact (show Tryz.prog.wantsStandIn 3 = false by kernel_rfl)
  · exact (show Tryz.prog.wantsStandIn 3 = false by kernel_rfl)

set_option maxRecDepth 100000 in
theorem card : Rows.TurnJoinsCardSaid :=
  Claim7.holds_tied_plain_at .later [] _ _ _ _ said (fun _ h => by cases h) (by kernel_rfl) (fun _ h => by cases h) turnJoins_row_tie rfl ⟨rfl, rfl⟩ (by kernel_rfl) rfl plain (by kernel_rfl)
end Go.Proofs.YtejcmdoalhnpeaaGreatDoor.turnJoins
