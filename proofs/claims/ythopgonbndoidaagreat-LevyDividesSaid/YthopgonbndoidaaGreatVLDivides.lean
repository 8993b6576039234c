/- LevyDivides: true whatever the tree, the pence and the numbers. -/
import Derived.Test.YthopgonbndoidaaGreatVPDc
import Derived.Test.YthopgonbndoidaaGreatVArgs
namespace Go.Proofs.YthopgonbndoidaaGreat
open Go.RowKit Go.Shelf

section
open Go.ChangeShapes Go.WideShapes Go.ChangeAt Go.Deep Go.Joins
variable {H : Type} {enc : TypeId × Value → H} {W : World}
set_option maxRecDepth 100000 in
theorem rows_of {fuel : Nat} {v : Value} {y : DataW H × List MemPlace} (h : DataW.trod enc Tryz.prog W 0 (fun _ => true) true fuel 64 [v] = some y) : ∃ L, RowsAt W v L ∧ L.length ≤ 9223372036854775807 := by
  rcases open_slice1 Tryz.underlying64 (by kernel_rfl) h with ⟨hcs, _⟩ | ⟨a, len, cap, m, n, V, D, Pl, hcs, hb, hl, hm, hmm, hx, hi⟩
  · simp only [List.cons.injEq, and_true] at hcs
    exact ⟨[], ⟨none, 0, hcs, by simp, fun i hi => by simp at hi⟩, by simp⟩
  · simp only [List.cons.injEq, and_true] at hcs
    subst hcs
    simp only [if_true] at hmm
    have hall : ∀ i, i < len → ∃ row : List Int, W.cell? (a.add i) = some (V i) ∧ IntsAt W (V i) row := by
      intro i hil
      obtain ⟨hc, ht'⟩ := hi i (by omega)
      obtain ⟨row, hr⟩ := ints_of ht'
      exact ⟨row, hc, hr⟩
    obtain ⟨l, hl', hp⟩ := pick_list hall
    subst hl'
    refine ⟨l, ⟨some a, cap, rfl, hl, fun i hi' => ?_⟩, by unfold maxLen at hm; omega⟩
    have ha : a = ⟨a.block, a.off, none⟩ := spot_none (hp 0 (by omega)).1
    obtain ⟨q0, q1⟩ := hp i hi'
    rw [ha, add_at] at q0
    exact ⟨a.block, a.off, V i, by rw [← ha], q0, q1⟩
set_option maxRecDepth 100000 in
theorem open_rows' {r : Reach} {b0 : Nat} {v : Value} {d : DataW H} {p : List MemPlace} (hv : Value.okWide Tryz.prog W r b0 64 v) (h : DataW.Trod enc Tryz.prog W 0 (fun _ => true) true 64 v d p) : ∃ L, RowsAt W v L ∧ L.length ≤ 9223372036854775807 := by
  obtain ⟨a, len, cap, rfl⟩ := okWide_slice Tryz.underlying64 hv
  obtain ⟨fuel, hf⟩ := h
  exact rows_of (v := .slice a len cap) hf
end
set_option maxRecDepth 100000 in
set_option maxHeartbeats 16000000 in
theorem LevyDivides_any (a b v d : Value) (T : Tr) (l : List Int) (D : List (List Int)) (w : World) (hT : TrAt w a b T) (hl : IntsAt w v l) (hD : RowsAt w d D ∧ D.length ≤ 9223372036854775807) :
    Calls Tryz.prog 7 #[.agg #[a, b], v, d] w fun e w' => e = .returned (.bool true) ∧ Ext w w' := by
  obtain ⟨hD, hDn⟩ := hD
  obtain ⟨av, cv, rfl, hlv⟩ := hl.len
  have K1 := fun W (h : Ext w W) => few_any a b T W (hT.ext h)
  have KT := fun W (h : Ext w W) => table_any d D W (hD.ext h) hDn
  have san : ∀ W1 : World, Ext w W1 → Calls Tryz.prog 9 #[] W1 fun e w' => e = .returned (.bool true) ∧ Ext w w' := fun W1 h => (sanity_any W1).mono fun e W' ⟨he, hz⟩ => ⟨he, h.trans hz⟩
  have K2 := fun (hn : l.length ≤ 100000) W (h : Ext w W) => Divide_any a b _ T l W (hT.ext h) (hl.ext h) hn
  have K3 := fun (hn : l.length ≤ 100000) W (h : Ext w W) => refFairP_any a b _ T l W (hT.ext h) (hl.ext h) hn
  have K4 := fun (hn : l.length ≤ 100000) (hm : D.length ≤ 100000) W (h : Ext w W) => CheckDivide_any a b _ d T l D W (hT.ext h) (hl.ext h) (hD.ext h) hn hm
  have K5 := fun (hn : l.length ≤ 100000) (hm : D.length ≤ 100000) W (h : Ext w W) => refCheckDivide_any a b _ d T l D W (hT.ext h) (hl.ext h) (hD.ext h) hn hm
  have K6 := fun (hn : l.length ≤ 100000) (hm : (dvX T l).length ≤ 100000) u W (h : Ext w W) (hu : RowsAt W u (dvX T l)) => refCheckDivide_any a b _ u T l (dvX T l) W (hT.ext h) (hl.ext h) hu hn hm
  have hv0 : dvE T l = 0 → dveE T l (dvX T l) = 0 := fun h => by
    have hg := dv_good h
    unfold dveE
    rw [if_pos hg]
    unfold dvE at h
    split at h
    · rename_i h0; rw [if_pos h0]
    · exact absurd h (by assumption)
  have hvn : dvE T l ≠ 0 → dvX T l = [] := fun h => by unfold dvX; rw [if_neg h]
  have hvl : (dvX T l).length ≤ T.rs.length := by unfold dvX; split <;> simp [dvM]
  have hvE : dvE T l = if penE T l = 0 then (if faiB T l = true then 0 else 9) else penE T l := rfl
  obtain ⟨C, hC⟩ : ∃ C, dveE T l D = C := ⟨_, rfl⟩
  rw [hC] at K4 K5
  obtain ⟨E, hE⟩ : ∃ E, dvE T l = E := ⟨_, rfl⟩
  obtain ⟨PE, hPE⟩ : ∃ E, penE T l = E := ⟨_, rfl⟩
  obtain ⟨FB, hFB⟩ : ∃ E, faiB T l = E := ⟨_, rfl⟩
  obtain ⟨X, hX⟩ : ∃ E, dvX T l = E := ⟨_, rfl⟩
  obtain ⟨CX, hCX⟩ : ∃ C, dveE T l X = C := ⟨_, rfl⟩
  rw [hE] at hv0 hvn hvE K2
  rw [hX] at hv0 hvn hvl K2 K6
  rw [hCX] at hv0 K6
  rw [hPE, hFB] at hvE K3
  obtain ⟨n, hn⟩ : ∃ n, l.length = n := ⟨_, rfl⟩
  rw [hn] at K2 K3 K4 K5 K6 ⊢
  have H2 := Lib.hid K2
  have H3 := Lib.hid K3
  have H4 := Lib.hid K4
  have H5 := Lib.hid K5
  have H6 := Lib.hid K6
  have HV0 := Lib.hid hv0
  have HVN := Lib.hid hvn
  have HVL := Lib.hid hvl
  have HVE := Lib.hid hvE
  clear K2 K3 K4 K5 K6 hv0 hvn hvl hvE hC hE hPE hFB hX hCX hn hl hlv hD hDn hT
  go_enter Tryz.func7, Tryz.ntmps7
  go_wp2_with fail
  refine (K1 _ (by repeat (first | exact Ext.refl _ | assumption | refine Ext.alloc ?_ _ | refine Ext.drew ?_ | refine Ext.drewN _ ?_ | refine Ext.trans ?_ (by assumption)))).mono ?_
  rintro e w1 ⟨F, rfl, hF, hx1⟩
  obtain ⟨q0, hx, hk0⟩ := alloc1 hx1
  have d0 : w1.cell? ⟨w.heap.size, 0, none⟩ = some a := q0.cell 0
  have d1 : w1.cell? ⟨w.heap.size, 1, none⟩ = some b := q0.cell 1
  have HF := Lib.hid hF
  clear hx1 K1 hF
  cases F with
  | false =>
    go_wp2_with fail
    refine (san _ hx).mono ?_
    rintro e w2 ⟨rfl, hz⟩
    go_wp2_with fail
    go_ret
    exact ⟨rfl, hz⟩
  | true =>
    by_cases hgn : n ≤ 40
    rotate_left 1
    · have hb : decide ((n : Int) > 40) = true := decide_eq_true (by omega)
      go_wp2_with fail
      refine (san _ hx).mono ?_
      rintro e w2 ⟨rfl, hz⟩
      go_wp2_with fail
      go_ret
      exact ⟨rfl, hz⟩
    have hbn : decide ((n : Int) > 40) = false := decide_eq_false (by omega)
    have hmk := HF.out rfl
    have HM := Lib.hid hmk
    clear hmk
    go_wp2_with fail
    refine (KT _ hx).mono ?_
    rintro e w2 ⟨B, rfl, hB, hz⟩
    have HB := Lib.hid hB
    have hx2 := hx.trans hz
    have q2 := q0.ext hz
    replace d0 := hz.cell d0
    replace d1 := hz.cell d1
    clear hz hx q0 KT hB hbn
    cases B with
    | false =>
      go_wp2_with fail
      refine (san _ hx2).mono ?_
      rintro e w2 ⟨rfl, hz⟩
      go_wp2_with fail
      go_ret
      exact ⟨rfl, hz⟩
    | true =>
      go_wp2_with fail
      refine (H2.out (by omega) _ hx2).mono ?_
      rintro e w3 ⟨u3, rfl, hu3, hz⟩
      obtain ⟨A3, c3, rfl, _⟩ := hu3.len
      have hx3 := hx2.trans hz
      replace d0 := hz.cell d0
      replace d1 := hz.cell d1
      clear hz hx2 q2
      go_wp2_with fail
      refine (H3.out (by omega) _ hx3).mono ?_
      rintro e w4 ⟨rfl, hz⟩
      have hx4 := hx3.trans hz
      replace d0 := hz.cell d0
      replace d1 := hz.cell d1
      replace hu3 := hu3.ext hz
      clear hz hx3
      have hDl := HB.out trivial
      have hXl : X.length ≤ 100000 := by have := HVL.out; have := HM.out; omega
      have HXL := Lib.hid hXl
      have HDL := Lib.hid hDl
      clear hXl hDl
      by_cases h0 : PE = 0
      · subst h0
        have hve := HVE.out
        rw [if_pos rfl] at hve
        cases FB with
        | false =>
          rw [if_neg (by decide)] at hve
          subst hve
          have hXn := HVN.out (by decide)
          subst hXn
          clear HVE HV0 HVN HVL H6 hu3
          go_upto_region 9 with fail
          have KS := fun W (_ : Ext w4 W) => (sanity_any W)
          have KC := fun W (h : Ext w4 W) => H4.out (by omega) (by have := HDL.out; omega) W (hx4.trans h)
          have KD := fun W (h : Ext w4 W) => H5.out (by omega) (by have := HDL.out; omega) W (hx4.trans h)
          clear HM HF HB H2 H3 H4 H5 HXL HDL san
          go_region_held3 (fun W' => W'.cell? ⟨w.heap.size, 0, none⟩ = some a ∧ W'.cell? ⟨w.heap.size, 1, none⟩ = some b ∧ Ext w4 W')
            ((refine ⟨Ext.cell (w := w4) ?_ d0, Ext.cell (w := w4) ?_ d1, ?_⟩; all_goals exact (by repeat (first | exact Ext.refl _ | assumption | refine Ext.alloc ?_ _ | refine Ext.drew ?_ | refine Ext.drewN _ ?_ | refine Ext.trans ?_ (by assumption)))))
            ((first | (go_at_call 9; first | ((with_reducible refine (KS _ ?_).mono ?_); (focus (exact (by repeat (first | exact Ext.refl _ | assumption | refine Ext.alloc ?_ _ | refine Ext.drew ?_ | refine Ext.drewN _ ?_ | refine Ext.trans ?_ (by assumption))))); rintro e w' ⟨rfl, hz⟩)) | (go_at_call 37; first | ((with_reducible refine (KC _ ?_).mono ?_); (focus (exact (by repeat (first | exact Ext.refl _ | assumption | refine Ext.alloc ?_ _ | refine Ext.drew ?_ | refine Ext.drewN _ ?_ | refine Ext.trans ?_ (by assumption))))); rintro e w' ⟨rfl, hz⟩)) | (go_at_call 36; first | ((with_reducible refine (KD _ ?_).mono ?_); (focus (exact (by repeat (first | exact Ext.refl _ | assumption | refine Ext.alloc ?_ _ | refine Ext.drew ?_ | refine Ext.drewN _ ?_ | refine Ext.trans ?_ (by assumption))))); rintro e w' ⟨rfl, hz⟩))))
          all_goals
            go_wp2_with fail
            go_ret
            exact ⟨ret_bool (by simp), (by repeat (first | exact Ext.refl _ | assumption | refine Ext.alloc ?_ _ | refine Ext.drew ?_ | refine Ext.drewN _ ?_ | refine Ext.trans ?_ (by assumption)))⟩
        | true =>
          rw [if_pos rfl] at hve
          subst hve
          have hcx := HV0.out rfl
          subst hcx
          go_wp2_with fail
          refine (H6.out (by omega) HXL.out _ _ hx4 hu3).mono ?_
          rintro e w5 ⟨rfl, hz⟩
          have hx5 := hx4.trans hz
          replace d0 := hz.cell d0
          replace d1 := hz.cell d1
          clear hz hx4 hu3 HVE HV0 HVN HVL H6
          go_upto_region 9 with fail
          have KS := fun W (_ : Ext w5 W) => (sanity_any W)
          have KC := fun W (h : Ext w5 W) => H4.out (by omega) (by have := HDL.out; omega) W (hx5.trans h)
          have KD := fun W (h : Ext w5 W) => H5.out (by omega) (by have := HDL.out; omega) W (hx5.trans h)
          clear HM HF HB H2 H3 H4 H5 HXL HDL san
          go_region_held3 (fun W' => W'.cell? ⟨w.heap.size, 0, none⟩ = some a ∧ W'.cell? ⟨w.heap.size, 1, none⟩ = some b ∧ Ext w5 W')
            ((refine ⟨Ext.cell (w := w5) ?_ d0, Ext.cell (w := w5) ?_ d1, ?_⟩; all_goals exact (by repeat (first | exact Ext.refl _ | assumption | refine Ext.alloc ?_ _ | refine Ext.drew ?_ | refine Ext.drewN _ ?_ | refine Ext.trans ?_ (by assumption)))))
            ((first | (go_at_call 9; first | ((with_reducible refine (KS _ ?_).mono ?_); (focus (exact (by repeat (first | exact Ext.refl _ | assumption | refine Ext.alloc ?_ _ | refine Ext.drew ?_ | refine Ext.drewN _ ?_ | refine Ext.trans ?_ (by assumption))))); rintro e w' ⟨rfl, hz⟩)) | (go_at_call 37; first | ((with_reducible refine (KC _ ?_).mono ?_); (focus (exact (by repeat (first | exact Ext.refl _ | assumption | refine Ext.alloc ?_ _ | refine Ext.drew ?_ | refine Ext.drewN _ ?_ | refine Ext.trans ?_ (by assumption))))); rintro e w' ⟨rfl, hz⟩)) | (go_at_call 36; first | ((with_reducible refine (KD _ ?_).mono ?_); (focus (exact (by repeat (first | exact Ext.refl _ | assumption | refine Ext.alloc ?_ _ | refine Ext.drew ?_ | refine Ext.drewN _ ?_ | refine Ext.trans ?_ (by assumption))))); rintro e w' ⟨rfl, hz⟩))))
          all_goals
            go_wp2_with fail
            go_ret
            exact ⟨ret_bool (by simp), (by repeat (first | exact Ext.refl _ | assumption | refine Ext.alloc ?_ _ | refine Ext.drew ?_ | refine Ext.drewN _ ?_ | refine Ext.trans ?_ (by assumption)))⟩
      · have hve := HVE.out
        rw [if_neg h0] at hve
        subst hve
        have hXn := HVN.out h0
        subst hXn
        have hp1 : (E == 0) = false := by simpa using h0
        have hp2 : (E != 0) = true := by simpa using h0
        have hp3 : (E != E) = false := by simp
        clear HVE HV0 HVN HVL H6 hu3 h0
        go_upto_region 9 with fail
        have KS := fun W (_ : Ext w4 W) => (sanity_any W)
        have KC := fun W (h : Ext w4 W) => H4.out (by omega) (by have := HDL.out; omega) W (hx4.trans h)
        have KD := fun W (h : Ext w4 W) => H5.out (by omega) (by have := HDL.out; omega) W (hx4.trans h)
        clear HM HF HB H2 H3 H4 H5 HXL HDL san
        go_region_held3 (fun W' => W'.cell? ⟨w.heap.size, 0, none⟩ = some a ∧ W'.cell? ⟨w.heap.size, 1, none⟩ = some b ∧ Ext w4 W')
          ((refine ⟨Ext.cell (w := w4) ?_ d0, Ext.cell (w := w4) ?_ d1, ?_⟩; all_goals exact (by repeat (first | exact Ext.refl _ | assumption | refine Ext.alloc ?_ _ | refine Ext.drew ?_ | refine Ext.drewN _ ?_ | refine Ext.trans ?_ (by assumption)))))
          ((first | (go_at_call 9; first | ((with_reducible refine (KS _ ?_).mono ?_); (focus (exact (by repeat (first | exact Ext.refl _ | assumption | refine Ext.alloc ?_ _ | refine Ext.drew ?_ | refine Ext.drewN _ ?_ | refine Ext.trans ?_ (by assumption))))); rintro e w' ⟨rfl, hz⟩)) | (go_at_call 37; first | ((with_reducible refine (KC _ ?_).mono ?_); (focus (exact (by repeat (first | exact Ext.refl _ | assumption | refine Ext.alloc ?_ _ | refine Ext.drew ?_ | refine Ext.drewN _ ?_ | refine Ext.trans ?_ (by assumption))))); rintro e w' ⟨rfl, hz⟩)) | (go_at_call 36; first | ((with_reducible refine (KD _ ?_).mono ?_); (focus (exact (by repeat (first | exact Ext.refl _ | assumption | refine Ext.alloc ?_ _ | refine Ext.drew ?_ | refine Ext.drewN _ ?_ | refine Ext.trans ?_ (by assumption))))); rintro e w' ⟨rfl, hz⟩))))
        all_goals
          go_wp2_with fail
          go_ret
          exact ⟨ret_bool (by simp), (by repeat (first | exact Ext.refl _ | assumption | refine Ext.alloc ?_ _ | refine Ext.drew ?_ | refine Ext.drewN _ ?_ | refine Ext.trans ?_ (by assumption)))⟩
end Go.Proofs.YthopgonbndoidaaGreat
namespace Go.Proofs.YthopgonbndoidaaGreat.levyDivides
open Go.ChangeShapes Go.WideShapes Go.ChangeAt Go.RowKit Go.Deep Go.Joins

noncomputable def wArgs : Array Value := #[.agg #[.slice none 0 0, .slice none 0 0], .slice none 0 0, .slice none 0 0]
noncomputable def laidWorld (os : Os) : World := World.holding Tryz.prog os ⟨#[], #[], []⟩

set_option maxRecDepth 100000 in
theorem contract (H : Type) (enc : TypeId × Value → H) (W : World) (base : Nat) (args : Array Value) (ds gs : List (DataW H)) (before : List MemPlace)
    (hval : ∀ (j : Nat) t v, Tryz.f7.params[j]? = some t → args[j]? = some v → Value.okWide Tryz.prog W .any base t v)
    (hW : DataW.Whole enc Tryz.prog Tryz.f7.params.toList Rows.levyDividesSpec.vars false W args.toList ds gs before) :
    Calls Tryz.prog 7 args W fun e W' => ∃ v, e = .returned v ∧ Rows.levyDividesSpec.post enc Tryz.prog Tryz.f7 false true false false W args v W' := by
  have hW' := hW
  obtain ⟨p, q, hA, hV, rfl, hfz, hnd⟩ := hW
  rw [show Tryz.f7.params = #[25, 28, 64] from rfl] at hA hval
  obtain ⟨v0, vs0, d0, ds0, p0, q0, hargs, rfl, rfl, h0, r0⟩ := trodAll_cons hA
  obtain ⟨v1, vs1, d1, ds1, p1, q1, rfl, rfl, rfl, h1, r1⟩ := trodAll_cons r0
  obtain ⟨v2, vs2, d2, ds2, p2, q2, rfl, rfl, rfl, h2, r2⟩ := trodAll_cons r1
  obtain ⟨rfl, rfl, rfl⟩ := trodAll_nil r2
  obtain rfl : args = #[v0, v1, v2] := by cases args; simp_all
  obtain ⟨rfl, rfl⟩ := trodVars_none hV
  obtain ⟨a0, b0, T0, rfl, hT0⟩ := open_tree (hval 0 25 v0 rfl rfl) h0
  obtain ⟨L1, hL1⟩ := open_ints' (hval 1 28 v1 rfl rfl) h1
  obtain ⟨L2, hL2⟩ := open_rows' (hval 2 64 v2 rfl rfl) h2
  refine (LevyDivides_any _ _ _ _ T0 L1 L2 W hT0 hL1 hL2).mono fun e W' ⟨he, hg⟩ => ?_
  subst he
  refine ⟨_, rfl, post_true hW' rfl rfl ⟨rfl, rfl, rfl⟩ ?_ hg⟩
  rw [show Tryz.f7.params = #[25, 28, 64] from rfl]
  intro t ht
  simp only [List.mem_cons, List.not_mem_nil, or_false] at ht
  rcases ht with rfl | rfl | rfl <;> exact ⟨by kernel_rfl, of_decide_eq_true (by kernel_rfl)⟩

set_option maxRecDepth 100000 in
theorem laid_met (os : Os) : laidMet Tryz.prog Rows.levyDividesRow.laid ((laidWorld os).forCall (fun _ _ => 0) ⟨#[], wArgs, []⟩).memory :=
  laidMet_of_run' 8 (by kernel_rfl) (by kernel_rfl)
set_option maxRecDepth 100000 in
theorem reads (os : Os) {H : Type} (enc : TypeId × Value → H) : ∃ x places, DataW.whole enc Tryz.prog ((laidWorld os).forCall (fun _ _ => 0) ⟨#[], wArgs, []⟩).memory Tryz.f7.params.toList Rows.levyDividesSpec.vars false wArgs.toList 8 = some (x, [], places) :=
  ⟨[.agg [.nil, .nil], .nil, .nil], [], by kernel_rfl⟩

set_option maxRecDepth 100000 in
theorem lifted (os : Os) (started : os.Started) (H : Type) (enc : TypeId × Value → H) (F : Stop.Interp) :
    ReturnsInHanded {} Tryz.checked os 7 .any ((OpenSpec.ofChange Rows.levyDividesSpec).preRow enc Tryz.prog Tryz.f7 Rows.levyDividesRow.domain false Rows.levyDividesRow.laid) (((OpenSpec.ofChange Rows.levyDividesSpec).at F).post enc Tryz.prog Tryz.f7 false true false false) := by
  obtain ⟨x, places, hx⟩ := reads os enc
  refine returnsInHanded_of_row (C := Tryz.checked) (s := OpenSpec.ofChange Rows.levyDividesSpec) own started (by kernel_rfl) Tryz.func7
    (witness_row_at (enc := enc) (C := Tryz.checked) false (laidWorld os) wArgs rfl (by kernel_rfl) (by kernel_rfl) (by kernel_rfl)
      (OpenSpec.preRow_of_cond 8 hx (by kernel_rfl) (fun k hk => by cases hk) (by kernel_rfl) (laid_met os))) ?_
  intro W base args ds gs before hval hW _ _ _ hL _ _
  exact contract H enc W base args ds gs before hval hW

set_option maxRecDepth 100000 in
theorem said : Rows.LevyDividesSaid :=
  OpenClaim.holds_of_cond 7 Tryz.f7 rfl rfl rfl rfl rfl rfl rfl ⟨rfl, rfl, rfl, rfl, rfl⟩ rfl rfl rfl rfl rfl (by kernel_rfl) Tryz.func7 (by kernel_rfl)
    (of_decide_eq_true (by kernel_rfl)) (by unfold Func.isWrapper; first | (rw [if_pos (by decide +kernel)]; kernel_rfl) | (rw [if_neg (by decide +kernel)]; exact ⟨rfl, rfl⟩))
    (fun os started H enc _ F => by rw [OpenClaim.pre_eq_preRow]; exact lifted os started H enc F)
end Go.Proofs.YthopgonbndoidaaGreat.levyDivides

