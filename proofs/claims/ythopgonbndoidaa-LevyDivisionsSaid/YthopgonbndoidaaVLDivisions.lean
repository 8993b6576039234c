/- LevyDivisions: true whatever the tree, the pence, the numbers and the payers. -/
import Derived.Test.YthopgonbndoidaaVPDc
import Derived.Test.YthopgonbndoidaaVHas
import Derived.Test.YthopgonbndoidaaVSmP
import Derived.Test.YthopgonbndoidaaVCkO
namespace Go.Proofs.Ythopgonbndoidaa
open Go.RowKit Go.Shelf

section
open Go.ChangeShapes Go.WideShapes Go.ChangeAt Go.Deep Go.Joins
variable {H : Type} {enc : TypeId × Value → H} {W : World}
set_option maxRecDepth 100000 in
theorem rows_of {fuel : Nat} {v : Value} {y : DataW H × List MemPlace} (h : DataW.trod enc Try.prog W 0 (fun _ => true) true fuel 92 [v] = some y) : ∃ L, RowsAt W v L ∧ L.length ≤ 9223372036854775807 := by
  rcases open_slice1 Try.underlying92 (by kernel_rfl) h with ⟨hcs, _⟩ | ⟨a, len, cap, m, n, V, D, Pl, hcs, hb, hl, hm, hmm, hx, hi⟩
  · simp only [List.cons.injEq, and_true] at hcs
    exact ⟨[], ⟨none, 0, hcs, by simp, fun i hi => by simp at hi⟩, by simp⟩
  · simp only [List.cons.injEq, and_true] at hcs
    subst hcs
    simp only [if_true] at hmm
    have hall : ∀ i, i < len → ∃ row : List Int, W.cell? (a.add i) = some (V i) ∧ IntsAt W (V i) row := by
      intro i hil
      obtain ⟨hc, ht'⟩ := hi i (by omega)
      obtain ⟨row, hr⟩ := ints_of ht'
      exact ⟨row, hc, hr⟩
    obtain ⟨l, hl', hp⟩ := pick_list hall
    subst hl'
    refine ⟨l, ⟨some a, cap, rfl, hl, fun i hi' => ?_⟩, by unfold maxLen at hm; omega⟩
    have ha : a = ⟨a.block, a.off, none⟩ := spot_none (hp 0 (by omega)).1
    obtain ⟨q0, q1⟩ := hp i hi'
    rw [ha, add_at] at q0
    exact ⟨a.block, a.off, V i, by rw [← ha], q0, q1⟩
set_option maxRecDepth 100000 in
theorem open_rows' {r : Reach} {b0 : Nat} {v : Value} {d : DataW H} {p : List MemPlace} (hv : Value.okWide Try.prog W r b0 92 v) (h : DataW.Trod enc Try.prog W 0 (fun _ => true) true 92 v d p) : ∃ L, RowsAt W v L ∧ L.length ≤ 9223372036854775807 := by
  obtain ⟨a, len, cap, rfl⟩ := okWide_slice Try.underlying92 hv
  obtain ⟨fuel, hf⟩ := h
  exact rows_of (v := .slice a len cap) hf
end

set_option maxRecDepth 100000 in
set_option maxHeartbeats 16000000 in
theorem LevyDivisions_any (a b v d vb : Value) (T : Tr) (l : List Int) (D : List (List Int)) (B : List Bool) (w : World) (hT : TrAt w a b T) (hl : IntsAt w v l) (hD : RowsAt w d D ∧ D.length ≤ 9223372036854775807) (hB : BoolsAt w vb B) :
    Calls Try.prog 12 #[.agg #[a, b], v, d, vb] w fun e w' => e = .returned (.bool true) ∧ Ext w w' := by
  obtain ⟨hD, hDn⟩ := hD
  obtain ⟨av, cv, rfl, hlv⟩ := hl.len
  have K1 := fun W (h : Ext w W) => few_any a b T W (hT.ext h)
  have KT := fun W (h : Ext w W) => table_any d D W (hD.ext h) hDn
  have san : ∀ W1 : World, Ext w W1 → Calls Try.prog 14 #[] W1 fun e w' => e = .returned (.bool true) ∧ Ext w w' := fun W1 h => (sanity_any W1).mono fun e W' ⟨he, hz⟩ => ⟨he, h.trans hz⟩
  have K2 := fun (hn : l.length ≤ 100000) W (h : Ext w W) => Fair_any a b _ T l W (hT.ext h) (hl.ext h) hn
  have K3 := fun (hn : l.length ≤ 100000) W (h : Ext w W) => Divide_any a b _ T l W (hT.ext h) (hl.ext h) hn
  have K4 := fun (hn : l.length ≤ 100000) (hm : (dvX T l).length ≤ 100000) u W (h : Ext w W) (hu : RowsAt W u (dvX T l)) => CheckDivide_any a b _ u T l (dvX T l) W (hT.ext h) (hl.ext h) hu hn hm
  have K5 := fun (hn : l.length ≤ 100000) (hm : D.length ≤ 100000) W (h : Ext w W) => CheckDivide_any a b _ d T l D W (hT.ext h) (hl.ext h) (hD.ext h) hn hm
  have KS := fun (hp : T.ps.length ≤ 100000) W (h : Ext w W) => some_any a b vb T B W (hT.ext h) hp (hB.ext h)
  have K6 := fun (hn : l.length ≤ 100000) u g W (h : Ext w W) (hu : IntsAt W u g) (hg : g.length ≤ 100000) => CheckObjection_any a b _ u T l g W (hT.ext h) (hl.ext h) hu hn hg
  have hc8 : dveE T l D = 0 → (∀ g, List.Sublist g (evL T.ps) → g.length ≤ 24 ∧ cobE T l g = 8) ∧ faiB T l = true := fun h => by
    have h0 := dvd_cob (g := []) h rfl
    refine ⟨fun g hg => ⟨?_, (dvd_cob h (sub_gr (penE_ok h0.2.2).1 hg)).1⟩, h0.2.1⟩
    have h1 := hg.length_le
    rw [evL_len] at h1
    have := (penE_ok h0.2.2).1.lp
    omega
  have hv0 : dvE T l = 0 → dveE T l (dvX T l) = 0 := fun h => by
    have hg := dv_good h
    unfold dveE
    rw [if_pos hg]
    unfold dvE at h
    split at h
    · rename_i h0; rw [if_pos h0]
    · exact absurd h (by assumption)
  have hvl : (dvX T l).length ≤ T.rs.length := by unfold dvX; split <;> simp [dvM]
  have hvE : dvE T l = if penE T l = 0 then (if faiB T l = true then 0 else 9) else penE T l := rfl
  obtain ⟨C, hC⟩ : ∃ C, dveE T l D = C := ⟨_, rfl⟩
  rw [hC] at K5 hc8
  obtain ⟨E, hE⟩ : ∃ E, dvE T l = E := ⟨_, rfl⟩
  obtain ⟨PE, hPE⟩ : ∃ E, penE T l = E := ⟨_, rfl⟩
  obtain ⟨FB, hFB⟩ : ∃ E, faiB T l = E := ⟨_, rfl⟩
  obtain ⟨X, hX⟩ : ∃ E, dvX T l = E := ⟨_, rfl⟩
  obtain ⟨CX, hCX⟩ : ∃ C, dveE T l X = C := ⟨_, rfl⟩
  rw [hE] at hv0 hvE K3
  rw [hX] at hv0 hvl K3 K4
  rw [hCX] at hv0 K4
  rw [hPE, hFB] at hvE K2
  rw [hFB] at hc8
  have hcob : ∀ g, cobE T l g = 8 → cobN T l g = 0 := fun g h => by unfold cobN; rw [if_neg (by rw [h]; decide)]
  obtain ⟨n, hn⟩ : ∃ n, l.length = n := ⟨_, rfl⟩
  rw [hn] at K2 K3 K4 K5 K6 ⊢
  have H2 := Lib.hid K2
  have H3 := Lib.hid K3
  have H4 := Lib.hid K4
  have H5 := Lib.hid K5
  have H6 := Lib.hid K6
  have HS := Lib.hid KS
  have HV0 := Lib.hid hv0
  have HVL := Lib.hid hvl
  have HVE := Lib.hid hvE
  have HC8 := Lib.hid hc8
  have HCN := Lib.hid hcob
  clear K2 K3 K4 K5 K6 KS hv0 hvl hvE hc8 hcob hC hE hPE hFB hX hCX hn hl hlv hD hDn hT hB
  go_enter Try.func12, Try.ntmps12
  go_wp2_with fail
  refine (K1 _ (by repeat (first | exact Ext.refl _ | assumption | refine Ext.alloc ?_ _ | refine Ext.drew ?_ | refine Ext.drewN _ ?_ | refine Ext.trans ?_ (by assumption)))).mono ?_
  rintro e w1 ⟨F, rfl, hF, hx1⟩
  obtain ⟨q0, hx, hk0⟩ := alloc1 hx1
  have d0 : w1.cell? ⟨w.heap.size, 0, none⟩ = some a := q0.cell 0
  have d1 : w1.cell? ⟨w.heap.size, 1, none⟩ = some b := q0.cell 1
  have HF := Lib.hid hF
  clear hx1 K1 hF q0
  cases F with
  | false =>
    go_wp2_with fail
    refine (san _ hx).mono ?_
    rintro e w99 ⟨rfl, hz⟩
    go_wp2_with fail
    go_ret
    exact ⟨rfl, hz⟩
  | true =>
    by_cases hgn : n ≤ 40
    rotate_left 1
    · have hb : decide ((n : Int) > 40) = true := decide_eq_true (by omega)
      go_wp2_with fail
      refine (san _ hx).mono ?_
      rintro e w99 ⟨rfl, hz⟩
      go_wp2_with fail
      go_ret
      exact ⟨rfl, hz⟩
    have hbn : decide ((n : Int) > 40) = false := decide_eq_false (by omega)
    have hmk := HF.out rfl
    have HM := Lib.hid hmk
    clear hmk
    go_wp2_with fail
    refine (KT _ hx).mono ?_
    rintro e w2 ⟨G, rfl, hG, hz⟩
    have hx2 := hx.trans hz
    replace d0 := hz.cell d0
    replace d1 := hz.cell d1
    clear hz hx
    have HB := Lib.hid hG
    clear hG KT hbn
    cases G with
    | false =>
      go_wp2_with fail
      refine (san _ hx2).mono ?_
      rintro e w99 ⟨rfl, hz⟩
      go_wp2_with fail
      go_ret
      exact ⟨rfl, hz⟩
    | true =>
      go_wp2_with fail
      refine (H2.out (by omega) _ hx2).mono ?_
      rintro e w3 ⟨rfl, hz⟩
      have hx3 := hx2.trans hz
      replace d0 := hz.cell d0
      replace d1 := hz.cell d1
      clear hz hx2
      go_wp2_with fail
      refine (H3.out (by omega) _ hx3).mono ?_
      rintro e w4 ⟨u4, rfl, hu4, hz⟩
      have hx4 := hx3.trans hz
      replace d0 := hz.cell d0
      replace d1 := hz.cell d1
      clear hz hx3
      obtain ⟨A4, c4, rfl, _⟩ := hu4.len
      have hDl := HB.out trivial
      have hXl : X.length ≤ 100000 := by have := HVL.out; have := HM.out; omega
      have hpl : T.ps.length ≤ 100000 := by have := HM.out; omega
      have HXL := Lib.hid hXl
      have HDL := Lib.hid hDl
      have HPL := Lib.hid hpl
      clear hXl hDl hpl
      by_cases h0 : PE = 0
      · subst h0
        have hve := HVE.out
        rw [if_pos rfl] at hve
        cases FB with
        | false =>
          rw [if_neg (by decide)] at hve
          subst hve
          have hC0 : C ≠ 0 := fun h => by have := (HC8.out h).2; cases this
          have hcb : (C != 0) = true := by simpa using hC0
          clear hC0 hu4 HC8 HVE HV0 HVL
          go_wp2_with fail
          refine (H5.out (by omega) (by have := HDL.out; omega) _ hx4).mono ?_
          rintro e w5 ⟨rfl, hz⟩
          have hx5 := hx4.trans hz
          replace d0 := hz.cell d0
          replace d1 := hz.cell d1
          clear hz hx4
          go_wp2_with fail
          refine (san _ hx5).mono ?_
          rintro e w99 ⟨rfl, hz⟩
          go_wp2_with fail
          go_ret
          exact ⟨rfl, hz⟩
        | true =>
          rw [if_pos rfl] at hve
          subst hve
          have hcx := HV0.out rfl
          subst hcx
          clear HVE HV0 HVL
          go_wp2_with fail
          refine (H4.out (by omega) HXL.out _ _ hx4 hu4).mono ?_
          rintro e w5 ⟨rfl, hz⟩
          have hx5 := hx4.trans hz
          replace d0 := hz.cell d0
          replace d1 := hz.cell d1
          replace hu4 := hu4.ext hz
          clear hz hx4
          clear hu4 HXL
          go_wp2_with fail
          refine (H5.out (by omega) (by have := HDL.out; omega) _ hx5).mono ?_
          rintro e w6 ⟨rfl, hz⟩
          have hx6 := hx5.trans hz
          replace d0 := hz.cell d0
          replace d1 := hz.cell d1
          clear hz hx5
          by_cases hC0 : C = 0
          · subst hC0
            have hc8 := (HC8.out rfl).1
            have HC := Lib.hid hc8
            clear hc8 HC8
            go_upto_region 11 with fail
            refine wp_region_held_drew (S := fun W' => W'.cell? ⟨w.heap.size, 0, none⟩ = some a ∧ W'.cell? ⟨w.heap.size, 1, none⟩ = some b ∧ Ext w6 W') (by kernel_rfl) ?_ (fun hHeld => ?_)
            · exact ⟨d0, d1, Ext.drew (Ext.refl _)⟩
            (refine wpAnyH_take (i := 0) (v := ?_) rfl (by kernel_rfl) (by kernel_rfl) (by kernel_rfl) (fun _ _ _ h => h) (Or.inl ⟨by rfl, ?_⟩) (by assumption) ?_; rotate_left 1; (focus (intro w hSw; (try dsimp only at hSw); go_simp; try (with_reducible rfl))))
            try simp only [Act.put, List.getElem_toArray, List.getElem_cons_zero, List.setIfInBounds_toArray, List.set_cons_zero, List.set_cons_succ]
            (refine wpAnyH_take (i := 1) (v := ?_) rfl (by kernel_rfl) (by kernel_rfl) (by kernel_rfl) (fun _ _ _ h => h) (Or.inl ⟨by rfl, ?_⟩) (by assumption) ?_; rotate_left 1; (focus (intro w hSw; (try dsimp only at hSw); go_simp; try (with_reducible rfl))))
            try simp only [Act.put, List.getElem_toArray, List.getElem_cons_zero, List.getElem_cons_succ, List.setIfInBounds_toArray, List.set_cons_zero, List.set_cons_succ]
            (refine wpAnyH_take (i := 2) (v := ?_) rfl (by kernel_rfl) (by kernel_rfl) (by kernel_rfl) (fun _ _ _ h => h) (Or.inl ⟨by rfl, ?_⟩) (by assumption) ?_; rotate_left 1; (focus (intro w hSw; (try dsimp only at hSw); go_simp; try (with_reducible rfl))))
            try simp only [Act.put, List.getElem_toArray, List.getElem_cons_zero, List.getElem_cons_succ, List.setIfInBounds_toArray, List.set_cons_zero, List.set_cons_succ]
            (refine wpAnyH_take (i := 3) (v := ?_) rfl (by kernel_rfl) (by kernel_rfl) (by kernel_rfl) (fun _ _ _ h => h) (Or.inl ⟨by rfl, ?_⟩) (by assumption) ?_; rotate_left 1; (focus (intro w hSw; (try dsimp only at hSw); go_simp; try (with_reducible rfl))))
            try simp only [Act.put, List.getElem_toArray, List.getElem_cons_zero, List.getElem_cons_succ, List.setIfInBounds_toArray, List.set_cons_zero, List.set_cons_succ]
            refine wpAnyH_ready (rs := [4]) (by kernel_rfl) (by simp) ?_
            refine AllReadyH.cons rfl (fun K hK => ?_) AllReadyH.nil
            obtain ⟨V0, hV0⟩ : ∃ V, w6.drew = V := ⟨_, rfl⟩
            rw [hV0] at hHeld ⊢
            clear hV0
            go_simp
            go_at_call 35; refine (HS.out HPL.out _ (hx6.trans hHeld.2.2)).mono ?_; rintro e V1 ⟨u, g, rfl, hu, hg, hz⟩
            refine hK.out _ _ ?_ (fun hHeld => ?_)
            · exact ⟨Ext.cell hz hHeld.1, Ext.cell hz hHeld.2.1, hHeld.2.2.trans hz⟩
            clear hK K
            clear hz
            try simp only [Act.put, List.getElem_toArray, List.getElem_cons_zero, List.getElem_cons_succ, List.setIfInBounds_toArray, List.set_cons_zero, List.set_cons_succ]
            refine wpAnyH_ready (rs := [5]) (by kernel_rfl) (by simp) ?_
            refine AllReadyH.cons rfl (fun K hK => ?_) AllReadyH.nil
            have hg8 := HC.out g hg
            have hgN := HCN.out g hg8.2
            go_simp
            go_at_call 38; refine (H6.out (by omega) u g _ (hx6.trans hHeld.2.2) hu (by omega)).mono ?_; rw [hg8.2, hgN]; rintro e V2 ⟨rfl, hz⟩
            refine hK.out _ _ ?_ (fun hHeld => ?_)
            · exact ⟨Ext.cell hz hHeld.1, Ext.cell hz hHeld.2.1, hHeld.2.2.trans hz⟩
            clear hK K
            clear hz hg8 hgN hu hg
            try simp only [Act.put, List.getElem_toArray, List.getElem_cons_zero, List.getElem_cons_succ, List.setIfInBounds_toArray, List.set_cons_zero, List.set_cons_succ]
            (refine wpAnyH_take (i := 6) (v := ?_) rfl (by kernel_rfl) (by kernel_rfl) (by kernel_rfl) (fun _ _ _ h => h) (Or.inl ⟨by rfl, ?_⟩) (by assumption) ?_; rotate_left 1; (focus (intro w hSw; (try dsimp only at hSw); go_simp; try (with_reducible rfl))))
            try simp only [Act.put, List.getElem_toArray, List.getElem_cons_zero, List.getElem_cons_succ, List.setIfInBounds_toArray, List.set_cons_zero, List.set_cons_succ]
            (refine wpAnyH_take (i := 7) (v := ?_) rfl (by kernel_rfl) (by kernel_rfl) (by kernel_rfl) (fun _ _ _ h => h) (Or.inl ⟨by rfl, ?_⟩) (by assumption) ?_; rotate_left 1; (focus (intro w hSw; (try dsimp only at hSw); go_simp; try (with_reducible rfl))))
            try simp only [Act.put, List.getElem_toArray, List.getElem_cons_zero, List.getElem_cons_succ, List.setIfInBounds_toArray, List.set_cons_zero, List.set_cons_succ]
            (refine wpAnyH_take (i := 8) (v := ?_) rfl (by kernel_rfl) (by kernel_rfl) (by kernel_rfl) (fun _ _ _ h => h) (Or.inl ⟨by rfl, ?_⟩) (by assumption) ?_; rotate_left 1; (focus (intro w hSw; (try dsimp only at hSw); go_simp; try (with_reducible rfl))))
            try simp only [Act.put, List.getElem_toArray, List.getElem_cons_zero, List.getElem_cons_succ, List.setIfInBounds_toArray, List.set_cons_zero, List.set_cons_succ]
            (refine wpAnyH_take (i := 9) (v := ?_) rfl (by kernel_rfl) (by kernel_rfl) (by kernel_rfl) (fun _ _ _ h => h) (Or.inl ⟨by rfl, ?_⟩) (by assumption) ?_; rotate_left 1; (focus (intro w hSw; (try dsimp only at hSw); go_simp; try (with_reducible rfl))))
            try simp only [Act.put, List.getElem_toArray, List.getElem_cons_zero, List.getElem_cons_succ, List.setIfInBounds_toArray, List.set_cons_zero, List.set_cons_succ]
            (refine wpAnyH_take (i := 10) (v := ?_) rfl (by kernel_rfl) (by kernel_rfl) (by kernel_rfl) (fun _ _ _ h => h) (Or.inl ⟨by rfl, ?_⟩) (by assumption) ?_; rotate_left 1; (focus (intro w hSw; (try dsimp only at hSw); go_simp; try (with_reducible rfl))))
            try simp only [Act.put, List.getElem_toArray, List.getElem_cons_zero, List.getElem_cons_succ, List.setIfInBounds_toArray, List.set_cons_zero, List.set_cons_succ]
            refine wpAnyH_done (by kernel_rfl) ?_ _
            have hxl := hx6.trans hHeld.2.2
            go_wp2_with fail
            refine (san _ hxl).mono ?_
            rintro e w99 ⟨rfl, hz⟩
            go_wp2_with fail
            go_ret
            exact ⟨rfl, hz⟩
          · have hcb : (C != 0) = true := by simpa using hC0
            clear hC0 HC8
            go_wp2_with fail
            refine (san _ hx6).mono ?_
            rintro e w99 ⟨rfl, hz⟩
            go_wp2_with fail
            go_ret
            exact ⟨rfl, hz⟩
      · have hve := HVE.out
        rw [if_neg h0] at hve
        subst hve
        have hp2 : (E != 0) = true := by simpa using h0
        clear HVE HV0 HVL HC8 hu4 h0
        go_wp2_with fail
        refine (san _ hx4).mono ?_
        rintro e w99 ⟨rfl, hz⟩
        go_wp2_with fail
        go_ret
        exact ⟨rfl, hz⟩
end Go.Proofs.Ythopgonbndoidaa
namespace Go.Proofs.Ythopgonbndoidaa.levyDivisions
open Go.ChangeShapes Go.WideShapes Go.ChangeAt Go.RowKit Go.Deep Go.Joins

noncomputable def wArgs : Array Value := #[.agg #[.slice none 0 0, .slice none 0 0], .slice none 0 0, .slice none 0 0, .slice none 0 0]
noncomputable def laidWorld (os : Os) : World := World.holding Try.prog os ⟨#[], #[], []⟩

set_option maxRecDepth 100000 in
theorem contract (H : Type) (enc : TypeId × Value → H) (W : World) (base : Nat) (args : Array Value) (ds gs : List (DataW H)) (before : List MemPlace)
    (hval : ∀ (j : Nat) t v, Try.f12.params[j]? = some t → args[j]? = some v → Value.okWide Try.prog W .any base t v)
    (hW : DataW.Whole enc Try.prog Try.f12.params.toList Rows.levyDivisionsSpec.vars false W args.toList ds gs before) :
    Calls Try.prog 12 args W fun e W' => ∃ v, e = .returned v ∧ Rows.levyDivisionsSpec.post enc Try.prog Try.f12 false true false false W args v W' := by
  have hW' := hW
  obtain ⟨p, q, hA, hV, rfl, hfz, hnd⟩ := hW
  rw [show Try.f12.params = #[25, 34, 92, 68] from rfl] at hA hval
  obtain ⟨v0, vs0, d0, ds0, p0, q0, hargs, rfl, rfl, h0, r0⟩ := trodAll_cons hA
  obtain ⟨v1, vs1, d1, ds1, p1, q1, rfl, rfl, rfl, h1, r1⟩ := trodAll_cons r0
  obtain ⟨v2, vs2, d2, ds2, p2, q2, rfl, rfl, rfl, h2, r2⟩ := trodAll_cons r1
  obtain ⟨v3, vs3, d3, ds3, p3, q3, rfl, rfl, rfl, h3, r3⟩ := trodAll_cons r2
  obtain ⟨rfl, rfl, rfl⟩ := trodAll_nil r3
  obtain rfl : args = #[v0, v1, v2, v3] := by cases args; simp_all
  obtain ⟨rfl, rfl⟩ := trodVars_none hV
  obtain ⟨a0, b0, T0, rfl, hT0⟩ := open_tree (hval 0 25 v0 rfl rfl) h0
  obtain ⟨L1, hL1⟩ := open_ints' (hval 1 34 v1 rfl rfl) h1
  obtain ⟨L2, hL2⟩ := open_rows' (hval 2 92 v2 rfl rfl) h2
  obtain ⟨L3, hL3⟩ := open_bools' (hval 3 68 v3 rfl rfl) h3
  refine (LevyDivisions_any _ _ _ _ _ T0 L1 L2 L3 W hT0 hL1 hL2 hL3).mono fun e W' ⟨he, hg⟩ => ?_
  subst he
  refine ⟨_, rfl, post_true hW' rfl rfl ⟨rfl, rfl, rfl⟩ ?_ hg⟩
  rw [show Try.f12.params = #[25, 34, 92, 68] from rfl]
  intro t ht
  simp only [List.mem_cons, List.not_mem_nil, or_false] at ht
  rcases ht with rfl | rfl | rfl | rfl <;> exact ⟨by kernel_rfl, of_decide_eq_true (by kernel_rfl)⟩

set_option maxRecDepth 100000 in
theorem laid_met (os : Os) : laidMet Try.prog Rows.levyDivisionsRow.laid ((laidWorld os).forCall (fun _ _ => 0) ⟨#[], wArgs, []⟩).memory :=
  laidMet_of_run' 8 (by kernel_rfl) (by kernel_rfl)
set_option maxRecDepth 100000 in
theorem reads (os : Os) {H : Type} (enc : TypeId × Value → H) : ∃ x places, DataW.whole enc Try.prog ((laidWorld os).forCall (fun _ _ => 0) ⟨#[], wArgs, []⟩).memory Try.f12.params.toList Rows.levyDivisionsSpec.vars false wArgs.toList 8 = some (x, [], places) :=
  ⟨[.agg [.nil, .nil], .nil, .nil, .nil], [], by kernel_rfl⟩

set_option maxRecDepth 100000 in
theorem lifted (os : Os) (started : os.Started) (H : Type) (enc : TypeId × Value → H) (F : Stop.Interp) :
    ReturnsInHanded {} Try.checked os 12 .any ((OpenSpec.ofChange Rows.levyDivisionsSpec).preRow enc Try.prog Try.f12 Rows.levyDivisionsRow.domain false Rows.levyDivisionsRow.laid) (((OpenSpec.ofChange Rows.levyDivisionsSpec).at F).post enc Try.prog Try.f12 false true false false) := by
  obtain ⟨x, places, hx⟩ := reads os enc
  refine returnsInHanded_of_row (C := Try.checked) (s := OpenSpec.ofChange Rows.levyDivisionsSpec) own started (by kernel_rfl) Try.func12
    (witness_row_at (enc := enc) (C := Try.checked) false (laidWorld os) wArgs rfl (by kernel_rfl) (by kernel_rfl) (by kernel_rfl)
      (OpenSpec.preRow_of_cond 8 hx (by kernel_rfl) (fun k hk => by cases hk) (by kernel_rfl) (laid_met os))) ?_
  intro W base args ds gs before hval hW _ _ _ hL _ _
  exact contract H enc W base args ds gs before hval hW

set_option maxRecDepth 100000 in
theorem said : Rows.LevyDivisionsSaid :=
  OpenClaim.holds_of_cond 12 Try.f12 rfl rfl rfl rfl rfl rfl rfl ⟨rfl, rfl, rfl, rfl, rfl⟩ rfl rfl rfl rfl rfl (by kernel_rfl) Try.func12 (by kernel_rfl)
    (of_decide_eq_true (by kernel_rfl)) (by unfold Func.isWrapper; first | (rw [if_pos (by decide +kernel)]; kernel_rfl) | (rw [if_neg (by decide +kernel)]; exact ⟨rfl, rfl⟩))
    (fun os started H enc _ F => by rw [OpenClaim.pre_eq_preRow]; exact lifted os started H enc F)
end Go.Proofs.Ythopgonbndoidaa.levyDivisions

