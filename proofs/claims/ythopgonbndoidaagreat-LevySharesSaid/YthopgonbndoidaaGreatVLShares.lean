/- LevyShares: true whatever the tree, the ID and the fractions. -/
import Derived.Test.YthopgonbndoidaaGreatVSmR
import Derived.Test.YthopgonbndoidaaGreatVArgs
import Derived.Test.YthopgonbndoidaaGreatVSan
namespace Go.Proofs.YthopgonbndoidaaGreat
open Go.RowKit Go.Shelf

theorem same_selfR (v u : Value) (l : List Ra) (w : World) (hl : RasAt w v l) (hr : RasAt w u l) (hn : l.length ≤ 1000000) :
    Calls Tryz.prog 27 #[v, u] w fun e w' => e = .returned (.bool true) ∧ Ext w w' :=
  (refSameR_any v u l l w hl hr hn).mono fun e w' ⟨he, hx⟩ => ⟨by rw [he]; simp, hx⟩
set_option maxRecDepth 100000 in
set_option maxHeartbeats 16000000 in
theorem LevyShares_any (a b v : Value) (T : Tr) (id : Int) (l : List Ra) (w : World) (hT : TrAt w a b T) (hl : RasAt w v l) :
    Calls Tryz.prog 5 #[.agg #[a, b], .int .i64 id, v] w fun e w' => e = .returned (.bool true) ∧ Ext w w' := by
  obtain ⟨av, cv, rfl, hlv⟩ := hl.len
  obtain ⟨n, hn⟩ : ∃ n, l.length = n := ⟨_, rfl⟩
  have HN := Lib.hid hn
  rw [hn] at hl hlv ⊢
  clear hn
  have K1 := fun W (h : Ext w W) => few_any a b T W (hT.ext h)
  have san : ∀ W1 : World, Ext w W1 → Calls Tryz.prog 9 #[] W1 fun e w' => e = .returned (.bool true) ∧ Ext w w' := fun W1 h => (sanity_any W1).mono fun e W' ⟨he, hz⟩ => ⟨he, h.trans hz⟩
  go_enter Tryz.func5, Tryz.ntmps5
  go_wp2_with fail
  refine (K1 _ (by repeat (first | exact Ext.refl _ | assumption | refine Ext.alloc ?_ _ | refine Ext.drew ?_ | refine Ext.drewN _ ?_ | refine Ext.trans ?_ (by assumption)))).mono ?_
  rintro e w1 ⟨F, rfl, hF, hx1⟩
  obtain ⟨q0, hx, hk0⟩ := alloc1 hx1
  have d0 : w1.cell? ⟨w.heap.size, 0, none⟩ = some a := q0.cell 0
  have d1 : w1.cell? ⟨w.heap.size, 1, none⟩ = some b := q0.cell 1
  have HF := Lib.hid hF
  clear hx1 K1 hF
  cases F with
  | false =>
    go_wp2_with fail
    refine (san _ hx).mono ?_
    rintro e w2 ⟨rfl, hz⟩
    go_wp2_with fail
    go_ret
    exact ⟨rfl, hz⟩
  | true =>
    by_cases hgn : n ≤ 40
    rotate_left 1
    · have hb : decide ((n : Int) > 40) = true := decide_eq_true (by omega)
      go_wp2_with fail
      refine (san _ hx).mono ?_
      rintro e w2 ⟨rfl, hz⟩
      go_wp2_with fail
      go_ret
      exact ⟨rfl, hz⟩
    have hbn : decide ((n : Int) > 40) = false := decide_eq_false (by omega)
    have hmk := HF.out rfl
    have HM := Lib.hid hmk
    clear hmk
    have hmk := HM.out
    go_wp2_with fail
    refine (Shares_any a b T _ (hT.ext hx) (by omega)).mono ?_
    rintro e w2 ⟨u2, rfl, hu2, hz⟩
    obtain ⟨A2, c2, rfl, _⟩ := hu2.len
    have hx2 := hx.trans hz
    replace d0 := hz.cell d0
    replace d1 := hz.cell d1
    clear hz hx hmk
    have hmk := HM.out
    go_wp2_with fail
    refine (refSharesP_any a b T _ (hT.ext hx2)).mono ?_
    rintro e w3 ⟨u3, rfl, hu3, hz⟩
    obtain ⟨A3, c3, rfl, _⟩ := hu3.len
    obtain ⟨B3, hB3⟩ : ∃ B, w3.heap.size = B := ⟨_, rfl⟩
    obtain ⟨Y3, hY3⟩ : ∃ Y, w3.alloc (.cells #[.slice A3 (shaX T).length c3, .int .i64 (chkE T)] 52) = Y := ⟨_, rfl⟩
    have hxY : Ext w3 Y3 := by rw [← hY3]; exact (by repeat (first | exact Ext.refl _ | assumption | refine Ext.alloc ?_ _ | refine Ext.drew ?_ | refine Ext.drewN _ ?_ | refine Ext.trans ?_ (by assumption)))
    have k3 : Cls B3 52 #[.slice A3 (shaX T).length c3, .int .i64 (chkE T)] Y3 := by rw [← hY3]; exact Cls.newAt _ _ _ hB3.symm
    have hx3 := hx2.trans (hz.trans hxY)
    have hzY := hz.trans hxY
    replace d0 := hzY.cell d0
    replace d1 := hzY.cell d1
    replace hu2 := hu2.ext hzY
    replace hu3 := hu3.ext hxY
    clear hz hzY hxY hx2 hmk
    have hmk := HM.out
    go_wp2_with fail
    clear hY3 hB3 hmk
    have hmk := HM.out
    refine (Pieces_any a b T id _ (hT.ext hx3) (by omega)).mono ?_
    rintro e w4 ⟨u4, rfl, hu4, hz⟩
    obtain ⟨A4, c4, rfl, _⟩ := hu4.len
    have hx4 := hx3.trans hz
    replace d0 := hz.cell d0
    replace d1 := hz.cell d1
    replace hu2 := hu2.ext hz
    replace hu3 := hu3.ext hz
    replace k3 := k3.ext hz
    clear hz hx3 hmk
    have hmk := HM.out
    go_wp2_with fail
    refine (refPieces_any a b T id _ (hT.ext hx4) (by omega)).mono ?_
    rintro e w5 ⟨u5, rfl, hu5, hz⟩
    obtain ⟨A5, c5, rfl, _⟩ := hu5.len
    obtain ⟨B5, hB5⟩ : ∃ B, w5.heap.size = B := ⟨_, rfl⟩
    obtain ⟨Y5, hY5⟩ : ∃ Y, w5.alloc (.cells #[.slice A5 (pieX T id).length c5, .int .i64 (sngE T id)] 52) = Y := ⟨_, rfl⟩
    have hxY : Ext w5 Y5 := by rw [← hY5]; exact (by repeat (first | exact Ext.refl _ | assumption | refine Ext.alloc ?_ _ | refine Ext.drew ?_ | refine Ext.drewN _ ?_ | refine Ext.trans ?_ (by assumption)))
    have k5 : Cls B5 52 #[.slice A5 (pieX T id).length c5, .int .i64 (sngE T id)] Y5 := by rw [← hY5]; exact Cls.newAt _ _ _ hB5.symm
    have hx5 := hx4.trans (hz.trans hxY)
    have hzY := hz.trans hxY
    replace d0 := hzY.cell d0
    replace d1 := hzY.cell d1
    replace hu2 := hu2.ext hzY
    replace hu3 := hu3.ext hzY
    replace hu4 := hu4.ext hzY
    replace k3 := k3.ext hzY
    replace hu5 := hu5.ext hxY
    clear hz hzY hxY hx4 hmk
    have hmk := HM.out
    go_wp2_with fail
    clear hY5 hB5 hmk
    have hmk := HM.out
    have hp1 : (shaX T).length ≤ 1000000 := by
      unfold shaX
      split
      · rw [shL_len]; omega
      · simp
    have hp2 : (pieX T id).length ≤ 1000000 := by
      unfold pieX
      split
      · simp [pieL]; omega
      · simp
    have KC := fun W (h : Ext Y5 W) => CheckShares_any a b _ T l W (hT.ext (hx5.trans h)) (hl.ext (hx5.trans h)) (by have := HN.out; omega)
    have KD := fun W (h : Ext Y5 W) => refCheckShares_any a b _ T l W (hT.ext (hx5.trans h)) (hl.ext (hx5.trans h)) (by have := HN.out; omega)
    have KS := fun W (_ : Ext Y5 W) => (sanity_any W)
    obtain ⟨L1, h1⟩ : ∃ L, shaX T = L := ⟨_, rfl⟩
    obtain ⟨L2, h2⟩ : ∃ L, pieX T id = L := ⟨_, rfl⟩
    obtain ⟨E1, h3⟩ : ∃ L, chkE T = L := ⟨_, rfl⟩
    obtain ⟨E2, h4⟩ : ∃ L, sngE T id = L := ⟨_, rfl⟩
    obtain ⟨C, h5⟩ : ∃ L, cksE T l = L := ⟨_, rfl⟩
    rw [h1] at hp1 hu2 hu3 k3
    rw [h2] at hp2 hu4 hu5 k5
    rw [h3] at k3
    rw [h4] at k5
    rw [h5] at KC KD
    rw [h1, h2, h3, h4]
    have KA := fun W (h : Ext Y5 W) => same_selfR _ _ L1 W (hu2.ext h) (hu3.ext h) hp1
    have KB := fun W (h : Ext Y5 W) => same_selfR _ _ L2 W (hu4.ext h) (hu5.ext h) hp2
    have f30 := k3.cell 0
    have f31 := k3.cell 1
    have f50 := k5.cell 0
    have f51 := k5.cell 1
    clear h1 h2 h3 h4 h5 hp1 hp2 hu2 hu3 hu4 hu5 k3 k5 hT hl HN
    clear HM HF hmk san
    go_region_held3 (fun W' => W'.cell? ⟨w.heap.size, 0, none⟩ = some a ∧ W'.cell? ⟨w.heap.size, 1, none⟩ = some b ∧ W'.cell? ⟨B3, 0, none⟩ = some (.slice A3 L1.length c3) ∧ W'.cell? ⟨B3, 1, none⟩ = some (.int .i64 E1) ∧ W'.cell? ⟨B5, 0, none⟩ = some (.slice A5 L2.length c5) ∧ W'.cell? ⟨B5, 1, none⟩ = some (.int .i64 E2) ∧ Ext Y5 W')
      ((refine ⟨Ext.cell (w := Y5) ?_ d0, Ext.cell (w := Y5) ?_ d1, Ext.cell (w := Y5) ?_ f30, Ext.cell (w := Y5) ?_ f31, Ext.cell (w := Y5) ?_ f50, Ext.cell (w := Y5) ?_ f51, ?_⟩; all_goals exact (by repeat (first | exact Ext.refl _ | assumption | refine Ext.alloc ?_ _ | refine Ext.drew ?_ | refine Ext.drewN _ ?_ | refine Ext.trans ?_ (by assumption)))))
      ((first | (go_at_call 9; first | ((with_reducible refine (KS _ ?_).mono ?_); (focus (exact (by repeat (first | exact Ext.refl _ | assumption | refine Ext.alloc ?_ _ | refine Ext.drew ?_ | refine Ext.drewN _ ?_ | refine Ext.trans ?_ (by assumption))))); rintro e w' ⟨rfl, hz⟩)) | (go_at_call 28; first | ((with_reducible refine (KC _ ?_).mono ?_); (focus (exact (by repeat (first | exact Ext.refl _ | assumption | refine Ext.alloc ?_ _ | refine Ext.drew ?_ | refine Ext.drewN _ ?_ | refine Ext.trans ?_ (by assumption))))); rintro e w' ⟨rfl, hz⟩)) | (go_at_call 29; first | ((with_reducible refine (KD _ ?_).mono ?_); (focus (exact (by repeat (first | exact Ext.refl _ | assumption | refine Ext.alloc ?_ _ | refine Ext.drew ?_ | refine Ext.drewN _ ?_ | refine Ext.trans ?_ (by assumption))))); rintro e w' ⟨rfl, hz⟩)) | (go_at_call 27; first | ((with_reducible refine (KA _ ?_).mono ?_); (focus (exact (by repeat (first | exact Ext.refl _ | assumption | refine Ext.alloc ?_ _ | refine Ext.drew ?_ | refine Ext.drewN _ ?_ | refine Ext.trans ?_ (by assumption))))); rintro e w' ⟨rfl, hz⟩) | ((with_reducible refine (KB _ ?_).mono ?_); (focus (exact (by repeat (first | exact Ext.refl _ | assumption | refine Ext.alloc ?_ _ | refine Ext.drew ?_ | refine Ext.drewN _ ?_ | refine Ext.trans ?_ (by assumption))))); rintro e w' ⟨rfl, hz⟩))))
    all_goals
      go_wp2_with fail
      go_ret
      exact ⟨ret_bool (by simp), (by repeat (first | exact Ext.refl _ | assumption | refine Ext.alloc ?_ _ | refine Ext.drew ?_ | refine Ext.drewN _ ?_ | refine Ext.trans ?_ (by assumption)))⟩
end Go.Proofs.YthopgonbndoidaaGreat
namespace Go.Proofs.YthopgonbndoidaaGreat.levyShares
open Go.ChangeShapes Go.WideShapes Go.ChangeAt Go.RowKit Go.Deep Go.Joins

noncomputable def wArgs : Array Value := #[.agg #[.slice none 0 0, .slice none 0 0], .int .i64 0, .slice none 0 0]
noncomputable def laidWorld (os : Os) : World := World.holding Tryz.prog os ⟨#[], #[], []⟩

set_option maxRecDepth 100000 in
theorem contract (H : Type) (enc : TypeId × Value → H) (W : World) (base : Nat) (args : Array Value) (ds gs : List (DataW H)) (before : List MemPlace)
    (hval : ∀ (j : Nat) t v, Tryz.f5.params[j]? = some t → args[j]? = some v → Value.okWide Tryz.prog W .any base t v)
    (hW : DataW.Whole enc Tryz.prog Tryz.f5.params.toList Rows.levySharesSpec.vars false W args.toList ds gs before) :
    Calls Tryz.prog 5 args W fun e W' => ∃ v, e = .returned v ∧ Rows.levySharesSpec.post enc Tryz.prog Tryz.f5 false true false false W args v W' := by
  have hW' := hW
  obtain ⟨p, q, hA, hV, rfl, hfz, hnd⟩ := hW
  rw [show Tryz.f5.params = #[25, 3, 48] from rfl] at hA hval
  obtain ⟨v0, vs0, d0, ds0, p0, q0, hargs, rfl, rfl, h0, r0⟩ := trodAll_cons hA
  obtain ⟨v1, vs1, d1, ds1, p1, q1, rfl, rfl, rfl, h1, r1⟩ := trodAll_cons r0
  obtain ⟨v2, vs2, d2, ds2, p2, q2, rfl, rfl, rfl, h2, r2⟩ := trodAll_cons r1
  obtain ⟨rfl, rfl, rfl⟩ := trodAll_nil r2
  obtain rfl : args = #[v0, v1, v2] := by cases args; simp_all
  obtain ⟨rfl, rfl⟩ := trodVars_none hV
  obtain ⟨a0, b0, T0, rfl, hT0⟩ := open_tree (hval 0 25 v0 rfl rfl) h0
  obtain ⟨x1, rfl, _, _, hf1⟩ := open_int Tryz.underlying3 (hval 1 3 v1 rfl rfl) h1
  obtain ⟨L2, hL2⟩ := open_ras' (hval 2 48 v2 rfl rfl) h2
  refine (LevyShares_any _ _ _ T0 x1 L2 W hT0 hL2).mono fun e W' ⟨he, hg⟩ => ?_
  subst he
  refine ⟨_, rfl, post_true hW' rfl rfl ⟨rfl, rfl, rfl⟩ ?_ hg⟩
  rw [show Tryz.f5.params = #[25, 3, 48] from rfl]
  intro t ht
  simp only [List.mem_cons, List.not_mem_nil, or_false] at ht
  rcases ht with rfl | rfl | rfl <;> exact ⟨by kernel_rfl, of_decide_eq_true (by kernel_rfl)⟩

set_option maxRecDepth 100000 in
theorem laid_met (os : Os) : laidMet Tryz.prog Rows.levySharesRow.laid ((laidWorld os).forCall (fun _ _ => 0) ⟨#[], wArgs, []⟩).memory :=
  laidMet_of_run' 8 (by kernel_rfl) (by kernel_rfl)
set_option maxRecDepth 100000 in
theorem reads (os : Os) {H : Type} (enc : TypeId × Value → H) : ∃ x places, DataW.whole enc Tryz.prog ((laidWorld os).forCall (fun _ _ => 0) ⟨#[], wArgs, []⟩).memory Tryz.f5.params.toList Rows.levySharesSpec.vars false wArgs.toList 8 = some (x, [], places) :=
  ⟨[.agg [.nil, .nil], .lit (.int .i64 0), .nil], [], by kernel_rfl⟩

set_option maxRecDepth 100000 in
theorem lifted (os : Os) (started : os.Started) (H : Type) (enc : TypeId × Value → H) (F : Stop.Interp) :
    ReturnsInHanded {} Tryz.checked os 5 .any ((OpenSpec.ofChange Rows.levySharesSpec).preRow enc Tryz.prog Tryz.f5 Rows.levySharesRow.domain false Rows.levySharesRow.laid) (((OpenSpec.ofChange Rows.levySharesSpec).at F).post enc Tryz.prog Tryz.f5 false true false false) := by
  obtain ⟨x, places, hx⟩ := reads os enc
  refine returnsInHanded_of_row (C := Tryz.checked) (s := OpenSpec.ofChange Rows.levySharesSpec) own started (by kernel_rfl) Tryz.func5
    (witness_row_at (enc := enc) (C := Tryz.checked) false (laidWorld os) wArgs rfl (by kernel_rfl) (by kernel_rfl) (by kernel_rfl)
      (OpenSpec.preRow_of_cond 8 hx (by kernel_rfl) (fun k hk => by cases hk) (by kernel_rfl) (laid_met os))) ?_
  intro W base args ds gs before hval hW _ _ _ hL _ _
  exact contract H enc W base args ds gs before hval hW

set_option maxRecDepth 100000 in
theorem said : Rows.LevySharesSaid :=
  OpenClaim.holds_of_cond 5 Tryz.f5 rfl rfl rfl rfl rfl rfl rfl ⟨rfl, rfl, rfl, rfl, rfl⟩ rfl rfl rfl rfl rfl (by kernel_rfl) Tryz.func5 (by kernel_rfl)
    (of_decide_eq_true (by kernel_rfl)) (by unfold Func.isWrapper; first | (rw [if_pos (by decide +kernel)]; kernel_rfl) | (rw [if_neg (by decide +kernel)]; exact ⟨rfl, rfl⟩))
    (fun os started H enc _ F => by rw [OpenClaim.pre_eq_preRow]; exact lifted os started H enc F)
end Go.Proofs.YthopgonbndoidaaGreat.levyShares

