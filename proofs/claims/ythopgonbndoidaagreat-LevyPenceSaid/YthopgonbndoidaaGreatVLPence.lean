/- LevyPence: true whatever the tree and the ID. -/
import Derived.Test.YthopgonbndoidaaGreatVRPn
import Derived.Test.YthopgonbndoidaaGreatVArgs
import Derived.Test.YthopgonbndoidaaGreatVSan
namespace Go.Proofs.YthopgonbndoidaaGreat
open Go.RowKit Go.Shelf

theorem same_selfI (v u : Value) (l : List Int) (w : World) (hl : IntsAt w v l) (hr : IntsAt w u l) (hn : l.length ≤ 1000000) :
    Calls Tryz.prog 16 #[v, u] w fun e w' => e = .returned (.bool true) ∧ Ext w w' :=
  (refSame_any v u l l w hl hr hn).mono fun e w' ⟨he, hx⟩ => ⟨by rw [he]; simp, hx⟩
set_option maxRecDepth 100000 in
set_option maxHeartbeats 16000000 in
theorem LevyPence_any (a b : Value) (T : Tr) (id : Int) (w : World) (hT : TrAt w a b T) :
    Calls Tryz.prog 3 #[.agg #[a, b], .int .i64 id] w fun e w' => e = .returned (.bool true) ∧ Ext w w' := by
  have K1 := fun W (h : Ext w W) => few_any a b T W (hT.ext h)
  have san : ∀ W1 : World, Ext w W1 → Calls Tryz.prog 9 #[] W1 fun e w' => e = .returned (.bool true) ∧ Ext w w' := fun W1 h => (sanity_any W1).mono fun e W' ⟨he, hz⟩ => ⟨he, h.trans hz⟩
  go_enter Tryz.func3, Tryz.ntmps3
  go_wp2_with fail
  refine (K1 _ (by repeat (first | exact Ext.refl _ | assumption | refine Ext.alloc ?_ _ | refine Ext.drew ?_ | refine Ext.drewN _ ?_ | refine Ext.trans ?_ (by assumption)))).mono ?_
  rintro e w1 ⟨F, rfl, hF, hx1⟩
  obtain ⟨q0, hx, hk0⟩ := alloc1 hx1
  have d0 : w1.cell? ⟨w.heap.size, 0, none⟩ = some a := q0.cell 0
  have d1 : w1.cell? ⟨w.heap.size, 1, none⟩ = some b := q0.cell 1
  have HF := Lib.hid hF
  clear hx1 K1 hF
  cases F with
  | false =>
    go_wp2_with fail
    refine (san _ hx).mono ?_
    rintro e w2 ⟨rfl, hz⟩
    go_wp2_with fail
    go_ret
    exact ⟨rfl, hz⟩
  | true =>
    have hmk := HF.out rfl
    have HM := Lib.hid hmk
    clear hmk
    have hmk := HM.out
    have K2 := fun W (h : Ext w W) => Pence_any a b T W (hT.ext h)
    have K3 := fun W (h : Ext w W) => refPenceP_any a b T W (hT.ext h)
    have K4 := fun W (h : Ext w W) => Most_any a b T id W (hT.ext h) (by omega)
    have K5 := fun W (h : Ext w W) => refMost_any a b T id W (hT.ext h) (by omega)
    have K6 := fun W (h : Ext w W) => Least_any a b T id W (hT.ext h) (by omega)
    have K7 := fun W (h : Ext w W) => refLeast_any a b T id W (hT.ext h) (by omega)
    have hL : (penX T).length ≤ 1000000 := by
      unfold penX
      split
      · rename_i h
        have := (pnX_bd (Ok.of h)).1
        omega
      · simp
    obtain ⟨L, h1⟩ : ∃ L, penX T = L := ⟨_, rfl⟩
    obtain ⟨C, h2⟩ : ∃ L, chkE T = L := ⟨_, rfl⟩
    obtain ⟨M1, h3⟩ : ∃ L, (if sngE T id = 0 then alnE T (fun p => p.id == id) else 0) = L := ⟨_, rfl⟩
    obtain ⟨M2, h4⟩ : ∃ L, (if sngE T id = 0 then alnE T (fun _ => true) - alnE T (fun p => !(p.id == id)) else 0) = L := ⟨_, rfl⟩
    rw [h3] at K4 K5
    rw [h4] at K6 K7
    obtain ⟨S, h5⟩ : ∃ L, sngE T id = L := ⟨_, rfl⟩
    rw [h1, h2] at K2 K3
    rw [h1] at hL
    rw [h5] at K4 K5 K6 K7
    clear h1 h2 h3 h4 h5 hmk
    have H2 := Lib.hid K2
    have H3 := Lib.hid K3
    have H4 := Lib.hid K4
    have H5 := Lib.hid K5
    have H6 := Lib.hid K6
    have H7 := Lib.hid K7
    have HLL := Lib.hid hL
    clear K2 K3 K4 K5 K6 K7 hL
    have hmk := HM.out
    go_wp2_with fail
    refine (H2.out _ hx).mono ?_
    rintro e w2 ⟨u2, rfl, hu2, hz⟩
    obtain ⟨A2, c2, rfl, _⟩ := hu2.len
    have hx2 := hx.trans hz
    replace d0 := hz.cell d0
    replace d1 := hz.cell d1
    clear hz hx hmk
    have hmk := HM.out
    go_wp2_with fail
    refine (H3.out _ hx2).mono ?_
    rintro e w3 ⟨u3, rfl, hu3, hz⟩
    obtain ⟨A3, c3, rfl, _⟩ := hu3.len
    obtain ⟨B3, hB3⟩ : ∃ B, w3.heap.size = B := ⟨_, rfl⟩
    obtain ⟨Y3, hY3⟩ : ∃ Y, w3.alloc (.cells #[.slice A3 L.length c3, .int .i64 C] 33) = Y := ⟨_, rfl⟩
    have hxY : Ext w3 Y3 := by rw [← hY3]; exact (by repeat (first | exact Ext.refl _ | assumption | refine Ext.alloc ?_ _ | refine Ext.drew ?_ | refine Ext.drewN _ ?_ | refine Ext.trans ?_ (by assumption)))
    have k3 : Cls B3 33 #[.slice A3 L.length c3, .int .i64 C] Y3 := by rw [← hY3]; exact Cls.newAt _ _ _ hB3.symm
    have hx3 := hx2.trans (hz.trans hxY)
    have hzY := hz.trans hxY
    replace d0 := hzY.cell d0
    replace d1 := hzY.cell d1
    replace hu2 := hu2.ext hzY
    replace hu3 := hu3.ext hxY
    clear hz hzY hxY hx2 hmk
    have hmk := HM.out
    go_wp2_with fail
    clear hY3 hB3 hmk
    have hmk := HM.out
    refine (H4.out _ hx3).mono ?_
    rintro e w4 ⟨rfl, hz⟩
    have hx4 := hx3.trans hz
    replace d0 := hz.cell d0
    replace d1 := hz.cell d1
    replace hu2 := hu2.ext hz
    replace hu3 := hu3.ext hz
    replace k3 := k3.ext hz
    clear hz hx3 hmk
    have hmk := HM.out
    go_wp2_with fail
    refine (H5.out _ hx4).mono ?_
    rintro e w5 ⟨rfl, hz⟩
    have hx5 := hx4.trans hz
    replace d0 := hz.cell d0
    replace d1 := hz.cell d1
    replace hu2 := hu2.ext hz
    replace hu3 := hu3.ext hz
    replace k3 := k3.ext hz
    clear hz hx4 hmk
    have hmk := HM.out
    go_wp2_with fail
    refine (H6.out _ hx5).mono ?_
    rintro e w6 ⟨rfl, hz⟩
    have hx6 := hx5.trans hz
    replace d0 := hz.cell d0
    replace d1 := hz.cell d1
    replace hu2 := hu2.ext hz
    replace hu3 := hu3.ext hz
    replace k3 := k3.ext hz
    clear hz hx5 hmk
    have hmk := HM.out
    go_wp2_with fail
    refine (H7.out _ hx6).mono ?_
    rintro e w7 ⟨rfl, hz⟩
    have hx7 := hx6.trans hz
    replace d0 := hz.cell d0
    replace d1 := hz.cell d1
    replace hu2 := hu2.ext hz
    replace hu3 := hu3.ext hz
    replace k3 := k3.ext hz
    clear hz hx6 hmk
    have hmk := HM.out
    go_wp2_with fail
    clear hmk
    have hmk := HM.out
    have KA := Lib.hid (fun W (h : Ext w7 W) => same_selfI _ _ L W (hu2.ext h) (hu3.ext h) HLL.out)
    clear hmk hu2 hu3 HM HF H2 H3 H4 H5 H6 H7
    refine (sanity_any _).mono ?_
    rintro e w19 ⟨rfl, hz⟩
    replace k3 := k3.ext hz
    have f30 := k3.cell 0
    have f31 := k3.cell 1
    clear d0 d1
    go_wp2_with fail
    refine (KA.out _ hz).mono ?_
    rintro e w20 ⟨rfl, hz2⟩
    replace f31 := hz2.cell f31
    go_wp2_with fail
    go_ret
    exact ⟨ret_bool (by simp), hx7.trans (hz.trans hz2)⟩
end Go.Proofs.YthopgonbndoidaaGreat
namespace Go.Proofs.YthopgonbndoidaaGreat.levyPence
open Go.ChangeShapes Go.WideShapes Go.ChangeAt Go.RowKit Go.Deep Go.Joins

noncomputable def wArgs : Array Value := #[.agg #[.slice none 0 0, .slice none 0 0], .int .i64 0]
noncomputable def laidWorld (os : Os) : World := World.holding Tryz.prog os ⟨#[], #[], []⟩

set_option maxRecDepth 100000 in
theorem contract (H : Type) (enc : TypeId × Value → H) (W : World) (base : Nat) (args : Array Value) (ds gs : List (DataW H)) (before : List MemPlace)
    (hval : ∀ (j : Nat) t v, Tryz.f3.params[j]? = some t → args[j]? = some v → Value.okWide Tryz.prog W .any base t v)
    (hW : DataW.Whole enc Tryz.prog Tryz.f3.params.toList Rows.levyPenceSpec.vars false W args.toList ds gs before) :
    Calls Tryz.prog 3 args W fun e W' => ∃ v, e = .returned v ∧ Rows.levyPenceSpec.post enc Tryz.prog Tryz.f3 false true false false W args v W' := by
  have hW' := hW
  obtain ⟨p, q, hA, hV, rfl, hfz, hnd⟩ := hW
  rw [show Tryz.f3.params = #[25, 3] from rfl] at hA hval
  obtain ⟨v0, vs0, d0, ds0, p0, q0, hargs, rfl, rfl, h0, r0⟩ := trodAll_cons hA
  obtain ⟨v1, vs1, d1, ds1, p1, q1, rfl, rfl, rfl, h1, r1⟩ := trodAll_cons r0
  obtain ⟨rfl, rfl, rfl⟩ := trodAll_nil r1
  obtain rfl : args = #[v0, v1] := by cases args; simp_all
  obtain ⟨rfl, rfl⟩ := trodVars_none hV
  obtain ⟨a0, b0, T0, rfl, hT0⟩ := open_tree (hval 0 25 v0 rfl rfl) h0
  obtain ⟨x1, rfl, _, _, hf1⟩ := open_int Tryz.underlying3 (hval 1 3 v1 rfl rfl) h1
  refine (LevyPence_any _ _ T0 x1 W hT0).mono fun e W' ⟨he, hg⟩ => ?_
  subst he
  refine ⟨_, rfl, post_true hW' rfl rfl ⟨rfl, rfl, rfl⟩ ?_ hg⟩
  rw [show Tryz.f3.params = #[25, 3] from rfl]
  intro t ht
  simp only [List.mem_cons, List.not_mem_nil, or_false] at ht
  rcases ht with rfl | rfl <;> exact ⟨by kernel_rfl, of_decide_eq_true (by kernel_rfl)⟩

set_option maxRecDepth 100000 in
theorem laid_met (os : Os) : laidMet Tryz.prog Rows.levyPenceRow.laid ((laidWorld os).forCall (fun _ _ => 0) ⟨#[], wArgs, []⟩).memory :=
  laidMet_of_run' 8 (by kernel_rfl) (by kernel_rfl)
set_option maxRecDepth 100000 in
theorem reads (os : Os) {H : Type} (enc : TypeId × Value → H) : ∃ x places, DataW.whole enc Tryz.prog ((laidWorld os).forCall (fun _ _ => 0) ⟨#[], wArgs, []⟩).memory Tryz.f3.params.toList Rows.levyPenceSpec.vars false wArgs.toList 8 = some (x, [], places) :=
  ⟨[.agg [.nil, .nil], .lit (.int .i64 0)], [], by kernel_rfl⟩

set_option maxRecDepth 100000 in
theorem lifted (os : Os) (started : os.Started) (H : Type) (enc : TypeId × Value → H) (F : Stop.Interp) :
    ReturnsInHanded {} Tryz.checked os 3 .any ((OpenSpec.ofChange Rows.levyPenceSpec).preRow enc Tryz.prog Tryz.f3 Rows.levyPenceRow.domain false Rows.levyPenceRow.laid) (((OpenSpec.ofChange Rows.levyPenceSpec).at F).post enc Tryz.prog Tryz.f3 false true false false) := by
  obtain ⟨x, places, hx⟩ := reads os enc
  refine returnsInHanded_of_row (C := Tryz.checked) (s := OpenSpec.ofChange Rows.levyPenceSpec) own started (by kernel_rfl) Tryz.func3
    (witness_row_at (enc := enc) (C := Tryz.checked) false (laidWorld os) wArgs rfl (by kernel_rfl) (by kernel_rfl) (by kernel_rfl)
      (OpenSpec.preRow_of_cond 8 hx (by kernel_rfl) (fun k hk => by cases hk) (by kernel_rfl) (laid_met os))) ?_
  intro W base args ds gs before hval hW _ _ _ hL _ _
  exact contract H enc W base args ds gs before hval hW

set_option maxRecDepth 100000 in
theorem said : Rows.LevyPenceSaid :=
  OpenClaim.holds_of_cond 3 Tryz.f3 rfl rfl rfl rfl rfl rfl rfl ⟨rfl, rfl, rfl, rfl, rfl⟩ rfl rfl rfl rfl rfl (by kernel_rfl) Tryz.func3 (by kernel_rfl)
    (of_decide_eq_true (by kernel_rfl)) (by unfold Func.isWrapper; first | (rw [if_pos (by decide +kernel)]; kernel_rfl) | (rw [if_neg (by decide +kernel)]; exact ⟨rfl, rfl⟩))
    (fun os started H enc _ F => by rw [OpenClaim.pre_eq_preRow]; exact lifted os started H enc F)
end Go.Proofs.YthopgonbndoidaaGreat.levyPence

