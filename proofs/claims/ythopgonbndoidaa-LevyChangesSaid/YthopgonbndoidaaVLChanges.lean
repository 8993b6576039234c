/- LevyChanges: true whatever the tree, the reach, the cost and the payer. -/
import Derived.Test.YthopgonbndoidaaVRCh
import Derived.Test.YthopgonbndoidaaVSmT
import Derived.Test.YthopgonbndoidaaVSmR
import Derived.Test.YthopgonbndoidaaVChA
import Derived.Test.YthopgonbndoidaaVArgs
import Derived.Test.YthopgonbndoidaaVSan
namespace Go.Proofs.Ythopgonbndoidaa
open Go.RowKit Go.Shelf

theorem same_selfR (v u : Value) (l : List Ra) (w : World) (hl : RasAt w v l) (hr : RasAt w u l) (hn : l.length ≤ 1000000) :
    Calls Try.prog 33 #[v, u] w fun e w' => e = .returned (.bool true) ∧ Ext w w' :=
  (refSameR_any v u l l w hl hr hn).mono fun e w' ⟨he, hx⟩ => ⟨by rw [he]; simp, hx⟩
set_option maxRecDepth 100000 in
set_option maxHeartbeats 16000000 in
theorem LevyChanges_any (a b : Value) (T : Tr) (n c : Int) (y : Py) (w : World) (hT : TrAt w a b T) :
    Calls Try.prog 7 #[.agg #[a, b], .int .i64 n, .int .i64 c, .agg #[.int .i64 y.id, .int .i64 y.reach, .int .i64 y.w]] w fun e w' => e = .returned (.bool true) ∧ Ext w w' := by
  have K1 := fun W (h : Ext w W) => few_any a b T W (hT.ext h)
  have san : ∀ W1 : World, Ext w W1 → Calls Try.prog 14 #[] W1 fun e w' => e = .returned (.bool true) ∧ Ext w w' := fun W1 h => (sanity_any W1).mono fun e W' ⟨he, hz⟩ => ⟨he, h.trans hz⟩
  go_enter Try.func7, Try.ntmps7
  go_wp2_with fail
  refine (K1 _ (by repeat (first | exact Ext.refl _ | assumption | refine Ext.alloc ?_ _ | refine Ext.drew ?_ | refine Ext.drewN _ ?_ | refine Ext.trans ?_ (by assumption)))).mono ?_
  rintro e w1 ⟨F, rfl, hF, hx1⟩
  obtain ⟨q0, q1, hx, hk0⟩ := alloc2 hx1
  have d0 : w1.cell? ⟨w.heap.size, 0, none⟩ = some a := q0.cell 0
  have d1 : w1.cell? ⟨w.heap.size, 1, none⟩ = some b := q0.cell 1
  have HF := Lib.hid hF
  clear hx1 K1 hF
  cases F with
  | false =>
    go_wp2_with fail
    refine (san _ hx).mono ?_
    rintro e w2 ⟨rfl, hz⟩
    go_wp2_with fail
    go_ret
    exact ⟨rfl, hz⟩
  | true =>
    have hmk := HF.out rfl
    have HM := Lib.hid hmk
    clear hmk
    have d2 : w1.cell? ⟨w.heap.size + 1, 0, none⟩ = some (.int .i64 y.id) := q1.cell 0
    have d3 : w1.cell? ⟨w.heap.size + 1, 1, none⟩ = some (.int .i64 y.reach) := q1.cell 1
    have d4 : w1.cell? ⟨w.heap.size + 1, 2, none⟩ = some (.int .i64 y.w) := q1.cell 2
    have hmk := HM.out
    have K2 := fun W (h : Ext w W) => Changed_all a b T n c W (hT.ext h) (by omega)
    have K3 := fun W (h : Ext w W) => refChanged_any a b T n c W (hT.ext h)
    have K4 := fun W (h : Ext w W) => Joined_any a b T y W (hT.ext h) (by omega)
    have K5 := fun W (h : Ext w W) => refJoined_any a b T y W (hT.ext h) (by omega)
    have hL : (chgX T n c).length ≤ 1000000 := by
      unfold chgX
      split
      · simp [chgL]; omega
      · simp
    have hJl : (jnX T y).rs.length ≤ 1000000 ∧ (jnX T y).ps.length ≤ 1000000 := by
      unfold jnX
      split
      · simp [jnT]; omega
      · simp
    obtain ⟨L, h1⟩ : ∃ L, chgX T n c = L := ⟨_, rfl⟩
    obtain ⟨E1, h2⟩ : ∃ L, chgE T n c = L := ⟨_, rfl⟩
    obtain ⟨J, h3⟩ : ∃ L, jnX T y = L := ⟨_, rfl⟩
    obtain ⟨E2, h4⟩ : ∃ L, jnE T y = L := ⟨_, rfl⟩
    rw [h1] at K2 K3 hL
    rw [h2] at K2 K3
    rw [h3] at K4 K5 hJl
    rw [h4] at K4 K5
    clear h1 h2 h3 h4 hmk
    have H2 := Lib.hid K2
    have H3 := Lib.hid K3
    have H4 := Lib.hid K4
    have H5 := Lib.hid K5
    have HJL := Lib.hid hJl
    have HLL := Lib.hid hL
    clear K2 K3 K4 K5 hJl hL
    have hmk := HM.out
    go_wp2_with fail
    refine (H2.out _ hx).mono ?_
    rintro e w2 ⟨u2, rfl, hu2, hz⟩
    obtain ⟨A2, c2, rfl, _⟩ := hu2.len
    have hx2 := hx.trans hz
    replace d0 := hz.cell d0
    replace d1 := hz.cell d1
    replace d2 := hz.cell d2
    replace d3 := hz.cell d3
    replace d4 := hz.cell d4
    clear hz hx hmk
    have hmk := HM.out
    go_wp2_with fail
    refine (H3.out _ hx2).mono ?_
    rintro e w3 ⟨u3, rfl, hu3, hz⟩
    obtain ⟨A3, c3, rfl, _⟩ := hu3.len
    obtain ⟨B3, hB3⟩ : ∃ B, w3.heap.size = B := ⟨_, rfl⟩
    obtain ⟨Y3, hY3⟩ : ∃ Y, w3.alloc (.cells #[.slice A3 L.length c3, .int .i64 E1] 58) = Y := ⟨_, rfl⟩
    have hxY : Ext w3 Y3 := by rw [← hY3]; exact (by repeat (first | exact Ext.refl _ | assumption | refine Ext.alloc ?_ _ | refine Ext.drew ?_ | refine Ext.drewN _ ?_ | refine Ext.trans ?_ (by assumption)))
    have k3 : Cls B3 58 #[.slice A3 L.length c3, .int .i64 E1] Y3 := by rw [← hY3]; exact Cls.newAt _ _ _ hB3.symm
    have hx3 := hx2.trans (hz.trans hxY)
    have hzY := hz.trans hxY
    replace d0 := hzY.cell d0
    replace d1 := hzY.cell d1
    replace d2 := hzY.cell d2
    replace d3 := hzY.cell d3
    replace d4 := hzY.cell d4
    replace hu2 := hu2.ext hzY
    replace hu3 := hu3.ext hxY
    clear hz hzY hxY hx2 hmk
    have hmk := HM.out
    go_wp2_with fail
    clear hY3 hB3 hmk
    have hmk := HM.out
    refine (H4.out _ hx3).mono ?_
    rintro e w4 ⟨u4, v4, rfl, hu4, hz⟩
    obtain ⟨A4, c4, rfl, _⟩ := hu4.r.len
    obtain ⟨D4, e4, rfl, _⟩ := hu4.p.len
    obtain ⟨B4, hB4⟩ : ∃ B, w4.heap.size = B := ⟨_, rfl⟩
    obtain ⟨Y4, hY4⟩ : ∃ Y, w4.alloc (.cells #[.slice A4 J.rs.length c4, .slice D4 J.ps.length e4] 25) = Y := ⟨_, rfl⟩
    have hxY : Ext w4 Y4 := by rw [← hY4]; exact (by repeat (first | exact Ext.refl _ | assumption | refine Ext.alloc ?_ _ | refine Ext.drew ?_ | refine Ext.drewN _ ?_ | refine Ext.trans ?_ (by assumption)))
    have k4 : Cls B4 25 #[.slice A4 J.rs.length c4, .slice D4 J.ps.length e4] Y4 := by rw [← hY4]; exact Cls.newAt _ _ _ hB4.symm
    have hx4 := hx3.trans (hz.trans hxY)
    have hzY := hz.trans hxY
    replace d0 := hzY.cell d0
    replace d1 := hzY.cell d1
    replace d2 := hzY.cell d2
    replace d3 := hzY.cell d3
    replace d4 := hzY.cell d4
    replace hu2 := hu2.ext hzY
    replace hu3 := hu3.ext hzY
    replace k3 := k3.ext hzY
    replace hu4 := hu4.ext hxY
    clear hz hzY hxY hx3 hmk
    have hmk := HM.out
    go_wp2_with fail
    clear hY4 hB4 hmk
    have hmk := HM.out
    refine (H5.out _ hx4).mono ?_
    rintro e w5 ⟨u5, v5, rfl, hu5, hz⟩
    obtain ⟨A5, c5, rfl, _⟩ := hu5.r.len
    obtain ⟨D5, e5, rfl, _⟩ := hu5.p.len
    obtain ⟨B5, hB5⟩ : ∃ B, w5.heap.size = B := ⟨_, rfl⟩
    obtain ⟨Y5, hY5⟩ : ∃ Y, w5.alloc (.cells #[.slice A5 J.rs.length c5, .slice D5 J.ps.length e5, .int .i64 E2] 63) = Y := ⟨_, rfl⟩
    have hxY : Ext w5 Y5 := by rw [← hY5]; exact (by repeat (first | exact Ext.refl _ | assumption | refine Ext.alloc ?_ _ | refine Ext.drew ?_ | refine Ext.drewN _ ?_ | refine Ext.trans ?_ (by assumption)))
    have k5 : Cls B5 63 #[.slice A5 J.rs.length c5, .slice D5 J.ps.length e5, .int .i64 E2] Y5 := by rw [← hY5]; exact Cls.newAt _ _ _ hB5.symm
    have hx5 := hx4.trans (hz.trans hxY)
    have hzY := hz.trans hxY
    replace d0 := hzY.cell d0
    replace d1 := hzY.cell d1
    replace d2 := hzY.cell d2
    replace d3 := hzY.cell d3
    replace d4 := hzY.cell d4
    replace hu2 := hu2.ext hzY
    replace hu3 := hu3.ext hzY
    replace hu4 := hu4.ext hzY
    replace k3 := k3.ext hzY
    replace k4 := k4.ext hzY
    replace hu5 := hu5.ext hxY
    clear hz hzY hxY hx4 hmk
    have hmk := HM.out
    go_wp2_with fail
    clear hY5 hB5 hmk
    have hmk := HM.out
    have KA := Lib.hid (fun W (h : Ext Y5 W) => same_selfR _ _ L W (hu2.ext h) (hu3.ext h) HLL.out)
    have KB := Lib.hid (fun W (h : Ext Y5 W) => sameTree_any _ _ _ _ J W (hu4.ext h) (hu5.ext h) HJL.out)
    clear hmk hu2 hu3 hu4 hu5 HM HF H2 H3 H4 H5
    refine (sanity_any _).mono ?_
    rintro e w9 ⟨rfl, hz⟩
    replace k3 := k3.ext hz
    replace k4 := k4.ext hz
    replace k5 := k5.ext hz
    have f30 := k3.cell 0
    have f31 := k3.cell 1
    have f40 := k4.cell 0
    have f41 := k4.cell 1
    have f50 := k5.cell 0
    have f51 := k5.cell 1
    have f52 := k5.cell 2
    clear d0 d1 d2 d3 d4
    go_wp2_with fail
    refine (KA.out _ hz).mono ?_
    rintro e w10 ⟨rfl, hz2⟩
    replace f30 := hz2.cell f30
    replace f31 := hz2.cell f31
    replace f40 := hz2.cell f40
    replace f41 := hz2.cell f41
    replace f50 := hz2.cell f50
    replace f51 := hz2.cell f51
    replace f52 := hz2.cell f52
    go_wp2_with fail
    refine (KB.out _ (hz.trans hz2)).mono ?_
    rintro e w11 ⟨rfl, hz3⟩
    replace f52 := hz3.cell f52
    go_wp2_with fail
    go_ret
    exact ⟨ret_bool (by simp), hx5.trans (hz.trans (hz2.trans hz3))⟩
end Go.Proofs.Ythopgonbndoidaa
namespace Go.Proofs.Ythopgonbndoidaa.levyChanges
open Go.ChangeShapes Go.WideShapes Go.ChangeAt Go.RowKit Go.Deep Go.Joins

noncomputable def wArgs : Array Value := #[.agg #[.slice none 0 0, .slice none 0 0], .int .i64 0, .int .i64 0, .agg #[.int .i64 0, .int .i64 0, .int .i64 0]]
noncomputable def laidWorld (os : Os) : World := World.holding Try.prog os ⟨#[], #[], []⟩

set_option maxRecDepth 100000 in
theorem contract (H : Type) (enc : TypeId × Value → H) (W : World) (base : Nat) (args : Array Value) (ds gs : List (DataW H)) (before : List MemPlace)
    (hval : ∀ (j : Nat) t v, Try.f7.params[j]? = some t → args[j]? = some v → Value.okWide Try.prog W .any base t v)
    (hW : DataW.Whole enc Try.prog Try.f7.params.toList Rows.levyChangesSpec.vars false W args.toList ds gs before) :
    Calls Try.prog 7 args W fun e W' => ∃ v, e = .returned v ∧ Rows.levyChangesSpec.post enc Try.prog Try.f7 false true false false W args v W' := by
  have hW' := hW
  obtain ⟨p, q, hA, hV, rfl, hfz, hnd⟩ := hW
  rw [show Try.f7.params = #[25, 3, 3, 45] from rfl] at hA hval
  obtain ⟨v0, vs0, d0, ds0, p0, q0, hargs, rfl, rfl, h0, r0⟩ := trodAll_cons hA
  obtain ⟨v1, vs1, d1, ds1, p1, q1, rfl, rfl, rfl, h1, r1⟩ := trodAll_cons r0
  obtain ⟨v2, vs2, d2, ds2, p2, q2, rfl, rfl, rfl, h2, r2⟩ := trodAll_cons r1
  obtain ⟨v3, vs3, d3, ds3, p3, q3, rfl, rfl, rfl, h3, r3⟩ := trodAll_cons r2
  obtain ⟨rfl, rfl, rfl⟩ := trodAll_nil r3
  obtain rfl : args = #[v0, v1, v2, v3] := by cases args; simp_all
  obtain ⟨rfl, rfl⟩ := trodVars_none hV
  obtain ⟨a0, b0, T0, rfl, hT0⟩ := open_tree (hval 0 25 v0 rfl rfl) h0
  obtain ⟨x1, rfl, _, _, hf1⟩ := open_int Try.underlying3 (hval 1 3 v1 rfl rfl) h1
  obtain ⟨x2, rfl, _, _, hf2⟩ := open_int Try.underlying3 (hval 2 3 v2 rfl rfl) h2
  obtain ⟨Y3, rfl, _⟩ := open_payer (hval 3 45 v3 rfl rfl) h3
  refine (LevyChanges_any _ _ T0 x1 x2 Y3 W hT0).mono fun e W' ⟨he, hg⟩ => ?_
  subst he
  refine ⟨_, rfl, post_true hW' rfl rfl ⟨rfl, rfl, rfl⟩ ?_ hg⟩
  rw [show Try.f7.params = #[25, 3, 3, 45] from rfl]
  intro t ht
  simp only [List.mem_cons, List.not_mem_nil, or_false] at ht
  rcases ht with rfl | rfl | rfl | rfl <;> exact ⟨by kernel_rfl, of_decide_eq_true (by kernel_rfl)⟩

set_option maxRecDepth 100000 in
theorem laid_met (os : Os) : laidMet Try.prog Rows.levyChangesRow.laid ((laidWorld os).forCall (fun _ _ => 0) ⟨#[], wArgs, []⟩).memory :=
  laidMet_of_run' 8 (by kernel_rfl) (by kernel_rfl)
set_option maxRecDepth 100000 in
theorem reads (os : Os) {H : Type} (enc : TypeId × Value → H) : ∃ x places, DataW.whole enc Try.prog ((laidWorld os).forCall (fun _ _ => 0) ⟨#[], wArgs, []⟩).memory Try.f7.params.toList Rows.levyChangesSpec.vars false wArgs.toList 8 = some (x, [], places) :=
  ⟨[.agg [.nil, .nil], .lit (.int .i64 0), .lit (.int .i64 0), .agg [.lit (.int .i64 0), .lit (.int .i64 0), .lit (.int .i64 0)]], [], by kernel_rfl⟩

set_option maxRecDepth 100000 in
theorem lifted (os : Os) (started : os.Started) (H : Type) (enc : TypeId × Value → H) (F : Stop.Interp) :
    ReturnsInHanded {} Try.checked os 7 .any ((OpenSpec.ofChange Rows.levyChangesSpec).preRow enc Try.prog Try.f7 Rows.levyChangesRow.domain false Rows.levyChangesRow.laid) (((OpenSpec.ofChange Rows.levyChangesSpec).at F).post enc Try.prog Try.f7 false true false false) := by
  obtain ⟨x, places, hx⟩ := reads os enc
  refine returnsInHanded_of_row (C := Try.checked) (s := OpenSpec.ofChange Rows.levyChangesSpec) own started (by kernel_rfl) Try.func7
    (witness_row_at (enc := enc) (C := Try.checked) false (laidWorld os) wArgs rfl (by kernel_rfl) (by kernel_rfl) (by kernel_rfl)
      (OpenSpec.preRow_of_cond 8 hx (by kernel_rfl) (fun k hk => by cases hk) (by kernel_rfl) (laid_met os))) ?_
  intro W base args ds gs before hval hW _ _ _ hL _ _
  exact contract H enc W base args ds gs before hval hW

set_option maxRecDepth 100000 in
theorem said : Rows.LevyChangesSaid :=
  OpenClaim.holds_of_cond 7 Try.f7 rfl rfl rfl rfl rfl rfl rfl ⟨rfl, rfl, rfl, rfl, rfl⟩ rfl rfl rfl rfl rfl (by kernel_rfl) Try.func7 (by kernel_rfl)
    (of_decide_eq_true (by kernel_rfl)) (by unfold Func.isWrapper; first | (rw [if_pos (by decide +kernel)]; kernel_rfl) | (rw [if_neg (by decide +kernel)]; exact ⟨rfl, rfl⟩))
    (fun os started H enc _ F => by rw [OpenClaim.pre_eq_preRow]; exact lifted os started H enc F)
end Go.Proofs.Ythopgonbndoidaa.levyChanges

