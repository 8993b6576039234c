/- LevyAlone: true whatever the tree and the IDs. -/
import Derived.Test.YthopgonbndoidaaVRSv
import Derived.Test.YthopgonbndoidaaVArgs
namespace Go.Proofs.Ythopgonbndoidaa
open Go.RowKit Go.Shelf

set_option maxRecDepth 100000 in
set_option maxHeartbeats 8000000 in
theorem LevyAlone_any (a b v : Value) (T : Tr) (l : List Int) (w : World) (hT : TrAt w a b T) (hl : IntsAt w v l) :
    Calls Try.prog 6 #[.agg #[a, b], v] w fun e w' => e = .returned (.bool true) ∧ Ext w w' := by
  have K1 := fun W (h : Ext w W) => few_any a b T W (hT.ext h)
  have K2 := fun (hn : l.length ≤ 100000) W (h : Ext w W) => Alone_any a b v T l W (hT.ext h) (hl.ext h) hn
  have K3 := fun (hn : l.length ≤ 100000) (hp : T.ps.length ≤ 100000) W (h : Ext w W) => refAlone_any a b v T l W (hT.ext h) (hl.ext h) hn hp
  have K4 := fun (hn : l.length ≤ 100000) W (h : Ext w W) => Saved_any a b v T l W (hT.ext h) (hl.ext h) hn
  have K5 := fun (hn : l.length ≤ 100000) (hp : T.ps.length ≤ 100000) W (h : Ext w W) => refSaved_any a b v T l W (hT.ext h) (hl.ext h) hn hp
  obtain ⟨ad, cap, rfl, hlen⟩ := hl.len
  obtain ⟨n, hn⟩ : ∃ n, l.length = n := ⟨_, rfl⟩
  obtain ⟨m, hm⟩ : ∃ n, T.ps.length = n := ⟨_, rfl⟩
  obtain ⟨k, hk⟩ : ∃ n, T.rs.length = n := ⟨_, rfl⟩
  obtain ⟨E, hE⟩ : ∃ E, askE T l = E := ⟨_, rfl⟩
  obtain ⟨A, hA⟩ : ∃ E, AlnX T l = E := ⟨_, rfl⟩
  obtain ⟨S, hS⟩ : ∃ E, SavX T l = E := ⟨_, rfl⟩
  rw [hn] at K2 K3 K4 K5 ⊢
  rw [hm, hk] at K1
  rw [hm] at K3 K5
  rw [hE] at K2 K3 K4 K5
  rw [hA] at K2 K3
  rw [hS] at K4 K5
  clear hn hm hk hE hA hS hlen hT hl
  have H2 := Lib.hid K2
  have H3 := Lib.hid K3
  have H4 := Lib.hid K4
  have H5 := Lib.hid K5
  clear K2 K3 K4 K5
  go_enter Try.func6, Try.ntmps6
  go_wp2_with fail
  refine (K1 _ (by repeat (first | exact Ext.refl _ | assumption | refine Ext.alloc ?_ _ | refine Ext.drew ?_ | refine Ext.drewN _ ?_ | refine Ext.trans ?_ (by assumption)))).mono ?_
  rintro e w1 ⟨F, rfl, hF, hx1⟩
  obtain ⟨q0, hx, hk0⟩ := alloc1 hx1
  have d0 : w1.cell? ⟨w.heap.size, 0, none⟩ = some a := q0.cell 0
  have d1 : w1.cell? ⟨w.heap.size, 1, none⟩ = some b := q0.cell 1
  have HF := Lib.hid hF
  clear hx1 q0 K1 hF
  have san : ∀ W1 : World, Ext w W1 → Calls Try.prog 14 #[] W1 fun e w' => e = .returned (.bool true) ∧ Ext w w' := fun W1 h => (sanity_any W1).mono fun e W' ⟨he, hz⟩ => ⟨he, h.trans hz⟩
  cases F with
  | false =>
    go_wp2_with fail
    refine (san _ hx).mono ?_
    rintro e w2 ⟨rfl, hz⟩
    go_wp2_with fail
    go_ret
    exact ⟨rfl, hz⟩
  | true =>
    by_cases hn : n ≤ 40
    · have hg : ¬ ((n : Int) > 40) := by omega
      have hb : decide ((n : Int) > 40) = false := decide_eq_false hg
      have hmk := HF.out rfl
      have K2 := H2.out (by omega)
      have K3 := H3.out (by omega) (by omega)
      have K4 := H4.out (by omega)
      have K5 := H5.out (by omega) (by omega)
      clear hg hmk hn
      go_wp2_with fail
      refine (K2 _ hx).mono ?_
      rintro e w2 ⟨rfl, hz⟩
      replace d0 := hz.cell d0
      replace d1 := hz.cell d1
      replace hx := hx.trans hz
      clear hz
      go_wp2_with fail
      refine (K3 _ hx).mono ?_
      rintro e w3 ⟨rfl, hz⟩
      replace d0 := hz.cell d0
      replace d1 := hz.cell d1
      replace hx := hx.trans hz
      clear hz
      go_wp2_with fail
      refine (K4 _ hx).mono ?_
      rintro e w4 ⟨rfl, hz⟩
      replace d0 := hz.cell d0
      replace d1 := hz.cell d1
      replace hx := hx.trans hz
      clear hz
      go_wp2_with fail
      refine (K5 _ hx).mono ?_
      rintro e w5 ⟨rfl, hz⟩
      replace d0 := hz.cell d0
      replace d1 := hz.cell d1
      replace hx := hx.trans hz
      clear hz
      go_wp2_with fail
      refine (san _ hx).mono ?_
      rintro e w6 ⟨rfl, hz⟩
      go_wp2_with fail
      go_ret
      exact ⟨rfl, hz⟩
    · have hb : decide ((n : Int) > 40) = true := decide_eq_true (by omega)
      clear hn
      go_wp2_with fail
      refine (san _ hx).mono ?_
      rintro e w2 ⟨rfl, hz⟩
      go_wp2_with fail
      go_ret
      exact ⟨rfl, hz⟩
end Go.Proofs.Ythopgonbndoidaa
namespace Go.Proofs.Ythopgonbndoidaa.levyAlone
open Go.ChangeShapes Go.WideShapes Go.ChangeAt Go.RowKit Go.Deep Go.Joins

noncomputable def wArgs : Array Value := #[.agg #[.slice none 0 0, .slice none 0 0], .slice none 0 0]
noncomputable def laidWorld (os : Os) : World := World.holding Try.prog os ⟨#[], #[], []⟩

set_option maxRecDepth 100000 in
theorem contract (H : Type) (enc : TypeId × Value → H) (W : World) (base : Nat) (args : Array Value) (ds gs : List (DataW H)) (before : List MemPlace)
    (hval : ∀ (j : Nat) t v, Try.f6.params[j]? = some t → args[j]? = some v → Value.okWide Try.prog W .any base t v)
    (hW : DataW.Whole enc Try.prog Try.f6.params.toList Rows.levyAloneSpec.vars false W args.toList ds gs before) :
    Calls Try.prog 6 args W fun e W' => ∃ v, e = .returned v ∧ Rows.levyAloneSpec.post enc Try.prog Try.f6 false true false false W args v W' := by
  have hW' := hW
  obtain ⟨p, q, hA, hV, rfl, hfz, hnd⟩ := hW
  rw [show Try.f6.params = #[25, 34] from rfl] at hA hval
  obtain ⟨v0, vs0, d0, ds0, p0, q0, hargs, rfl, rfl, h0, r0⟩ := trodAll_cons hA
  obtain ⟨v1, vs1, d1, ds1, p1, q1, rfl, rfl, rfl, h1, r1⟩ := trodAll_cons r0
  obtain ⟨rfl, rfl, rfl⟩ := trodAll_nil r1
  obtain rfl : args = #[v0, v1] := by cases args; simp_all
  obtain ⟨rfl, rfl⟩ := trodVars_none hV
  obtain ⟨a0, b0, T0, rfl, hT0⟩ := open_tree (hval 0 25 v0 rfl rfl) h0
  obtain ⟨L1, hL1⟩ := open_ints' (hval 1 34 v1 rfl rfl) h1
  refine (LevyAlone_any _ _ _ T0 L1 W hT0 hL1).mono fun e W' ⟨he, hg⟩ => ?_
  subst he
  refine ⟨_, rfl, post_true hW' rfl rfl ⟨rfl, rfl, rfl⟩ ?_ hg⟩
  rw [show Try.f6.params = #[25, 34] from rfl]
  intro t ht
  simp only [List.mem_cons, List.not_mem_nil, or_false] at ht
  rcases ht with rfl | rfl <;> exact ⟨by kernel_rfl, of_decide_eq_true (by kernel_rfl)⟩

set_option maxRecDepth 100000 in
theorem laid_met (os : Os) : laidMet Try.prog Rows.levyAloneRow.laid ((laidWorld os).forCall (fun _ _ => 0) ⟨#[], wArgs, []⟩).memory :=
  laidMet_of_run' 8 (by kernel_rfl) (by kernel_rfl)
set_option maxRecDepth 100000 in
theorem reads (os : Os) {H : Type} (enc : TypeId × Value → H) : ∃ x places, DataW.whole enc Try.prog ((laidWorld os).forCall (fun _ _ => 0) ⟨#[], wArgs, []⟩).memory Try.f6.params.toList Rows.levyAloneSpec.vars false wArgs.toList 8 = some (x, [], places) :=
  ⟨[.agg [.nil, .nil], .nil], [], by kernel_rfl⟩

set_option maxRecDepth 100000 in
theorem lifted (os : Os) (started : os.Started) (H : Type) (enc : TypeId × Value → H) (F : Stop.Interp) :
    ReturnsInHanded {} Try.checked os 6 .any ((OpenSpec.ofChange Rows.levyAloneSpec).preRow enc Try.prog Try.f6 Rows.levyAloneRow.domain false Rows.levyAloneRow.laid) (((OpenSpec.ofChange Rows.levyAloneSpec).at F).post enc Try.prog Try.f6 false true false false) := by
  obtain ⟨x, places, hx⟩ := reads os enc
  refine returnsInHanded_of_row (C := Try.checked) (s := OpenSpec.ofChange Rows.levyAloneSpec) own started (by kernel_rfl) Try.func6
    (witness_row_at (enc := enc) (C := Try.checked) false (laidWorld os) wArgs rfl (by kernel_rfl) (by kernel_rfl) (by kernel_rfl)
      (OpenSpec.preRow_of_cond 8 hx (by kernel_rfl) (fun k hk => by cases hk) (by kernel_rfl) (laid_met os))) ?_
  intro W base args ds gs before hval hW _ _ _ hL _ _
  exact contract H enc W base args ds gs before hval hW

set_option maxRecDepth 100000 in
theorem said : Rows.LevyAloneSaid :=
  OpenClaim.holds_of_cond 6 Try.f6 rfl rfl rfl rfl rfl rfl rfl ⟨rfl, rfl, rfl, rfl, rfl⟩ rfl rfl rfl rfl rfl (by kernel_rfl) Try.func6 (by kernel_rfl)
    (of_decide_eq_true (by kernel_rfl)) (by unfold Func.isWrapper; first | (rw [if_pos (by decide +kernel)]; kernel_rfl) | (rw [if_neg (by decide +kernel)]; exact ⟨rfl, rfl⟩))
    (fun os started H enc _ F => by rw [OpenClaim.pre_eq_preRow]; exact lifted os started H enc F)
end Go.Proofs.Ythopgonbndoidaa.levyAlone
