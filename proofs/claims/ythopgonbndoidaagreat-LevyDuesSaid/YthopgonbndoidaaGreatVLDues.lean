/- LevyDues: true whatever the tree, the payments and the day. -/
import Derived.Test.YthopgonbndoidaaGreatVDu4
import Derived.Test.YthopgonbndoidaaGreatVArgs
import Derived.Test.YthopgonbndoidaaGreatVSan
namespace Go.Proofs.YthopgonbndoidaaGreat
open Go.RowKit Go.Shelf

theorem same_selfI (v u : Value) (l : List Int) (w : World) (hl : IntsAt w v l) (hr : IntsAt w u l) (hn : l.length ≤ 1000000) :
    Calls Tryz.prog 16 #[v, u] w fun e w' => e = .returned (.bool true) ∧ Ext w w' :=
  (refSame_any v u l l w hl hr hn).mono fun e w' ⟨he, hx⟩ => ⟨by rw [he]; simp, hx⟩
section
open Go.ChangeShapes Go.WideShapes Go.ChangeAt Go.Deep Go.Joins
variable {H : Type} {enc : TypeId × Value → H} {W : World}
set_option maxRecDepth 100000 in
theorem dus_of {fuel : Nat} {v : Value} {y : DataW H × List MemPlace} (h : DataW.trod enc Tryz.prog W 0 (fun _ => true) true fuel 59 [v] = some y) : ∃ l, DusAt W v l := by
  rcases open_slice Tryz.underlying59 h with ⟨hcs, _⟩ | ⟨a, len, cap, m, n, D, Pl, hcs, hb, hl, hm, hmm, hx, hi⟩
  · simp only [List.cons.injEq, and_true] at hcs
    exact ⟨[], none, 0, hcs, by simp, fun i hi => by simp at hi⟩
  · simp only [List.cons.injEq, and_true] at hcs
    subst hcs
    simp only [if_true] at hmm
    have hC : (Tryz.prog).cellsOf 110 = 3 := by kernel_rfl
    have hall : ∀ i, i < len → ∃ t : Du, W.cell? ((a.add (i * 3)).add 0) = some (.int .i64 t.id) ∧ W.cell? ((a.add (i * 3)).add 1) = some (.int .i64 t.day) ∧ W.cell? ((a.add (i * 3)).add 2) = some (.int .i64 t.p) := by
      intro i hil
      obtain ⟨cs', hc, ht'⟩ := hi i (by omega)
      rw [hC] at hc
      obtain ⟨y0, y1, y2, n', hx', _, h0, h1, h2⟩ := trod_struct3 Tryz.underlying110 ht'
      obtain ⟨_, hcl, hat⟩ := World.cells?_some hc
      obtain ⟨v0, v1, v2, rfl⟩ : ∃ v0 v1 v2, cs' = [v0, v1, v2] := by
        match cs', hcl with
        | [v0, v1, v2], _ => exact ⟨v0, v1, v2, rfl⟩
      obtain ⟨p0, e0, _⟩ := int_of (v := v0) (by simpa [show (Tryz.prog).cellsOf 3 = 1 by kernel_rfl] using h0)
      obtain ⟨p1, e1, _⟩ := int_of (v := v1) (by simpa [show (Tryz.prog).cellsOf 3 = 1 by kernel_rfl] using h1)
      obtain ⟨p2, e2, _⟩ := int_of (v := v2) (by simpa [show (Tryz.prog).cellsOf 3 = 1 by kernel_rfl] using h2)
      exact ⟨⟨p0, p1, p2⟩, by rw [hat 0 (by omega), ← e0]; rfl, by rw [hat 1 (by omega), ← e1]; rfl, by rw [hat 2 (by omega), ← e2]; rfl⟩
    obtain ⟨l, hl', hp⟩ := pick_list hall
    subst hl'
    refine ⟨l, some a, cap, rfl, hl, fun i hi' => ?_⟩
    have h00 := (hp 0 (by omega)).1
    simp only [Nat.zero_mul] at h00
    have ha : a = ⟨a.block, a.off, none⟩ := spot_none (by simpa [Addr.add] using h00)
    obtain ⟨q0, q1, q2⟩ := hp i hi'
    rw [ha, add_at, add_at] at q0 q1 q2
    refine ⟨a.block, a.off, by rw [← ha], fun r hr => ?_⟩
    match r, hr with
    | 0, _ => simpa [fD] using q0
    | 1, _ => simpa [fD] using q1
    | 2, _ => simpa [fD] using q2
set_option maxRecDepth 100000 in
theorem open_dus' {r : Reach} {b0 : Nat} {v : Value} {d : DataW H} {p : List MemPlace} (hv : Value.okWide Tryz.prog W r b0 59 v) (h : DataW.Trod enc Tryz.prog W 0 (fun _ => true) true 59 v d p) : ∃ l, DusAt W v l := by
  obtain ⟨a, len, cap, rfl⟩ := okWide_slice Tryz.underlying59 hv
  obtain ⟨fuel, hf⟩ := h
  exact dus_of (v := .slice a len cap) hf
end
set_option maxRecDepth 100000 in
set_option maxHeartbeats 16000000 in
theorem LevyDues_any (a b v : Value) (T : Tr) (l : List Du) (day : Int) (w : World) (hT : TrAt w a b T) (hl : DusAt w v l) :
    Calls Tryz.prog 6 #[.agg #[a, b], v, .int .i64 day] w fun e w' => e = .returned (.bool true) ∧ Ext w w' := by
  obtain ⟨av, cv, rfl, hlv⟩ := dus_len hl
  obtain ⟨n, hn⟩ : ∃ n, l.length = n := ⟨_, rfl⟩
  rw [hn] at hl hlv ⊢
  clear hn
  have K1 := fun W (h : Ext w W) => few_any a b T W (hT.ext h)
  have san : ∀ W1 : World, Ext w W1 → Calls Tryz.prog 9 #[] W1 fun e w' => e = .returned (.bool true) ∧ Ext w w' := fun W1 h => (sanity_any W1).mono fun e W' ⟨he, hz⟩ => ⟨he, h.trans hz⟩
  go_enter Tryz.func6, Tryz.ntmps6
  go_wp2_with fail
  refine (K1 _ (by repeat (first | exact Ext.refl _ | assumption | refine Ext.alloc ?_ _ | refine Ext.drew ?_ | refine Ext.drewN _ ?_ | refine Ext.trans ?_ (by assumption)))).mono ?_
  rintro e w1 ⟨F, rfl, hF, hx1⟩
  obtain ⟨q0, hx, hk0⟩ := alloc1 hx1
  have d0 : w1.cell? ⟨w.heap.size, 0, none⟩ = some a := q0.cell 0
  have d1 : w1.cell? ⟨w.heap.size, 1, none⟩ = some b := q0.cell 1
  have HF := Lib.hid hF
  clear hx1 K1 hF
  cases F with
  | false =>
    go_wp2_with fail
    refine (san _ hx).mono ?_
    rintro e w2 ⟨rfl, hz⟩
    go_wp2_with fail
    go_ret
    exact ⟨rfl, hz⟩
  | true =>
    by_cases h30 : n ≤ 30
    · have hb1 : decide ((n : Int) > 30) = false := decide_eq_false (by omega)
      have hb3 : decide ((n : Int) > 250) = false := decide_eq_false (by omega)
      clear h30
      have hmk := HF.out rfl
      have HM := Lib.hid hmk
      clear hmk
      have hmk := HM.out
      have K2 := fun W (h : Ext w W) => Arrears_any a b _ T l day W (hT.ext h) (hl.ext h) (by omega)
      have K3 := fun W (h : Ext w W) => refArrears_any a b _ T l day W (hT.ext h) (hl.ext h) (by omega)
      have K4 := fun W (h : Ext w W) => Purse_any a b _ T l day W (hT.ext h) (hl.ext h) (by omega)
      have K5 := fun W (h : Ext w W) => refPurse_any a b _ T l day W (hT.ext h) (hl.ext h) (by omega)
      have hL : (arX T l day).length ≤ 1000000 := by
        unfold arX
        split
        · rename_i h
          have := (arL_bd (duE_ok h).1 day l (duE_ok h).2.2).1
          omega
        · simp
      obtain ⟨L, h1⟩ : ∃ L, arX T l day = L := ⟨_, rfl⟩
      obtain ⟨C, h2⟩ : ∃ L, duE T l day = L := ⟨_, rfl⟩
      obtain ⟨M, h3⟩ : ∃ L, puX T l day = L := ⟨_, rfl⟩
      rw [h1, h2] at K2 K3
      rw [h1] at hL
      rw [h3, h2] at K4 K5
      clear h1 h2 h3 hmk
      have H2 := Lib.hid K2
      have H3 := Lib.hid K3
      have H4 := Lib.hid K4
      have H5 := Lib.hid K5
      have HLL := Lib.hid hL
      clear K2 K3 K4 K5 hL
      have hmk := HM.out
      go_wp2_with fail
      refine (H2.out _ hx).mono ?_
      rintro e w2 ⟨u2, rfl, hu2, hz⟩
      obtain ⟨A2, c2, rfl, _⟩ := hu2.len
      have hx2 := hx.trans hz
      replace d0 := hz.cell d0
      replace d1 := hz.cell d1
      clear hz hx hmk
      have hmk := HM.out
      go_wp2_with fail
      refine (H3.out _ hx2).mono ?_
      rintro e w3 ⟨u3, rfl, hu3, hz⟩
      obtain ⟨A3, c3, rfl, _⟩ := hu3.len
      obtain ⟨B3, hB3⟩ : ∃ B, w3.heap.size = B := ⟨_, rfl⟩
      obtain ⟨Y3, hY3⟩ : ∃ Y, w3.alloc (.cells #[.slice A3 L.length c3, .int .i64 C] 33) = Y := ⟨_, rfl⟩
      have hxY : Ext w3 Y3 := by rw [← hY3]; exact (by repeat (first | exact Ext.refl _ | assumption | refine Ext.alloc ?_ _ | refine Ext.drew ?_ | refine Ext.drewN _ ?_ | refine Ext.trans ?_ (by assumption)))
      have k3 : Cls B3 33 #[.slice A3 L.length c3, .int .i64 C] Y3 := by rw [← hY3]; exact Cls.newAt _ _ _ hB3.symm
      have hx3 := hx2.trans (hz.trans hxY)
      have hzY := hz.trans hxY
      replace d0 := hzY.cell d0
      replace d1 := hzY.cell d1
      replace hu2 := hu2.ext hzY
      replace hu3 := hu3.ext hxY
      clear hz hzY hxY hx2 hmk
      have hmk := HM.out
      go_wp2_with fail
      clear hY3 hB3 hmk
      have hmk := HM.out
      refine (H4.out _ hx3).mono ?_
      rintro e w4 ⟨rfl, hz⟩
      have hx4 := hx3.trans hz
      replace d0 := hz.cell d0
      replace d1 := hz.cell d1
      replace hu2 := hu2.ext hz
      replace hu3 := hu3.ext hz
      replace k3 := k3.ext hz
      clear hz hx3 hmk
      have hmk := HM.out
      go_wp2_with fail
      refine (H5.out _ hx4).mono ?_
      rintro e w5 ⟨rfl, hz⟩
      have hx5 := hx4.trans hz
      replace d0 := hz.cell d0
      replace d1 := hz.cell d1
      replace hu2 := hu2.ext hz
      replace hu3 := hu3.ext hz
      replace k3 := k3.ext hz
      clear hz hx4 hmk
      have hmk := HM.out
      go_wp2_with fail
      clear hmk
      have hmk := HM.out
      have KA := Lib.hid (fun W (h : Ext w5 W) => same_selfI _ _ L W (hu2.ext h) (hu3.ext h) HLL.out)
      clear hmk hu2 hu3 HM HF H2 H3 H4 H5
      refine (sanity_any _).mono ?_
      rintro e w19 ⟨rfl, hz⟩
      replace k3 := k3.ext hz
      have f30 := k3.cell 0
      have f31 := k3.cell 1
      clear d0 d1
      go_wp2_with fail
      refine (KA.out _ hz).mono ?_
      rintro e w20 ⟨rfl, hz2⟩
      replace f31 := hz2.cell f31
      go_wp2_with fail
      go_ret
      exact ⟨ret_bool (by simp), hx5.trans (hz.trans hz2)⟩
    · have hb1 : decide ((n : Int) > 30) = true := decide_eq_true (by omega)
      by_cases h200 : n ≤ 200
      · have hb2 : decide ((n : Int) ≤ 200) = true := decide_eq_true (by omega)
        go_wp2_with fail
        refine (san _ hx).mono ?_
        rintro e w2 ⟨rfl, hz⟩
        go_wp2_with fail
        go_ret
        exact ⟨rfl, hz⟩
      · have hb2 : decide ((n : Int) ≤ 200) = false := decide_eq_false (by omega)
        by_cases h250 : n > 250
        · have hb3 : decide ((n : Int) > 250) = true := decide_eq_true (by omega)
          go_wp2_with fail
          refine (san _ hx).mono ?_
          rintro e w2 ⟨rfl, hz⟩
          go_wp2_with fail
          go_ret
          exact ⟨rfl, hz⟩
        · have hb3 : decide ((n : Int) > 250) = false := decide_eq_false (by omega)
          clear h30 h200 h250
          have hmk := HF.out rfl
          have HM := Lib.hid hmk
          clear hmk
          have hmk := HM.out
          have K2 := fun W (h : Ext w W) => Arrears_any a b _ T l day W (hT.ext h) (hl.ext h) (by omega)
          have K3 := fun W (h : Ext w W) => refArrears_any a b _ T l day W (hT.ext h) (hl.ext h) (by omega)
          have K4 := fun W (h : Ext w W) => Purse_any a b _ T l day W (hT.ext h) (hl.ext h) (by omega)
          have K5 := fun W (h : Ext w W) => refPurse_any a b _ T l day W (hT.ext h) (hl.ext h) (by omega)
          have hL : (arX T l day).length ≤ 1000000 := by
            unfold arX
            split
            · rename_i h
              have := (arL_bd (duE_ok h).1 day l (duE_ok h).2.2).1
              omega
            · simp
          obtain ⟨L, h1⟩ : ∃ L, arX T l day = L := ⟨_, rfl⟩
          obtain ⟨C, h2⟩ : ∃ L, duE T l day = L := ⟨_, rfl⟩
          obtain ⟨M, h3⟩ : ∃ L, puX T l day = L := ⟨_, rfl⟩
          rw [h1, h2] at K2 K3
          rw [h1] at hL
          rw [h3, h2] at K4 K5
          clear h1 h2 h3 hmk
          have H2 := Lib.hid K2
          have H3 := Lib.hid K3
          have H4 := Lib.hid K4
          have H5 := Lib.hid K5
          have HLL := Lib.hid hL
          clear K2 K3 K4 K5 hL
          have hmk := HM.out
          go_wp2_with fail
          refine (H2.out _ hx).mono ?_
          rintro e w2 ⟨u2, rfl, hu2, hz⟩
          obtain ⟨A2, c2, rfl, _⟩ := hu2.len
          have hx2 := hx.trans hz
          replace d0 := hz.cell d0
          replace d1 := hz.cell d1
          clear hz hx hmk
          have hmk := HM.out
          go_wp2_with fail
          refine (H3.out _ hx2).mono ?_
          rintro e w3 ⟨u3, rfl, hu3, hz⟩
          obtain ⟨A3, c3, rfl, _⟩ := hu3.len
          obtain ⟨B3, hB3⟩ : ∃ B, w3.heap.size = B := ⟨_, rfl⟩
          obtain ⟨Y3, hY3⟩ : ∃ Y, w3.alloc (.cells #[.slice A3 L.length c3, .int .i64 C] 33) = Y := ⟨_, rfl⟩
          have hxY : Ext w3 Y3 := by rw [← hY3]; exact (by repeat (first | exact Ext.refl _ | assumption | refine Ext.alloc ?_ _ | refine Ext.drew ?_ | refine Ext.drewN _ ?_ | refine Ext.trans ?_ (by assumption)))
          have k3 : Cls B3 33 #[.slice A3 L.length c3, .int .i64 C] Y3 := by rw [← hY3]; exact Cls.newAt _ _ _ hB3.symm
          have hx3 := hx2.trans (hz.trans hxY)
          have hzY := hz.trans hxY
          replace d0 := hzY.cell d0
          replace d1 := hzY.cell d1
          replace hu2 := hu2.ext hzY
          replace hu3 := hu3.ext hxY
          clear hz hzY hxY hx2 hmk
          have hmk := HM.out
          go_wp2_with fail
          clear hY3 hB3 hmk
          have hmk := HM.out
          refine (H4.out _ hx3).mono ?_
          rintro e w4 ⟨rfl, hz⟩
          have hx4 := hx3.trans hz
          replace d0 := hz.cell d0
          replace d1 := hz.cell d1
          replace hu2 := hu2.ext hz
          replace hu3 := hu3.ext hz
          replace k3 := k3.ext hz
          clear hz hx3 hmk
          have hmk := HM.out
          go_wp2_with fail
          refine (H5.out _ hx4).mono ?_
          rintro e w5 ⟨rfl, hz⟩
          have hx5 := hx4.trans hz
          replace d0 := hz.cell d0
          replace d1 := hz.cell d1
          replace hu2 := hu2.ext hz
          replace hu3 := hu3.ext hz
          replace k3 := k3.ext hz
          clear hz hx4 hmk
          have hmk := HM.out
          go_wp2_with fail
          clear hmk
          have hmk := HM.out
          have KA := Lib.hid (fun W (h : Ext w5 W) => same_selfI _ _ L W (hu2.ext h) (hu3.ext h) HLL.out)
          clear hmk hu2 hu3 HM HF H2 H3 H4 H5
          refine (sanity_any _).mono ?_
          rintro e w19 ⟨rfl, hz⟩
          replace k3 := k3.ext hz
          have f30 := k3.cell 0
          have f31 := k3.cell 1
          clear d0 d1
          go_wp2_with fail
          refine (KA.out _ hz).mono ?_
          rintro e w20 ⟨rfl, hz2⟩
          replace f31 := hz2.cell f31
          go_wp2_with fail
          go_ret
          exact ⟨ret_bool (by simp), hx5.trans (hz.trans hz2)⟩
end Go.Proofs.YthopgonbndoidaaGreat
namespace Go.Proofs.YthopgonbndoidaaGreat.levyDues
open Go.ChangeShapes Go.WideShapes Go.ChangeAt Go.RowKit Go.Deep Go.Joins

noncomputable def wArgs : Array Value := #[.agg #[.slice none 0 0, .slice none 0 0], .slice none 0 0, .int .i64 0]
noncomputable def laidWorld (os : Os) : World := World.holding Tryz.prog os ⟨#[], #[], []⟩

set_option maxRecDepth 100000 in
theorem contract (H : Type) (enc : TypeId × Value → H) (W : World) (base : Nat) (args : Array Value) (ds gs : List (DataW H)) (before : List MemPlace)
    (hval : ∀ (j : Nat) t v, Tryz.f6.params[j]? = some t → args[j]? = some v → Value.okWide Tryz.prog W .any base t v)
    (hW : DataW.Whole enc Tryz.prog Tryz.f6.params.toList Rows.levyDuesSpec.vars false W args.toList ds gs before) :
    Calls Tryz.prog 6 args W fun e W' => ∃ v, e = .returned v ∧ Rows.levyDuesSpec.post enc Tryz.prog Tryz.f6 false true false false W args v W' := by
  have hW' := hW
  obtain ⟨p, q, hA, hV, rfl, hfz, hnd⟩ := hW
  rw [show Tryz.f6.params = #[25, 59, 3] from rfl] at hA hval
  obtain ⟨v0, vs0, d0, ds0, p0, q0, hargs, rfl, rfl, h0, r0⟩ := trodAll_cons hA
  obtain ⟨v1, vs1, d1, ds1, p1, q1, rfl, rfl, rfl, h1, r1⟩ := trodAll_cons r0
  obtain ⟨v2, vs2, d2, ds2, p2, q2, rfl, rfl, rfl, h2, r2⟩ := trodAll_cons r1
  obtain ⟨rfl, rfl, rfl⟩ := trodAll_nil r2
  obtain rfl : args = #[v0, v1, v2] := by cases args; simp_all
  obtain ⟨rfl, rfl⟩ := trodVars_none hV
  obtain ⟨a0, b0, T0, rfl, hT0⟩ := open_tree (hval 0 25 v0 rfl rfl) h0
  obtain ⟨L1, hL1⟩ := open_dus' (hval 1 59 v1 rfl rfl) h1
  obtain ⟨x2, rfl, _, _, hf2⟩ := open_int Tryz.underlying3 (hval 2 3 v2 rfl rfl) h2
  refine (LevyDues_any _ _ _ T0 L1 x2 W hT0 hL1).mono fun e W' ⟨he, hg⟩ => ?_
  subst he
  refine ⟨_, rfl, post_true hW' rfl rfl ⟨rfl, rfl, rfl⟩ ?_ hg⟩
  rw [show Tryz.f6.params = #[25, 59, 3] from rfl]
  intro t ht
  simp only [List.mem_cons, List.not_mem_nil, or_false] at ht
  rcases ht with rfl | rfl | rfl <;> exact ⟨by kernel_rfl, of_decide_eq_true (by kernel_rfl)⟩

set_option maxRecDepth 100000 in
theorem laid_met (os : Os) : laidMet Tryz.prog Rows.levyDuesRow.laid ((laidWorld os).forCall (fun _ _ => 0) ⟨#[], wArgs, []⟩).memory :=
  laidMet_of_run' 8 (by kernel_rfl) (by kernel_rfl)
set_option maxRecDepth 100000 in
theorem reads (os : Os) {H : Type} (enc : TypeId × Value → H) : ∃ x places, DataW.whole enc Tryz.prog ((laidWorld os).forCall (fun _ _ => 0) ⟨#[], wArgs, []⟩).memory Tryz.f6.params.toList Rows.levyDuesSpec.vars false wArgs.toList 8 = some (x, [], places) :=
  ⟨[.agg [.nil, .nil], .nil, .lit (.int .i64 0)], [], by kernel_rfl⟩

set_option maxRecDepth 100000 in
theorem lifted (os : Os) (started : os.Started) (H : Type) (enc : TypeId × Value → H) (F : Stop.Interp) :
    ReturnsInHanded {} Tryz.checked os 6 .any ((OpenSpec.ofChange Rows.levyDuesSpec).preRow enc Tryz.prog Tryz.f6 Rows.levyDuesRow.domain false Rows.levyDuesRow.laid) (((OpenSpec.ofChange Rows.levyDuesSpec).at F).post enc Tryz.prog Tryz.f6 false true false false) := by
  obtain ⟨x, places, hx⟩ := reads os enc
  refine returnsInHanded_of_row (C := Tryz.checked) (s := OpenSpec.ofChange Rows.levyDuesSpec) own started (by kernel_rfl) Tryz.func6
    (witness_row_at (enc := enc) (C := Tryz.checked) false (laidWorld os) wArgs rfl (by kernel_rfl) (by kernel_rfl) (by kernel_rfl)
      (OpenSpec.preRow_of_cond 8 hx (by kernel_rfl) (fun k hk => by cases hk) (by kernel_rfl) (laid_met os))) ?_
  intro W base args ds gs before hval hW _ _ _ hL _ _
  exact contract H enc W base args ds gs before hval hW

set_option maxRecDepth 100000 in
theorem said : Rows.LevyDuesSaid :=
  OpenClaim.holds_of_cond 6 Tryz.f6 rfl rfl rfl rfl rfl rfl rfl ⟨rfl, rfl, rfl, rfl, rfl⟩ rfl rfl rfl rfl rfl (by kernel_rfl) Tryz.func6 (by kernel_rfl)
    (of_decide_eq_true (by kernel_rfl)) (by unfold Func.isWrapper; first | (rw [if_pos (by decide +kernel)]; kernel_rfl) | (rw [if_neg (by decide +kernel)]; exact ⟨rfl, rfl⟩))
    (fun os started H enc _ F => by rw [OpenClaim.pre_eq_preRow]; exact lifted os started H enc F)
end Go.Proofs.YthopgonbndoidaaGreat.levyDues

