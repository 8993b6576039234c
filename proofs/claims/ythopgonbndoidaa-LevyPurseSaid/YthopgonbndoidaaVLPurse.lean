/- LevyPurse: true whatever the tree, the payments and the day. -/
import Derived.Test.YthopgonbndoidaaVHas
import Derived.Test.YthopgonbndoidaaVPuP
import Derived.Test.YthopgonbndoidaaVRPen
namespace Go.Proofs.Ythopgonbndoidaa
open Go.RowKit Go.Shelf

section
open Go.ChangeShapes Go.WideShapes Go.ChangeAt Go.Deep Go.Joins
variable {H : Type} {enc : TypeId × Value → H} {W : World}
set_option maxRecDepth 100000 in
theorem dus_of {fuel : Nat} {v : Value} {y : DataW H × List MemPlace} (h : DataW.trod enc Try.prog W 0 (fun _ => true) true fuel 80 [v] = some y) : ∃ l, DusAt W v l := by
  rcases open_slice Try.underlying80 h with ⟨hcs, _⟩ | ⟨a, len, cap, m, n, D, Pl, hcs, hb, hl, hm, hmm, hx, hi⟩
  · simp only [List.cons.injEq, and_true] at hcs
    exact ⟨[], none, 0, hcs, by simp, fun i hi => by simp at hi⟩
  · simp only [List.cons.injEq, and_true] at hcs
    subst hcs
    simp only [if_true] at hmm
    have hC : (Try.prog).cellsOf 84 = 3 := by kernel_rfl
    have hall : ∀ i, i < len → ∃ t : Du, W.cell? ((a.add (i * 3)).add 0) = some (.int .i64 t.id) ∧ W.cell? ((a.add (i * 3)).add 1) = some (.int .i64 t.day) ∧ W.cell? ((a.add (i * 3)).add 2) = some (.int .i64 t.p) := by
      intro i hil
      obtain ⟨cs', hc, ht'⟩ := hi i (by omega)
      rw [hC] at hc
      obtain ⟨y0, y1, y2, n', hx', _, h0, h1, h2⟩ := trod_struct3 Try.underlying84 ht'
      obtain ⟨_, hcl, hat⟩ := World.cells?_some hc
      obtain ⟨v0, v1, v2, rfl⟩ : ∃ v0 v1 v2, cs' = [v0, v1, v2] := by
        match cs', hcl with
        | [v0, v1, v2], _ => exact ⟨v0, v1, v2, rfl⟩
      obtain ⟨p0, e0, _⟩ := int_of (v := v0) (by simpa [show (Try.prog).cellsOf 3 = 1 by kernel_rfl] using h0)
      obtain ⟨p1, e1, _⟩ := int_of (v := v1) (by simpa [show (Try.prog).cellsOf 3 = 1 by kernel_rfl] using h1)
      obtain ⟨p2, e2, _⟩ := int_of (v := v2) (by simpa [show (Try.prog).cellsOf 3 = 1 by kernel_rfl] using h2)
      exact ⟨⟨p0, p1, p2⟩, by rw [hat 0 (by omega), ← e0]; rfl, by rw [hat 1 (by omega), ← e1]; rfl, by rw [hat 2 (by omega), ← e2]; rfl⟩
    obtain ⟨l, hl', hp⟩ := pick_list hall
    subst hl'
    refine ⟨l, some a, cap, rfl, hl, fun i hi' => ?_⟩
    have h00 := (hp 0 (by omega)).1
    simp only [Nat.zero_mul] at h00
    have ha : a = ⟨a.block, a.off, none⟩ := spot_none (by simpa [Addr.add] using h00)
    obtain ⟨q0, q1, q2⟩ := hp i hi'
    rw [ha, add_at, add_at] at q0 q1 q2
    refine ⟨a.block, a.off, by rw [← ha], fun r hr => ?_⟩
    match r, hr with
    | 0, _ => simpa [fD] using q0
    | 1, _ => simpa [fD] using q1
    | 2, _ => simpa [fD] using q2
set_option maxRecDepth 100000 in
theorem open_dus' {r : Reach} {b0 : Nat} {v : Value} {d : DataW H} {p : List MemPlace} (hv : Value.okWide Try.prog W r b0 80 v) (h : DataW.Trod enc Try.prog W 0 (fun _ => true) true 80 v d p) : ∃ l, DusAt W v l := by
  obtain ⟨a, len, cap, rfl⟩ := okWide_slice Try.underlying80 hv
  obtain ⟨fuel, hf⟩ := h
  exact dus_of (v := .slice a len cap) hf
end
theorem infoDu : (Try.prog.info? 84).map (fun i => (i.zero, i.size, i.bytes)) = some (some (.agg #[.int .i64 0, .int .i64 0, .int .i64 0]), 3, 24) := by kernel_rfl
theorem append_dus {ops : Array Oper} {rest : List Oper} {o : Oper} {a : Act} {Q : Exit → Act → World → Prop} {w : World} (hgd : o.guard = none) (s x : Operand)
    (ho : o.op = .call { callee := .builtin .append, args := #[s, x], argTypes := #[80, 80] })
    (base : Nat) (v u : Value) (l r : List Du) (hs : a.eval s = v) (hrow : RowK 84 fD 3 base v l w) (hx : a.eval x = u) (hu : DusAt w u r) (hb : base ≤ w.heap.size) (hl : l.length + r.length ≤ 2000000)
    (h : ∀ v' w', RowK 84 fD 3 base v' (l ++ r) w' → w.grownBy w' v.ownBlock → wpList Try.prog ops Q rest (a.put o.dst v') w') : wpList Try.prog ops Q (o :: rest) a w := by
  obtain ⟨i0, hi0, hz0, hz1, hz2⟩ := info_parts infoDu
  obtain ⟨v', w', h1, h2, h3, _⟩ := run_append_rows w 80 o.type 84 i0 (.agg #[.int .i64 0, .int .i64 0, .int .i64 0]) 3 24 (fun _ => rfl) (by decide) (by kernel_rfl) hi0 hz0 hz1 hz2 rfl (by decide) base v u l r hrow hu hb hl
  exact Go.Lib.wpList_append_run_sl w hgd s x 80 ho _ _ hs hx h1 (h _ _ h2 h3)
theorem dus_one (W : World) (d : Du) : DusAt (W.alloc (.cells #[.int .i64 d.id, .int .i64 d.day, .int .i64 d.p] 84)) (.slice (some ⟨W.heap.size, 0, none⟩) 1 1) [d] := by
  have hc := Cls.new W 84 #[.int .i64 d.id, .int .i64 d.day, .int .i64 d.p]
  refine ⟨some ⟨W.heap.size, 0, none⟩, 1, rfl, by simp, fun i hi => ?_⟩
  have hi0 : i = 0 := by simpa using hi
  subst hi0
  refine ⟨W.heap.size, 0, rfl, fun r hr => ?_⟩
  match r, hr with
  | 0, _ => exact hc.cell 0
  | 1, _ => exact hc.cell 1
  | 2, _ => exact hc.cell 2
set_option maxRecDepth 100000 in
set_option maxHeartbeats 16000000 in
theorem LevyPurse_any (a b v : Value) (T : Tr) (l : List Du) (day : Int) (w : World) (hT : TrAt w a b T) (hl : DusAt w v l) :
    Calls Try.prog 10 #[.agg #[a, b], v, .int .i64 day] w fun e w' => e = .returned (.bool true) ∧ Ext w w' := by
  obtain ⟨av, cv, rfl, hlv⟩ := dus_len hl
  have K1 := fun W (h : Ext w W) => few_any a b T W (hT.ext h)
  have san : ∀ W1 : World, Ext w W1 → Calls Try.prog 14 #[] W1 fun e w' => e = .returned (.bool true) ∧ Ext w w' := fun W1 h => (sanity_any W1).mono fun e W' ⟨he, hz⟩ => ⟨he, h.trans hz⟩
  have K2 := fun W (h : Ext w W) (hn : T.ps.length ≤ 1000) => Arrears_any a b _ T l day W (hT.ext h) (hl.ext h) hn
  have K3 := fun W (h : Ext w W) (hn : T.ps.length ≤ 1000) => Purse_any a b _ T l day W (hT.ext h) (hl.ext h) hn
  have KE := fun W (h : Ext w W) (hn : T.ps.length ≤ 100000) => everybody_any _ _ T W (hT.ext h) hn
  have KA : duE T l day = 0 → ∀ W, Ext w W → ∀ u, IntsAt W u (evL T.ps) → Calls Try.prog 16 #[.agg #[a, b], u] W fun e w' => e = .returned (.tuple #[.int .i64 (alnE T (fun _ => true)), .int .i64 0]) ∧ Ext W w' := fun hd W h u hu => by
    have hok := (duE_ok hd).1
    have h0 : chkE T = 0 := by
      unfold duE at hd
      split at hd
      · assumption
      · exact hd
    have hg := sub_gr hok (List.Sublist.refl (evL T.ps))
    refine (Alone_any _ _ u T (evL T.ps) W (hT.ext h) hu (by rw [evL_len]; have := hok.lp; omega)).mono ?_
    rw [AlnX_gr h0 hg, ask_gr h0 hg, aln_every]
    exact fun e w' he => he
  have K4 : duE T l day = 0 → ∀ W, Ext w W → ∀ u, DusAt W u (efL day l) → Calls Try.prog 40 #[.agg #[a, b], u, .int .i64 day] W (InsPost W (arX T l day) 0) := fun h0 W h u hu => by
    have := Arrears_any a b u T (efL day l) day W (hT.ext h) hu (by have := (duE_ok h0).1.lp; omega)
    rw [ef_du h0, ef_arX h0] at this
    exact this
  have hfc : duE T l day = 0 → (arX T l day).length ≤ 24 ∧ (∀ x ∈ arX T l day, -214748364800 ≤ x ∧ x ≤ 1073741824) ∧ (0 ≤ puX T l day ∧ puX T l day ≤ 214748364800) ∧ puX T l day + sumI (arX T l day) = alnE T (fun _ => true) := fun h0 => by
    have hk := duE_ok h0
    have h1 := arL_bd hk.1 day l hk.2.2
    have h2 := puL_bd day l hk.2.2
    have h3 := pu_whole h0
    have h4 := hk.2.1
    have h5 := hk.1.lp
    have e1 : arX T l day = arL T day l := by unfold arX; rw [if_pos h0]
    have e2 : puX T l day = puL day l := by unfold puX; rw [if_pos h0]
    refine ⟨by rw [e1, h1.1]; exact h5, fun x hx => ?_, by rw [e2]; omega, h3⟩
    rw [e1] at hx
    have := h1.2 x hx
    omega
  obtain ⟨C, hC⟩ : ∃ C, duE T l day = C := ⟨_, rfl⟩
  obtain ⟨X, hX⟩ : ∃ C, arX T l day = C := ⟨_, rfl⟩
  obtain ⟨M, hM⟩ : ∃ C, puX T l day = C := ⟨_, rfl⟩
  obtain ⟨N, hN⟩ : ∃ C, alnE T (fun _ => true) = C := ⟨_, rfl⟩
  rw [hC, hX] at K2
  rw [hC, hM] at K3
  rw [hC, hN] at KA
  rw [hC, hX] at K4
  rw [hC, hX, hM, hN] at hfc
  obtain ⟨n, hn⟩ : ∃ n, l.length = n := ⟨_, rfl⟩
  have HN := Lib.hid hn
  rw [hn] at hl K2 K3 ⊢
  clear hn
  have H2 := Lib.hid K2
  have H3 := Lib.hid K3
  have HE := Lib.hid KE
  have HA := Lib.hid KA
  have H4 := Lib.hid K4
  have HFC := Lib.hid hfc
  clear K2 K3 KE KA K4 hfc hC hX hM hN
  go_enter Try.func10, Try.ntmps10
  go_wp2_with fail
  refine (K1 _ (by repeat (first | exact Ext.refl _ | assumption | refine Ext.alloc ?_ _ | refine Ext.drew ?_ | refine Ext.drewN _ ?_ | refine Ext.trans ?_ (by assumption)))).mono ?_
  rintro e w1 ⟨F, rfl, hF, hx1⟩
  obtain ⟨q0, hx, hk0⟩ := alloc1 hx1
  have d0 : w1.cell? ⟨w.heap.size, 0, none⟩ = some a := q0.cell 0
  have d1 : w1.cell? ⟨w.heap.size, 1, none⟩ = some b := q0.cell 1
  have HF := Lib.hid hF
  clear hx1 K1 hF q0
  cases F with
  | false =>
    go_wp2_with fail
    refine (san _ hx).mono ?_
    rintro e w99 ⟨rfl, hz⟩
    go_wp2_with fail
    go_ret
    exact ⟨rfl, hz⟩
  | true =>
    by_cases hgn : n ≤ 30
    rotate_left 1
    · have hb : decide ((n : Int) > 30) = true := decide_eq_true (by omega)
      go_wp2_with fail
      refine (san _ hx).mono ?_
      rintro e w99 ⟨rfl, hz⟩
      go_wp2_with fail
      go_ret
      exact ⟨rfl, hz⟩
    have hbn : decide ((n : Int) > 30) = false := decide_eq_false (by omega)
    have hmk := HF.out rfl
    have HM := Lib.hid hmk
    clear hmk
    go_wp2_with fail
    refine (H2.out _ hx (by have := HM.out; omega)).mono ?_
    rintro e w2 ⟨u2, rfl, hu2, hz⟩
    have hx2 := hx.trans hz
    replace d0 := hz.cell d0
    replace d1 := hz.cell d1
    clear hz hx
    obtain ⟨A2, c2, rfl, _⟩ := hu2.len
    go_wp2_with fail
    refine (H3.out _ hx2 (by have := HM.out; omega)).mono ?_
    rintro e w3 ⟨rfl, hz⟩
    have hx3 := hx2.trans hz
    replace d0 := hz.cell d0
    replace d1 := hz.cell d1
    replace hu2 := hu2.ext hz
    clear hz hx2
    have hcc : (C != C) = false := by simp
    by_cases h0 : C = 0
    rotate_left 1
    · have hc : (C != 0) = true := by simpa using h0
      clear h0 hu2
      go_wp2_with fail
      refine (san _ hx3).mono ?_
      rintro e w99 ⟨rfl, hz⟩
      go_wp2_with fail
      go_ret
      exact ⟨rfl, hz⟩
    subst h0
    have hfc := HFC.out rfl
    obtain ⟨hXl, hXb, hMb, hwh⟩ := hfc
    have KA := HA.out rfl
    have K4 := H4.out rfl
    have H1A := Lib.hid KA
    have H14 := Lib.hid K4
    have HXb := Lib.hid hXb
    have HWH := Lib.hid hwh
    clear KA K4 HA H4 HFC hXb hwh
    go_upto_region 9 with fail
    refine wp_region_held_drew (S := fun W' => W'.cell? ⟨w.heap.size, 0, none⟩ = some a ∧ W'.cell? ⟨w.heap.size, 1, none⟩ = some b ∧ Ext w3 W') (by kernel_rfl) ?_ (fun hHeld => ?_)
    · exact ⟨d0, d1, Ext.drew (Ext.refl _)⟩
    (refine wpAnyH_take (i := 0) (v := ?_) rfl (by kernel_rfl) (by kernel_rfl) (by kernel_rfl) (fun _ _ _ h => h) (Or.inl ⟨by rfl, ?_⟩) (by assumption) ?_; rotate_left 1; (focus (intro w hSw; (try dsimp only at hSw); go_simp; try (with_reducible rfl))))
    try simp only [Act.put, List.getElem_toArray, List.getElem_cons_zero, List.setIfInBounds_toArray, List.set_cons_zero, List.set_cons_succ]
    (refine wpAnyH_take (i := 1) (v := ?_) rfl (by kernel_rfl) (by kernel_rfl) (by kernel_rfl) (fun _ _ _ h => h) (Or.inl ⟨by rfl, ?_⟩) (by assumption) ?_; rotate_left 1; (focus (intro w hSw; (try dsimp only at hSw); go_simp; try (with_reducible rfl))))
    try simp only [Act.put, List.getElem_toArray, List.getElem_cons_zero, List.getElem_cons_succ, List.setIfInBounds_toArray, List.set_cons_zero, List.set_cons_succ]
    refine wpAnyH_ready (rs := [2]) (by kernel_rfl) (by simp) ?_
    refine AllReadyH.cons rfl (fun K hK => ?_) AllReadyH.nil
    obtain ⟨V0, hV0⟩ : ∃ V, w3.drew = V := ⟨_, rfl⟩
    rw [hV0] at hHeld ⊢
    clear hV0
    go_simp
    go_at_call 17; refine (HE.out _ (hx3.trans hHeld.2.2) (by have := HM.out; omega)).mono ?_; rintro e V1 ⟨u, rfl, hru, hz⟩
    have hu := hru.at_
    obtain ⟨uA, uc, rfl⟩ := hru.form
    clear hru
    refine hK.out _ _ ?_ (fun hHeld => ?_)
    · exact ⟨Ext.cell hz hHeld.1, Ext.cell hz hHeld.2.1, hHeld.2.2.trans hz⟩
    clear hK K
    clear hz
    try simp only [Act.put, List.getElem_toArray, List.getElem_cons_zero, List.getElem_cons_succ, List.setIfInBounds_toArray, List.set_cons_zero, List.set_cons_succ]
    refine wpAnyH_ready (rs := [3]) (by kernel_rfl) (by simp) ?_
    refine AllReadyH.cons rfl (fun K hK => ?_) AllReadyH.nil
    go_simp
    go_at_call 16; refine (H1A.out _ (hx3.trans hHeld.2.2) _ hu).mono ?_; rintro e V2 ⟨rfl, hz⟩
    refine hK.out _ _ ?_ (fun hHeld => ?_)
    · exact ⟨Ext.cell hz hHeld.1, Ext.cell hz hHeld.2.1, hHeld.2.2.trans hz⟩
    clear hK K
    clear hz hu
    try simp only [Act.put, List.getElem_toArray, List.getElem_cons_zero, List.getElem_cons_succ, List.setIfInBounds_toArray, List.set_cons_zero, List.set_cons_succ]
    (refine wpAnyH_take (i := 4) (v := ?_) rfl (by kernel_rfl) (by kernel_rfl) (by kernel_rfl) (fun _ _ _ h => h) (Or.inl ⟨by rfl, ?_⟩) (by assumption) ?_; rotate_left 1; (focus (intro w hSw; (try dsimp only at hSw); go_simp; try (with_reducible rfl))))
    try simp only [Act.put, List.getElem_toArray, List.getElem_cons_zero, List.getElem_cons_succ, List.setIfInBounds_toArray, List.set_cons_zero, List.set_cons_succ]
    (refine wpAnyH_take (i := 5) (v := ?_) rfl (by kernel_rfl) (by kernel_rfl) (by kernel_rfl) (fun _ _ _ h => h) (Or.inl ⟨by rfl, ?_⟩) (by assumption) ?_; rotate_left 1; (focus (intro w hSw; (try dsimp only at hSw); go_simp; try (with_reducible rfl))))
    try simp only [Act.put, List.getElem_toArray, List.getElem_cons_zero, List.getElem_cons_succ, List.setIfInBounds_toArray, List.set_cons_zero, List.set_cons_succ]
    (refine wpAnyH_take (i := 6) (v := ?_) rfl (by kernel_rfl) (by kernel_rfl) (by kernel_rfl) (fun _ _ _ h => h) (Or.inl ⟨by rfl, ?_⟩) (by assumption) ?_; rotate_left 1; (focus (intro w hSw; (try dsimp only at hSw); go_simp; try (with_reducible rfl))))
    try simp only [Act.put, List.getElem_toArray, List.getElem_cons_zero, List.getElem_cons_succ, List.setIfInBounds_toArray, List.set_cons_zero, List.set_cons_succ]
    (refine wpAnyH_take (i := 7) (v := ?_) rfl (by kernel_rfl) (by kernel_rfl) (by kernel_rfl) (fun _ _ _ h => h) (Or.inl ⟨by rfl, ?_⟩) (by assumption) ?_; rotate_left 1; (focus (intro w hSw; (try dsimp only at hSw); go_simp; try (with_reducible rfl))))
    try simp only [Act.put, List.getElem_toArray, List.getElem_cons_zero, List.getElem_cons_succ, List.setIfInBounds_toArray, List.set_cons_zero, List.set_cons_succ]
    (refine wpAnyH_take (i := 8) (v := ?_) rfl (by kernel_rfl) (by kernel_rfl) (by kernel_rfl) (fun _ _ _ h => h) (Or.inl ⟨by rfl, ?_⟩) (by assumption) ?_; rotate_left 1; (focus (intro w hSw; (try dsimp only at hSw); go_simp; try (with_reducible rfl))))
    try simp only [Act.put, List.getElem_toArray, List.getElem_cons_zero, List.getElem_cons_succ, List.setIfInBounds_toArray, List.set_cons_zero, List.set_cons_succ]
    refine wpAnyH_done (by kernel_rfl) ?_ _
    obtain ⟨w4, hw4⟩ : ∃ V, V2 = V := ⟨_, rfl⟩
    rw [hw4] at hHeld ⊢
    have d0 := hHeld.1
    have d1 := hHeld.2.1
    have hx4 := hx3.trans hHeld.2.2
    replace hu2 := hu2.ext hHeld.2.2
    clear hw4 hx3 hHeld
    go_upto_region 12 with fail
    go_loopw [13, 14] (fun o i wr => ∃ k : Nat, k ≤ n ∧ i = .int .i64 k ∧ Hid (RowK 84 fD 3 w4.heap.size o (efL day (l.take k)) wr) ∧ Ext w4 wr) (fun _ i _ => n - (intOf i).toNat)
    case atStart => exact ⟨0, Nat.zero_le _, rfl, Lib.hid (RowK.nil _ _ _ _ _), Ext.refl _⟩
    case round =>
      obtain ⟨k, hk, rfl, HR, hxr⟩ := hrel
      replace d0 := hxr.cell d0
      replace d1 := hxr.cell d1
      replace hu2 := hu2.ext hxr
      have hxc := hx4.trans hxr
      by_cases hlt : k < n
      · have hkl : k < l.length := by rw [HN.out]; exact hlt
        obtain ⟨b1, o1, rfl, c0, c1, c2⟩ := dus_get (hl.ext hxc) k hkl
        have hki : (k : Int) < (n : Int) := by omega
        have hs := efL_snoc day (l.take k) l[k]
        rw [← take_succ_get _ _ hkl] at hs
        have hel := efL_len day (l.take k)
        have hel2 : (efL day (l.take k)).length ≤ 30 := Nat.le_trans hel (by simp; omega)
        obtain ⟨e1, he1⟩ : ∃ x, efL day (l.take k) = x := ⟨_, rfl⟩
        rw [he1] at hs HR hel2
        obtain ⟨dd, hdd⟩ : ∃ x, l[k] = x := ⟨_, rfl⟩
        rw [hdd] at c0 c1 c2 hs
        obtain ⟨x, y, zz⟩ := dd
        have c0' : wr.cell? ⟨b1, o1 + k * 3, none⟩ = some (.int .i64 x) := c0
        have c1' : wr.cell? ⟨b1, o1 + k * 3 + 1, none⟩ = some (.int .i64 y) := c1
        have c2' : wr.cell? ⟨b1, o1 + k * 3 + 2, none⟩ = some (.int .i64 zz) := c2
        have hs' : efL day (l.take (k + 1)) = if y ≤ day then e1 ++ [⟨x, y, zz⟩] else e1 := hs
        have HS := Lib.hid hs'
        have hR := HR.out
        obtain ⟨ao, co, rfl⟩ := hR.form
        clear hs hs' hel he1 hdd c0 c1 c2 HR
        by_cases hyd : y ≤ day
        · have hb : decide (y ≤ day) = true := decide_eq_true hyd
          have hs := HS.out
          rw [if_pos hyd] at hs
          have HS2 := Lib.hid hs
          clear hs HS hyd
          have hR6 := hR
          go_wp2_with (at_builtin; refine append_dus rfl _ _ rfl w4.heap.size _ _ e1 [⟨x, y, zz⟩] rfl (hR6.ext (by repeat (first | exact Ext.refl _ | assumption | refine Ext.alloc ?_ _ | refine Ext.drew ?_ | refine Ext.drewN _ ?_ | refine Ext.trans ?_ (by assumption)))) rfl (dus_one _ ⟨x, y, zz⟩) (Nat.le_trans hxr.size (by simp)) (by simp; omega) ?_; intro v1 w5 hr5 hg5; have hx5 := ext_own hxr hR6 (Nat.le_refl _) (grown_pre hg5); clear hg5)
          go_roundw
          case rel => exact ⟨k + 1, by omega, by go_num, Lib.hid (by rw [HS2.out]; exact hr5), hx5⟩
          case measure => simp [intOf]; omega
        · have hb : decide (y ≤ day) = false := decide_eq_false hyd
          have hs := HS.out
          rw [if_neg hyd] at hs
          have HS2 := Lib.hid hs
          clear hs HS hyd
          go_wp2_with fail
          go_roundw
          case rel => exact ⟨k + 1, by omega, by go_num, Lib.hid (by rw [HS2.out]; exact hR), hxr⟩
          case measure => simp [intOf]; omega
      · obtain rfl : k = n := by omega
        have hR := HR.out
        rw [show l.take k = l from List.take_of_length_le (by rw [HN.out]; omega)] at hR
        have hde : DusAt wr _ (efL day l) := RowK.at_ (f := fD) (k := 3) (fun _ => rfl) hR
        obtain ⟨ao, co, rfl⟩ := hR.form
        clear hR HR
        go_wp2_with fail
        refine (H14.out _ hxc _ hde).mono ?_
        rintro e w31 ⟨u31, rfl, hu31, hz⟩
        have hx31 := hxc.trans hz
        replace d0 := hz.cell d0
        replace d1 := hz.cell d1
        replace hu2 := hu2.ext hz
        clear hz hxc
        obtain ⟨A31, c31, rfl, _⟩ := hu31.len
        clear hde
        go_upto_region 19 with fail
        go_loopw [17, 18] (fun sm i wq => ∃ j : Nat, j ≤ X.length ∧ sm = .int .i64 (M + sumI (X.take j)) ∧ i = .int .i64 j ∧ Ext w31 wq) (fun _ i _ => X.length - (intOf i).toNat)
        case atStart => exact ⟨0, Nat.zero_le _, vint (by show M = M + 0; omega), rfl, Ext.refl _⟩
        case round =>
          obtain ⟨j, hj, rfl, rfl, hxq⟩ := hrel
          replace hu2 := hu2.ext hxq
          replace hu31 := hu31.ext hxq
          replace hx31 := hx31.trans hxq
          by_cases hlj : j < X.length
          · obtain ⟨b1, o1, rfl, c0⟩ := hu2.get j hlj
            have hbx := HXb.out _ (List.getElem_mem hlj)
            have hs := sumI_snoc (X.take j) X[j]
            rw [← take_succ_get _ _ hlj] at hs
            have hsb := sumI_rng (l := X.take j) (fun n hn => HXb.out n (List.mem_of_mem_take hn))
            have h2 : (X.take j).length ≤ 24 := by simp; omega
            obtain ⟨x, hxx⟩ : ∃ x, X[j] = x := ⟨_, rfl⟩
            rw [hxx] at hbx c0 hs
            obtain ⟨sm, hss⟩ : ∃ s, sumI (X.take j) = s := ⟨_, rfl⟩
            rw [hss] at hs hsb ⊢
            have hw1 : IntKind.i64.wrap (M + sm + x) = M + sm + x := IntWalk.i64_in _ (by omega)
            have hji : (j : Int) < (X.length : Int) := by omega
            have HS := Lib.hid hs
            clear hs hsb h2 hss hxx hbx
            go_wp2_with fail
            go_roundw
            case rel => exact ⟨j + 1, by omega, vint (by rw [HS.out]; omega), by go_num, hxq⟩
            case measure => simp [intOf]; omega
          · obtain rfl : j = X.length := by omega
            rw [show X.take X.length = X from List.take_length, HWH.out]
            have hnn : (N == N) = true := by simp
            have KS := Lib.hid (fun W (h : Ext wr W) => refSame_any _ _ X X W (hu2.ext h) (hu31.ext h) (by omega))
            clear hu2 hu31 HE H2 H3 H14 H1A HXb HWH d0 d1
            go_wp2_with fail
            refine (sanity_any _).mono ?_
            rintro e w98 ⟨rfl, hz⟩
            go_wp2_with fail
            refine (KS.out _ hz).mono ?_
            rintro e w99 ⟨rfl, hz2⟩
            have hdd : decide (X = X) = true := by simp
            go_wp2_with fail
            go_ret
            exact ⟨ret_bool (by simp), hx31.trans (hz.trans hz2)⟩
end Go.Proofs.Ythopgonbndoidaa
namespace Go.Proofs.Ythopgonbndoidaa.levyPurse
open Go.ChangeShapes Go.WideShapes Go.ChangeAt Go.RowKit Go.Deep Go.Joins

noncomputable def wArgs : Array Value := #[.agg #[.slice none 0 0, .slice none 0 0], .slice none 0 0, .int .i64 0]
noncomputable def laidWorld (os : Os) : World := World.holding Try.prog os ⟨#[], #[], []⟩

set_option maxRecDepth 100000 in
theorem contract (H : Type) (enc : TypeId × Value → H) (W : World) (base : Nat) (args : Array Value) (ds gs : List (DataW H)) (before : List MemPlace)
    (hval : ∀ (j : Nat) t v, Try.f10.params[j]? = some t → args[j]? = some v → Value.okWide Try.prog W .any base t v)
    (hW : DataW.Whole enc Try.prog Try.f10.params.toList Rows.levyPurseSpec.vars false W args.toList ds gs before) :
    Calls Try.prog 10 args W fun e W' => ∃ v, e = .returned v ∧ Rows.levyPurseSpec.post enc Try.prog Try.f10 false true false false W args v W' := by
  have hW' := hW
  obtain ⟨p, q, hA, hV, rfl, hfz, hnd⟩ := hW
  rw [show Try.f10.params = #[25, 80, 3] from rfl] at hA hval
  obtain ⟨v0, vs0, d0, ds0, p0, q0, hargs, rfl, rfl, h0, r0⟩ := trodAll_cons hA
  obtain ⟨v1, vs1, d1, ds1, p1, q1, rfl, rfl, rfl, h1, r1⟩ := trodAll_cons r0
  obtain ⟨v2, vs2, d2, ds2, p2, q2, rfl, rfl, rfl, h2, r2⟩ := trodAll_cons r1
  obtain ⟨rfl, rfl, rfl⟩ := trodAll_nil r2
  obtain rfl : args = #[v0, v1, v2] := by cases args; simp_all
  obtain ⟨rfl, rfl⟩ := trodVars_none hV
  obtain ⟨a0, b0, T0, rfl, hT0⟩ := open_tree (hval 0 25 v0 rfl rfl) h0
  obtain ⟨L1, hL1⟩ := open_dus' (hval 1 80 v1 rfl rfl) h1
  obtain ⟨x2, rfl, _, _, hf2⟩ := open_int Try.underlying3 (hval 2 3 v2 rfl rfl) h2
  refine (LevyPurse_any _ _ _ T0 L1 x2 W hT0 hL1).mono fun e W' ⟨he, hg⟩ => ?_
  subst he
  refine ⟨_, rfl, post_true hW' rfl rfl ⟨rfl, rfl, rfl⟩ ?_ hg⟩
  rw [show Try.f10.params = #[25, 80, 3] from rfl]
  intro t ht
  simp only [List.mem_cons, List.not_mem_nil, or_false] at ht
  rcases ht with rfl | rfl | rfl <;> exact ⟨by kernel_rfl, of_decide_eq_true (by kernel_rfl)⟩

set_option maxRecDepth 100000 in
theorem laid_met (os : Os) : laidMet Try.prog Rows.levyPurseRow.laid ((laidWorld os).forCall (fun _ _ => 0) ⟨#[], wArgs, []⟩).memory :=
  laidMet_of_run' 8 (by kernel_rfl) (by kernel_rfl)
set_option maxRecDepth 100000 in
theorem reads (os : Os) {H : Type} (enc : TypeId × Value → H) : ∃ x places, DataW.whole enc Try.prog ((laidWorld os).forCall (fun _ _ => 0) ⟨#[], wArgs, []⟩).memory Try.f10.params.toList Rows.levyPurseSpec.vars false wArgs.toList 8 = some (x, [], places) :=
  ⟨[.agg [.nil, .nil], .nil, .lit (.int .i64 0)], [], by kernel_rfl⟩

set_option maxRecDepth 100000 in
theorem lifted (os : Os) (started : os.Started) (H : Type) (enc : TypeId × Value → H) (F : Stop.Interp) :
    ReturnsInHanded {} Try.checked os 10 .any ((OpenSpec.ofChange Rows.levyPurseSpec).preRow enc Try.prog Try.f10 Rows.levyPurseRow.domain false Rows.levyPurseRow.laid) (((OpenSpec.ofChange Rows.levyPurseSpec).at F).post enc Try.prog Try.f10 false true false false) := by
  obtain ⟨x, places, hx⟩ := reads os enc
  refine returnsInHanded_of_row (C := Try.checked) (s := OpenSpec.ofChange Rows.levyPurseSpec) own started (by kernel_rfl) Try.func10
    (witness_row_at (enc := enc) (C := Try.checked) false (laidWorld os) wArgs rfl (by kernel_rfl) (by kernel_rfl) (by kernel_rfl)
      (OpenSpec.preRow_of_cond 8 hx (by kernel_rfl) (fun k hk => by cases hk) (by kernel_rfl) (laid_met os))) ?_
  intro W base args ds gs before hval hW _ _ _ hL _ _
  exact contract H enc W base args ds gs before hval hW

set_option maxRecDepth 100000 in
theorem said : Rows.LevyPurseSaid :=
  OpenClaim.holds_of_cond 10 Try.f10 rfl rfl rfl rfl rfl rfl rfl ⟨rfl, rfl, rfl, rfl, rfl⟩ rfl rfl rfl rfl rfl (by kernel_rfl) Try.func10 (by kernel_rfl)
    (of_decide_eq_true (by kernel_rfl)) (by unfold Func.isWrapper; first | (rw [if_pos (by decide +kernel)]; kernel_rfl) | (rw [if_neg (by decide +kernel)]; exact ⟨rfl, rfl⟩))
    (fun os started H enc _ F => by rw [OpenClaim.pre_eq_preRow]; exact lifted os started H enc F)
end Go.Proofs.Ythopgonbndoidaa.levyPurse

