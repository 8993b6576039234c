/- LevyWhole: true whatever the tree and the number. -/
import Derived.Test.YthopgonbndoidaaVHas
import Derived.Test.YthopgonbndoidaaVWhP
namespace Go.Proofs.Ythopgonbndoidaa
open Go.RowKit Go.Shelf

set_option maxRecDepth 100000 in
set_option maxHeartbeats 16000000 in
theorem LevyWhole_any (a b : Value) (T : Tr) (z : Int) (w : World) (hT : TrAt w a b T) (hz0 : 0 ≤ z ∧ z ≤ 255) :
    Calls Try.prog 3 #[.agg #[a, b], .int .u8 z] w fun e w' => e = .returned (.bool true) ∧ Ext w w' := by
  obtain ⟨aa, ca, rfl, hla⟩ := hT.r.len
  obtain ⟨ab, cb, rfl, hlb⟩ := hT.p.len
  have K1 := fun W (h : Ext w W) => few_any _ _ T W (hT.ext h)
  have san : ∀ W1 : World, Ext w W1 → Calls Try.prog 14 #[] W1 fun e w' => e = .returned (.bool true) ∧ Ext w w' := fun W1 h => (sanity_any W1).mono fun e W' ⟨he, hz⟩ => ⟨he, h.trans hz⟩
  have K2 := fun W (h : Ext w W) (hn : T.rs.length ≤ 1000 ∧ T.ps.length ≤ 1000) => Shares_any _ _ T W (hT.ext h) hn
  have KE := fun W (h : Ext w W) (hn : T.ps.length ≤ 100000) => everybody_any _ _ T W (hT.ext h) hn
  have KA : chkE T = 0 → ∀ W, Ext w W → ∀ u, IntsAt W u (evL T.ps) → Calls Try.prog 16 #[.agg #[.slice aa T.rs.length ca, .slice ab T.ps.length cb], u] W fun e w' => e = .returned (.tuple #[.int .i64 (alnE T (fun _ => true)), .int .i64 0]) ∧ Ext W w' := fun h0 W h u hu => by
    have hok := Ok.of h0
    have hg := sub_gr hok (List.Sublist.refl (evL T.ps))
    refine (Alone_any _ _ u T (evL T.ps) W (hT.ext h) hu (by rw [evL_len]; have := hok.lp; omega)).mono ?_
    rw [AlnX_gr h0 hg, ask_gr h0 hg, aln_every]
    exact fun e w' he => he
  have KP : chkE T = 0 → ∀ W, Ext w W → Calls Try.prog 19 #[.agg #[.slice aa T.rs.length ca, .slice ab T.ps.length cb]] W (InsPost W (pnX T) 0) := fun h0 W h => by
    have := Pence_any _ _ T W (hT.ext h)
    unfold penX at this
    rw [if_pos h0, h0] at this
    exact this
  have KI : chkE T = 0 → ∀ i (hi : i < T.ps.length), ∀ W, Ext w W → Calls Try.prog 21 #[.agg #[.slice aa T.rs.length ca, .slice ab T.ps.length cb], .int .i64 T.ps[i].id] W (RasPost W ((pcN T T.ps[i]).map ratM) 0) := fun h0 i hi W h => by
    have hok := Ok.of h0
    have hs : sngE T T.ps[i].id = 0 := by unfold sngE; rw [if_pos h0, fnd_own hok hi, if_neg (by omega)]
    have := Pieces_any _ _ T T.ps[i].id W (hT.ext h) (by have := hok.lp; omega)
    unfold pieX at this
    rw [hs, if_pos rfl, fnd_own hok hi] at this
    unfold pyAt at this
    rw [Int.toNat_natCast, ps_get hi, pie_map hok (List.getElem_mem hi)] at this
    exact this
  have KU : chkE T = 0 → ∀ i (hi : i < T.ps.length), ∀ W u, RasAt W u ((pcN T T.ps[i]).map ratM) → Calls Try.prog 18 #[u] W fun e w' => e = .returned (.tuple #[.int .i64 ((shN T).getD i 0), .bool true]) ∧ Ext W w' := fun h0 i hi W u hu => by
    have hok := Ok.of h0
    have := lsum_any u (pcN T T.ps[i]) W hu (pcN_bd hok (List.getElem_mem hi)) (by rw [pcN_len]; have := hok.lr; omega)
    rw [pcN_sum' hok hi] at this
    exact this
  have KS : chkE T = 0 → ∀ W u, RasAt W u ((shN T).map ratM) → Calls Try.prog 18 #[u] W fun e w' => e = .returned (.tuple #[.int .i64 (alnE T (fun _ => true) * 5354228880), .bool true]) ∧ Ext W w' := fun h0 W u hu => by
    have hok := Ok.of h0
    have := lsum_any u (shN T) W hu (shN_bd hok) (by rw [shN_len]; have := hok.lp; omega)
    rw [shN_sum hok] at this
    exact this
  have hX : chkE T = 0 → shaX T = (shN T).map ratM := fun h0 => by unfold shaX; rw [if_pos h0, shL_map]
  have hfc : chkE T = 0 → (T.rs.length ≤ 24 ∧ T.ps.length ≤ 24) ∧ (pnX T).length = T.ps.length ∧ (∀ x ∈ pnX T, 0 ≤ x ∧ x ≤ 1073741824) ∧ (shN T).length = T.ps.length ∧ (∀ x ∈ shN T, 0 ≤ x ∧ x ≤ 8421473853112320) ∧ sumI (pnX T) = alnE T (fun _ => true) ∧ (0 ≤ alnE T (fun _ => true) ∧ alnE T (fun _ => true) ≤ 1572864) ∧
      (∀ i, i < T.ps.length → (pnX T).getD i 0 * 5354228880 - (shN T).getD i 0 < 5354228880 ∧ (shN T).getD i 0 - (pnX T).getD i 0 * 5354228880 < 5354228880) ∧ (∀ i (h : i < T.ps.length), ((pcN T T.ps[i]).map ratM).length = T.rs.length) := fun h0 => by
    have hok := Ok.of h0
    have hp := pnX_bd hok
    exact ⟨⟨hok.lr, hok.lp⟩, hp.1, hp.2, shN_len T, shN_bd hok, (pnX_fair hok).2.1, alnE_bd hok _, fun i h => pn_near' hok h, fun i h => by rw [List.length_map, pcN_len]⟩
  obtain ⟨C, hC⟩ : ∃ C, chkE T = C := ⟨_, rfl⟩
  obtain ⟨X, hXX⟩ : ∃ C, shaX T = C := ⟨_, rfl⟩
  obtain ⟨S, hS⟩ : ∃ C, shN T = C := ⟨_, rfl⟩
  obtain ⟨P, hP⟩ : ∃ C, pnX T = C := ⟨_, rfl⟩
  obtain ⟨N, hN⟩ : ∃ C, alnE T (fun _ => true) = C := ⟨_, rfl⟩
  rw [hC, hXX] at K2
  rw [hC, hN] at KA
  rw [hC, hP] at KP
  rw [hC] at KI
  rw [hC, hS] at KU
  rw [hC, hS, hN] at KS
  rw [hC, hXX, hS] at hX
  rw [hC, hS, hP, hN] at hfc
  have H2 := Lib.hid K2
  have HE := Lib.hid KE
  have HA := Lib.hid KA
  have HP := Lib.hid KP
  have HI := Lib.hid KI
  have HU := Lib.hid KU
  have HS := Lib.hid KS
  have HX := Lib.hid hX
  have HFC := Lib.hid hfc
  clear K2 KE KA KP KI KU KS hX hfc hC hXX hS hP hN
  go_enter Try.func3, Try.ntmps3
  go_wp2_with fail
  refine (K1 _ (by repeat (first | exact Ext.refl _ | assumption | refine Ext.alloc ?_ _ | refine Ext.drew ?_ | refine Ext.drewN _ ?_ | refine Ext.trans ?_ (by assumption)))).mono ?_
  rintro e w1 ⟨F, rfl, hF, hx1⟩
  obtain ⟨q0, hx, hk0⟩ := alloc1 hx1
  have d0 : w1.cell? ⟨w.heap.size, 0, none⟩ = some (.slice aa T.rs.length ca) := q0.cell 0
  have d1 : w1.cell? ⟨w.heap.size, 1, none⟩ = some (.slice ab T.ps.length cb) := q0.cell 1
  have HF := Lib.hid hF
  clear hx1 K1 hF q0
  cases F with
  | false =>
    go_wp2_with fail
    refine (san _ hx).mono ?_
    rintro e w99 ⟨rfl, hz⟩
    go_wp2_with fail
    go_ret
    exact ⟨rfl, hz⟩
  | true =>
    have hmk := HF.out rfl
    have HM := Lib.hid hmk
    clear hmk
    go_wp2_with fail
    refine (H2.out _ hx (by have := HM.out; omega)).mono ?_
    rintro e w2 ⟨u2, rfl, hu2, hz⟩
    have hx2 := hx.trans hz
    replace d0 := hz.cell d0
    replace d1 := hz.cell d1
    clear hz hx
    by_cases h0 : C = 0
    rotate_left 1
    · have hc : (C != 0) = true := by simpa using h0
      obtain ⟨A3, c3, rfl, _⟩ := hu2.len
      clear h0 hu2
      go_wp2_with fail
      refine (san _ hx2).mono ?_
      rintro e w99 ⟨rfl, hz⟩
      go_wp2_with fail
      go_ret
      exact ⟨rfl, hz⟩
    subst h0
    have hxs := HX.out rfl
    subst hxs
    have hfc := HFC.out rfl
    obtain ⟨⟨hrl, hpl⟩, hPl, hPb, hSl, hSb, hsm, hNb, hnr, hpc⟩ := hfc
    have hSl2 : (S.map ratM).length = T.ps.length := by rw [List.length_map, hSl]
    obtain ⟨A3, c3, rfl, _⟩ := hu2.len
    rw [hSl2] at hu2 ⊢
    have KA := HA.out rfl
    have KP := HP.out rfl
    have KS := HS.out rfl
    have H1A := Lib.hid KA
    have H1P := Lib.hid KP
    have H1S := Lib.hid KS
    have H1I := Lib.hid (HI.out rfl)
    have H1U := Lib.hid (HU.out rfl)
    have HPl := Lib.hid hPl
    have HPb := Lib.hid hPb
    have HSl := Lib.hid hSl
    have HSb := Lib.hid hSb
    have Hsm := Lib.hid hsm
    have Hnr := Lib.hid hnr
    have Hpc := Lib.hid hpc
    have hNw : IntKind.i64.wrap (N * 5354228880) = N * 5354228880 := IntWalk.i64_in _ (by omega)
    clear KA KP KS HA HP HS HI HU HX HFC hPl hPb hSl hSb hsm hnr hpc hSl2
    go_upto_region 6 with fail
    refine wp_region_held_drew (S := fun W' => W'.cell? ⟨w.heap.size, 0, none⟩ = some (.slice aa T.rs.length ca) ∧ W'.cell? ⟨w.heap.size, 1, none⟩ = some (.slice ab T.ps.length cb) ∧ Ext w2 W') (by kernel_rfl) ?_ (fun hHeld => ?_)
    · exact ⟨d0, d1, Ext.drew (Ext.refl _)⟩
    (refine wpAnyH_take (i := 0) (v := ?_) rfl (by kernel_rfl) (by kernel_rfl) (by kernel_rfl) (fun _ _ _ h => h) (Or.inl ⟨by rfl, ?_⟩) (by assumption) ?_; rotate_left 1; (focus (intro w hSw; (try dsimp only at hSw); go_simp; try (with_reducible rfl))))
    try simp only [Act.put, List.getElem_toArray, List.getElem_cons_zero, List.setIfInBounds_toArray, List.set_cons_zero, List.set_cons_succ]
    (refine wpAnyH_take (i := 1) (v := ?_) rfl (by kernel_rfl) (by kernel_rfl) (by kernel_rfl) (fun _ _ _ h => h) (Or.inl ⟨by rfl, ?_⟩) (by assumption) ?_; rotate_left 1; (focus (intro w hSw; (try dsimp only at hSw); go_simp; try (with_reducible rfl))))
    try simp only [Act.put, List.getElem_toArray, List.getElem_cons_zero, List.getElem_cons_succ, List.setIfInBounds_toArray, List.set_cons_zero, List.set_cons_succ]
    refine wpAnyH_ready (rs := [2]) (by kernel_rfl) (by simp) ?_
    refine AllReadyH.cons rfl (fun K hK => ?_) AllReadyH.nil
    obtain ⟨V0, hV0⟩ : ∃ V, w2.drew = V := ⟨_, rfl⟩
    rw [hV0] at hHeld ⊢
    clear hV0
    go_simp
    go_at_call 17; refine (HE.out _ (hx2.trans hHeld.2.2) (by omega)).mono ?_; rintro e V1 ⟨u, rfl, hru, hz⟩
    have hu := hru.at_
    obtain ⟨uA, uc, rfl⟩ := hru.form
    clear hru
    refine hK.out _ _ ?_ (fun hHeld => ?_)
    · exact ⟨Ext.cell hz hHeld.1, Ext.cell hz hHeld.2.1, hHeld.2.2.trans hz⟩
    clear hK K
    clear hz
    try simp only [Act.put, List.getElem_toArray, List.getElem_cons_zero, List.getElem_cons_succ, List.setIfInBounds_toArray, List.set_cons_zero, List.set_cons_succ]
    refine wpAnyH_ready (rs := [3]) (by kernel_rfl) (by simp) ?_
    refine AllReadyH.cons rfl (fun K hK => ?_) AllReadyH.nil
    go_simp
    go_at_call 16; refine (H1A.out _ (hx2.trans hHeld.2.2) _ hu).mono ?_; rintro e V2 ⟨rfl, hz⟩
    refine hK.out _ _ ?_ (fun hHeld => ?_)
    · exact ⟨Ext.cell hz hHeld.1, Ext.cell hz hHeld.2.1, hHeld.2.2.trans hz⟩
    clear hK K
    clear hz hu
    try simp only [Act.put, List.getElem_toArray, List.getElem_cons_zero, List.getElem_cons_succ, List.setIfInBounds_toArray, List.set_cons_zero, List.set_cons_succ]
    (refine wpAnyH_take (i := 4) (v := ?_) rfl (by kernel_rfl) (by kernel_rfl) (by kernel_rfl) (fun _ _ _ h => h) (Or.inl ⟨by rfl, ?_⟩) (by assumption) ?_; rotate_left 1; (focus (intro w hSw; (try dsimp only at hSw); go_simp; try (with_reducible rfl))))
    try simp only [Act.put, List.getElem_toArray, List.getElem_cons_zero, List.getElem_cons_succ, List.setIfInBounds_toArray, List.set_cons_zero, List.set_cons_succ]
    (refine wpAnyH_take (i := 5) (v := ?_) rfl (by kernel_rfl) (by kernel_rfl) (by kernel_rfl) (fun _ _ _ h => h) (Or.inl ⟨by rfl, ?_⟩) (by assumption) ?_; rotate_left 1; (focus (intro w hSw; (try dsimp only at hSw); go_simp; try (with_reducible rfl))))
    try simp only [Act.put, List.getElem_toArray, List.getElem_cons_zero, List.getElem_cons_succ, List.setIfInBounds_toArray, List.set_cons_zero, List.set_cons_succ]
    (refine wpAnyH_take (i := 6) (v := ?_) rfl (by kernel_rfl) (by kernel_rfl) (by kernel_rfl) (fun _ _ _ h => h) (Or.inl ⟨by rfl, ?_⟩) (by assumption) ?_; rotate_left 1; (focus (intro w hSw; (try dsimp only at hSw); go_simp; try (with_reducible rfl))))
    try simp only [Act.put, List.getElem_toArray, List.getElem_cons_zero, List.getElem_cons_succ, List.setIfInBounds_toArray, List.set_cons_zero, List.set_cons_succ]
    (refine wpAnyH_take (i := 7) (v := ?_) rfl (by kernel_rfl) (by kernel_rfl) (by kernel_rfl) (fun _ _ _ h => h) (Or.inl ⟨by rfl, ?_⟩) (by assumption) ?_; rotate_left 1; (focus (intro w hSw; (try dsimp only at hSw); go_simp; try (with_reducible rfl))))
    try simp only [Act.put, List.getElem_toArray, List.getElem_cons_zero, List.getElem_cons_succ, List.setIfInBounds_toArray, List.set_cons_zero, List.set_cons_succ]
    (refine wpAnyH_take (i := 8) (v := ?_) rfl (by kernel_rfl) (by kernel_rfl) (by kernel_rfl) (fun _ _ _ h => h) (Or.inl ⟨by rfl, ?_⟩) (by assumption) ?_; rotate_left 1; (focus (intro w hSw; (try dsimp only at hSw); go_simp; try (with_reducible rfl))))
    try simp only [Act.put, List.getElem_toArray, List.getElem_cons_zero, List.getElem_cons_succ, List.setIfInBounds_toArray, List.set_cons_zero, List.set_cons_succ]
    refine wpAnyH_done (by kernel_rfl) ?_ _
    obtain ⟨w4, hw4⟩ : ∃ V, V2 = V := ⟨_, rfl⟩
    rw [hw4] at hHeld ⊢
    have d0 := hHeld.1
    have d1 := hHeld.2.1
    have hx4 := hx2.trans hHeld.2.2
    replace hu2 := hu2.ext hHeld.2.2
    clear hw4 hx2 hHeld
    go_wp2_with fail
    refine (H1S.out _ _ hu2).mono ?_
    rintro e w5 ⟨rfl, hz⟩
    have hx5 := hx4.trans hz
    replace d0 := hz.cell d0
    replace d1 := hz.cell d1
    replace hu2 := hu2.ext hz
    clear hz hx4
    go_wp2_with fail
    refine (H1P.out _ hx5).mono ?_
    rintro e w6 ⟨u6, rfl, hu6, hz⟩
    have hx6 := hx5.trans hz
    replace d0 := hz.cell d0
    replace d1 := hz.cell d1
    replace hu2 := hu2.ext hz
    clear hz hx5
    obtain ⟨A6, c6, rfl, _⟩ := hu6.len
    rw [HPl.out] at hu6 ⊢
    have hd1 : (N * 5354228880 != N * 5354228880) = false := by simp
    have hd2 : ((T.ps.length : Int) != (T.ps.length : Int)) = false := by simp
    go_upto_region 13 with fail
    clear hd1 hd2 hNw
    go_loopw [13, 14] (fun sm i wr => ∃ k : Nat, k ≤ T.ps.length ∧ sm = .int .i64 (sumI (P.take k)) ∧ i = .int .i64 k ∧ Ext w6 wr) (fun _ i _ => T.ps.length - (intOf i).toNat)
    case atStart => exact ⟨0, Nat.zero_le _, rfl, rfl, Ext.refl _⟩
    case round =>
      obtain ⟨k, hk, rfl, rfl, hxr⟩ := hrel
      replace d0 := hxr.cell d0
      replace d1 := hxr.cell d1
      replace hu2 := hu2.ext hxr
      replace hu6 := hu6.ext hxr
      replace hx6 := hx6.trans hxr
      by_cases hlt : k < T.ps.length
      · have hkP : k < P.length := by rw [HPl.out]; exact hlt
        have hkS : k < S.length := by rw [HSl.out]; exact hlt
        have hkS2 : k < (S.map ratM).length := by rw [List.length_map]; exact hkS
        obtain ⟨b1, o1, rfl, c0, c1⟩ := hu2.get k hkS2
        obtain ⟨b2, o2, rfl, e0⟩ := hu6.get k hkP
        have hbx := HSb.out _ (List.getElem_mem hkS)
        have hbp := HPb.out _ (List.getElem_mem hkP)
        have hnr := Hnr.out k hlt
        rw [getD_at hkP, getD_at hkS] at hnr
        have hs := sumI_snoc (P.take k) P[k]
        rw [← take_succ_get _ _ hkP] at hs
        have h1 := sumI_bd (l := P.take k) (fun n hn => HPb.out n (List.mem_of_mem_take hn))
        have h2 : (P.take k).length ≤ 24 := by simp; omega
        rw [List.getElem_map] at c0 c1
        have KPt := fun W => parts_any S[k] hbx.1 hbx.2 W
        obtain ⟨x, hxx⟩ : ∃ x, S[k] = x := ⟨_, rfl⟩
        obtain ⟨y, hyy⟩ : ∃ x, P[k] = x := ⟨_, rfl⟩
        rw [hxx] at hbx KPt c0 c1 hnr
        rw [hyy] at hbp hnr hs e0
        have KP' : ∀ W, Calls Try.prog 20 #[.agg #[.int .i64 (ratM x).n, .int .i64 (ratM x).d]] W fun e w' => e = .returned (.tuple #[.int .i64 x, .bool true]) ∧ Ext W w' := KPt
        obtain ⟨rn, hrn⟩ : ∃ r, (ratM x).n = r := ⟨_, rfl⟩
        obtain ⟨rd, hrd⟩ : ∃ r, (ratM x).d = r := ⟨_, rfl⟩
        rw [hrn, hrd] at KP'
        rw [hrn] at c0
        rw [hrd] at c1
        obtain ⟨sm, hss⟩ : ∃ s, sumI (P.take k) = s := ⟨_, rfl⟩
        rw [hss] at hs h1 ⊢
        have hw1 : IntKind.i64.wrap (sm + y) = sm + y := IntWalk.i64_in _ (by omega)
        have hw2 : IntKind.i64.wrap (y * 5354228880) = y * 5354228880 := IntWalk.i64_in _ (by omega)
        have hw3 : IntKind.i64.wrap (y * 5354228880 - x) = y * 5354228880 - x := IntWalk.i64_in _ (by omega)
        have hw4 : IntKind.i64.wrap (x - y * 5354228880) = x - y * 5354228880 := IntWalk.i64_in _ (by omega)
        have hg1 : decide (y * 5354228880 - x ≥ 5354228880) = false := decide_eq_false (by omega)
        have hg2 : decide (x - y * 5354228880 ≥ 5354228880) = false := decide_eq_false (by omega)
        have hki : (k : Int) < (T.ps.length : Int) := by omega
        have HS2 := Lib.hid hs
        have HKP := Lib.hid KP'
        clear hs hss hrn hrd hxx hyy KPt KP' h1 h2 hnr
        go_wp2_with fail
        refine (HKP.out _).mono ?_
        rintro e w21 ⟨rfl, hz⟩
        have hx21 := hxr.trans hz
        replace d0 := hz.cell d0
        replace d1 := hz.cell d1
        replace c0 := hz.cell c0
        replace c1 := hz.cell c1
        replace e0 := hz.cell e0
        clear hz hxr
        go_wp2_with fail
        go_roundw
        case rel => exact ⟨k + 1, by omega, by rw [HS2.out], by go_num, hx21⟩
        case measure => simp [intOf]; omega
      · obtain rfl : k = T.ps.length := by omega
        rw [show P.take T.ps.length = P from List.take_of_length_le (by rw [HPl.out]; omega), Hsm.out]
        have HSb2 := HSb
        clear HPb
        by_cases hn0 : T.ps.length = 0
        · have hz1 : ((T.ps.length : Int) == 0) = true := by rw [hn0]; rfl
          have hz2 : (N == N) = true := by simp
          clear hn0
          go_wp2_with fail
          refine (san _ hx6).mono ?_
          rintro e w99 ⟨rfl, hz⟩
          go_wp2_with fail
          go_ret
          exact ⟨rfl, hz⟩
        have hz1 : ((T.ps.length : Int) == 0) = false := by rw [beq_eq_false_iff_ne]; omega
        have hz2 : ¬ ((T.ps.length : Int) = 0) := by omega
        have hz3 : (N == N) = true := by simp
        have hzw : IntKind.i64.wrap z = z := IntWalk.i64_in _ (by omega)
        obtain ⟨i, hi, him⟩ : ∃ i : Nat, i < T.ps.length ∧ z.tmod (T.ps.length : Int) = i := by
          have h1 := Int.emod_nonneg z hz2
          have h2 := Int.emod_lt_of_pos z (show (0 : Int) < (T.ps.length : Int) by omega)
          exact ⟨(z % (T.ps.length : Int)).toNat, by omega, by rw [Int.tmod_eq_emod_of_nonneg hz0.1]; omega⟩
        have hiw : IntKind.i64.wrap (i : Int) = i := IntWalk.i64_in _ (by omega)
        have hii : (i : Int) < (T.ps.length : Int) := by omega
        obtain ⟨bb, oo, rfl, p0, _, _⟩ := (hT.p.ext hx6).get i hi
        have KI := H1I.out i hi
        have KU := H1U.out i hi
        have hpc := Hpc.out i hi
        have hiS : i < S.length := by rw [HSl.out]; exact hi
        have hiS2 : i < (S.map ratM).length := by rw [List.length_map]; exact hiS
        obtain ⟨b1, o1, rfl, c0, c1⟩ := hu2.get i hiS2
        have hbx := HSb2.out _ (List.getElem_mem hiS)
        rw [List.getElem_map] at c0 c1
        have KPt := fun W => parts_any S[i] hbx.1 hbx.2 W
        rw [getD_at hiS] at KU
        have KU2 := KU
        obtain ⟨x, hxx⟩ : ∃ x, S[i] = x := ⟨_, rfl⟩
        rw [hxx] at KPt c0 c1 KU2
        have KP' : ∀ W, Calls Try.prog 20 #[.agg #[.int .i64 (ratM x).n, .int .i64 (ratM x).d]] W fun e w' => e = .returned (.tuple #[.int .i64 x, .bool true]) ∧ Ext W w' := KPt
        obtain ⟨rn, hrn⟩ : ∃ r, (ratM x).n = r := ⟨_, rfl⟩
        obtain ⟨rd, hrd⟩ : ∃ r, (ratM x).d = r := ⟨_, rfl⟩
        rw [hrn, hrd] at KP'
        rw [hrn] at c0
        rw [hrd] at c1
        obtain ⟨id, hid⟩ : ∃ x, T.ps[i].id = x := ⟨_, rfl⟩
        obtain ⟨Z, hZ⟩ : ∃ x, (pcN T T.ps[i]).map ratM = x := ⟨_, rfl⟩
        rw [hid] at p0 KI
        rw [hZ] at KI KU2 hpc
        have hxs : (x == x) = true := by simp
        have hrs : ((T.rs.length : Int) == (T.rs.length : Int)) = true := by simp
        have H3I := Lib.hid KI
        have H3U := Lib.hid KU2
        have H3P := Lib.hid KP'
        have HPC := Lib.hid hpc
        clear KI KU KU2 KPt KP' hpc hrn hrd hxx hid hZ hbx hiS hiS2 hn0
        go_upto_region 22 with fail
        refine wp_region_held_drew (S := fun W' => W'.cell? ⟨w.heap.size, 0, none⟩ = some (.slice aa T.rs.length ca) ∧ W'.cell? ⟨w.heap.size, 1, none⟩ = some (.slice (some ⟨bb, oo, none⟩) T.ps.length cb) ∧ W'.cell? ⟨bb, oo + i * 3, none⟩ = some (.int .i64 id) ∧ Ext wr W') (by kernel_rfl) ?_ (fun hHeld => ?_)
        · exact ⟨d0, d1, p0, Ext.drew (Ext.refl _)⟩
        (refine wpAnyH_take (i := 0) (v := ?_) rfl (by kernel_rfl) (by kernel_rfl) (by kernel_rfl) (fun _ _ _ h => h) (Or.inl ⟨by rfl, ?_⟩) (by assumption) ?_; rotate_left 1; (focus (intro w hSw; (try dsimp only at hSw); go_simp; try (with_reducible rfl))))
        try simp only [Act.put, List.getElem_toArray, List.getElem_cons_zero, List.setIfInBounds_toArray, List.set_cons_zero, List.set_cons_succ]
        (refine wpAnyH_take (i := 1) (v := ?_) rfl (by kernel_rfl) (by kernel_rfl) (by kernel_rfl) (fun _ _ _ h => h) (Or.inl ⟨by rfl, ?_⟩) (by assumption) ?_; rotate_left 1; (focus (intro w hSw; (try dsimp only at hSw); go_simp; try (with_reducible rfl))))
        try simp only [Act.put, List.getElem_toArray, List.getElem_cons_zero, List.getElem_cons_succ, List.setIfInBounds_toArray, List.set_cons_zero, List.set_cons_succ]
        (refine wpAnyH_take (i := 2) (v := ?_) rfl (by kernel_rfl) (by kernel_rfl) (by kernel_rfl) (fun _ _ _ h => h) (Or.inl ⟨by rfl, ?_⟩) (by assumption) ?_; rotate_left 1; (focus (intro w hSw; (try dsimp only at hSw); go_simp; try (with_reducible rfl))))
        try simp only [Act.put, List.getElem_toArray, List.getElem_cons_zero, List.getElem_cons_succ, List.setIfInBounds_toArray, List.set_cons_zero, List.set_cons_succ]
        (refine wpAnyH_take (i := 3) (v := ?_) rfl (by kernel_rfl) (by kernel_rfl) (by kernel_rfl) (fun _ _ _ h => h) (Or.inl ⟨by rfl, ?_⟩) (by assumption) ?_; rotate_left 1; (focus (intro w hSw; (try dsimp only at hSw); go_simp; try (with_reducible rfl))))
        try simp only [Act.put, List.getElem_toArray, List.getElem_cons_zero, List.getElem_cons_succ, List.setIfInBounds_toArray, List.set_cons_zero, List.set_cons_succ]
        (refine wpAnyH_take (i := 4) (v := ?_) rfl (by kernel_rfl) (by kernel_rfl) (by kernel_rfl) (fun _ _ _ h => h) (Or.inl ⟨by rfl, ?_⟩) (by assumption) ?_; rotate_left 1; (focus (intro w hSw; (try dsimp only at hSw); go_simp; try (with_reducible rfl))))
        try simp only [Act.put, List.getElem_toArray, List.getElem_cons_zero, List.getElem_cons_succ, List.setIfInBounds_toArray, List.set_cons_zero, List.set_cons_succ]
        (refine wpAnyH_take (i := 5) (v := ?_) rfl (by kernel_rfl) (by kernel_rfl) (by kernel_rfl) (fun _ _ _ h => h) (Or.inl ⟨by rfl, ?_⟩) (by assumption) ?_; rotate_left 1; (focus (intro w hSw; (try dsimp only at hSw); go_simp; try (with_reducible rfl))))
        try simp only [Act.put, List.getElem_toArray, List.getElem_cons_zero, List.getElem_cons_succ, List.setIfInBounds_toArray, List.set_cons_zero, List.set_cons_succ]
        (refine wpAnyH_take (i := 6) (v := ?_) rfl (by kernel_rfl) (by kernel_rfl) (by kernel_rfl) (fun _ _ _ h => h) (Or.inl ⟨by rfl, ?_⟩) (by assumption) ?_; rotate_left 1; (focus (intro w hSw; (try dsimp only at hSw); go_simp; try (with_reducible rfl))))
        try simp only [Act.put, List.getElem_toArray, List.getElem_cons_zero, List.getElem_cons_succ, List.setIfInBounds_toArray, List.set_cons_zero, List.set_cons_succ]
        refine wpAnyH_ready (rs := [7]) (by kernel_rfl) (by simp) ?_
        refine AllReadyH.cons rfl (fun K hK => ?_) AllReadyH.nil
        obtain ⟨V0, hV0⟩ : ∃ V, wr.drew = V := ⟨_, rfl⟩
        rw [hV0] at hHeld ⊢
        clear hV0
        go_simp
        go_at_call 21; refine (H3I.out _ (hx6.trans hHeld.2.2.2)).mono ?_; rintro e V1 ⟨ul, rfl, hul, hz⟩
        obtain ⟨lA, lc, rfl, _⟩ := hul.len
        refine hK.out _ _ ?_ (fun hHeld => ?_)
        · exact ⟨Ext.cell hz hHeld.1, Ext.cell hz hHeld.2.1, Ext.cell hz hHeld.2.2.1, hHeld.2.2.2.trans hz⟩
        clear hK K
        clear hz
        try simp only [Act.put, List.getElem_toArray, List.getElem_cons_zero, List.getElem_cons_succ, List.setIfInBounds_toArray, List.set_cons_zero, List.set_cons_succ]
        (refine wpAnyH_take (i := 8) (v := ?_) rfl (by kernel_rfl) (by kernel_rfl) (by kernel_rfl) (fun _ _ _ h => h) (Or.inl ⟨by rfl, ?_⟩) (by assumption) ?_; rotate_left 1; (focus (intro w hSw; (try dsimp only at hSw); go_simp; try (with_reducible rfl))))
        try simp only [Act.put, List.getElem_toArray, List.getElem_cons_zero, List.getElem_cons_succ, List.setIfInBounds_toArray, List.set_cons_zero, List.set_cons_succ]
        (refine wpAnyH_take (i := 9) (v := ?_) rfl (by kernel_rfl) (by kernel_rfl) (by kernel_rfl) (fun _ _ _ h => h) (Or.inl ⟨by rfl, ?_⟩) (by assumption) ?_; rotate_left 1; (focus (intro w hSw; (try dsimp only at hSw); go_simp; try (with_reducible rfl))))
        try simp only [Act.put, List.getElem_toArray, List.getElem_cons_zero, List.getElem_cons_succ, List.setIfInBounds_toArray, List.set_cons_zero, List.set_cons_succ]
        (refine wpAnyH_take (i := 10) (v := ?_) rfl (by kernel_rfl) (by kernel_rfl) (by kernel_rfl) (fun _ _ _ h => h) (Or.inl ⟨by rfl, ?_⟩) (by assumption) ?_; rotate_left 1; (focus (intro w hSw; (try dsimp only at hSw); go_simp; try (with_reducible rfl))))
        try simp only [Act.put, List.getElem_toArray, List.getElem_cons_zero, List.getElem_cons_succ, List.setIfInBounds_toArray, List.set_cons_zero, List.set_cons_succ]
        (refine wpAnyH_take (i := 11) (v := ?_) rfl (by kernel_rfl) (by kernel_rfl) (by kernel_rfl) (fun _ _ _ h => h) (Or.inl ⟨by rfl, ?_⟩) (by assumption) ?_; rotate_left 1; (focus (intro w hSw; (try dsimp only at hSw); go_simp; try (with_reducible rfl))))
        try simp only [Act.put, List.getElem_toArray, List.getElem_cons_zero, List.getElem_cons_succ, List.setIfInBounds_toArray, List.set_cons_zero, List.set_cons_succ]
        (refine wpAnyH_take (i := 12) (v := ?_) rfl (by kernel_rfl) (by kernel_rfl) (by kernel_rfl) (fun _ _ _ h => h) (Or.inl ⟨by rfl, ?_⟩) (by assumption) ?_; rotate_left 1; (focus (intro w hSw; (try dsimp only at hSw); go_simp; try (with_reducible rfl))))
        try simp only [Act.put, List.getElem_toArray, List.getElem_cons_zero, List.getElem_cons_succ, List.setIfInBounds_toArray, List.set_cons_zero, List.set_cons_succ]
        refine wpAnyH_done (by kernel_rfl) ?_ _
        rw [HPC.out] at hul ⊢
        replace d0 := hHeld.1
        replace d1 := hHeld.2.1
        replace c0 := hHeld.2.2.2.cell c0
        replace c1 := hHeld.2.2.2.cell c1
        replace hx6 := hx6.trans hHeld.2.2.2
        clear hHeld hu2 hu6 p0
        go_wp2_with fail
        refine (H3U.out _ _ hul).mono ?_
        rintro e w31 ⟨rfl, hz⟩
        have hx31 := hx6.trans hz
        replace d0 := hz.cell d0
        replace d1 := hz.cell d1
        replace c0 := hz.cell c0
        replace c1 := hz.cell c1
        clear hz hx6
        go_wp2_with fail
        refine (H3P.out _).mono ?_
        rintro e w32 ⟨rfl, hz⟩
        have hx32 := hx31.trans hz
        replace d0 := hz.cell d0
        replace d1 := hz.cell d1
        replace c0 := hz.cell c0
        replace c1 := hz.cell c1
        clear hz hx31
        go_wp2_with fail
        refine (sanity_any _).mono ?_
        rintro e w99 ⟨rfl, hz⟩
        replace d0 := hz.cell d0
        clear san H3U H3P H3I HPC H1A H1P H1S H1I H1U HPl HSl Hsm Hnr Hpc HE H2
        have hxx : Ext w w99 := hx32.trans hz
        clear hz d1 c0 c1
        go_wp2_with fail
        go_ret
        exact ⟨ret_bool (by simp), hxx⟩
end Go.Proofs.Ythopgonbndoidaa
namespace Go.Proofs.Ythopgonbndoidaa.levyWhole
open Go.ChangeShapes Go.WideShapes Go.ChangeAt Go.RowKit Go.Deep Go.Joins

noncomputable def wArgs : Array Value := #[.agg #[.slice none 0 0, .slice none 0 0], .int .u8 0]
noncomputable def laidWorld (os : Os) : World := World.holding Try.prog os ⟨#[], #[], []⟩

set_option maxRecDepth 100000 in
theorem contract (H : Type) (enc : TypeId × Value → H) (W : World) (base : Nat) (args : Array Value) (ds gs : List (DataW H)) (before : List MemPlace)
    (hval : ∀ (j : Nat) t v, Try.f3.params[j]? = some t → args[j]? = some v → Value.okWide Try.prog W .any base t v)
    (hW : DataW.Whole enc Try.prog Try.f3.params.toList Rows.levyWholeSpec.vars false W args.toList ds gs before) :
    Calls Try.prog 3 args W fun e W' => ∃ v, e = .returned v ∧ Rows.levyWholeSpec.post enc Try.prog Try.f3 false true false false W args v W' := by
  have hW' := hW
  obtain ⟨p, q, hA, hV, rfl, hfz, hnd⟩ := hW
  rw [show Try.f3.params = #[25, 5] from rfl] at hA hval
  obtain ⟨v0, vs0, d0, ds0, p0, q0, hargs, rfl, rfl, h0, r0⟩ := trodAll_cons hA
  obtain ⟨v1, vs1, d1, ds1, p1, q1, rfl, rfl, rfl, h1, r1⟩ := trodAll_cons r0
  obtain ⟨rfl, rfl, rfl⟩ := trodAll_nil r1
  obtain rfl : args = #[v0, v1] := by cases args; simp_all
  obtain ⟨rfl, rfl⟩ := trodVars_none hV
  obtain ⟨a0, b0, T0, rfl, hT0⟩ := open_tree (hval 0 25 v0 rfl rfl) h0
  obtain ⟨x1, rfl, _, _, hf1⟩ := open_int Try.underlying5 (hval 1 5 v1 rfl rfl) h1
  refine (LevyWhole_any _ _ T0 x1 W hT0 (wf_u8 hf1)).mono fun e W' ⟨he, hg⟩ => ?_
  subst he
  refine ⟨_, rfl, post_true hW' rfl rfl ⟨rfl, rfl, rfl⟩ ?_ hg⟩
  rw [show Try.f3.params = #[25, 5] from rfl]
  intro t ht
  simp only [List.mem_cons, List.not_mem_nil, or_false] at ht
  rcases ht with rfl | rfl <;> exact ⟨by kernel_rfl, of_decide_eq_true (by kernel_rfl)⟩

set_option maxRecDepth 100000 in
theorem laid_met (os : Os) : laidMet Try.prog Rows.levyWholeRow.laid ((laidWorld os).forCall (fun _ _ => 0) ⟨#[], wArgs, []⟩).memory :=
  laidMet_of_run' 8 (by kernel_rfl) (by kernel_rfl)
set_option maxRecDepth 100000 in
theorem reads (os : Os) {H : Type} (enc : TypeId × Value → H) : ∃ x places, DataW.whole enc Try.prog ((laidWorld os).forCall (fun _ _ => 0) ⟨#[], wArgs, []⟩).memory Try.f3.params.toList Rows.levyWholeSpec.vars false wArgs.toList 8 = some (x, [], places) :=
  ⟨[.agg [.nil, .nil], .lit (.int .u8 0)], [], by kernel_rfl⟩

set_option maxRecDepth 100000 in
theorem lifted (os : Os) (started : os.Started) (H : Type) (enc : TypeId × Value → H) (F : Stop.Interp) :
    ReturnsInHanded {} Try.checked os 3 .any ((OpenSpec.ofChange Rows.levyWholeSpec).preRow enc Try.prog Try.f3 Rows.levyWholeRow.domain false Rows.levyWholeRow.laid) (((OpenSpec.ofChange Rows.levyWholeSpec).at F).post enc Try.prog Try.f3 false true false false) := by
  obtain ⟨x, places, hx⟩ := reads os enc
  refine returnsInHanded_of_row (C := Try.checked) (s := OpenSpec.ofChange Rows.levyWholeSpec) own started (by kernel_rfl) Try.func3
    (witness_row_at (enc := enc) (C := Try.checked) false (laidWorld os) wArgs rfl (by kernel_rfl) (by kernel_rfl) (by kernel_rfl)
      (OpenSpec.preRow_of_cond 8 hx (by kernel_rfl) (fun k hk => by cases hk) (by kernel_rfl) (laid_met os))) ?_
  intro W base args ds gs before hval hW _ _ _ hL _ _
  exact contract H enc W base args ds gs before hval hW

set_option maxRecDepth 100000 in
theorem said : Rows.LevyWholeSaid :=
  OpenClaim.holds_of_cond 3 Try.f3 rfl rfl rfl rfl rfl rfl rfl ⟨rfl, rfl, rfl, rfl, rfl⟩ rfl rfl rfl rfl rfl (by kernel_rfl) Try.func3 (by kernel_rfl)
    (of_decide_eq_true (by kernel_rfl)) (by unfold Func.isWrapper; first | (rw [if_pos (by decide +kernel)]; kernel_rfl) | (rw [if_neg (by decide +kernel)]; exact ⟨rfl, rfl⟩))
    (fun os started H enc _ F => by rw [OpenClaim.pre_eq_preRow]; exact lifted os started H enc F)
end Go.Proofs.Ythopgonbndoidaa.levyWhole

