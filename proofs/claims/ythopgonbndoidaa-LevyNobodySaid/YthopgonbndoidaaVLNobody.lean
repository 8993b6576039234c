/- LevyNobody: true whatever the tree, the payers and the pence. -/
import Derived.Test.YthopgonbndoidaaVHas
import Derived.Test.YthopgonbndoidaaVWhP
import Derived.Test.YthopgonbndoidaaVCkO
namespace Go.Proofs.Ythopgonbndoidaa
open Go.RowKit Go.Shelf

def nbS (T : Tr) (g : List Int) (j : Nat) : Int := sumR j (fun i => if idI T i ∈ g then shI T i else 0)
theorem nbS_step (T : Tr) (g : List Int) (j : Nat) : nbS T g (j + 1) = nbS T g j + (if idI T j ∈ g then shI T j else 0) := rfl
theorem nbS_bd {T : Tr} (hok : Ok T) (g : List Int) (j : Nat) (hj : j ≤ T.ps.length) : 0 ≤ nbS T g j ∧ nbS T g j ≤ j * 8421473853112320 := sumR_bd (fun k hk => by
  have := shX_bd hok (ps_mem (T := T) (i := k) (by omega))
  unfold shI
  split <;> omega)
theorem nbS_end {T : Tr} (hok : Ok T) (g : List Int) : nbS T g T.ps.length ≤ alnG T g * 5354228880 ∧ savG T g * 5354228880 ≤ nbS T g T.ps.length := by
  have e : nbS T g T.ps.length = pdT T (shI T) (fun p => decide (p.id ∈ g)) := by
    unfold nbS pdT idI
    simp only [decide_eq_true_eq]
  have h1 := dvm_group (by decide) (shares_DvM hok) (fun p => decide (p.id ∈ g))
  have h2 := dvm_saved (by decide) (shares_DvM hok) (fun p => decide (p.id ∈ g))
  have e2 : alnG T g = alnE T (fun p => decide (p.id ∈ g)) := rfl
  have e3 : savG T g = alnE T (fun _ => true) - alnE T (fun p => !decide (p.id ∈ g)) := rfl
  rw [e, e2, e3]
  omega
theorem savG_bd {T : Tr} (hok : Ok T) (g : List Int) : -1572864 ≤ savG T g ∧ savG T g ≤ 1572864 := by
  have h1 := alnE_bd hok (fun _ => true)
  have h2 := alnE_bd hok (fun p => !decide (p.id ∈ g))
  unfold savG
  omega
theorem obL_len {T : Tr} {l : List Int} (h : penE T l = 0) : (obL T l).length ≤ 24 := by
  have hk := penE_ok h
  have hlp := hk.1.lp
  unfold obL
  rw [if_pos h]
  split
  · simp
  · rw [gpX_same]
    refine Nat.le_trans (gprL_len _ _ _) ?_
    simp; omega
set_option maxRecDepth 100000 in
set_option maxHeartbeats 16000000 in
theorem LevyNobody_any (a b vb v : Value) (T : Tr) (B : List Bool) (l : List Int) (w : World) (hT : TrAt w a b T) (hB : BoolsAt w vb B) (hl : IntsAt w v l) :
    Calls Try.prog 8 #[.agg #[a, b], vb, v] w fun e w' => e = .returned (.bool true) ∧ Ext w w' := by
  obtain ⟨ab, cb, rfl, hlb⟩ := hT.p.len
  obtain ⟨av, cv, rfl, hlv⟩ := hl.len
  have K1 := fun W (h : Ext w W) => few_any _ _ T W (hT.ext h)
  have san : ∀ W1 : World, Ext w W1 → Calls Try.prog 14 #[] W1 fun e w' => e = .returned (.bool true) ∧ Ext w w' := fun W1 h => (sanity_any W1).mono fun e W' ⟨he, hz⟩ => ⟨he, h.trans hz⟩
  have K2 := fun W (h : Ext w W) (hn : T.rs.length ≤ 1000 ∧ T.ps.length ≤ 1000) => Shares_any _ _ T W (hT.ext h) hn
  have KP := fun W (h : Ext w W) => Pence_any _ _ T W (hT.ext h)
  have KF : chkE T = 0 → ∀ W, Ext w W → ∀ u, IntsAt W u (penX T) → Calls Try.prog 23 #[.agg #[a, .slice ab T.ps.length cb], u] W fun e w' => e = .returned (.tuple #[.bool true, .int .i64 0]) ∧ Ext W w' := fun h0 W h u hu => by
    have hok := Ok.of h0
    have e1 : penX T = pnX T := by unfold penX; rw [if_pos h0]
    rw [e1] at hu
    have := Fair_any _ _ u T (pnX T) W (hT.ext h) hu (by rw [(pnX_bd hok).1]; have := hok.lp; omega)
    rw [penE_pn h0, if_pos rfl, (pnX_fair hok).1] at this
    exact this
  have KS := fun (hp : T.ps.length ≤ 100000) W (h : Ext w W) => some_any _ _ vb T B W (hT.ext h) hp (hB.ext h)
  have KA : chkE T = 0 → ∀ g, List.Sublist g (evL T.ps) → ∀ W, Ext w W → ∀ u, IntsAt W u g → Calls Try.prog 16 #[.agg #[a, .slice ab T.ps.length cb], u] W fun e w' => e = .returned (.tuple #[.int .i64 (alnG T g), .int .i64 0]) ∧ Ext W w' := fun h0 g hs W h u hu => by
    have hok := Ok.of h0
    have hg := sub_gr hok hs
    have hgl := hs.length_le
    rw [evL_len] at hgl
    refine (Alone_any _ _ u T g W (hT.ext h) hu (by have := hok.lp; omega)).mono ?_
    rw [AlnX_gr h0 hg, ask_gr h0 hg]
    exact fun e w' he => he
  have KV : chkE T = 0 → ∀ g, List.Sublist g (evL T.ps) → ∀ W, Ext w W → ∀ u, IntsAt W u g → Calls Try.prog 27 #[.agg #[a, .slice ab T.ps.length cb], u] W fun e w' => e = .returned (.tuple #[.int .i64 (savG T g), .int .i64 0]) ∧ Ext W w' := fun h0 g hs W h u hu => by
    have hok := Ok.of h0
    have hg := sub_gr hok hs
    have hgl := hs.length_le
    rw [evL_len] at hgl
    refine (Saved_any _ _ u T g W (hT.ext h) hu (by have := hok.lp; omega)).mono ?_
    rw [SavX_gr h0 hg, ask_gr h0 hg]
    exact fun e w' he => he
  have KO := fun (hn : l.length ≤ 100000) W (h : Ext w W) => Objection_any _ _ _ T l W (hT.ext h) (hl.ext h) hn
  have KL := fun (hn : l.length ≤ 100000) W (h : Ext w W) => Fair_any _ _ _ T l W (hT.ext h) (hl.ext h) hn
  have KC1 := fun (hn : l.length ≤ 100000) (hq : (obL T l).length ≤ 100000) u W (h : Ext w W) (hu : IntsAt W u (obL T l)) => CheckObjection_any _ _ _ u T l (obL T l) W (hT.ext h) (hl.ext h) hu hn hq
  have KC2 := fun (hn : l.length ≤ 100000) u g W (h : Ext w W) (hu : IntsAt W u g) (hg : g.length ≤ 100000) => CheckObjection_any _ _ _ u T l g W (hT.ext h) (hl.ext h) hu hn hg
  have hX : chkE T = 0 → shaX T = (shN T).map ratM := fun h0 => by unfold shaX; rw [if_pos h0, shL_map]
  have hfc : chkE T = 0 → (T.rs.length ≤ 24 ∧ T.ps.length ≤ 24) ∧ (shN T).length = T.ps.length ∧ (∀ x ∈ shN T, 0 ≤ x ∧ x ≤ 8421473853112320) ∧ (∀ i, i < T.ps.length → (shN T).getD i 0 = shI T i) ∧
      (∀ g, List.Sublist g (evL T.ps) → g.length ≤ 24 ∧ (0 ≤ alnG T g ∧ alnG T g ≤ 1572864) ∧ (-1572864 ≤ savG T g ∧ savG T g ≤ 1572864) ∧ (nbS T g T.ps.length ≤ alnG T g * 5354228880 ∧ savG T g * 5354228880 ≤ nbS T g T.ps.length)) ∧ (∀ g j, j ≤ T.ps.length → 0 ≤ nbS T g j ∧ nbS T g j ≤ j * 8421473853112320) := fun h0 => by
    have hok := Ok.of h0
    refine ⟨⟨hok.lr, hok.lp⟩, shN_len T, shN_bd hok, fun i h => shN_at h, fun g hg => ⟨?_, alnE_bd hok _, savG_bd hok g, nbS_end hok g⟩, fun g j hj => nbS_bd hok g j hj⟩
    have := hg.length_le
    rw [evL_len] at this
    have := hok.lp
    omega
  have hob : penE T l = 0 → (obL T l).length ≤ 24 ∧ 0 ≤ obN T l ∧ (0 < obN T l → cobE T l (obL T l) = 0 ∧ cobN T l (obL T l) = obN T l ∧ faiB T l = false) ∧ (obN T l = 0 → (obL T l).length = 0) ∧ ∀ g, cobE T l g = 0 → cobN T l g ≤ obN T l ∧ faiB T l = false := fun h0 =>
    ⟨obL_len h0, ob_nn h0, ob_pos h0, fun h => by rw [ob_zero h0 h]; rfl, fun g => cob_le h0⟩
  have hob2 : (obL T l).length ≤ 100000 := by
    by_cases h0 : penE T l = 0
    · have := obL_len h0; omega
    · unfold obL; rw [if_neg h0]; simp
  obtain ⟨C, hC⟩ : ∃ C, chkE T = C := ⟨_, rfl⟩
  obtain ⟨X, hXX⟩ : ∃ C, shaX T = C := ⟨_, rfl⟩
  obtain ⟨S, hS⟩ : ∃ C, shN T = C := ⟨_, rfl⟩
  obtain ⟨P, hP⟩ : ∃ C, penX T = C := ⟨_, rfl⟩
  obtain ⟨PE, hPE⟩ : ∃ C, penE T l = C := ⟨_, rfl⟩
  obtain ⟨FB, hFB⟩ : ∃ C, faiB T l = C := ⟨_, rfl⟩
  obtain ⟨L, hL⟩ : ∃ C, obL T l = C := ⟨_, rfl⟩
  obtain ⟨O, hO⟩ : ∃ C, obN T l = C := ⟨_, rfl⟩
  rw [hC, hXX] at K2
  rw [hC, hP] at KP
  rw [hC, hP] at KF
  rw [hC] at KA KV
  rw [hL, hO, hPE] at KO
  rw [hFB, hPE] at KL
  rw [hL] at KC1 hob2
  rw [hC, hXX, hS] at hX
  rw [hC, hS] at hfc
  simp only [hPE, hL, hO, hFB] at hob
  obtain ⟨n, hn⟩ : ∃ n, l.length = n := ⟨_, rfl⟩
  rw [hn] at KO KL KC1 KC2 ⊢
  have H2 := Lib.hid K2
  have HP := Lib.hid KP
  have HF1 := Lib.hid KF
  have HSM := Lib.hid KS
  have HA := Lib.hid KA
  have HV := Lib.hid KV
  have HO1 := Lib.hid KO
  have HL1 := Lib.hid KL
  have HC1 := Lib.hid KC1
  have HC2 := Lib.hid KC2
  have HX := Lib.hid hX
  have HFC := Lib.hid hfc
  have HOB := Lib.hid hob
  have HOB2 := Lib.hid hob2
  clear K2 KP KF KS KA KV KO KL KC1 KC2 hX hfc hob hob2 hC hXX hS hP hPE hFB hL hO hn hB hl hlv
  go_enter Try.func8, Try.ntmps8
  go_wp2_with fail
  refine (K1 _ (by repeat (first | exact Ext.refl _ | assumption | refine Ext.alloc ?_ _ | refine Ext.drew ?_ | refine Ext.drewN _ ?_ | refine Ext.trans ?_ (by assumption)))).mono ?_
  rintro e w1 ⟨F, rfl, hF, hx1⟩
  obtain ⟨q0, hx, hk0⟩ := alloc1 hx1
  have d0 : w1.cell? ⟨w.heap.size, 0, none⟩ = some a := q0.cell 0
  have d1 : w1.cell? ⟨w.heap.size, 1, none⟩ = some (.slice ab T.ps.length cb) := q0.cell 1
  have HF := Lib.hid hF
  clear hx1 K1 hF q0
  cases F with
  | false =>
    go_wp2_with fail
    refine (san _ hx).mono ?_
    rintro e w99 ⟨rfl, hz⟩
    go_wp2_with fail
    go_ret
    exact ⟨rfl, hz⟩
  | true =>
    by_cases hgn : n ≤ 40
    rotate_left 1
    · have hb : decide ((n : Int) > 40) = true := decide_eq_true (by omega)
      go_wp2_with fail
      refine (san _ hx).mono ?_
      rintro e w99 ⟨rfl, hz⟩
      go_wp2_with fail
      go_ret
      exact ⟨rfl, hz⟩
    have hbn : decide ((n : Int) > 40) = false := decide_eq_false (by omega)
    have hmk := HF.out rfl
    have HM := Lib.hid hmk
    clear hmk
    go_wp2_with fail
    refine (HP.out _ hx).mono ?_
    rintro e w2 ⟨u2, rfl, hu2, hz⟩
    have hx2 := hx.trans hz
    replace d0 := hz.cell d0
    replace d1 := hz.cell d1
    clear hz hx
    obtain ⟨A2, c2, rfl, _⟩ := hu2.len
    go_wp2_with fail
    refine (H2.out _ hx2 (by have := HM.out; omega)).mono ?_
    rintro e w3 ⟨u3, rfl, hu3, hz⟩
    have hx3 := hx2.trans hz
    replace d0 := hz.cell d0
    replace d1 := hz.cell d1
    replace hu2 := hu2.ext hz
    clear hz hx2
    have hcc : (C != C) = false := by simp
    by_cases h0 : C = 0
    rotate_left 1
    · have hc : (C != 0) = true := by simpa using h0
      obtain ⟨A9, c9, rfl, _⟩ := hu3.len
      clear h0 hu3 hu2
      go_wp2_with fail
      refine (san _ hx3).mono ?_
      rintro e w99 ⟨rfl, hz⟩
      go_wp2_with fail
      go_ret
      exact ⟨rfl, hz⟩
    subst h0
    have hxs := HX.out rfl
    subst hxs
    have hfc := HFC.out rfl
    obtain ⟨⟨hrl, hpl⟩, hSl, hSb, hSi, hgf, hnb⟩ := hfc
    have hSl2 : (S.map ratM).length = T.ps.length := by rw [List.length_map, hSl]
    obtain ⟨A9, c9, rfl, _⟩ := hu3.len
    rw [hSl2] at hu3 ⊢
    have H1F := Lib.hid (HF1.out rfl)
    have H1A := Lib.hid (HA.out rfl)
    have H1V := Lib.hid (HV.out rfl)
    have HSl := Lib.hid hSl
    have HSb := Lib.hid hSb
    have HSi := Lib.hid hSi
    have HGF := Lib.hid hgf
    have HNB := Lib.hid hnb
    clear HF1 HA HV HX HFC hSl hSb hSi hgf hnb hSl2
    go_wp2_with fail
    refine (H1F.out _ hx3 _ hu2).mono ?_
    rintro e w4 ⟨rfl, hz⟩
    have hx4 := hx3.trans hz
    replace d0 := hz.cell d0
    replace d1 := hz.cell d1
    replace hu2 := hu2.ext hz
    replace hu3 := hu3.ext hz
    clear hz hx3
    clear hu2
    go_wp2_with fail
    refine (HSM.out (by omega) _ hx4).mono ?_
    rintro e w5 ⟨u5, g, rfl, hu5, hg5, hz⟩
    have hx5 := hx4.trans hz
    replace d0 := hz.cell d0
    replace d1 := hz.cell d1
    replace hu3 := hu3.ext hz
    clear hz hx4
    have HG := Lib.hid hg5
    obtain ⟨hgl, hga, hgs, hge⟩ := HGF.out g hg5
    clear hg5 HGF
    obtain ⟨gA, gc, rfl, _⟩ := hu5.len
    go_wp2_with fail
    refine (H1A.out g HG.out _ hx5 _ hu5).mono ?_
    rintro e w6 ⟨rfl, hz⟩
    have hx6 := hx5.trans hz
    replace d0 := hz.cell d0
    replace d1 := hz.cell d1
    replace hu3 := hu3.ext hz
    replace hu5 := hu5.ext hz
    clear hz hx5
    go_wp2_with fail
    refine (H1V.out g HG.out _ hx6 _ hu5).mono ?_
    rintro e w7 ⟨rfl, hz⟩
    have hx7 := hx6.trans hz
    replace d0 := hz.cell d0
    replace d1 := hz.cell d1
    replace hu3 := hu3.ext hz
    replace hu5 := hu5.ext hz
    clear hz hx6
    obtain ⟨AN, hAN⟩ : ∃ x, alnG T g = x := ⟨_, rfl⟩
    obtain ⟨SN, hSN⟩ : ∃ x, savG T g = x := ⟨_, rfl⟩
    rw [hAN] at hga hge ⊢
    rw [hSN] at hgs hge ⊢
    have HGE := Lib.hid hge
    clear hAN hSN hge H1A H1V H1F HSM
    have hd2 : ((T.ps.length : Int) != (T.ps.length : Int)) = false := by simp
    go_upto_region 17 with fail
    clear hd2
    go_loopw [18, 19] (fun sm i wr => ∃ k : Nat, k ≤ T.ps.length ∧ sm = .int .i64 (nbS T g k) ∧ i = .int .i64 k ∧ Ext w7 wr) (fun _ i _ => T.ps.length - (intOf i).toNat)
    case atStart => exact ⟨0, Nat.zero_le _, rfl, rfl, Ext.refl _⟩
    case round =>
      obtain ⟨k, hk, rfl, rfl, hxr⟩ := hrel
      replace d0 := hxr.cell d0
      replace d1 := hxr.cell d1
      replace hu3 := hu3.ext hxr
      replace hu5 := hu5.ext hxr
      replace hx7 := hx7.trans hxr
      by_cases hlt : k < T.ps.length
      · have hkS : k < S.length := by rw [HSl.out]; exact hlt
        have hkS2 : k < (S.map ratM).length := by rw [List.length_map]; exact hkS
        obtain ⟨b1, o1, rfl, c0, c1⟩ := hu3.get k hkS2
        obtain ⟨bb, oo, rfl, p0, _, _⟩ := (hT.p.ext hx7).get k hlt
        have hbx := HSb.out _ (List.getElem_mem hkS)
        have hsi := HSi.out k hlt
        rw [getD_at hkS] at hsi
        have hid : idI T k = T.ps[k].id := by unfold idI; rw [ps_get hlt]
        have hs := nbS_step T g k
        rw [← hsi, hid] at hs
        have h1 := HNB.out g k hk
        rw [List.getElem_map] at c0 c1
        have KPt := fun W => parts_any S[k] hbx.1 hbx.2 W
        have KH := fun id W (h : Ext wr W) => has_any _ g id W (hu5.ext h) (by omega)
        obtain ⟨x, hxx⟩ : ∃ x, S[k] = x := ⟨_, rfl⟩
        rw [hxx] at hbx KPt c0 c1 hs
        obtain ⟨id, hidd⟩ : ∃ x, T.ps[k].id = x := ⟨_, rfl⟩
        rw [hidd] at p0 hs
        have KP' : ∀ W, Calls Try.prog 20 #[.agg #[.int .i64 (ratM x).n, .int .i64 (ratM x).d]] W fun e w' => e = .returned (.tuple #[.int .i64 x, .bool true]) ∧ Ext W w' := KPt
        obtain ⟨rn, hrn⟩ : ∃ r, (ratM x).n = r := ⟨_, rfl⟩
        obtain ⟨rd, hrd⟩ : ∃ r, (ratM x).d = r := ⟨_, rfl⟩
        rw [hrn, hrd] at KP'
        rw [hrn] at c0
        rw [hrd] at c1
        have KHi := KH id
        obtain ⟨D, hD⟩ : ∃ D, decide (id ∈ g) = D := ⟨_, rfl⟩
        rw [hD] at KHi
        have hs2 : nbS T g (k + 1) = nbS T g k + (if D = true then x else 0) := by rw [hs, ← hD]; simp only [decide_eq_true_eq]
        obtain ⟨sm, hss⟩ : ∃ s, nbS T g k = s := ⟨_, rfl⟩
        rw [hss] at hs2 h1 ⊢
        have hw1 : IntKind.i64.wrap (sm + x) = sm + x := IntWalk.i64_in _ (by omega)
        have hki : (k : Int) < (T.ps.length : Int) := by omega
        have HS2 := Lib.hid hs2
        have HKP := Lib.hid KP'
        have HKH := Lib.hid KHi
        clear hs hs2 hss hrn hrd hxx hidd hid hsi KPt KP' KH KHi h1 hD
        have hxs : Ext wr wr := Ext.refl _
        go_wp2_with fail
        refine (HKP.out _).mono ?_
        rintro e w21 ⟨rfl, hz⟩
        have hx21 := hxs.trans hz
        replace d0 := hz.cell d0
        replace d1 := hz.cell d1
        replace c0 := hz.cell c0
        replace c1 := hz.cell c1
        replace p0 := hz.cell p0
        clear hz hxs
        go_wp2_with fail
        refine (HKH.out _ hx21).mono ?_
        rintro e w22 ⟨rfl, hz⟩
        have hx22 := hx21.trans hz
        replace d0 := hz.cell d0
        replace d1 := hz.cell d1
        replace c0 := hz.cell c0
        replace c1 := hz.cell c1
        replace p0 := hz.cell p0
        clear hz hx21
        have hxe := hxr.trans hx22
        cases D
        · have hs2 := HS2.out
          rw [if_neg (by decide), Int.add_zero] at hs2
          have HS3 := Lib.hid hs2
          clear hs2 HS2
          go_wp2_with fail
          go_roundw
          case rel => exact ⟨k + 1, by omega, by rw [HS3.out], by go_num, hxe⟩
          case measure => simp [intOf]; omega
        · have hs2 := HS2.out
          rw [if_pos rfl] at hs2
          have HS3 := Lib.hid hs2
          clear hs2 HS2
          go_wp2_with fail
          go_roundw
          case rel => exact ⟨k + 1, by omega, by rw [HS3.out], by go_num, hxe⟩
          case measure => simp [intOf]; omega
      · obtain rfl : k = T.ps.length := by omega
        have hge := HGE.out
        have hnn := HNB.out g T.ps.length (Nat.le_refl _)
        obtain ⟨sm, hss⟩ : ∃ s, nbS T g T.ps.length = s := ⟨_, rfl⟩
        rw [hss] at hge hnn ⊢
        have hw1 : IntKind.i64.wrap (AN * 5354228880) = AN * 5354228880 := IntWalk.i64_in _ (by omega)
        have hw2 : IntKind.i64.wrap (SN * 5354228880) = SN * 5354228880 := IntWalk.i64_in _ (by omega)
        have hg1 : decide (sm > AN * 5354228880) = false := decide_eq_false (by omega)
        have hg2 : decide (sm < SN * 5354228880) = false := decide_eq_false (by omega)
        clear hge hnn HGE HNB HSb HSi HSl hss hu3
        go_wp2_with fail
        refine (HO1.out (by omega) _ hx7).mono ?_
        rintro e w31 ⟨u31, rfl, hu31, hz⟩
        have hx31 := hx7.trans hz
        replace d0 := hz.cell d0
        replace d1 := hz.cell d1
        replace hu5 := hu5.ext hz
        clear hz hx7
        clear hw1 hw2 hg1 hg2
        obtain ⟨oA, oc, rfl, _⟩ := hu31.len
        obtain ⟨ln, hln⟩ : ∃ n, L.length = n := ⟨_, rfl⟩
        have HLN := Lib.hid hln
        rw [hln] at hu31 ⊢
        clear hln
        by_cases h0 : PE = 0
        rotate_left 1
        · have hc : (PE != 0) = true := by simpa using h0
          clear h0 hu31 hu5 HOB
          go_wp2_with fail
          refine (san _ hx31).mono ?_
          rintro e w99 ⟨rfl, hz⟩
          go_wp2_with fail
          go_ret
          exact ⟨rfl, hz⟩
        subst h0
        obtain ⟨hL24, hO0, hOp, hOz, hcg⟩ := HOB.out rfl
        have HOP := Lib.hid hOp
        have HOZ := Lib.hid hOz
        have HCG := Lib.hid (hcg g)
        clear hOp hOz hcg HOB
        go_wp2_with fail
        refine (HL1.out (by omega) _ hx31).mono ?_
        rintro e w32 ⟨rfl, hz⟩
        have hx32 := hx31.trans hz
        replace d0 := hz.cell d0
        replace d1 := hz.cell d1
        replace hu5 := hu5.ext hz
        replace hu31 := hu31.ext hz
        clear hz hx31
        go_wp2_with fail
        refine (HC1.out (by omega) HOB2.out _ _ hx32 hu31).mono ?_
        rintro e w33 ⟨rfl, hz⟩
        have hx33 := hx32.trans hz
        replace d0 := hz.cell d0
        replace d1 := hz.cell d1
        replace hu5 := hu5.ext hz
        replace hu31 := hu31.ext hz
        clear hz hx32
        clear hu31
        go_wp2_with fail
        refine (HC2.out (by omega) _ g _ hx33 hu5 (by omega)).mono ?_
        rintro e w34 ⟨rfl, hz⟩
        have hx34 := hx33.trans hz
        replace d0 := hz.cell d0
        replace d1 := hz.cell d1
        replace hu5 := hu5.ext hz
        clear hz hx33
        clear hu5
        obtain ⟨E1, hE1⟩ : ∃ x, cobE T l L = x := ⟨_, rfl⟩
        obtain ⟨N1, hN1⟩ : ∃ x, cobN T l L = x := ⟨_, rfl⟩
        obtain ⟨E2, hE2⟩ : ∃ x, cobE T l g = x := ⟨_, rfl⟩
        obtain ⟨N2, hN2⟩ : ∃ x, cobN T l g = x := ⟨_, rfl⟩
        have hop := HOP.out
        have hoz := HOZ.out
        have hcg := HCG.out
        rw [hE1, hN1] at hop
        rw [hE2, hN2] at hcg
        rw [HLN.out] at hoz
        rw [hE1, hN1, hE2, hN2]
        clear hE1 hN1 hE2 hN2 HOP HOZ HCG
        by_cases hoo : O = 0
        · have hln0 := hoz hoo
          subst hoo
          subst hln0
          by_cases he2 : E2 = 0
          · obtain ⟨hle, hfb⟩ := hcg he2
            subst he2
            try subst hfb
            have hb9 : decide (N2 ≤ 0) = true := decide_eq_true hle
            clear hcg hop hoz
            go_wp2_with fail
            refine (san _ hx34).mono ?_
            rintro e w99 ⟨rfl, hz⟩
            go_wp2_with fail
            go_ret
            exact ⟨rfl, hz⟩
          · have hb9 : (E2 != 0) = true := by simpa using he2
            clear hcg hop hoz he2
            go_wp2_with fail
            refine (san _ hx34).mono ?_
            rintro e w99 ⟨rfl, hz⟩
            go_wp2_with fail
            go_ret
            exact ⟨rfl, hz⟩
        · obtain ⟨h1, h2, h3⟩ := hop (by omega)
          subst h1
          subst h2
          subst h3
          have hb1 : decide (N1 > 0) = true := decide_eq_true (by omega)
          have hb2 : (N1 != N1) = false := by simp
          have hb3 : (N1 == 0) = false := by rw [beq_eq_false_iff_ne]; omega
          by_cases he2 : E2 = 0
          · obtain ⟨hle, hfb⟩ := hcg he2
            subst he2
            try subst hfb
            have hb9 : decide (N2 ≤ N1) = true := decide_eq_true hle
            clear hcg hop hoz
            go_wp2_with fail
            refine (san _ hx34).mono ?_
            rintro e w99 ⟨rfl, hz⟩
            go_wp2_with fail
            go_ret
            exact ⟨rfl, hz⟩
          · have hb9 : (E2 != 0) = true := by simpa using he2
            clear hcg hop hoz he2
            go_wp2_with fail
            refine (san _ hx34).mono ?_
            rintro e w99 ⟨rfl, hz⟩
            go_wp2_with fail
            go_ret
            exact ⟨rfl, hz⟩
end Go.Proofs.Ythopgonbndoidaa
namespace Go.Proofs.Ythopgonbndoidaa.levyNobody
open Go.ChangeShapes Go.WideShapes Go.ChangeAt Go.RowKit Go.Deep Go.Joins

noncomputable def wArgs : Array Value := #[.agg #[.slice none 0 0, .slice none 0 0], .slice none 0 0, .slice none 0 0]
noncomputable def laidWorld (os : Os) : World := World.holding Try.prog os ⟨#[], #[], []⟩

set_option maxRecDepth 100000 in
theorem contract (H : Type) (enc : TypeId × Value → H) (W : World) (base : Nat) (args : Array Value) (ds gs : List (DataW H)) (before : List MemPlace)
    (hval : ∀ (j : Nat) t v, Try.f8.params[j]? = some t → args[j]? = some v → Value.okWide Try.prog W .any base t v)
    (hW : DataW.Whole enc Try.prog Try.f8.params.toList Rows.levyNobodySpec.vars false W args.toList ds gs before) :
    Calls Try.prog 8 args W fun e W' => ∃ v, e = .returned v ∧ Rows.levyNobodySpec.post enc Try.prog Try.f8 false true false false W args v W' := by
  have hW' := hW
  obtain ⟨p, q, hA, hV, rfl, hfz, hnd⟩ := hW
  rw [show Try.f8.params = #[25, 68, 34] from rfl] at hA hval
  obtain ⟨v0, vs0, d0, ds0, p0, q0, hargs, rfl, rfl, h0, r0⟩ := trodAll_cons hA
  obtain ⟨v1, vs1, d1, ds1, p1, q1, rfl, rfl, rfl, h1, r1⟩ := trodAll_cons r0
  obtain ⟨v2, vs2, d2, ds2, p2, q2, rfl, rfl, rfl, h2, r2⟩ := trodAll_cons r1
  obtain ⟨rfl, rfl, rfl⟩ := trodAll_nil r2
  obtain rfl : args = #[v0, v1, v2] := by cases args; simp_all
  obtain ⟨rfl, rfl⟩ := trodVars_none hV
  obtain ⟨a0, b0, T0, rfl, hT0⟩ := open_tree (hval 0 25 v0 rfl rfl) h0
  obtain ⟨L1, hL1⟩ := open_bools' (hval 1 68 v1 rfl rfl) h1
  obtain ⟨L2, hL2⟩ := open_ints' (hval 2 34 v2 rfl rfl) h2
  refine (LevyNobody_any _ _ _ _ T0 L1 L2 W hT0 hL1 hL2).mono fun e W' ⟨he, hg⟩ => ?_
  subst he
  refine ⟨_, rfl, post_true hW' rfl rfl ⟨rfl, rfl, rfl⟩ ?_ hg⟩
  rw [show Try.f8.params = #[25, 68, 34] from rfl]
  intro t ht
  simp only [List.mem_cons, List.not_mem_nil, or_false] at ht
  rcases ht with rfl | rfl | rfl <;> exact ⟨by kernel_rfl, of_decide_eq_true (by kernel_rfl)⟩

set_option maxRecDepth 100000 in
theorem laid_met (os : Os) : laidMet Try.prog Rows.levyNobodyRow.laid ((laidWorld os).forCall (fun _ _ => 0) ⟨#[], wArgs, []⟩).memory :=
  laidMet_of_run' 8 (by kernel_rfl) (by kernel_rfl)
set_option maxRecDepth 100000 in
theorem reads (os : Os) {H : Type} (enc : TypeId × Value → H) : ∃ x places, DataW.whole enc Try.prog ((laidWorld os).forCall (fun _ _ => 0) ⟨#[], wArgs, []⟩).memory Try.f8.params.toList Rows.levyNobodySpec.vars false wArgs.toList 8 = some (x, [], places) :=
  ⟨[.agg [.nil, .nil], .nil, .nil], [], by kernel_rfl⟩

set_option maxRecDepth 100000 in
theorem lifted (os : Os) (started : os.Started) (H : Type) (enc : TypeId × Value → H) (F : Stop.Interp) :
    ReturnsInHanded {} Try.checked os 8 .any ((OpenSpec.ofChange Rows.levyNobodySpec).preRow enc Try.prog Try.f8 Rows.levyNobodyRow.domain false Rows.levyNobodyRow.laid) (((OpenSpec.ofChange Rows.levyNobodySpec).at F).post enc Try.prog Try.f8 false true false false) := by
  obtain ⟨x, places, hx⟩ := reads os enc
  refine returnsInHanded_of_row (C := Try.checked) (s := OpenSpec.ofChange Rows.levyNobodySpec) own started (by kernel_rfl) Try.func8
    (witness_row_at (enc := enc) (C := Try.checked) false (laidWorld os) wArgs rfl (by kernel_rfl) (by kernel_rfl) (by kernel_rfl)
      (OpenSpec.preRow_of_cond 8 hx (by kernel_rfl) (fun k hk => by cases hk) (by kernel_rfl) (laid_met os))) ?_
  intro W base args ds gs before hval hW _ _ _ hL _ _
  exact contract H enc W base args ds gs before hval hW

set_option maxRecDepth 100000 in
theorem said : Rows.LevyNobodySaid :=
  OpenClaim.holds_of_cond 8 Try.f8 rfl rfl rfl rfl rfl rfl rfl ⟨rfl, rfl, rfl, rfl, rfl⟩ rfl rfl rfl rfl rfl (by kernel_rfl) Try.func8 (by kernel_rfl)
    (of_decide_eq_true (by kernel_rfl)) (by unfold Func.isWrapper; first | (rw [if_pos (by decide +kernel)]; kernel_rfl) | (rw [if_neg (by decide +kernel)]; exact ⟨rfl, rfl⟩))
    (fun os started H enc _ F => by rw [OpenClaim.pre_eq_preRow]; exact lifted os started H enc F)
end Go.Proofs.Ythopgonbndoidaa.levyNobody

