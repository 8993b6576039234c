/- TurnAgain: the walk and the card. -/
import Derived.Test.YtejmmfjabmmihaaDoorSanity
import Derived.Test.YtejmmfjabmmihaaDoorArgs
import Derived.Test.YtejmmfjabmmihaaDoorFew
import Derived.Test.YtejmmfjabmmihaaDoorPer
import Derived.Test.YtejmmfjabmmihaaDoorComes
import Derived.ChangeMaps5
import Derived.Deep.DeepCutAuto
import Derived.BigQuiet
namespace Go.Proofs.YtejmmfjabmmihaaDoor
open Go.RowKit Go.Shelf

theorem agn_again {F : Nat → Bool} {p d : Nat} (hp : Again F p) (h : agnB F p d = true) (h1 : 1 ≤ p) : Again F d := by
  simp only [agnB, List.all_eq_true, List.mem_range, beq_iff_eq] at h
  intro n
  have h2 := h (n % p) (Nat.mod_lt _ (by omega))
  rw [hp.mod n, ← hp.mod (n % p + d), Nat.mod_add_mod, hp.mod] at h2
  exact h2.symm
theorem agn_least {F : Nat → Bool} {p d : Nat} (hL : Least F p) (h1 : 1 ≤ d) (h2 : d < p) (h3 : p % d = 0) : agnB F p d = false := by
  rw [← Bool.not_eq_true]
  intro h
  exact hL.least d h1 h2 h3 (agn_again hL.again h hL.pos)
theorem rn_0 (F : Nat → Bool) (p : Nat) : rnN F p 0 = 0 := by unfold rnN; split <;> rfl
theorem comesC (a b : Value) (S : Mn) (w : World) (hS : MinsAt w a b S) (hok : Ok S) (hss : S.ss = []) (p : Nat) (h1 : p ≤ 500000) (hag : agnB (whlF S) p p = true) (W : World) (h : Ext w W) :
    Calls Tryd.prog 58 #[.agg #[a, b], .int .i64 p, .int .i64 p] W fun e w' => e = .returned (.bool true) ∧ Ext W w' :=
  (comes_any a b S p p W (hS.ext h) hok hss h1 h1).mono fun e w' ⟨h2, h3⟩ => ⟨by rw [h2, hag], h3⟩
theorem agn_own {F : Nat → Bool} {p : Nat} (h : Again F p) : agnB F p p = true := agn_t fun i _ => (h i).symm

set_option maxRecDepth 100000 in
set_option maxHeartbeats 8000000 in
theorem Again_main (a b : Value) (S : Mn) (m : Int) (w : World) (hT : Tab w) (hS : MinsAt w a b S) (hf : fewB S = true) (hs : soonB S 2520 = true) (hW : whlE S = 0) (hm0 : 0 ≤ m) (hm1 : m ≤ 65535) :
    Calls Tryd.prog 13 #[.agg #[a, b], .int .u16 m] w fun e w' => e = .returned (.bool true) ∧ Ext w w' := by
  have HF := Lib.hid hf
  have HS := Lib.hid hs
  obtain ⟨p1, hL, hp1, hp2, hp3⟩ := perI_least hW
  obtain ⟨hok, hss, _, _, _⟩ := whl_ok hW
  have hE := fewE S
  have hFE : (24 < (fewT S).length ∧ fewE S = 2 ∧ fewX S = ⟨[], []⟩) ∨ ((fewT S).length ≤ 24 ∧ fewE S = 0 ∧ fewX S = ⟨fewT S, []⟩) := by
    unfold fewE fewX
    rw [if_pos hW, if_pos hW]
    by_cases h : 24 < (fewT S).length
    · exact .inl ⟨h, by rw [if_pos h], by rw [if_pos h]⟩
    · exact .inr ⟨by omega, by rw [if_neg h], by rw [if_neg h]⟩
  have hrn := rn_end hW
  have hset := fun h => few_set hW h
  have hasc := @few_asc S
  have hTp := fewT_ok hW
  have hmw := fun n => mem_whl hss n
  have hpp := hL.pos
  have P1 := Lib.hid p1
  have HW := Lib.hid hW
  have HSS := Lib.hid hss
  have hwm : IntKind.i64.wrap m = m := IntWalk.i64_in _ (by omega)
  obtain ⟨F, hFF⟩ : ∃ F, whlF S = F := ⟨_, rfl⟩
  obtain ⟨p, hpI⟩ : ∃ p, perI S = p := ⟨_, rfl⟩
  obtain ⟨T, hTT⟩ : ∃ T, fewT S = T := ⟨_, rfl⟩
  have hFF2 := Lib.hid hFF
  rw [hFF, hpI] at hL hrn
  rw [hFF] at hmw hset
  rw [hpI] at hpp hp1 P1 hTp hset
  rw [hTT] at hFE hrn hTp hset
  have hasc2 : ∀ (i : Nat) (h0 : i < T.length) (h1 : i + 1 < T.length), T[i].f < T[i + 1].f := by
    subst hTT; exact fun i h0 h1 => hasc h1
  have HL := Lib.hid hL
  have HFE := Lib.hid hFE
  have HRN := Lib.hid hrn
  have HSET := Lib.hid hset
  have HASC := Lib.hid hasc2
  have HTP := Lib.hid hTp
  have HMW := Lib.hid hmw
  clear hf hs hW hL hFE hrn hset hasc hasc2 hTp hmw hE hFF hpI hTT p1 hp2 hp3 hss
  go_enter Tryd.func13, Tryd.ntmps13
  go_wp2_with fail
  refine (few_any _ _ S _ (hS.ext (by repeat (first | exact Ext.refl _ | assumption | refine Ext.alloc ?_ _ | refine Ext.drew ?_ | refine Ext.drewN _ ?_ | refine Ext.trans ?_ (by assumption))))).mono ?_
  rw [HF.out]
  rintro e w1 ⟨rfl, hx1⟩
  obtain ⟨q0, hx, hzz⟩ := alloc1 hx1
  have d0 : w1.cell? ⟨w.heap.size, 0, none⟩ = some a := q0.cell 0
  have d1 : w1.cell? ⟨w.heap.size, 1, none⟩ = some b := q0.cell 1
  clear hx1 q0 hzz
  go_wp2_with fail
  refine (soon_any _ _ S 2520 _ (hS.ext hx)).mono ?_
  rw [HS.out]
  rintro e w2 ⟨rfl, hy⟩
  replace d0 := hy.cell d0
  replace d1 := hy.cell d1
  replace hx := hx.trans hy
  clear hy
  go_wp2_with fail
  refine (Period_any _ _ S _ (hS.ext hx)).mono ?_
  rw [P1.out, HW.out]
  rintro e w3 ⟨rfl, hy⟩
  replace d0 := hy.cell d0
  replace d1 := hy.cell d1
  replace hx := hx.trans hy
  clear hy
  go_wp2_with fail
  refine (Fewest_any _ _ S _ (hS.ext hx)).mono ?_
  intro e w5 hpp
  replace hpp : FewPost S w3 e w5 := hpp
  revert hpp
  unfold FewPost
  obtain ⟨X, hX⟩ : ∃ X, fewX S = X := ⟨_, rfl⟩
  obtain ⟨G, hG⟩ : ∃ G, fewE S = G := ⟨_, rfl⟩
  rw [hX, hG] at HFE ⊢
  clear hX hG
  rintro ⟨va, vb, rfl, hm, hy⟩
  obtain ⟨aa1, ca1, rfl⟩ := hm.t.len
  obtain ⟨ab1, cb1, rfl⟩ := hm.s.len
  replace d0 := hy.cell d0
  replace d1 := hy.cell d1
  replace hx := hx.trans hy
  clear hy
  obtain ⟨W5, hW5⟩ : ∃ W5, w5.alloc (.cells #[.slice aa1 X.ts.length ca1, .slice ab1 X.ss.length cb1] 34) = W5 := ⟨_, rfl⟩
  have hy : Ext w5 W5 := by rw [← hW5]; exact (by repeat (first | exact Ext.refl _ | assumption | refine Ext.alloc ?_ _ | refine Ext.drew ?_ | refine Ext.drewN _ ?_ | refine Ext.trans ?_ (by assumption)))
  have r0 : W5.cell? ⟨w5.heap.size, 0, none⟩ = some (.slice aa1 X.ts.length ca1) := by rw [← hW5]; exact cell_at_new _ _ _ _ _ _ rfl rfl
  have r1 : W5.cell? ⟨w5.heap.size, 1, none⟩ = some (.slice ab1 X.ss.length cb1) := by rw [← hW5]; exact cell_at_new _ _ _ _ _ _ rfl rfl
  replace d0 := hy.cell d0
  replace d1 := hy.cell d1
  replace hx := hx.trans hy
  replace hm := hm.ext hy
  replace hS := hS.ext hx
  replace hT := hT.ext hx
  clear hy
  obtain ⟨Bf, hBf⟩ : ∃ Bf, w5.heap.size = Bf := ⟨_, rfl⟩
  have HW5 := Lib.hid hW5
  go_wp2_with fail
  try rw [hW5]
  rw [hBf] at r0 r1
  try rw [hBf]
  clear hW5 HW5 hBf
  go_loopw [9] (fun i wr => ∃ d : Nat, 1 ≤ d ∧ d ≤ p ∧ i = .int .i64 d ∧ Ext W5 wr) (fun i _ => p - (intOf i).toNat)
  case atStart => exact ⟨1, by omega, by omega, rfl, (by repeat (first | exact Ext.refl _ | assumption | refine Ext.alloc ?_ _ | refine Ext.drew ?_ | refine Ext.drewN _ ?_ | refine Ext.trans ?_ (by assumption)))⟩
  case round =>
    obtain ⟨d, hd1, hd2, rfl, hy⟩ := hrel
    obtain ⟨wo, rfl⟩ : ∃ wo : World, wo = wr := ⟨_, rfl⟩
    replace d0 := hy.cell d0
    replace d1 := hy.cell d1
    replace r0 := hy.cell r0
    replace r1 := hy.cell r1
    by_cases hdp : d < p
    · have hd0 : ¬ (d : Int) = 0 := by omega
      have hdb : ((d : Int) == 0) = false := by rw [beq_eq_false_iff_ne]; exact hd0
      obtain ⟨y, hmy⟩ : ∃ y, p % d = y := ⟨_, rfl⟩
      have htm : (p : Int).tmod (d : Int) = (y : Int) := by rw [Int.tmod_eq_emod_of_nonneg (by omega), ← hmy]; rfl
      have hyd : y < d := by rw [← hmy]; exact Nat.mod_lt _ (by omega)
      by_cases hy0 : y = 0
      · subst hy0
        have hag := agn_least HL.out hd1 hdp hmy
        have HAG := Lib.hid hag
        clear hag hmy
        go_wp2_with fail
        refine (comes_any _ _ S d p _ (hS.ext hy) hok HSS.out (by omega) (by omega)).mono ?_
        rw [hFF2.out, HAG.out]
        rintro e w6 ⟨rfl, hz⟩
        go_wp2_with fail
        go_roundw
        case rel => exact ⟨d + 1, by omega, by omega, by go_num, hy.trans hz⟩
        case measure => simp [intOf]; omega
      · have hyb : ((y : Int) == 0) = false := by rw [beq_eq_false_iff_ne]; omega
        clear hmy
        go_wp2_with fail
        go_roundw
        case rel => exact ⟨d + 1, by omega, by omega, by go_num, hy⟩
        case measure => simp [intOf]; omega
    · skip
      have hdp3 : ¬ (d : Int) < (p : Int) := by omega
      have hag : agnB (whlF S) p p = true := by rw [hFF2.out]; exact agn_own HL.out.again
      obtain ⟨v, hv⟩ : ∃ v, F m.toNat = v := ⟨_, rfl⟩
      have hmv : mem S m = v := by
        have := HMW.out m.toNat
        rw [show ((m.toNat : Nat) : Int) = m by omega] at this
        rw [this]; exact hv
      have hmv2 : mem S (m + (p : Int)) = v := by
        have := HMW.out (m.toNat + p)
        rw [show ((m.toNat + p : Nat) : Int) = m + p by omega] at this
        rw [this, HL.out.again]; exact hv
      obtain ⟨M2, hM2⟩ : ∃ M2, m + (p : Int) = M2 := ⟨_, rfl⟩
      have hw2 : IntKind.i64.wrap (m + (p : Int)) = M2 := by rw [IntWalk.i64_in _ (by omega)]; exact hM2
      have hM20 : 0 ≤ M2 := by omega
      have hM21 : M2 ≤ 1048576 := by omega
      rw [hM2] at hmv2
      have hS2 := hS.ext hy
      have K0 := fun W h => comesC a b S wo hS2 hok HSS.out p (by omega) hag W h
      have HV := Lib.hid hv
      have HMV := Lib.hid hmv
      have HMV2 := Lib.hid hmv2
      clear hv hmv hmv2 hag hM2
      go_upto_region 15 with fail
      go_cut [82] (fun s wx => s = .bool false ∧ Ext wo wx)
      case first =>
        have hmv := HMV.out
        have hmv2 := HMV2.out
        clear HMV HMV2 HV
        cases v
        all_goals
          have K1 := fun W h => hasC _ _ S wo hS2 hok m hm0 (by omega) _ hmv W h
          have K2 := fun W h => hasC _ _ S wo hS2 hok M2 hM20 hM21 _ hmv2 W h
          clear hmv hmv2
          go_region_held3 (fun W' => W'.cell? ⟨w.heap.size, 0, none⟩ = some a ∧ W'.cell? ⟨w.heap.size, 1, none⟩ = some b ∧ Ext wo W')
            ((refine ⟨Ext.cell (w := wo) ?_ d0, Ext.cell (w := wo) ?_ d1, ?_⟩; all_goals exact (by repeat (first | exact Ext.refl _ | assumption | refine Ext.alloc ?_ _ | refine Ext.drew ?_ | refine Ext.drewN _ ?_ | refine Ext.trans ?_ (by assumption)))))
            ((first | (go_at_call 58; (with_reducible refine (K0 _ ?_).mono ?_); (focus (exact (by repeat (first | exact Ext.refl _ | assumption | refine Ext.alloc ?_ _ | refine Ext.drew ?_ | refine Ext.drewN _ ?_ | refine Ext.trans ?_ (by assumption))))); rintro e w' ⟨rfl, hz⟩) | (go_at_call 56; first | ((with_reducible refine (K1 _ ?_).mono ?_); (focus (exact (by repeat (first | exact Ext.refl _ | assumption | refine Ext.alloc ?_ _ | refine Ext.drew ?_ | refine Ext.drewN _ ?_ | refine Ext.trans ?_ (by assumption))))); rintro e w' ⟨rfl, hz⟩) | ((with_reducible refine (K2 _ ?_).mono ?_); (focus (exact (by repeat (first | exact Ext.refl _ | assumption | refine Ext.alloc ?_ _ | refine Ext.drew ?_ | refine Ext.drewN _ ?_ | refine Ext.trans ?_ (by assumption))))); rintro e w' ⟨rfl, hz⟩))))
          all_goals
            go_wp2_with fail
            go_meet
            case rel => exact ⟨rfl, (by repeat (first | exact Ext.refl _ | assumption | refine Ext.alloc ?_ _ | refine Ext.drew ?_ | refine Ext.drewN _ ?_ | refine Ext.trans ?_ (by assumption)))⟩
      case rest =>
        obtain ⟨rfl, hz⟩ := hcut
        replace d0 := hz.cell d0
        replace d1 := hz.cell d1
        replace r0 := hz.cell r0
        replace r1 := hz.cell r1
        replace hy := hy.trans hz
        replace hS := hS.ext hy
        replace hT := hT.ext hy
        replace hx := hx.trans hy
        replace hm := hm.ext hy
        clear hy hz K0 hw2 hM20 hM21 hS2
        go_wp2_with fail
        go_loopw [11, 12] (fun r i wr => ∃ n : Nat, n ≤ p ∧ r = .int .i64 (rnN F p n) ∧ i = .int .i64 n ∧ Ext wc wr) (fun _ i _ => p - (intOf i).toNat)
        case atStart => exact ⟨0, by omega, by rw [rn_0]; rfl, rfl, (by repeat (first | exact Ext.refl _ | assumption | refine Ext.alloc ?_ _ | refine Ext.drew ?_ | refine Ext.drewN _ ?_ | refine Ext.trans ?_ (by assumption)))⟩
        case round =>
          obtain ⟨n, hn, rfl, rfl, hy⟩ := hrel
          obtain ⟨wq, rfl⟩ : ∃ wq : World, wq = wr := ⟨_, rfl⟩
          have hrle := rn_le F p n
          by_cases hlt : n < p
          · obtain ⟨x, hx1⟩ : ∃ x, F n = x := ⟨_, rfl⟩
            obtain ⟨y, hy1⟩ : ∃ y, F ((n + p - 1) % p) = y := ⟨_, rfl⟩
            have hmx : mem S ((n : Int) + (p : Int)) = x := by rw [show (n : Int) + (p : Int) = ((n + p : Nat) : Int) by omega, HMW.out, HL.out.again]; exact hx1
            have hmy : mem S ((n : Int) + (p : Int) - 1) = y := by rw [show (n : Int) + (p : Int) - 1 = ((n + p - 1 : Nat) : Int) by omega, HMW.out, ← HL.out.again.mod]; exact hy1
            have hnx : (x = true → y = false → rnN F p (n + 1) = rnN F p n + 1) ∧ (x = false ∨ y = true → rnN F p (n + 1) = rnN F p n) := by
              subst hx1; subst hy1
              exact ⟨rn_t hlt, rn_f⟩
            have e0 := hy.cell d0
            have e1 := hy.cell d1
            obtain ⟨R, hR⟩ : ∃ R, rnN F p n = R := ⟨_, rfl⟩
            rw [hR] at hnx hrle ⊢
            have HNX := Lib.hid hnx
            have HMY := Lib.hid hmy
            have HMX := Lib.hid hmx
            clear hR hx1 hy1 hnx hmy hmx
            go_wp2_with fail
            refine (hasC a b S wc hS hok ((n : Int) + (p : Int)) (by omega) (by omega) x HMX.out _ hy).mono ?_
            rintro e w6 ⟨rfl, hz⟩
            replace hy := hy.trans hz
            replace e0 := hz.cell e0
            replace e1 := hz.cell e1
            clear hz
            cases x
            · have hnx : rnN F p (n + 1) = R := by have := HNX.out; simpa using this
              have HN2 := Lib.hid hnx
              clear hnx
              go_wp2_with fail
              go_roundw
              case rel => exact ⟨n + 1, by omega, by rw [HN2.out], by go_num, hy⟩
              case measure => simp [intOf]; omega
            · go_wp2_with fail
              refine (hasC a b S wc hS hok ((n : Int) + (p : Int) - 1) (by omega) (by omega) y HMY.out _ hy).mono ?_
              rintro e w7 ⟨rfl, hz⟩
              replace hy := hy.trans hz
              clear hz
              cases y
              · have hnx : rnN F p (n + 1) = R + 1 := by have := HNX.out; simpa using this
                have HN2 := Lib.hid hnx
                clear hnx
                go_wp2_with fail
                go_roundw
                case rel => exact ⟨n + 1, by omega, by rw [HN2.out]; go_num, by go_num, hy⟩
                case measure => simp [intOf]; omega
              · have hnx : rnN F p (n + 1) = R := by have := HNX.out; simpa using this
                have HN2 := Lib.hid hnx
                clear hnx
                go_wp2_with fail
                go_roundw
                case rel => exact ⟨n + 1, by omega, by rw [HN2.out], by go_num, hy⟩
                case measure => simp [intOf]; omega
          · have hnp : n = p := by omega
            have hnl : ¬ (n : Int) < (p : Int) := by omega
            obtain ⟨R, hR⟩ : ∃ R, rnN F p n = R := ⟨_, rfl⟩
            rw [hR] at hrle ⊢
            rw [hnp] at hR
            have hr2 := HRN.out
            rw [hR] at hr2
            have HR2 := Lib.hid hr2
            clear hR hr2
            rcases HFE.out with ⟨h24, rfl, rfl⟩ | ⟨h24, rfl, rfl⟩
            · have hR24 : (24 : Int) < (R : Int) := by have := HR2.out.2 h24; omega
              go_wp2_with fail
              refine (sanity_any _ (hT.ext hy)).mono ?_
              rintro e w6 ⟨rfl, hz⟩
              go_wp2_with fail
              go_ret
              exact ⟨ret_bool (by simp), hx.trans (hy.trans hz)⟩
            · skip
              have hset := HSET.out h24
              have HSE := Lib.hid hset
              obtain ⟨hmt, hms⟩ := hm
              have hmt2 : TurnsAt wc (.slice aa1 T.length ca1) T := hmt
              have r0' : wc.cell? ⟨Bf, 0, none⟩ = some (.slice aa1 T.length ca1) := r0
              have r1' : wc.cell? ⟨Bf, 1, none⟩ = some (.slice ab1 0 cb1) := r1
              have hm2 : MinsAt wc (.slice aa1 T.length ca1) (.slice ab1 0 cb1) ⟨T, []⟩ := ⟨hmt, hms⟩
              clear hset r0 r1 hmt hms
              have r0 := hy.cell r0'
              have r1 := hy.cell r1'
              replace d0 := hy.cell d0
              replace d1 := hy.cell d1
              replace hS := hS.ext hy
              replace hT := hT.ext hy
              replace hx := hx.trans hy
              replace hm2 := hm2.ext hy
              replace hmt2 := hmt2.ext hy
              clear r0' r1' hy
              go_wp2_with fail
              go_loopw [13, 14, 118] (fun _ _ i wr => ∃ k : Nat, k ≤ T.length ∧ i = .int .i64 k ∧ Ext wq wr) (fun _ _ i _ => T.length - (intOf i).toNat)
              case atStart => exact ⟨0, by omega, rfl, (by repeat (first | exact Ext.refl _ | assumption | refine Ext.alloc ?_ _ | refine Ext.drew ?_ | refine Ext.drewN _ ?_ | refine Ext.trans ?_ (by assumption)))⟩
              case round =>
                obtain ⟨k, hk, rfl, hy⟩ := hrel
                obtain ⟨wv, rfl⟩ : ∃ wv : World, wv = wr := ⟨_, rfl⟩
                by_cases hkl : k < T.length
                · obtain ⟨bb, o, rfl, c0, c1, c2⟩ := (hmt2.ext hy).get k hkl
                  have hp := (HTP.out T[k] (List.getElem_mem _)).2
                  rw [hp] at c0
                  obtain ⟨f1, hf1⟩ : ∃ f1, T[k].f = f1 := ⟨_, rfl⟩
                  obtain ⟨l1, hl1⟩ : ∃ l1, T[k].l = l1 := ⟨_, rfl⟩
                  have e0 := hy.cell r0
                  have e1 := hy.cell r1
                  rw [hf1] at c1
                  rw [hl1] at c2
                  by_cases hk0 : k = 0
                  · have hz : (k : Int) = 0 := by omega
                    rw [hk0] at c0 c1 c2
                    simp only [Nat.zero_mul, Nat.add_zero] at c0 c1 c2
                    have hT0 : (0 : Int) < (T.length : Int) := by omega
                    have hT1 : 0 < T.length := by omega
                    rw [hz]
                    clear hf1 hl1 hp hz hk0
                    go_wp2_with fail
                    go_quiet (fail)
                    go_wp2_with fail
                    go_roundw
                    case rel => exact ⟨1, by omega, by go_num, Ext.trans hy (by repeat (first | exact Ext.refl _ | assumption | refine Ext.alloc ?_ _ | refine Ext.drew ?_ | refine Ext.drewN _ ?_ | refine Ext.trans ?_ (by assumption)))⟩
                    case measure => simp [intOf]; omega
                  · obtain ⟨j, hj⟩ : ∃ j : Nat, k = j + 1 := ⟨k - 1, by omega⟩
                    obtain ⟨bb', o', hbo, h7, c4, h8⟩ := (hmt2.ext hy).get j (by omega)
                    simp only [Option.some.injEq, Addr.mk.injEq, and_true] at hbo
                    obtain ⟨rfl, rfl⟩ := hbo
                    have hasc : T[j].f < f1 := by rw [← hf1]; subst hj; exact HASC.out j (by omega) hkl
                    obtain ⟨f0, hf0⟩ : ∃ f0, T[j].f = f0 := ⟨_, rfl⟩
                    rw [hf0] at hasc c4
                    have hkj : (k : Int) - 1 = (j : Int) := by omega
                    have hwj : IntKind.i64.wrap ((k : Int) - 1) = (j : Int) := by rw [hkj]; exact IntWalk.i64_in _ (by omega)
                    have hkp : (0 : Int) < (k : Int) := by omega
                    have hjl : j < T.length := by omega
                    clear hf1 hl1 hp hf0 h7 h8 hj
                    have hji : (j : Int) < (T.length : Int) := by omega
                    have hle : decide (f1 ≤ f0) = false := decide_eq_false (by omega)
                    have hkT : (k : Int) < (T.length : Int) := by omega
                    have g0 : (wv.alloc (.cells #[.int .i64 p, .int .i64 f1, .int .i64 l1] 23)).cell? ⟨Bf, 0, none⟩ = some (.slice (some ⟨bb, o, none⟩) T.length ca1) := Ext.cell (by repeat (first | exact Ext.refl _ | assumption | refine Ext.alloc ?_ _ | refine Ext.drew ?_ | refine Ext.drewN _ ?_ | refine Ext.trans ?_ (by assumption))) e0
                    have g4 : (wv.alloc (.cells #[.int .i64 p, .int .i64 f1, .int .i64 l1] 23)).cell? ⟨bb, o + j * 3 + 1, none⟩ = some (.int .i64 f0) := Ext.cell (by repeat (first | exact Ext.refl _ | assumption | refine Ext.alloc ?_ _ | refine Ext.drew ?_ | refine Ext.drewN _ ?_ | refine Ext.trans ?_ (by assumption))) c4
                    go_wp2_with fail
                    obtain ⟨K, hK⟩ : ∃ K : Int, (k : Int) = K := ⟨_, rfl⟩
                    rw [hK] at hwj hkp hkj ⊢
                    have HK := Lib.hid hK
                    clear hK hkT
                    go_quiet (fail)
                    go_wp2_with fail
                    go_roundw
                    case rel => exact ⟨k + 1, by omega, by rw [← HK.out]; go_num, Ext.trans hy (by repeat (first | exact Ext.refl _ | assumption | refine Ext.alloc ?_ _ | refine Ext.drew ?_ | refine Ext.drewN _ ?_ | refine Ext.trans ?_ (by assumption)))⟩
                    case measure => have hKK := HK.out; simp [intOf]; omega
                · skip
                  have hkn : ¬ (k : Int) < (T.length : Int) := by omega
                  have hTl : T.length ≤ 24 := h24
                  replace r0 := hy.cell r0
                  replace r1 := hy.cell r1
                  replace d0 := hy.cell d0
                  replace d1 := hy.cell d1
                  replace hm2 := hm2.ext hy
                  replace hS := hS.ext hy
                  replace hT := hT.ext hy
                  replace hx := hx.trans hy
                  clear hy
                  go_wp2_with fail
                  refine (Period_any _ _ ⟨T, []⟩ _ hm2).mono ?_
                  rw [HSE.out.2.2.2.1, HSE.out.1]
                  rintro e w8 ⟨rfl, hz⟩
                  replace r0 := hz.cell r0
                  replace r1 := hz.cell r1
                  replace d0 := hz.cell d0
                  replace d1 := hz.cell d1
                  replace hm2 := hm2.ext hz
                  replace hS := hS.ext hz
                  replace hT := hT.ext hz
                  replace hx := hx.trans hz
                  clear hz
                  have okT : Ok ⟨T, []⟩ := Ok.of HSE.out.2.2.2.2
                  have hmT : mem ⟨T, []⟩ m = v := by
                    have := mem_whl (S := ⟨T, []⟩) rfl m.toNat
                    rw [show ((m.toNat : Nat) : Int) = m by omega, HSE.out.2.1] at this
                    rw [this]; exact HV.out
                  have hYt : m.tmod (p : Int) = ((m.toNat % p : Nat) : Int) := by rw [Int.tmod_eq_emod_of_nonneg hm0, Int.natCast_emod, Int.toNat_of_nonneg hm0]
                  have hYl : m.toNat % p < p := Nat.mod_lt _ (by omega)
                  have hmY : mem ⟨T, []⟩ ((m.toNat % p : Nat) : Int) = v := by rw [mem_whl (S := ⟨T, []⟩) rfl, HSE.out.2.1, HL.out.again.mod]; exact HV.out
                  obtain ⟨Y, hY⟩ : ∃ Y, m.toNat % p = Y := ⟨_, rfl⟩
                  rw [hY] at hYt hYl hmY
                  have hpz : ¬ (p : Int) = 0 := by omega
                  have hpn : ¬ p = 0 := by omega
                  have hpb : ((p : Int) == 0) = false := by rw [beq_eq_false_iff_ne]; exact hpz
                  have hmx : max (1 : Int) (R : Int) = (T.length : Int) := by have := HR2.out.1; omega
                  have hmv := HMV.out
                  clear hY HMV HMV2 HV
                  cases v
                  all_goals
                    have K1 := fun W h => hasC _ _ S w8 hS hok m hm0 (by omega) _ hmv W h
                    have K2 := fun W h => hasC _ _ ⟨T, []⟩ w8 hm2 okT m hm0 (by omega) _ hmT W h
                    have K3 := fun W h => hasC _ _ ⟨T, []⟩ w8 hm2 okT (Y : Int) (by omega) (by omega) _ hmY W h
                    clear hmv hmT hmY
                    go_wp2_with fail
                    go_region_held3 (fun W' => W'.cell? ⟨w.heap.size, 0, none⟩ = some a ∧ W'.cell? ⟨w.heap.size, 1, none⟩ = some b ∧ W'.cell? ⟨Bf, 0, none⟩ = some (.slice aa1 T.length ca1) ∧ W'.cell? ⟨Bf, 1, none⟩ = some (.slice ab1 0 cb1) ∧ Ext w8 W')
                      ((refine ⟨Ext.cell (w := w8) ?_ d0, Ext.cell (w := w8) ?_ d1, Ext.cell (w := w8) ?_ r0, Ext.cell (w := w8) ?_ r1, ?_⟩; all_goals exact (by repeat (first | exact Ext.refl _ | assumption | refine Ext.alloc ?_ _ | refine Ext.drew ?_ | refine Ext.drewN _ ?_ | refine Ext.trans ?_ (by assumption)))))
                      ((first | (go_at_call 19; refine (sanity_any _ (hT.ext (by repeat (first | exact Ext.refl _ | assumption | refine Ext.alloc ?_ _ | refine Ext.drew ?_ | refine Ext.drewN _ ?_ | refine Ext.trans ?_ (by assumption))))).mono ?_; rintro e w' ⟨rfl, hz⟩) | (go_at_call 56; first | ((with_reducible refine (K1 _ ?_).mono ?_); (focus (exact (by repeat (first | exact Ext.refl _ | assumption | refine Ext.alloc ?_ _ | refine Ext.drew ?_ | refine Ext.drewN _ ?_ | refine Ext.trans ?_ (by assumption))))); rintro e w' ⟨rfl, hz⟩) | ((with_reducible refine (K2 _ ?_).mono ?_); (focus (exact (by repeat (first | exact Ext.refl _ | assumption | refine Ext.alloc ?_ _ | refine Ext.drew ?_ | refine Ext.drewN _ ?_ | refine Ext.trans ?_ (by assumption))))); rintro e w' ⟨rfl, hz⟩) | ((with_reducible refine (K3 _ ?_).mono ?_); (focus (exact (by repeat (first | exact Ext.refl _ | assumption | refine Ext.alloc ?_ _ | refine Ext.drew ?_ | refine Ext.drewN _ ?_ | refine Ext.trans ?_ (by assumption))))); rintro e w' ⟨rfl, hz⟩))))
                    all_goals
                      go_wp2_with fail
                      go_ret
                      exact ⟨ret_bool (by simp), Ext.trans hx (by repeat (first | exact Ext.refl _ | assumption | refine Ext.alloc ?_ _ | refine Ext.drew ?_ | refine Ext.drewN _ ?_ | refine Ext.trans ?_ (by assumption)))⟩
set_option maxRecDepth 100000 in
set_option maxHeartbeats 4000000 in
theorem Again_err (a b : Value) (S : Mn) (m : Int) (w : World) (hT : Tab w) (hS : MinsAt w a b S) (hf : fewB S = true) (hs : soonB S 2520 = true) (hW : whlE S ≠ 0) :
    Calls Tryd.prog 13 #[.agg #[a, b], .int .u16 m] w fun e w' => e = .returned (.bool true) ∧ Ext w w' := by
  have HF := Lib.hid hf
  have HS := Lib.hid hs
  have hE : fewE S = whlE S := by unfold fewE; rw [if_neg hW]
  obtain ⟨E, hEE⟩ : ∃ E, whlE S = E := ⟨_, rfl⟩
  obtain ⟨N, hN⟩ : ∃ N, perX S = N := ⟨_, rfl⟩
  rw [hEE] at hE hW
  have hEb : (E != 0) = true := by simpa using hW
  have HE := Lib.hid hE
  have HEE := Lib.hid hEE
  have HN := Lib.hid hN
  clear hf hs hE hEE hN
  go_enter Tryd.func13, Tryd.ntmps13
  go_wp2_with fail
  refine (few_any _ _ S _ (hS.ext (by repeat (first | exact Ext.refl _ | assumption | refine Ext.alloc ?_ _ | refine Ext.drew ?_ | refine Ext.drewN _ ?_ | refine Ext.trans ?_ (by assumption))))).mono ?_
  rw [HF.out]
  rintro e w1 ⟨rfl, hx1⟩
  obtain ⟨q0, hx, hzz⟩ := alloc1 hx1
  have d0 : w1.cell? ⟨w.heap.size, 0, none⟩ = some a := q0.cell 0
  have d1 : w1.cell? ⟨w.heap.size, 1, none⟩ = some b := q0.cell 1
  clear hx1 q0 hzz
  go_wp2_with fail
  refine (soon_any _ _ S 2520 _ (hS.ext hx)).mono ?_
  rw [HS.out]
  rintro e w2 ⟨rfl, hy⟩
  replace d0 := hy.cell d0
  replace d1 := hy.cell d1
  replace hx := hx.trans hy
  clear hy
  go_wp2_with fail
  refine (Period_any _ _ S _ (hS.ext hx)).mono ?_
  rw [HN.out, HEE.out]
  rintro e w3 ⟨rfl, hy⟩
  replace d0 := hy.cell d0
  replace d1 := hy.cell d1
  replace hx := hx.trans hy
  clear hy
  go_wp2_with fail
  refine (Fewest_any _ _ S _ (hS.ext hx)).mono ?_
  intro e w5 hpp
  replace hpp : FewPost S w3 e w5 := hpp
  revert hpp
  unfold FewPost
  rw [HE.out]
  rintro ⟨va, vb, rfl, hm, hy⟩
  obtain ⟨aa1, ca1, rfl⟩ := hm.t.len
  obtain ⟨ab1, cb1, rfl⟩ := hm.s.len
  obtain ⟨X, hX⟩ : ∃ X, fewX S = X := ⟨_, rfl⟩
  rw [hX] at hm ⊢
  replace hx := hx.trans hy
  clear hy hm hX d0 d1
  go_wp2_with fail
  refine (sanity_any _ (hT.ext (Ext.trans hx (by repeat (first | exact Ext.refl _ | assumption | refine Ext.alloc ?_ _ | refine Ext.drew ?_ | refine Ext.drewN _ ?_ | refine Ext.trans ?_ (by assumption)))))).mono ?_
  rintro e w6 ⟨rfl, hz⟩
  go_wp2_with fail
  go_ret
  exact ⟨ret_bool (by simp), Ext.trans (Ext.trans hx (by repeat (first | exact Ext.refl _ | assumption | refine Ext.alloc ?_ _ | refine Ext.drew ?_ | refine Ext.drewN _ ?_ | refine Ext.trans ?_ (by assumption)))) hz⟩

set_option maxRecDepth 100000 in
set_option maxHeartbeats 4000000 in
theorem TurnAgain_any (a b : Value) (S : Mn) (m : Int) (w : World) (hT : Tab w) (hS : MinsAt w a b S) (hu : (Lit.int .u16 m).wf = true) :
    Calls Tryd.prog 13 #[.agg #[a, b], .int .u16 m] w fun e w' => e = .returned (.bool true) ∧ Ext w w' := by
  have hu2 : 0 ≤ m ∧ m ≤ 65535 := by
    have h := hu
    simp only [Lit.wf, Bool.and_eq_true, decide_eq_true_eq] at h
    exact ⟨h.1, h.2⟩
  cases hf : fewB S
  · go_enter Tryd.func13, Tryd.ntmps13
    go_wp2_with fail
    refine (few_any _ _ S _ (hS.ext (by repeat (first | exact Ext.refl _ | assumption | refine Ext.alloc ?_ _ | refine Ext.drew ?_ | refine Ext.drewN _ ?_ | refine Ext.trans ?_ (by assumption))))).mono ?_
    rw [hf]
    rintro e w1 ⟨rfl, hx1⟩
    go_wp2_with fail
    refine (sanity_any _ (hT.ext (Ext.trans (by repeat (first | exact Ext.refl _ | assumption | refine Ext.alloc ?_ _ | refine Ext.drew ?_ | refine Ext.drewN _ ?_ | refine Ext.trans ?_ (by assumption))) hx1))).mono ?_
    rintro e w2 ⟨rfl, hx2⟩
    go_wp2_with fail
    go_ret
    exact ⟨rfl, (Ext.trans (by repeat (first | exact Ext.refl _ | assumption | refine Ext.alloc ?_ _ | refine Ext.drew ?_ | refine Ext.drewN _ ?_ | refine Ext.trans ?_ (by assumption))) hx1).trans hx2⟩
  · cases hs : soonB S 2520
    · go_enter Tryd.func13, Tryd.ntmps13
      go_wp2_with fail
      refine (few_any _ _ S _ (hS.ext (by repeat (first | exact Ext.refl _ | assumption | refine Ext.alloc ?_ _ | refine Ext.drew ?_ | refine Ext.drewN _ ?_ | refine Ext.trans ?_ (by assumption))))).mono ?_
      rw [hf]
      rintro e w1 ⟨rfl, hx1⟩
      obtain ⟨q0, hx, hzz⟩ := alloc1 hx1
      have d0 : w1.cell? ⟨w.heap.size, 0, none⟩ = some a := q0.cell 0
      have d1 : w1.cell? ⟨w.heap.size, 1, none⟩ = some b := q0.cell 1
      clear hx1 q0 hzz
      go_wp2_with fail
      refine (soon_any _ _ S 2520 _ (hS.ext hx)).mono ?_
      rw [hs]
      rintro e w2 ⟨rfl, hy⟩
      go_wp2_with fail
      refine (sanity_any _ (hT.ext (hx.trans hy))).mono ?_
      rintro e w3 ⟨rfl, hz⟩
      go_wp2_with fail
      go_ret
      exact ⟨rfl, (hx.trans hy).trans hz⟩
    · by_cases hW : whlE S = 0
      · exact Again_main a b S m w hT hS hf hs hW hu2.1 hu2.2
      · exact Again_err a b S m w hT hS hf hs hW
end Go.Proofs.YtejmmfjabmmihaaDoor
namespace Go.Proofs.YtejmmfjabmmihaaDoor.turnAgain
open Go.ChangeShapes Go.WideShapes Go.ChangeAt Go.RowKit

set_option maxRecDepth 100000 in
theorem contract (H : Type) (enc : TypeId × Value → H) (W : World) (base : Nat) (args : Array Value) (ds gs : List (DataW H)) (before : List MemPlace)
    (hval : ∀ (j : Nat) t v, Tryd.f13.params[j]? = some t → args[j]? = some v → Value.okWide Tryd.prog W .any base t v)
    (hW : DataW.Whole enc Tryd.prog Tryd.f13.params.toList Rows.turnAgainSpec.vars false W args.toList ds gs before) (hL : laidMetH Tryd.prog Rows.turnAgainRow.laid W) :
    Calls Tryd.prog 13 args W fun e W' => ∃ v, e = .returned v ∧ Rows.turnAgainSpec.post enc Tryd.prog Tryd.f13 false true false false W args v W' := by
  have hW' := hW
  obtain ⟨p, q, hA, hV, rfl, hfz, hnd⟩ := hW
  rw [show Tryd.f13.params = #[34, 44] from rfl] at hA hval
  obtain ⟨v0, vs0, d0, ds0, p0, q0, hargs, rfl, rfl, h0, r0⟩ := trodAll_cons hA
  obtain ⟨v1, vs1, d1, ds1, p1, q1, rfl, rfl, rfl, h1, r1⟩ := trodAll_cons r0
  obtain ⟨rfl, rfl, rfl⟩ := trodAll_nil r1
  obtain rfl : args = #[v0, v1] := by cases args; simp_all
  obtain ⟨rfl, rfl⟩ := trodVars_none hV
  obtain ⟨x0, y0, S0, rfl, hS0⟩ := open_minutes (hval 0 34 v0 rfl rfl) h0
  obtain ⟨x1, rfl, hd1, hp1, hf1⟩ := open_int Tryd.underlying44 (hval 1 44 v1 rfl rfl) h1
  refine (TurnAgain_any _ _ S0 _ W (tab_of hL) hS0 hf1).mono fun e W' ⟨he, hg⟩ => ?_
  subst he
  refine ⟨_, rfl, post_true hW' rfl rfl ⟨rfl, rfl, rfl⟩ ?_ hg⟩
  rw [show Tryd.f13.params = #[34, 44] from rfl]
  intro t ht
  simp only [List.mem_cons, List.not_mem_nil, or_false] at ht
  rcases ht with rfl | rfl <;> exact ⟨by kernel_rfl, of_decide_eq_true (by kernel_rfl)⟩

noncomputable def wArgs : Array Value := #[.agg #[.slice none 0 0, .slice none 0 0], .int .u16 0]
set_option maxRecDepth 100000 in
theorem laid_met (os : Os) : laidMet Tryd.prog Rows.turnAgainRow.laid ((laidWorld os).forCall (fun _ _ => 0) ⟨#[], wArgs, []⟩).memory :=
  laidMet_of_run' 8 (by kernel_rfl) (by kernel_rfl)
set_option maxRecDepth 100000 in
theorem reads (os : Os) {H : Type} (enc : TypeId × Value → H) : ∃ x places, DataW.whole enc Tryd.prog ((laidWorld os).forCall (fun _ _ => 0) ⟨#[], wArgs, []⟩).memory Tryd.f13.params.toList Rows.turnAgainSpec.vars false wArgs.toList 8 = some (x, [], places) :=
  ⟨[.agg [.nil, .nil], .lit (.int .u16 0)], [], by kernel_rfl⟩

set_option maxRecDepth 100000 in
theorem lifted (os : Os) (started : os.Started) (H : Type) (enc : TypeId × Value → H) (F : Stop.Interp) :
    ReturnsInHanded {} Tryd.checked os 13 .any ((OpenSpec.ofChange Rows.turnAgainSpec).preRow enc Tryd.prog Tryd.f13 Rows.turnAgainRow.domain false Rows.turnAgainRow.laid) (((OpenSpec.ofChange Rows.turnAgainSpec).at F).post enc Tryd.prog Tryd.f13 false true false false) := by
  obtain ⟨x, places, hx⟩ := reads os enc
  refine returnsInHanded_of_row (C := Tryd.checked) (s := OpenSpec.ofChange Rows.turnAgainSpec) own started (by kernel_rfl) Tryd.func13
    (witness_row_at (enc := enc) (C := Tryd.checked) false (laidWorld os) wArgs rfl (by kernel_rfl) (by kernel_rfl) (by kernel_rfl)
      (OpenSpec.preRow_of_cond 8 hx (by kernel_rfl) (fun k hk => by cases hk) (by kernel_rfl) (laid_met os))) ?_
  intro W base args ds gs before hval hW _ _ _ hL _ _
  exact contract H enc W base args ds gs before hval hW hL

set_option maxRecDepth 100000 in
theorem said : Rows.TurnAgainSaid :=
  OpenClaim.holds_of_cond 13 Tryd.f13 rfl rfl rfl rfl rfl rfl rfl ⟨rfl, rfl, rfl, rfl, rfl⟩ rfl rfl rfl rfl rfl (by kernel_rfl) Tryd.func13 (by kernel_rfl)
    (of_decide_eq_true (by kernel_rfl)) (by unfold Func.isWrapper; first | (rw [if_pos (by decide +kernel)]; kernel_rfl) | (rw [if_neg (by decide +kernel)]; exact ⟨rfl, rfl⟩))
    (fun os started H enc _ F => by rw [OpenClaim.pre_eq_preRow]; exact lifted os started H enc F)

set_option maxRecDepth 100000 in
theorem plain (f : FuncId) (fn : Func) (hf : Tryd.pinned.checked.prog.funcNamed "drowner/drownerlaw01.TurnAgain" = some f) (hfn : Tryd.pinned.checked.prog.funcs[f]? = some fn) :
    false = Tryd.pinned.checked.prog.looks [] ∧ ∀ (j : Nat) t, fn.params[j]? = some t → Tryd.pinned.checked.prog.wantsStandIn t = false := by
  obtain rfl : f = 13 := Option.some.inj ((show Tryd.prog.funcNamed "drowner/drownerlaw01.TurnAgain" = some 13 by kernel_rfl).symm.trans hf) |>.symm
  obtain rfl : fn = Tryd.f13 := (Option.some.inj (Tryd.func13.symm.trans hfn)).symm
  refine ⟨by kernel_rfl, fun j t ht => ?_⟩
  rw [show Tryd.f13.params = #[34, 44] from rfl] at ht
  have hm := Array.mem_of_getElem? ht
  simp only [List.mem_toArray, List.mem_cons, List.not_mem_nil, or_false] at hm
  rcases hm with rfl | rfl
  · exact (show Tryd.prog.wantsStandIn 34 = false by kernel_rfl)
  · exact (show Tryd.prog.wantsStandIn 44 = false by kernel_rfl)

set_option maxRecDepth 100000 in
theorem card : Rows.TurnAgainCardSaid :=
  Claim7.holds_tied_plain_at .later [] _ _ _ _ said (fun _ h => by cases h) (by kernel_rfl) (fun _ h => by cases h) turnAgain_row_tie rfl ⟨rfl, rfl⟩ (by kernel_rfl) rfl plain (by kernel_rfl)
end Go.Proofs.YtejmmfjabmmihaaDoor.turnAgain
