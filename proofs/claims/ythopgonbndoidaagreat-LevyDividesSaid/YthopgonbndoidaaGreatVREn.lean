/- enough of the specification. -/
import Derived.Test.YthopgonbndoidaaGreatVPnP
import Derived.Test.YthopgonbndoidaaGreatVRFai
namespace Go.Proofs.YthopgonbndoidaaGreat
open Go.RowKit Go.Shelf Go.Lib

theorem usrL_used (T : Tr) (k : Nat) : 0 < (usrL T.rs k T.ps).length ↔ usedB T k = true := by
  unfold usedB
  rw [List.any_eq_true]
  constructor
  · intro h
    obtain ⟨u, hu⟩ := List.exists_mem_of_length_pos h
    obtain ⟨p, hp, h1, _⟩ := usrL_mem.1 hu
    exact ⟨p, hp, h1⟩
  · rintro ⟨p, hp, h1⟩
    exact List.length_pos_of_mem (usrL_mem.2 ⟨p, hp, h1, rfl⟩)
theorem hsL_take_bd {T : Tr} {l : List Int} (k : Nat) (hb : ∀ n ∈ l, 0 ≤ n ∧ n ≤ 1073741824) (hl : l.length ≤ 24) (j : Nat) : 0 ≤ hsL T k ((T.ps.zip l).take j) ∧ hsL T k ((T.ps.zip l).take j) ≤ 25769803776 := by
  have key : ∀ z : List (Py × Int), (∀ q ∈ z, 0 ≤ q.2 ∧ q.2 ≤ 1073741824) → 0 ≤ hsL T k z ∧ hsL T k z ≤ z.length * 1073741824 := fun z => by
    induction z using snoc_ind with
    | h0 => intro _; simp [hsL]
    | h1 z q ih =>
      intro h
      have i := ih (fun q hq => h q (by simp [hq]))
      have j := h q (by simp)
      rw [hsL_snoc, List.length_append, List.length_singleton]
      unfold hsS
      push_cast
      split <;> omega
  have h := key _ (zip_bd (T := T) hb j)
  have hlen : ((T.ps.zip l).take j).length ≤ 24 := by simp; omega
  have : (((T.ps.zip l).take j).length : Int) * 1073741824 ≤ 24 * 1073741824 := Int.mul_le_mul_of_nonneg_right (by omega) (by decide)
  omega
theorem csK_bd {T : Tr} (hok : Ok T) (k j : Nat) (hj : j ≤ 24) : 0 ≤ csK T k j ∧ csK T k j ≤ 1572864 := by
  have h := sumR_bd (n := j) (f := csF T k) (M := 65536) (fun x _ => by
    have := cst_bd hok.rv x
    unfold csF
    split <;> omega)
  have : (j : Int) * 65536 ≤ 24 * 65536 := Int.mul_le_mul_of_nonneg_right (by omega) (by decide)
  unfold csK
  omega
theorem csK_low {T : Tr} (hok : Ok T) {k : Nat} : ∀ j, j ≤ k → j ≤ T.rs.length → csK T k j = 0
  | 0, _, _ => rfl
  | j + 1, h, hl => by
    have hno : usB T.rs j k = false := by
      rw [Bool.eq_false_iff]
      intro hu
      have := upL_bd hok.rv (j + 1) j (by omega) (by omega) _ (usB_t.1 hu)
      omega
    show csK T k j + csF T k j = 0
    rw [csK_low hok j (by omega) (by omega)]
    unfold csF
    rw [hno]
    rfl
set_option maxRecDepth 100000 in
set_option maxHeartbeats 16000000 in
theorem refEnough_any (a b vl vh : Value) (T : Tr) (hok : Ok T) (lo hi : List Int) (w : World) (hT : TrAt w a b T) (hlo : IntsAt w vl lo) (hhi : IntsAt w vh hi) (hll : lo.length = T.ps.length) (hhl : hi.length = T.ps.length)
    (hbl : ∀ n ∈ lo, 0 ≤ n ∧ n ≤ 1073741824) (hbh : ∀ n ∈ hi, 0 ≤ n ∧ n ≤ 1073741824) :
    Calls Tryz.prog 92 #[.agg #[a, b], vl, vh] w fun e w' => e = .returned (.bool (enB T lo hi)) ∧ Ext w w' := by
  have hE : enB T lo hi = (ovX T lo == 0 && (List.range T.rs.length).all (fun k => !usedB T k || decide (0 ≤ dX T hi k))) := rfl
  have KO := fun W (h : Ext w W) => refObjection0_any a b vl T hok lo W (hT.ext h) (hlo.ext h) hll hbl
  have KU := fun (k : Nat) W (h : Ext w W) => refUsers_any a b T hok k W (hT.ext h)
  have KS := fun (fr k : Int) h1 h2 W (h : Ext w W) => refUses_any a b T hok.rv fr k W (hT.ext h) h1 h2
  have hov := ovX_bd hok hbl
  obtain ⟨aa, ca, rfl, hla⟩ := hT.r.len
  obtain ⟨ab, cb, rfl, hlb⟩ := hT.p.len
  obtain ⟨ah, ch, rfl, hlh⟩ := hhi.len
  have hlr := hok.lr
  have hlp := hok.lp
  have hzl : (T.ps.zip hi).length = hi.length := by simp; omega
  obtain ⟨X, hX⟩ : ∃ X, enB T lo hi = X := ⟨_, rfl⟩
  obtain ⟨O, hO⟩ : ∃ X, ovX T lo = X := ⟨_, rfl⟩
  obtain ⟨G, hG⟩ : ∃ X, gpX T lo = X := ⟨_, rfl⟩
  rw [hX, hO] at hE
  rw [hO, hG] at KO
  rw [hO] at hov
  rw [hX]
  have HE := Lib.hid hE
  have HKO := Lib.hid KO
  have HKU := Lib.hid KU
  have HKS := Lib.hid KS
  have HZL := Lib.hid hzl
  have HHL := Lib.hid hhl
  have HB := Lib.hid hbh
  have hby := run_by
  have HBY := Lib.hid hby
  clear hE KO KU KS hX hO hG hzl hhl hbl hbh hll hlo hby
  go_enter Tryz.func92, Tryz.ntmps92
  go_upto_region 1 with fail
  obtain ⟨W1, hW1⟩ : ∃ W1, w.alloc (.cells #[.slice aa T.rs.length ca, .slice ab T.ps.length cb] 25) = W1 := ⟨_, rfl⟩
  have hx1 : Ext w W1 := by rw [← hW1]; exact (by repeat (first | exact Ext.refl _ | assumption | refine Ext.alloc ?_ _ | refine Ext.drew ?_ | refine Ext.drewN _ ?_ | refine Ext.trans ?_ (by assumption)))
  have q1 : Cls w.heap.size 25 #[.slice aa T.rs.length ca, .slice ab T.ps.length cb] W1 := by rw [← hW1]; exact Cls.new _ _ _
  try rw [hW1]
  clear hW1
  have d0 := q1.cell 0
  have d1 := q1.cell 1
  go_wp2_with fail
  refine (HKO.out _ hx1).mono ?_
  rintro e w2 ⟨u, rfl, hu, hz⟩
  have hx := hx1.trans hz
  have q0 := q1.ext hz
  have d0 := q0.cell 0
  have d1 := q0.cell 1
  obtain ⟨uA, uc, rfl⟩ := hu.form
  have hby := HBY.out
  clear hu hz hx1 q1 HKO HBY
  by_cases hO0 : O = 0
  · have he := HE.out
    rw [hO0] at he
    simp only [beq_self_eq_true, Bool.true_and] at he
    have HE2 := Lib.hid he
    have hbq : decide (O > 0) = false := decide_eq_false (by omega)
    clear he HE hO0 hov
    go_upto_region 4 with fail
    clear d0 d1 hby hbq
    go_loopw [7] (fun i wr => ∃ k : Nat, k ≤ T.rs.length ∧ i = .int .i64 k ∧ Hid (∀ j, j < k → (!usedB T j || decide (0 ≤ dX T hi j)) = true) ∧ Cls w.heap.size 25 #[.slice aa T.rs.length ca, .slice ab T.ps.length cb] wr ∧ Ext w wr) (fun i _ => T.rs.length - (intOf i).toNat)
    case atStart => exact ⟨0, Nat.zero_le _, rfl, Lib.hid (fun _ h => by omega), q0, hx⟩
    case round =>
      clear q0 hx
      obtain ⟨k, hk, rfl, HK, q0, hx⟩ := hrel
      have d0 := q0.cell 0
      have d1 := q0.cell 1
      by_cases hlt : k < T.rs.length
      · have hki : (k : Int) < (T.rs.length : Int) := by omega
        have KU := HKU.out k
        have huu := usrL_used T k
        obtain ⟨U, hU⟩ : ∃ U, usrL T.rs k T.ps = U := ⟨_, rfl⟩
        rw [hU] at KU huu
        have HUU := Lib.hid huu
        clear hU huu
        go_wp2_with fail
        refine (KU _ hx).mono ?_
        rintro e w4 ⟨u, rfl, hu, hz⟩
        obtain ⟨uB, ud, rfl, _⟩ := hu.len
        obtain ⟨z, hzz⟩ : ∃ z, U.length = z := ⟨_, rfl⟩
        rw [hzz] at hu HUU ⊢
        replace hx := hx.trans hz
        replace q0 := q0.ext hz
        have d0 := q0.cell 0
        have d1 := q0.cell 1
        clear KU hzz hu hz
        by_cases hz0 : z = 0
        · have hnu : usedB T k = false := by
            rw [Bool.eq_false_iff]
            intro h
            have := HUU.out.2 h
            omega
          have HK2 : Hid (∀ j, j < k + 1 → (!usedB T j || decide (0 ≤ dX T hi j)) = true) := Lib.hid (fun j hj => by
            by_cases hjk : j = k
            · subst hjk; rw [hnu]; rfl
            · exact HK.out j (by omega))
          have hbq : ((z : Int) == 0) = true := by simp [hz0]
          clear hnu hz0 HUU HK
          go_wp2_with fail
          go_roundw
          case rel => exact ⟨k + 1, by omega, by go_num, HK2, q0, hx⟩
          case measure => simp [intOf]; omega
        · have hus := HUU.out.1 (by omega)
          have hbq : ((z : Int) == 0) = false := by rw [beq_eq_false_iff_ne]; omega
          have HUS := Lib.hid hus
          clear hus hz0 HUU
          go_upto_region 9 with fail
          clear d0 d1 hbq
          obtain ⟨w5, hw5⟩ : ∃ wo : World, wo = w4 := ⟨_, rfl⟩
          go_loopw [8, 9] (fun s i wy => ∃ j : Nat, j ≤ hi.length ∧ i = .int .i64 j ∧ s = .int .i64 (hsL T k ((T.ps.zip hi).take j)) ∧ Cls w.heap.size 25 #[.slice aa T.rs.length ca, .slice ab T.ps.length cb] wy ∧ Ext w wy) (fun _ i _ => hi.length - (intOf i).toNat)
          case atStart => exact ⟨0, Nat.zero_le _, rfl, rfl, q0, hx⟩
          case round =>
            clear q0 hx hw5
            obtain ⟨j, hj, rfl, rfl, q0, hx⟩ := hrel
            have d0 := q0.cell 0
            have d1 := q0.cell 1
            by_cases hjl : j < hi.length
            · have hjp : j < T.ps.length := by have := HHL.out; omega
              have hjz : j < (T.ps.zip hi).length := by have := HZL.out; omega
              have hst := hsL_snoc T k ((T.ps.zip hi).take j) (T.ps.zip hi)[j]
              rw [← take_succ_get _ _ hjz, List.getElem_zip] at hst
              have hgs : ∀ n, hsS T k n (T.ps[j], hi[j]) = if usB T.rs T.ps[j].reach k = true then n + hi[j] else n := fun _ => rfl
              rw [hgs] at hst
              have hb1 := hsL_take_bd (T := T) k HB.out (by have := HHL.out; omega) j
              have hb2 := hsL_take_bd (T := T) k HB.out (by have := HHL.out; omega) (j + 1)
              obtain ⟨bb, oo, rfl, c0, c1, c2⟩ := (hT.p.ext hx).get j hjp
              obtain ⟨bv, ov, rfl, e0⟩ := (hhi.ext hx).get j hjl
              have hpv := (hok.pv _ (List.getElem_mem hjp)).2.1
              obtain ⟨y, hyy⟩ : ∃ x, T.ps[j].reach = x := ⟨_, rfl⟩
              obtain ⟨t, htt⟩ : ∃ x, hi[j] = x := ⟨_, rfl⟩
              rw [hyy] at c1 hst hpv
              rw [htt] at e0 hst
              have KS := fun W (h : Ext w W) => HKS.out y (k : Int) (by omega) hpv.2 W h
              obtain ⟨D, hD⟩ : ∃ D, usB T.rs y k = D := ⟨_, rfl⟩
              rw [hD] at KS hst
              obtain ⟨S, hS⟩ : ∃ x, hsL T k ((T.ps.zip hi).take j) = x := ⟨_, rfl⟩
              rw [hS] at hst hb1 ⊢
              have hjpi : (j : Int) < (T.ps.length : Int) := by omega
              have hjli : (j : Int) < (hi.length : Int) := by omega
              have HST := Lib.hid hst
              have HB2 := Lib.hid hb2
              have HKS2 := Lib.hid KS
              clear hst hgs hb2 hyy htt hD hS hjz c0 c2 hpv KS
              go_upto_region 11 with fail
              go_still_tail 8, (by kernel_rfl)
              change wpList _ _ _ _ _ wr.drew
              obtain ⟨V, hV⟩ : ∃ V, wr.drew = V := ⟨_, rfl⟩
              have hxV : Ext wr V := by rw [← hV]; exact (by repeat (first | exact Ext.refl _ | assumption | refine Ext.alloc ?_ _ | refine Ext.drew ?_ | refine Ext.drewN _ ?_ | refine Ext.trans ?_ (by assumption)))
              rw [hV]
              clear hV
              go_wp2_with fail
              refine (HKS2.out _ (hx.trans hxV)).mono ?_
              rintro e w6 ⟨rfl, hz⟩
              have hz6 := hxV.trans hz
              have hx6 := hx.trans hz6
              have q6 := q0.ext hz6
              replace e0 := hz6.cell e0
              clear hz hxV hz6 hx q0 c1 d0 d1 HKS2
              cases D
              · have hs := HST.out
                rw [if_neg (by decide)] at hs
                have HS := Lib.hid hs
                clear hs
                go_wp2_with fail
                go_roundw
                case rel => exact ⟨j + 1, by omega, by go_num, by rw [HS.out], q6, hx6⟩
                case measure => simp [intOf]; omega
              · have hs := HST.out
                rw [if_pos rfl] at hs
                have hb2 := HB2.out
                rw [hs] at hb2
                have hw1 : IntKind.i64.wrap (S + t) = S + t := IntWalk.i64_in _ (by omega)
                have HS := Lib.hid hs
                clear hs hb2
                go_wp2_with fail
                go_roundw
                case rel => exact ⟨j + 1, by omega, by go_num, by rw [HS.out], q6, hx6⟩
                case measure => simp [intOf]; omega
            · obtain rfl : j = hi.length := by omega
              rw [List.take_of_length_le (by rw [HZL.out]; omega)]
              have hb1 := hsL_take_bd (T := T) k HB.out (by have := HHL.out; omega) hi.length
              rw [List.take_of_length_le (by rw [HZL.out]; omega)] at hb1
              have hdx : dX T hi k = hsL T k (T.ps.zip hi) - csK T k T.rs.length := rfl
              obtain ⟨S, hS⟩ : ∃ x, hsL T k (T.ps.zip hi) = x := ⟨_, rfl⟩
              rw [hS] at hb1 hdx ⊢
              have HDX := Lib.hid hdx
              clear hS hdx
              go_upto_region 15 with fail
              clear d0 d1
              go_loopw [8, 11] (fun s i wy => ∃ j : Nat, k ≤ j ∧ j ≤ T.rs.length ∧ i = .int .i64 j ∧ s = .int .i64 (S - csK T k j) ∧ Cls w.heap.size 25 #[.slice aa T.rs.length ca, .slice ab T.ps.length cb] wy ∧ Ext w wy) (fun _ i _ => T.rs.length - (intOf i).toNat)
              case atStart => exact ⟨k, Nat.le_refl _, by omega, rfl, vint (by rw [csK_low hok k (Nat.le_refl _) (by omega)]; omega), q0, hx⟩
              case round =>
                clear q0 hx
                obtain ⟨j, hkj, hj, rfl, rfl, q0, hx⟩ := hrel
                have d0 := q0.cell 0
                have d1 := q0.cell 1
                by_cases hjl : j < T.rs.length
                · have hst : csK T k (j + 1) = csK T k j + csF T k j := rfl
                  have hcf : csF T k j = if (usB T.rs j k && usedB T j) = true then cst T.rs j else 0 := rfl
                  have hb2 := csK_bd hok k j (by omega)
                  have hb3 := csK_bd hok k (j + 1) (by omega)
                  have hcb := cst_bd hok.rv j
                  obtain ⟨br, or', rfl, r0, r1⟩ := (hT.r.ext hx).get j hjl
                  rw [← cst_get hjl] at r1
                  have KS := fun W (h : Ext w W) => HKS.out (j : Int) (k : Int) (by omega) (by omega) W h
                  have KU := HKU.out j
                  have huu := usrL_used T j
                  obtain ⟨U, hU⟩ : ∃ U, usrL T.rs j T.ps = U := ⟨_, rfl⟩
                  rw [hU] at KU huu
                  obtain ⟨C, hC⟩ : ∃ x, cst T.rs j = x := ⟨_, rfl⟩
                  rw [hC] at r1 hcf hcb
                  obtain ⟨D, hD⟩ : ∃ D, usB T.rs j k = D := ⟨_, rfl⟩
                  rw [hD] at KS hcf
                  obtain ⟨B, hB⟩ : ∃ D, usedB T j = D := ⟨_, rfl⟩
                  rw [hB] at hcf huu
                  obtain ⟨Q, hQ⟩ : ∃ x, csK T k j = x := ⟨_, rfl⟩
                  rw [hQ] at hst hb2 ⊢
                  rw [hcf] at hst
                  have hji : (j : Int) < (T.rs.length : Int) := by omega
                  have HST := Lib.hid hst
                  have HKU2 := Lib.hid KU
                  have HUU := Lib.hid huu
                  clear hst hcf hU hC hD hB hQ KU huu r0
                  go_wp2_with fail
                  refine (KS _ hx).mono ?_
                  rintro e w6 ⟨rfl, hz⟩
                  replace hx := hx.trans hz
                  replace q0 := q0.ext hz
                  replace r1 := hz.cell r1
                  have d0 := q0.cell 0
                  have d1 := q0.cell 1
                  clear hz KS
                  cases D
                  · have hs := HST.out
                    rw [Bool.false_and, if_neg (by decide)] at hs
                    have HS := Lib.hid hs
                    clear hs
                    go_wp2_with fail
                    go_roundw
                    case rel => exact ⟨j + 1, by omega, by omega, by go_num, vint (by rw [HS.out]; omega), q0, hx⟩
                    case measure => simp [intOf]; omega
                  · have hs := HST.out
                    rw [Bool.true_and] at hs
                    have HS := Lib.hid hs
                    clear hs
                    go_wp2_with fail
                    refine (HKU2.out _ hx).mono ?_
                    rintro e w7 ⟨u, rfl, hu, hz⟩
                    obtain ⟨uB, ud, rfl, _⟩ := hu.len
                    obtain ⟨z, hzz⟩ : ∃ z, U.length = z := ⟨_, rfl⟩
                    rw [hzz] at hu HUU ⊢
                    replace hx := hx.trans hz
                    replace q0 := q0.ext hz
                    replace r1 := hz.cell r1
                    have d0 := q0.cell 0
                    have d1 := q0.cell 1
                    clear hzz hu hz HKU2
                    cases B
                    · have hs := HS.out
                      rw [if_neg (by decide)] at hs
                      have hz0 : z = 0 := by
                        by_cases h : 0 < z
                        · have := HUU.out.1 h; cases this
                        · omega
                      have hbq : decide ((z : Int) > 0) = false := decide_eq_false (by omega)
                      have hz1 : ¬ 0 < z := by omega
                      have HS := Lib.hid hs
                      clear hs hz0 HUU
                      go_wp2_with fail
                      go_roundw
                      case rel => exact ⟨j + 1, by omega, by omega, by go_num, vint (by rw [HS.out]; omega), q0, hx⟩
                      case measure => simp [intOf]; omega
                    · have hs := HS.out
                      rw [if_pos rfl] at hs
                      have hz0 : 0 < z := HUU.out.2 rfl
                      have hbq : decide ((z : Int) > 0) = true := decide_eq_true (by omega)
                      have hw1 : IntKind.i64.wrap (S - Q - C) = S - Q - C := IntWalk.i64_in _ (by omega)
                      have HS := Lib.hid hs
                      clear hs HUU
                      go_wp2_with fail
                      go_roundw
                      case rel => exact ⟨j + 1, by omega, by omega, by go_num, vint (by rw [HS.out]; try (simp only [if_true]); omega), q0, hx⟩
                      case measure => simp [intOf]; omega
                · obtain rfl : j = T.rs.length := by omega
                  have hdx := HDX.out
                  obtain ⟨Q, hQ⟩ : ∃ x, csK T k T.rs.length = x := ⟨_, rfl⟩
                  rw [hQ] at hdx ⊢
                  by_cases hneg : S - Q < 0
                  · have hbad : X = false := by
                      rw [HE2.out, List.all_eq_false]
                      exact ⟨k, List.mem_range.2 hlt, by rw [HUS.out, hdx]; simp; omega⟩
                    have HBAD := Lib.hid hbad
                    have hbq : decide (S - Q < 0) = true := decide_eq_true hneg
                    clear hbad hdx hQ hneg
                    go_wp2_with fail
                    go_ret
                    exact ⟨ret_bool HBAD.out.symm, hx⟩
                  · have HK2 : Hid (∀ j, j < k + 1 → (!usedB T j || decide (0 ≤ dX T hi j)) = true) := Lib.hid (fun j hj => by
                      by_cases hjk : j = k
                      · subst hjk; rw [HUS.out, hdx]; simp; omega
                      · exact HK.out j (by omega))
                    have hbq : decide (S - Q < 0) = false := decide_eq_false hneg
                    clear hdx hQ hneg HK
                    go_wp2_with fail
                    go_roundw
                    case rel => exact ⟨k + 1, by omega, by go_num, HK2, q0, hx⟩
                    case measure => simp [intOf]; omega
      · obtain rfl : k = T.rs.length := by omega
        have hgood : X = true := by
          rw [HE2.out, List.all_eq_true]
          exact fun j hj => HK.out j (List.mem_range.1 hj)
        have HGOOD := Lib.hid hgood
        clear hgood HK
        go_wp2_with fail
        go_ret
        exact ⟨ret_bool HGOOD.out.symm, hx⟩
  · have he := HE.out
    have hob : (O == 0) = false := by simpa using hO0
    rw [hob, Bool.false_and] at he
    have HE2 := Lib.hid he
    have hbq : decide (O > 0) = true := decide_eq_true (by omega)
    clear he HE hO0 hob d0 d1
    go_wp2_with fail
    go_ret
    exact ⟨ret_bool HE2.out.symm, hx⟩
end Go.Proofs.YthopgonbndoidaaGreat
