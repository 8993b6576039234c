/- Check, uses and payer of the specification. -/
import Derived.Test.YthopgonbndoidaaVPut
namespace Go.Proofs.Ythopgonbndoidaa
open Go.RowKit Go.Shelf

set_option maxHeartbeats 1000000 in
theorem refWithin_any (n lo hi : Int) (w : World) :
    Calls Try.prog 77 #[.int .i64 n, .int .i64 lo, .int .i64 hi] w fun e w' => e = .returned (.bool (inB n lo hi)) ∧ w = w' := by
  go_enter Try.func77, Try.ntmps77
  by_cases h1 : lo ≤ n
  · by_cases h2 : n ≤ hi
    · go_wp2
      go_ret
      exact ⟨ret_bool (by simp [inB, h1, h2]), rfl⟩
    · go_wp2
      go_ret
      exact ⟨ret_bool (by simp [inB, h1, h2]), rfl⟩
  · go_wp2
    go_ret
    exact ⟨ret_bool (by simp [inB]; omega), rfl⟩

theorem usB_neg (rs : List Rc) {fr : Int} (h : fr < 0) (k : Int) : usB rs fr k = false := by unfold usB; rw [upL_neg rs h]; rfl
theorem usB_step {rs : List Rc} (hV : RsV rs) {i : Nat} (h : i < rs.length) (k : Int) : usB rs i k = ((i : Int) == k || usB rs rs[i].above k) := by
  unfold usB
  rw [upL_step hV h, List.any_cons]
set_option maxRecDepth 100000 in
set_option maxHeartbeats 2000000 in
theorem refUses_any (a b : Value) (T : Tr) (hV : RsV T.rs) (fr k : Int) (w : World) (hT : TrAt w a b T) (h1 : -1 ≤ fr) (h2 : fr < T.rs.length) :
    Calls Try.prog 93 #[.agg #[a, b], .int .i64 fr, .int .i64 k] w fun e w' => e = .returned (.bool (usB T.rs fr k)) ∧ Ext w w' := by
  obtain ⟨ar, cr, rfl, hlr⟩ := hT.r.len
  obtain ⟨U, hU⟩ : ∃ U, usB T.rs fr k = U := ⟨_, rfl⟩
  have HU := Lib.hid hU
  rw [hU]
  clear hU
  go_enter Try.func93, Try.ntmps93
  go_upto_region 1 with fail
  obtain ⟨W1, hW1⟩ : ∃ W1, w.alloc (.cells #[.slice ar T.rs.length cr, b] 25) = W1 := ⟨_, rfl⟩
  have hx1 : Ext w W1 := by rw [← hW1]; exact (by repeat (first | exact Ext.refl _ | assumption | refine Ext.alloc ?_ _ | refine Ext.drew ?_ | refine Ext.drewN _ ?_ | refine Ext.trans ?_ (by assumption)))
  have q1 : Cls w.heap.size 25 #[.slice ar T.rs.length cr, b] W1 := by rw [← hW1]; exact Cls.new _ _ _
  try rw [hW1]
  clear hW1
  go_wp2_with fail
  go_loopw [7] (fun c wr => ∃ cur : Int, c = .int .i64 cur ∧ (-1 ≤ cur ∧ cur < T.rs.length) ∧ Hid (usB T.rs cur k = U) ∧ Cls w.heap.size 25 #[.slice ar T.rs.length cr, b] wr ∧ Ext w wr) (fun c _ => (intOf c + 1).toNat)
  case atStart => exact ⟨fr, rfl, ⟨h1, h2⟩, HU, q1, hx1⟩
  case round =>
    obtain ⟨cur, rfl, ⟨hc1, hc2⟩, HK, q, hx⟩ := hrel
    by_cases h0 : 0 ≤ cur
    · obtain ⟨i, rfl⟩ : ∃ i : Nat, cur = i := ⟨cur.toNat, by omega⟩
      have hi : i < T.rs.length := by omega
      have hst := usB_step hV hi k
      rw [HK.out] at hst
      have hv := (hV.v i hi).1
      obtain ⟨bb, oo, rfl, c0, c1⟩ := (hT.r.ext hx).get i hi
      obtain ⟨av, hav⟩ : ∃ x, T.rs[i].above = x := ⟨_, rfl⟩
      rw [hav] at c0 hst hv
      have d0 : wr.cell? ⟨w.heap.size, 0, none⟩ = _ := q.cell 0
      have HST := Lib.hid hst
      clear hst hav
      cases hq : ((i : Int) == k)
      · have HS2 : Hid (usB T.rs av k = U) := Lib.hid (by rw [HST.out, hq, Bool.false_or])
        clear HST
        go_wp2
        go_roundw
        case rel => exact ⟨av, rfl, by omega, HS2, q, hx⟩
        case measure => simp [intOf]; omega
      · have HS2 : Hid (U = true) := Lib.hid (by rw [HST.out, hq, Bool.true_or])
        clear HST
        go_wp2
        go_ret
        exact ⟨ret_bool HS2.out.symm, hx⟩
    · have hst := usB_neg T.rs (show cur < 0 by omega) k
      rw [HK.out] at hst
      have HS2 := Lib.hid hst
      clear hst
      go_wp2
      go_ret
      exact ⟨ret_bool HS2.out.symm, hx⟩

set_option maxRecDepth 100000 in
set_option maxHeartbeats 2000000 in
theorem refPayer_any (a b : Value) (T : Tr) (id : Int) (w : World) (hT : TrAt w a b T) (hn : T.ps.length ≤ 100000) :
    Calls Try.prog 92 #[.agg #[a, b], .int .i64 id] w fun e w' => e = .returned (.int .i64 (fnd T.ps id)) ∧ Ext w w' := by
  obtain ⟨ar, cr, rfl, hlr⟩ := hT.p.len
  obtain ⟨F, hF⟩ : ∃ F, fnd T.ps id = F := ⟨_, rfl⟩
  have HF := Lib.hid hF
  rw [hF]
  clear hF
  go_enter Try.func92, Try.ntmps92
  go_upto_region 1 with fail
  obtain ⟨W1, hW1⟩ : ∃ W1, w.alloc (.cells #[a, .slice ar T.ps.length cr] 25) = W1 := ⟨_, rfl⟩
  have hx1 : Ext w W1 := by rw [← hW1]; exact (by repeat (first | exact Ext.refl _ | assumption | refine Ext.alloc ?_ _ | refine Ext.drew ?_ | refine Ext.drewN _ ?_ | refine Ext.trans ?_ (by assumption)))
  have q1 : Cls w.heap.size 25 #[a, .slice ar T.ps.length cr] W1 := by rw [← hW1]; exact Cls.new _ _ _
  try rw [hW1]
  clear hW1
  go_wp2_with fail
  go_loopw [5] (fun c wr => ∃ k : Nat, k ≤ T.ps.length ∧ c = .int .i64 k ∧ Hid (fndF id k (T.ps.drop k) = F) ∧ Cls w.heap.size 25 #[a, .slice ar T.ps.length cr] wr ∧ Ext w wr) (fun c _ => T.ps.length - (intOf c).toNat)
  case atStart => exact ⟨0, Nat.zero_le _, rfl, HF, q1, hx1⟩
  case round =>
    obtain ⟨k, hk, rfl, HK, q, hx⟩ := hrel
    have d1 : wr.cell? ⟨w.heap.size, 1, none⟩ = _ := q.cell 1
    by_cases hlt : k < T.ps.length
    · obtain ⟨bb, oo, rfl, c0, c1, c2⟩ := (hT.p.ext hx).get k hlt
      have hhit := fndF_hit (id := id) hlt
      have hmiss := fndF_miss (id := id) hlt
      rw [HK.out] at hhit hmiss
      obtain ⟨x, hxx⟩ : ∃ x, T.ps[k].id = x := ⟨_, rfl⟩
      rw [hxx] at c0 hhit hmiss
      cases hq : (x == id)
      · have H1 := Lib.hid (hmiss hq)
        clear hxx hhit hmiss
        go_wp2
        go_roundw
        case rel => exact ⟨k + 1, by omega, by go_num, Lib.hid H1.out.symm, q, hx⟩
        case measure => simp [intOf]; omega
      · have H1 := Lib.hid (hhit hq)
        clear hxx hhit hmiss
        go_wp2
        go_ret
        exact ⟨ret_int H1.out.symm, hx⟩
    · obtain rfl : k = T.ps.length := by omega
      have he := fndF_end (id := id) (l := T.ps)
      rw [HK.out] at he
      have HE := Lib.hid he
      clear he
      go_wp2
      go_ret
      exact ⟨ret_int HE.out.symm, hx⟩

theorem rcB_split (k : Nat) (r : Rc) : rcB k r = (inB r.above (-1) ((k : Int) - 1) && inB r.cost 0 65536) := rfl
theorem pyB_split (n : Nat) (p : Py) : pyB n p = (inB p.id 1 1099511627776 && inB p.reach 0 ((n : Int) - 1) && decide (1 ≤ p.w)) := rfl
theorem fnd_take {l : List Py} {k : Nat} {x : Int} (h : ∀ j (hj : j < l.length), j < k → l[j].id ≠ x) : ¬ 0 ≤ fnd (l.take k) x := by
  have : fnd (l.take k) x < 0 := fndF_none.2 (fun p hp => by
    obtain ⟨j, hj, rfl⟩ := List.mem_iff_getElem.1 hp
    rw [List.length_take] at hj
    rw [List.getElem_take]
    exact h j (by omega) (by omega))
  omega
theorem fnd_hit {l : List Py} {k j : Nat} {x : Int} (hj : j < l.length) (hjk : j < k) (h : l[j].id = x) : 0 ≤ fnd (l.take k) x := by
  rcases Int.lt_or_le (fnd (l.take k) x) 0 with h0 | h0
  · have := fndF_none.1 (show fndF x 0 (l.take k) < 0 from h0) l[j] (by
      rw [List.mem_iff_getElem]
      exact ⟨j, by rw [List.length_take]; omega, by rw [List.getElem_take]⟩)
    exact absurd h this
  · exact h0
set_option maxRecDepth 100000 in
set_option maxHeartbeats 8000000 in
theorem refCheck_any (a b : Value) (T : Tr) (w : World) (hT : TrAt w a b T) :
    Calls Try.prog 48 #[.agg #[a, b]] w fun e w' => e = .returned (.int .i64 (chkE T)) ∧ Ext w w' := by
  obtain ⟨aa, ca, rfl, hla⟩ := hT.r.len
  obtain ⟨ab, cb, rfl, hlb⟩ := hT.p.len
  obtain ⟨E, hE⟩ : ∃ E, chkE T = E := ⟨_, rfl⟩
  have HE := Lib.hid hE
  rw [hE]
  clear hE
  by_cases hbig : 24 < T.rs.length ∨ 24 < T.ps.length
  · have hh2 := chk_big hbig
    rw [HE.out] at hh2
    have H2 := Lib.hid hh2
    clear hh2
    by_cases h1 : 24 < T.rs.length
    · clear hbig
      go_enter Try.func48, Try.ntmps48
      go_wp2
      go_ret
      exact ⟨ret_int H2.out.symm, (by repeat (first | exact Ext.refl _ | assumption | refine Ext.alloc ?_ _ | refine Ext.drew ?_ | refine Ext.drewN _ ?_ | refine Ext.trans ?_ (by assumption)))⟩
    · have h2 : 24 < T.ps.length := by omega
      clear hbig
      go_enter Try.func48, Try.ntmps48
      go_wp2
      go_ret
      exact ⟨ret_int H2.out.symm, (by repeat (first | exact Ext.refl _ | assumption | refine Ext.alloc ?_ _ | refine Ext.drew ?_ | refine Ext.drewN _ ?_ | refine Ext.trans ?_ (by assumption)))⟩
  · have h1 : ¬ 24 < T.rs.length := by omega
    have h2 : ¬ 24 < T.ps.length := by omega
    have HB := Lib.hid hbig
    clear hbig
    go_enter Try.func48, Try.ntmps48
    obtain ⟨W1, hW1⟩ : ∃ W1, w.alloc (.cells #[.slice aa T.rs.length ca, .slice ab T.ps.length cb] 25) = W1 := ⟨_, rfl⟩
    have hx1 : Ext w W1 := by rw [← hW1]; exact (by repeat (first | exact Ext.refl _ | assumption | refine Ext.alloc ?_ _ | refine Ext.drew ?_ | refine Ext.drewN _ ?_ | refine Ext.trans ?_ (by assumption)))
    have q1 : Cls w.heap.size 25 #[.slice aa T.rs.length ca, .slice ab T.ps.length cb] W1 := by rw [← hW1]; exact Cls.new _ _ _
    have d0 : W1.cell? ⟨w.heap.size, 0, none⟩ = some (.slice aa T.rs.length ca) := q1.cell 0
    have d1 : W1.cell? ⟨w.heap.size, 1, none⟩ = some (.slice ab T.ps.length cb) := q1.cell 1
    go_upto_region 1 with fail
    try rw [hW1]
    clear hW1
    go_wp2_with fail
    clear d0 d1
    go_loopw [3] (fun i wr => ∃ k : Nat, k ≤ T.rs.length ∧ i = .int .i64 k ∧ Hid (rsE 0 T.rs = rsE k (T.rs.drop k)) ∧ Cls w.heap.size 25 #[.slice aa T.rs.length ca, .slice ab T.ps.length cb] wr ∧ Ext w wr) (fun i _ => T.rs.length - (intOf i).toNat)
    case atStart => exact ⟨0, Nat.zero_le _, rfl, Lib.hid rfl, q1, hx1⟩
    case round =>
      clear q1 hx1
      obtain ⟨k, hk, rfl, HK, q, hx⟩ := hrel
      have d0 : wr.cell? ⟨w.heap.size, 0, none⟩ = some (.slice aa T.rs.length ca) := q.cell 0
      have d1 : wr.cell? ⟨w.heap.size, 1, none⟩ = some (.slice ab T.ps.length cb) := q.cell 1
      by_cases hlt : k < T.rs.length
      · obtain ⟨bb, oo, rfl, c0, c1⟩ := (hT.r.ext hx).get k hlt
        have hgood := rsE_step hlt
        have hbad := rsE_bad hlt
        rw [← HK.out] at hgood hbad
        have hsp := rcB_split k T.rs[k]
        obtain ⟨Bv, hBv⟩ : ∃ v, rcB k T.rs[k] = v := ⟨_, rfl⟩
        rw [hBv] at hgood hbad hsp
        obtain ⟨x, hxx⟩ : ∃ x, T.rs[k].above = x := ⟨_, rfl⟩
        obtain ⟨y, hyy⟩ : ∃ y, T.rs[k].cost = y := ⟨_, rfl⟩
        rw [hxx] at c0 hsp
        rw [hyy] at c1 hsp
        obtain ⟨A, hA⟩ : ∃ v, inB x (-1) ((k : Int) - 1) = v := ⟨_, rfl⟩
        obtain ⟨C, hC⟩ : ∃ v, inB y 0 65536 = v := ⟨_, rfl⟩
        rw [hA, hC] at hsp
        have HA := Lib.hid hA
        have HC := Lib.hid hC
        have HG := Lib.hid hgood
        have HBd := Lib.hid hbad
        have HSP := Lib.hid hsp
        have hw : IntKind.i64.wrap ((k : Int) - 1) = (k : Int) - 1 := IntWalk.i64_in _ (by omega)
        clear hxx hyy hBv hA hC hgood hbad hsp
        cases A <;> cases C
        case true.true =>
          have HX := Lib.hid (HG.out HSP.out)
          clear HG HBd HSP
          go_wp2_with (go_at_call 77; refine (refWithin_any _ _ _ _).mono ?_; (first | rw [HA.out] | rw [HC.out]); rintro e w2 ⟨rfl, rfl⟩)
          go_roundw
          case rel => exact ⟨k + 1, by omega, by go_num, HX, q, hx⟩
          case measure => simp [intOf]; omega
        all_goals
          have HX := Lib.hid (chk_rs HB.out (HBd.out HSP.out))
          rw [HE.out] at HX
          clear HG HBd HSP
          go_wp2_with (go_at_call 77; refine (refWithin_any _ _ _ _).mono ?_; (first | rw [HA.out] | rw [HC.out]); rintro e w2 ⟨rfl, rfl⟩)
          go_ret
          exact ⟨ret_int HX.out.symm, hx⟩
      · obtain rfl : k = T.rs.length := by omega
        have hr := HK.out
        simp only [List.drop_length, rsE] at hr
        have HR := Lib.hid hr
        clear hr HK
        go_wp2_with fail
        clear d0 d1
        obtain ⟨wo, rfl⟩ : ∃ wo : World, wo = wr := ⟨_, rfl⟩
        go_loopw [6, 7] (fun h i wr => ∃ k : Nat, k ≤ T.ps.length ∧ i = .int .i64 k ∧ h = .int .i64 (sumM (T.ps.take k)) ∧ Hid (psE T.rs.length [] T.ps = psE T.rs.length (T.ps.take k) (T.ps.drop k)) ∧ Hid (∀ p ∈ T.ps.take k, 1 ≤ p.w) ∧ Cls w.heap.size 25 #[.slice aa T.rs.length ca, .slice ab T.ps.length cb] wr ∧ Ext w wr) (fun _ i _ => T.ps.length - (intOf i).toNat)
        case atStart => exact ⟨0, Nat.zero_le _, rfl, rfl, Lib.hid rfl, Lib.hid (by simp), q, hx⟩
        case round =>
          clear q hx
          obtain ⟨k, hk, rfl, rfl, HK, HW, q, hx⟩ := hrel
          have hmb := sumM_spec (T.ps.take k) HW.out
          rw [List.length_take] at hmb
          by_cases hlt : k < T.ps.length
          · obtain ⟨bb, oo, rfl, c0, c1, c2⟩ := (hT.p.ext hx).get k hlt
            have hbad := psE_bad (n := T.rs.length) (s := T.ps.take k) hlt
            have htw := psE_twice (n := T.rs.length) (s := T.ps.take k) hlt
            have hst := psE_step (n := T.rs.length) hlt
            rw [← HK.out] at hbad htw hst
            have hsw := sumM_take hlt
            have htk := take_succ_get T.ps k hlt
            have hsp := pyB_split T.rs.length T.ps[k]
            obtain ⟨Bv, hBv⟩ : ∃ v, pyB T.rs.length T.ps[k] = v := ⟨_, rfl⟩
            rw [hBv] at hbad htw hst hsp
            have hid : T.ps[k] = ⟨T.ps[k].id, T.ps[k].reach, T.ps[k].w⟩ := rfl
            obtain ⟨x, hxx⟩ : ∃ x, T.ps[k].id = x := ⟨_, rfl⟩
            obtain ⟨y, hyy⟩ : ∃ y, T.ps[k].reach = y := ⟨_, rfl⟩
            obtain ⟨z, hzz⟩ : ∃ z, T.ps[k].w = z := ⟨_, rfl⟩
            rw [hxx] at c0 hsp htw hst hid
            rw [hyy] at c1 hsp hid
            rw [hzz] at c2 hsp hsw hid
            rw [hid] at htk
            obtain ⟨A, hA⟩ : ∃ v, inB x 1 1099511627776 = v := ⟨_, rfl⟩
            obtain ⟨C, hC⟩ : ∃ v, inB y 0 ((T.rs.length : Int) - 1) = v := ⟨_, rfl⟩
            rw [hA, hC] at hsp
            have HA := Lib.hid hA
            have HC := Lib.hid hC
            have HSP := Lib.hid hsp
            have HBd := Lib.hid hbad
            have HTW := Lib.hid htw
            have HST := Lib.hid hst
            have HSW := Lib.hid hsw
            have HTK := Lib.hid htk
            have hw : IntKind.i64.wrap ((T.rs.length : Int) - 1) = (T.rs.length : Int) - 1 := IntWalk.i64_in _ (by omega)
            obtain ⟨N, hN⟩ : ∃ N, wr.heap.size = N := ⟨_, rfl⟩
            obtain ⟨Y, hY⟩ : ∃ Y, wr.alloc (.cells #[.int .i64 x, .int .i64 y, .int .i64 z] 45) = Y := ⟨_, rfl⟩
            have hxY : Ext wr Y := by rw [← hY]; exact (by repeat (first | exact Ext.refl _ | assumption | refine Ext.alloc ?_ _ | refine Ext.drew ?_ | refine Ext.drewN _ ?_ | refine Ext.trans ?_ (by assumption)))
            have bY : Cls N 45 #[.int .i64 x, .int .i64 y, .int .i64 z] Y := by rw [← hY]; exact Cls.newAt _ _ _ hN.symm
            have qY := q.ext hxY
            have d0 : wr.cell? ⟨w.heap.size, 1, none⟩ = some (.slice (some ⟨bb, oo, none⟩) T.ps.length cb) := q.cell 1
            have e0 : Y.cell? ⟨w.heap.size, 0, none⟩ = some (.slice aa T.rs.length ca) := qY.cell 0
            have e1 : Y.cell? ⟨w.heap.size, 1, none⟩ = some (.slice (some ⟨bb, oo, none⟩) T.ps.length cb) := qY.cell 1
            have p0 : Y.cell? ⟨N, 0, none⟩ = some (.int .i64 x) := bY.cell 0
            have p1 : Y.cell? ⟨N, 1, none⟩ = some (.int .i64 y) := bY.cell 1
            have p2 : Y.cell? ⟨N, 2, none⟩ = some (.int .i64 z) := bY.cell 2
            clear hxx hyy hzz hBv hid hA hC hsp hbad htw hst hsw htk hmb
            by_cases hgd : (A = true ∧ C = true) ∧ 1 ≤ z
            · obtain ⟨⟨rfl, rfl⟩, hz1⟩ := hgd
              have hBt : Bv = true := by rw [HSP.out]; simp [hz1]
              have HTW2 := Lib.hid (HTW.out hBt)
              have HST2 := Lib.hid (HST.out hBt)
              have hz0 : ¬ z < 1 := by omega
              clear HTW HST HBd HSP hBt
              go_wp2_with (go_at_call 77; refine (refWithin_any _ _ _ _).mono ?_; (first | rw [HA.out] | rw [HC.out]); rintro e w2 ⟨rfl, rfl⟩)
              have hcells := (hT.p.ext (hx.trans hxY))
              have hnn := (sumM_spec (T.ps.take k) HW.out)
              rw [List.length_take] at hnn
              have hkk : min k T.ps.length = k := by omega
              rw [hkk] at hnn
              obtain ⟨s, hs⟩ : ∃ s, sumM (T.ps.take k) = s := ⟨_, rfl⟩
              have hsw := HSW.out
              rw [hs] at hnn hsw ⊢
              have hsb : 0 ≤ s ∧ s ≤ 2400 := by omega
              have HSW2 := Lib.hid hsw
              have hws : IntKind.i64.wrap (s + min z 100) = s + min z 100 := IntWalk.i64_in _ (by omega)
              clear hs hsw hnn hkk hY
              go_loopw [11] (fun i wx => ∃ j : Nat, j ≤ k ∧ i = .int .i64 j ∧ Hid (∀ j' (h : j' < T.ps.length), j' < j → T.ps[j'].id ≠ x) ∧ Ext Y wx) (fun i _ => k - (intOf i).toNat)
              case atStart => exact ⟨0, Nat.zero_le _, rfl, Lib.hid (fun _ _ h => by omega), Ext.refl _⟩
              case round =>
                obtain ⟨j, hj, rfl, HJ, hxj⟩ := hrel
                replace e1 := hxj.cell e1
                replace p0 := hxj.cell p0
                replace p2 := hxj.cell p2
                by_cases hjk : j < k
                · obtain ⟨b2, o2, he2, j0, j1, j2⟩ := (hcells.ext hxj).get j (by omega)
                  simp only [Option.some.injEq, Addr.mk.injEq, and_true] at he2
                  obtain ⟨rfl, rfl⟩ := he2
                  have hjl : (j : Int) < (T.ps.length : Int) := by omega
                  obtain ⟨x2, hx2⟩ : ∃ x2, T.ps[j].id = x2 := ⟨_, rfl⟩
                  rw [hx2] at j0
                  cases hq : (x2 == x)
                  · have hne : x2 ≠ x := by simpa using hq
                    have HJ2 : Hid (∀ j' (h : j' < T.ps.length), j' < j + 1 → T.ps[j'].id ≠ x) := Lib.hid (fun j' h hjj => by
                      by_cases he : j' = j
                      · subst he; rw [hx2]; exact hne
                      · exact HJ.out j' h (by omega))
                    clear hx2 HJ hne
                    go_wp2_with fail
                    go_quiet (fail)
                    go_wp2_with fail
                    go_roundw
                    case rel => exact ⟨j + 1, by omega, by go_num, HJ2, hxj.trans (by repeat (first | exact Ext.refl _ | assumption | refine Ext.alloc ?_ _ | refine Ext.drew ?_ | refine Ext.drewN _ ?_ | refine Ext.trans ?_ (by assumption)))⟩
                    case measure => simp [intOf]; omega
                  · have hee : T.ps[j].id = x := by rw [hx2]; simpa using hq
                    have HX := Lib.hid (chk_ps HB.out HR.out _ (HTW2.out (fnd_hit (by omega) hjk hee)) (by decide))
                    rw [HE.out] at HX
                    clear hx2 HJ hee
                    go_wp2_with fail
                    go_quiet (fail)
                    go_wp2_with fail
                    go_ret
                    exact ⟨ret_int HX.out.symm, (hx.trans hxY).trans (hxj.trans (by repeat (first | exact Ext.refl _ | assumption | refine Ext.alloc ?_ _ | refine Ext.drew ?_ | refine Ext.drewN _ ?_ | refine Ext.trans ?_ (by assumption))))⟩
                · obtain rfl : j = k := by omega
                  have HX := Lib.hid (HST2.out (by have := fnd_take HJ.out; omega))
                  have hxz := hxY.trans hxj
                  have qz := q.ext hxz
                  have hxx := hx.trans hxz
                  clear HTW2 HST2 HJ
                  go_wp2_with fail
                  go_roundw
                  case rel => exact ⟨j + 1, by omega, by go_num, by rw [HSW2.out], HX, Lib.hid (by rw [HTK.out]; intro p hp; rcases List.mem_append.1 hp with hp | hp; exact HW.out p hp; simp at hp; subst hp; exact hz1), qz, hxx⟩
                  case measure => simp [intOf]; omega
            · have hBt : Bv = false := by
                rw [HSP.out]
                cases A <;> cases C <;> simp_all
              have HX := Lib.hid (chk_ps HB.out HR.out _ (HBd.out hBt) (by decide))
              rw [HE.out] at HX
              clear HTW HST HBd hBt
              cases A
              · go_wp2_with (go_at_call 77; refine (refWithin_any _ _ _ _).mono ?_; (first | rw [HA.out] | rw [HC.out]); rintro e w2 ⟨rfl, rfl⟩)
                all_goals go_ret
                all_goals exact ⟨ret_int HX.out.symm, hx.trans hxY⟩
              · cases C
                · go_wp2_with (go_at_call 77; refine (refWithin_any _ _ _ _).mono ?_; (first | rw [HA.out] | rw [HC.out]); rintro e w2 ⟨rfl, rfl⟩)
                  go_ret
                  exact ⟨ret_int HX.out.symm, hx.trans hxY⟩
                · have hz1 : z < 1 := by
                    rcases Int.lt_or_le z 1 with h | h
                    · exact h
                    · exact absurd ⟨⟨rfl, rfl⟩, h⟩ hgd
                  clear hgd
                  go_wp2_with (go_at_call 77; refine (refWithin_any _ _ _ _).mono ?_; (first | rw [HA.out] | rw [HC.out]); rintro e w2 ⟨rfl, rfl⟩)
                  go_ret
                  exact ⟨ret_int HX.out.symm, hx.trans hxY⟩
          · obtain rfl : k = T.ps.length := by omega
            have h0 := HK.out
            rw [List.drop_length, psE] at h0
            rw [List.take_length] at hmb ⊢
            have hsw := chk_sw HB.out HR.out h0
            rw [HE.out] at hsw
            have h5 := hmb.2.2.2.1
            obtain ⟨s, hs⟩ : ∃ s, sumW T.ps = s := ⟨_, rfl⟩
            obtain ⟨m, hm⟩ : ∃ s, sumM T.ps = s := ⟨_, rfl⟩
            rw [hs] at h5 hsw
            rw [hm] at h5 ⊢
            have d0 : wr.cell? ⟨w.heap.size, 1, none⟩ = some (.slice ab T.ps.length cb) := q.cell 1
            clear h0 hs hm HK HW hmb
            by_cases h24 : 24 < s
            · rw [if_pos h24] at hsw
              have HX := Lib.hid hsw
              have h25 : 24 < m := by omega
              clear hsw
              go_wp2
              go_ret
              exact ⟨ret_int HX.out.symm, hx⟩
            · rw [if_neg h24] at hsw
              have HX := Lib.hid hsw
              have h25 : ¬ 24 < m := by omega
              clear hsw
              go_wp2
              go_ret
              exact ⟨ret_int HX.out.symm, hx⟩
end Go.Proofs.Ythopgonbndoidaa
