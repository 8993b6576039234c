/- heads, piece, share, ratio of the specification. -/
import Derived.Test.YthopgonbndoidaaVRPen
namespace Go.Proofs.Ythopgonbndoidaa
open Go.RowKit Go.Shelf

theorem wtA_take {rs : List Rc} {l : List Py} {k r : Nat} (h : k < l.length) : wtA rs (l.take (k + 1)) r = if usB rs l[k].reach r = true then wtA rs (l.take k) r + l[k].w else wtA rs (l.take k) r := by
  rw [take_succ_get l k h, wtA_snoc]; rfl
theorem wtA_take_bd {T : Tr} (hok : Ok T) (j r : Nat) : 0 ≤ wtA T.rs (T.ps.take j) r ∧ wtA T.rs (T.ps.take j) r ≤ 24 := by
  have h1 := wtA_bd T.rs (T.ps.take j) (fun p hp => (hok.pv p (List.mem_of_mem_take hp)).2.2) r
  have h2 := sumW_mono (T.ps.take j) (T.ps.drop j) (fun p hp => by rw [List.take_append_drop] at hp; exact (hok.pv p hp).2.2)
  rw [List.take_append_drop] at h2
  have := hok.sw
  omega
set_option maxRecDepth 100000 in
set_option maxHeartbeats 4000000 in
theorem refHeads_any (a b : Value) (T : Tr) (hok : Ok T) (k : Nat) (w : World) (hT : TrAt w a b T) :
    Calls Try.prog 125 #[.agg #[a, b], .int .i64 k] w fun e w' => e = .returned (.int .i64 (wtA T.rs T.ps k)) ∧ Ext w w' := by
  obtain ⟨ab, cb, rfl, hlb⟩ := hT.p.len
  have hlp := hok.lp
  obtain ⟨X, hX⟩ : ∃ X, wtA T.rs T.ps k = X := ⟨_, rfl⟩
  have HX := Lib.hid hX
  rw [hX]
  clear hX
  go_enter Try.func125, Try.ntmps125
  go_upto_region 1 with fail
  obtain ⟨W1, hW1⟩ : ∃ W1, w.alloc (.cells #[a, .slice ab T.ps.length cb] 25) = W1 := ⟨_, rfl⟩
  have hx1 : Ext w W1 := by rw [← hW1]; exact (by repeat (first | exact Ext.refl _ | assumption | refine Ext.alloc ?_ _ | refine Ext.drew ?_ | refine Ext.drewN _ ?_ | refine Ext.trans ?_ (by assumption)))
  have q1 : Cls w.heap.size 25 #[a, .slice ab T.ps.length cb] W1 := by rw [← hW1]; exact Cls.new _ _ _
  try rw [hW1]
  clear hW1
  go_wp2_with fail
  go_loopw [5, 6] (fun s i wr => ∃ j : Nat, j ≤ T.ps.length ∧ i = .int .i64 j ∧ s = .int .i64 (wtA T.rs (T.ps.take j) k) ∧ Cls w.heap.size 25 #[a, .slice ab T.ps.length cb] wr ∧ Ext w wr) (fun _ i _ => T.ps.length - (intOf i).toNat)
  case atStart => exact ⟨0, Nat.zero_le _, rfl, rfl, q1, hx1⟩
  case round =>
    clear q1 hx1
    obtain ⟨j, hj, rfl, rfl, q, hx⟩ := hrel
    have d0 : wr.cell? ⟨w.heap.size, 0, none⟩ = some a := q.cell 0
    have d1 : wr.cell? ⟨w.heap.size, 1, none⟩ = some (.slice ab T.ps.length cb) := q.cell 1
    by_cases hlt : j < T.ps.length
    · obtain ⟨bb, oo, rfl, c0, c1, c2⟩ := (hT.p.ext hx).get j hlt
      have hpv := hok.pv _ (List.getElem_mem hlt)
      have hsn := wtA_take (rs := T.rs) (r := k) hlt
      have hb1 := wtA_take_bd hok j k
      have hb2 := wtA_take_bd hok (j + 1) k
      obtain ⟨y, hyy⟩ : ∃ x, T.ps[j].reach = x := ⟨_, rfl⟩
      obtain ⟨z, hzz⟩ : ∃ x, T.ps[j].w = x := ⟨_, rfl⟩
      obtain ⟨S, hS⟩ : ∃ x, wtA T.rs (T.ps.take j) k = x := ⟨_, rfl⟩
      rw [hyy] at c1 hsn hpv
      rw [hzz] at c2 hsn hpv
      rw [hS] at hsn hb1 ⊢
      have KU := fun W (h : Ext w W) => refUses_any _ _ T hok.rv y k W (hT.ext h) (by have := hpv.2.1.1; omega) hpv.2.1.2
      obtain ⟨u, hu⟩ : ∃ u, usB T.rs y k = u := ⟨_, rfl⟩
      rw [hu] at KU hsn
      have HKU := Lib.hid KU
      have HSN := Lib.hid hsn
      have HB := Lib.hid hb2
      have hz1 := hpv.2.2
      clear hsn hyy hzz hS hu KU hpv hb2
      go_wp2_with fail
      go_still_tail 8, (by kernel_rfl)
      change wpList _ _ _ _ _ wr.drew
      obtain ⟨V, hV⟩ : ∃ V, wr.drew = V := ⟨_, rfl⟩
      have hxV : Ext wr V := by rw [← hV]; exact (by repeat (first | exact Ext.refl _ | assumption | refine Ext.alloc ?_ _ | refine Ext.drew ?_ | refine Ext.drewN _ ?_ | refine Ext.trans ?_ (by assumption)))
      rw [hV]
      clear hV
      go_wp2_with fail
      refine (HKU.out _ (hx.trans hxV)).mono ?_
      rintro e w6 ⟨rfl, hz⟩
      have hz6 := hxV.trans hz
      have hx6 := hx.trans hz6
      have q6 := q.ext hz6
      replace d0 := hz6.cell d0
      replace d1 := hz6.cell d1
      replace c2 := hz6.cell c2
      clear hz hxV hz6 hx q c1 c0
      cases u
      · have hs := HSN.out
        rw [if_neg (by decide)] at hs
        have HS := Lib.hid hs
        clear hs
        go_wp2_with fail
        go_roundw
        case rel => exact ⟨j + 1, by omega, by go_num, by rw [HS.out], q6, hx6⟩
        case measure => simp [intOf]; omega
      · have hs := HSN.out
        rw [if_pos rfl] at hs
        have hb2 := HB.out
        rw [hs] at hb2
        have hw1 : IntKind.i64.wrap (S + z) = S + z := IntWalk.i64_in _ (by omega)
        have HS := Lib.hid hs
        clear hs hb2
        go_wp2_with fail
        go_roundw
        case rel => exact ⟨j + 1, by omega, by go_num, by rw [HS.out], q6, hx6⟩
        case measure => simp [intOf]; omega
    · obtain rfl : j = T.ps.length := by omega
      rw [List.take_length, HX.out]
      go_wp2_with fail
      go_ret
      exact ⟨rfl, hx⟩

/-- what a payer pays of a reach, in parts -/
def rpX (T : Tr) (p : Py) (k : Nat) : Int := if usB T.rs p.reach k = true then pcX T (cst T.rs k) p.w k else 0
theorem rpX_bd {T : Tr} (hok : Ok T) {p : Py} (hp : p ∈ T.ps) (k : Nat) : 0 ≤ rpX T p k ∧ rpX T p k ≤ 350894743879680 := by
  unfold rpX
  split
  · rename_i h
    obtain ⟨h1, h2, h3, h4⟩ := pay_facts hok hp (r := (k : Int)) (usB_t.1 h)
    exact pcX_bd (by simpa using h4) h2.1 (by simpa using h2.2) (by simpa using h3)
  · omega
theorem shX_sum {T : Tr} (hok : Ok T) {p : Py} (hp : p ∈ T.ps) : shX T p = sumR T.rs.length (rpX T p) := by
  have h2 := (hok.pv p hp).2.1
  have e : shX T p = sumL (fun k => pcX T (cst T.rs k) p.w k) (upL T.rs p.reach) := rfl
  rw [e, sumL_eq (n := T.rs.length) _ _ ((upL_nodup hok.rv (p.reach.toNat + 1) p.reach (by omega) h2.2).imp (fun h => by omega)) (upL_in hok.rv h2.2)]
  refine sumR_congr (fun k _ => ?_)
  unfold rpX
  by_cases h : usB T.rs p.reach k = true
  · rw [if_pos h, if_pos (usB_t.1 h)]
  · rw [if_neg h, if_neg (fun hm => h (usB_t.2 hm))]

set_option maxRecDepth 100000 in
set_option maxHeartbeats 4000000 in
theorem refPiece_any (a b : Value) (T : Tr) (hok : Ok T) (i k : Nat) (hi : i < T.ps.length) (hk : k < T.rs.length) (w : World) (hT : TrAt w a b T) :
    Calls Try.prog 112 #[.agg #[a, b], .int .i64 i, .int .i64 k] w fun e w' => e = .returned (.int .i64 (rpX T T.ps[i] k)) ∧ Ext w w' := by
  obtain ⟨aa, ca, rfl, hla⟩ := hT.r.len
  obtain ⟨ab, cb, rfl, hlb⟩ := hT.p.len
  have hlp := hok.lp
  have hlr := hok.lr
  obtain ⟨bb, oo, rfl, c0, c1, c2⟩ := hT.p.get i hi
  obtain ⟨br, or', rfl, r0, r1⟩ := hT.r.get k hk
  have hpv := hok.pv _ (List.getElem_mem hi)
  have hX : rpX T T.ps[i] k = if usB T.rs T.ps[i].reach k = true then cst T.rs k * T.ps[i].w * (5354228880 / wtA T.rs T.ps k) else 0 := rfl
  have hpf := fun (h : usB T.rs T.ps[i].reach k = true) => pay_facts hok (List.getElem_mem hi) (r := (k : Int)) (usB_t.1 h)
  simp only [Int.toNat_natCast] at hpf
  have hrb := rpX_bd hok (List.getElem_mem hi) k
  obtain ⟨X, hXX⟩ : ∃ X, rpX T T.ps[i] k = X := ⟨_, rfl⟩
  rw [hXX] at hX hrb ⊢
  rw [← cst_get hk] at r1
  obtain ⟨c, hc⟩ : ∃ c, cst T.rs k = c := ⟨_, rfl⟩
  rw [hc] at hX r1 hpf
  obtain ⟨y, hyy⟩ : ∃ x, T.ps[i].reach = x := ⟨_, rfl⟩
  obtain ⟨z, hzz⟩ : ∃ x, T.ps[i].w = x := ⟨_, rfl⟩
  rw [hyy] at c1 hX hpv hpf
  rw [hzz] at c2 hX hpv hpf
  have KU := fun W (h : Ext w W) => refUses_any _ _ T hok.rv y k W (hT.ext h) (by have := hpv.2.1.1; omega) hpv.2.1.2
  have KH := fun W (h : Ext w W) => refHeads_any _ _ T hok k W (hT.ext h)
  obtain ⟨u, hu⟩ : ∃ u, usB T.rs y k = u := ⟨_, rfl⟩
  obtain ⟨H, hH⟩ : ∃ u, wtA T.rs T.ps k = u := ⟨_, rfl⟩
  rw [hu] at KU hX hpf
  rw [hH] at KH hX hpf
  have HX := Lib.hid hX
  have HKU := Lib.hid KU
  have HKH := Lib.hid KH
  have HPF := Lib.hid hpf
  have hip : (0 : Int) ≤ i ∧ (i : Int) < T.ps.length := by omega
  have hkp : (0 : Int) ≤ k ∧ (k : Int) < T.rs.length := by omega
  clear hX KU KH hpf hu hH hyy hzz hpv hc hXX c0 r0
  go_enter Try.func112, Try.ntmps112
  go_upto_region 1 with fail
  obtain ⟨W1, hW1⟩ : ∃ W1, w.alloc (.cells #[.slice (some ⟨br, or', none⟩) T.rs.length ca, .slice (some ⟨bb, oo, none⟩) T.ps.length cb] 25) = W1 := ⟨_, rfl⟩
  have hx1 : Ext w W1 := by rw [← hW1]; exact (by repeat (first | exact Ext.refl _ | assumption | refine Ext.alloc ?_ _ | refine Ext.drew ?_ | refine Ext.drewN _ ?_ | refine Ext.trans ?_ (by assumption)))
  have q1 : Cls w.heap.size 25 #[.slice (some ⟨br, or', none⟩) T.rs.length ca, .slice (some ⟨bb, oo, none⟩) T.ps.length cb] W1 := by rw [← hW1]; exact Cls.new _ _ _
  try rw [hW1]
  clear hW1
  have d0 := q1.cell 0
  have d1 := q1.cell 1
  replace c1 := hx1.cell c1
  go_still_tail 8, (by kernel_rfl)
  change wpList _ _ _ _ _ W1.drew
  obtain ⟨V, hV⟩ : ∃ V, W1.drew = V := ⟨_, rfl⟩
  have hxV : Ext W1 V := by rw [← hV]; exact (by repeat (first | exact Ext.refl _ | assumption | refine Ext.alloc ?_ _ | refine Ext.drew ?_ | refine Ext.drewN _ ?_ | refine Ext.trans ?_ (by assumption)))
  rw [hV]
  clear hV
  replace hxV1 := hx1.trans hxV
  replace d0 := hxV.cell d0
  replace d1 := hxV.cell d1
  replace c1 := hxV.cell c1
  go_wp2_with fail
  refine (HKU.out _ hxV1).mono ?_
  rintro e w6 ⟨rfl, hz⟩
  have hx6 := hxV1.trans hz
  have q6 := q1.ext (hxV.trans hz)
  have d0 := q6.cell 0
  have d1 := q6.cell 1
  replace c2 := hx6.cell c2
  replace r1 := hx6.cell r1
  clear hz hxV hx1 q1 c1 hxV1 HKU
  cases u
  · have hs := HX.out
    rw [if_neg (by decide)] at hs
    have HS := Lib.hid hs
    clear hs
    go_wp2_with fail
    go_ret
    exact ⟨ret_int HS.out.symm, hx6⟩
  · have hs := HX.out
    rw [if_pos rfl] at hs
    obtain ⟨_, h2, h3, h4⟩ := HPF.out rfl
    have hH0 : ¬ H = 0 := by omega
    have hHb : (H == 0) = false := by simpa using hH0
    obtain ⟨Q, hQ⟩ : ∃ Q, 5354228880 / H = Q := ⟨_, rfl⟩
    rw [hQ] at hs
    have hq1 : (5354228880 : Int).tdiv H = Q := by rw [Int.tdiv_eq_ediv_of_nonneg (by decide), hQ]
    have hq2 : 0 ≤ Q := by rw [← hQ]; exact Int.ediv_nonneg (by decide) (by omega)
    have hq3 : Q ≤ 5354228880 := by rw [← hQ]; exact Int.ediv_le_self _ (by decide)
    have hm1 : 0 ≤ c * z := Int.mul_nonneg h4.1 (by omega)
    have hm2 : c * z ≤ 65536 * 24 := Int.mul_le_mul h4.2 (by omega) (by omega) (by decide)
    have hw1 : IntKind.i64.wrap (c * z) = c * z := IntWalk.i64_in _ (by omega)
    have hw2 : IntKind.i64.wrap (c * z * Q) = c * z * Q := IntWalk.i64_in _ (by rw [← hs]; omega)
    have hw3 : IntKind.i64.wrap Q = Q := IntWalk.i64_in _ (by omega)
    have HS := Lib.hid hs
    clear hs hQ hq2 hq3 hm1 hm2 h2 h3 h4
    go_wp2_with fail
    go_region_held3 (fun W' => W'.cell? ⟨w.heap.size, 0, none⟩ = some (.slice (some ⟨br, or', none⟩) T.rs.length ca) ∧ W'.cell? ⟨w.heap.size, 1, none⟩ = some (.slice (some ⟨bb, oo, none⟩) T.ps.length cb) ∧ W'.cell? ⟨bb, oo + i * 3 + 2, none⟩ = some (.int .i64 z) ∧ W'.cell? ⟨br, or' + k * 2 + 1, none⟩ = some (.int .i64 c) ∧ Ext w6 W')
      ((refine ⟨Ext.cell (w := w6) ?_ d0, Ext.cell (w := w6) ?_ d1, Ext.cell (w := w6) ?_ c2, Ext.cell (w := w6) ?_ r1, ?_⟩; all_goals exact (by repeat (first | exact Ext.refl _ | assumption | refine Ext.alloc ?_ _ | refine Ext.drew ?_ | refine Ext.drewN _ ?_ | refine Ext.trans ?_ (by assumption)))))
      ((first | (go_at_call 125; refine (HKH.out _ (hx6.trans (by repeat (first | exact Ext.refl _ | assumption | refine Ext.alloc ?_ _ | refine Ext.drew ?_ | refine Ext.drewN _ ?_ | refine Ext.trans ?_ (by assumption))))).mono ?_; rintro e w' ⟨rfl, hz⟩)))
    all_goals
      go_wp2_with fail
      go_ret
      exact ⟨ret_int HS.out.symm, hx6.trans (by repeat (first | exact Ext.refl _ | assumption | refine Ext.alloc ?_ _ | refine Ext.drew ?_ | refine Ext.drewN _ ?_ | refine Ext.trans ?_ (by assumption)))⟩

set_option maxRecDepth 100000 in
set_option maxHeartbeats 4000000 in
theorem refShare_any (a b : Value) (T : Tr) (hok : Ok T) (i : Nat) (hi : i < T.ps.length) (w : World) (hT : TrAt w a b T) :
    Calls Try.prog 79 #[.agg #[a, b], .int .i64 i] w fun e w' => e = .returned (.int .i64 (shX T T.ps[i])) ∧ Ext w w' := by
  obtain ⟨aa, ca, rfl, hla⟩ := hT.r.len
  have hlr := hok.lr
  rw [shX_sum hok (List.getElem_mem hi)]
  have hbd := rpX_bd hok (List.getElem_mem hi)
  have KP := fun k hk W (h : Ext w W) => refPiece_any _ _ T hok i k hi hk W (hT.ext h)
  obtain ⟨f, hf⟩ : ∃ f, rpX T T.ps[i] = f := ⟨_, rfl⟩
  rw [hf] at hbd KP ⊢
  have HKP := Lib.hid KP
  have HBD := Lib.hid hbd
  clear hf KP hbd
  go_enter Try.func79, Try.ntmps79
  go_upto_region 1 with fail
  obtain ⟨W1, hW1⟩ : ∃ W1, w.alloc (.cells #[.slice aa T.rs.length ca, b] 25) = W1 := ⟨_, rfl⟩
  have hx1 : Ext w W1 := by rw [← hW1]; exact (by repeat (first | exact Ext.refl _ | assumption | refine Ext.alloc ?_ _ | refine Ext.drew ?_ | refine Ext.drewN _ ?_ | refine Ext.trans ?_ (by assumption)))
  have q1 : Cls w.heap.size 25 #[.slice aa T.rs.length ca, b] W1 := by rw [← hW1]; exact Cls.new _ _ _
  try rw [hW1]
  clear hW1
  go_wp2_with fail
  go_loopw [5, 6] (fun s i wr => ∃ k : Nat, k ≤ T.rs.length ∧ i = .int .i64 k ∧ s = .int .i64 (sumR k f) ∧ Cls w.heap.size 25 #[.slice aa T.rs.length ca, b] wr ∧ Ext w wr) (fun _ i _ => T.rs.length - (intOf i).toNat)
  case atStart => exact ⟨0, Nat.zero_le _, rfl, rfl, q1, hx1⟩
  case round =>
    clear q1 hx1
    obtain ⟨k, hk, rfl, rfl, q, hx⟩ := hrel
    have d0 : wr.cell? ⟨w.heap.size, 0, none⟩ = some (.slice aa T.rs.length ca) := q.cell 0
    have d1 : wr.cell? ⟨w.heap.size, 1, none⟩ = some b := q.cell 1
    by_cases hlt : k < T.rs.length
    · have hsn : sumR (k + 1) f = sumR k f + f k := rfl
      have hb1 := sumR_bd (n := k) (f := f) (fun j _ => HBD.out j)
      have hb2 := HBD.out k
      have KP := HKP.out k hlt
      obtain ⟨S, hS⟩ : ∃ x, sumR k f = x := ⟨_, rfl⟩
      obtain ⟨x, hxx⟩ : ∃ x, f k = x := ⟨_, rfl⟩
      rw [hS] at hsn hb1 ⊢
      rw [hxx] at hsn hb2 KP
      have hw1 : IntKind.i64.wrap (S + x) = S + x := IntWalk.i64_in _ (by omega)
      have HSN := Lib.hid hsn
      have hki : (k : Int) < T.rs.length := by omega
      clear hsn hb1 hb2 hS hxx
      go_wp2_with fail
      refine (KP _ hx).mono ?_
      rintro e w6 ⟨rfl, hz⟩
      clear KP d0 d1
      go_wp2_with fail
      go_roundw
      case rel => exact ⟨k + 1, by omega, by go_num, by rw [HSN.out], q.ext hz, hx.trans hz⟩
      case measure => simp [intOf]; omega
    · obtain rfl : k = T.rs.length := by omega
      obtain ⟨S, hS⟩ : ∃ x, sumR T.rs.length f = x := ⟨_, rfl⟩
      rw [hS]
      have HS := Lib.hid hS
      clear hS
      go_wp2_with fail
      go_ret
      exact ⟨ret_int HS.out.symm, hx⟩

set_option maxRecDepth 100000 in
set_option maxHeartbeats 2000000 in
theorem refRatio_any (n d : Int) (w : World) (h1 : -1000000000000000000 ≤ n) (h2 : n ≤ 1000000000000000000) (h3 : 0 < d) (h4 : d ≤ 1000000000000000000) :
    Calls Try.prog 78 #[.int .i64 n, .int .i64 d] w fun e w' => e = .returned (.agg #[.int .i64 (ratF n d).n, .int .i64 (ratF n d).d]) ∧ Ext w w' := by
  obtain ⟨g, a, b, g0, hn, hd, hb, hc, hr⟩ := ratF_parts (n := n) h3
  rw [hr]
  have hgd : (g.natAbs : Int) = g := by omega
  have hgg : Nat.gcd n.natAbs d.natAbs = g.natAbs := by
    have : Int.gcd n d = g.natAbs * Int.gcd a b := by rw [hn, hd, Int.gcd_mul_left]
    rw [hc, Nat.mul_one] at this
    exact this
  have hq1 : n.tdiv g = a := by rw [hn]; exact Int.mul_tdiv_cancel_left _ (by omega)
  have hq2 : d.tdiv g = b := by rw [hd]; exact Int.mul_tdiv_cancel_left _ (by omega)
  have hab : a.natAbs ≤ n.natAbs := by rw [hn, Int.natAbs_mul]; exact Nat.le_mul_of_pos_left _ (by omega)
  have hbb : b.natAbs ≤ d.natAbs := by rw [hd, Int.natAbs_mul]; exact Nat.le_mul_of_pos_left _ (by omega)
  have hwa : IntKind.i64.wrap a = a := IntWalk.i64_in _ (by omega)
  have hwb : IntKind.i64.wrap b = b := IntWalk.i64_in _ (by omega)
  obtain ⟨x, hx⟩ : ∃ x : Nat, n.natAbs = x := ⟨_, rfl⟩
  obtain ⟨y, hy⟩ : ∃ y : Nat, d.natAbs = y := ⟨_, rfl⟩
  have hyd : d = (y : Int) := by omega
  obtain ⟨gg, hgg2⟩ : ∃ gg : Nat, g.natAbs = gg := ⟨_, rfl⟩
  rw [hx, hy, hgg2] at hgg
  have hge : g = (gg : Int) := by omega
  have hxb : x ≤ 1000000000000000000 := by omega
  have hyb : y ≤ 1000000000000000000 := by omega
  subst hge
  have HG := Lib.hid hgg
  have HQ1 := Lib.hid hq1
  have HQ2 := Lib.hid hq2
  have HY := Lib.hid hyd
  have hw1 : IntKind.i64.wrap (0 - n) = -n := by rw [Int.zero_sub]; exact IntWalk.i64_in _ (by omega)
  have hw2 : IntKind.i64.wrap (-n) = -n := IntWalk.i64_in _ (by omega)
  have hmx : (if -n < n then n else -n) = (x : Int) := by split <;> omega
  have hmx2 : max n (-n) = (x : Int) := by omega
  have HX := Lib.hid hx
  clear hab hbb hn hd hr hgd hc hy hgg hgg2 hq1 hq2 hyd hx
  go_enter Try.func78, Try.ntmps78
  obtain ⟨W1, hW1⟩ : ∃ W1, w.alloc (.cells #[.int .i64 0, .int .i64 0] 42) = W1 := ⟨_, rfl⟩
  have q1 : Cls w.heap.size 42 #[.int .i64 0, .int .i64 0] W1 := by rw [← hW1]; exact Cls.new _ _ _
  have hx1 : Ext w W1 := by rw [← hW1]; exact (by repeat (first | exact Ext.refl _ | assumption | refine Ext.alloc ?_ _ | refine Ext.drew ?_ | refine Ext.drewN _ ?_ | refine Ext.trans ?_ (by assumption)))
  go_wp2_with fail
  all_goals
    (try rw [hW1])
    clear hW1
    go_loopw [5, 6] (fun u v wr => ∃ x y : Nat, u = .int .i64 x ∧ v = .int .i64 y ∧ Hid (Nat.gcd x y = gg) ∧ x ≤ 1000000000000000000 ∧ y ≤ 1000000000000000000 ∧ Ext w wr ∧ Cls w.heap.size 42 #[.int .i64 0, .int .i64 0] wr) (fun _ v _ => (intOf v).toNat)
    case atStart => exact ⟨x, y, vint (by have := HX.out; omega), vint HY.out, HG, hxb, hyb, hx1, q1⟩
    case round =>
      obtain ⟨x, y, rfl, rfl, HG, hx, hy, hxx, hB⟩ := hrel
      by_cases h0 : y = 0
      · subst h0
        have hg := HG.out
        rw [Nat.gcd_zero_right] at hg
        subst hg
        have hz : ¬ ((x : Int) = 0) := by omega
        have hz2 : ((x : Int) == 0) = false := by rw [beq_eq_false_iff_ne]; omega
        have f0 := hB.frozen 0
        have f1 := hB.frozen 1
        have e0 : wr.cell? ⟨w.heap.size, 0, none⟩ = some (.int .i64 0) := hB.cell 0
        have e1 : wr.cell? ⟨w.heap.size, 1, none⟩ = some (.int .i64 0) := hB.cell 1
        have hy0 : ((0 : Nat) : Int) = 0 := rfl
        have r1 := HQ1.out
        have r2 := HQ2.out
        rw [hy0]
        go_wp2_with fail
        go_region
        all_goals (try go_wp2)
        have hC : Cls w.heap.size 42 #[.int .i64 a, .int .i64 b] ((wr.setCell ⟨w.heap.size, 0, none⟩ (.int .i64 a)).setCell ⟨w.heap.size, 1, none⟩ (.int .i64 b)).drew := ((hB.set 0 (.int .i64 a)).set 1 (.int .i64 b)).ext (Ext.drew (Ext.refl _))
        exact bodyPost_ret (results_cell_row rfl _ _ w.heap.size _ _ _ _ rfl hC Try.underlying42 rfl (by kernel_rfl)) rfl ⟨rfl, ((hxx.setCell (p := ⟨w.heap.size, 0, none⟩) (Nat.le_refl _) _).setCell (p := ⟨w.heap.size, 1, none⟩) (Nat.le_refl _) _).drew⟩
      · have hy1 : (1 : Int) ≤ y := by omega
        have hyz : ((y : Int) == 0) = false := by rw [beq_eq_false_iff_ne]; omega
        have hyz2 : ((y : Int) != 0) = true := by rw [bne_iff_ne]; omega
        have hyz3 : ¬ ((y : Int) = 0) := by omega
        have hb1 := Int.emod_nonneg (x : Int) (show (y : Int) ≠ 0 by omega)
        have hb2 := Int.emod_lt_of_pos (x : Int) (show (0 : Int) < y by omega)
        go_wp2
        all_goals (try go_quiet (fail))
        all_goals (try go_wp2)
        all_goals
          go_roundw
          case rel => exact ⟨y, x % y, by first | rfl | simp, by first | rfl | simp, (by have h := HG.out; exact Lib.hid (by rw [← h]; exact gcd_step x y)), hy, by have := Nat.mod_lt x (show 0 < y by omega); omega, (by repeat (first | exact Ext.refl _ | assumption | refine Ext.alloc ?_ _ | refine Ext.drew ?_ | refine Ext.drewN _ ?_ | refine Ext.trans ?_ (by assumption))), hB.ext (by repeat (first | exact Ext.refl _ | assumption | refine Ext.alloc ?_ _ | refine Ext.drew ?_ | refine Ext.drewN _ ?_ | refine Ext.trans ?_ (by assumption)))⟩
          case measure => simp [intOf]; have := Nat.mod_lt x (show 0 < y by omega); omega
end Go.Proofs.Ythopgonbndoidaa
