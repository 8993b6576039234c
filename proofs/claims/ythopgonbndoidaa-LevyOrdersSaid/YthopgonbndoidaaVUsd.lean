/- Users and Used of the levy. Users, Used and Path of the specification. -/
import Derived.Test.YthopgonbndoidaaVBtw
import Derived.Test.YthopgonbndoidaaVFai
import Derived.Test.YthopgonbndoidaaVRPen
import Derived.Lib.BufferWrite
namespace Go.Proofs.Ythopgonbndoidaa
open Go.RowKit Go.Shelf

/-- the IDs of those who use a reach, as they come -/
def usnL (rs : List Rc) (k : Int) (l : List Py) : List Int := (l.filter (fun p => usB rs p.reach k)).map (·.id)
theorem usnL_snoc (rs : List Rc) (k : Int) (l : List Py) (p : Py) : usnL rs k (l ++ [p]) = if usB rs p.reach k = true then usnL rs k l ++ [p.id] else usnL rs k l := by
  unfold usnL
  rw [List.filter_append, List.map_append]
  by_cases h : usB rs p.reach k = true <;> simp [h]
theorem usnL_len (rs : List Rc) (k : Int) (l : List Py) : (usnL rs k l).length ≤ l.length := by
  unfold usnL
  rw [List.length_map]
  exact List.length_filter_le _ _
def usnX (T : Tr) (n : Int) : List Int := if reaE T n = 0 then srtI (usnL T.rs n T.ps) else []
set_option maxRecDepth 100000 in
set_option maxHeartbeats 4000000 in
theorem Users_any (a b : Value) (T : Tr) (n : Int) (w : World) (hT : TrAt w a b T) (hn : T.rs.length ≤ 1000000) :
    Calls Try.prog 39 #[.agg #[a, b], .int .i64 n] w (InsPost w (usnX T n) (reaE T n)) := by
  have hX : usnX T n = if reaE T n = 0 then srtI (usnL T.rs n T.ps) else [] := rfl
  have hok := @reaE_ok T n
  obtain ⟨ab, cb, rfl, hlb⟩ := hT.p.len
  obtain ⟨E, hE⟩ : ∃ E, reaE T n = E := ⟨_, rfl⟩
  obtain ⟨X, hXX⟩ : ∃ E, usnX T n = E := ⟨_, rfl⟩
  have HE := Lib.hid hE
  rw [hE] at hok hX ⊢
  rw [hXX] at hX ⊢
  have HX := Lib.hid hX
  clear hE hX hXX
  go_enter Try.func39, Try.ntmps39
  go_wp2_with fail
  refine (reach_any _ _ T n _ (hT.ext (by repeat (first | exact Ext.refl _ | assumption | refine Ext.alloc ?_ _ | refine Ext.drew ?_ | refine Ext.drewN _ ?_ | refine Ext.trans ?_ (by assumption)))) hn).mono ?_
  rw [HE.out]
  rintro e w1 ⟨rfl, hx1⟩
  obtain ⟨q0, hx, hk0⟩ := alloc1 hx1
  have d0 : w1.cell? ⟨w.heap.size, 0, none⟩ = some a := q0.cell 0
  have d1 : w1.cell? ⟨w.heap.size, 1, none⟩ = some (.slice ab T.ps.length cb) := q0.cell 1
  clear hx1
  by_cases h0 : E = 0
  · have hx2 := HX.out
    rw [if_pos h0] at hx2
    have hk := (hok h0).1
    have hlp := hk.lp
    have hb : (E != 0) = false := by simpa using h0
    have HX2 := Lib.hid hx2
    have H0 := Lib.hid h0
    clear hx2 h0 hok
    go_wp2_with fail
    go_loopw [7, 19] (fun o i wr => ∃ j : Nat, j ≤ T.ps.length ∧ i = .int .i64 j ∧ Hid (RowI w1.heap.size o (usnL T.rs n (T.ps.take j)) wr) ∧ Cls w.heap.size 25 #[a, .slice ab T.ps.length cb] wr ∧ Ext w wr ∧ w1.heap.size ≤ wr.heap.size) (fun _ i _ => T.ps.length - (intOf i).toNat)
    case atStart => exact ⟨0, Nat.zero_le _, rfl, Lib.hid (rowI_nil _ _), q0, hx, Nat.le_refl _⟩
    case round =>
      clear q0 hx d0 d1
      obtain ⟨j, hj, rfl, HR, q, hx, hsz⟩ := hrel
      have d0 : wr.cell? ⟨w.heap.size, 0, none⟩ = some a := q.cell 0
      have d1 : wr.cell? ⟨w.heap.size, 1, none⟩ = some (.slice ab T.ps.length cb) := q.cell 1
      by_cases hlt : j < T.ps.length
      · obtain ⟨bb, oo, rfl, c0, c1, c2⟩ := (hT.p.ext hx).get j hlt
        have hpv := hk.pv _ (List.getElem_mem hlt)
        have hsn := usnL_snoc T.rs n (T.ps.take j) T.ps[j]
        rw [← take_succ_get T.ps j hlt] at hsn
        have hLl : (usnL T.rs n (T.ps.take j)).length ≤ 24 := Nat.le_trans (usnL_len _ _ _) (by simp; omega)
        have hid : T.ps[j] = ⟨T.ps[j].id, T.ps[j].reach, T.ps[j].w⟩ := rfl
        obtain ⟨x, hxx⟩ : ∃ x, T.ps[j].id = x := ⟨_, rfl⟩
        obtain ⟨y, hyy⟩ : ∃ y, T.ps[j].reach = y := ⟨_, rfl⟩
        obtain ⟨z, hzz⟩ : ∃ z, T.ps[j].w = z := ⟨_, rfl⟩
        obtain ⟨L, hL⟩ : ∃ L, usnL T.rs n (T.ps.take j) = L := ⟨_, rfl⟩
        rw [hxx] at c0 hid
        rw [hyy] at c1 hid hpv
        rw [hzz] at c2 hid hpv
        rw [hid, hL] at hsn
        rw [hL] at HR hLl
        have KU := fun W (h : Ext w W) => uses_any _ _ T hk.rv x y z n W (hT.ext h) (by have := hpv.2.1.1; omega) hpv.2.1.2
        obtain ⟨u, hu⟩ : ∃ u, usB T.rs y n = u := ⟨_, rfl⟩
        have hsn2 : usnL T.rs n (T.ps.take (j + 1)) = if u = true then L ++ [x] else L := by rw [hsn, ← hu]
        rw [hu] at KU
        have HKU := Lib.hid KU
        have HSN := Lib.hid hsn2
        have hR := HR.out
        obtain ⟨PB, hPB⟩ : ∃ PB, wr.heap.size = PB := ⟨_, rfl⟩
        obtain ⟨Y, hY⟩ : ∃ Y, wr.alloc (.cells #[.int .i64 x, .int .i64 y, .int .i64 z] 45) = Y := ⟨_, rfl⟩
        have hxY : Ext wr Y := by rw [← hY]; exact (by repeat (first | exact Ext.refl _ | assumption | refine Ext.alloc ?_ _ | refine Ext.drew ?_ | refine Ext.drewN _ ?_ | refine Ext.trans ?_ (by assumption)))
        have hbY : Cls PB 45 #[.int .i64 x, .int .i64 y, .int .i64 z] Y := by rw [← hY]; exact Cls.newAt _ _ _ hPB.symm
        have hrl := hR.lt
        have hRY := rowI_ext hR hxY
        have qY := q.ext hxY
        have hx' := hx.trans hxY
        have e0 : Y.cell? ⟨PB, 0, none⟩ = some (.int .i64 x) := hbY.cell 0
        have e1 : Y.cell? ⟨PB, 1, none⟩ = some (.int .i64 y) := hbY.cell 1
        have e2 : Y.cell? ⟨PB, 2, none⟩ = some (.int .i64 z) := hbY.cell 2
        replace d0 := hxY.cell d0
        replace d1 := hxY.cell d1
        have hszY : w1.heap.size ≤ Y.heap.size := Nat.le_trans hsz hxY.size
        clear hxx hyy hzz hL hid hpv hsn hsn2 hu KU HR hR
        go_wp2_with fail
        refine (HKU.out _ hx').mono ?_
        rintro e w6 ⟨rfl, hz⟩
        have hx6 := hx'.trans hz
        have q6 := qY.ext hz
        have hR6 := rowI_ext hRY hz
        have hsz6 : w1.heap.size ≤ w6.heap.size := Nat.le_trans hszY hz.size
        replace e0 := hz.cell e0
        clear hz hx' qY hRY hszY hxY hbY d0 d1 e1 e2 c0 c1 c2 HKU hx q hY
        cases u
        · have hs := HSN.out
          rw [if_neg (by decide)] at hs
          have HS := Lib.hid hs
          clear hs HSN
          go_wp2_with fail
          go_roundw
          case rel => exact ⟨j + 1, by omega, by go_num, Lib.hid (by rw [HS.out]; exact hR6), q6, hx6, hsz6⟩
          case measure => simp [intOf]; omega
        · have hs := HSN.out
          rw [if_pos rfl] at hs
          have HS := Lib.hid hs
          clear hs HSN
          go_wp2_with (at_builtin; refine append_ints rfl _ _ rfl w1.heap.size _ _ L [x] rfl (rowI_ext hR6 (by repeat (first | exact Ext.refl _ | assumption | refine Ext.alloc ?_ _ | refine Ext.drew ?_ | refine Ext.drewN _ ?_ | refine Ext.trans ?_ (by assumption)))) rfl (ints_oneAt _ _ _ rfl) (by simp; omega) (by simp; omega) ?_; intro v1 w3 hr3 hg3 _; have hx3 := ext_own hx6 hR6 (by omega) (grown_pre hg3); have q3 := q6.kept (grown_pre hg3) (fun e => by have := (hrl _ e.symm).1; omega); have hsz3 : w1.heap.size ≤ w3.heap.size := Nat.le_trans hsz6 (grown_pre hg3).size; clear hg3)
          go_roundw
          case rel => exact ⟨j + 1, by omega, by go_num, Lib.hid (by rw [HS.out]; exact hr3), q3, hx3, hsz3⟩
          case measure => simp [intOf]; omega
      · obtain rfl : j = T.ps.length := by omega
        have hR := HR.out
        rw [List.take_length] at hR
        have hgx := HX2.out
        have hLl := usnL_len T.rs n T.ps
        obtain ⟨L, hL⟩ : ∃ L, usnL T.rs n T.ps = L := ⟨_, rfl⟩
        rw [hL] at hR hgx hLl
        have HG := Lib.hid hgx
        clear hL hgx HR
        go_wp2_with fail
        refine (sort_any w1.heap.size _ L _ hR (by omega)).mono ?_
        rintro e w7 ⟨rfl, hr7, hg7⟩
        rw [← HG.out] at hr7
        go_wp2_with fail
        go_ret2
        exact ⟨_, ret2 rfl (by rw [H0.out]; rfl), hr7.at_, ext_own hx hR (by omega) hg7⟩
  · have hx2 := HX.out
    rw [if_neg h0] at hx2
    have hb : (E != 0) = true := by simpa using h0
    have HX2 := Lib.hid hx2
    clear hx2 h0 hok
    go_wp2_with fail
    go_ret2
    exact ⟨_, rfl, by rw [HX2.out]; exact intsAt_nil _, hx⟩

/-- the reaches that weigh -/
def usdL (o : Nat → Int) (k : Nat) : List Int := ((List.range k).filter (fun i => decide (o i > 0))).map Int.ofNat
theorem usdL_succ (o : Nat → Int) (k : Nat) : usdL o (k + 1) = if o k > 0 then usdL o k ++ [(k : Int)] else usdL o k := by
  unfold usdL
  rw [List.range_succ, List.filter_append, List.map_append]
  by_cases h : o k > 0 <;> simp [h]
theorem usdL_len (o : Nat → Int) (k : Nat) : (usdL o k).length ≤ k := by
  unfold usdL
  rw [List.length_map]
  exact Nat.le_trans (List.length_filter_le _ _) (by simp)
def usdX (T : Tr) : List Int := if chkE T = 0 then usdL (wtA T.rs T.ps) 24 else []
set_option maxRecDepth 100000 in
set_option maxHeartbeats 4000000 in
theorem Used_any (a b : Value) (T : Tr) (w : World) (hT : TrAt w a b T) :
    Calls Try.prog 46 #[.agg #[a, b]] w (InsPost w (usdX T) (chkE T)) := by
  have hX : usdX T = if chkE T = 0 then usdL (wtA T.rs T.ps) 24 else [] := rfl
  have hok := @Ok.of T
  have KW := fun (h : Ok T) W (hx : Ext w W) => weights_any a b T h W (hT.ext hx)
  obtain ⟨E, hE⟩ : ∃ E, chkE T = E := ⟨_, rfl⟩
  obtain ⟨X, hXX⟩ : ∃ E, usdX T = E := ⟨_, rfl⟩
  obtain ⟨o, ho⟩ : ∃ o, wtA T.rs T.ps = o := ⟨_, rfl⟩
  have HE := Lib.hid hE
  rw [hE] at hok hX ⊢
  rw [ho] at KW hX
  rw [hXX] at hX ⊢
  have HX := Lib.hid hX
  clear hE hX hXX ho
  go_enter Try.func46, Try.ntmps46
  go_wp2_with fail
  refine (Check_any _ _ T _ (hT.ext (by repeat (first | exact Ext.refl _ | assumption | refine Ext.alloc ?_ _ | refine Ext.drew ?_ | refine Ext.drewN _ ?_ | refine Ext.trans ?_ (by assumption))))).mono ?_
  rw [HE.out]
  rintro e w1 ⟨rfl, hx1⟩
  obtain ⟨q0, hx, hk0⟩ := alloc1 hx1
  have d0 : w1.cell? ⟨w.heap.size, 0, none⟩ = some a := q0.cell 0
  have d1 : w1.cell? ⟨w.heap.size, 1, none⟩ = some b := q0.cell 1
  clear hx1
  by_cases h0 : E = 0
  · have hx2 := HX.out
    rw [if_pos h0] at hx2
    have hk := hok h0
    have hb : (E != 0) = false := by simpa using h0
    have HX2 := Lib.hid hx2
    have H0 := Lib.hid h0
    clear hx2 h0 hok
    go_wp2_with fail
    refine (KW hk _ hx).mono ?_
    rintro e w2 ⟨rfl, hz⟩
    have hx2 := hx.trans hz
    have hsz2 : w.heap.size ≤ w2.heap.size := hx2.size
    clear hz hx d0 d1 q0 KW
    go_wp2_with fail
    go_loopw [5, 15] (fun v i wr => ∃ k : Nat, k ≤ 24 ∧ i = .int .i64 k ∧ Hid (RowI w.heap.size v (usdL o k) wr) ∧ Ext w wr) (fun _ i _ => 24 - (intOf i).toNat)
    case atStart => exact ⟨0, Nat.zero_le _, rfl, Lib.hid (rowI_nil _ _), hx2⟩
    case round =>
      clear hx2 hsz2
      obtain ⟨k, hk2, rfl, HR, hx⟩ := hrel
      have hR := HR.out
      by_cases hlt : k < 24
      · have hg := arr_get o hlt
        have hki : (k : Int) < 24 := by omega
        have hst := usdL_succ o k
        have hLl := usdL_len o k
        obtain ⟨L, hL⟩ : ∃ L, usdL o k = L := ⟨_, rfl⟩
        obtain ⟨x, hxx⟩ : ∃ x, o k = x := ⟨_, rfl⟩
        rw [hxx, hL] at hst
        rw [hL] at hR hLl
        have HOK2 := Lib.hid hxx
        have hsz := hx.size
        clear hL hxx HR hg
        by_cases hp : x > 0
        · have hb2 : decide (x > 0) = true := decide_eq_true hp
          rw [if_pos hp] at hst
          have HS := Lib.hid hst
          clear hst
          go_wp2_with (first | (refine wpList_indexC rfl _ _ rfl o k _ rfl rfl hlt HOK2.out ?_) | (at_builtin; refine append_ints rfl _ _ rfl w.heap.size _ _ L [(k:Int)] rfl (rowI_ext hR (by repeat (first | exact Ext.refl _ | assumption | refine Ext.alloc ?_ _ | refine Ext.drew ?_ | refine Ext.drewN _ ?_ | refine Ext.trans ?_ (by assumption)))) rfl (ints_oneAt _ _ _ rfl) (by simp; omega) (by simp; omega) ?_; intro v1 w3 hr3 hg3 _; have hx3 := ext_own hx hR (by omega) (grown_pre hg3); clear hg3))
          go_roundw
          case rel => exact ⟨k + 1, by omega, by go_num, Lib.hid (by rw [HS.out]; exact hr3), hx3⟩
          case measure => simp [intOf]; omega
        · have hb2 : decide (x > 0) = false := decide_eq_false hp
          rw [if_neg hp] at hst
          have HS := Lib.hid hst
          clear hst
          go_wp2_with (refine wpList_indexC rfl _ _ rfl o k _ rfl rfl hlt HOK2.out ?_)
          go_roundw
          case rel => exact ⟨k + 1, by omega, by go_num, Lib.hid (by rw [HS.out]; exact hR), hx⟩
          case measure => simp [intOf]; omega
      · obtain rfl : k = 24 := by omega
        rw [← HX2.out] at hR
        clear HR
        go_wp2_with fail
        go_ret2
        exact ⟨_, ret2 rfl (by rw [H0.out]; rfl), hR.at_, hx⟩
  · have hx2 := HX.out
    rw [if_neg h0] at hx2
    have hb : (E != 0) = true := by simpa using h0
    have HX2 := Lib.hid hx2
    clear hx2 h0 hok
    go_wp2_with fail
    go_ret2
    exact ⟨_, rfl, by rw [HX2.out]; exact intsAt_nil _, hx⟩
end Go.Proofs.Ythopgonbndoidaa
namespace Go.Proofs.Ythopgonbndoidaa
open Go.RowKit Go.Shelf Go.Lib

def IxsPost (w : World) (l : List Int) (E : Int) (e : Ending) (w' : World) : Prop := ∃ v, e = .returned (.agg #[v, .int .i64 E]) ∧ IntsAt w' v l ∧ Ext w w'
/-- the result's block, filled in -/
theorem ixs_ext {w W : World} (B : Nat) (hx : Ext w W) (hB : w.heap.size ≤ B) (v u : Value) : Ext w ((W.setCell ⟨B, 0, none⟩ v).setCell ⟨B, 1, none⟩ u) :=
  (hx.setCell (p := ⟨B, 0, none⟩) hB _).setCell (p := ⟨B, 1, none⟩) hB _
/-- an own row stays where two cells of an older block are set -/
theorem rowI_cells {n₀ B : Nat} {v : Value} {l : List Int} {W : World} (h : RowI n₀ v l W) (hB : B < n₀) (x y : Value) : RowI n₀ v l ((W.setCell ⟨B, 0, none⟩ x).setCell ⟨B, 1, none⟩ y) := by
  have hne : v.ownBlock ≠ some B := fun e => by have := (h.lt _ e).1; omega
  exact rowI_kept (rowI_kept h (grownBy_setCell _ _ _ _) (.inr hne)) (grownBy_setCell _ _ _ _) (.inr hne)
set_option maxRecDepth 100000 in
set_option maxHeartbeats 4000000 in
theorem refUsersR_any (a b : Value) (T : Tr) (hok : Ok T) (k : Int) (w : World) (hT : TrAt w a b T) :
    Calls Try.prog 94 #[.agg #[a, b], .int .i64 k] w fun e w' => ∃ u, e = .returned u ∧ RowI w.heap.size u (usrL T.rs k T.ps) w' ∧ Ext w w' := by
  obtain ⟨ab, cb, rfl, hlb⟩ := hT.p.len
  have hlp := hok.lp
  obtain ⟨X, hX⟩ : ∃ X, usrL T.rs k T.ps = X := ⟨_, rfl⟩
  have HX := Lib.hid hX
  rw [hX]
  clear hX
  go_enter Try.func94, Try.ntmps94
  go_upto_region 1 with fail
  obtain ⟨W1, hW1⟩ : ∃ W1, w.alloc (.cells #[a, .slice ab T.ps.length cb] 25) = W1 := ⟨_, rfl⟩
  have hx1 : Ext w W1 := by rw [← hW1]; exact (by repeat (first | exact Ext.refl _ | assumption | refine Ext.alloc ?_ _ | refine Ext.drew ?_ | refine Ext.drewN _ ?_ | refine Ext.trans ?_ (by assumption)))
  have q1 : Cls w.heap.size 25 #[a, .slice ab T.ps.length cb] W1 := by rw [← hW1]; exact Cls.new _ _ _
  try rw [hW1]
  clear hW1
  go_wp2_with fail
  go_loopw [5, 6] (fun o i wr => ∃ j : Nat, j ≤ T.ps.length ∧ i = .int .i64 j ∧ Hid (RowI w.heap.size o (usrL T.rs k (T.ps.take j)) wr) ∧ Cls w.heap.size 25 #[a, .slice ab T.ps.length cb] wr ∧ Ext w wr) (fun _ i _ => T.ps.length - (intOf i).toNat)
  case atStart => exact ⟨0, Nat.zero_le _, rfl, Lib.hid (rowI_nil _ _), q1, hx1⟩
  case round =>
    clear q1 hx1
    obtain ⟨j, hj, rfl, HI, q, hx⟩ := hrel
    have d0 : wr.cell? ⟨w.heap.size, 0, none⟩ = some a := q.cell 0
    have d1 : wr.cell? ⟨w.heap.size, 1, none⟩ = some (.slice ab T.ps.length cb) := q.cell 1
    by_cases hlt : j < T.ps.length
    · obtain ⟨bb, oo, rfl, c0, c1, c2⟩ := (hT.p.ext hx).get j hlt
      have hpv := hok.pv _ (List.getElem_mem hlt)
      have hsn := usrL_snoc T.rs k (T.ps.take j) T.ps[j]
      rw [← getD_take T.ps j hlt] at hsn
      have hid : T.ps[j] = ⟨T.ps[j].id, T.ps[j].reach, T.ps[j].w⟩ := rfl
      obtain ⟨x, hxx⟩ : ∃ x, T.ps[j].id = x := ⟨_, rfl⟩
      obtain ⟨y, hyy⟩ : ∃ x, T.ps[j].reach = x := ⟨_, rfl⟩
      rw [hxx] at c0 hid
      rw [hyy] at c1 hid hpv
      rw [hid] at hsn
      have hll : (usrL T.rs k (T.ps.take j)).length ≤ 24 := Nat.le_trans (usrL_len _ _ _) (by simp; omega)
      obtain ⟨L, hL⟩ : ∃ L, usrL T.rs k (T.ps.take j) = L := ⟨_, rfl⟩
      rw [hL] at hsn HI hll
      have KU := fun W (h : Ext w W) => refUses_any _ _ T hok.rv y k W (hT.ext h) (by have := hpv.2.1.1; omega) hpv.2.1.2
      obtain ⟨u, hu⟩ : ∃ u, usB T.rs y k = u := ⟨_, rfl⟩
      have hsn2 : usrL T.rs k (T.ps.take (j + 1)) = if u = true then putL L x else L := by rw [hsn, ← hu]; rfl
      rw [hu] at KU
      have HKU := Lib.hid KU
      have HSN := Lib.hid hsn2
      obtain ⟨oA, oc, hoo, hol⟩ := HI.out.at_.len
      subst hoo
      clear hsn hsn2 hid hxx hyy hL hu KU hpv
      go_wp2_with fail
      go_still_tail 8, (by kernel_rfl)
      change wpList _ _ _ _ _ wr.drew
      obtain ⟨V, hV⟩ : ∃ V, wr.drew = V := ⟨_, rfl⟩
      have hxV : Ext wr V := by rw [← hV]; exact (by repeat (first | exact Ext.refl _ | assumption | refine Ext.alloc ?_ _ | refine Ext.drew ?_ | refine Ext.drewN _ ?_ | refine Ext.trans ?_ (by assumption)))
      rw [hV]
      clear hV
      go_wp2_with fail
      refine (HKU.out _ (hx.trans hxV)).mono ?_
      rintro e w6 ⟨rfl, hz⟩
      have hz6 := hxV.trans hz
      have hx6 := hx.trans hz6
      have q6 := q.ext hz6
      have hI6 := rowI_ext HI.out hz6
      replace d0 := hz6.cell d0
      replace d1 := hz6.cell d1
      replace c0 := hz6.cell c0
      have HI6 := Lib.hid hI6
      clear hz hxV hz6 hI6 hx q HI c1 c2
      cases u
      · have hs := HSN.out
        rw [if_neg (by decide)] at hs
        have HS := Lib.hid hs
        clear hs
        go_wp2_with fail
        go_roundw
        case rel => exact ⟨j + 1, by omega, by go_num, by rw [HS.out]; exact HI6, q6, hx6⟩
        case measure => simp [intOf]; omega
      · have hs := HSN.out
        rw [if_pos rfl] at hs
        have HS := Lib.hid hs
        clear hs
        go_wp2_with fail
        refine (refPut_any _ L x _ HI6.out.at_ (by omega)).mono ?_
        rintro e w7 ⟨v, rfl, hv, hz⟩
        have hv2 := rowI_base hv hx6.size
        clear d0 d1 c0
        go_wp2_with fail
        go_roundw
        case rel => exact ⟨j + 1, by omega, by go_num, by rw [HS.out]; exact Lib.hid hv2, q6.ext hz, hx6.trans hz⟩
        case measure => simp [intOf]; omega
    · obtain rfl : j = T.ps.length := by omega
      have hI := HI.out
      rw [List.take_length, HX.out] at hI
      clear HI
      go_wp2_with fail
      go_ret
      exact ⟨_, rfl, hI, hx⟩
def usrX (T : Tr) (n : Int) : List Int := if reaE T n = 0 then usrL T.rs n T.ps else []
set_option maxRecDepth 100000 in
set_option maxHeartbeats 4000000 in
theorem refUsersP_any (a b : Value) (T : Tr) (n : Int) (w : World) (hT : TrAt w a b T) :
    Calls Try.prog 45 #[.agg #[a, b], .int .i64 n] w (IxsPost w (usrX T n) (reaE T n)) := by
  have hX : usrX T n = if reaE T n = 0 then usrL T.rs n T.ps else [] := rfl
  have hR : reaE T n = if chkE T = 0 then (if inB n 0 ((T.rs.length : Int) - 1) = true then 0 else 5) else chkE T := rfl
  have hok := @Ok.of T
  have KU := fun (h : Ok T) W (hx : Ext w W) => refUsersR_any a b T h n W (hT.ext hx)
  have KC := fun W (hx : Ext w W) => refCheck_any a b T W (hT.ext hx)
  obtain ⟨aa, ca, rfl, hla⟩ := hT.r.len
  obtain ⟨E, hE⟩ : ∃ E, chkE T = E := ⟨_, rfl⟩
  obtain ⟨R, hRR⟩ : ∃ E, reaE T n = E := ⟨_, rfl⟩
  obtain ⟨X, hXX⟩ : ∃ E, usrX T n = E := ⟨_, rfl⟩
  obtain ⟨Y, hYY⟩ : ∃ E, usrL T.rs n T.ps = E := ⟨_, rfl⟩
  obtain ⟨m, hm⟩ : ∃ m, T.rs.length = m := ⟨_, rfl⟩
  rw [hE] at hok KC
  rw [hE, hRR] at hR
  rw [hRR, hXX, hYY] at hX
  rw [hYY] at KU
  rw [hRR, hXX]
  rw [hm] at hR KU KC hla ⊢
  have HX := Lib.hid hX
  have HR := Lib.hid hR
  clear hE hX hXX hRR hYY hR hm hT
  go_enter Try.func45, Try.ntmps45
  go_wp2_with fail
  refine (KC _ (by repeat (first | exact Ext.refl _ | assumption | refine Ext.alloc ?_ _ | refine Ext.drew ?_ | refine Ext.drewN _ ?_ | refine Ext.trans ?_ (by assumption)))).mono ?_
  rintro e w1 ⟨rfl, hx1⟩
  obtain ⟨q0, q1, hx, hk0⟩ := alloc2 hx1
  have d0 : w1.cell? ⟨w.heap.size, 0, none⟩ = some (.slice aa m ca) := q0.cell 0
  have d1 : w1.cell? ⟨w.heap.size, 1, none⟩ = some b := q0.cell 1
  have f0 := q1.frozen 0
  have f1 := q1.frozen 1
  have c0 := q1.cell 0
  have c1 := q1.cell 1
  clear hx1 KC
  by_cases h0 : E = 0
  · have hb : (E != 0) = false := by simpa using h0
    have hr := HR.out
    rw [if_pos h0] at hr
    have KU := KU (hok h0)
    by_cases hn0 : n < 0
    · have g0 : decide (n < 0) = true := decide_eq_true hn0
      have hi : inB n 0 ((m : Int) - 1) = false := by simp [inB]; omega
      rw [hi] at hr; rw [if_neg (by decide)] at hr
      have hxx := HX.out
      rw [if_neg (by rw [hr]; decide)] at hxx
      have HR2 := Lib.hid hr
      have HX2 := Lib.hid hxx
      clear hr hxx hi hn0 h0 HR HX KU
      go_wp2_with fail
      have hC := (q1.set 0 (.slice none 0 0)).set 1 (.int .i64 5)
      exact bodyPost_ret (results_cell_row rfl _ _ (w.heap.size + 1) _ _ _ _ rfl hC Try.underlying88 rfl (by kernel_rfl)) rfl ⟨_, by rw [HR2.out]; rfl, by rw [HX2.out]; exact intsAt_nil _, ixs_ext _ hx (by omega) _ _⟩
    · by_cases hn1 : n ≥ m
      · have g0 : decide (n < 0) = false := decide_eq_false hn0
        have g1 : decide (n ≥ (m : Int)) = true := decide_eq_true hn1
        have hi : inB n 0 ((m : Int) - 1) = false := by simp [inB]; omega
        rw [hi] at hr; rw [if_neg (by decide)] at hr
        have hxx := HX.out
        rw [if_neg (by rw [hr]; decide)] at hxx
        have HR2 := Lib.hid hr
        have HX2 := Lib.hid hxx
        clear hr hxx hi hn0 hn1 h0 HR HX KU
        go_wp2_with fail
        have hC := (q1.set 0 (.slice none 0 0)).set 1 (.int .i64 5)
        exact bodyPost_ret (results_cell_row rfl _ _ (w.heap.size + 1) _ _ _ _ rfl hC Try.underlying88 rfl (by kernel_rfl)) rfl ⟨_, by rw [HR2.out]; rfl, by rw [HX2.out]; exact intsAt_nil _, ixs_ext _ hx (by omega) _ _⟩
      · have g0 : decide (n < 0) = false := decide_eq_false hn0
        have g1 : decide (n ≥ (m : Int)) = false := decide_eq_false hn1
        have hi : inB n 0 ((m : Int) - 1) = true := by simp [inB]; omega
        rw [if_pos hi] at hr
        have hxx := HX.out
        rw [if_pos hr] at hxx
        have HR2 := Lib.hid hr
        have HX2 := Lib.hid hxx
        clear hr hxx hi hn0 hn1 h0 HR HX
        go_wp2_with fail
        refine (KU _ hx).mono ?_
        rintro e w2 ⟨u, rfl, hu, hz⟩
        have q12 := q1.ext hz
        obtain ⟨au, cu, rfl, hlu⟩ := hu.at_.len
        have hx2 := hx.trans hz
        have f0 := q12.frozen 0
        have f1 := q12.frozen 1
        replace c0 := hz.cell c0
        replace c1 := hz.cell c1
        go_wp2_with fail
        have hC := (q12.set 0 (.slice au Y.length cu)).set 1 (.int .i64 0)
        exact bodyPost_ret (results_cell_row rfl _ _ (w.heap.size + 1) _ _ _ _ rfl hC Try.underlying88 rfl (by kernel_rfl)) rfl ⟨_, by rw [HR2.out]; rfl, by rw [HX2.out]; exact (rowI_cells hu (by omega) _ _).at_, ixs_ext _ hx2 (by omega) _ _⟩
  · have hb : (E != 0) = true := by simpa using h0
    have hr := HR.out
    rw [if_neg h0] at hr
    have hxx := HX.out
    rw [if_neg (by rw [hr]; exact h0)] at hxx
    have HR2 := Lib.hid hr
    have HX2 := Lib.hid hxx
    clear hr hxx h0 HR HX KU
    go_wp2_with fail
    have hC := (q1.set 0 (.slice none 0 0)).set 1 (.int .i64 E)
    exact bodyPost_ret (results_cell_row rfl _ _ (w.heap.size + 1) _ _ _ _ rfl hC Try.underlying88 rfl (by kernel_rfl)) rfl ⟨_, by rw [HR2.out]; rfl, by rw [HX2.out]; exact intsAt_nil _, ixs_ext _ hx (by omega) _ _⟩

/-- the reaches that somebody uses -/
def udrL (T : Tr) (k : Nat) : List Int := ((List.range k).filter (fun i => decide (0 < (usrL T.rs (i : Nat) T.ps).length))).map Int.ofNat
theorem udrL_succ (T : Tr) (k : Nat) : udrL T (k + 1) = if 0 < (usrL T.rs k T.ps).length then udrL T k ++ [(k : Int)] else udrL T k := by
  unfold udrL
  rw [List.range_succ, List.filter_append, List.map_append]
  by_cases h : 0 < (usrL T.rs k T.ps).length <;> simp [h]
theorem udrL_len (T : Tr) (k : Nat) : (udrL T k).length ≤ k := by
  unfold udrL
  rw [List.length_map]
  exact Nat.le_trans (List.length_filter_le _ _) (by simp)
def udrX (T : Tr) : List Int := if chkE T = 0 then udrL T T.rs.length else []
set_option maxRecDepth 100000 in
set_option maxHeartbeats 4000000 in
theorem refUsed_any (a b : Value) (T : Tr) (w : World) (hT : TrAt w a b T) :
    Calls Try.prog 47 #[.agg #[a, b]] w (IxsPost w (udrX T) (chkE T)) := by
  have hX : udrX T = if chkE T = 0 then udrL T T.rs.length else [] := rfl
  have hok := @Ok.of T
  have KU := fun (h : Ok T) (k : Int) W (hx : Ext w W) => refUsersR_any a b T h k W (hT.ext hx)
  have KC := fun W (hx : Ext w W) => refCheck_any a b T W (hT.ext hx)
  obtain ⟨aa, ca, rfl, hla⟩ := hT.r.len
  obtain ⟨E, hE⟩ : ∃ E, chkE T = E := ⟨_, rfl⟩
  obtain ⟨X, hXX⟩ : ∃ E, udrX T = E := ⟨_, rfl⟩
  obtain ⟨m, hm⟩ : ∃ m, T.rs.length = m := ⟨_, rfl⟩
  rw [hE] at hok KC hX
  rw [hXX, hm] at hX
  rw [hXX, hE]
  have hm24 : E = 0 → m ≤ 24 := fun h => by have := (hok h).lr; omega
  rw [hm] at KU KC hla ⊢
  have HX := Lib.hid hX
  clear hE hX hXX hm hT
  go_enter Try.func47, Try.ntmps47
  go_wp2_with fail
  refine (KC _ (by repeat (first | exact Ext.refl _ | assumption | refine Ext.alloc ?_ _ | refine Ext.drew ?_ | refine Ext.drewN _ ?_ | refine Ext.trans ?_ (by assumption)))).mono ?_
  rintro e w1 ⟨rfl, hx1⟩
  obtain ⟨q0, q1, hx, hk0⟩ := alloc2 hx1
  have d0 : w1.cell? ⟨w.heap.size, 0, none⟩ = some (.slice aa m ca) := q0.cell 0
  have d1 : w1.cell? ⟨w.heap.size, 1, none⟩ = some b := q0.cell 1
  have f0 := q1.frozen 0
  have f1 := q1.frozen 1
  have c0 := q1.cell 0
  have c1 := q1.cell 1
  clear hx1 KC
  by_cases h0 : E = 0
  · have hb : (E != 0) = false := by simpa using h0
    have hxx := HX.out
    rw [if_pos h0] at hxx
    have KU := KU (hok h0)
    have hm24 := hm24 h0
    have HX2 := Lib.hid hxx
    have H0 := Lib.hid h0
    clear hxx h0 HX d0 d1 f0 f1 c0 c1
    go_wp2_with fail
    go_loopw [4, 5] (fun v i wr => ∃ k : Nat, k ≤ m ∧ i = .int .i64 k ∧ Hid (RowI w1.heap.size v (udrL T k) wr) ∧ Cls w.heap.size 25 #[.slice aa m ca, b] wr ∧ Cls (w.heap.size + 1) 88 #[.slice none 0 0, .int .i64 0] wr ∧ Ext w wr ∧ w1.heap.size ≤ wr.heap.size) (fun _ i _ => m - (intOf i).toNat)
    case atStart => exact ⟨0, Nat.zero_le _, rfl, Lib.hid (rowI_nil _ _), q0, q1, hx, Nat.le_refl _⟩
    case round =>
      clear q0 q1 hx
      obtain ⟨k, hk2, rfl, HR, q0, q1, hx, hsz⟩ := hrel
      have hR := HR.out
      have d0 : wr.cell? ⟨w.heap.size, 0, none⟩ = some (.slice aa m ca) := q0.cell 0
      have d1 : wr.cell? ⟨w.heap.size, 1, none⟩ = some b := q0.cell 1
      by_cases hlt : k < m
      · have hki : (k : Int) < m := by omega
        have hst := udrL_succ T k
        have hLl := udrL_len T k
        have KU := KU k
        obtain ⟨L, hL⟩ : ∃ L, udrL T k = L := ⟨_, rfl⟩
        obtain ⟨U, hU⟩ : ∃ U, usrL T.rs k T.ps = U := ⟨_, rfl⟩
        rw [hU, hL] at hst
        rw [hL] at hR hLl
        rw [hU] at KU
        have hrl := hR.lt
        clear hL hU HR
        go_wp2_with fail
        refine (KU _ hx).mono ?_
        rintro e w6 ⟨u, rfl, hu, hz⟩
        have hx6 := hx.trans hz
        have q06 := q0.ext hz
        have q16 := q1.ext hz
        have hR6 := rowI_ext hR hz
        have hsz6 : w1.heap.size ≤ w6.heap.size := Nat.le_trans hsz hz.size
        obtain ⟨au, cu, rfl, hlu⟩ := hu.at_.len
        obtain ⟨z, hzz⟩ : ∃ z, U.length = z := ⟨_, rfl⟩
        rw [hzz] at hst ⊢
        clear hzz hu hlu hz d0 d1 q0 q1 hx hsz hR
        by_cases hp : 0 < z
        · have hb2 : decide ((z : Int) > 0) = true := decide_eq_true (by omega)
          rw [if_pos hp] at hst
          have HS := Lib.hid hst
          clear hst
          go_wp2_with (at_builtin; refine append_ints rfl _ _ rfl w1.heap.size _ _ L [(k:Int)] rfl (rowI_ext hR6 (by repeat (first | exact Ext.refl _ | assumption | refine Ext.alloc ?_ _ | refine Ext.drew ?_ | refine Ext.drewN _ ?_ | refine Ext.trans ?_ (by assumption)))) rfl (ints_oneAt _ _ _ rfl) (by simp; omega) (by simp; omega) ?_; intro v1 w3 hr3 hg3 _; have hx3 := ext_own hx6 hR6 (by omega) (grown_pre hg3); have q03 := q06.kept (grown_pre hg3) (fun e => by have := (hrl _ e.symm).1; omega); have q13 := q16.kept (grown_pre hg3) (fun e => by have := (hrl _ e.symm).1; omega); have hsz3 : w1.heap.size ≤ w3.heap.size := Nat.le_trans hsz6 (grown_pre hg3).size; clear hg3)
          go_roundw
          case rel => exact ⟨k + 1, by omega, by go_num, Lib.hid (by rw [HS.out]; exact hr3), q03, q13, hx3, hsz3⟩
          case measure => simp [intOf]; omega
        · have hb2 : decide ((z : Int) > 0) = false := decide_eq_false (by omega)
          rw [if_neg hp] at hst
          have HS := Lib.hid hst
          clear hst
          go_wp2_with fail
          go_roundw
          case rel => exact ⟨k + 1, by omega, by go_num, Lib.hid (by rw [HS.out]; exact hR6), q06, q16, hx6, hsz6⟩
          case measure => simp [intOf]; omega
      · obtain rfl : k = m := by omega
        have f0 := q1.frozen 0
        have f1 := q1.frozen 1
        have c0 := q1.cell 0
        have c1 := q1.cell 1
        rw [← HX2.out] at hR
        obtain ⟨av, cv, rfl⟩ := hR.form
        clear HR
        go_wp2_with fail
        have hC := (q1.set 0 (.slice av X.length cv)).set 1 (.int .i64 0)
        exact bodyPost_ret (results_cell_row rfl _ _ (w.heap.size + 1) _ _ _ _ rfl hC Try.underlying88 rfl (by kernel_rfl)) rfl ⟨_, by rw [H0.out]; rfl, (rowI_cells hR (by omega) _ _).at_, ixs_ext _ hx (by omega) _ _⟩
  · have hb : (E != 0) = true := by simpa using h0
    have hxx := HX.out
    rw [if_neg h0] at hxx
    have HX2 := Lib.hid hxx
    clear hxx h0 HX KU hm24 hok
    go_wp2_with fail
    have hC := (q1.set 0 (.slice none 0 0)).set 1 (.int .i64 E)
    exact bodyPost_ret (results_cell_row rfl _ _ (w.heap.size + 1) _ _ _ _ rfl hC Try.underlying88 rfl (by kernel_rfl)) rfl ⟨_, rfl, by rw [HX2.out]; exact intsAt_nil _, ixs_ext _ hx (by omega) _ _⟩

/-- the reaches on the way of a payer's water, in order -/
def ptrL (rs : List Rc) (fr : Int) (k : Nat) : List Int := ((List.range k).filter (fun (i : Nat) => usB rs fr i)).map Int.ofNat
theorem ptrL_succ (rs : List Rc) (fr : Int) (k : Nat) : ptrL rs fr (k + 1) = if usB rs fr k = true then ptrL rs fr k ++ [(k : Int)] else ptrL rs fr k := by
  unfold ptrL
  rw [List.range_succ, List.filter_append, List.map_append]
  by_cases h : usB rs fr k = true <;> simp [h]
theorem ptrL_len (rs : List Rc) (fr : Int) (k : Nat) : (ptrL rs fr k).length ≤ k := by
  unfold ptrL
  rw [List.length_map]
  exact Nat.le_trans (List.length_filter_le _ _) (by simp)
/-- the error and the index of a payer -/
def pthE (T : Tr) (id : Int) : Int := if chkE T = 0 then (if fnd T.ps id < 0 then 5 else 0) else chkE T
def pthR (T : Tr) (id : Int) : Int := (T.ps.getD (fnd T.ps id).toNat ⟨0, 0, 0⟩).reach
def ptrX (T : Tr) (id : Int) : List Int := if pthE T id = 0 then ptrL T.rs (pthR T id) T.rs.length else []
set_option maxRecDepth 100000 in
set_option maxHeartbeats 4000000 in
theorem refPath_any (a b : Value) (T : Tr) (id : Int) (w : World) (hT : TrAt w a b T) (hn : T.ps.length ≤ 100000) :
    Calls Try.prog 44 #[.agg #[a, b], .int .i64 id] w (IxsPost w (ptrX T id) (pthE T id)) := by
  have hX : ptrX T id = if pthE T id = 0 then ptrL T.rs (pthR T id) T.rs.length else [] := rfl
  have hPE : pthE T id = if chkE T = 0 then (if fnd T.ps id < 0 then 5 else 0) else chkE T := rfl
  have hok := @Ok.of T
  have hfl := @fnd_lt T.ps id
  have hRe : pthR T id = (T.ps.getD (fnd T.ps id).toNat ⟨0, 0, 0⟩).reach := rfl
  have KU := fun (h : Ok T) (fr k : Int) h1 h2 W (hx : Ext w W) => refUses_any a b T h.rv fr k W (hT.ext hx) h1 h2
  have KC := fun W (hx : Ext w W) => refCheck_any a b T W (hT.ext hx)
  have KP := fun W (hx : Ext w W) => refPayer_any a b T id W (hT.ext hx) hn
  obtain ⟨aa, ca, rfl, hla⟩ := hT.r.len
  obtain ⟨ab, cb, rfl, hlb⟩ := hT.p.len
  obtain ⟨E, hE⟩ : ∃ E, chkE T = E := ⟨_, rfl⟩
  obtain ⟨X, hXX⟩ : ∃ E, ptrX T id = E := ⟨_, rfl⟩
  obtain ⟨R, hRR⟩ : ∃ E, pthR T id = E := ⟨_, rfl⟩
  obtain ⟨F, hF⟩ : ∃ E, fnd T.ps id = E := ⟨_, rfl⟩
  obtain ⟨PE, hPP⟩ : ∃ E, pthE T id = E := ⟨_, rfl⟩
  rw [hE] at hok KC
  rw [hPP, hF, hE] at hPE
  rw [hXX, hPP, hRR] at hX
  rw [hRR, hF] at hRe
  rw [hF] at hfl KP
  rw [hXX, hPP]
  have HX := Lib.hid hX
  have HPE := Lib.hid hPE
  clear hE hX hXX hF hPP hPE hRR
  go_enter Try.func44, Try.ntmps44
  go_wp2_with fail
  refine (KC _ (by repeat (first | exact Ext.refl _ | assumption | refine Ext.alloc ?_ _ | refine Ext.drew ?_ | refine Ext.drewN _ ?_ | refine Ext.trans ?_ (by assumption)))).mono ?_
  rintro e w1 ⟨rfl, hx1⟩
  obtain ⟨q0, q1, hx, hk0⟩ := alloc2 hx1
  have d0 : w1.cell? ⟨w.heap.size, 0, none⟩ = some (.slice aa T.rs.length ca) := q0.cell 0
  have d1 : w1.cell? ⟨w.heap.size, 1, none⟩ = some (.slice ab T.ps.length cb) := q0.cell 1
  have f0 := q1.frozen 0
  have f1 := q1.frozen 1
  have c0 := q1.cell 0
  have c1 := q1.cell 1
  clear hx1 KC
  by_cases h0 : E = 0
  · have hb : (E != 0) = false := by simpa using h0
    have hpe := HPE.out
    rw [if_pos h0] at hpe
    have hk := hok h0
    have KU := KU hk
    have HPE2 := Lib.hid hpe
    have HFL := Lib.hid hfl
    have HRE := Lib.hid hRe
    have HKU0 := Lib.hid KU
    have HK := Lib.hid hk
    clear hok hpe hfl hRe KU hk
    clear h0 HPE
    go_wp2_with fail
    refine (KP _ hx).mono ?_
    rintro e w2 ⟨rfl, hz⟩
    have hx2 := hx.trans hz
    have q02 := q0.ext hz
    have q12 := q1.ext hz
    have hk2 : w.heap.size + 1 < w2.heap.size := Nat.lt_of_lt_of_le hk0 hz.size
    replace d0 := hz.cell d0
    replace d1 := hz.cell d1
    replace c0 := hz.cell c0
    replace c1 := hz.cell c1
    have f0 := q12.frozen 0
    have f1 := q12.frozen 1
    have hpe := HPE2.out
    have hfl := HFL.out
    have hRe := HRE.out
    have KU := HKU0.out
    have hk := HK.out
    clear hz q0 q1 hx hk0 KP
    by_cases hF0 : F < 0
    · have g0 : decide (F < 0) = true := decide_eq_true hF0
      rw [if_pos hF0] at hpe
      have hxx := HX.out
      rw [if_neg (by rw [hpe]; decide)] at hxx
      have HR2 := Lib.hid hpe
      have HX2 := Lib.hid hxx
      clear hpe hxx hF0 HX KU hfl hRe
      go_wp2_with fail
      have hC := (q12.set 0 (.slice none 0 0)).set 1 (.int .i64 5)
      exact bodyPost_ret (results_cell_row rfl _ _ (w.heap.size + 1) _ _ _ _ rfl hC Try.underlying88 rfl (by kernel_rfl)) rfl ⟨_, by rw [HR2.out]; rfl, by rw [HX2.out]; exact intsAt_nil _, ixs_ext _ hx2 (by omega) _ _⟩
    · have g0 : decide (F < 0) = false := decide_eq_false hF0
      rw [if_neg hF0] at hpe
      have hxx := HX.out
      rw [if_pos hpe] at hxx
      have hflt := hfl (by omega)
      obtain ⟨i, rfl⟩ : ∃ i : Nat, F = (i : Int) := ⟨F.toNat, by omega⟩
      have hil : i < T.ps.length := by omega
      have hRe2 : R = T.ps[i].reach := by rw [hRe]; simp [List.getD, hil]
      obtain ⟨bb, oo, rfl, p0, p1, p2⟩ := hT.p.get i hil
      have hpv := hk.pv _ (List.getElem_mem hil)
      rw [← hRe2] at p1 hpv
      have KU := fun k => KU R k (by have := hpv.2.1.1; omega) hpv.2.1.2
      have hlr := hk.lr
      have HR2 := Lib.hid hpe
      have HX2 := Lib.hid hxx
      have HP := Lib.hid p1
      clear hpe hxx hF0 HX hfl hRe hRe2 p0 p2 hpv f0 f1 c0 c1 d0 d1 hflt p1
      have hFn : decide ((i : Int) < 0) = false := decide_eq_false (by omega)
      go_wp2_with fail
      go_loopw [7, 8] (fun v i' wr => ∃ k : Nat, k ≤ T.rs.length ∧ i' = .int .i64 k ∧ Hid (RowI w2.heap.size v (ptrL T.rs R k) wr) ∧ Cls w.heap.size 25 #[.slice aa T.rs.length ca, .slice (some ⟨bb, oo, none⟩) T.ps.length cb] wr ∧ Cls (w.heap.size + 1) 88 #[.slice none 0 0, .int .i64 0] wr ∧ Ext w wr ∧ w2.heap.size ≤ wr.heap.size) (fun _ i' _ => T.rs.length - (intOf i').toNat)
      case atStart => exact ⟨0, Nat.zero_le _, rfl, Lib.hid (rowI_nil _ _), q02, q12, hx2, Nat.le_refl _⟩
      case round =>
        clear q02 q12 hx2
        obtain ⟨k, hk3, rfl, HR, q0, q1, hx, hsz⟩ := hrel
        have p1 := hx.cell HP.out
        have hR := HR.out
        have d0 : wr.cell? ⟨w.heap.size, 0, none⟩ = some (.slice aa T.rs.length ca) := q0.cell 0
        have d1 : wr.cell? ⟨w.heap.size, 1, none⟩ = some (.slice (some ⟨bb, oo, none⟩) T.ps.length cb) := q0.cell 1
        by_cases hlt : k < T.rs.length
        · have hki : (k : Int) < T.rs.length := by omega
          have hst := ptrL_succ T.rs R k
          have hLl := ptrL_len T.rs R k
          have KU := KU k
          obtain ⟨L, hL⟩ : ∃ L, ptrL T.rs R k = L := ⟨_, rfl⟩
          obtain ⟨u, hu⟩ : ∃ u, usB T.rs R k = u := ⟨_, rfl⟩
          rw [hu, hL] at hst
          rw [hL] at hR hLl
          rw [hu] at KU
          have HKU := Lib.hid KU
          have HSN := Lib.hid hst
          have hrl := hR.lt
          have hip : (0 : Int) ≤ i ∧ (i : Int) < T.ps.length := by omega
          clear hL hu HR KU hst
          go_wp2_with fail
          go_still_tail 8, (by kernel_rfl)
          change wpList _ _ _ _ _ wr.drew
          obtain ⟨V, hV⟩ : ∃ V, wr.drew = V := ⟨_, rfl⟩
          have hxV : Ext wr V := by rw [← hV]; exact (by repeat (first | exact Ext.refl _ | assumption | refine Ext.alloc ?_ _ | refine Ext.drew ?_ | refine Ext.drewN _ ?_ | refine Ext.trans ?_ (by assumption)))
          rw [hV]
          clear hV
          go_wp2_with fail
          refine (HKU.out _ (hx.trans hxV)).mono ?_
          rintro e w6 ⟨rfl, hz⟩
          have hz6 := hxV.trans hz
          have hx6 := hx.trans hz6
          have q06 := q0.ext hz6
          have q16 := q1.ext hz6
          have hR6 := rowI_ext hR hz6
          have hsz6 : w2.heap.size ≤ w6.heap.size := Nat.le_trans hsz hz6.size
          clear hz hxV hz6 d0 d1 q0 q1 hx hsz hR p1 HKU
          cases u
          · have hs := HSN.out
            rw [if_neg (by decide)] at hs
            have HS := Lib.hid hs
            clear hs HSN
            go_wp2_with fail
            go_roundw
            case rel => exact ⟨k + 1, by omega, by go_num, Lib.hid (by rw [HS.out]; exact hR6), q06, q16, hx6, hsz6⟩
            case measure => simp [intOf]; omega
          · have hs := HSN.out
            rw [if_pos rfl] at hs
            have HS := Lib.hid hs
            clear hs HSN
            go_wp2_with (at_builtin; refine append_ints rfl _ _ rfl w2.heap.size _ _ L [(k:Int)] rfl (rowI_ext hR6 (by repeat (first | exact Ext.refl _ | assumption | refine Ext.alloc ?_ _ | refine Ext.drew ?_ | refine Ext.drewN _ ?_ | refine Ext.trans ?_ (by assumption)))) rfl (ints_oneAt _ _ _ rfl) (by simp; omega) (by simp; omega) ?_; intro v1 w3 hr3 hg3 _; have hx3 := ext_own hx6 hR6 (by omega) (grown_pre hg3); have q03 := q06.kept (grown_pre hg3) (fun e => by have := (hrl _ e.symm).1; omega); have q13 := q16.kept (grown_pre hg3) (fun e => by have := (hrl _ e.symm).1; omega); have hsz3 : w2.heap.size ≤ w3.heap.size := Nat.le_trans hsz6 (grown_pre hg3).size; clear hg3)
            go_roundw
            case rel => exact ⟨k + 1, by omega, by go_num, Lib.hid (by rw [HS.out]; exact hr3), q03, q13, hx3, hsz3⟩
            case measure => simp [intOf]; omega
        · obtain rfl : k = T.rs.length := by omega
          have f0 := q1.frozen 0
          have f1 := q1.frozen 1
          have c0 := q1.cell 0
          have c1 := q1.cell 1
          rw [← HX2.out] at hR
          obtain ⟨av, cv, rfl⟩ := hR.form
          clear HR
          go_wp2_with fail
          have hC := (q1.set 0 (.slice av X.length cv)).set 1 (.int .i64 0)
          exact bodyPost_ret (results_cell_row rfl _ _ (w.heap.size + 1) _ _ _ _ rfl hC Try.underlying88 rfl (by kernel_rfl)) rfl ⟨_, by rw [HR2.out]; rfl, (rowI_cells hR (by omega) _ _).at_, ixs_ext _ hx (by omega) _ _⟩
  · have hb : (E != 0) = true := by simpa using h0
    have hpe := HPE.out
    rw [if_neg h0] at hpe
    have hxx := HX.out
    rw [if_neg (by rw [hpe]; exact h0)] at hxx
    have HR2 := Lib.hid hpe
    have HX2 := Lib.hid hxx
    clear hxx hpe h0 HX KU KP hfl hRe HPE hok
    go_wp2_with fail
    have hC := (q1.set 0 (.slice none 0 0)).set 1 (.int .i64 E)
    exact bodyPost_ret (results_cell_row rfl _ _ (w.heap.size + 1) _ _ _ _ rfl hC Try.underlying88 rfl (by kernel_rfl)) rfl ⟨_, by rw [HR2.out]; rfl, by rw [HX2.out]; exact intsAt_nil _, ixs_ext _ hx (by omega) _ _⟩
end Go.Proofs.Ythopgonbndoidaa
