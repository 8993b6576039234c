/- reach and Changed of the program. -/
import Derived.Test.YthopgonbndoidaaVShs
import Derived.Test.YthopgonbndoidaaVSeq
import Derived.StillTailTactics
namespace Go.Proofs.Ythopgonbndoidaa
open Go.RowKit Go.Shelf

def reaE (T : Tr) (n : Int) : Int := if chkE T = 0 then (if inB n 0 ((T.rs.length : Int) - 1) = true then 0 else 5) else chkE T
set_option maxRecDepth 100000 in
set_option maxHeartbeats 4000000 in
theorem reach_any (a b : Value) (T : Tr) (n : Int) (w : World) (hT : TrAt w a b T) (hn : T.rs.length ≤ 1000000) :
    Calls Try.prog 76 #[.agg #[a, b], .int .i64 n] w fun e w' => e = .returned (.int .i64 (reaE T n)) ∧ Ext w w' := by
  obtain ⟨aa, ca, rfl, hla⟩ := hT.r.len
  have hX : reaE T n = if chkE T = 0 then (if inB n 0 ((T.rs.length : Int) - 1) = true then 0 else 5) else chkE T := rfl
  obtain ⟨X, hXX⟩ : ∃ X, reaE T n = X := ⟨_, rfl⟩
  obtain ⟨E, hE⟩ : ∃ E, chkE T = E := ⟨_, rfl⟩
  obtain ⟨B, hB⟩ : ∃ B, inB n 0 ((T.rs.length : Int) - 1) = B := ⟨_, rfl⟩
  rw [hXX, hE, hB] at hX
  rw [hXX]
  have HE := Lib.hid hE
  have HX := Lib.hid hX
  have K := fun W => within_any n 0 ((T.rs.length : Int) - 1) W
  rw [hB] at K
  have HK := Lib.hid K
  clear hE hX hXX hB K
  go_enter Try.func76, Try.ntmps76
  go_wp2_with fail
  refine (Check_any _ b T _ (hT.ext (by repeat (first | exact Ext.refl _ | assumption | refine Ext.alloc ?_ _ | refine Ext.drew ?_ | refine Ext.drewN _ ?_ | refine Ext.trans ?_ (by assumption))))).mono ?_
  rw [HE.out]
  rintro e w1 ⟨rfl, hx1⟩
  obtain ⟨q0, hx, hzz⟩ := alloc1 hx1
  have d0 : w1.cell? ⟨w.heap.size, 0, none⟩ = some (.slice aa T.rs.length ca) := q0.cell 0
  have d1 : w1.cell? ⟨w.heap.size, 1, none⟩ = some b := q0.cell 1
  clear hx1
  by_cases h0 : E = 0
  · have hb : (E != 0) = false := by simpa using h0
    have hx2 := HX.out
    rw [if_pos h0] at hx2
    have HX2 := Lib.hid hx2
    clear hx2 h0
    go_wp2_with fail
    refine (HK.out _).mono ?_
    rintro e w2 ⟨rfl, rfl⟩
    cases B
    · go_wp2_with fail
      go_ret
      exact ⟨by rw [HX2.out]; rfl, hx⟩
    · go_wp2_with fail
      go_ret
      exact ⟨by rw [HX2.out]; rfl, hx⟩
  · have hb : (E != 0) = true := by simpa using h0
    have hx2 := HX.out
    rw [if_neg h0] at hx2
    have HX2 := Lib.hid hx2
    clear hx2 h0
    go_wp2_with fail
    go_ret
    exact ⟨by rw [HX2.out]; rfl, hx⟩

theorem store_rowC {P : Program} {ops : Array Oper} {rest : List Oper} {o : Oper} {a : Act} {w : World} {Q : Exit → Act → World → Prop} (hgd : o.guard = none) (ty : TypeId) (x y : Operand) (ho : o.op = .store ty x y)
    (g : Nat) (cells : Array Value) (hx : a.eval x = .pointer (some ⟨g, 0, none⟩)) (hy : a.eval y = .agg cells)
    (t : TypeId) (old : Array Value) (hg : Cls g t old w) (hi : (P.info? ty).map (·.size) = some cells.size)
    (hold : old.size = cells.size) (h1 : cells.all (·.oneCell') = true)
    (h : ∀ w', Cls g t cells w' → w.grownBy w' (some g) → wpList P ops Q rest (a.put o.dst undef) w') : wpList P ops Q (o :: rest) a w := by
  refine wpList_store_row hgd ty x y ho g cells hx hy t old hg hi hold h1 (h _ ?_ ?_)
  · have := hg
    unfold Cls at this ⊢
    simp [World.setRow, Array.getElem?_modify, this]
  · refine ⟨rfl, rfl, rfl, by simp [World.setRow], fun i hi' hne => ?_⟩
    simp only [World.setRow]
    rw [Array.getElem?_modify, if_neg (fun e => hne (by rw [e]))]

theorem grown_set (W : World) (B i : Nat) (v : Value) : W.grownBy (W.setCell ⟨B, i, none⟩ v) (some B) :=
  ⟨rfl, rfl, rfl, by simp [World.setCell], fun k _ hne => Below.heap_setCell W ⟨B, i, none⟩ v k (fun e => hne (by rw [e]))⟩
/-- by how much a payer pays more -/
def chgR (T : Tr) (n c : Int) (p : Py) : Ra := if usB T.rs p.reach n = true then ratF ((c - cst T.rs n.toNat) * p.w) (wtA T.rs T.ps n.toNat) else ⟨0, 1⟩
def chgL (T : Tr) (n c : Int) (l : List Py) : List Ra := l.map (chgR T n c)
theorem chgL_snoc (T : Tr) (n c : Int) (l : List Py) (p : Py) : chgL T n c (l ++ [p]) = chgL T n c l ++ [chgR T n c p] := by simp [chgL]
def chgE (T : Tr) (n c : Int) : Int := if reaE T n = 0 then (if inB c 0 65536 = true then 0 else 1) else reaE T n
def chgX (T : Tr) (n c : Int) : List Ra := if chgE T n c = 0 then chgL T n c T.ps else []
theorem reaE_ok {T : Tr} {n : Int} (h : reaE T n = 0) : Ok T ∧ 0 ≤ n ∧ n < T.rs.length := by
  unfold reaE at h
  split at h
  · rename_i h1
    split at h
    · rename_i h2
      have := inB_t h2
      exact ⟨Ok.of h1, by omega, by omega⟩
    · cases h
  · rename_i h1; exact absurd h h1

set_option maxRecDepth 100000 in
set_option maxHeartbeats 8000000 in
theorem Changed_any (a b : Value) (T : Tr) (n c : Int) (w : World) (hT : TrAt w a b T) (hn : T.rs.length ≤ 1000000) (_hc : -1000000000 ≤ c ∧ c ≤ 1000000000) :
    Calls Try.prog 29 #[.agg #[a, b], .int .i64 n, .int .i64 c] w (RasPost w (chgX T n c) (chgE T n c)) := by
  obtain ⟨i0, hi0, hz0, hz1, hz2⟩ := info_parts infoRa
  have hE : chgE T n c = if reaE T n = 0 then (if inB c 0 65536 = true then 0 else 1) else reaE T n := rfl
  have hX : chgX T n c = if chgE T n c = 0 then chgL T n c T.ps else [] := rfl
  have hok : reaE T n = 0 → Ok T ∧ 0 ≤ n ∧ n < T.rs.length := reaE_ok
  have hcb : inB c 0 65536 = true → 0 ≤ c ∧ c ≤ 65536 := inB_t
  have KW := fun W => within_any c 0 65536 W
  obtain ⟨R, hR⟩ : ∃ R, reaE T n = R := ⟨_, rfl⟩
  obtain ⟨B, hB⟩ : ∃ B, inB c 0 65536 = B := ⟨_, rfl⟩
  obtain ⟨E, hEE⟩ : ∃ E, chgE T n c = E := ⟨_, rfl⟩
  obtain ⟨X, hXX⟩ : ∃ X, chgX T n c = X := ⟨_, rfl⟩
  rw [hEE] at hX
  rw [hXX, hEE]
  rw [hXX] at hX
  rw [hEE, hR, hB] at hE
  rw [hB] at KW hcb
  rw [hR] at hok
  have HE := Lib.hid hE
  have HX := Lib.hid hX
  have HR := Lib.hid hR
  have HOK := Lib.hid hok
  have HCB := Lib.hid hcb
  have HKW := Lib.hid KW
  clear hE hX hR hB hEE hXX hok hcb KW
  go_enter Try.func29, Try.ntmps29
  go_wp2_with fail
  refine (reach_any a b T n _ (hT.ext (by repeat (first | exact Ext.refl _ | assumption | refine Ext.alloc ?_ _ | refine Ext.drew ?_ | refine Ext.drewN _ ?_ | refine Ext.trans ?_ (by assumption)))) hn).mono ?_
  rw [HR.out]
  rintro e w1 ⟨rfl, hx1⟩
  obtain ⟨q0, hx, hzz⟩ := alloc1 hx1
  have d0 : w1.cell? ⟨w.heap.size, 0, none⟩ = some a := q0.cell 0
  have d1 : w1.cell? ⟨w.heap.size, 1, none⟩ = some b := q0.cell 1
  clear hx1
  by_cases h0 : R = 0
  · have hb : (R != 0) = false := by simpa using h0
    have hx2 := HE.out
    rw [if_pos h0] at hx2
    have HE2 := Lib.hid hx2
    obtain ⟨hok, hn0, hn1⟩ := HOK.out h0
    clear hx2 h0
    go_wp2_with fail
    refine (HKW.out _).mono ?_
    rintro e w2 ⟨rfl, rfl⟩
    cases B
    · have hx2 := HX.out
      rw [if_neg (by rw [HE2.out]; decide)] at hx2
      have HX2 := Lib.hid hx2
      clear hx2
      go_wp2_with fail
      go_ret2
      exact ⟨_, ret2 rfl (by rw [HE2.out]; rfl), by rw [HX2.out]; exact rasAt_nil _, hx⟩
    · have hx2 := HX.out
      rw [if_pos (by rw [HE2.out]; decide)] at hx2
      have HX2 := Lib.hid hx2
      obtain ⟨hc0, hc1⟩ := HCB.out rfl
      clear hx2 hb _hc
      obtain ⟨aa, ca, rfl, hla⟩ := hT.p.len
      obtain ⟨ar, cr, rfl, hlr⟩ := hT.r.len
      go_wp2_with fail
      refine (weights_any _ _ T hok _ (hT.ext hx)).mono ?_
      rintro e w3 ⟨rfl, hz⟩
      have q3 := q0.ext hz
      have hx3 := hx.trans hz
      clear d0 d1 hz hx q0
      obtain ⟨f, hf⟩ : ∃ f, wtA T.rs T.ps = f := ⟨_, rfl⟩
      have HF := Lib.hid hf
      rw [hf]
      clear hf
      obtain ⟨A, hA⟩ : ∃ A, w3.heap.size = A := ⟨_, rfl⟩
      obtain ⟨Y, hY⟩ : ∃ Y, w3.alloc (.cells (arr (fun _ => 0)) 107) = Y := ⟨_, rfl⟩
      have hxY : Ext w3 Y := by rw [← hY]; exact (by repeat (first | exact Ext.refl _ | assumption | refine Ext.alloc ?_ _ | refine Ext.drew ?_ | refine Ext.drewN _ ?_ | refine Ext.trans ?_ (by assumption)))
      have hbY : Cls A 107 (arr (fun _ => 0)) Y := by rw [← hY]; exact Cls.newAt _ _ _ hA.symm
      have q0Y := q3.ext hxY
      rw [arr_zero] at hY
      have hlt3 := q3.lt
      have hAw : w.heap.size < A := by rw [← hA]; exact hlt3
      have HXY := Lib.hid (hx3.trans hxY)
      go_wp2_with (refine store_rowC rfl _ _ _ rfl _ (arr f) rfl rfl _ _ hbY (by rw [arr_size]; kernel_rfl) (by rw [arr_size, arr_size]) (arr_one _) ?_; intro w5 hC5 hg5; have z0 := q0Y.kept hg5 (by intro e; injection e with e; omega); have d0 : w5.cell? ⟨w.heap.size, 0, none⟩ = some (.slice ar T.rs.length cr) := z0.cell 0; have d1 : w5.cell? ⟨w.heap.size, 1, none⟩ = some (.slice aa T.ps.length ca) := z0.cell 1)
      have hx5 : Ext w w5 := HXY.out.grown hg5 (by omega)
      have hlp := hok.lp
      have HOT := Lib.hid hok
      clear d0 d1 hY hxY hbY q0Y hlt3 hx3 HXY hg5 q3 hA hok
      go_loopw [10, 28] (fun o i wr => ∃ k : Nat, k ≤ T.ps.length ∧ i = .int .i64 k ∧ Hid (RowR (A + 1) o (chgL T n c (T.ps.take k)) wr) ∧ Cls w.heap.size 25 #[.slice ar T.rs.length cr, .slice aa T.ps.length ca] wr ∧ Cls A 107 (arr f) wr ∧ Ext w wr) (fun _ i _ => T.ps.length - (intOf i).toNat)
      case atStart => exact ⟨0, Nat.zero_le _, rfl, Lib.hid (rowR_nil _ _), z0, hC5, hx5⟩
      case round =>
        clear z0 hC5 hx5
        obtain ⟨k, hk, rfl, HRow, q0, qA, hx⟩ := hrel
        by_cases hlt : k < T.ps.length
        · obtain ⟨bb, oo, rfl, c0, c1, c2⟩ := (hT.p.ext hx).get k hlt
          have hmem : (⟨T.ps[k].id, T.ps[k].reach, T.ps[k].w⟩ : Py) ∈ T.ps := List.getElem_mem hlt
          have hsn : chgL T n c (T.ps.take (k + 1)) = chgL T n c (T.ps.take k) ++ [chgR T n c ⟨T.ps[k].id, T.ps[k].reach, T.ps[k].w⟩] := by rw [take_succ_get T.ps k hlt, chgL_snoc]
          obtain ⟨x, hxx⟩ : ∃ x, T.ps[k].id = x := ⟨_, rfl⟩
          obtain ⟨y, hyy⟩ : ∃ x, T.ps[k].reach = x := ⟨_, rfl⟩
          obtain ⟨z, hzz⟩ : ∃ x, T.ps[k].w = x := ⟨_, rfl⟩
          rw [hxx] at c0 hmem hsn
          rw [hyy] at c1 hmem hsn
          rw [hzz] at c2 hmem hsn
          clear hxx hyy hzz
          have hll : (chgL T n c (T.ps.take k)).length = k := by simp [chgL]; omega
          obtain ⟨l, hl⟩ : ∃ l, chgL T n c (T.ps.take k) = l := ⟨_, rfl⟩
          rw [hl] at HRow hsn hll
          have hpv := HOT.out.pv _ hmem
          have hy1 : y < T.rs.length := hpv.2.1.2
          have hy0 : -1 ≤ y := by have := hpv.2.1.1; simp only at this; omega
          have HU := Lib.hid (fun W (h : Ext w W) => uses_any (.slice ar T.rs.length cr) (.slice (some ⟨bb, oo, none⟩) T.ps.length ca) T HOT.out.rv x y z n W (hT.ext h) hy0 hy1)
          have hused : usB T.rs y n = true → (1 ≤ z ∧ z ≤ f n.toNat) ∧ f n.toNat ≤ 24 ∧ (0 ≤ cst T.rs n.toNat ∧ cst T.rs n.toNat ≤ 65536) := fun h => by
            have h' := pay_facts HOT.out hmem (usB_t.1 h)
            rw [← HF.out]
            exact h'.2
          have hrr : chgR T n c ⟨x, y, z⟩ = if usB T.rs y n = true then ratF ((c - cst T.rs n.toNat) * z) (f n.toNat) else ⟨0, 1⟩ := by rw [← HF.out]; rfl
          obtain ⟨r, hr⟩ : ∃ r, chgR T n c ⟨x, y, z⟩ = r := ⟨_, rfl⟩
          obtain ⟨U, hU⟩ : ∃ U, usB T.rs y n = U := ⟨_, rfl⟩
          rw [hr] at hsn hrr
          rw [hU] at HU hused hrr
          have HSN := Lib.hid hsn
          have HLL := Lib.hid hll
          have HUS := Lib.hid hused
          have HRR := Lib.hid hrr
          obtain ⟨SA, sc, hform⟩ := HRow.out.form
          rw [hll] at hform
          subst hform
          have d0 : wr.cell? ⟨w.heap.size, 0, none⟩ = some (.slice ar T.rs.length cr) := q0.cell 0
          have d1 : wr.cell? ⟨w.heap.size, 1, none⟩ = some (.slice (some ⟨bb, oo, none⟩) T.ps.length ca) := q0.cell 1
          have hsz := qA.lt
          have HX5 := Lib.hid hx
          clear hl hsn hr hmem hll hU hused hrr hpv
          obtain ⟨Y, hY⟩ : ∃ Y, (wr.alloc (.cells #[.int .i64 x, .int .i64 y, .int .i64 z] 45)).alloc (.cells #[.int .i64 0, .int .i64 1] 42) = Y := ⟨_, rfl⟩
          obtain ⟨p0, p1, hxY, hsY⟩ := alloc2 (w := wr) (Ext.refl ((wr.alloc (.cells #[.int .i64 x, .int .i64 y, .int .i64 z] 45)).alloc (.cells #[.int .i64 0, .int .i64 1] 42)))
          rw [hY] at p0 p1 hxY hsY
          have e0 := hxY.cell d0
          have e1 := hxY.cell d1
          obtain ⟨N, hN⟩ : ∃ N, wr.heap.size = N := ⟨_, rfl⟩
          rw [hN] at p0 p1 hsY hsz
          have p00 : Y.cell? ⟨N, 0, none⟩ = some (.int .i64 x) := p0.cell 0
          have p01 : Y.cell? ⟨N, 1, none⟩ = some (.int .i64 y) := p0.cell 1
          have p02 : Y.cell? ⟨N, 2, none⟩ = some (.int .i64 z) := p0.cell 2
          have q5 := q0.ext hxY
          have A5 := qA.ext hxY
          have hx5 := hx.trans hxY
          have HXY := Lib.hid hxY
          clear d0 d1 hx q0 qA hxY
          go_wp2_with fail
          refine (HU.out _ hx5).mono ?_
          rintro e w6 ⟨rfl, hz⟩
          have p6 := p1.ext hz
          have pp := p0.ext hz
          cases U
          · have hr2 := HRR.out
            rw [if_neg (by decide)] at hr2
            have p7 : Cls (N + 1) 42 #[.int .i64 r.n, .int .i64 r.d] w6 := by rw [hr2]; exact p6
            have HR2 := Lib.hid hr2
            clear e0 e1 p00 p01 p02 hr2
            have hx7 : Ext w w6 := hx5.trans hz
            have q7 : Cls w.heap.size 25 #[.slice ar T.rs.length cr, .slice (some ⟨bb, oo, none⟩) T.ps.length ca] w6 := q5.ext hz
            have A7 : Cls A 107 (arr f) w6 := A5.ext hz
            have hrow7 : w6.ownsRow (A + 1) 42 2 (.slice SA k sc) k (cellsR l) := (by have h := rowR_ext HRow.out (HXY.out.trans hz); unfold RowR at h; rw [HLL.out] at h; exact h)
            have g0 : w6.cell? ⟨N + 1, 0, none⟩ = some (.int .i64 r.n) := p7.cell 0
            have g1 : w6.cell? ⟨N + 1, 1, none⟩ = some (.int .i64 r.d) := p7.cell 1
            have hs7 := A7.lt
            have HX7 := Lib.hid hx7
            clear hx7
            go_wp2_with ((at_builtin; refine wpList_append_own _ rfl _ _ 28 rfl (A + 1) 42 i0 (.agg #[.int .i64 0, .int .i64 0]) 2 16 undRa hi0 hz0 hz1 hz2 rfl (by decide) _ _ _ rfl (World.ownsRow.alloc hrow7 _) ⟨w6.heap.size, 0, none⟩ 1 1 [.int .i64 r.n, .int .i64 r.d] rfl rfl (cell_two _ _ _ _) (by simp [Value.oneCell']) (by unfold maxLen; omega) (by omega) (by simp; omega) ?_; intro v' w9 hown hgrow _))
            have hg9 := grown_pre hgrow
            have q9 := q7.kept hg9 (own_ge hrow7 (by omega))
            have A9 := A7.kept hg9 (own_ge hrow7 (by omega))
            have hx9 := ext_own HX7.out hrow7 (by omega) hg9
            have hr9 : RowR (A + 1) v' (chgL T n c (T.ps.take (k + 1))) w9 := by
              rw [HSN.out]
              exact rowR_add (by rw [HLL.out]; exact hown)
            go_roundw
            case rel => exact ⟨k + 1, by omega, by go_num, Lib.hid hr9, q9, A9, hx9⟩
            case measure => simp [intOf]; omega
          · obtain ⟨hz1', hz2', hz3'⟩ := HUS.out rfl
            have hr2 := HRR.out
            rw [if_pos rfl] at hr2
            obtain ⟨m, rfl⟩ : ∃ m : Nat, n = m := ⟨n.toNat, by omega⟩
            have hm : m < T.rs.length := by omega
            obtain ⟨b2, o2, rfl, _, k1⟩ := (hT.r.ext (hx5.trans hz)).get m hm
            rw [← cst_get hm] at k1
            have KP := fun W => piece_any x y z (c - cst T.rs m) (f m) W (by simp only [Int.toNat_natCast] at hz3'; omega) (by simp only [Int.toNat_natCast] at hz3'; omega) hz1'.1 (by simp only [Int.toNat_natCast] at hz1' hz2'; omega) (by simp only [Int.toNat_natCast] at hz1'; omega) (by simpa using hz2')
            simp only [Int.toNat_natCast] at hr2 hz1' hz2' hz3'
            rw [← hr2] at KP
            unfold raV at KP
            have hm24 : m < 24 := by have := HOT.out.lr; omega
            have gA := arr_cell (A5.ext hz) hm24
            obtain ⟨cc, hcc⟩ : ∃ cc, cst T.rs m = cc := ⟨_, rfl⟩
            obtain ⟨fm, hfm⟩ : ∃ fm, f m = fm := ⟨_, rfl⟩
            rw [hcc] at k1 KP hz3'
            rw [hfm] at gA KP
            have hwr : IntKind.i64.wrap (c - cc) = c - cc := IntWalk.i64_in _ (by omega)
            replace e0 := hz.cell e0
            replace p00 := hz.cell p00
            replace p01 := hz.cell p01
            replace p02 := hz.cell p02
            have hm0 : (m : Int) < 24 := by omega
            have HK := Lib.hid KP
            have f0 := p6.frozen 0
            have f1 := p6.frozen 1
            clear hr2 hcc hfm hz1' hz2' hz3' KP e1
            go_wp2_with fail
            go_still_tail 12, (by kernel_rfl)
            change wpList _ _ _ _ _ w6.drew
            obtain ⟨W2, hW2⟩ : ∃ W2, w6.drew = W2 := ⟨_, rfl⟩
            have hy : Ext w6 W2 := by rw [← hW2]; exact (by repeat (first | exact Ext.refl _ | assumption | refine Ext.alloc ?_ _ | refine Ext.drew ?_ | refine Ext.drewN _ ?_ | refine Ext.trans ?_ (by assumption)))
            rw [hW2]
            clear hW2 f0 f1
            replace e0 := hy.cell e0
            replace p00 := hy.cell p00
            replace p01 := hy.cell p01
            replace p02 := hy.cell p02
            replace k1 := hy.cell k1
            replace gA := hy.cell gA
            go_wp2_with fail
            refine (HK.out _).mono ?_
            rintro e w7 ⟨rfl, hz7⟩
            have hy7 := (hz.trans hy).trans hz7
            have p67 := (p6.ext hy).ext hz7
            have f0 := p67.frozen 0
            have f1 := p67.frozen 1
            have y0 : w7.cell? ⟨N + 1, 0, none⟩ = some (.int .i64 0) := p67.cell 0
            have y1 : w7.cell? ⟨N + 1, 1, none⟩ = some (.int .i64 1) := p67.cell 1
            clear e0 p00 p01 p02 k1 gA
            go_upto_region 14 with fail
            have p7 : Cls (N + 1) 42 #[.int .i64 r.n, .int .i64 r.d] ((w7.setCell ⟨N + 1, 0, none⟩ (.int .i64 r.n)).setCell ⟨N + 1, 1, none⟩ (.int .i64 r.d)) := (p67.set 0 (.int .i64 r.n)).set 1 (.int .i64 r.d)
            have hrow0 : wr.ownsRow (A + 1) 42 2 (.slice SA k sc) k (cellsR l) := by have h := HRow.out; unfold RowR at h; rw [HLL.out] at h; exact h
            have hne : (Value.slice SA k sc).ownBlock ≠ some (N + 1) := fun e => by have := (hrow0.lt _ e).2; omega
            have hr7 : w7.ownsRow (A + 1) 42 2 (.slice SA k sc) k (cellsR l) := (by have h := rowR_ext HRow.out (HXY.out.trans hy7); unfold RowR at h; rw [HLL.out] at h; exact h)
            have hx77 := hx5.trans hy7
            have q77 := q5.ext hy7
            have A77 := A5.ext hy7
            have hr8 : ((w7.setCell ⟨N + 1, 0, none⟩ (.int .i64 r.n)).setCell ⟨N + 1, 1, none⟩ (.int .i64 r.d)).ownsRow (A + 1) 42 2 (.slice SA k sc) k (cellsR l) := (hr7.kept (grown_set _ _ _ _) (.inr hne)).kept (grown_set _ _ _ _) (.inr hne)
            have hx8 : Ext w ((w7.setCell ⟨N + 1, 0, none⟩ (.int .i64 r.n)).setCell ⟨N + 1, 1, none⟩ (.int .i64 r.d)) := (hx77.setCell (p := ⟨N + 1, 0, none⟩) (by simp; omega) _).setCell (p := ⟨N + 1, 1, none⟩) (by simp; omega) _
            have q8 : Cls w.heap.size 25 #[.slice (some ⟨b2, o2, none⟩) T.rs.length cr, .slice (some ⟨bb, oo, none⟩) T.ps.length ca] ((w7.setCell ⟨N + 1, 0, none⟩ (.int .i64 r.n)).setCell ⟨N + 1, 1, none⟩ (.int .i64 r.d)) := (q77.other (by omega) 0 _).other (by omega) 1 _
            have A8 : Cls A 107 (arr f) ((w7.setCell ⟨N + 1, 0, none⟩ (.int .i64 r.n)).setCell ⟨N + 1, 1, none⟩ (.int .i64 r.d)) := (A77.other (by omega) 0 _).other (by omega) 1 _
            obtain ⟨W8, hW8⟩ : ∃ W8, ((w7.setCell ⟨N + 1, 0, none⟩ (.int .i64 r.n)).setCell ⟨N + 1, 1, none⟩ (.int .i64 r.d)) = W8 := ⟨_, rfl⟩
            rw [hW8] at p7 hr8 hx8 q8 A8 ⊢
            clear hW8 y0 y1 f0 f1
            have hx7 : Ext w W8 := hx8
            have q7 : Cls w.heap.size 25 #[.slice (some ⟨b2, o2, none⟩) T.rs.length cr, .slice (some ⟨bb, oo, none⟩) T.ps.length ca] W8 := q8
            have A7 : Cls A 107 (arr f) W8 := A8
            have hrow7 : W8.ownsRow (A + 1) 42 2 (.slice SA k sc) k (cellsR l) := hr8
            have g0 : W8.cell? ⟨N + 1, 0, none⟩ = some (.int .i64 r.n) := p7.cell 0
            have g1 : W8.cell? ⟨N + 1, 1, none⟩ = some (.int .i64 r.d) := p7.cell 1
            have hs7 := A7.lt
            have HX7 := Lib.hid hx7
            clear hx7
            go_wp2_with ((at_builtin; refine wpList_append_own _ rfl _ _ 28 rfl (A + 1) 42 i0 (.agg #[.int .i64 0, .int .i64 0]) 2 16 undRa hi0 hz0 hz1 hz2 rfl (by decide) _ _ _ rfl (World.ownsRow.alloc hrow7 _) ⟨W8.heap.size, 0, none⟩ 1 1 [.int .i64 r.n, .int .i64 r.d] rfl rfl (cell_two _ _ _ _) (by simp [Value.oneCell']) (by unfold maxLen; omega) (by omega) (by simp; omega) ?_; intro v' w9 hown hgrow _))
            have hg9 := grown_pre hgrow
            have q9 := q7.kept hg9 (own_ge hrow7 (by omega))
            have A9 := A7.kept hg9 (own_ge hrow7 (by omega))
            have hx9 := ext_own HX7.out hrow7 (by omega) hg9
            have hr9 : RowR (A + 1) v' (chgL T (m : Int) c (T.ps.take (k + 1))) w9 := by
              rw [HSN.out]
              exact rowR_add (by rw [HLL.out]; exact hown)
            go_roundw
            case rel => exact ⟨k + 1, by omega, by go_num, Lib.hid hr9, q9, A9, hx9⟩
            case measure => simp [intOf]; omega
        · obtain rfl : k = T.ps.length := by omega
          have hr := HRow.out
          rw [List.take_length] at hr
          have hat := hr.at_
          have HAT := Lib.hid hat
          clear HRow hr hat
          go_wp2
          go_ret2
          exact ⟨_, ret2 rfl (by rw [HE2.out]; rfl), by rw [HX2.out]; exact HAT.out, hx⟩
  · have hb : (R != 0) = true := by simpa using h0
    have hx2 := HE.out
    rw [if_neg h0] at hx2
    have hx3 := HX.out
    rw [hx2, if_neg h0] at hx3
    have HE2 := Lib.hid hx2
    have HX2 := Lib.hid hx3
    clear hx2 hx3 h0
    go_wp2_with fail
    go_ret2
    exact ⟨_, ret2 rfl (by rw [HE2.out]; rfl), by rw [HX2.out]; exact rasAt_nil _, hx⟩
end Go.Proofs.Ythopgonbndoidaa
