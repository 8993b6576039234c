/- shares, Shares, Pieces, SameRatios and CheckShares of the specification; CheckShares of the program. -/
import Derived.Test.YthopgonbndoidaaGreatVRSh
import Derived.Lib.BufferWrite
namespace Go.Proofs.YthopgonbndoidaaGreat
open Go.RowKit Go.Shelf Go.Lib

theorem ixr_ext {w W : World} (B : Nat) (hx : Ext w W) (hB : w.heap.size ≤ B) (v u : Value) : Ext w ((W.setCell ⟨B, 0, none⟩ v).setCell ⟨B, 1, none⟩ u) :=
  (hx.setCell (p := ⟨B, 0, none⟩) hB _).setCell (p := ⟨B, 1, none⟩) hB _
theorem RowR.lt {n₀ : Nat} {v : Value} {l : List Ra} {W : World} (h : RowR n₀ v l W) : ∀ g, v.ownBlock = some g → n₀ ≤ g ∧ g < W.heap.size := World.ownsRow.lt h
theorem rowR_kept {n₀ : Nat} {v : Value} {l : List Ra} {W W' : World} {row : Option Nat} (h : RowR n₀ v l W) (x : W.grownBy W' row) (hne : v.ownBlock = none ∨ v.ownBlock ≠ row) : RowR n₀ v l W' :=
  World.ownsRow.kept h x hne
theorem rowR_base {n₀ n₁ : Nat} {v : Value} {l : List Ra} {W : World} (h : RowR n₀ v l W) (hb : n₁ ≤ n₀) : RowR n₁ v l W := by
  refine ⟨h.1, ?_⟩
  rcases h.2 with h0 | ⟨g, cap, cur, h0, h1, h2⟩
  · exact .inl h0
  · exact .inr ⟨g, cap, cur, h0, Nat.le_trans hb h1, h2⟩
theorem rowR_cells {n₀ B : Nat} {v : Value} {l : List Ra} {W : World} (h : RowR n₀ v l W) (hB : B < n₀) (x y : Value) : RowR n₀ v l ((W.setCell ⟨B, 0, none⟩ x).setCell ⟨B, 1, none⟩ y) := by
  have hne : v.ownBlock ≠ some B := fun e => by have := (h.lt _ e).1; omega
  exact rowR_kept (rowR_kept h (grownBy_setCell _ _ _ _) (.inr hne)) (grownBy_setCell _ _ _ _) (.inr hne)
theorem append_ra {ops : Array Oper} {rest : List Oper} {o : Oper} {a : Act} {Q : Exit → Act → World → Prop} {w : World} (hgd : o.guard = none) (s x : Operand)
    (ho : o.op = .call { callee := .builtin .append, args := #[s, x], argTypes := #[48, 48] })
    (base : Nat) (v : Value) (ad : Addr) (c : Nat) (l : List Ra) (r : Ra) (hs : a.eval s = v) (hrow : RowR base v l w) (hx : a.eval x = .slice (some ad) 1 c)
    (hc : ∀ j u, [Value.int .i64 r.n, Value.int .i64 r.d][j]? = some u → w.cell? (ad.add j) = some u) (hb : base ≤ w.heap.size) (hl : l.length ≤ 2000000)
    (h : ∀ v' w', RowR base v' (l ++ [r]) w' → w.grownBy w' v.ownBlock → wpList Tryz.prog ops Q rest (a.put o.dst v') w') : wpList Tryz.prog ops Q (o :: rest) a w := by
  obtain ⟨v', w', h1, h2, h3⟩ := run_append_rat w o.type base v ad c l r hrow hc hb hl
  exact Go.Lib.wpList_append_run_sl w hgd s x 48 ho _ _ hs hx h1 (h _ _ h2 h3)
theorem shL_len (T : Tr) (l : List Py) : (shL T l).length = l.length := by simp [shL]

def IxrPost (w : World) (l : List Ra) (E : Int) (e : Ending) (w' : World) : Prop := ∃ v, e = .returned (.agg #[v, .int .i64 E]) ∧ RasAt w' v l ∧ Ext w w'
set_option maxRecDepth 100000 in
set_option maxHeartbeats 4000000 in
theorem refShares0_any (a b : Value) (T : Tr) (hok : Ok T) (w : World) (hT : TrAt w a b T) :
    Calls Tryz.prog 68 #[.agg #[a, b]] w fun e w' => ∃ v, e = .returned v ∧ RowR w.heap.size v (shL T T.ps) w' ∧ Ext w w' := by
  obtain ⟨ab, cb, rfl, hlb⟩ := hT.p.len
  have hlp := hok.lp
  obtain ⟨X, hX⟩ : ∃ X, shL T T.ps = X := ⟨_, rfl⟩
  have HX := Lib.hid hX
  rw [hX]
  clear hX
  go_enter Tryz.func68, Tryz.ntmps68
  go_upto_region 1 with fail
  obtain ⟨W1, hW1⟩ : ∃ W1, w.alloc (.cells #[a, .slice ab T.ps.length cb] 25) = W1 := ⟨_, rfl⟩
  have hx1 : Ext w W1 := by rw [← hW1]; exact (by repeat (first | exact Ext.refl _ | assumption | refine Ext.alloc ?_ _ | refine Ext.drew ?_ | refine Ext.drewN _ ?_ | refine Ext.trans ?_ (by assumption)))
  have q1 : Cls w.heap.size 25 #[a, .slice ab T.ps.length cb] W1 := by rw [← hW1]; exact Cls.new _ _ _
  try rw [hW1]
  clear hW1
  go_wp2_with fail
  go_loopw [3, 4] (fun o i wr => ∃ k : Nat, k ≤ T.ps.length ∧ i = .int .i64 k ∧ Hid (RowR (w.heap.size + 1) o (shL T (T.ps.take k)) wr) ∧ Cls w.heap.size 25 #[a, .slice ab T.ps.length cb] wr ∧ Ext w wr) (fun _ i _ => T.ps.length - (intOf i).toNat)
  case atStart => exact ⟨0, Nat.zero_le _, rfl, Lib.hid (rowR_nil _ _), q1, hx1⟩
  case round =>
    clear q1 hx1
    obtain ⟨k, hk, rfl, HR, q, hx⟩ := hrel
    have hR := HR.out
    have d0 : wr.cell? ⟨w.heap.size, 0, none⟩ = some a := q.cell 0
    have d1 : wr.cell? ⟨w.heap.size, 1, none⟩ = some (.slice ab T.ps.length cb) := q.cell 1
    by_cases hlt : k < T.ps.length
    · have hsn : shL T (T.ps.take (k + 1)) = shL T (T.ps.take k) ++ [ratM (shX T T.ps[k])] := by rw [take_succ_get T.ps k hlt, shL_snoc]
      have hll := shL_len T (T.ps.take k)
      rw [List.length_take, Nat.min_eq_left hk] at hll
      have hsb := shX_bd hok (List.getElem_mem hlt)
      have KS := fun W (h : Ext w W) => refShare_any _ _ T hok k hlt W (hT.ext h)
      obtain ⟨x, hxx⟩ : ∃ x, shX T T.ps[k] = x := ⟨_, rfl⟩
      rw [hxx] at hsn hsb KS
      have KR := fun W => refRatio_any x 5354228880 W (by omega) (by omega) (by decide) (by decide)
      obtain ⟨r, hr⟩ : ∃ r, ratF x 5354228880 = r := ⟨_, rfl⟩
      have hr2 : ratM x = r := hr
      rw [hr] at KR
      rw [hr2] at hsn
      obtain ⟨L, hL⟩ : ∃ L, shL T (T.ps.take k) = L := ⟨_, rfl⟩
      rw [hL] at hsn hll hR
      have HSN := Lib.hid hsn
      have hrl := hR.lt
      have hwl := q.lt
      have hki : (k : Int) < T.ps.length := by omega
      clear hsn hL hr hr2 hxx HR
      go_wp2_with fail
      refine (KS _ hx).mono ?_
      rintro e w6 ⟨rfl, hz⟩
      go_wp2_with fail
      refine (KR _).mono ?_
      rintro e w7 ⟨rfl, hz2⟩
      have hx7 := (hx.trans hz).trans hz2
      have hR7 := rowR_ext hR (hz.trans hz2)
      have q7 := q.ext (hz.trans hz2)
      have hw7 := q7.lt
      clear hz hz2 d0 d1 q hx hR KS KR
      go_wp2_with (at_builtin; refine append_ra rfl _ _ rfl (w.heap.size + 1) _ _ _ L r rfl (rowR_ext hR7 (by repeat (first | exact Ext.refl _ | assumption | refine Ext.alloc ?_ _ | refine Ext.drew ?_ | refine Ext.drewN _ ?_ | refine Ext.trans ?_ (by assumption)))) rfl (cell_two _ _ _ _) (by simp; omega) (by omega) ?_; intro v1 w3 hr3 hg3; have hx3 := ext_own hx7 hR7 (by omega) (grown_pre hg3); have q3 := q7.kept (grown_pre hg3) (fun e => by have := (hrl _ e.symm).1; omega); clear hg3)
      go_roundw
      case rel => exact ⟨k + 1, by omega, by go_num, Lib.hid (by rw [HSN.out]; exact hr3), q3, hx3⟩
      case measure => simp [intOf]; omega
    · obtain rfl : k = T.ps.length := by omega
      rw [List.take_length, HX.out] at hR
      clear HR
      go_wp2_with fail
      go_ret
      exact ⟨_, rfl, rowR_base hR (by omega), hx⟩

set_option maxRecDepth 100000 in
set_option maxHeartbeats 4000000 in
theorem refSharesP_any (a b : Value) (T : Tr) (w : World) (hT : TrAt w a b T) :
    Calls Tryz.prog 24 #[.agg #[a, b]] w (IxrPost w (shaX T) (chkE T)) := by
  have hX : shaX T = if chkE T = 0 then shL T T.ps else [] := rfl
  have hok := @Ok.of T
  have KU := fun (h : Ok T) W (hx : Ext w W) => refShares0_any a b T h W (hT.ext hx)
  have KC := fun W (hx : Ext w W) => refCheck_any a b T W (hT.ext hx)
  obtain ⟨E, hE⟩ : ∃ E, chkE T = E := ⟨_, rfl⟩
  obtain ⟨X, hXX⟩ : ∃ E, shaX T = E := ⟨_, rfl⟩
  obtain ⟨Y, hYY⟩ : ∃ E, shL T T.ps = E := ⟨_, rfl⟩
  rw [hE] at hok KC hX
  rw [hXX, hYY] at hX
  rw [hYY] at KU
  rw [hXX, hE]
  have HX := Lib.hid hX
  clear hE hX hXX hYY hT
  go_enter Tryz.func24, Tryz.ntmps24
  go_wp2_with fail
  refine (KC _ (by repeat (first | exact Ext.refl _ | assumption | refine Ext.alloc ?_ _ | refine Ext.drew ?_ | refine Ext.drewN _ ?_ | refine Ext.trans ?_ (by assumption)))).mono ?_
  rintro e w1 ⟨rfl, hx1⟩
  obtain ⟨q0, q1, hx, hk0⟩ := alloc2 hx1
  have d0 : w1.cell? ⟨w.heap.size, 0, none⟩ = some a := q0.cell 0
  have d1 : w1.cell? ⟨w.heap.size, 1, none⟩ = some b := q0.cell 1
  have f0 := q1.frozen 0
  have f1 := q1.frozen 1
  have c0 := q1.cell 0
  have c1 := q1.cell 1
  clear hx1 KC
  by_cases h0 : E = 0
  · have hb : (E != 0) = false := by simpa using h0
    have hxx := HX.out
    rw [if_pos h0] at hxx
    have KU := KU (hok h0)
    have HX2 := Lib.hid hxx
    have H0 := Lib.hid h0
    clear hxx h0 HX
    go_wp2_with fail
    refine (KU _ hx).mono ?_
    rintro e w2 ⟨u, rfl, hu, hz⟩
    have q12 := q1.ext hz
    obtain ⟨au, cu, rfl⟩ := hu.form
    have hx2 := hx.trans hz
    have f0 := q12.frozen 0
    have f1 := q12.frozen 1
    replace c0 := hz.cell c0
    replace c1 := hz.cell c1
    go_wp2_with fail
    have hC := (q12.set 0 (.slice au Y.length cu)).set 1 (.int .i64 0)
    exact bodyPost_ret (results_cell_row rfl _ _ (w.heap.size + 1) _ _ _ _ rfl hC Tryz.underlying52 rfl (by kernel_rfl)) rfl ⟨_, by rw [H0.out]; rfl, by rw [HX2.out]; exact (rowR_cells hu (by omega) _ _).at_, ixr_ext _ hx2 (by omega) _ _⟩
  · have hb : (E != 0) = true := by simpa using h0
    have hxx := HX.out
    rw [if_neg h0] at hxx
    have HX2 := Lib.hid hxx
    clear hxx h0 HX KU hok
    go_wp2_with fail
    have hC := (q1.set 0 (.slice none 0 0)).set 1 (.int .i64 E)
    exact bodyPost_ret (results_cell_row rfl _ _ (w.heap.size + 1) _ _ _ _ rfl hC Tryz.underlying52 rfl (by kernel_rfl)) rfl ⟨_, rfl, by rw [HX2.out]; exact rasAt_nil _, ixr_ext _ hx (by omega) _ _⟩

/-- a payer's pieces, by the specification -/
def prL (T : Tr) (p : Py) (k : Nat) : List Ra := (List.range k).map (fun k => ratM (rpX T p k))
theorem prL_succ (T : Tr) (p : Py) (k : Nat) : prL T p (k + 1) = prL T p k ++ [ratM (rpX T p k)] := by simp [prL, List.range_succ]
theorem pieR_eq {T : Tr} (hok : Ok T) {p : Py} (hp : p ∈ T.ps) (k : Nat) : pieR T p k = ratM (rpX T p k) := by
  unfold pieR rpX
  by_cases h : usB T.rs p.reach k = true
  · rw [if_pos h, if_pos h]
    obtain ⟨_, h2, h3, _⟩ := pay_facts hok hp (r := (k : Int)) (usB_t.1 h)
    simp only [Int.toNat_natCast] at h2 h3
    exact pc_ratM T _ _ (by omega) h3
  · rw [if_neg h, if_neg h, ratM_zero]
theorem pieL_eq {T : Tr} (hok : Ok T) {p : Py} (hp : p ∈ T.ps) (k : Nat) : pieL T p k = prL T p k := by
  unfold pieL prL
  exact List.map_congr_left (fun k _ => pieR_eq hok hp k)
theorem pieX_eq (T : Tr) (id : Int) : pieX T id = if sngE T id = 0 then prL T (pyAt T (fnd T.ps id)) T.rs.length else [] := by
  unfold pieX
  by_cases h : sngE T id = 0
  · rw [if_pos h, if_pos h]
    have hok := sngE_ok h
    have h0 : 0 ≤ fnd T.ps id := by
      unfold sngE at h
      split at h
      · split at h
        · cases h
        · omega
      · exact absurd h (by assumption)
    have h1 := fnd_lt h0
    refine pieL_eq hok ?_ _
    unfold pyAt
    rw [List.getD_eq_getElem?_getD, List.getElem?_eq_getElem (by omega)]
    exact List.getElem_mem _
  · rw [if_neg h, if_neg h]

set_option maxRecDepth 100000 in
set_option maxHeartbeats 4000000 in
theorem refPieces_any (a b : Value) (T : Tr) (id : Int) (w : World) (hT : TrAt w a b T) (hn : T.ps.length ≤ 100000) :
    Calls Tryz.prog 26 #[.agg #[a, b], .int .i64 id] w (IxrPost w (pieX T id) (sngE T id)) := by
  have hX := pieX_eq T id
  have hPE : sngE T id = if chkE T = 0 then (if fnd T.ps id < 0 then 5 else 0) else chkE T := rfl
  have hok := @Ok.of T
  have hfl := @fnd_lt T.ps id
  have KC := fun W (hx : Ext w W) => refCheck_any a b T W (hT.ext hx)
  have KP := fun W (hx : Ext w W) => refPayer_any a b T id W (hT.ext hx) hn
  have KI := fun (h : Ok T) (i k : Nat) hi hk W (hx : Ext w W) => refPiece_any a b T h i k hi hk W (hT.ext hx)
  obtain ⟨aa, ca, rfl, hla⟩ := hT.r.len
  obtain ⟨E, hE⟩ : ∃ E, chkE T = E := ⟨_, rfl⟩
  obtain ⟨X, hXX⟩ : ∃ E, pieX T id = E := ⟨_, rfl⟩
  obtain ⟨F, hF⟩ : ∃ E, fnd T.ps id = E := ⟨_, rfl⟩
  obtain ⟨PE, hPP⟩ : ∃ E, sngE T id = E := ⟨_, rfl⟩
  rw [hE] at hok KC
  rw [hPP, hF, hE] at hPE
  rw [hXX, hPP, hF] at hX
  rw [hF] at hfl KP
  rw [hXX, hPP]
  have HX := Lib.hid hX
  have HPE := Lib.hid hPE
  clear hE hX hXX hF hPP hPE
  go_enter Tryz.func26, Tryz.ntmps26
  go_wp2_with fail
  refine (KC _ (by repeat (first | exact Ext.refl _ | assumption | refine Ext.alloc ?_ _ | refine Ext.drew ?_ | refine Ext.drewN _ ?_ | refine Ext.trans ?_ (by assumption)))).mono ?_
  rintro e w1 ⟨rfl, hx1⟩
  obtain ⟨q0, q1, hx, hk0⟩ := alloc2 hx1
  have d0 : w1.cell? ⟨w.heap.size, 0, none⟩ = some (.slice aa T.rs.length ca) := q0.cell 0
  have d1 : w1.cell? ⟨w.heap.size, 1, none⟩ = some b := q0.cell 1
  have f0 := q1.frozen 0
  have f1 := q1.frozen 1
  have c0 := q1.cell 0
  have c1 := q1.cell 1
  clear hx1 KC
  by_cases h0 : E = 0
  · have hb : (E != 0) = false := by simpa using h0
    have hpe := HPE.out
    rw [if_pos h0] at hpe
    have hk := hok h0
    have KI := KI hk
    have HPE2 := Lib.hid hpe
    have HFL := Lib.hid hfl
    have HKI := Lib.hid KI
    have HK := Lib.hid hk
    clear hok hpe hfl KI hk
    clear h0 HPE
    go_wp2_with fail
    refine (KP _ hx).mono ?_
    rintro e w2 ⟨rfl, hz⟩
    have hx2 := hx.trans hz
    have q02 := q0.ext hz
    have q12 := q1.ext hz
    have hk2 : w.heap.size + 1 < w2.heap.size := Nat.lt_of_lt_of_le hk0 hz.size
    replace d0 := hz.cell d0
    replace d1 := hz.cell d1
    replace c0 := hz.cell c0
    replace c1 := hz.cell c1
    have f0 := q12.frozen 0
    have f1 := q12.frozen 1
    have hpe := HPE2.out
    have hfl := HFL.out
    have hk := HK.out
    clear hz q0 q1 hx hk0 KP
    by_cases hF0 : F < 0
    · have g0 : decide (F < 0) = true := decide_eq_true hF0
      rw [if_pos hF0] at hpe
      have hxx := HX.out
      rw [if_neg (by rw [hpe]; decide)] at hxx
      have HR2 := Lib.hid hpe
      have HX2 := Lib.hid hxx
      clear hpe hxx hF0 HX hfl
      go_wp2_with fail
      have hC := (q12.set 0 (.slice none 0 0)).set 1 (.int .i64 5)
      exact bodyPost_ret (results_cell_row rfl _ _ (w.heap.size + 1) _ _ _ _ rfl hC Tryz.underlying52 rfl (by kernel_rfl)) rfl ⟨_, by rw [HR2.out]; rfl, by rw [HX2.out]; exact rasAt_nil _, ixr_ext _ hx2 (by omega) _ _⟩
    · have g0 : decide (F < 0) = false := decide_eq_false hF0
      rw [if_neg hF0] at hpe
      have hxx := HX.out
      rw [if_pos hpe] at hxx
      have hflt := hfl (by omega)
      obtain ⟨i, rfl⟩ : ∃ i : Nat, F = (i : Int) := ⟨F.toNat, by omega⟩
      have hil : i < T.ps.length := by omega
      have hpy : pyAt T i = T.ps[i] := by simp [pyAt, List.getD_eq_getElem?_getD, hil]
      have hmem : T.ps[i] ∈ T.ps := List.getElem_mem hil
      have hrb := rpX_bd hk hmem
      have KI := fun k hk => HKI.out i k hil hk
      obtain ⟨p, hpp⟩ : ∃ p, T.ps[i] = p := ⟨_, rfl⟩
      rw [hpy, hpp] at hxx
      rw [hpp] at hrb KI
      have hlr := hk.lr
      have HR2 := Lib.hid hpe
      have HX2 := Lib.hid hxx
      have HKI2 := Lib.hid KI
      have HRB := Lib.hid hrb
      clear hpe hxx hF0 HX hfl hpy hmem hrb KI hpp f0 f1 c0 c1 d0 d1 hflt HKI
      have hFn : decide ((i : Int) < 0) = false := decide_eq_false (by omega)
      go_wp2_with fail
      go_loopw [7, 8] (fun v i' wr => ∃ k : Nat, k ≤ T.rs.length ∧ i' = .int .i64 k ∧ Hid (RowR w2.heap.size v (prL T p k) wr) ∧ Cls w.heap.size 25 #[.slice aa T.rs.length ca, b] wr ∧ Cls (w.heap.size + 1) 52 #[.slice none 0 0, .int .i64 0] wr ∧ Ext w wr ∧ w2.heap.size ≤ wr.heap.size) (fun _ i' _ => T.rs.length - (intOf i').toNat)
      case atStart => exact ⟨0, Nat.zero_le _, rfl, Lib.hid (rowR_nil _ _), q02, q12, hx2, Nat.le_refl _⟩
      case round =>
        clear q02 q12 hx2
        obtain ⟨k, hk3, rfl, HR, q0, q1, hx, hsz⟩ := hrel
        have hR := HR.out
        have d0 : wr.cell? ⟨w.heap.size, 0, none⟩ = some (.slice aa T.rs.length ca) := q0.cell 0
        have d1 : wr.cell? ⟨w.heap.size, 1, none⟩ = some b := q0.cell 1
        by_cases hlt : k < T.rs.length
        · have hki : (k : Int) < T.rs.length := by omega
          have hst := prL_succ T p k
          have hLl : (prL T p k).length = k := by simp [prL]
          have hrb := HRB.out k
          have KI := HKI2.out k hlt
          obtain ⟨L, hL⟩ : ∃ L, prL T p k = L := ⟨_, rfl⟩
          obtain ⟨x, hxx⟩ : ∃ u, rpX T p k = u := ⟨_, rfl⟩
          rw [hxx, hL] at hst
          rw [hL] at hR hLl
          rw [hxx] at KI hrb
          have KR := fun W => refRatio_any x 5354228880 W (by omega) (by omega) (by decide) (by decide)
          obtain ⟨r, hr⟩ : ∃ r, ratF x 5354228880 = r := ⟨_, rfl⟩
          have hr2 : ratM x = r := hr
          rw [hr] at KR
          rw [hr2] at hst
          have HS := Lib.hid hst
          have hrl := hR.lt
          clear hL hxx HR hst hr hr2 hrb
          go_wp2_with fail
          refine (KI _ hx).mono ?_
          rintro e w6 ⟨rfl, hz⟩
          go_wp2_with fail
          refine (KR _).mono ?_
          rintro e w7 ⟨rfl, hz2⟩
          have hz7 := hz.trans hz2
          have hx7 := hx.trans hz7
          have q07 := q0.ext hz7
          have q17 := q1.ext hz7
          have hR7 := rowR_ext hR hz7
          have hsz7 : w2.heap.size ≤ w7.heap.size := Nat.le_trans hsz hz7.size
          clear hz hz2 hz7 d0 d1 q0 q1 hx hsz hR KI KR
          go_wp2_with (at_builtin; refine append_ra rfl _ _ rfl w2.heap.size _ _ _ L r rfl (rowR_ext hR7 (by repeat (first | exact Ext.refl _ | assumption | refine Ext.alloc ?_ _ | refine Ext.drew ?_ | refine Ext.drewN _ ?_ | refine Ext.trans ?_ (by assumption)))) rfl (cell_two _ _ _ _) (by simp; omega) (by omega) ?_; intro v1 w3 hr3 hg3; have hx3 := ext_own hx7 hR7 (by omega) (grown_pre hg3); have q03 := q07.kept (grown_pre hg3) (fun e => by have := (hrl _ e.symm).1; omega); have q13 := q17.kept (grown_pre hg3) (fun e => by have := (hrl _ e.symm).1; omega); have hsz3 : w2.heap.size ≤ w3.heap.size := Nat.le_trans hsz7 (grown_pre hg3).size; clear hg3)
          go_roundw
          case rel => exact ⟨k + 1, by omega, by go_num, Lib.hid (by rw [HS.out]; exact hr3), q03, q13, hx3, hsz3⟩
          case measure => simp [intOf]; omega
        · obtain rfl : k = T.rs.length := by omega
          have f0 := q1.frozen 0
          have f1 := q1.frozen 1
          have c0 := q1.cell 0
          have c1 := q1.cell 1
          rw [← HX2.out] at hR
          obtain ⟨av, cv, rfl⟩ := hR.form
          clear HR
          go_wp2_with fail
          have hC := (q1.set 0 (.slice av X.length cv)).set 1 (.int .i64 0)
          exact bodyPost_ret (results_cell_row rfl _ _ (w.heap.size + 1) _ _ _ _ rfl hC Tryz.underlying52 rfl (by kernel_rfl)) rfl ⟨_, by rw [HR2.out]; rfl, (rowR_cells hR (by omega) _ _).at_, ixr_ext _ hx (by omega) _ _⟩
  · have hb : (E != 0) = true := by simpa using h0
    have hpe := HPE.out
    rw [if_neg h0] at hpe
    have hxx := HX.out
    rw [if_neg (by rw [hpe]; exact h0)] at hxx
    have HR2 := Lib.hid hpe
    have HX2 := Lib.hid hxx
    clear hxx hpe h0 HX KP hfl HPE hok KI
    go_wp2_with fail
    have hC := (q1.set 0 (.slice none 0 0)).set 1 (.int .i64 E)
    exact bodyPost_ret (results_cell_row rfl _ _ (w.heap.size + 1) _ _ _ _ rfl hC Tryz.underlying52 rfl (by kernel_rfl)) rfl ⟨_, by rw [HR2.out]; rfl, by rw [HX2.out]; exact rasAt_nil _, ixr_ext _ hx (by omega) _ _⟩
end Go.Proofs.YthopgonbndoidaaGreat
