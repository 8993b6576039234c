/- Rows of fractions; shares and Shares of the program. -/
import Derived.Test.YthopgonbndoidaaVShr
import Derived.Test.YthopgonbndoidaaVChk
import Derived.Laws.OwnMore
import Derived.OwnWalkIn
import Derived.Maps.AppendAt
import Derived.Deep.DeepMust
namespace Go.Proofs.Ythopgonbndoidaa
open Go.RowKit Go.Shelf

def cellsR (l : List Ra) : List Value := l.flatMap (fun r => [Value.int .i64 r.n, Value.int .i64 r.d])
theorem cellsR_len (l : List Ra) : (cellsR l).length = l.length * 2 := by
  induction l with
  | nil => rfl
  | cons s l ih => simp [cellsR] at *; omega
theorem cellsR_append (l r : List Ra) : cellsR (l ++ r) = cellsR l ++ cellsR r := by simp [cellsR]
theorem cellsR_get (l : List Ra) (i : Nat) (h : i < l.length) : (cellsR l)[i * 2]? = some (.int .i64 l[i].n) ∧ (cellsR l)[i * 2 + 1]? = some (.int .i64 l[i].d) := by
  induction l generalizing i with
  | nil => simp at h
  | cons s l ih =>
    cases i with
    | zero => simp [cellsR]
    | succ i =>
      have := ih i (by simpa using h)
      simp only [cellsR, List.flatMap_cons] at *
      rw [show (i + 1) * 2 = i * 2 + 1 + 1 from by omega]
      simpa using this
theorem infoRa : (Try.prog.info? 42).map (fun i => (i.zero, i.size, i.bytes)) = some (some (.agg #[.int .i64 0, .int .i64 0]), 2, 16) := by kernel_rfl
theorem undRa : (Try.prog).underlying 28 = some (.slice 42) := by kernel_rfl
/-- a slice that reads as fractions -/
def RasAt (w : World) (v : Value) (l : List Ra) : Prop :=
  ∃ ao cap, v = .slice ao l.length cap ∧ l.length ≤ cap ∧ ∀ i (h : i < l.length), ∃ b o, ao = some ⟨b, o, none⟩ ∧
    w.cell? ⟨b, o + i * 2, none⟩ = some (.int .i64 l[i].n) ∧ w.cell? ⟨b, o + i * 2 + 1, none⟩ = some (.int .i64 l[i].d)
theorem RasAt.ext {w w' : World} {v : Value} {l : List Ra} (h : RasAt w v l) (x : Ext w w') : RasAt w' v l := by
  obtain ⟨ao, cap, hv, hle, hc⟩ := h
  refine ⟨ao, cap, hv, hle, fun i hi => ?_⟩
  obtain ⟨b, o, h0, h1, h2⟩ := hc i hi
  exact ⟨b, o, h0, x.cell h1, x.cell h2⟩
/-- a slice of the call's own that holds fractions -/
def RowR (n₀ : Nat) (v : Value) (l : List Ra) (W : World) : Prop := W.ownsRow n₀ 42 2 v l.length (cellsR l)
theorem RowR.form {n₀ : Nat} {v : Value} {l : List Ra} {W : World} (h : RowR n₀ v l W) : ∃ A c, v = .slice A l.length c := by
  rcases h.2 with ⟨rfl, h0⟩ | ⟨g, cap, cur, rfl, _⟩
  · exact ⟨none, 0, by rw [h0]⟩
  · exact ⟨_, _, rfl⟩
theorem RowR.at_ {n₀ : Nat} {v : Value} {l : List Ra} {W : World} (h : RowR n₀ v l W) : RasAt W v l := by
  rcases h.2 with ⟨rfl, h0⟩ | ⟨g, cap, cur, rfl, h1, h2, h3, h4, h5, h6⟩
  · exact ⟨none, 0, by rw [h0], by omega, fun i hi => by omega⟩
  · refine ⟨_, _, rfl, by omega, fun i hi => ⟨g, 0, rfl, ?_⟩⟩
    have hc := World.ownsRow.cellAt (g := g) (cap := cap) h
    obtain ⟨k1, k2⟩ := cellsR_get l i hi
    rw [Nat.zero_add]
    exact ⟨(hc (i * 2) (by omega)).trans k1, (hc (i * 2 + 1) (by omega)).trans k2⟩
theorem rowR_nil (n₀ : Nat) (W : World) : RowR n₀ (.slice none 0 0) [] W := World.ownsRow_nil _ _ _ _
theorem rowR_ext {n₀ : Nat} {v : Value} {l : List Ra} {W W' : World} (h : RowR n₀ v l W) (x : Ext W W') : RowR n₀ v l W' :=
  World.ownsRow.kept h (grown_none x) (by cases v.ownBlock <;> simp)
theorem rowR_add {base : Nat} {W : World} {v : Value} {l : List Ra} {r : Ra} (h : W.ownsRow base 42 2 v (l.length + 1) (cellsR l ++ [.int .i64 r.n, .int .i64 r.d])) : RowR base v (l ++ [r]) W := by
  unfold RowR
  rw [List.length_append, List.length_singleton, cellsR_append]; exact h
theorem cell_two (w : World) (x y : Value) (t : TypeId) : ∀ j u, [x, y][j]? = some u → (w.alloc (.cells #[x, y] t)).cell? ((⟨w.heap.size, 0, none⟩ : Addr).add j) = some u := by
  intro j u hj
  match j, hj with
  | 0, hj => simp at hj; subst hj; simp [Addr.add]
  | 1, hj => simp at hj; subst hj; simp [Addr.add]
def shL (T : Tr) (l : List Py) : List Ra := l.map (fun p => ratM (shX T p))
theorem shL_snoc (T : Tr) (l : List Py) (p : Py) : shL T (l ++ [p]) = shL T l ++ [ratM (shX T p)] := by simp [shL]

set_option maxRecDepth 100000 in
set_option maxHeartbeats 4000000 in
theorem shares_any (a b : Value) (T : Tr) (hok : Ok T) (w : World) (hT : TrAt w a b T) :
    Calls Try.prog 55 #[.agg #[a, b]] w fun e w' => ∃ v, e = .returned v ∧ RasAt w' v (shL T T.ps) ∧ Ext w w' := by
  obtain ⟨i0, hi0, hz0, hz1, hz2⟩ := info_parts infoRa
  obtain ⟨aa, ca, rfl, hla⟩ := hT.p.len
  have hlp := hok.lp
  obtain ⟨L, hL⟩ : ∃ L, shL T T.ps = L := ⟨_, rfl⟩
  have HL := Lib.hid hL
  rw [hL]
  clear hL
  go_enter Try.func55, Try.ntmps55
  go_wp2_with fail
  have q0 : Cls w.heap.size 25 #[a, .slice aa T.ps.length ca] (w.alloc (.cells #[a, .slice aa T.ps.length ca] 25)) := Cls.new _ _ _
  obtain ⟨W1, hW1⟩ : ∃ W1, w.alloc (.cells #[a, .slice aa T.ps.length ca] 25) = W1 := ⟨_, rfl⟩
  have hx1 : Ext w W1 := by rw [← hW1]; exact (by repeat (first | exact Ext.refl _ | assumption | refine Ext.alloc ?_ _ | refine Ext.drew ?_ | refine Ext.drewN _ ?_ | refine Ext.trans ?_ (by assumption)))
  rw [hW1] at q0
  have hs1 := q0.lt
  try rw [hW1]
  clear hW1
  go_loopw [3, 9] (fun o i wr => ∃ k : Nat, k ≤ T.ps.length ∧ i = .int .i64 k ∧ Hid (RowR (w.heap.size + 1) o (shL T (T.ps.take k)) wr) ∧ Cls w.heap.size 25 #[a, .slice aa T.ps.length ca] wr ∧ Ext w wr) (fun _ i _ => T.ps.length - (intOf i).toNat)
  case atStart => exact ⟨0, Nat.zero_le _, rfl, Lib.hid (rowR_nil _ _), q0, hx1⟩
  case round =>
    clear q0 hx1 hs1
    obtain ⟨k, hk, rfl, HR, q0, hx⟩ := hrel
    by_cases hlt : k < T.ps.length
    · obtain ⟨bb, oo, rfl, c0, c1, c2⟩ := (hT.p.ext hx).get k hlt
      have hmem : (⟨T.ps[k].id, T.ps[k].reach, T.ps[k].w⟩ : Py) ∈ T.ps := List.getElem_mem hlt
      have hsn : shL T (T.ps.take (k + 1)) = shL T (T.ps.take k) ++ [ratM (shX T ⟨T.ps[k].id, T.ps[k].reach, T.ps[k].w⟩)] := by rw [take_succ_get T.ps k hlt, shL_snoc]
      obtain ⟨x, hxx⟩ : ∃ x, T.ps[k].id = x := ⟨_, rfl⟩
      obtain ⟨y, hyy⟩ : ∃ x, T.ps[k].reach = x := ⟨_, rfl⟩
      obtain ⟨z, hzz⟩ : ∃ x, T.ps[k].w = x := ⟨_, rfl⟩
      rw [hxx] at c0 hmem hsn
      rw [hyy] at c1 hmem hsn
      rw [hzz] at c2 hmem hsn
      clear hxx hyy hzz
      have hll : (shL T (T.ps.take k)).length = k := by simp [shL]; omega
      obtain ⟨l, hl⟩ : ∃ l, shL T (T.ps.take k) = l := ⟨_, rfl⟩
      rw [hl] at HR hsn hll
      have hrow := HR.out
      obtain ⟨A, c, rfl⟩ := hrow.form
      have K := fun W (h : Ext w W) => share_any a (.slice (some ⟨bb, oo, none⟩) T.ps.length ca) T hok x y z hmem W (hT.ext h)
      obtain ⟨r, hr⟩ : ∃ r, ratM (shX T ⟨x, y, z⟩) = r := ⟨_, rfl⟩
      rw [hr] at K hsn
      unfold raV at K
      have HSN := Lib.hid hsn
      have HK := Lib.hid K
      have d0 : wr.cell? ⟨w.heap.size, 0, none⟩ = some a := q0.cell 0
      have d1 : wr.cell? ⟨w.heap.size, 1, none⟩ = some (.slice (some ⟨bb, oo, none⟩) T.ps.length ca) := q0.cell 1
      have e0 : (wr.alloc (.cells #[.int .i64 x, .int .i64 y, .int .i64 z] 45)).cell? ⟨w.heap.size, 0, none⟩ = _ := Ext.cell (by repeat (first | exact Ext.refl _ | assumption | refine Ext.alloc ?_ _ | refine Ext.drew ?_ | refine Ext.drewN _ ?_ | refine Ext.trans ?_ (by assumption))) d0
      have e1 : (wr.alloc (.cells #[.int .i64 x, .int .i64 y, .int .i64 z] 45)).cell? ⟨w.heap.size, 1, none⟩ = _ := Ext.cell (by repeat (first | exact Ext.refl _ | assumption | refine Ext.alloc ?_ _ | refine Ext.drew ?_ | refine Ext.drewN _ ?_ | refine Ext.trans ?_ (by assumption))) d1
      rw [hll]
      have HLL := Lib.hid hll
      have hsz := q0.lt
      clear hl hsn hr hmem hrow hll K
      go_wp2_with fail
      refine (HK.out _ (hx.trans (by repeat (first | exact Ext.refl _ | assumption | refine Ext.alloc ?_ _ | refine Ext.drew ?_ | refine Ext.drewN _ ?_ | refine Ext.trans ?_ (by assumption))))).mono ?_
      rintro e w3 ⟨rfl, hz⟩
      have hx3 : Ext wr w3 := Ext.trans (by repeat (first | exact Ext.refl _ | assumption | refine Ext.alloc ?_ _ | refine Ext.drew ?_ | refine Ext.drewN _ ?_ | refine Ext.trans ?_ (by assumption))) hz
      have hrow3 : w3.ownsRow (w.heap.size + 1) 42 2 (.slice A k c) k (cellsR l) := by
        have h := rowR_ext HR.out hx3
        unfold RowR at h
        rw [HLL.out] at h
        exact h
      have q3 := q0.ext hx3
      have hs3 := q3.lt
      replace hx := hx.trans hx3
      have HX := Lib.hid hx
      clear hz hx3 d0 d1 e0 e1 HR q0 hx
      go_wp2_with ((at_builtin; refine wpList_append_own _ rfl _ _ 28 rfl (w.heap.size + 1) 42 i0 (.agg #[.int .i64 0, .int .i64 0]) 2 16 undRa hi0 hz0 hz1 hz2 rfl (by decide) _ _ _ rfl (World.ownsRow.alloc hrow3 _) ⟨w3.heap.size, 0, none⟩ 1 1 [.int .i64 r.n, .int .i64 r.d] rfl rfl (cell_two _ _ _ _) (by simp [Value.oneCell']) (by unfold maxLen; omega) (by omega) (by simp; omega) ?_; intro v' w9 hown hgrow _))
      have hg9 := grown_pre hgrow
      have q9 := q3.kept hg9 (own_ge hrow3 (Nat.lt_succ_self _))
      have hx9 := ext_own HX.out hrow3 (Nat.le_succ _) hg9
      have hr9 : RowR (w.heap.size + 1) v' (shL T (T.ps.take (k + 1))) w9 := by
        rw [HSN.out]
        exact rowR_add (by rw [HLL.out]; exact hown)
      go_roundw
      case rel => exact ⟨k + 1, by omega, by go_num, Lib.hid hr9, q9, hx9⟩
      case measure => simp [intOf]; omega
    · obtain rfl : k = T.ps.length := by omega
      have hr := HR.out
      rw [List.take_length, HL.out] at hr
      have hat := hr.at_
      clear HR hr
      go_wp2
      go_ret
      exact ⟨_, rfl, hat, hx⟩

/-- what Shares returns -/
def shaX (T : Tr) : List Ra := if chkE T = 0 then shL T T.ps else []
def RasPost (w : World) (l : List Ra) (E : Int) (e : Ending) (w' : World) : Prop := ∃ v, e = .returned (.tuple #[v, .int .i64 E]) ∧ RasAt w' v l ∧ Ext w w'
theorem rasAt_nil (w : World) : RasAt w (.slice none 0 0) [] := ⟨none, 0, rfl, by simp, fun i hi => by simp at hi⟩
set_option maxRecDepth 100000 in
set_option maxHeartbeats 4000000 in
theorem Shares_any (a b : Value) (T : Tr) (w : World) (hT : TrAt w a b T) (_hn : T.rs.length ≤ 1000 ∧ T.ps.length ≤ 1000) :
    Calls Try.prog 15 #[.agg #[a, b]] w (RasPost w (shaX T) (chkE T)) := by
  obtain ⟨E, hE⟩ : ∃ E, chkE T = E := ⟨_, rfl⟩
  have hok : E = 0 → Ok T := fun h => Ok.of (hE.trans h)
  have hX : shaX T = if E = 0 then shL T T.ps else [] := by rw [← hE]; rfl
  obtain ⟨X, hXX⟩ : ∃ X, shaX T = X := ⟨_, rfl⟩
  rw [hE, hXX]
  rw [hXX] at hX
  have HE := Lib.hid hE
  have HX := Lib.hid hX
  have HOK := Lib.hid hok
  clear hE hX hXX hok
  go_enter Try.func15, Try.ntmps15
  go_wp2_with fail
  refine (Check_any a b T _ (hT.ext (by repeat (first | exact Ext.refl _ | assumption | refine Ext.alloc ?_ _ | refine Ext.drew ?_ | refine Ext.drewN _ ?_ | refine Ext.trans ?_ (by assumption))))).mono ?_
  rw [HE.out]
  rintro e w1 ⟨rfl, hx1⟩
  obtain ⟨q0, hx, hzz⟩ := alloc1 hx1
  have d0 : w1.cell? ⟨w.heap.size, 0, none⟩ = some a := q0.cell 0
  have d1 : w1.cell? ⟨w.heap.size, 1, none⟩ = some b := q0.cell 1
  clear hx1
  by_cases h0 : E = 0
  · have hx2 := HX.out
    rw [if_pos h0] at hx2
    have HX2 := Lib.hid hx2
    have hk := HOK.out h0
    have hb : (E != 0) = false := by simpa using h0
    have HE0 := Lib.hid h0
    clear hx2 h0
    go_wp2_with fail
    refine (shares_any a b T hk _ (hT.ext hx)).mono ?_
    rintro e w3 ⟨v, rfl, hv, hy⟩
    go_wp2_with fail
    go_ret2
    exact ⟨_, ret2 rfl (by rw [HE0.out]; rfl), by rw [HX2.out]; exact hv, hx.trans hy⟩
  · have hb : (E != 0) = true := by simpa using h0
    have hx2 := HX.out
    rw [if_neg h0] at hx2
    have HX2 := Lib.hid hx2
    clear hx2 h0
    go_wp2_with fail
    go_ret2
    exact ⟨_, rfl, by rw [HX2.out]; exact rasAt_nil _, hx⟩
end Go.Proofs.Ythopgonbndoidaa
