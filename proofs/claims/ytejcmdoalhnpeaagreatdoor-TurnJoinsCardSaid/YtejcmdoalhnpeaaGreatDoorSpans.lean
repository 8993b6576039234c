/- Spans of the program: the minutes of a span that are in a set, as the fewest spans, at most 2000. -/
import Derived.Test.YtejcmdoalhnpeaaGreatDoorCount
import Derived.Laws.OwnMore
import Derived.OwnWalkIn
import Derived.Maps.AppendAt
import Derived.Deep.DeepMust
namespace Go.Proofs.YtejcmdoalhnpeaaGreatDoor
open Go.RowKit Go.Shelf

attribute [local go_sem] Oper.semAt_some

def cellsS (l : List Sp) : List Value := l.flatMap (fun s => [Value.int .i64 s.lo, Value.int .i64 s.hi])
theorem cellsS_len (l : List Sp) : (cellsS l).length = l.length * 2 := by
  induction l with
  | nil => rfl
  | cons s l ih => simp [cellsS] at *; omega
theorem cellsS_append (l r : List Sp) : cellsS (l ++ r) = cellsS l ++ cellsS r := by simp [cellsS]
theorem cellsS_get (l : List Sp) (i : Nat) (h : i < l.length) : (cellsS l)[i * 2]? = some (.int .i64 l[i].lo) ∧ (cellsS l)[i * 2 + 1]? = some (.int .i64 l[i].hi) := by
  induction l generalizing i with
  | nil => simp at h
  | cons s l ih =>
    cases i with
    | zero => simp [cellsS]
    | succ i =>
      have := ih i (by simpa using h)
      simp only [cellsS, List.flatMap_cons] at *
      rw [show (i + 1) * 2 = i * 2 + 1 + 1 from by omega]
      simpa using this
theorem infoSp : (Tryz.prog.info? 45).map (fun i => (i.zero, i.size, i.bytes)) = some (some (.agg #[.int .i64 0, .int .i64 0]), 2, 16) := by kernel_rfl
theorem undSp : (Tryz.prog).underlying 23 = some (.slice 45) := by kernel_rfl
/-- a slice of the call's own that holds spans -/
def RowS (n₀ : Nat) (v : Value) (l : List Sp) (W : World) : Prop := W.ownsRow n₀ 45 2 v l.length (cellsS l)
theorem RowS.form {n₀ : Nat} {v : Value} {l : List Sp} {W : World} (h : RowS n₀ v l W) : ∃ A c, v = .slice A l.length c := by
  rcases h.2 with ⟨rfl, h0⟩ | ⟨g, cap, cur, rfl, _⟩
  · exact ⟨none, 0, by rw [h0]⟩
  · exact ⟨_, _, rfl⟩
theorem RowS.at_ {n₀ : Nat} {v : Value} {l : List Sp} {W : World} (h : RowS n₀ v l W) : SpansAt W v l := by
  rcases h.2 with ⟨rfl, h0⟩ | ⟨g, cap, cur, rfl, h1, h2, h3, h4, h5, h6⟩
  · exact ⟨none, 0, by rw [h0], fun i hi => by omega⟩
  · refine ⟨_, _, rfl, fun i hi => ⟨g, 0, rfl, ?_⟩⟩
    have hc := World.ownsRow.cellAt (g := g) (cap := cap) h
    obtain ⟨k1, k2⟩ := cellsS_get l i hi
    rw [Nat.zero_add]
    exact ⟨(hc (i * 2) (by omega)).trans k1, (hc (i * 2 + 1) (by omega)).trans k2⟩
theorem rowS_nil (n₀ : Nat) (W : World) : RowS n₀ (.slice none 0 0) [] W := World.ownsRow_nil _ _ _ _
theorem rowS_ext {n₀ : Nat} {v : Value} {l : List Sp} {W W' : World} (h : RowS n₀ v l W) (x : Ext W W') : RowS n₀ v l W' :=
  World.ownsRow.kept h (grown_none x) (by cases v.ownBlock <;> simp)

/-- what is listed: nothing, if it is too much -/
def listed (l : List Sp) : List Sp := if 2000 < l.length then [] else l
def listedE (l : List Sp) : Int := if 2000 < l.length then 2 else 0
def spansX (S : Mn) (lo hi : Int) : List Sp := if spnE S lo hi = 0 then listed (lst (mem S) lo (spN lo hi)) else []
def spansE (S : Mn) (lo hi : Int) : Int := if spnE S lo hi = 0 then listedE (lst (mem S) lo (spN lo hi)) else spnE S lo hi
/-- what a function that lists spans leaves -/
def ListPost (w : World) (l : List Sp) (E : Int) (e : Ending) (w' : World) : Prop := ∃ v, e = .returned (.tuple #[v, .int .i64 E]) ∧ SpansAt w' v l ∧ Ext w w'

/-- the state between two rounds -/
def ListI (n₀ Bo B4 B5 : Nat) (l : List Sp) (W : World) : Prop := (∃ v, Boxed W Bo 23 v ∧ W.ownsRow n₀ 45 2 v l.length (cellsS l) ∧ True) ∧ Cls B4 23 #[.slice none 0 0] W ∧ Cls B5 27 #[.int .i64 0] W
theorem listI_own {β : Type} (n₀ Bo B4 B5 : Nat) (f : β → List Sp) : Own (fun s W => ListI n₀ Bo B4 B5 (f s) W) := fun s A B row hs hg hr =>
  ⟨holdsRow_own n₀ Bo 23 45 2 (fun s => (f s).length) (fun s => cellsS (f s)) (fun _ _ => True) s A B row hs.1 hg hr,
    Cls.own B4 23 (fun (_ : Unit) => #[.slice none 0 0]) () A B row hs.2.1 hg hr, Cls.own B5 27 (fun (_ : Unit) => #[.int .i64 0]) () A B row hs.2.2 hg hr⟩

theorem ListI.alloc {n₀ Bo B4 B5 : Nat} {l : List Sp} {W : World} (h : ListI n₀ Bo B4 B5 l W) (o : Obj) : ListI n₀ Bo B4 B5 l (W.alloc o) := by
  obtain ⟨⟨v, h1, h2, _⟩, h3, h4⟩ := h
  exact ⟨⟨v, h1.alloc _, h2.alloc _, trivial⟩, h3.ext (by repeat (first | exact Ext.refl _ | assumption | refine Ext.alloc ?_ _ | refine Ext.drew ?_ | refine Ext.drewN _ ?_ | refine Ext.trans ?_ (by assumption))), h4.ext (by repeat (first | exact Ext.refl _ | assumption | refine Ext.alloc ?_ _ | refine Ext.drew ?_ | refine Ext.drewN _ ?_ | refine Ext.trans ?_ (by assumption)))⟩
theorem cell_two_new (w : World) (x y : Value) (t : TypeId) : ∀ j u, [x, y][j]? = some u → (w.alloc (.cells #[x, y] t)).cell? ((⟨w.heap.size, 0, none⟩ : Addr).add j) = some u := by
  intro j u hj
  match j, hj with
  | 0, hj => simp at hj; subst hj; simp [Addr.add]
  | 1, hj => simp at hj; subst hj; simp [Addr.add]
theorem tyNe : 23 ≠ 45 := by decide

set_option maxRecDepth 100000 in
set_option maxHeartbeats 2000000 in
theorem Spans_any (a b : Value) (S : Mn) (lo hi : Int) (w : World) (hS : MinsAt w a b S) :
    Calls Tryz.prog 20 #[.agg #[a, b], .agg #[.int .i64 lo, .int .i64 hi]] w (ListPost w (spansX S lo hi) (spansE S lo hi)) := by
  cases hE : (spnE S lo hi != 0)
  · have h0 : spnE S lo hi = 0 := by simpa using hE
    obtain ⟨hok, b1, b2, b3⟩ := spn_ok h0
    have hN := runL_few (P := mem S) b2 b1 b3
    have H0 := Lib.hid h0
    clear h0
    obtain ⟨i0, hi0, hz0, hz1, hz2⟩ := info_parts infoSp
    refine (callsIn_wide (n := 5)).1 ?_
    refine callsIn_of_wp_marks Tryz.func20 rfl trivial ?_ rfl; simp only [Tryz.ntmps20, List.size_toArray, List.length_cons, List.length_nil, Nat.reduceAdd, Nat.reduceSub, Array.replicate_succ, Array.replicate_zero, List.push_toArray, List.append_toArray, List.nil_append, List.cons_append]
    gi_wp2_with fail
    refine ⟨trivial, (callsIn_wide.2 (spanned_any _ _ S _ _ _ (hS.ext (by repeat (first | exact Ext.refl _ | assumption | refine Ext.alloc ?_ _ | refine Ext.drew ?_ | refine Ext.drewN _ ?_ | refine Ext.trans ?_ (by assumption)))))).mono ?_⟩
    rintro e w1 ⟨rfl, hx1⟩
    rw [H0.out]
    obtain ⟨q0, q1, g4, g5, hx2, hzz⟩ := alloc4 hx1
    have g0 : w1.cell? ⟨w.heap.size, 0, none⟩ = some a := q0.cell 0
    have g1 : w1.cell? ⟨w.heap.size, 1, none⟩ = some b := q0.cell 1
    have g2 : w1.cell? ⟨w.heap.size + 1, 0, none⟩ = some (.int .i64 lo) := q1.cell 0
    have g3 : w1.cell? ⟨w.heap.size + 1, 1, none⟩ = some (.int .i64 hi) := q1.cell 1
    clear hx1
    have k0 : (w1.alloc (.cells #[.slice none 0 0] 23)).cell? ⟨w.heap.size, 0, none⟩ = some a := Ext.cell (by repeat (first | exact Ext.refl _ | assumption | refine Ext.alloc ?_ _ | refine Ext.drew ?_ | refine Ext.drewN _ ?_ | refine Ext.trans ?_ (by assumption))) g0
    have k1 : (w1.alloc (.cells #[.slice none 0 0] 23)).cell? ⟨w.heap.size, 1, none⟩ = some b := Ext.cell (by repeat (first | exact Ext.refl _ | assumption | refine Ext.alloc ?_ _ | refine Ext.drew ?_ | refine Ext.drewN _ ?_ | refine Ext.trans ?_ (by assumption))) g1
    have k2 : (w1.alloc (.cells #[.slice none 0 0] 23)).cell? ⟨w.heap.size + 1, 0, none⟩ = some (.int .i64 lo) := Ext.cell (by repeat (first | exact Ext.refl _ | assumption | refine Ext.alloc ?_ _ | refine Ext.drew ?_ | refine Ext.drewN _ ?_ | refine Ext.trans ?_ (by assumption))) g2
    have k3 : (w1.alloc (.cells #[.slice none 0 0] 23)).cell? ⟨w.heap.size + 1, 1, none⟩ = some (.int .i64 hi) := Ext.cell (by repeat (first | exact Ext.refl _ | assumption | refine Ext.alloc ?_ _ | refine Ext.drew ?_ | refine Ext.drewN _ ?_ | refine Ext.trans ?_ (by assumption))) g3
    gi_wp2_with fail
    refine ⟨trivial, (callsIn_wide.2 (runs_any _ _ _ _ _)).mono ?_⟩
    rintro e w2 ⟨rfl, hw2⟩
    obtain ⟨w1', hw1'⟩ : ∃ w1', w1.alloc (.cells #[.slice none 0 0] 23) = w1' := ⟨_, rfl⟩
    have hn : Boxed w1' w1.heap.size 23 (.slice none 0 0) := by rw [← hw1']; exact Boxed.new _ _ _
    have hz1' : w1'.heap.size = w1.heap.size + 1 := by rw [← hw1']; simp
    have hx3 : Ext w1 w1' := by rw [← hw1']; exact (by repeat (first | exact Ext.refl _ | assumption | refine Ext.alloc ?_ _ | refine Ext.drew ?_ | refine Ext.drewN _ ?_ | refine Ext.trans ?_ (by assumption)))
    rw [hw1'] at hw2
    clear hw1' k0 k1 k2 k3 g0 g1 g2 g3
    have e0 : Cls w1'.heap.size 25 #[a, b] w2 := by rw [← hw2]; exact (Cls.new _ _ _).ext (by repeat (first | exact Ext.refl _ | assumption | refine Ext.alloc ?_ _ | refine Ext.drew ?_ | refine Ext.drewN _ ?_ | refine Ext.trans ?_ (by assumption)))
    have e2 : Cls (w1'.heap.size + 1) 45 #[.int .i64 lo, .int .i64 hi] w2 := by
      rw [← hw2]
      have := Cls.new (w1'.alloc (.cells #[a, b] 25)) 45 #[.int .i64 lo, .int .i64 hi]
      rwa [World.size_alloc] at this
    have hz2' : w2.heap.size = w1'.heap.size + 2 := by rw [← hw2]; simp
    have hx4 : Ext w1' w2 := by rw [← hw2]; exact (by repeat (first | exact Ext.refl _ | assumption | refine Ext.alloc ?_ _ | refine Ext.drew ?_ | refine Ext.drewN _ ?_ | refine Ext.trans ?_ (by assumption)))
    clear hw2
    rw [hz1'] at e0 e2
    have hx5 : Ext w w2 := (hx2.trans hx3).trans hx4
    have hI0 : ListI w2.heap.size w1.heap.size (w.heap.size + 1 + 1) (w.heap.size + 1 + 1 + 1) [] w2 :=
      ⟨⟨_, (Cls.ext hn hx4), World.ownsRow_nil _ _ _ _, trivial⟩, g4.ext (hx3.trans hx4), g5.ext (hx3.trans hx4)⟩
    have hz0' := hx2.size
    have hzs : w1.heap.size + 3 = w2.heap.size := by omega
    have HZ := Lib.hid hzs
    clear hz1' hz2' hn hzs g4 g5
    gi_wp2_with fail
    refine range_box (gf := 81) rfl (enters_of Tryz.func81 (by kernel_rfl) rfl) (n₀ := w.heap.size) (bs := [w1.heap.size + 1, w1.heap.size + 1 + 1]) hx5.size (by have := HZ.out; simp; omega)
      (runs_stops 4 _ _ (by omega) S hok a b lo hi b2 b1 b3 w w2 hx5 _ _ e0 e2 hS) (fun _ => rfl) 45 (fun x => #[.int .i64 x.1.lo, .int .i64 x.1.hi])
      (fun pre W => ((ListI w2.heap.size w1.heap.size (w.heap.size + 1 + 1) (w.heap.size + 1 + 1 + 1) (vals pre) W ∧ Below w.heap.size w W) ∧ w2.heap.size ≤ W.heap.size) ∧ pre.length ≤ 2000)
      (fun c pre W => (Cls (w.heap.size + 1 + 1) 23 #[.slice none 0 0] W ∧ Cls (w.heap.size + 1 + 1 + 1) 27 #[.int .i64 2] W) ∧ Below w.heap.size w W ∧ 2000 < pre.length ∧ c = .ret)
      (OwnFrom.and (OwnFrom.and (OwnFrom.and ((listI_own _ _ _ _ vals).from _) (ownFrom_below (Nat.le_refl _) hx5.size)) (ownFrom_size _ _)) (ownFrom_pure _ _))
      (fun c => OwnFrom.and (OwnFrom.and ((Cls.own _ _ (fun _ => #[.slice none 0 0])).from _) ((Cls.own _ _ (fun _ => #[.int .i64 2])).from _)) (OwnFrom.and (ownFrom_below (Nat.le_refl _) hx5.size) (ownFrom_pure _ _)))
      ⟨⟨⟨hI0, hx5⟩, Nat.le_refl _⟩, by simp⟩
      (fun pre W h => ⟨h.1.2, fun o => ⟨⟨⟨h.1.1.1.alloc o, Below.alloc h.1.1.2 h.1.1.2.size _⟩, by have := h.1.2; simp; omega⟩, h.2⟩⟩) ?round ?done ?stop
    case round =>
      apply Exists.intro
      constructor
      · intro l x W K B HB hK
        dsimp only [encSp]
        gi_wp2
        rw [HB.out]
        exact hK
      · rintro l pre x B W ⟨⟨⟨⟨⟨v, hv, hrow, _⟩, h4, h5⟩, hB⟩, hsz⟩, hlen⟩ _ hBB hX
        obtain ⟨A, c, rfl⟩ := RowS.form hrow
        have cv := hv.cell
        have fv := hv.frozen
        have c1 : W.cell? ⟨B, 0, none⟩ = some (.int .i64 x.1.lo) := hX.cell 0
        have c2 : W.cell? ⟨B, 1, none⟩ = some (.int .i64 x.1.hi) := hX.cell 1
        have hvl := vals_len pre
        have hs1 := hB.size
        have hs2 := HZ.out
        have hX' := hX.lt
        clear hs2
        by_cases hlt : pre.length = 2000
        · have hb : (((vals pre).length : Int) == 2000) = true := by rw [hvl, hlt]; rfl
          have HLT := Lib.hid hlt
          clear hvl hlt
          have d4 : W.frozen? ⟨w.heap.size + 1 + 1, 0, none⟩ = false := h4.frozen 0
          have d5 : W.frozen? ⟨w.heap.size + 1 + 1 + 1, 0, none⟩ = false := h5.frozen 0
          have d6 : W.cell? ⟨w.heap.size + 1 + 1, 0, none⟩ = some (.slice none 0 0) := h4.cell 0
          have d7 : W.cell? ⟨w.heap.size + 1 + 1 + 1, 0, none⟩ = some (.int .i64 0) := h5.cell 0
          gi_wp2
          refine ⟨((KeepsOthers.setCell _ _ _).trans (KeepsOthers.setCell _ _ _)).from _, ⟨?_, ?_⟩, ?_, by rw [List.length_append, HLT.out]; simp, rfl⟩
          · exact (h4.set 0 (.slice none 0 0)).other (by omega) 0 _
          · exact ((h5.other (by omega) 0 _).set 0 (.int .i64 2))
          · exact Below.setCell (Below.setCell hB (p := ⟨w.heap.size + 1 + 1, 0, none⟩) (by simp; omega) _) (p := ⟨w.heap.size + 1 + 1 + 1, 0, none⟩) (by simp; omega) _
        · have hb : (((vals pre).length : Int) == 2000) = false := by rw [hvl, beq_eq_false_iff_ne]; omega
          have hlt' : (vals pre).length < 2000 := by rw [hvl]; omega
          clear hvl
          gi_wp2_with ((gi_at_builtin; go_must (refine wpListIn_append_own _ rfl _ _ 23 rfl w2.heap.size 45 i0 (.agg #[.int .i64 0, .int .i64 0]) 2 16 undSp hi0 hz0 hz1 hz2 rfl (by decide) _ _ _ rfl (hrow.alloc _) ⟨W.heap.size, 0, none⟩ 1 1 [.int .i64 x.1.lo, .int .i64 x.1.hi] rfl rfl (cell_two_new _ _ _ _) (by simp [Value.oneCell']) (by unfold maxLen; omega) (by omega) (by simp; omega) ?_; intro v' w3 hown' hgrow _; obtain ⟨g', cap', rfl⟩ := ownsRow_succ hown'; obtain ⟨hv1, hv2, hr2, hk2, hb2, hb3⟩ := appended2 hv tyNe hrow hsz hown' hgrow; have hcv := hv1.cell; have hfv := hv1.frozen)))
          have hz := HZ.out
          have hb4 := hb3 w.heap.size (by omega) (by omega)
          refine ⟨hk2.from _, ⟨hb4, fun b hb => hb2 b (by simp at hb; omega) (by simp at hb; omega)⟩, ⟨⟨⟨⟨_, hv2, ?_, trivial⟩, ?_, ?_⟩, hB.trans hb4⟩, ?_⟩, ?_⟩
          · have := hr2
            rw [vals_snoc, List.length_append, List.length_singleton, cellsS_append]
            exact this
          · exact (hb2 _ (by omega) (by omega)).trans h4
          · exact (hb2 _ (by omega) (by omega)).trans h5
          · exact Nat.le_trans hsz hk2.size
          · simp; omega
    case done =>
      rintro D ys W hD rfl ⟨⟨⟨⟨⟨v, hv, hrow, _⟩, h4, h5⟩, hB⟩, hsz⟩, hlen⟩ hK
      have cv := hv.cell
      have d4 : W.frozen? ⟨w.heap.size + 1 + 1, 0, none⟩ = false := h4.frozen 0
      have d5 : W.frozen? ⟨w.heap.size + 1 + 1 + 1, 0, none⟩ = false := h5.frozen 0
      have d6 : W.cell? ⟨w.heap.size + 1 + 1, 0, none⟩ = some (.slice none 0 0) := h4.cell 0
      have d7 : W.cell? ⟨w.heap.size + 1 + 1 + 1, 0, none⟩ = some (.int .i64 0) := h5.cell 0
      obtain ⟨A, c, rfl⟩ := RowS.form hrow
      have hvr := vals_run (P := mem S) b2
      have HV := Lib.hid hvr
      have hlv : ¬ 2000 < (lst (mem S) lo (spN lo hi)).length := by rw [← hvr, vals_len]; omega
      have hs1 := hB.size
      clear hvr
      gi_wp2
      obtain ⟨V, hV⟩ : ∃ V, Value.slice A (vals (runL (mem S) lo hi b2)).length c = V := ⟨_, rfl⟩
      rw [hV] at hrow ⊢
      clear hV cv hv
      have hKs := ((KeepsOthers.setCell W ⟨w.heap.size + 1 + 1, 0, none⟩ V).trans (KeepsOthers.setCell _ ⟨w.heap.size + 1 + 1 + 1, 0, none⟩ (.int .i64 0))).same D _ hK rfl
      refine ⟨by simp, .inl ⟨_, _, rfl, run_takeDeferred hKs, ?_⟩⟩
      have r4 := ((h4.set 0 V).other (B' := w.heap.size + 1 + 1 + 1) (by omega) 0 (.int .i64 0)).putObj (.deferred none) hKs rfl
      have r5 := ((h5.other (B' := w.heap.size + 1 + 1) (by omega) 0 V).set 0 (.int .i64 0)).putObj (.deferred none) hKs rfl
      have c4 := r4.cell 0
      have c5 := r5.cell 0
      simp only [List.setIfInBounds_toArray, List.set_cons_zero, List.getElem?_toArray, List.getElem?_cons_zero] at c4 c5
      have hz := HZ.out
      have hr1 := hrow.kept (grownBy_setCell' W (w.heap.size + 1 + 1) V) (.inr (fun e => by have := (hrow.lt _ e).1; omega))
      have hr2 := hr1.kept (grownBy_setCell' _ (w.heap.size + 1 + 1 + 1) (.int .i64 0)) (.inr (fun e => by have := (hrow.lt _ e).1; omega))
      have hr3 := ownsRow_putObj hr2 (.deferred none) hKs rfl
      refine ⟨.tuple #[V, .int .i64 0], ?_, V, ?_, ?_, ?_⟩
      · simp [results, Tryz.f20, go_sem, c4, c5]
      · rw [spansE, if_pos H0.out, listedE, if_neg hlv]
      · rw [spansX, if_pos H0.out, listed, if_neg hlv, ← HV.out]
        exact RowS.at_ hr3
      · have h1 := Below.setCell (Below.setCell hB (p := ⟨w.heap.size + 1 + 1, 0, none⟩) (by simp; omega) V) (p := ⟨w.heap.size + 1 + 1 + 1, 0, none⟩) (by simp; omega) (.int .i64 0)
        exact h1.trans (belowK_b (w := w) (Nat.le_refl _) _ D _ _ (by omega) hKs rfl rfl)
    case stop =>
      rintro D c pre W hD hpre ⟨⟨h4, h5⟩, hB, hlen, rfl⟩ hK
      gi_wp2
      refine ⟨by simp, .inl ⟨_, _, rfl, run_takeDeferred hK, ?_⟩⟩
      have r4 := h4.putObj (.deferred none) hK rfl
      have r5 := h5.putObj (.deferred none) hK rfl
      have c4 := r4.cell 0
      have c5 := r5.cell 0
      simp only [List.getElem?_toArray, List.getElem?_cons_zero] at c4 c5
      have hlv : 2000 < (lst (mem S) lo (spN lo hi)).length := by
        have h1 := hpre.length_le
        rw [runL_len] at h1
        omega
      refine ⟨.tuple #[.slice none 0 0, .int .i64 2], ?_, .slice none 0 0, ?_, ?_, ?_⟩
      · simp [results, Tryz.f20, go_sem, c4, c5]
      · rw [spansE, if_pos H0.out, listedE, if_pos hlv]
      · rw [spansX, if_pos H0.out, listed, if_pos hlv]; exact (rowS_nil 0 _).at_
      · exact hB.trans (belowK_b (w := w) (Nat.le_refl _) W D _ _ (by have := HZ.out; omega) hK rfl rfl)
  · have h0 : spnE S lo hi ≠ 0 := by simpa using hE
    go_enter Tryz.func20, Tryz.ntmps20
    go_wp2_with fail
    refine (spanned_any a b S _ _ _ (hS.ext (by repeat (first | exact Ext.refl _ | assumption | refine Ext.alloc ?_ _ | refine Ext.drew ?_ | refine Ext.drewN _ ?_ | refine Ext.trans ?_ (by assumption))))).mono ?_
    rintro e w1 ⟨rfl, hx1⟩
    obtain ⟨_, _, g4, g5, hx2, hzz⟩ := alloc4 hx1
    have d4 : w1.frozen? ⟨w.heap.size + 1 + 1, 0, none⟩ = false := g4.frozen 0
    have d5 : w1.frozen? ⟨w.heap.size + 1 + 1 + 1, 0, none⟩ = false := g5.frozen 0
    have d6 : w1.cell? ⟨w.heap.size + 1 + 1, 0, none⟩ = some (.slice none 0 0) := g4.cell 0
    have d7 : w1.cell? ⟨w.heap.size + 1 + 1 + 1, 0, none⟩ = some (.int .i64 0) := g5.cell 0
    clear hx1
    go_wp2_with fail
    have r4 := (g4.set 0 (.slice none 0 0)).other (B' := w.heap.size + 1 + 1 + 1) (by omega) 0 (.int .i64 (spnE S lo hi))
    have r5 := (g5.other (B' := w.heap.size + 1 + 1) (by omega) 0 (.slice none 0 0)).set 0 (.int .i64 (spnE S lo hi))
    have c4 := r4.cell 0
    have c5 := r5.cell 0
    simp only [List.setIfInBounds_toArray, List.set_cons_zero, List.getElem?_toArray, List.getElem?_cons_zero] at c4 c5
    refine bodyPost_ret (v := .tuple #[.slice none 0 0, .int .i64 (spnE S lo hi)]) ?_ rfl ⟨.slice none 0 0, ?_, ?_, ?_⟩
    · simp [results, Tryz.f20, go_sem, c4, c5]
    · rw [spansE, if_neg h0]
    · rw [spansX, if_neg h0]; exact (rowS_nil 0 _).at_
    · exact (hx2.setCell (by simp; omega) _).setCell (by simp; omega) _

end Go.Proofs.YtejcmdoalhnpeaaGreatDoor
