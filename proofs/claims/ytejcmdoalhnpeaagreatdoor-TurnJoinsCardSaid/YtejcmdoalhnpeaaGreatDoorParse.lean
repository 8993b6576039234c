/- Parse of the program: the set of a text, or where it does not fit. -/
import Derived.Test.YtejcmdoalhnpeaaGreatDoorLeft
import Derived.Test.YtejcmdoalhnpeaaGreatDoorSpans
import Derived.Deep.AppendLies
import Derived.Deep.RegionLaw
namespace Go.Proofs.YtejcmdoalhnpeaaGreatDoor
open Go.RowKit Go.Shelf

def cellsT (l : List Tn) : List Value := l.flatMap (fun s => [Value.int .i64 s.p, Value.int .i64 s.f, Value.int .i64 s.l])
theorem cellsT_len (l : List Tn) : (cellsT l).length = l.length * 3 := by
  induction l with
  | nil => rfl
  | cons s l ih => simp [cellsT] at *; omega
theorem cellsT_append (l r : List Tn) : cellsT (l ++ r) = cellsT l ++ cellsT r := by simp [cellsT]
theorem cellsT_get (l : List Tn) (i : Nat) (h : i < l.length) : (cellsT l)[i * 3]? = some (.int .i64 l[i].p) ∧ (cellsT l)[i * 3 + 1]? = some (.int .i64 l[i].f) ∧ (cellsT l)[i * 3 + 2]? = some (.int .i64 l[i].l) := by
  induction l generalizing i with
  | nil => simp at h
  | cons s l ih =>
    cases i with
    | zero => simp [cellsT]
    | succ i =>
      have := ih i (by simpa using h)
      simp only [cellsT, List.flatMap_cons] at *
      rw [show (i + 1) * 3 = i * 3 + 1 + 1 + 1 from by omega]
      simpa using this
theorem infoTn : (Tryz.prog.info? 42).map (fun i => (i.zero, i.size, i.bytes)) = some (some (.agg #[.int .i64 0, .int .i64 0, .int .i64 0]), 3, 24) := by kernel_rfl
theorem undTn : (Tryz.prog).underlying 22 = some (.slice 42) := by kernel_rfl
def RowT (n₀ : Nat) (v : Value) (l : List Tn) (W : World) : Prop := W.ownsRow n₀ 42 3 v l.length (cellsT l)
theorem RowT.form {n₀ : Nat} {v : Value} {l : List Tn} {W : World} (h : RowT n₀ v l W) : ∃ A c, v = .slice A l.length c := by
  rcases h.2 with ⟨rfl, h0⟩ | ⟨g, cap, cur, rfl, _⟩
  · exact ⟨none, 0, by rw [h0]⟩
  · exact ⟨_, _, rfl⟩
theorem RowT.at_ {n₀ : Nat} {v : Value} {l : List Tn} {W : World} (h : RowT n₀ v l W) : TurnsAt W v l := by
  rcases h.2 with ⟨rfl, h0⟩ | ⟨g, cap, cur, rfl, h1, h2, h3, h4, h5, h6⟩
  · exact ⟨none, 0, by rw [h0], fun i hi => by omega⟩
  · refine ⟨_, _, rfl, fun i hi => ⟨g, 0, rfl, ?_⟩⟩
    have hc := World.ownsRow.cellAt (g := g) (cap := cap) h
    obtain ⟨k1, k2, k3⟩ := cellsT_get l i hi
    rw [Nat.zero_add]
    exact ⟨(hc (i * 3) (by omega)).trans k1, (hc (i * 3 + 1) (by omega)).trans k2, (hc (i * 3 + 2) (by omega)).trans k3⟩

theorem cell_three_new (w : World) (x y z : Value) (t : TypeId) : ∀ j u, [x, y, z][j]? = some u → (w.alloc (.cells #[x, y, z] t)).cell? ((⟨w.heap.size, 0, none⟩ : Addr).add j) = some u := by
  intro j u hj
  match j, hj with
  | 0, hj => simp at hj; subst hj; simp [Addr.add]
  | 1, hj => simp at hj; subst hj; simp [Addr.add]
  | 2, hj => simp at hj; subst hj; simp [Addr.add]
/-- what Parse leaves -/
def PrsPost (x : List UInt8) (w : World) (e : Ending) (w' : World) : Prop :=
  ∃ va vb, e = .returned (.tuple #[.agg #[va, vb], .int .i64 (prsE x), .int .i64 (prsA x)]) ∧ MinsAt w' va vb (prsX x) ∧ Ext w w'
/-- how much is left, at most -/
def remR (x : List UInt8) (r : Rd) : Nat := if r.bad then 0 else x.length + 1 - r.at_
theorem rem_turn {x : List UInt8} {r : Rd} (h : leftR x r = true) : remR x (turnR x r).2 < remR x r ∧ (turnR x r).2.at_ ≤ x.length := by
  simp only [leftR, Bool.and_eq_true, decide_eq_true_eq, Bool.not_eq_true'] at h
  obtain ⟨h1, h2⟩ := turnR_step x r (by omega)
  refine ⟨?_, h1⟩
  have e : remR x r = x.length + 1 - r.at_ := by simp [remR, h.1]
  rw [e]
  cases hb : (turnR x r).2.bad
  · have := h2 hb; simp only [remR, hb, Bool.false_eq_true, if_false]; omega
  · simp only [remR, hb, if_true]; omega
theorem rem_span {x : List UInt8} {r : Rd} (h : leftR x r = true) : remR x (spanR x r).2 < remR x r ∧ (spanR x r).2.at_ ≤ x.length := by
  simp only [leftR, Bool.and_eq_true, decide_eq_true_eq, Bool.not_eq_true'] at h
  obtain ⟨h1, h2⟩ := spanR_step x r (by omega)
  refine ⟨?_, h1⟩
  have e : remR x r = x.length + 1 - r.at_ := by simp [remR, h.1]
  rw [e]
  cases hb : (spanR x r).2.bad
  · have := h2 hb; simp only [remR, hb, Bool.false_eq_true, if_false]; omega
  · simp only [remR, hb, if_true]; omega

/-- Parse's memory between two rounds -/
structure PS (w : World) (s : ByteArray) (r : Rd) (v vb : Value) (ts : List Tn) (ss : List Sp) (W : World) : Prop where
  rd : RdAt (w.heap.size + 1) s r W
  pb : Cls (w.heap.size + 1 + 1) 103 #[.pointer (some ⟨w.heap.size + 1, 0, none⟩)] W
  mn : Cls (w.heap.size + 1 + 1 + 1) 25 #[v, vb] W
  rs : Cls w.heap.size 25 #[.slice none 0 0, .slice none 0 0] W
  ex : Ext w W
  rt : RowT (w.heap.size + 4) v ts W
  rw_ : RowS (w.heap.size + 4) vb ss W
  sz : w.heap.size + 4 ≤ W.heap.size
theorem PS.drewN {w : World} {s : ByteArray} {r : Rd} {v vb : Value} {ts : List Tn} {ss : List Sp} {W : World} (h : PS w s r v vb ts ss W) (n : Nat) : PS w s r v vb ts ss (W.drewN n) :=
  ⟨h.rd, h.pb, h.mn, h.rs, h.ex.drewN n, h.rt, h.rw_, h.sz⟩
theorem own_ge {base : Nat} {e : TypeId} {size : Nat} {v : Value} {n : Nat} {xs : List Value} {W : World} (h : W.ownsRow base e size v n xs) {b : Nat} (hb : b < base) : some b ≠ v.ownBlock := by
  intro e
  have := (h.lt b e.symm).1
  omega
theorem PS.read {w : World} {s : ByteArray} {r r' : Rd} {v vb : Value} {ts : List Tn} {ss : List Sp} {W W' : World} (h : PS w s r v vb ts ss W) (hR : RdAt (w.heap.size + 1) s r' W') (hg : W.grownBy W' (some (w.heap.size + 1))) : PS w s r' v vb ts ss W' :=
  ⟨hR, h.pb.kept hg (by simp), h.mn.kept hg (by simp; omega), h.rs.kept hg (by simp), h.ex.grown hg (by omega), World.ownsRow.kept h.rt hg (.inr (own_ge h.rt (by omega)).symm), World.ownsRow.kept h.rw_ hg (.inr (own_ge h.rw_ (by omega)).symm), Nat.le_trans h.sz hg.size⟩

theorem PS.read2 {w : World} {s : ByteArray} {r r' : Rd} {v vb : Value} {ts : List Tn} {ss : List Sp} {W W1 W' : World} (h : PS w s r v vb ts ss W) (hR : RdAt (w.heap.size + 1) s r' W') (hg : W1.grownBy W' (some (w.heap.size + 1)))
    (hd : W1.heap = W.heap ∧ W1.os = W.os ∧ W1.tape = W.tape ∧ W1.output = W.output) : PS w s r' v vb ts ss W' :=
  h.read hR ⟨hg.os.trans hd.2.1, hg.tape.trans hd.2.2.1, hg.output.trans hd.2.2.2, by rw [← hd.1]; exact hg.size, fun i hi hne => by rw [← hd.1] at hi ⊢; exact hg.block i hi hne⟩
/-- behind an append of a turn, and the store -/
theorem PS.addT {w : World} {s : ByteArray} {r : Rd} {v vb : Value} {ts : List Tn} {ss : List Sp} {t : Tn} {W W1 W' : World} {v' : Value} {tmp : Obj} (h : PS w s r v vb ts ss W) (hW1 : W1 = W.alloc tmp) (hg : W1.grownBy W' v.ownBlock) (ho : W'.ownsRow (w.heap.size + 4) 42 3 v' (ts.length + 1) (cellsT ts ++ [.int .i64 t.p, .int .i64 t.f, .int .i64 t.l])) :
    Cls (w.heap.size + 1 + 1 + 1) 25 #[v, vb] W' ∧ PS w s r v' vb (ts ++ [t]) ss (W'.setCell ⟨w.heap.size + 1 + 1 + 1, 0, none⟩ v') := by
  subst hW1
  have hne : ∀ b, b < w.heap.size + 4 → some b ≠ v.ownBlock := fun b hb => own_ge h.rt hb
  have k : ∀ {b : Nat} {t : TypeId} {cs : Array Value}, b < w.heap.size + 4 → Cls b t cs W → Cls b t cs W' := fun hb hc => (hc.ext ((Ext.refl _).alloc _)).kept hg (hne _ hb)
  have hm := k (by omega) h.mn
  have hx : Ext w W' := (h.ex.alloc tmp).trans' (by
    refine ⟨hg.os, hg.tape, hg.output, hg.size, fun i hi => hg.block i (by have := h.sz; simp; omega) (hne i (by omega))⟩)
  have hsep : v.ownBlock = none ∨ vb.ownBlock ≠ v.ownBlock := by
    rcases h.rt.2 with ⟨rfl, _⟩ | ⟨g, cap, cur, rfl, _, hgb, _⟩
    · exact .inl rfl
    · right
      intro e
      rcases h.rw_.2 with ⟨rfl, _⟩ | ⟨g', cap', cur', rfl, _, hgb', _⟩
      · simp [Value.ownBlock] at e
      · simp only [Value.ownBlock, Option.some.injEq] at e
        subst e
        rw [hgb] at hgb'
        cases hgb'
  have hrw : W'.ownsRow (w.heap.size + 4) 45 2 vb ss.length (cellsS ss) := by
    refine World.ownsRow.kept (World.ownsRow.alloc h.rw_ tmp) hg ?_
    rcases hsep with e | e
    · cases hvb : vb.ownBlock with
      | none => exact .inl rfl
      | some b => right; rw [e]; simp
    · exact .inr e
  refine ⟨hm, ?_⟩
  have hM : ∀ {e : TypeId} {size : Nat} {v : Value} {n : Nat} {xs : List Value}, W'.ownsRow (w.heap.size + 4) e size v n xs → (W'.setCell ⟨w.heap.size + 1 + 1 + 1, 0, none⟩ v').ownsRow (w.heap.size + 4) e size v n xs := fun ho => World.ownsRow.kept ho (grownBy_setCell' W' (w.heap.size + 1 + 1 + 1) v') (.inr (own_ge ho (by omega)).symm)
  refine ⟨(k (by omega) h.rd).other (by omega) 0 _, (k (by omega) h.pb).other (by omega) 0 _, hm.set 0 v', (k (by omega) h.rs).other (by omega) 0 _, hx.setCell (by simp; omega) _, ?_, hM hrw, ?_⟩
  · have := hM ho
    unfold RowT
    rw [List.length_append, List.length_singleton, cellsT_append]
    exact this
  · have h1 := h.sz; have h2 := hg.size; simp [World.setCell] at *; omega
theorem PS.addS {w : World} {s : ByteArray} {r : Rd} {v vb : Value} {ts : List Tn} {ss : List Sp} {t : Sp} {W W1 W' : World} {v' : Value} {tmp : Obj} (h : PS w s r v vb ts ss W) (hW1 : W1 = W.alloc tmp) (hg : W1.grownBy W' vb.ownBlock) (ho : W'.ownsRow (w.heap.size + 4) 45 2 v' (ss.length + 1) (cellsS ss ++ [.int .i64 t.lo, .int .i64 t.hi])) :
    Cls (w.heap.size + 1 + 1 + 1) 25 #[v, vb] W' ∧ PS w s r v v' ts (ss ++ [t]) (W'.setCell ⟨w.heap.size + 1 + 1 + 1, 1, none⟩ v') := by
  subst hW1
  have hne : ∀ b, b < w.heap.size + 4 → some b ≠ vb.ownBlock := fun b hb => own_ge h.rw_ hb
  have k : ∀ {b : Nat} {t : TypeId} {cs : Array Value}, b < w.heap.size + 4 → Cls b t cs W → Cls b t cs W' := fun hb hc => (hc.ext ((Ext.refl _).alloc _)).kept hg (hne _ hb)
  have hm := k (by omega) h.mn
  have hx : Ext w W' := (h.ex.alloc tmp).trans' (by
    refine ⟨hg.os, hg.tape, hg.output, hg.size, fun i hi => hg.block i (by have := h.sz; simp; omega) (hne i (by omega))⟩)
  have hsep : vb.ownBlock = none ∨ v.ownBlock ≠ vb.ownBlock := by
    rcases h.rw_.2 with ⟨rfl, _⟩ | ⟨g, cap, cur, rfl, _, hgb, _⟩
    · exact .inl rfl
    · right
      intro e
      rcases h.rt.2 with ⟨rfl, _⟩ | ⟨g', cap', cur', rfl, _, hgb', _⟩
      · simp [Value.ownBlock] at e
      · simp only [Value.ownBlock, Option.some.injEq] at e
        subst e
        rw [hgb] at hgb'
        cases hgb'
  have hrw : W'.ownsRow (w.heap.size + 4) 42 3 v ts.length (cellsT ts) := by
    refine World.ownsRow.kept (World.ownsRow.alloc h.rt tmp) hg ?_
    rcases hsep with e | e
    · cases hvb : v.ownBlock with
      | none => exact .inl rfl
      | some b => right; rw [e]; simp
    · exact .inr e
  refine ⟨hm, ?_⟩
  have hM : ∀ {e : TypeId} {size : Nat} {v : Value} {n : Nat} {xs : List Value}, W'.ownsRow (w.heap.size + 4) e size v n xs → (W'.setCell ⟨w.heap.size + 1 + 1 + 1, 1, none⟩ v').ownsRow (w.heap.size + 4) e size v n xs := fun ho => World.ownsRow.kept ho (row := some (w.heap.size + 1 + 1 + 1)) ⟨rfl, rfl, rfl, by simp [World.setCell], fun j _ hne => Below.heap_setCell W' ⟨w.heap.size + 1 + 1 + 1, 1, none⟩ v' j (fun e => hne (by rw [e]))⟩ (.inr (own_ge ho (by omega)).symm)
  refine ⟨(k (by omega) h.rd).other (by omega) 1 _, (k (by omega) h.pb).other (by omega) 1 _, hm.set 1 v', (k (by omega) h.rs).other (by omega) 1 _, hx.setCell (by simp; omega) _, hM hrw, ?_, ?_⟩
  · have := hM ho
    unfold RowS
    rw [List.length_append, List.length_singleton, cellsS_append]
    exact this
  · have h1 := h.sz; have h2 := hg.size; simp [World.setCell] at *; omega

theorem PS.fin {w : World} {s : ByteArray} {r : Rd} {v vb : Value} {ts : List Tn} {ss : List Sp} {W : World} (h : PS w s r v vb ts ss W) (a b : Value) :
    Cls w.heap.size 25 #[a, b] ((W.setCell ⟨w.heap.size, 0, none⟩ a).setCell ⟨w.heap.size, 1, none⟩ b) ∧ TurnsAt ((W.setCell ⟨w.heap.size, 0, none⟩ a).setCell ⟨w.heap.size, 1, none⟩ b) v ts ∧ SpansAt ((W.setCell ⟨w.heap.size, 0, none⟩ a).setCell ⟨w.heap.size, 1, none⟩ b) vb ss ∧ Ext w ((W.setCell ⟨w.heap.size, 0, none⟩ a).setCell ⟨w.heap.size, 1, none⟩ b) := by
  have hg : W.grownBy ((W.setCell ⟨w.heap.size, 0, none⟩ a).setCell ⟨w.heap.size, 1, none⟩ b) (some w.heap.size) := grown_set (grown_set (World.grownBy.refl _ _) 0 a) 1 b
  refine ⟨(h.rs.set 0 a).set 1 b, RowT.at_ (World.ownsRow.kept h.rt hg (.inr (own_ge h.rt (by omega)).symm)), RowS.at_ (World.ownsRow.kept h.rw_ hg (.inr (own_ge h.rw_ (by omega)).symm)), ?_⟩
  exact (h.ex.setCell (by simp) _).setCell (by simp) _
theorem turnsAt_nil (W : World) : TurnsAt W (.slice none 0 0) [] := ⟨none, 0, rfl, fun i hi => by simp at hi⟩
theorem spansAt_nil (W : World) : SpansAt W (.slice none 0 0) [] := ⟨none, 0, rfl, fun i hi => by simp at hi⟩
theorem prs_ret {x : List UInt8} {w W : World} {tmps : Array Value} {va vb : Value} (h2 : tmps.getD 2 undef = .pointer (some ⟨w.heap.size, 0, none⟩)) (h3 : tmps.getD 3 undef = .int .i64 (prsE x)) (h4 : tmps.getD 4 undef = .int .i64 (prsA x))
    (hc : Cls w.heap.size 25 #[va, vb] W) (hm : MinsAt W va vb (prsX x)) (hx : Ext w W) : bodyPost Tryz.prog Tryz.f24 (PrsPost x w) Exit.ret { tmps := tmps, defers := [] } W := by
  have c0 : W.cell? ⟨w.heap.size, 0, none⟩ = some va := hc.cell 0
  have c1 : W.cell? ⟨w.heap.size, 1, none⟩ = some vb := hc.cell 1
  have h2' : tmps[2]?.getD undef = .pointer (some ⟨w.heap.size, 0, none⟩) := by simpa using h2
  have h3' : tmps[3]?.getD undef = .int .i64 (prsE x) := by simpa using h3
  have h4' : tmps[4]?.getD undef = .int .i64 (prsA x) := by simpa using h4
  exact bodyPost_ret (v := .tuple #[.agg #[va, vb], .int .i64 (prsE x), .int .i64 (prsA x)]) (by simp [results, Tryz.f24, go_sem, h2', h3', h4', c0, c1]) rfl ⟨va, vb, rfl, hm, hx⟩
theorem prs_bad {x : List UInt8} (h0 : ¬ 3000 < x.length) (hb : (parB x).2.bad = true) : prsE x = 7 ∧ prsA x = (parB x).2.at_ ∧ prsX x = ⟨[], []⟩ := by
  have e : prsE x = 7 := by unfold prsE; rw [if_neg h0, if_pos hb]
  exact ⟨e, by unfold prsA; rw [if_neg h0, if_pos hb], by unfold prsX; rw [if_neg (by rw [e]; decide)]⟩
theorem prs_big {x : List UInt8} (h0 : ¬ 3000 < x.length) (hb : (parB x).2.bad = false) (h : 24 < (parA x).1.length ∨ 40 < (parB x).1.length) : prsE x = 2 ∧ prsA x = 0 ∧ prsX x = ⟨[], []⟩ := by
  have e : prsE x = 2 := by unfold prsE; rw [if_neg h0, if_neg (by simp [hb]), if_pos h]
  exact ⟨e, by unfold prsA; rw [if_neg h0, if_neg (by simp [hb])], by unfold prsX; rw [if_neg (by rw [e]; decide)]⟩
theorem prs_ok {x : List UInt8} (h0 : ¬ 3000 < x.length) (hb : (parB x).2.bad = false) (h : ¬ (24 < (parA x).1.length ∨ 40 < (parB x).1.length)) : prsE x = 0 ∧ prsA x = 0 ∧ prsX x = ⟨(parA x).1, (parB x).1⟩ := by
  have e : prsE x = 0 := by unfold prsE; rw [if_neg h0, if_neg (by simp [hb]), if_neg h]
  exact ⟨e, by unfold prsA; rw [if_neg h0, if_neg (by simp [hb])], by unfold prsX; rw [if_pos e]⟩
theorem prs_long {x : List UInt8} (h0 : 3000 < x.length) : prsE x = 2 ∧ prsA x = 0 ∧ prsX x = ⟨[], []⟩ := by
  have e : prsE x = 2 := by unfold prsE; rw [if_pos h0]
  exact ⟨e, by unfold prsA; rw [if_pos h0], by unfold prsX; rw [if_neg (by rw [e]; decide)]⟩

set_option maxRecDepth 100000 in
set_option maxHeartbeats 2000000 in
theorem Parse_any (s : ByteArray) (w : World) (hs : s.size ≤ 1000000) :
    Calls Tryz.prog 24 #[.string s] w (PrsPost (bytesOf s) w) := by
  obtain ⟨x, hx⟩ : ∃ x, bytesOf s = x := ⟨_, rfl⟩
  have HX := Lib.hid hx
  have hxl : x.length = s.size := by rw [← hx, bytesOf_len]
  have HXL := Lib.hid hxl
  rw [hx]
  clear hx hxl
  by_cases hbig : 3000 < s.size
  · have hd0 : decide ((3000 : Int) < s.size) = true := by simp; omega
    go_enter Tryz.func24, Tryz.ntmps24
    go_wp2_with fail
    obtain ⟨p1, p2, p3⟩ := prs_long (x := x) (by rw [HXL.out]; omega)
    have z1 : Cls w.heap.size 25 #[.slice none 0 0, .slice none 0 0] (w.alloc (.cells #[.slice none 0 0, .slice none 0 0] 25)) := Cls.new _ _ _
    exact prs_ret rfl (by rw [p1]; rfl) (by rw [p2]; rfl) z1 ⟨by rw [p3]; exact turnsAt_nil _, by rw [p3]; exact spansAt_nil _⟩ ((Ext.refl _).alloc _)
  · have hd0 : decide ((3000 : Int) < s.size) = false := by simp; omega
    obtain ⟨i0, hi0, hz0, hz1, hz2⟩ := info_parts infoTn
    obtain ⟨j0, hj0, hy0, hy1, hy2⟩ := info_parts infoSp
    go_enter Tryz.func24, Tryz.ntmps24
    go_wp2_with fail
    obtain ⟨W0, hW0⟩ : ∃ W0, (((w.alloc (.cells #[.slice none 0 0, .slice none 0 0] 25)).alloc (.cells #[.string s, .int .i64 0, .int .i64 (-1)] 105)).alloc (.cells #[.pointer (some ⟨w.heap.size + 1, 0, none⟩)] 103)).alloc (.cells #[.slice none 0 0, .slice none 0 0] 25) = W0 := ⟨_, rfl⟩
    obtain ⟨q0, q1, q2, q3, hx3, hzz⟩ := alloc4 (w1 := W0) (by rw [hW0]; exact Ext.refl _)
    have hps0 : PS w s ⟨0, false⟩ (.slice none 0 0) (.slice none 0 0) [] [] W0 := ⟨q1, q2, q3, q0, hx3, World.ownsRow_nil _ _ _ _, World.ownsRow_nil _ _ _ _, by omega⟩
    rw [hW0]
    clear hW0 q0 q1 q2 q3 hx3 hzz
    go_loopg [] (s.size + 1) (fun g wr => ∃ (k : Nat) (ts : List Tn) (r : Rd) (v : Value), Hid (parT x k ts r = parA x) ∧ remR x r ≤ k ∧ Hid (g = remR x r) ∧ r.at_ ≤ s.size ∧ ts.length + remR x r ≤ s.size + 1 ∧ Hid (PS w s r v (.slice none 0 0) ts [] wr))
    case atStart => exact ⟨s.size + 1, [], ⟨0, false⟩, _, Lib.hid (by rw [parA, HXL.out]), by simp [remR, HXL.out], Lib.hid (by simp [remR, HXL.out]), by simp, by simp [remR, HXL.out], Lib.hid hps0⟩
    case round =>
      obtain ⟨k, ts, r, v, HP, hk, HG, hat, htl, HS⟩ := hrel
      have hps := HS.out
      have e0 : wr.cell? ⟨w.heap.size + 1 + 1, 0, none⟩ = some (.pointer (some ⟨w.heap.size + 1, 0, none⟩)) := hps.pb.cell 0
      have c0 : wr.cell? ⟨w.heap.size + 1, 0, none⟩ = some (.string s) := Cls.cell hps.rd 0
      have c1 : wr.cell? ⟨w.heap.size + 1, 1, none⟩ = some (.int .i64 r.at_) := Cls.cell hps.rd 1
      clear hps
      have hlf : ∀ n, Calls Tryz.prog 59 #[.pointer (some ⟨w.heap.size + 1 + 1, 0, none⟩)] (wr.drewN n) fun e w' => e = .returned (.bool (leftR x r)) ∧ ∃ m, w' = (wr.drewN n).drewN m := fun n => by
        have := left_any _ _ s r _ (HS.out.drewN n).rd (HS.out.drewN n).pb hs hat
        rw [HX.out] at this
        exact this
      cases hl : leftR x r
      · have hgo : goT x r = false := by unfold goT; rw [hl]; rfl
        have hpa : parA x = (ts, r) := by rw [← HP.out]; cases k <;> simp [parT, hgo]
        have HPA := Lib.hid hpa
        clear hpa hgo
        rw [hl] at hlf
        have HL := Lib.hid hl
        have HLF := Lib.hid hlf
        clear hl hlf
        go_wp2_with fail
        go_quiet ((go_at_call 59; exact Calls.quiet_of (HLF.out _)))
        go_wp2_with fail
        obtain ⟨W9, rfl⟩ : ∃ W9 : World, W9 = wr := ⟨_, rfl⟩
        go_loopg [] (s.size + 1) (fun g wr => ∃ (k : Nat) (ss : List Sp) (r2 : Rd) (vb : Value), Hid (parS x k ss r2 = parB x) ∧ remR x r2 ≤ k ∧ Hid (remR x r2 ≤ g) ∧ r2.at_ ≤ s.size ∧ ss.length + remR x r2 ≤ s.size + 1 ∧ Hid (PS w s r2 v vb ts ss wr))
        case atStart => exact ⟨s.size + 1, [], r, _, Lib.hid (by rw [parB, HPA.out, HXL.out]), by have := HXL.out; unfold remR; split <;> omega, Lib.hid (by have := HXL.out; unfold remR; split <;> omega), hat, by have := HXL.out; simp; unfold remR; split <;> omega, Lib.hid (HS.out.drewN _)⟩
        case round =>
          obtain ⟨k2, ss, r2, vb, HP2, hk2, HG2, hat2, hsl, HS2⟩ := hrel
          have hlf2 : ∀ n, Calls Tryz.prog 59 #[.pointer (some ⟨w.heap.size + 1 + 1, 0, none⟩)] (wr.drewN n) fun e w' => e = .returned (.bool (leftR x r2)) ∧ ∃ m, w' = (wr.drewN n).drewN m := fun n => by
            have := left_any _ _ s r2 _ (HS2.out.drewN n).rd (HS2.out.drewN n).pb hs hat2
            rw [HX.out] at this
            exact this
          have e9 : wr.cell? ⟨w.heap.size + 1 + 1, 0, none⟩ = some (.pointer (some ⟨w.heap.size + 1, 0, none⟩)) := HS2.out.pb.cell 0
          cases hl2 : leftR x r2
          · have hpb : parB x = (ss, r2) := by rw [← HP2.out]; cases k2 <;> simp [parS, hl2]
            have HPB := Lib.hid hpb
            have hlf0 := hlf2 0
            rw [hl2] at hlf0
            have HLF2 := Lib.hid hlf0
            clear hlf2 hlf0 hl2 hpb
            have c2 : wr.cell? ⟨w.heap.size + 1, 2, none⟩ = some (.int .i64 (badI r2)) := Cls.cell HS2.out.rd 2
            have m0 : wr.cell? ⟨w.heap.size + 1 + 1 + 1, 0, none⟩ = some v := HS2.out.mn.cell 0
            have m1 : wr.cell? ⟨w.heap.size + 1 + 1 + 1, 1, none⟩ = some vb := HS2.out.mn.cell 1
            have n0 : wr.cell? ⟨w.heap.size, 0, none⟩ = some (.slice none 0 0) := HS2.out.rs.cell 0
            have n1 : wr.cell? ⟨w.heap.size, 1, none⟩ = some (.slice none 0 0) := HS2.out.rs.cell 1
            have f0 : wr.frozen? ⟨w.heap.size, 0, none⟩ = false := HS2.out.rs.frozen 0
            have f1 : wr.frozen? ⟨w.heap.size, 1, none⟩ = false := HS2.out.rs.frozen 1
            obtain ⟨A1, cc1, hv1⟩ := RowT.form HS2.out.rt
            obtain ⟨A2, cc2, hv2⟩ := RowS.form HS2.out.rw_
            subst hv1 hv2
            cases hb : r2.bad
            · rw [badI_f hb] at c2
              have HB := Lib.hid hb
              clear hb
              by_cases hbigT : 24 < ts.length
              · have HH : 24 < ts.length ∨ 40 < ss.length := .inl hbigT
                go_wp2_with (go_at_call 59; refine (HLF2.out).mono ?_; rintro e w' ⟨rfl, m, rfl⟩)
                obtain ⟨p1, p2, p3⟩ := prs_big (x := x) (by rw [HXL.out]; omega) (by rw [HPB.out]; exact HB.out) (by rw [HPA.out, HPB.out]; exact HH)
                obtain ⟨z1, z2, z3, z4⟩ := (HS2.out.drewN m).fin (.slice none 0 0) (.slice none 0 0)
                exact prs_ret rfl (by rw [p1]; rfl) (by rw [p2]; rfl) z1 ⟨by rw [p3]; exact turnsAt_nil _, by rw [p3]; exact spansAt_nil _⟩ z4
              · by_cases hbigS : 40 < ss.length
                · have HH : 24 < ts.length ∨ 40 < ss.length := .inr hbigS
                  go_wp2_with (go_at_call 59; refine (HLF2.out).mono ?_; rintro e w' ⟨rfl, m, rfl⟩)
                  obtain ⟨p1, p2, p3⟩ := prs_big (x := x) (by rw [HXL.out]; omega) (by rw [HPB.out]; exact HB.out) (by rw [HPA.out, HPB.out]; exact HH)
                  obtain ⟨z1, z2, z3, z4⟩ := (HS2.out.drewN m).fin (.slice none 0 0) (.slice none 0 0)
                  exact prs_ret rfl (by rw [p1]; rfl) (by rw [p2]; rfl) z1 ⟨by rw [p3]; exact turnsAt_nil _, by rw [p3]; exact spansAt_nil _⟩ z4
                · have HH : ¬ (24 < ts.length ∨ 40 < ss.length) := by omega
                  go_wp2_with (go_at_call 59; refine (HLF2.out).mono ?_; rintro e w' ⟨rfl, m, rfl⟩)
                  obtain ⟨p1, p2, p3⟩ := prs_ok (x := x) (by rw [HXL.out]; omega) (by rw [HPB.out]; exact HB.out) (by rw [HPA.out, HPB.out]; exact HH)
                  obtain ⟨z1, z2, z3, z4⟩ := (HS2.out.drewN m).fin (.slice A1 ts.length cc1) (.slice A2 ss.length cc2)
                  exact prs_ret rfl (by rw [p1]; rfl) (by rw [p2]; rfl) z1 ⟨by rw [p3, HPA.out]; exact z2, by rw [p3, HPB.out]; exact z3⟩ z4
            · rw [badI_t hb] at c2
              have HB := Lib.hid hb
              clear hb
              go_wp2_with (go_at_call 59; refine (HLF2.out).mono ?_; rintro e w' ⟨rfl, m, rfl⟩)
              go_region
              all_goals
                obtain ⟨p1, p2, p3⟩ := prs_bad (x := x) (by rw [HXL.out]; omega) (by rw [HPB.out]; exact HB.out)
                obtain ⟨z1, z2, z3, z4⟩ := (HS2.out.drewN (m + 1)).fin (.slice none 0 0) (.slice none 0 0)
                rw [HPB.out] at p2
                go_wp2_with fail
                exact prs_ret rfl (by rw [p1]; rfl) (by rw [p2]; rfl) z1 ⟨by rw [p3]; exact turnsAt_nil _, by rw [p3]; exact spansAt_nil _⟩ z4
          · have hrem2 := rem_span hl2
            obtain ⟨k', rfl⟩ : ∃ k', k2 = k' + 1 := ⟨k2 - 1, by
              have : 1 ≤ remR x r2 := by omega
              omega⟩
            have hnx : parS x k' (ss ++ [(spanR x r2).1]) (spanR x r2).2 = parB x := by
              have := HP2.out
              simp only [parS, hl2, if_true] at this
              exact this
            have hlf0 := hlf2 0
            rw [hl2] at hlf0
            have HLF2 := Lib.hid hlf0
            obtain ⟨T, hT⟩ : ∃ T, spanR x r2 = T := ⟨_, rfl⟩
            rw [hT] at hrem2 hnx
            have HT := Lib.hid hT
            have HNX := Lib.hid hnx
            have m1 : wr.cell? ⟨w.heap.size + 1 + 1 + 1, 1, none⟩ = some vb := HS2.out.mn.cell 1
            obtain ⟨A, cc, hvb⟩ := RowS.form HS2.out.rw_
            have hss : ss.length ≤ 1000001 := by omega
            subst hvb
            clear hlf2 hlf0 hl2 hnx hT
            go_wp2_with (go_at_call 59; refine (HLF2.out).mono ?_; rintro e w' ⟨rfl, m, rfl⟩)
            have hrd := HS2.out.rd
            go_region_law (first
              | (refine step_append_lies _ (by rfl) _ _ _ (by rfl) (w.heap.size + 4) 45 j0 _ 2 16 undSp hj0 hy0 hy1 hy2 rfl (by omega) _ ss.length (cellsS ss) (by rfl) (World.ownsRow.alloc hps4.rw_ _) ⟨w4.heap.size, 0, none⟩ 1 1 [.int .i64 T.1.lo, .int .i64 T.1.hi] (by rfl) (by rfl) (cell_two_new _ _ _ _) (by simp [Value.oneCell']) (by omega) (by unfold maxLen; omega) (by omega) (by have := hps4.sz; simp; omega) _ rfl ?_; intro gg cap w5 hown5 hgrow5 hat5 hlt5; obtain ⟨hm5, hps5⟩ := PS.addS (t := T.1) hps4 rfl hgrow5 hown5; have hm5a := hm5.cell 1; have hm5f := hm5.frozen 1; simp only [List.getElem?_toArray, List.getElem?_cons_zero, List.getElem?_cons_succ] at hm5a)
              | (go_simp; go_at_call 61; refine (rdSpan_any _ s r2 _ (by exact hrd) hs hat2).mono ?_; rw [HX.out, HT.out]; rintro e w4 ⟨rfl, hR4, hg4⟩; have hps4 := PS.read2 HS2.out hR4 hg4 ⟨rfl, rfl, rfl, rfl⟩; have hm4 := hps4.mn.cell 1; have hm4' := (hps4.mn.ext (W' := w4.alloc (.cells #[.int .i64 T.1.lo, .int .i64 T.1.hi] 45)) ((Ext.refl _).alloc _)).cell 1; simp only [List.getElem?_toArray, List.getElem?_cons_zero, List.getElem?_cons_succ] at hm4 hm4'))
            all_goals
              have hxl := HXL.out
              have HPS5 := Lib.hid hps5
              clear hps5 hps4 hm5 hm5a hm5f hm4 hm4'
              go_wp2_with fail
              go_roundg (remR x T.2)
              case measure => have := HG2.out; omega
              case rel => exact ⟨k', ss ++ [T.1], T.2, _, HNX, by omega, Lib.hid (by omega), by omega, by simp; omega, HPS5⟩
      · have hlt : r.at_ < s.size := by
          simp only [leftR, Bool.and_eq_true, decide_eq_true_eq] at hl
          have := HXL.out
          omega
        have hrb : r.bad = false := by simp only [leftR, Bool.and_eq_true, Bool.not_eq_true'] at hl; exact hl.1
        have hrem := rem_turn hl
        have hl1 : decide ((r.at_ : Int) < (s.size : Int)) = true := by simp; omega
        have hget := bytesOf_get hlt
        rw [HX.out] at hget
        rw [hl] at hlf
        cases hq : ((s[r.at_].toNat : Int) != 98)
        · have hgo : goT x r = false := by
            have h98 : s[r.at_] = 98 := by
              rw [bne_eq_false_iff_eq] at hq
              exact UInt8.toNat_inj.1 (by have : (98 : UInt8).toNat = 98 := rfl; omega)
            unfold goT
            rw [hl, hget, h98]
            rfl
          have hpa : parA x = (ts, r) := by rw [← HP.out]; cases k <;> simp [parT, hgo]
          have HPA := Lib.hid hpa
          have HLF := Lib.hid hlf
          clear hpa hgo hl hlf hget hrb hrem
          go_wp2_with fail
          go_quiet ((go_at_call 59; exact Calls.quiet_of (HLF.out _)))
          go_wp2_with fail
          obtain ⟨W9, rfl⟩ : ∃ W9 : World, W9 = wr := ⟨_, rfl⟩
          go_loopg [] (s.size + 1) (fun g wr => ∃ (k : Nat) (ss : List Sp) (r2 : Rd) (vb : Value), Hid (parS x k ss r2 = parB x) ∧ remR x r2 ≤ k ∧ Hid (remR x r2 ≤ g) ∧ r2.at_ ≤ s.size ∧ ss.length + remR x r2 ≤ s.size + 1 ∧ Hid (PS w s r2 v vb ts ss wr))
          case atStart => exact ⟨s.size + 1, [], r, _, Lib.hid (by rw [parB, HPA.out, HXL.out]), by have := HXL.out; unfold remR; split <;> omega, Lib.hid (by have := HXL.out; unfold remR; split <;> omega), hat, by have := HXL.out; simp; unfold remR; split <;> omega, Lib.hid (HS.out.drewN _)⟩
          case round =>
            obtain ⟨k2, ss, r2, vb, HP2, hk2, HG2, hat2, hsl, HS2⟩ := hrel
            have hlf2 : ∀ n, Calls Tryz.prog 59 #[.pointer (some ⟨w.heap.size + 1 + 1, 0, none⟩)] (wr.drewN n) fun e w' => e = .returned (.bool (leftR x r2)) ∧ ∃ m, w' = (wr.drewN n).drewN m := fun n => by
              have := left_any _ _ s r2 _ (HS2.out.drewN n).rd (HS2.out.drewN n).pb hs hat2
              rw [HX.out] at this
              exact this
            have e9 : wr.cell? ⟨w.heap.size + 1 + 1, 0, none⟩ = some (.pointer (some ⟨w.heap.size + 1, 0, none⟩)) := HS2.out.pb.cell 0
            cases hl2 : leftR x r2
            · have hpb : parB x = (ss, r2) := by rw [← HP2.out]; cases k2 <;> simp [parS, hl2]
              have HPB := Lib.hid hpb
              have hlf0 := hlf2 0
              rw [hl2] at hlf0
              have HLF2 := Lib.hid hlf0
              clear hlf2 hlf0 hl2 hpb
              have c2 : wr.cell? ⟨w.heap.size + 1, 2, none⟩ = some (.int .i64 (badI r2)) := Cls.cell HS2.out.rd 2
              have m0 : wr.cell? ⟨w.heap.size + 1 + 1 + 1, 0, none⟩ = some v := HS2.out.mn.cell 0
              have m1 : wr.cell? ⟨w.heap.size + 1 + 1 + 1, 1, none⟩ = some vb := HS2.out.mn.cell 1
              have n0 : wr.cell? ⟨w.heap.size, 0, none⟩ = some (.slice none 0 0) := HS2.out.rs.cell 0
              have n1 : wr.cell? ⟨w.heap.size, 1, none⟩ = some (.slice none 0 0) := HS2.out.rs.cell 1
              have f0 : wr.frozen? ⟨w.heap.size, 0, none⟩ = false := HS2.out.rs.frozen 0
              have f1 : wr.frozen? ⟨w.heap.size, 1, none⟩ = false := HS2.out.rs.frozen 1
              obtain ⟨A1, cc1, hv1⟩ := RowT.form HS2.out.rt
              obtain ⟨A2, cc2, hv2⟩ := RowS.form HS2.out.rw_
              subst hv1 hv2
              cases hb : r2.bad
              · rw [badI_f hb] at c2
                have HB := Lib.hid hb
                clear hb
                by_cases hbigT : 24 < ts.length
                · have HH : 24 < ts.length ∨ 40 < ss.length := .inl hbigT
                  go_wp2_with (go_at_call 59; refine (HLF2.out).mono ?_; rintro e w' ⟨rfl, m, rfl⟩)
                  obtain ⟨p1, p2, p3⟩ := prs_big (x := x) (by rw [HXL.out]; omega) (by rw [HPB.out]; exact HB.out) (by rw [HPA.out, HPB.out]; exact HH)
                  obtain ⟨z1, z2, z3, z4⟩ := (HS2.out.drewN m).fin (.slice none 0 0) (.slice none 0 0)
                  exact prs_ret rfl (by rw [p1]; rfl) (by rw [p2]; rfl) z1 ⟨by rw [p3]; exact turnsAt_nil _, by rw [p3]; exact spansAt_nil _⟩ z4
                · by_cases hbigS : 40 < ss.length
                  · have HH : 24 < ts.length ∨ 40 < ss.length := .inr hbigS
                    go_wp2_with (go_at_call 59; refine (HLF2.out).mono ?_; rintro e w' ⟨rfl, m, rfl⟩)
                    obtain ⟨p1, p2, p3⟩ := prs_big (x := x) (by rw [HXL.out]; omega) (by rw [HPB.out]; exact HB.out) (by rw [HPA.out, HPB.out]; exact HH)
                    obtain ⟨z1, z2, z3, z4⟩ := (HS2.out.drewN m).fin (.slice none 0 0) (.slice none 0 0)
                    exact prs_ret rfl (by rw [p1]; rfl) (by rw [p2]; rfl) z1 ⟨by rw [p3]; exact turnsAt_nil _, by rw [p3]; exact spansAt_nil _⟩ z4
                  · have HH : ¬ (24 < ts.length ∨ 40 < ss.length) := by omega
                    go_wp2_with (go_at_call 59; refine (HLF2.out).mono ?_; rintro e w' ⟨rfl, m, rfl⟩)
                    obtain ⟨p1, p2, p3⟩ := prs_ok (x := x) (by rw [HXL.out]; omega) (by rw [HPB.out]; exact HB.out) (by rw [HPA.out, HPB.out]; exact HH)
                    obtain ⟨z1, z2, z3, z4⟩ := (HS2.out.drewN m).fin (.slice A1 ts.length cc1) (.slice A2 ss.length cc2)
                    exact prs_ret rfl (by rw [p1]; rfl) (by rw [p2]; rfl) z1 ⟨by rw [p3, HPA.out]; exact z2, by rw [p3, HPB.out]; exact z3⟩ z4
              · rw [badI_t hb] at c2
                have HB := Lib.hid hb
                clear hb
                go_wp2_with (go_at_call 59; refine (HLF2.out).mono ?_; rintro e w' ⟨rfl, m, rfl⟩)
                go_region
                all_goals
                  obtain ⟨p1, p2, p3⟩ := prs_bad (x := x) (by rw [HXL.out]; omega) (by rw [HPB.out]; exact HB.out)
                  obtain ⟨z1, z2, z3, z4⟩ := (HS2.out.drewN (m + 1)).fin (.slice none 0 0) (.slice none 0 0)
                  rw [HPB.out] at p2
                  go_wp2_with fail
                  exact prs_ret rfl (by rw [p1]; rfl) (by rw [p2]; rfl) z1 ⟨by rw [p3]; exact turnsAt_nil _, by rw [p3]; exact spansAt_nil _⟩ z4
            · have hrem2 := rem_span hl2
              obtain ⟨k', rfl⟩ : ∃ k', k2 = k' + 1 := ⟨k2 - 1, by
                have : 1 ≤ remR x r2 := by omega
                omega⟩
              have hnx : parS x k' (ss ++ [(spanR x r2).1]) (spanR x r2).2 = parB x := by
                have := HP2.out
                simp only [parS, hl2, if_true] at this
                exact this
              have hlf0 := hlf2 0
              rw [hl2] at hlf0
              have HLF2 := Lib.hid hlf0
              obtain ⟨T, hT⟩ : ∃ T, spanR x r2 = T := ⟨_, rfl⟩
              rw [hT] at hrem2 hnx
              have HT := Lib.hid hT
              have HNX := Lib.hid hnx
              have m1 : wr.cell? ⟨w.heap.size + 1 + 1 + 1, 1, none⟩ = some vb := HS2.out.mn.cell 1
              obtain ⟨A, cc, hvb⟩ := RowS.form HS2.out.rw_
              have hss : ss.length ≤ 1000001 := by omega
              subst hvb
              clear hlf2 hlf0 hl2 hnx hT
              go_wp2_with (go_at_call 59; refine (HLF2.out).mono ?_; rintro e w' ⟨rfl, m, rfl⟩)
              have hrd := HS2.out.rd
              go_region_law (first
                | (refine step_append_lies _ (by rfl) _ _ _ (by rfl) (w.heap.size + 4) 45 j0 _ 2 16 undSp hj0 hy0 hy1 hy2 rfl (by omega) _ ss.length (cellsS ss) (by rfl) (World.ownsRow.alloc hps4.rw_ _) ⟨w4.heap.size, 0, none⟩ 1 1 [.int .i64 T.1.lo, .int .i64 T.1.hi] (by rfl) (by rfl) (cell_two_new _ _ _ _) (by simp [Value.oneCell']) (by omega) (by unfold maxLen; omega) (by omega) (by have := hps4.sz; simp; omega) _ rfl ?_; intro gg cap w5 hown5 hgrow5 hat5 hlt5; obtain ⟨hm5, hps5⟩ := PS.addS (t := T.1) hps4 rfl hgrow5 hown5; have hm5a := hm5.cell 1; have hm5f := hm5.frozen 1; simp only [List.getElem?_toArray, List.getElem?_cons_zero, List.getElem?_cons_succ] at hm5a)
                | (go_simp; go_at_call 61; refine (rdSpan_any _ s r2 _ (by exact hrd) hs hat2).mono ?_; rw [HX.out, HT.out]; rintro e w4 ⟨rfl, hR4, hg4⟩; have hps4 := PS.read2 HS2.out hR4 hg4 ⟨rfl, rfl, rfl, rfl⟩; have hm4 := hps4.mn.cell 1; have hm4' := (hps4.mn.ext (W' := w4.alloc (.cells #[.int .i64 T.1.lo, .int .i64 T.1.hi] 45)) ((Ext.refl _).alloc _)).cell 1; simp only [List.getElem?_toArray, List.getElem?_cons_zero, List.getElem?_cons_succ] at hm4 hm4'))
              all_goals
                have hxl := HXL.out
                have HPS5 := Lib.hid hps5
                clear hps5 hps4 hm5 hm5a hm5f hm4 hm4'
                go_wp2_with fail
                go_roundg (remR x T.2)
                case measure => have := HG2.out; omega
                case rel => exact ⟨k', ss ++ [T.1], T.2, _, HNX, by omega, Lib.hid (by omega), by omega, by simp; omega, HPS5⟩
        · have hgo : goT x r = true := by
            unfold goT
            rw [hl, hget]
            simp only [Bool.true_and, Bool.not_eq_true']
            rw [beq_eq_false_iff_ne]
            intro h
            rw [Option.some.inj h] at hq
            simp at hq
          obtain ⟨k', rfl⟩ : ∃ k', k = k' + 1 := ⟨k - 1, by
            have : 1 ≤ remR x r := by omega
            omega⟩
          have hnx : parT x k' (ts ++ [(turnR x r).1]) (turnR x r).2 = parA x := by
            have := HP.out
            simp only [parT, hgo, if_true] at this
            exact this
          have HL := Lib.hid hl
          have HLF := Lib.hid hlf
          have HNX := Lib.hid hnx
          have HGT := Lib.hid hget
          have m0 : wr.cell? ⟨w.heap.size + 1 + 1 + 1, 0, none⟩ = some v := HS.out.mn.cell 0
          obtain ⟨A, cc, hv⟩ := RowT.form HS.out.rt
          have hts : ts.length ≤ 1000001 := by omega
          subst hv
          obtain ⟨T, hT⟩ : ∃ T, turnR x r = T := ⟨_, rfl⟩
          rw [hT] at hrem
          have HT := Lib.hid hT
          clear hl hlf hnx hget hrb hgo hT
          go_wp2_with fail
          go_quiet ((go_at_call 59; exact Calls.quiet_of (HLF.out _)))
          go_wp2_with fail
          have hrd := HS.out.rd
          go_region_law (first
            | (refine step_append_lies _ (by rfl) _ _ _ (by rfl) (w.heap.size + 4) 42 i0 _ 3 24 undTn hi0 hz0 hz1 hz2 rfl (by omega) _ ts.length (cellsT ts) (by rfl) (World.ownsRow.alloc hps4.rt _) ⟨w4.heap.size, 0, none⟩ 1 1 [.int .i64 T.1.p, .int .i64 T.1.f, .int .i64 T.1.l] (by rfl) (by rfl) (cell_three_new _ _ _ _ _) (by simp [Value.oneCell']) (by omega) (by unfold maxLen; omega) (by omega) (by have := hps4.sz; simp; omega) _ rfl ?_; intro gg cap w5 hown5 hgrow5 hat5 hlt5; obtain ⟨hm5, hps5⟩ := PS.addT (t := T.1) hps4 rfl hgrow5 hown5; have hm5a := hm5.cell 0; have hm5f := hm5.frozen 0; simp only [List.getElem?_toArray, List.getElem?_cons_zero] at hm5a)
            | (go_simp; go_at_call 60; refine (rdTurn_any _ s r _ (by exact hrd) hs hat).mono ?_; rw [HX.out, HT.out]; rintro e w4 ⟨rfl, hR4, hg4⟩; have hps4 := PS.read2 HS.out hR4 hg4 ⟨rfl, rfl, rfl, rfl⟩; have hm4 := hps4.mn.cell 0; have hm4' := (hps4.mn.ext (W' := w4.alloc (.cells #[.int .i64 T.1.p, .int .i64 T.1.f, .int .i64 T.1.l] 42)) ((Ext.refl _).alloc _)).cell 0; simp only [List.getElem?_toArray, List.getElem?_cons_zero] at hm4 hm4'))
          all_goals
            have hxl := HXL.out
            have hnx2 := HNX.out
            rw [HT.out] at hnx2
            have HNX2 := Lib.hid hnx2
            have HPS5 := Lib.hid hps5
            clear hnx2 hps5 hps4 hm5 hm5a hm5f hm4 hm4'
            go_wp2_with fail
            go_roundg (remR x T.2)
            case measure => have := HG.out; omega
            case rel => exact ⟨k', ts ++ [T.1], T.2, _, HNX2, by omega, Lib.hid rfl, by omega, by simp; omega, HPS5⟩

end Go.Proofs.YtejcmdoalhnpeaaGreatDoor
