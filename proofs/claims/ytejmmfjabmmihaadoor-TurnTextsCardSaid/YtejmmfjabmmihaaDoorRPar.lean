/- Parse of the specification. -/
import Derived.Test.YtejmmfjabmmihaaDoorRNum
import Derived.Test.YtejmmfjabmmihaaDoorParse
import Derived.Test.YtejmmfjabmmihaaDoorDig
namespace Go.Proofs.YtejmmfjabmmihaaDoor
open Go.RowKit Go.Shelf

def turnQ (x : List UInt8) (r : Rd) : Tn :=
  let r1 := wordR x [101, 118, 101, 114, 121, 32] r
  let a := numQ x 1 40320 r1
  let r2 := (numR x 1 40320 r1).2
  let r3 := wordR x [32, 102, 114, 111, 109, 32] r2
  let b := numQ x 0 (a - 1) r3
  let r4 := (numR x 0 (a - 1) r3).2
  let r5 := wordR x [32, 102, 111, 114, 32] r4
  ⟨a, b, numQ x 1 a r5⟩
def spanQ (x : List UInt8) (r : Rd) : Sp :=
  let r1 := wordR x [98, 101, 116, 119, 101, 101, 110, 32] r
  let a := numQ x 0 1048576 r1
  let r2 := (numR x 0 1048576 r1).2
  let r3 := wordR x [32, 97, 110, 100, 32] r2
  ⟨a, numQ x a 1048576 r3⟩
theorem numQ_ok {x : List UInt8} {lo hi : Int} {r : Rd} (h : (numR x lo hi r).2.bad = false) : numQ x lo hi r = (numR x lo hi r).1 := by unfold numQ; rw [h]; rfl
theorem numQ_rng (x : List UInt8) (lo hi : Int) (r : Rd) : 0 ≤ numQ x lo hi r ∧ numQ x lo hi r ≤ max 0 hi := by
  obtain ⟨_, _, h1, h2⟩ := numR_mono x lo hi r
  unfold numQ
  split
  · omega
  · exact ⟨h1, h2⟩
/-- the reader goes on from a number alike, whether it was 0 for a fault or not -/
theorem num_any (x : List UInt8) (lo lo' hi hi' : Int) (w : List UInt8) (r : Rd) (h : r.bad = true) : numR x lo hi (wordR x w r) = (0, r) ∧ numR x lo' hi' (wordR x w r) = (0, r) := by
  rw [wordR_bad x w r h]
  exact ⟨numR_bad x lo hi r h, numR_bad x lo' hi' r h⟩
/-- where the specification's reader stands behind a turn -/
def turnQr (x : List UInt8) (r : Rd) : Rd :=
  let r1 := wordR x [101, 118, 101, 114, 121, 32] r
  let a := numQ x 1 40320 r1
  let r2 := (numR x 1 40320 r1).2
  let r3 := wordR x [32, 102, 114, 111, 109, 32] r2
  let r4 := (numR x 0 (a - 1) r3).2
  let r5 := wordR x [32, 102, 111, 114, 32] r4
  wordR x [59, 10] (numR x 1 a r5).2
def spanQr (x : List UInt8) (r : Rd) : Rd :=
  let r1 := wordR x [98, 101, 116, 119, 101, 101, 110, 32] r
  let a := numQ x 0 1048576 r1
  let r2 := (numR x 0 1048576 r1).2
  let r3 := wordR x [32, 97, 110, 100, 32] r2
  wordR x [59, 10] (numR x a 1048576 r3).2
theorem word_ok {x w : List UInt8} {r : Rd} (h : (wordR x w r).bad = false) : r.bad = false := by
  cases hb : r.bad
  · rfl
  · rw [wordR_bad x w r hb, hb] at h; cases h
theorem turnQ_eq (x : List UInt8) (r : Rd) : turnQr x r = (turnR x r).2 ∧ ((turnR x r).2.bad = false → turnQ x r = (turnR x r).1) := by
  simp only [turnQ, turnQr, turnR]
  generalize wordR x [101, 118, 101, 114, 121, 32] r = r1
  cases h1 : (numR x 1 40320 r1).2.bad
  · rw [numQ_ok h1]
    generalize numR x 1 40320 r1 = a
    refine ⟨rfl, fun hb => ?_⟩
    have g3 := numR_ok (word_ok hb)
    have g2 := word_ok g3
    have g3' := word_ok hb
    rw [numQ_ok g3', numQ_ok g2]
  · generalize numQ x 1 40320 r1 = q
    generalize numR x 1 40320 r1 = a at *
    rw [wordR_bad _ _ _ h1, numR_bad _ _ _ _ h1, numR_bad _ _ _ _ h1]
    simp only
    rw [wordR_bad _ _ _ h1, numR_bad _ _ _ _ h1, numR_bad _ _ _ _ h1]
    simp only
    rw [wordR_bad _ _ _ h1]
    exact ⟨trivial, fun hb => by rw [h1] at hb; cases hb⟩
theorem spanQ_eq (x : List UInt8) (r : Rd) : spanQr x r = (spanR x r).2 ∧ ((spanR x r).2.bad = false → spanQ x r = (spanR x r).1) := by
  simp only [spanQ, spanQr, spanR]
  generalize wordR x [98, 101, 116, 119, 101, 101, 110, 32] r = r1
  cases h1 : (numR x 0 1048576 r1).2.bad
  · rw [numQ_ok h1]
    generalize numR x 0 1048576 r1 = a
    refine ⟨rfl, fun hb => ?_⟩
    rw [numQ_ok (word_ok hb)]
  · generalize numQ x 0 1048576 r1 = q
    generalize numR x 0 1048576 r1 = a at *
    rw [wordR_bad _ _ _ h1, numR_bad _ _ _ _ h1, numR_bad _ _ _ _ h1]
    simp only
    rw [wordR_bad _ _ _ h1]
    exact ⟨trivial, fun hb => by rw [h1] at hb; cases hb⟩

theorem left_t {x : List UInt8} {r : Rd} (hb : r.bad = false) (h : r.at_ < x.length) : leftR x r = true := by simp [leftR, hb, h]
theorem left_bad {x : List UInt8} {r : Rd} (hb : r.bad = true) : leftR x r = false := by simp [leftR, hb]
theorem left_end {x : List UInt8} {r : Rd} (h : ¬ r.at_ < x.length) : leftR x r = false := by simp [leftR]; intro _; omega
theorem goT_left {x : List UInt8} {r : Rd} (h : leftR x r = false) : goT x r = false := by simp [goT, h]
theorem parT_end {x : List UInt8} {k : Nat} {ts : List Tn} {r : Rd} (h : goT x r = false) : parT x k ts r = (ts, r) := by cases k <;> simp [parT, h]
theorem parS_end {x : List UInt8} {k : Nat} {ss : List Sp} {r : Rd} (h : leftR x r = false) : parS x k ss r = (ss, r) := by cases k <;> simp [parS, h]
theorem parB_bad {x : List UInt8} {r : Rd} (h : (parA x).2 = r) (hb : r.bad = true) : (parB x).2 = r := by unfold parB; rw [h, parS_end (left_bad hb)]
theorem turnR_no {x : List UInt8} {r : Rd} (hb : r.bad = false) (h : x[r.at_]? ≠ some 101) : (turnR x r).2 = ⟨r.at_, true⟩ := by
  have e : ∀ lo hi, numR x lo hi ⟨r.at_, true⟩ = (0, ⟨r.at_, true⟩) := fun lo hi => numR_bad _ _ _ _ rfl
  have e2 : ∀ w, wordR x w ⟨r.at_, true⟩ = ⟨r.at_, true⟩ := fun w => wordR_bad _ _ _ rfl
  simp only [turnR, wordR_stop hb h, e, e2]
theorem spanR_no {x : List UInt8} {r : Rd} (hb : r.bad = false) (h : x[r.at_]? ≠ some 98) : (spanR x r).2 = ⟨r.at_, true⟩ := by
  have e : ∀ lo hi, numR x lo hi ⟨r.at_, true⟩ = (0, ⟨r.at_, true⟩) := fun lo hi => numR_bad _ _ _ _ rfl
  have e2 : ∀ w, wordR x w ⟨r.at_, true⟩ = ⟨r.at_, true⟩ := fun w => wordR_bad _ _ _ rfl
  simp only [spanR, wordR_stop hb h, e, e2]
/-- where the specification's parser stands -/
inductive PI (x : List UInt8) (ts : List Tn) (ss : List Sp) (r : Rd) : Prop where
  | bad (h : r.bad = true) (h1 : (parB x).2 = r)
  | turns (h : r.bad = false) (h1 : ss = []) (k : Nat) (h2 : parT x k ts r = parA x) (h3 : remR x r ≤ k)
  | spans (h : r.bad = false) (h1 : ss ≠ []) (k : Nat) (rA : Rd) (h2 : parA x = (ts, rA)) (h3 : parS x k ss r = parB x) (h4 : remR x r ≤ k)
theorem PI.start (x : List UInt8) : PI x [] [] ⟨0, false⟩ := .turns rfl rfl (x.length + 1) rfl (by simp [remR])
theorem rem_pos {x : List UInt8} {r : Rd} (hb : r.bad = false) (h : r.at_ < x.length) : 1 ≤ remR x r := by simp [remR, hb]; omega
theorem PI.turn {x : List UInt8} {ts : List Tn} {r : Rd} (h : PI x ts [] r) (hb : r.bad = false) (hl : r.at_ < x.length) (hc : x[r.at_]? = some 101) : PI x (ts ++ [turnQ x r]) [] (turnR x r).2 := by
  have hle := left_t hb hl
  obtain ⟨q1, q2⟩ := rem_turn hle
  have hp := rem_pos hb hl
  have hgo : goT x r = true := by unfold goT; rw [hle, hc]; rfl
  rcases h with ⟨h, _⟩ | ⟨_, _, k, h2, h3⟩ | ⟨_, h1, _⟩
  · rw [hb] at h; cases h
  · obtain ⟨k', rfl⟩ : ∃ k', k = k' + 1 := ⟨k - 1, by omega⟩
    simp only [parT, hgo, if_true] at h2
    cases hb2 : (turnR x r).2.bad
    · refine .turns hb2 rfl k' ?_ (by omega)
      rw [(turnQ_eq x r).2 hb2]; exact h2
    · rw [parT_end (goT_left (left_bad hb2))] at h2
      exact .bad hb2 (parB_bad (by rw [← h2]) hb2)
  · exact absurd rfl h1
theorem PI.span {x : List UInt8} {ts : List Tn} {ss : List Sp} {r : Rd} (h : PI x ts ss r) (hb : r.bad = false) (hl : r.at_ < x.length) (hc : ¬ (x[r.at_]? = some 101 ∧ ss = [])) : PI x ts (ss ++ [spanQ x r]) (spanR x r).2 := by
  have hle := left_t hb hl
  obtain ⟨q1, q2⟩ := rem_span hle
  have hp := rem_pos hb hl
  have hlen : remR x r ≤ x.length + 1 := by unfold remR; split <;> omega
  rcases h with ⟨h, _⟩ | ⟨_, h1, k, h2, h3⟩ | ⟨_, h1, k, rA, h2, h3, h4⟩
  · rw [hb] at h; cases h
  · subst h1
    have h101 : x[r.at_]? ≠ some 101 := fun e => hc ⟨e, rfl⟩
    by_cases h98 : x[r.at_]? = some 98
    · have hgo : goT x r = false := by unfold goT; rw [hle, h98]; rfl
      rw [parT_end hgo] at h2
      have hB : parS x x.length ([] ++ [(spanR x r).1]) (spanR x r).2 = parB x := by
        unfold parB
        rw [← h2]
        simp only [parS, hle, if_true]
      cases hb2 : (spanR x r).2.bad
      · refine .spans hb2 (by simp) x.length r h2.symm ?_ (by omega)
        rw [(spanQ_eq x r).2 hb2]; exact hB
      · rw [parS_end (left_bad hb2)] at hB
        exact .bad hb2 (by rw [← hB])
    · have hgo : goT x r = true := by
        unfold goT
        rw [hle, Bool.true_and]
        rw [Bool.not_eq_true', beq_eq_false_iff_ne]
        exact h98
      obtain ⟨k', rfl⟩ : ∃ k', k = k' + 1 := ⟨k - 1, by omega⟩
      simp only [parT, hgo, if_true] at h2
      have e1 := turnR_no hb h101
      have e2 := spanR_no hb h98
      rw [e1, parT_end (goT_left (left_bad rfl))] at h2
      rw [e2]
      exact .bad rfl (parB_bad (by rw [← h2]) rfl)
  · obtain ⟨k', rfl⟩ : ∃ k', k = k' + 1 := ⟨k - 1, by omega⟩
    simp only [parS, hle, if_true] at h3
    cases hb2 : (spanR x r).2.bad
    · refine .spans hb2 (by simp) k' rA h2 ?_ (by omega)
      rw [(spanQ_eq x r).2 hb2]; exact h3
    · rw [parS_end (left_bad hb2)] at h3
      exact .bad hb2 (by rw [← h3])
theorem PI.stopBad {x : List UInt8} {ts : List Tn} {ss : List Sp} {r : Rd} (h : PI x ts ss r) (hb : r.bad = true) : (parB x).2 = r := by
  rcases h with ⟨_, h1⟩ | ⟨h, _⟩ | ⟨h, _⟩
  · exact h1
  · rw [hb] at h; cases h
  · rw [hb] at h; cases h
theorem PI.stopEnd {x : List UInt8} {ts : List Tn} {ss : List Sp} {r : Rd} (h : PI x ts ss r) (hb : r.bad = false) (hl : ¬ r.at_ < x.length) : (parA x).1 = ts ∧ parB x = (ss, r) := by
  have hle := left_end (x := x) hl
  rcases h with ⟨h, _⟩ | ⟨_, h1, k, h2, _⟩ | ⟨_, _, k, rA, h2, h3, _⟩
  · rw [hb] at h; cases h
  · subst h1
    rw [parT_end (goT_left hle)] at h2
    refine ⟨by rw [← h2], ?_⟩
    unfold parB
    rw [← h2, parS_end hle]
  · rw [parS_end hle] at h3
    exact ⟨by rw [h2], h3.symm⟩

/-- what the specification's Parse leaves -/
def RPrsPost (x : List UInt8) (w : World) (e : Ending) (w' : World) : Prop :=
  ∃ va vb, e = .returned (.agg #[va, vb, .int .i64 (prsE x), .int .i64 (prsA x)]) ∧ MinsAt w' va vb (prsX x) ∧ Ext w w'
/-- its memory between two rounds, but for the reader -/
structure QS (w : World) (v vb : Value) (ts : List Tn) (ss : List Sp) (W : World) : Prop where
  mn : Cls (w.heap.size + 1 + 1) 34 #[v, vb] W
  rs : Cls w.heap.size 40 #[.slice none 0 0, .slice none 0 0, .int .i64 0, .int .i64 0] W
  ex : Ext w W
  rt : RowT (w.heap.size + 3) v ts W
  rw_ : RowS (w.heap.size + 3) vb ss W
  sz : w.heap.size + 3 ≤ W.heap.size
theorem QS.read {w : World} {v vb : Value} {ts : List Tn} {ss : List Sp} {W W' : World} (h : QS w v vb ts ss W) (hg : W.grownBy W' (some (w.heap.size + 1))) : QS w v vb ts ss W' :=
  ⟨h.mn.kept hg (by simp), h.rs.kept hg (by simp), h.ex.grown hg (by omega), World.ownsRow.kept h.rt hg (.inr (own_ge h.rt (by omega)).symm), World.ownsRow.kept h.rw_ hg (.inr (own_ge h.rw_ (by omega)).symm), Nat.le_trans h.sz hg.size⟩
theorem QS.sep {w : World} {v vb : Value} {ts : List Tn} {ss : List Sp} {W : World} (h : QS w v vb ts ss W) : (v.ownBlock = none ∨ vb.ownBlock ≠ v.ownBlock) ∧ (vb.ownBlock = none ∨ v.ownBlock ≠ vb.ownBlock) := by
  constructor
  · rcases h.rt.2 with ⟨rfl, _⟩ | ⟨g, cap, cur, rfl, _, hgb, _⟩
    · exact .inl rfl
    · right
      intro e
      rcases h.rw_.2 with ⟨rfl, _⟩ | ⟨g', cap', cur', rfl, _, hgb', _⟩
      · simp [Value.ownBlock] at e
      · simp only [Value.ownBlock, Option.some.injEq] at e
        subst e
        rw [hgb] at hgb'
        cases hgb'
  · rcases h.rw_.2 with ⟨rfl, _⟩ | ⟨g, cap, cur, rfl, _, hgb, _⟩
    · exact .inl rfl
    · right
      intro e
      rcases h.rt.2 with ⟨rfl, _⟩ | ⟨g', cap', cur', rfl, _, hgb', _⟩
      · simp [Value.ownBlock] at e
      · simp only [Value.ownBlock, Option.some.injEq] at e
        subst e
        rw [hgb] at hgb'
        cases hgb'
theorem kept_row {W1 W' : World} {v vb : Value} {base : Nat} {e : TypeId} {size n : Nat} {xs : List Value} (ho : W1.ownsRow base e size vb n xs) (hg : W1.grownBy W' v.ownBlock) (h : v.ownBlock = none ∨ vb.ownBlock ≠ v.ownBlock) : W'.ownsRow base e size vb n xs := by
  refine World.ownsRow.kept ho hg ?_
  rcases h with e | e
  · cases hvb : vb.ownBlock with
    | none => exact .inl rfl
    | some b => right; rw [e]; simp
  · exact .inr e
theorem QS.addT {w : World} {s : ByteArray} {r : Rd} {v vb : Value} {ts : List Tn} {ss : List Sp} {t : Tn} {W W' : World} {v' : Value} {tmp : Obj} (h : QS w v vb ts ss W) (hR : RrAt (w.heap.size + 1) s r W) (hg : (W.alloc tmp).grownBy W' v.ownBlock) (ho : W'.ownsRow (w.heap.size + 3) 23 3 v' (ts.length + 1) (cellsT ts ++ [.int .i64 t.p, .int .i64 t.f, .int .i64 t.l])) :
    Cls (w.heap.size + 1 + 1) 34 #[v, vb] W' ∧ QS w v' vb (ts ++ [t]) ss (W'.setCell ⟨w.heap.size + 1 + 1, 0, none⟩ v') ∧ RrAt (w.heap.size + 1) s r (W'.setCell ⟨w.heap.size + 1 + 1, 0, none⟩ v') := by
  have hne : ∀ b, b < w.heap.size + 3 → some b ≠ v.ownBlock := fun b hb => own_ge h.rt hb
  have k : ∀ {b : Nat} {t : TypeId} {cs : Array Value}, b < w.heap.size + 3 → Cls b t cs W → Cls b t cs W' := fun hb hc => (hc.ext ((Ext.refl _).alloc _)).kept hg (hne _ hb)
  have hm := k (by omega) h.mn
  have hx : Ext w W' := (h.ex.alloc tmp).trans' (by
    refine ⟨hg.os, hg.tape, hg.output, hg.size, fun i hi => hg.block i (by have := h.sz; simp; omega) (hne i (by omega))⟩)
  have hrw := kept_row (World.ownsRow.alloc h.rw_ tmp) hg h.sep.1
  have hM : ∀ {e : TypeId} {size : Nat} {v : Value} {n : Nat} {xs : List Value}, W'.ownsRow (w.heap.size + 3) e size v n xs → (W'.setCell ⟨w.heap.size + 1 + 1, 0, none⟩ v').ownsRow (w.heap.size + 3) e size v n xs := fun ho => World.ownsRow.kept ho (grownBy_setCell' W' (w.heap.size + 1 + 1) v') (.inr (own_ge ho (by omega)).symm)
  refine ⟨hm, ⟨hm.set 0 v', (k (by omega) h.rs).other (by omega) 0 _, hx.setCell (by simp; omega) _, ?_, hM hrw, ?_⟩, (k (by omega) hR).other (by omega) 0 _⟩
  · have := hM ho
    unfold RowT
    rw [List.length_append, List.length_singleton, cellsT_append]
    exact this
  · have h1 := h.sz; have h2 := hg.size; simp [World.setCell] at *; omega
theorem QS.addS {w : World} {s : ByteArray} {r : Rd} {v vb : Value} {ts : List Tn} {ss : List Sp} {t : Sp} {W W' : World} {v' : Value} {tmp : Obj} (h : QS w v vb ts ss W) (hR : RrAt (w.heap.size + 1) s r W) (hg : (W.alloc tmp).grownBy W' vb.ownBlock) (ho : W'.ownsRow (w.heap.size + 3) 56 2 v' (ss.length + 1) (cellsS ss ++ [.int .i64 t.lo, .int .i64 t.hi])) :
    Cls (w.heap.size + 1 + 1) 34 #[v, vb] W' ∧ QS w v v' ts (ss ++ [t]) (W'.setCell ⟨w.heap.size + 1 + 1, 1, none⟩ v') ∧ RrAt (w.heap.size + 1) s r (W'.setCell ⟨w.heap.size + 1 + 1, 1, none⟩ v') := by
  have hne : ∀ b, b < w.heap.size + 3 → some b ≠ vb.ownBlock := fun b hb => own_ge h.rw_ hb
  have k : ∀ {b : Nat} {t : TypeId} {cs : Array Value}, b < w.heap.size + 3 → Cls b t cs W → Cls b t cs W' := fun hb hc => (hc.ext ((Ext.refl _).alloc _)).kept hg (hne _ hb)
  have hm := k (by omega) h.mn
  have hx : Ext w W' := (h.ex.alloc tmp).trans' (by
    refine ⟨hg.os, hg.tape, hg.output, hg.size, fun i hi => hg.block i (by have := h.sz; simp; omega) (hne i (by omega))⟩)
  have hrw := kept_row (World.ownsRow.alloc h.rt tmp) hg h.sep.2
  have hM : ∀ {e : TypeId} {size : Nat} {v : Value} {n : Nat} {xs : List Value}, W'.ownsRow (w.heap.size + 3) e size v n xs → (W'.setCell ⟨w.heap.size + 1 + 1, 1, none⟩ v').ownsRow (w.heap.size + 3) e size v n xs := fun ho => World.ownsRow.kept ho (row := some (w.heap.size + 1 + 1)) ⟨rfl, rfl, rfl, by simp [World.setCell], fun j _ hne => Below.heap_setCell W' ⟨w.heap.size + 1 + 1, 1, none⟩ v' j (fun e => hne (by rw [e]))⟩ (.inr (own_ge ho (by omega)).symm)
  refine ⟨hm, ⟨hm.set 1 v', (k (by omega) h.rs).other (by omega) 1 _, hx.setCell (by simp; omega) _, hM hrw, ?_, ?_⟩, (k (by omega) hR).other (by omega) 1 _⟩
  · have := hM ho
    unfold RowS
    rw [List.length_append, List.length_singleton, cellsS_append]
    exact this
  · have h1 := h.sz; have h2 := hg.size; simp [World.setCell] at *; omega
theorem QS.fin {w : World} {v vb : Value} {ts : List Tn} {ss : List Sp} {W : World} (h : QS w v vb ts ss W) (a b : Value) (E A : Int) :
    Cls w.heap.size 40 #[a, b, .int .i64 E, .int .i64 A] ((((W.setCell ⟨w.heap.size, 0, none⟩ a).setCell ⟨w.heap.size, 1, none⟩ b).setCell ⟨w.heap.size, 2, none⟩ (.int .i64 E)).setCell ⟨w.heap.size, 3, none⟩ (.int .i64 A)) ∧
    TurnsAt ((((W.setCell ⟨w.heap.size, 0, none⟩ a).setCell ⟨w.heap.size, 1, none⟩ b).setCell ⟨w.heap.size, 2, none⟩ (.int .i64 E)).setCell ⟨w.heap.size, 3, none⟩ (.int .i64 A)) v ts ∧
    SpansAt ((((W.setCell ⟨w.heap.size, 0, none⟩ a).setCell ⟨w.heap.size, 1, none⟩ b).setCell ⟨w.heap.size, 2, none⟩ (.int .i64 E)).setCell ⟨w.heap.size, 3, none⟩ (.int .i64 A)) vb ss ∧
    Ext w ((((W.setCell ⟨w.heap.size, 0, none⟩ a).setCell ⟨w.heap.size, 1, none⟩ b).setCell ⟨w.heap.size, 2, none⟩ (.int .i64 E)).setCell ⟨w.heap.size, 3, none⟩ (.int .i64 A)) := by
  have hg : W.grownBy ((((W.setCell ⟨w.heap.size, 0, none⟩ a).setCell ⟨w.heap.size, 1, none⟩ b).setCell ⟨w.heap.size, 2, none⟩ (.int .i64 E)).setCell ⟨w.heap.size, 3, none⟩ (.int .i64 A)) (some w.heap.size) := grown_set (grown_set (grown_set (grown_set (World.grownBy.refl _ _) 0 a) 1 b) 2 _) 3 _
  refine ⟨(((h.rs.set 0 a).set 1 b).set 2 _).set 3 _, RowT.at_ (World.ownsRow.kept h.rt hg (.inr (own_ge h.rt (by omega)).symm)), RowS.at_ (World.ownsRow.kept h.rw_ hg (.inr (own_ge h.rw_ (by omega)).symm)), ?_⟩
  exact (((h.ex.setCell (by simp) _).setCell (by simp) _).setCell (by simp) _).setCell (by simp) _
theorem rprs_ret {x : List UInt8} {w W : World} {tmps : Array Value} {va vb : Value} {E A : Int} (h2 : tmps.getD 2 undef = .pointer (some ⟨w.heap.size, 0, none⟩)) (hE : prsE x = E) (hA : prsA x = A)
    (hc : Cls w.heap.size 40 #[va, vb, .int .i64 E, .int .i64 A] W) (hm : MinsAt W va vb (prsX x)) (hx : Ext w W) : bodyPost Tryd.prog Tryd.f23 (RPrsPost x w) Exit.ret { tmps := tmps, defers := [] } W := by
  subst hE hA
  have c0 : W.cell? ⟨w.heap.size, 0, none⟩ = some va := hc.cell 0
  have c1 : W.cell? ⟨w.heap.size, 1, none⟩ = some vb := hc.cell 1
  have c2 : W.cell? ⟨w.heap.size, 2, none⟩ = some (.int .i64 (prsE x)) := hc.cell 2
  have c3 : W.cell? ⟨w.heap.size, 3, none⟩ = some (.int .i64 (prsA x)) := hc.cell 3
  have h2' : tmps[2]?.getD undef = .pointer (some ⟨w.heap.size, 0, none⟩) := by simpa using h2
  exact bodyPost_ret (v := .agg #[va, vb, .int .i64 (prsE x), .int .i64 (prsA x)]) (by simp [results, Tryd.f23, go_sem, h2', c0, c1, c2, c3]) rfl ⟨va, vb, rfl, hm, hx⟩

set_option maxRecDepth 100000 in
set_option maxHeartbeats 8000000 in
theorem RefParse_any (s : ByteArray) (w : World) (hs : s.size ≤ 1000000) :
    Calls Tryd.prog 23 #[.string s] w (RPrsPost (bytesOf s) w) := by
  obtain ⟨x, hx⟩ : ∃ x, bytesOf s = x := ⟨_, rfl⟩
  have HX := Lib.hid hx
  have hxl : x.length = s.size := by rw [← hx, bytesOf_len]
  have HXL := Lib.hid hxl
  rw [hx]
  clear hx hxl
  by_cases hbig : 3000 < s.size
  · have hd0 : decide ((3000 : Int) < s.size) = true := by simp; omega
    have P := Lib.hid (prs_long (x := x) (by rw [HXL.out]; omega))
    have q := Cls.new w 40 #[.slice none 0 0, .slice none 0 0, .int .i64 0, .int .i64 0]
    have f0 := q.frozen 0
    have f1 := q.frozen 1
    have f2 := q.frozen 2
    have f3 := q.frozen 3
    clear q
    go_enter Tryd.func23, Tryd.ntmps23
    go_wp2_with fail
    exact rprs_ret rfl P.out.1 P.out.2.1 (Cls.new _ _ _) ⟨by rw [P.out.2.2]; exact turnsAt_nil _, by rw [P.out.2.2]; exact spansAt_nil _⟩ (by repeat (first | exact Ext.refl _ | assumption | refine Ext.alloc ?_ _ | refine Ext.drew ?_ | refine Ext.drewN _ ?_ | refine Ext.trans ?_ (by assumption)))
  · have hd0 : decide ((3000 : Int) < s.size) = false := by simp; omega
    obtain ⟨i0, hi0, hz0, hz1, hz2⟩ := info_parts infoTn
    obtain ⟨j0, hj0, hy0, hy1, hy2⟩ := info_parts infoSp
    go_enter Tryd.func23, Tryd.ntmps23
    go_wp2_with fail
    obtain ⟨W0, hW0⟩ : ∃ W0, ((w.alloc (.cells #[.slice none 0 0, .slice none 0 0, .int .i64 0, .int .i64 0] 40)).alloc (.cells #[.string s, .int .i64 0, .bool false] 113)).alloc (.cells #[.slice none 0 0, .slice none 0 0] 34) = W0 := ⟨_, rfl⟩
    obtain ⟨q0, q1, q2, hx3, hzz⟩ := alloc3 (w1 := W0) (by rw [hW0]; exact Ext.refl _)
    have hqs0 : QS w (.slice none 0 0) (.slice none 0 0) [] [] W0 := ⟨q2, q0, hx3, World.ownsRow_nil _ _ _ _, World.ownsRow_nil _ _ _ _, by omega⟩
    have hrd0 : RrAt (w.heap.size + 1) s ⟨0, false⟩ W0 := q1
    rw [hW0]
    clear hW0 q0 q1 q2 hx3 hzz
    go_loopg [5, 6] (s.size + 1) (fun g _ _ wr => ∃ (ts : List Tn) (ss : List Sp) (r : Rd) (v vb : Value), Hid (PI x ts ss r) ∧ Hid (remR x r ≤ g) ∧ r.at_ ≤ s.size ∧ ts.length + ss.length + remR x r ≤ s.size + 1 ∧ Hid (RrAt (w.heap.size + 1) s r wr) ∧ Hid (QS w v vb ts ss wr))
    case atStart => exact ⟨[], [], ⟨0, false⟩, _, _, Lib.hid (PI.start x), Lib.hid (by simp [remR, HXL.out]), by simp, by simp [remR, HXL.out], Lib.hid hrd0, Lib.hid hqs0⟩
    case round =>
      obtain ⟨ts, ss, r, v, vb, HP, HG, hat, hlen, HR, HS⟩ := hrel
      obtain ⟨wo, rfl⟩ : ∃ wo : World, wo = wr := ⟨_, rfl⟩
      obtain ⟨A1, cc1, hv1⟩ := RowT.form HS.out.rt
      obtain ⟨A2, cc2, hv2⟩ := RowS.form HS.out.rw_
      subst hv1 hv2
      have c0 : wo.cell? ⟨w.heap.size + 1, 0, none⟩ = some (.string s) := Cls.cell HR.out 0
      have c1 : wo.cell? ⟨w.heap.size + 1, 1, none⟩ = some (.int .i64 r.at_) := Cls.cell HR.out 1
      have c2 : wo.cell? ⟨w.heap.size + 1, 2, none⟩ = some (.bool r.bad) := Cls.cell HR.out 2
      have m0 : wo.cell? ⟨w.heap.size + 1 + 1, 0, none⟩ = some (.slice A1 ts.length cc1) := HS.out.mn.cell 0
      have m1 : wo.cell? ⟨w.heap.size + 1 + 1, 1, none⟩ = some (.slice A2 ss.length cc2) := HS.out.mn.cell 1
      have n0 : wo.cell? ⟨w.heap.size, 0, none⟩ = some (.slice none 0 0) := HS.out.rs.cell 0
      have n1 : wo.cell? ⟨w.heap.size, 1, none⟩ = some (.slice none 0 0) := HS.out.rs.cell 1
      have n2 : wo.cell? ⟨w.heap.size, 2, none⟩ = some (.int .i64 0) := HS.out.rs.cell 2
      have n3 : wo.cell? ⟨w.heap.size, 3, none⟩ = some (.int .i64 0) := HS.out.rs.cell 3
      have k0 : wo.frozen? ⟨w.heap.size, 0, none⟩ = false := HS.out.rs.frozen 0
      have k1 : wo.frozen? ⟨w.heap.size, 1, none⟩ = false := HS.out.rs.frozen 1
      have k2 : wo.frozen? ⟨w.heap.size, 2, none⟩ = false := HS.out.rs.frozen 2
      have k3 : wo.frozen? ⟨w.heap.size, 3, none⟩ = false := HS.out.rs.frozen 3
      cases hb : r.bad
      · rw [hb] at c2
        by_cases hlt : r.at_ < s.size
        · have hget := bytesOf_get hlt
          rw [HX.out] at hget
          have hlx : r.at_ < x.length := by rw [HXL.out]; exact hlt
          have hlx2 := hlx
          obtain ⟨tw, htw⟩ : ∃ tw, ((s[r.at_].toNat : Int) == 101 && decide (ss.length = 0)) = tw := ⟨_, rfl⟩
          have HTW := Lib.hid htw
          have HGET := Lib.hid hget
          have HLX := Lib.hid hlx
          clear htw hget hlx hlx2
          go_upto_region 6 with fail
          go_cut [40] (fun u wx => u = .bool tw ∧ wo = wx)
          case first =>
            cases hq : ((s[r.at_].toNat : Int) == 101)
            · have ht : tw = false := by rw [← HTW.out, hq]; rfl
              subst ht
              go_wp2_with fail
              go_meet
              case rel => exact ⟨rfl, rfl⟩
            · have hq' : ((s[r.at_].toNat : Int) = 101) := by simpa using hq
              by_cases hs0 : ss.length = 0
              · have ht : tw = true := by rw [← HTW.out, hq, decide_eq_true hs0]; rfl
                subst ht
                have hsb : ((ss.length : Int) == 0) = true := by rw [beq_iff_eq]; omega
                go_wp2_with fail
                go_meet
                case rel => exact ⟨rfl, rfl⟩
              · have ht : tw = false := by rw [← HTW.out, hq, decide_eq_false hs0]; rfl
                subst ht
                have hsb : ((ss.length : Int) == 0) = false := by rw [beq_eq_false_iff_ne]; omega
                go_wp2_with fail
                go_meet
                case rel => exact ⟨rfl, rfl⟩
          case rest =>
            obtain ⟨rfl, rfl⟩ := hcut
            have hlx := HLX.out
            have hlx2 := hlx
            cases tw
            · have hc : ¬ (x[r.at_]? = some 101 ∧ ss = []) := by
                rintro ⟨h1, h2⟩
                have h3 := HGET.out
                rw [h1] at h3
                have h4 := HTW.out
                rw [← Option.some.inj h3, h2] at h4
                simp at h4
              obtain ⟨m1, m1', _⟩ := wordR_mono x [98, 101, 116, 119, 101, 101, 110, 32] r
              obtain ⟨r1, h1⟩ : ∃ r1, wordR x [98, 101, 116, 119, 101, 101, 110, 32] r = r1 := ⟨_, rfl⟩
              rw [h1] at m1 m1'
              obtain ⟨m2, m2', _⟩ := numR_mono x 0 1048576 r1
              obtain ⟨b0, b0'⟩ := numQ_rng x 0 1048576 r1
              obtain ⟨p, g0⟩ : ∃ y, numQ x 0 1048576 r1 = y := ⟨_, rfl⟩
              obtain ⟨r2, h2⟩ : ∃ y, (numR x 0 1048576 r1).2 = y := ⟨_, rfl⟩
              rw [h2] at m2 m2'
              rw [g0] at b0 b0'
              obtain ⟨m3, m3', _⟩ := wordR_mono x [32, 97, 110, 100, 32] r2
              obtain ⟨r3, h3⟩ : ∃ r3, wordR x [32, 97, 110, 100, 32] r2 = r3 := ⟨_, rfl⟩
              rw [h3] at m3 m3'
              obtain ⟨m4, m4', _⟩ := numR_mono x p 1048576 r3
              obtain ⟨b1, b1'⟩ := numQ_rng x p 1048576 r3
              obtain ⟨f, g1⟩ : ∃ y, numQ x p 1048576 r3 = y := ⟨_, rfl⟩
              obtain ⟨r4, h4⟩ : ∃ y, (numR x p 1048576 r3).2 = y := ⟨_, rfl⟩
              rw [h4] at m4 m4'
              rw [g1] at b1 b1'
              obtain ⟨m5, m5', _⟩ := wordR_mono x [59, 10] r4
              obtain ⟨r5, h5⟩ : ∃ r5, wordR x [59, 10] r4 = r5 := ⟨_, rfl⟩
              rw [h5] at m5 m5'
              have hQ : spanQ x r = ⟨p, f⟩ := by simp only [spanQ, h1, g0, h2, h3, g1]
              have hQr : (spanR x r).2 = r5 := by rw [← (spanQ_eq x r).1]; simp only [spanQr, h1, g0, h2, h3, h4, h5]
              have hrem := (rem_span (left_t (x := x) hb hlx)).1
              have hPI := PI.span HP.out hb hlx hc
              rw [hQr] at hrem
              rw [hQ, hQr] at hPI
              have hatx := hlx2
              rw [← HXL.out] at hat
              have q1 := m1' hat
              have q2 := m2' q1
              have q3 := m3' q2
              have q4 := m4' q3
              have q5 := m5' q4
              rw [HXL.out] at hat q1 q2 q3 q4 q5
              have HPI := Lib.hid hPI
              have H1 := Lib.hid h1
              have H2 := Lib.hid h2
              have H3 := Lib.hid h3
              have H4 := Lib.hid h4
              have H5 := Lib.hid h5
              have G0 := Lib.hid g0
              have G1 := Lib.hid g1
              clear hPI hQ hQr m1 m1' h1 m2 m2' h2 m3 m3' h3 m4 m4' h4 m5 m5' h5 g0 g1
              have hsz := HS.out.sz
              obtain ⟨B, hBB⟩ : ∃ B, wo.heap.size = B := ⟨_, rfl⟩
              have HB0 := Lib.hid ((Cls.new wo 56 #[.int .i64 0, .int .i64 0]))
              go_wp2_with fail
              rw [hBB] at HB0 hsz
              try rw [hBB]
              have hGa : wo.grownBy (wo.alloc (.cells #[.int .i64 0, .int .i64 0] 56)) (some (w.heap.size + 1)) := grown_alloc (World.grownBy.refl _ _) _
              have hRa : RrAt (w.heap.size + 1) s r (wo.alloc (.cells #[.int .i64 0, .int .i64 0] 56)) := Cls.ext HR.out (by repeat (first | exact Ext.refl _ | assumption | refine Ext.alloc ?_ _ | refine Ext.drew ?_ | refine Ext.drewN _ ?_ | refine Ext.trans ?_ (by assumption)))
              refine (refWord_any (w.heap.size + 1) s ⟨#[98, 101, 116, 119, 101, 101, 110, 32]⟩ r _ hRa hs (by decide) hat).mono ?_
              rintro e w1 ⟨rfl, hR1, hg1⟩
              change RrAt (w.heap.size + 1) s (wordR (bytesOf s) [98, 101, 116, 119, 101, 101, 110, 32] r) w1 at hR1
              rw [HX.out, H1.out] at hR1
              have HB1 := Lib.hid (HB0.out.kept hg1 (by simp; omega))
              have hG1 := grown_trans hGa hg1
              clear hg1 hRa hGa
              go_wp2_with fail
              refine (refNumber_any (w.heap.size + 1) s r1 0 1048576 _ hR1 hs q1 (by omega) (by omega) (by omega) (by omega)).mono ?_
              rw [HX.out, G0.out, H2.out]
              rintro e w2 ⟨rfl, hR2, hg2⟩
              have HB2 := Lib.hid (HB1.out.kept hg2 (by simp; omega))
              have hG2 := grown_trans hG1 hg2
              have z1 : w2.cell? ⟨B, 0, none⟩ = some (.int .i64 0) := HB2.out.cell 0
              have zf1 : w2.frozen? ⟨B, 0, none⟩ = false := HB2.out.frozen 0
              clear hg2 hR1 hG1
              go_wp2_with fail
              have HS2 := Lib.hid (HB2.out.set 0 (.int .i64 p))
              have hRs2 : RrAt (w.heap.size + 1) s r2 (w2.setCell ⟨B, 0, none⟩ (.int .i64 p)) := Cls.other hR2 (by omega) 0 _
              have hGs2 := grown_setNew hG2 (i := 0) (b := B) (by omega) (.int .i64 p)
              clear hR2 hG2
              refine (refWord_any (w.heap.size + 1) s ⟨#[32, 97, 110, 100, 32]⟩ r2 _ hRs2 hs (by decide) q2).mono ?_
              rintro e w3 ⟨rfl, hR3, hg3⟩
              change RrAt (w.heap.size + 1) s (wordR (bytesOf s) [32, 97, 110, 100, 32] r2) w3 at hR3
              rw [HX.out, H3.out] at hR3
              have HB3 := Lib.hid (HS2.out.kept hg3 (by simp; omega))
              have hG3 := grown_trans hGs2 hg3
              clear hg3 hRs2 hGs2
              have y30 : w3.cell? ⟨B, 0, none⟩ = some (.int .i64 p) := HB3.out.cell 0
              go_wp2_with fail
              refine (refNumber_any (w.heap.size + 1) s r3 p 1048576 _ hR3 hs q3 (by omega) (by omega) (by omega) (by omega)).mono ?_
              rw [HX.out, G1.out, H4.out]
              rintro e w4 ⟨rfl, hR4, hg4⟩
              have HB4 := Lib.hid (HB3.out.kept hg4 (by simp; omega))
              have hG4 := grown_trans hG3 hg4
              have z3 : w4.cell? ⟨B, 1, none⟩ = some (.int .i64 0) := HB4.out.cell 1
              have zf3 : w4.frozen? ⟨B, 1, none⟩ = false := HB4.out.frozen 1
              clear hg4 hR3 hG3
              go_upto_region 21 with fail
              have HS4 := Lib.hid (HB4.out.set 1 (.int .i64 f))
              have hRs4 : RrAt (w.heap.size + 1) s r4 (w4.setCell ⟨B, 1, none⟩ (.int .i64 f)) := Cls.other hR4 (by omega) 1 _
              have hGs4 := grown_setNew hG4 (i := 1) (b := B) (by omega) (.int .i64 f)
              clear hR4 hG4
              obtain ⟨X6, hX6⟩ : ∃ X6, w4.setCell ⟨B, 1, none⟩ (.int .i64 f) = X6 := ⟨_, rfl⟩
              rw [hX6] at hRs4 hGs4 HS4 ⊢
              clear hX6
              have hcv := one_byte X6 10 (by omega)
              rw [show ((10 : Nat) : Int) = 10 from rfl, show UInt8.ofNat 10 = 10 from rfl] at hcv
              have hct := catS (a := [59]) (b := [10]) (c := [59, 10]) #[59] #[10] rfl rfl (by simp) (by simp) rfl
              go_wp2_with fail
              have hRb : RrAt (w.heap.size + 1) s r4 (X6.alloc (.cells #[.int .u8 10] 5)) := Cls.ext hRs4 (by repeat (first | exact Ext.refl _ | assumption | refine Ext.alloc ?_ _ | refine Ext.drew ?_ | refine Ext.drewN _ ?_ | refine Ext.trans ?_ (by assumption)))
              have HBb := Lib.hid (HS4.out.ext (W' := X6.alloc (.cells #[.int .u8 10] 5)) (by repeat (first | exact Ext.refl _ | assumption | refine Ext.alloc ?_ _ | refine Ext.drew ?_ | refine Ext.drewN _ ?_ | refine Ext.trans ?_ (by assumption))))
              have hGb := grown_alloc hGs4 (.cells #[.int .u8 10] 5)
              clear hcv hct hRs4 hGs4
              refine (refWord_any (w.heap.size + 1) s ⟨#[59, 10]⟩ r4 _ hRb hs (by decide) q4).mono ?_
              rintro e w5 ⟨rfl, hR5, hg5⟩
              change RrAt (w.heap.size + 1) s (wordR (bytesOf s) [59, 10] r4) w5 at hR5
              rw [HX.out, H5.out] at hR5
              have HB5 := Lib.hid (HBb.out.kept hg5 (by simp; omega))
              have hG5 := grown_trans hGb hg5
              have hq7 := HS.out.read hG5
              clear hg5 hRb hGb
              have y50 : w5.cell? ⟨B, 0, none⟩ = some (.int .i64 p) := HB5.out.cell 0
              have y51 : w5.cell? ⟨B, 1, none⟩ = some (.int .i64 f) := HB5.out.cell 1
              have ym : w5.cell? ⟨w.heap.size + 1 + 1, 1, none⟩ = some (.slice A2 ss.length cc2) := hq7.mn.cell 1
              have hsz7 := hq7.sz
              go_wp2_with ((at_builtin; refine wpList_append_own _ rfl _ _ 32 rfl (w.heap.size + 3) 56 j0 (.agg #[.int .i64 0, .int .i64 0]) 2 16 undSp hj0 hy0 hy1 hy2 rfl (by decide) _ _ _ rfl (World.ownsRow.alloc hq7.rw_ _) ⟨w5.heap.size, 0, none⟩ 1 1 [.int .i64 p, .int .i64 f] rfl rfl (cell_two_new _ _ _ _) (by simp [Value.oneCell']) (by unfold maxLen; omega) (by omega) (by simp; omega) ?_; intro v' w9 hown hgrow _; obtain ⟨g', cap', rfl⟩ := ownsRow_succ hown; obtain ⟨hm9, hq9, hr9⟩ := QS.addS (t := ⟨p, f⟩) hq7 hR5 hgrow hown; have hm9a := hm9.cell 1; have hm9f := hm9.frozen 1; simp only [List.getElem?_toArray, List.getElem?_cons_zero, List.getElem?_cons_succ] at hm9a))
              go_roundg (remR x r5)
              case measure => have := HG.out; omega
              case rel => exact ⟨ts, ss ++ [⟨p, f⟩], r5, _, _, HPI, Lib.hid (Nat.le_refl _), by omega, by simp at hlen ⊢; omega, Lib.hid hr9, Lib.hid hq9⟩
            · have ht2 := HTW.out
              rw [Bool.and_eq_true, decide_eq_true_eq, beq_iff_eq] at ht2
              have h101 : x[r.at_]? = some 101 := by
                rw [HGET.out]
                congr 1
                exact UInt8.toNat_inj.1 (by have : (101 : UInt8).toNat = 101 := rfl; omega)
              have hss0 : ss = [] := List.eq_nil_of_length_eq_zero ht2.2
              subst hss0
              clear ht2
              obtain ⟨m1, m1', _⟩ := wordR_mono x [101, 118, 101, 114, 121, 32] r
              obtain ⟨r1, h1⟩ : ∃ r1, wordR x [101, 118, 101, 114, 121, 32] r = r1 := ⟨_, rfl⟩
              rw [h1] at m1 m1'
              obtain ⟨m2, m2', _⟩ := numR_mono x 1 40320 r1
              obtain ⟨b0, b0'⟩ := numQ_rng x 1 40320 r1
              obtain ⟨p, g0⟩ : ∃ y, numQ x 1 40320 r1 = y := ⟨_, rfl⟩
              obtain ⟨r2, h2⟩ : ∃ y, (numR x 1 40320 r1).2 = y := ⟨_, rfl⟩
              rw [h2] at m2 m2'
              rw [g0] at b0 b0'
              obtain ⟨m3, m3', _⟩ := wordR_mono x [32, 102, 114, 111, 109, 32] r2
              obtain ⟨r3, h3⟩ : ∃ r3, wordR x [32, 102, 114, 111, 109, 32] r2 = r3 := ⟨_, rfl⟩
              rw [h3] at m3 m3'
              obtain ⟨m4, m4', _⟩ := numR_mono x 0 (p - 1) r3
              obtain ⟨b1, b1'⟩ := numQ_rng x 0 (p - 1) r3
              obtain ⟨f, g1⟩ : ∃ y, numQ x 0 (p - 1) r3 = y := ⟨_, rfl⟩
              obtain ⟨r4, h4⟩ : ∃ y, (numR x 0 (p - 1) r3).2 = y := ⟨_, rfl⟩
              rw [h4] at m4 m4'
              rw [g1] at b1 b1'
              obtain ⟨m5, m5', _⟩ := wordR_mono x [32, 102, 111, 114, 32] r4
              obtain ⟨r5, h5⟩ : ∃ r5, wordR x [32, 102, 111, 114, 32] r4 = r5 := ⟨_, rfl⟩
              rw [h5] at m5 m5'
              obtain ⟨m6, m6', _⟩ := numR_mono x 1 p r5
              obtain ⟨b2, b2'⟩ := numQ_rng x 1 p r5
              obtain ⟨l, g2⟩ : ∃ y, numQ x 1 p r5 = y := ⟨_, rfl⟩
              obtain ⟨r6, h6⟩ : ∃ y, (numR x 1 p r5).2 = y := ⟨_, rfl⟩
              rw [h6] at m6 m6'
              rw [g2] at b2 b2'
              obtain ⟨m7, m7', _⟩ := wordR_mono x [59, 10] r6
              obtain ⟨r7, h7⟩ : ∃ r7, wordR x [59, 10] r6 = r7 := ⟨_, rfl⟩
              rw [h7] at m7 m7'
              have hQ : turnQ x r = ⟨p, f, l⟩ := by simp only [turnQ, h1, g0, h2, h3, g1, h4, h5, g2]
              have hQr : (turnR x r).2 = r7 := by rw [← (turnQ_eq x r).1]; simp only [turnQr, h1, g0, h2, h3, h4, h5, h6, h7]
              have hrem := (rem_turn (left_t (x := x) hb hlx)).1
              have hPI := PI.turn HP.out hb hlx h101
              rw [hQr] at hrem
              rw [hQ, hQr] at hPI
              have hatx := hlx2
              rw [← HXL.out] at hat
              have q1 := m1' hat
              have q2 := m2' q1
              have q3 := m3' q2
              have q4 := m4' q3
              have q5 := m5' q4
              have q6 := m6' q5
              have q7 := m7' q6
              rw [HXL.out] at hat q1 q2 q3 q4 q5 q6 q7
              have HPI := Lib.hid hPI
              have H1 := Lib.hid h1
              have H2 := Lib.hid h2
              have H3 := Lib.hid h3
              have H4 := Lib.hid h4
              have H5 := Lib.hid h5
              have H6 := Lib.hid h6
              have H7 := Lib.hid h7
              have G0 := Lib.hid g0
              have G1 := Lib.hid g1
              have G2 := Lib.hid g2
              clear hPI hQ hQr m1 m1' h1 m2 m2' h2 m3 m3' h3 m4 m4' h4 m5 m5' h5 m6 m6' h6 m7 m7' h7 g0 g1 g2
              have hsz := HS.out.sz
              obtain ⟨B, hBB⟩ : ∃ B, wo.heap.size = B := ⟨_, rfl⟩
              have HB0 := Lib.hid ((Cls.new wo 23 #[.int .i64 0, .int .i64 0, .int .i64 0]))
              go_wp2_with fail
              rw [hBB] at HB0 hsz
              try rw [hBB]
              have hGa : wo.grownBy (wo.alloc (.cells #[.int .i64 0, .int .i64 0, .int .i64 0] 23)) (some (w.heap.size + 1)) := grown_alloc (World.grownBy.refl _ _) _
              have hRa : RrAt (w.heap.size + 1) s r (wo.alloc (.cells #[.int .i64 0, .int .i64 0, .int .i64 0] 23)) := Cls.ext HR.out (by repeat (first | exact Ext.refl _ | assumption | refine Ext.alloc ?_ _ | refine Ext.drew ?_ | refine Ext.drewN _ ?_ | refine Ext.trans ?_ (by assumption)))
              refine (refWord_any (w.heap.size + 1) s ⟨#[101, 118, 101, 114, 121, 32]⟩ r _ hRa hs (by decide) hat).mono ?_
              rintro e w1 ⟨rfl, hR1, hg1⟩
              change RrAt (w.heap.size + 1) s (wordR (bytesOf s) [101, 118, 101, 114, 121, 32] r) w1 at hR1
              rw [HX.out, H1.out] at hR1
              have HB1 := Lib.hid (HB0.out.kept hg1 (by simp; omega))
              have hG1 := grown_trans hGa hg1
              clear hg1 hRa hGa
              go_wp2_with fail
              refine (refNumber_any (w.heap.size + 1) s r1 1 40320 _ hR1 hs q1 (by omega) (by omega) (by omega) (by omega)).mono ?_
              rw [HX.out, G0.out, H2.out]
              rintro e w2 ⟨rfl, hR2, hg2⟩
              have HB2 := Lib.hid (HB1.out.kept hg2 (by simp; omega))
              have hG2 := grown_trans hG1 hg2
              have z1 : w2.cell? ⟨B, 0, none⟩ = some (.int .i64 0) := HB2.out.cell 0
              have zf1 : w2.frozen? ⟨B, 0, none⟩ = false := HB2.out.frozen 0
              clear hg2 hR1 hG1
              go_wp2_with fail
              have HS2 := Lib.hid (HB2.out.set 0 (.int .i64 p))
              have hRs2 : RrAt (w.heap.size + 1) s r2 (w2.setCell ⟨B, 0, none⟩ (.int .i64 p)) := Cls.other hR2 (by omega) 0 _
              have hGs2 := grown_setNew hG2 (i := 0) (b := B) (by omega) (.int .i64 p)
              clear hR2 hG2
              refine (refWord_any (w.heap.size + 1) s ⟨#[32, 102, 114, 111, 109, 32]⟩ r2 _ hRs2 hs (by decide) q2).mono ?_
              rintro e w3 ⟨rfl, hR3, hg3⟩
              change RrAt (w.heap.size + 1) s (wordR (bytesOf s) [32, 102, 114, 111, 109, 32] r2) w3 at hR3
              rw [HX.out, H3.out] at hR3
              have HB3 := Lib.hid (HS2.out.kept hg3 (by simp; omega))
              have hG3 := grown_trans hGs2 hg3
              clear hg3 hRs2 hGs2
              have y30 : w3.cell? ⟨B, 0, none⟩ = some (.int .i64 p) := HB3.out.cell 0
              go_wp2_with fail
              refine (refNumber_any (w.heap.size + 1) s r3 0 (p - 1) _ hR3 hs q3 (by omega) (by omega) (by omega) (by omega)).mono ?_
              rw [HX.out, G1.out, H4.out]
              rintro e w4 ⟨rfl, hR4, hg4⟩
              have HB4 := Lib.hid (HB3.out.kept hg4 (by simp; omega))
              have hG4 := grown_trans hG3 hg4
              have z3 : w4.cell? ⟨B, 1, none⟩ = some (.int .i64 0) := HB4.out.cell 1
              have zf3 : w4.frozen? ⟨B, 1, none⟩ = false := HB4.out.frozen 1
              clear hg4 hR3 hG3
              go_wp2_with fail
              have HS4 := Lib.hid (HB4.out.set 1 (.int .i64 f))
              have hRs4 : RrAt (w.heap.size + 1) s r4 (w4.setCell ⟨B, 1, none⟩ (.int .i64 f)) := Cls.other hR4 (by omega) 1 _
              have hGs4 := grown_setNew hG4 (i := 1) (b := B) (by omega) (.int .i64 f)
              clear hR4 hG4
              refine (refWord_any (w.heap.size + 1) s ⟨#[32, 102, 111, 114, 32]⟩ r4 _ hRs4 hs (by decide) q4).mono ?_
              rintro e w5 ⟨rfl, hR5, hg5⟩
              change RrAt (w.heap.size + 1) s (wordR (bytesOf s) [32, 102, 111, 114, 32] r4) w5 at hR5
              rw [HX.out, H5.out] at hR5
              have HB5 := Lib.hid (HS4.out.kept hg5 (by simp; omega))
              have hG5 := grown_trans hGs4 hg5
              clear hg5 hRs4 hGs4
              have y50 : w5.cell? ⟨B, 0, none⟩ = some (.int .i64 p) := HB5.out.cell 0
              have y51 : w5.cell? ⟨B, 1, none⟩ = some (.int .i64 f) := HB5.out.cell 1
              go_wp2_with fail
              refine (refNumber_any (w.heap.size + 1) s r5 1 p _ hR5 hs q5 (by omega) (by omega) (by omega) (by omega)).mono ?_
              rw [HX.out, G2.out, H6.out]
              rintro e w6 ⟨rfl, hR6, hg6⟩
              have HB6 := Lib.hid (HB5.out.kept hg6 (by simp; omega))
              have hG6 := grown_trans hG5 hg6
              have z5 : w6.cell? ⟨B, 2, none⟩ = some (.int .i64 0) := HB6.out.cell 2
              have zf5 : w6.frozen? ⟨B, 2, none⟩ = false := HB6.out.frozen 2
              clear hg6 hR5 hG5
              go_upto_region 14 with fail
              have HS6 := Lib.hid (HB6.out.set 2 (.int .i64 l))
              have hRs6 : RrAt (w.heap.size + 1) s r6 (w6.setCell ⟨B, 2, none⟩ (.int .i64 l)) := Cls.other hR6 (by omega) 2 _
              have hGs6 := grown_setNew hG6 (i := 2) (b := B) (by omega) (.int .i64 l)
              clear hR6 hG6
              obtain ⟨X6, hX6⟩ : ∃ X6, w6.setCell ⟨B, 2, none⟩ (.int .i64 l) = X6 := ⟨_, rfl⟩
              rw [hX6] at hRs6 hGs6 HS6 ⊢
              clear hX6
              have hcv := one_byte X6 10 (by omega)
              rw [show ((10 : Nat) : Int) = 10 from rfl, show UInt8.ofNat 10 = 10 from rfl] at hcv
              have hct := catS (a := [59]) (b := [10]) (c := [59, 10]) #[59] #[10] rfl rfl (by simp) (by simp) rfl
              go_wp2_with fail
              have hRb : RrAt (w.heap.size + 1) s r6 (X6.alloc (.cells #[.int .u8 10] 5)) := Cls.ext hRs6 (by repeat (first | exact Ext.refl _ | assumption | refine Ext.alloc ?_ _ | refine Ext.drew ?_ | refine Ext.drewN _ ?_ | refine Ext.trans ?_ (by assumption)))
              have HBb := Lib.hid (HS6.out.ext (W' := X6.alloc (.cells #[.int .u8 10] 5)) (by repeat (first | exact Ext.refl _ | assumption | refine Ext.alloc ?_ _ | refine Ext.drew ?_ | refine Ext.drewN _ ?_ | refine Ext.trans ?_ (by assumption))))
              have hGb := grown_alloc hGs6 (.cells #[.int .u8 10] 5)
              clear hcv hct hRs6 hGs6
              refine (refWord_any (w.heap.size + 1) s ⟨#[59, 10]⟩ r6 _ hRb hs (by decide) q6).mono ?_
              rintro e w7 ⟨rfl, hR7, hg7⟩
              change RrAt (w.heap.size + 1) s (wordR (bytesOf s) [59, 10] r6) w7 at hR7
              rw [HX.out, H7.out] at hR7
              have HB7 := Lib.hid (HBb.out.kept hg7 (by simp; omega))
              have hG7 := grown_trans hGb hg7
              have hq7 := HS.out.read hG7
              clear hg7 hRb hGb
              have y70 : w7.cell? ⟨B, 0, none⟩ = some (.int .i64 p) := HB7.out.cell 0
              have y71 : w7.cell? ⟨B, 1, none⟩ = some (.int .i64 f) := HB7.out.cell 1
              have y72 : w7.cell? ⟨B, 2, none⟩ = some (.int .i64 l) := HB7.out.cell 2
              have ym : w7.cell? ⟨w.heap.size + 1 + 1, 0, none⟩ = some (.slice A1 ts.length cc1) := hq7.mn.cell 0
              have hsz7 := hq7.sz
              go_wp2_with ((at_builtin; refine wpList_append_own _ rfl _ _ 31 rfl (w.heap.size + 3) 23 i0 (.agg #[.int .i64 0, .int .i64 0, .int .i64 0]) 3 24 undTn hi0 hz0 hz1 hz2 rfl (by decide) _ _ _ rfl (World.ownsRow.alloc hq7.rt _) ⟨w7.heap.size, 0, none⟩ 1 1 [.int .i64 p, .int .i64 f, .int .i64 l] rfl rfl (cell_three_new _ _ _ _ _) (by simp [Value.oneCell']) (by unfold maxLen; omega) (by omega) (by simp; omega) ?_; intro v' w9 hown hgrow _; obtain ⟨g', cap', rfl⟩ := ownsRow_succ hown; obtain ⟨hm9, hq9, hr9⟩ := QS.addT (t := ⟨p, f, l⟩) hq7 hR7 hgrow hown; have hm9a := hm9.cell 0; have hm9f := hm9.frozen 0; simp only [List.getElem?_toArray, List.getElem?_cons_zero] at hm9a))
              go_roundg (remR x r7)
              case measure => have := HG.out; omega
              case rel => exact ⟨ts ++ [⟨p, f, l⟩], [], r7, _, _, HPI, Lib.hid (Nat.le_refl _), by omega, by simp at hlen ⊢; omega, Lib.hid hr9, Lib.hid hq9⟩
        · have hle : decide ((r.at_ : Int) < (s.size : Int)) = false := decide_eq_false (by omega)
          obtain ⟨t1, t2⟩ := PI.stopEnd HP.out hb (by rw [HXL.out]; exact hlt)
          have hbB : (parB x).2.bad = false := by rw [t2]; exact hb
          have T1 := Lib.hid t1
          have T2 := Lib.hid t2
          have HBB := Lib.hid hbB
          clear t1 t2 hbB
          by_cases hbigT : 24 < ts.length ∨ 40 < ss.length
          · have P := Lib.hid (prs_big (x := x) (by rw [HXL.out]; omega) HBB.out (by rw [T1.out, T2.out]; exact hbigT))
            obtain ⟨z1, z2, z3, z4⟩ := HS.out.fin (.slice none 0 0) (.slice none 0 0) 2 0
            have Z1 := Lib.hid z1
            have Z4 := Lib.hid z4
            clear z1 z2 z3 z4
            by_cases h24 : 24 < ts.length
            · clear hbigT
              go_wp2_with fail
              exact rprs_ret rfl P.out.1 P.out.2.1 Z1.out ⟨by rw [P.out.2.2]; exact turnsAt_nil _, by rw [P.out.2.2]; exact spansAt_nil _⟩ Z4.out
            · have h40 : 40 < ss.length := by omega
              clear hbigT
              go_wp2_with fail
              exact rprs_ret rfl P.out.1 P.out.2.1 Z1.out ⟨by rw [P.out.2.2]; exact turnsAt_nil _, by rw [P.out.2.2]; exact spansAt_nil _⟩ Z4.out
          · have P := Lib.hid (prs_ok (x := x) (by rw [HXL.out]; omega) HBB.out (by rw [T1.out, T2.out]; exact hbigT))
            obtain ⟨z1, z2, z3, z4⟩ := HS.out.fin (.slice A1 ts.length cc1) (.slice A2 ss.length cc2) 0 0
            have Z1 := Lib.hid z1
            have Z2 := Lib.hid z2
            have Z3 := Lib.hid z3
            have Z4 := Lib.hid z4
            clear z1 z2 z3 z4
            have h24 : ¬ 24 < ts.length := by omega
            have h40 : ¬ 40 < ss.length := by omega
            clear hbigT
            go_wp2_with fail
            exact rprs_ret rfl P.out.1 P.out.2.1 Z1.out ⟨by rw [P.out.2.2, T1.out]; exact Z2.out, by rw [P.out.2.2, T2.out]; exact Z3.out⟩ Z4.out
      · rw [hb] at c2
        have hB := PI.stopBad HP.out hb
        have P := Lib.hid (prs_bad (x := x) (by rw [HXL.out]; omega) (by rw [hB]; exact hb))
        have HB := Lib.hid hB
        obtain ⟨z1, z2, z3, z4⟩ := HS.out.fin (.slice none 0 0) (.slice none 0 0) 7 r.at_
        have Z1 := Lib.hid z1
        have Z4 := Lib.hid z4
        clear z1 z2 z3 z4 hB
        go_wp2_with fail
        exact rprs_ret rfl P.out.1 (by rw [P.out.2.1, HB.out]) Z1.out ⟨by rw [P.out.2.2]; exact turnsAt_nil _, by rw [P.out.2.2]; exact spansAt_nil _⟩ Z4.out
end Go.Proofs.YtejmmfjabmmihaaDoor
