/- Rows of reaches and of payers of the call's own: append of a whole slice, slices.Clone. -/
import Derived.Test.YthopgonbndoidaaRwK
import Derived.Test.YthopgonbndoidaaReg
import Derived.Test.YthopgonbndoidaaVRSh
import Derived.Lib.SliceRun
namespace Go.Proofs.Ythopgonbndoidaa
open Go.RowKit Go.Shelf

def fC (r : Rc) : List Int := [r.above, r.cost]
def fP (p : Py) : List Int := [p.id, p.reach, p.w]
theorem fC_len (r : Rc) : (fC r).length = 2 := rfl
theorem fP_len (p : Py) : (fP p).length = 3 := rfl
theorem RcsAt.seq {W : World} {v : Value} {l : List Rc} (h : RcsAt W v l) : SeqK fC 2 W v l := by
  obtain ⟨ao, c, hv, hc, hi⟩ := h
  refine ⟨ao, c, hv, hc, fun i hl => ?_⟩
  obtain ⟨b, o, h0, h1, h2⟩ := hi i hl
  refine ⟨b, o, h0, fun r hr => ?_⟩
  match r, hr with
  | 0, _ => exact h1
  | 1, _ => exact h2
theorem SeqK.rcs {W : World} {v : Value} {l : List Rc} (h : SeqK fC 2 W v l) : RcsAt W v l := by
  obtain ⟨ao, c, hv, hc, hi⟩ := h
  refine ⟨ao, c, hv, hc, fun i hl => ?_⟩
  obtain ⟨b, o, h0, h1⟩ := hi i hl
  exact ⟨b, o, h0, h1 0 (by decide), h1 1 (by decide)⟩
theorem PysAt.seq {W : World} {v : Value} {l : List Py} (h : PysAt W v l) : SeqK fP 3 W v l := by
  obtain ⟨ao, c, hv, hc, hi⟩ := h
  refine ⟨ao, c, hv, hc, fun i hl => ?_⟩
  obtain ⟨b, o, h0, h1, h2, h3⟩ := hi i hl
  refine ⟨b, o, h0, fun r hr => ?_⟩
  match r, hr with
  | 0, _ => exact h1
  | 1, _ => exact h2
  | 2, _ => exact h3
theorem SeqK.pys {W : World} {v : Value} {l : List Py} (h : SeqK fP 3 W v l) : PysAt W v l := by
  obtain ⟨ao, c, hv, hc, hi⟩ := h
  refine ⟨ao, c, hv, hc, fun i hl => ?_⟩
  obtain ⟨b, o, h0, h1⟩ := hi i hl
  exact ⟨b, o, h0, h1 0 (by decide), h1 1 (by decide), h1 2 (by decide)⟩
def RowC (n₀ : Nat) (v : Value) (l : List Rc) (W : World) : Prop := RowK 78 fC 2 n₀ v l W
def RowP (n₀ : Nat) (v : Value) (l : List Py) (W : World) : Prop := RowK 45 fP 3 n₀ v l W
theorem RowC.at_ {n₀ : Nat} {v : Value} {l : List Rc} {W : World} (h : RowC n₀ v l W) : RcsAt W v l := (RowK.at_ fC_len h).rcs
theorem RowP.at_ {n₀ : Nat} {v : Value} {l : List Py} {W : World} (h : RowP n₀ v l W) : PysAt W v l := (RowK.at_ fP_len h).pys
theorem RowC.ext {n₀ : Nat} {v : Value} {l : List Rc} {W W' : World} (h : RowC n₀ v l W) (x : Ext W W') : RowC n₀ v l W' := RowK.ext h x
theorem RowP.ext {n₀ : Nat} {v : Value} {l : List Py} {W W' : World} (h : RowP n₀ v l W) (x : Ext W W') : RowP n₀ v l W' := RowK.ext h x
theorem infoRc : (Try.prog.info? 78).map (fun i => (i.zero, i.size, i.bytes)) = some (some (.agg #[.int .i64 0, .int .i64 0]), 2, 16) := by kernel_rfl
theorem infoPy : (Try.prog.info? 45).map (fun i => (i.zero, i.size, i.bytes)) = some (some (.agg #[.int .i64 0, .int .i64 0, .int .i64 0]), 3, 24) := by kernel_rfl
theorem undRc : (Try.prog).underlying 22 = some (.slice 78) := by kernel_rfl
theorem undPy : (Try.prog).underlying 23 = some (.slice 45) := by kernel_rfl
theorem run_append_rcs (w : World) (ty : TypeId) (base : Nat) (v u : Value) (l r : List Rc) (hrow : RowC base v l w) (hu : RcsAt w u r) (hb : base ≤ w.heap.size) (hl : l.length + r.length ≤ 2000000) :
    ∃ v' w', (Builtin.append_ #[22, 22] ty #[v, u]).run Try.prog w = .ok v' w' ∧ RowC base v' (l ++ r) w' ∧ w.grownBy w' v.ownBlock ∧ (v'.ownBlock = v.ownBlock ∨ v'.ownBlock = some w.heap.size) := by
  obtain ⟨i0, hi0, hz0, hz1, hz2⟩ := info_parts infoRc
  exact run_append_rows w _ ty _ i0 _ 2 16 fC_len (by decide) undRc hi0 hz0 hz1 hz2 rfl (by decide) base v u l r hrow hu.seq hb hl
theorem run_append_pys (w : World) (ty : TypeId) (base : Nat) (v u : Value) (l r : List Py) (hrow : RowP base v l w) (hu : PysAt w u r) (hb : base ≤ w.heap.size) (hl : l.length + r.length ≤ 2000000) :
    ∃ v' w', (Builtin.append_ #[23, 23] ty #[v, u]).run Try.prog w = .ok v' w' ∧ RowP base v' (l ++ r) w' ∧ w.grownBy w' v.ownBlock ∧ (v'.ownBlock = v.ownBlock ∨ v'.ownBlock = some w.heap.size) := by
  obtain ⟨i0, hi0, hz0, hz1, hz2⟩ := info_parts infoPy
  exact run_append_rows w _ ty _ i0 _ 3 24 fP_len (by decide) undPy hi0 hz0 hz1 hz2 rfl (by decide) base v u l r hrow hu.seq hb hl
theorem append_rcs {ops : Array Oper} {rest : List Oper} {o : Oper} {a : Act} {Q : Exit → Act → World → Prop} {w : World} (hgd : o.guard = none) (s x : Operand)
    (ho : o.op = .call { callee := .builtin .append, args := #[s, x], argTypes := #[22, 22] })
    (base : Nat) (v u : Value) (l r : List Rc) (hs : a.eval s = v) (hrow : RowC base v l w) (hx : a.eval x = u) (hu : RcsAt w u r) (hb : base ≤ w.heap.size) (hl : l.length + r.length ≤ 2000000)
    (h : ∀ v' w', RowC base v' (l ++ r) w' → w.grownBy w' v.ownBlock → (v'.ownBlock = v.ownBlock ∨ v'.ownBlock = some w.heap.size) → wpList Try.prog ops Q rest (a.put o.dst v') w') : wpList Try.prog ops Q (o :: rest) a w := by
  obtain ⟨v', w', h1, h2, h3, h4⟩ := run_append_rcs w o.type base v u l r hrow hu hb hl
  exact Go.Lib.wpList_append_run_sl w hgd s x 22 ho _ _ hs hx h1 (h _ _ h2 h3 h4)
theorem append_pys {ops : Array Oper} {rest : List Oper} {o : Oper} {a : Act} {Q : Exit → Act → World → Prop} {w : World} (hgd : o.guard = none) (s x : Operand)
    (ho : o.op = .call { callee := .builtin .append, args := #[s, x], argTypes := #[23, 23] })
    (base : Nat) (v u : Value) (l r : List Py) (hs : a.eval s = v) (hrow : RowP base v l w) (hx : a.eval x = u) (hu : PysAt w u r) (hb : base ≤ w.heap.size) (hl : l.length + r.length ≤ 2000000)
    (h : ∀ v' w', RowP base v' (l ++ r) w' → w.grownBy w' v.ownBlock → (v'.ownBlock = v.ownBlock ∨ v'.ownBlock = some w.heap.size) → wpList Try.prog ops Q rest (a.put o.dst v') w') : wpList Try.prog ops Q (o :: rest) a w := by
  obtain ⟨v', w', h1, h2, h3, h4⟩ := run_append_pys w o.type base v u l r hrow hu hb hl
  exact Go.Lib.wpList_append_run_sl w hgd s x 23 ho _ _ hs hx h1 (h _ _ h2 h3 h4)
theorem rowC_lit0 {n₀ : Nat} (W : World) (h : n₀ ≤ W.heap.size) : RowC n₀ (.slice (some ⟨W.heap.size, 0, none⟩) 0 0) [] (W.alloc (.cells #[] 78)) := RowK.lit0 W _ _ _ h
theorem rowP_lit0 {n₀ : Nat} (W : World) (h : n₀ ≤ W.heap.size) : RowP n₀ (.slice (some ⟨W.heap.size, 0, none⟩) 0 0) [] (W.alloc (.cells #[] 45)) := RowK.lit0 W _ _ _ h
theorem pys_one {B : Nat} {W : World} {p : Py} (h : Cls B 45 #[.int .i64 p.id, .int .i64 p.reach, .int .i64 p.w] W) : PysAt W (.slice (some ⟨B, 0, none⟩) 1 1) [p] :=
  ⟨_, 1, rfl, by simp, fun i hi => ⟨B, 0, rfl, by
    have : i = 0 := by simpa using hi
    subst this
    exact ⟨h.cell 0, h.cell 1, h.cell 2⟩⟩⟩
theorem cls_ne {B B' : Nat} {t t' : TypeId} {cs cs' : Array Value} {W : World} (h : Cls B t cs W) (h' : Cls B' t' cs' W) (hne : t ≠ t') : B ≠ B' := fun e => by
  subst e
  have := Option.some.inj (h.symm.trans h')
  simp only [Obj.cells.injEq] at this
  exact hne this.2.1
theorem TrAt.of {W : World} {a b : Value} {T : Tr} (h1 : RcsAt W a T.rs) (h2 : PysAt W b T.ps) : TrAt W a b T := ⟨h1, h2⟩

theorem eqlRc (ao : Option Addr) (n c : Nat) (w : World) : (binOp .eql 22 (.slice ao n c) (.slice none 0 0)).run Try.prog w = .ok (.bool ao.isNone) w := Lib.run_eql_slice_nil w _ _ ao n c 0 0 undRc
theorem eqlPy (ao : Option Addr) (n c : Nat) (w : World) : (binOp .eql 23 (.slice ao n c) (.slice none 0 0)).run Try.prog w = .ok (.bool ao.isNone) w := Lib.run_eql_slice_nil w _ _ ao n c 0 0 undPy
set_option maxRecDepth 100000 in
set_option maxHeartbeats 2000000 in
theorem cloneC_any (v : Value) (l : List Rc) (w : World) (hl : RcsAt w v l) (hn : l.length ≤ 1000000) :
    Calls Try.prog 80 #[v] w fun e w' => ∃ u, e = .returned u ∧ RowC w.heap.size u l w' ∧ Ext w w' := by
  obtain ⟨ao, c, rfl, hc⟩ := hl.len
  have he := eqlRc
  cases ao with
  | none =>
    have h0 : l = [] := by
      cases l with
      | nil => rfl
      | cons x l => obtain ⟨b, o, h, _⟩ := hl.get 0 (by simp); cases h
    subst h0
    go_enter Try.func80, Try.ntmps80
    go_wp2_with fail
    go_ret
    exact ⟨_, rfl, RowK.nil _ _ _ _ _, Ext.refl _⟩
  | some ad =>
    go_enter Try.func80, Try.ntmps80
    go_wp2_with (at_builtin; refine append_rcs rfl _ _ rfl w.heap.size _ _ [] l rfl (rowC_lit0 w (Nat.le_refl _)) rfl (hl.ext (by repeat (first | exact Ext.refl _ | assumption | refine Ext.alloc ?_ _ | refine Ext.drew ?_ | refine Ext.drewN _ ?_ | refine Ext.trans ?_ (by assumption)))) (by simp) (by simp; omega) ?_; intro v1 w3 hr3 hg3 _)
    rw [List.nil_append] at hr3
    have hx3 : Ext w w3 := ext_own (by repeat (first | exact Ext.refl _ | assumption | refine Ext.alloc ?_ _ | refine Ext.drew ?_ | refine Ext.drewN _ ?_ | refine Ext.trans ?_ (by assumption))) (rowC_lit0 w (Nat.le_refl _)) (Nat.le_refl _) hg3
    go_ret
    exact ⟨_, rfl, hr3, hx3⟩
set_option maxRecDepth 100000 in
set_option maxHeartbeats 2000000 in
theorem cloneP_any (v : Value) (l : List Py) (w : World) (hl : PysAt w v l) (hn : l.length ≤ 1000000) :
    Calls Try.prog 81 #[v] w fun e w' => ∃ u, e = .returned u ∧ RowP w.heap.size u l w' ∧ Ext w w' := by
  obtain ⟨ao, c, rfl, hc⟩ := hl.len
  have he := eqlPy
  cases ao with
  | none =>
    have h0 : l = [] := by
      cases l with
      | nil => rfl
      | cons x l => obtain ⟨b, o, h, _⟩ := hl.get 0 (by simp); cases h
    subst h0
    go_enter Try.func81, Try.ntmps81
    go_wp2_with fail
    go_ret
    exact ⟨_, rfl, RowK.nil _ _ _ _ _, Ext.refl _⟩
  | some ad =>
    go_enter Try.func81, Try.ntmps81
    go_wp2_with (at_builtin; refine append_pys rfl _ _ rfl w.heap.size _ _ [] l rfl (rowP_lit0 w (Nat.le_refl _)) rfl (hl.ext (by repeat (first | exact Ext.refl _ | assumption | refine Ext.alloc ?_ _ | refine Ext.drew ?_ | refine Ext.drewN _ ?_ | refine Ext.trans ?_ (by assumption)))) (by simp) (by simp; omega) ?_; intro v1 w3 hr3 hg3 _)
    rw [List.nil_append] at hr3
    have hx3 : Ext w w3 := ext_own (by repeat (first | exact Ext.refl _ | assumption | refine Ext.alloc ?_ _ | refine Ext.drew ?_ | refine Ext.drewN _ ?_ | refine Ext.trans ?_ (by assumption))) (rowP_lit0 w (Nat.le_refl _)) (Nat.le_refl _) hg3
    go_ret
    exact ⟨_, rfl, hr3, hx3⟩
end Go.Proofs.Ythopgonbndoidaa
