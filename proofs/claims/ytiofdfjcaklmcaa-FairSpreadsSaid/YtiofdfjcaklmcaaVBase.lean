/- Words for the walks of this group: blocks of cells, rows of the call's own, loops over an iterator, also over one that keeps its state in a box of its own; a function that leaves with many marks. No program in sight but its memory. A loop over an iterator with a box of its own, where a loop variable lies in a block of its own. No program in sight. A region that draws its order, in a round of a loop over an iterator: by the plain walk that holds a condition. No program in sight. -/
import Derived.RangeFuncNested
import Derived.RangeFuncBound
import Derived.RangeFuncCalls
import Derived.RangeFuncLeaves
import Derived.RangeFuncWrites
import Derived.RangeFuncBox
import Derived.Shelf.Abstract
import Derived.Shelf.RegionOpen
import Derived.OwnWalkIn
import Derived.TacticsInMore
import Derived.LoopNIn
import Derived.LoopIn
import Derived.Maps.AppendAt
import Derived.Laws.Rows
import Derived.Test.YtiofdfjcaklmcaaMap
import Derived.Deep.RegionHeld3
namespace Go.Proofs.Ytiofdfjcaklmcaa
open Go.RowKit Go.Shelf

attribute [local go_sem] Oper.semAt_some

theorem take_succ_get {α : Type} (l : List α) (k : Nat) (h : k < l.length) : l.take (k + 1) = l.take k ++ [l[k]] := by
  rw [List.take_succ_eq_append_getElem h]
theorem drop_get {α : Type} (l : List α) (k : Nat) (h : k < l.length) : l.drop k = l[k] :: l.drop (k + 1) := (List.drop_eq_getElem_cons h)
theorem grown_none {w w' : World} (h : Ext w w') : w.grownBy w' none := ⟨h.os, h.tape, h.output, h.size, fun i hi _ => h.block i hi⟩
theorem grown_pre {w w' : World} {o : Obj} {r : Option Nat} (h : (w.alloc o).grownBy w' r) : w.grownBy w' r :=
  ⟨h.os, h.tape, h.output, Nat.le_trans (by simp) h.size, fun i hi hne => (h.block i (by simp; omega) hne).trans (Below.heap_alloc w o i hi)⟩
theorem own_ge {base : Nat} {e : TypeId} {size : Nat} {v : Value} {n : Nat} {xs : List Value} {W : World} (h : W.ownsRow base e size v n xs) {b : Nat} (hb : b < base) : some b ≠ v.ownBlock := by
  intro e
  have := (h.lt b e.symm).1
  omega
theorem ext_own {a w w' : World} {base : Nat} {e : TypeId} {size : Nat} {v : Value} {n : Nat} {xs : List Value} (h : Ext a w) (hr : w.ownsRow base e size v n xs) (hb : a.heap.size ≤ base) (hg : w.grownBy w' v.ownBlock) : Ext a w' := by
  refine Below.grown h hg h.size (fun k e => ?_)
  by_cases hc : k < base
  · exact absurd e.symm (own_ge hr hc)
  · omega
theorem ret2 {a a' b b' : Value} (h : a = a') (h' : b = b') : Ending.returned (.tuple #[a, b]) = .returned (.tuple #[a', b']) := by rw [h, h']
theorem rets3 {a a' b b' c c' : Value} (h : a = a') (h' : b = b') (h'' : c = c') : Ending.returned (.tuple #[a, b, c]) = .returned (.tuple #[a', b', c']) := by rw [h, h', h'']
theorem vint {a b : Int} (h : a = b) : Value.int .i64 a = .int .i64 b := by rw [h]
theorem ext_keeps {W W' : World} (h : Ext W W') : KeepsOthers W W' :=
  ⟨h.size, fun k _ hk _ => (Below.block h k (Array.getElem?_eq_some_iff.1 hk).1).trans hk⟩
theorem snoc_ind {α : Type} {P : List α → Prop} (h0 : P []) (h1 : ∀ l x, P l → P (l ++ [x])) (l : List α) : P l := by
  rw [← List.reverse_reverse l]
  induction l.reverse with
  | nil => exact h0
  | cons x l ih => rw [List.reverse_cons]; exact h1 _ _ ih

/-- a block that holds these cells, none frozen -/
def Cls (B : Nat) (t : TypeId) (cs : Array Value) (W : World) : Prop := W.heap[B]? = some (.cells cs t (0, 0))
theorem Cls.lt {B : Nat} {t : TypeId} {cs : Array Value} {W : World} (h : Cls B t cs W) : B < W.heap.size := (Array.getElem?_eq_some_iff.1 h).1
theorem Cls.cell {B : Nat} {t : TypeId} {cs : Array Value} {W : World} (h : Cls B t cs W) (i : Nat) : W.cell? ⟨B, i, none⟩ = cs[i]? := by simp [World.cell?, show W.heap[B]? = _ from h]
theorem Cls.frozen {B : Nat} {t : TypeId} {cs : Array Value} {W : World} (h : Cls B t cs W) (i : Nat) : W.frozen? ⟨B, i, none⟩ = false := by simp [World.frozen?, show W.heap[B]? = _ from h]
theorem Cls.ext {B : Nat} {t : TypeId} {cs : Array Value} {W W' : World} (h : Cls B t cs W) (x : Ext W W') : Cls B t cs W' := (Below.block x B h.lt).trans h
theorem Cls.kept {B : Nat} {t : TypeId} {cs : Array Value} {W W' : World} {row : Option Nat} (h : Cls B t cs W) (hg : W.grownBy W' row) (hne : some B ≠ row) : Cls B t cs W' := (hg.block B h.lt hne).trans h
theorem Cls.own {β : Type} (B : Nat) (t : TypeId) (f : β → Array Value) : Own (fun s W => Cls B t (f s) W) := fun s X Y row hs hg hrow =>
  hs.kept hg (fun e' => by obtain ⟨o, ho, hc⟩ := hrow B e'.symm; rw [show X.heap[B]? = _ from hs] at ho; cases ho; cases hc)
theorem Cls.new (W : World) (t : TypeId) (cs : Array Value) : Cls W.heap.size t cs (W.alloc (.cells cs t)) := World.alloc_heap_new W _
theorem Cls.set {B : Nat} {t : TypeId} {cs : Array Value} {W : World} (h : Cls B t cs W) (i : Nat) (u : Value) : Cls B t (cs.setIfInBounds i u) (W.setCell ⟨B, i, none⟩ u) := by
  unfold Cls at h ⊢
  simp [World.setCell, Array.getElem?_modify, h]
theorem Cls.other {B B' : Nat} {t : TypeId} {cs : Array Value} {W : World} (h : Cls B t cs W) (hne : B ≠ B') (i : Nat) (u : Value) : Cls B t cs (W.setCell ⟨B', i, none⟩ u) :=
  (Below.heap_setCell W ⟨B', i, none⟩ u B (by simpa using hne)).trans h
theorem Cls.putObj {B l : Nat} {t : TypeId} {cs : Array Value} {W : World} (h : Cls B t cs W) {o : Obj} (o' : Obj) (hl : W.heap[l]? = some o) (ho : o.isCells = false) : Cls B t cs (W.putObj l o') :=
  h.kept (grownBy_putObj' W l o') (fun e => by cases e; rw [show W.heap[B]? = _ from h] at hl; cases hl; cases ho)
theorem Cls.boxed {B : Nat} {t : TypeId} {v : Value} {W : World} (h : Cls B t #[v] W) : Boxed W B t v := h

theorem ownFrom_size {β : Type} (B m : Nat) : OwnFrom B (fun (_ : β) W => m ≤ W.heap.size) := fun _ _ _ _ hs hg _ => Nat.le_trans hs hg.size
theorem Cls.newAt (W : World) (t : TypeId) (cs : Array Value) {n : Nat} (h : n = W.heap.size) : Cls n t cs (W.alloc (.cells cs t)) := h ▸ Cls.new W t cs
theorem alloc1 {w w1 : World} {c0 : Array Value} {t0 : TypeId} (h : Ext (w.alloc (.cells c0 t0)) w1) : Cls w.heap.size t0 c0 w1 ∧ Ext w w1 ∧ w.heap.size < w1.heap.size :=
  ⟨(Cls.new _ _ _).ext h, Ext.trans (by repeat (first | exact Ext.refl _ | assumption | refine Ext.alloc ?_ _ | refine Ext.drew ?_ | refine Ext.drewN _ ?_ | refine Ext.trans ?_ (by assumption))) h, by have := h.size; simp at this; omega⟩
theorem alloc2 {w w1 : World} {c0 c1 : Array Value} {t0 t1 : TypeId} (h : Ext ((w.alloc (.cells c0 t0)).alloc (.cells c1 t1)) w1) : Cls w.heap.size t0 c0 w1 ∧ Cls (w.heap.size + 1) t1 c1 w1 ∧ Ext w w1 ∧ w.heap.size + 1 < w1.heap.size :=
  ⟨((Cls.new _ _ _).ext (by repeat (first | exact Ext.refl _ | assumption | refine Ext.alloc ?_ _ | refine Ext.drew ?_ | refine Ext.drewN _ ?_ | refine Ext.trans ?_ (by assumption)))).ext h, (Cls.newAt _ _ _ (by simp)).ext h, Ext.trans (by repeat (first | exact Ext.refl _ | assumption | refine Ext.alloc ?_ _ | refine Ext.drew ?_ | refine Ext.drewN _ ?_ | refine Ext.trans ?_ (by assumption))) h, by have := h.size; simp at this; omega⟩
theorem alloc3 {w w1 : World} {c0 c1 c2 : Array Value} {t0 t1 t2 : TypeId} (h : Ext (((w.alloc (.cells c0 t0)).alloc (.cells c1 t1)).alloc (.cells c2 t2)) w1) : Cls w.heap.size t0 c0 w1 ∧ Cls (w.heap.size + 1) t1 c1 w1 ∧ Cls (w.heap.size + 1 + 1) t2 c2 w1 ∧ Ext w w1 ∧ w.heap.size + 1 + 1 < w1.heap.size :=
  ⟨((Cls.new _ _ _).ext (by repeat (first | exact Ext.refl _ | assumption | refine Ext.alloc ?_ _ | refine Ext.drew ?_ | refine Ext.drewN _ ?_ | refine Ext.trans ?_ (by assumption)))).ext h, ((Cls.newAt (w.alloc (.cells c0 t0)) _ _ (by simp)).ext (by repeat (first | exact Ext.refl _ | assumption | refine Ext.alloc ?_ _ | refine Ext.drew ?_ | refine Ext.drewN _ ?_ | refine Ext.trans ?_ (by assumption)))).ext h, (Cls.newAt _ _ _ (by simp)).ext h, Ext.trans (by repeat (first | exact Ext.refl _ | assumption | refine Ext.alloc ?_ _ | refine Ext.drew ?_ | refine Ext.drewN _ ?_ | refine Ext.trans ?_ (by assumption))) h, by have := h.size; simp at this; omega⟩
theorem alloc4 {w w1 : World} {c0 c1 c2 c3 : Array Value} {t0 t1 t2 t3 : TypeId} (h : Ext ((((w.alloc (.cells c0 t0)).alloc (.cells c1 t1)).alloc (.cells c2 t2)).alloc (.cells c3 t3)) w1) : Cls w.heap.size t0 c0 w1 ∧ Cls (w.heap.size + 1) t1 c1 w1 ∧ Cls (w.heap.size + 1 + 1) t2 c2 w1 ∧ Cls (w.heap.size + 1 + 1 + 1) t3 c3 w1 ∧ Ext w w1 ∧ w.heap.size + 1 + 1 + 1 < w1.heap.size :=
  ⟨((Cls.new _ _ _).ext (by repeat (first | exact Ext.refl _ | assumption | refine Ext.alloc ?_ _ | refine Ext.drew ?_ | refine Ext.drewN _ ?_ | refine Ext.trans ?_ (by assumption)))).ext h, ((Cls.newAt (w.alloc (.cells c0 t0)) _ _ (by simp)).ext (by repeat (first | exact Ext.refl _ | assumption | refine Ext.alloc ?_ _ | refine Ext.drew ?_ | refine Ext.drewN _ ?_ | refine Ext.trans ?_ (by assumption)))).ext h, ((Cls.newAt ((w.alloc (.cells c0 t0)).alloc (.cells c1 t1)) _ _ (by simp)).ext (by repeat (first | exact Ext.refl _ | assumption | refine Ext.alloc ?_ _ | refine Ext.drew ?_ | refine Ext.drewN _ ?_ | refine Ext.trans ?_ (by assumption)))).ext h, (Cls.newAt _ _ _ (by simp)).ext h, Ext.trans (by repeat (first | exact Ext.refl _ | assumption | refine Ext.alloc ?_ _ | refine Ext.drew ?_ | refine Ext.drewN _ ?_ | refine Ext.trans ?_ (by assumption))) h, by have := h.size; simp at this; omega⟩
/-- what a round keeps: all that lay below n₀, and some blocks -/
def KpB (n₀ : Nat) (bs : List Nat) (W W' : World) : Prop := Below n₀ W W' ∧ ∀ b ∈ bs, W'.heap[b]? = W.heap[b]?
theorem KpB.trans {n₀ : Nat} {bs : List Nat} {A B C : World} (h : KpB n₀ bs A B) (k : KpB n₀ bs B C) : KpB n₀ bs A C := ⟨h.1.trans k.1, fun b hb => (k.2 b hb).trans (h.2 b hb)⟩
theorem KpB.refl (n₀ : Nat) (bs : List Nat) (A : World) : KpB n₀ bs A A := ⟨Below.refl _ _, fun _ _ => rfl⟩
theorem KpB.ext {n₀ : Nat} {bs : List Nat} {A B : World} (h : Ext A B) (h1 : n₀ ≤ A.heap.size) (h2 : ∀ b ∈ bs, b < A.heap.size) : KpB n₀ bs A B := ⟨Below.mono h h1, fun b hb => Below.block h b (h2 b hb)⟩
theorem KpB.set {n₀ : Nat} {bs : List Nat} (A : World) {p : Addr} (hp : n₀ ≤ p.block) (hb : p.block ∉ bs) (u : Value) : KpB n₀ bs A (A.setCell p u) :=
  ⟨(Below.refl _ _).setCell hp u, fun b h => Below.heap_setCell A p u b (fun e => hb (e ▸ h))⟩
theorem KpB.cell {n₀ : Nat} {bs : List Nat} {A B : World} (h : KpB n₀ bs A B) {b o : Nat} {v : Value} (hb : b ∈ bs) (hc : A.cell? ⟨b, o, none⟩ = some v) : B.cell? ⟨b, o, none⟩ = some v :=
  (World.cell?_of_block (h.2 b hb)).trans hc
theorem KpB.cls {n₀ : Nat} {bs : List Nat} {A B : World} (h : KpB n₀ bs A B) {b : Nat} {t : TypeId} {cs : Array Value} (hb : b ∈ bs) (hc : Cls b t cs A) : Cls b t cs B := (h.2 b hb).trans hc
theorem kpB_b {n₀ : Nat} {bs : List Nat} {w : World} (h1 : n₀ ≤ w.heap.size) (h2 : ∀ b ∈ bs, b < w.heap.size) : ∀ (W : World) (l : Nat) (o o' : Obj), w.heap.size ≤ l → W.heap[l]? = some o → o.isCells = false → o.isWalk = false → KpB n₀ bs W (W.putObj l o') :=
  fun W l o o' hl ho hc hw => ⟨belowK_b h1 W l o o' hl ho hc hw, fun b hb => World.putObj_heap_other (by have := h2 b hb; omega)⟩

/-- 'out = append(out, ..)' of a row whose blocks lie from 'base' on, 'out' in a box: what the walk owes behind it. -/
theorem appended2 {W w1 : World} {base B : Nat} {t e : TypeId} {size : Nat} {v v' : Value} {k m : Nat} {xs ys : List Value} {tmp : Obj}
    (hv : Boxed W B t v) (hte : t ≠ e) (hrow : W.ownsRow base e size v k xs) (hbW : base ≤ W.heap.size)
    (hown' : w1.ownsRow base e size v' m ys) (hgrow : (W.alloc tmp).grownBy w1 v.ownBlock) :
    Boxed w1 B t v ∧ Boxed (w1.setCell ⟨B, 0, none⟩ v') B t v' ∧ (w1.setCell ⟨B, 0, none⟩ v').ownsRow base e size v' m ys ∧ KeepsOthers W (w1.setCell ⟨B, 0, none⟩ v') ∧
      (∀ b, b < base → b ≠ B → (w1.setCell ⟨B, 0, none⟩ v').heap[b]? = W.heap[b]?) ∧ (∀ n₀, n₀ ≤ base → n₀ ≤ B → Below n₀ W (w1.setCell ⟨B, 0, none⟩ v')) := by
  have hv1 : Boxed w1 B t v := (hv.alloc tmp).kept hgrow (hv.not_row hte hrow)
  refine ⟨hv1, hv1.set v', hown'.kept (grownBy_setCell' w1 B v') (.inr (hv1.not_row hte hown').symm), ?_, ?_, ?_⟩
  · refine ((KeepsOthers.alloc W tmp).trans (KeepsOthers.of_grownBy hgrow fun j o ej hj => ?_)).trans (KeepsOthers.setCell _ _ _)
    rcases (hrow.alloc tmp).2 with ⟨rfl, _⟩ | ⟨g, cap, cur, rfl, _, hgb, _⟩
    · simp [Value.ownBlock] at ej
    · obtain rfl : g = j := by simpa [Value.ownBlock] using ej
      rw [hgb] at hj; cases hj; rfl
  · intro b hb hne
    rw [Below.heap_setCell _ _ _ _ (by simpa using hne)]
    refine (hgrow.block b (by simp; omega) (fun e => ?_)).trans (Below.heap_alloc W tmp b (by omega))
    have := (hrow.lt b e.symm).1
    omega
  · intro n₀ h1 h2
    refine (((Below.refl n₀ W).alloc (by omega) tmp).grown hgrow (by simp; omega) fun j ej => ?_).setCell (p := ⟨B, 0, none⟩) h2 v'
    have := (hrow.lt j ej).1
    omega

/-- A LOOP OVER AN ITERATOR, at the wide fence: 'Ext' for what is kept. -/
theorem range_law {α : Type} {P : Program} {g : Operand} {ps : Array Tmp} {assign body : Code} {Q : Exit → Act → World → Prop} {a : Act} {w : World}
    {gf : Nat} {lb : Array Value} (hg : a.eval g = .func (.func gf) #[] lb) (eg : ∀ args w, (callFunc gf args).run P w = .ok (.enter gf args) w)
    {encs : α → Array Value} {S Sp : List α → Prop} {N : Nat} {w0 : World} (hseq : SeqStopsK Fence.wide 4 P gf lb encs (Below w0.heap.size) S Sp N w0)
    (hb0 : Ext w0 w) (hps : ∀ x, (encs x).size = ps.size)
    (I : List α → World → Prop) (Ix : Code → List α → World → Prop) (hI : OwnFrom w.heap.size I) (hIx : ∀ c, OwnFrom w.heap.size (Ix c)) (h0 : I [] w)
    (hr : ∃ a₁ : α → Act, (∀ (l : Nat) (x : α) (W : World) (K : Act → World → Prop), K (a₁ x) W →
      assign.wpIn (Fence.wide.inRound l) 3 P (Exit.then K (fun _ _ _ => False)) { tmps := (ps.zip (encs x)).foldl (fun t (p, v) => t.setIfInBounds p v) a.tmps, defers := [] } W) ∧
      (∀ (l : Nat) (pre : List α) (x : α) (W : World), I pre W → pre.length < N → body.wpIn (Fence.wide.inRound l) 3 P (ownPostG w.heap.size (Below w0.heap.size) I Ix (pre ++ [x]) W) (a₁ x) W))
    (hdone : ∀ (D : Nat) (xs : List α) (W : World), w.heap.size ≤ D → S xs → I xs W → W.heap[D]? = some (.deferred (some [])) → Q .normal { a with defers := { target := .collected D, args := #[] } :: a.defers } W)
    (hstop : ∀ (D : Nat) (c : Code) (pre : List α) (W : World), w.heap.size ≤ D → Sp pre → Ix c pre W → W.heap[D]? = some (.deferred (some [])) → c.wpIn Fence.wide 5 P Q { a with defers := { target := .collected D, args := #[] } :: a.defers } W) :
    (Code.rangeFunc g ps assign body).wpIn Fence.wide 5 P Q a w := by
  obtain ⟨a₁, ha, hb⟩ := hr
  exact wpIn_rangeFunc_ownG rfl (by omega) hg trivial eg hseq (fun h k => belowK_t h k) (belowK_b hb0.size) hb0 hps I Ix hI hIx h0 a₁ ha hb hdone hstop


/-! ### AN ITERATOR THAT KEEPS ITS STATE IN A BOX OF ITS OWN -/
/-- what stays true when the iterator writes its box, or lays a block -/
structure AbidesBox {β : Type} (Br : Nat) (J : β → World → Prop) : Prop where
  set : ∀ s W u, J s W → J s (W.setCell ⟨Br, 0, none⟩ u)
  ext : ∀ s W o, J s W → J s (W.alloc o)
theorem AbidesBox.and {β : Type} {Br : Nat} {J K : β → World → Prop} (h : AbidesBox Br J) (k : AbidesBox Br K) : AbidesBox Br (fun s W => J s W ∧ K s W) :=
  ⟨fun s W u hs => ⟨h.set s W u hs.1, k.set s W u hs.2⟩, fun s W o hs => ⟨h.ext s W o hs.1, k.ext s W o hs.2⟩⟩
theorem abidesBox_below {β : Type} {n₀ Br : Nat} {w : World} (h : n₀ ≤ Br) (h' : n₀ ≤ w.heap.size) : AbidesBox Br (fun (_ : β) W => Below n₀ w W) :=
  ⟨fun _ _ u hs => hs.setCell (p := ⟨Br, 0, none⟩) h u, fun _ _ o hs => hs.alloc (Nat.le_trans h' hs.size) o⟩
theorem abidesBox_cls {β : Type} {B Br : Nat} (t : TypeId) (f : β → Array Value) (h : B ≠ Br) : AbidesBox Br (fun s W => Cls B t (f s) W) :=
  ⟨fun _ _ _ hs => hs.other h 0 _, fun _ _ _ hs => hs.ext (by repeat (first | exact Ext.refl _ | assumption | refine Ext.alloc ?_ _ | refine Ext.drew ?_ | refine Ext.drewN _ ?_ | refine Ext.trans ?_ (by assumption)))⟩
theorem abidesBox_size {β : Type} {Br : Nat} (m : Nat) : AbidesBox Br (fun (_ : β) (W : World) => m ≤ W.heap.size) :=
  ⟨fun _ _ _ hs => by simpa [World.setCell] using hs, fun _ _ _ hs => by simp; omega⟩
theorem abidesBox_false {β : Type} {Br : Nat} : AbidesBox Br (fun (_ : β) (_ : World) => False) := ⟨fun _ _ _ h => h, fun _ _ _ h => h⟩
theorem abidesBox_block {β : Type} {Br L : Nat} (o : Obj) (h : L ≠ Br) : AbidesBox Br (fun (_ : β) (W : World) => W.heap[L]? = some o) :=
  ⟨fun _ W u hs => (Below.heap_setCell W ⟨Br, 0, none⟩ u L h).trans hs, fun _ W o' hs => (Below.heap_alloc W o' L (Array.getElem?_eq_some_iff.1 hs).1).trans hs⟩
/-- the contract of such an iterator: whatever the round does that keeps 'Kp' -/
def SeqBox {α : Type} (n : Nat) (P : Program) (g : Nat) (lb : Array Value) (encs : α → Array Value) (Br : Nat) (Kp : World → World → Prop) (S Sp : List α → Prop) (N : List α → α → Prop) (w : World) : Prop :=
  ∀ (l : Nat) (J Jx : List α → World → Prop) (W : World), Below w.heap.size w W → AbidesBox Br J →
    (∀ pre x W1, J pre W1 → N pre x → YieldAt Fence.wide (n - 1) P l (encs x) W1 fun e W' =>
      (e = .returned (.bool true) ∧ J (pre ++ [x]) W' ∧ Kp W1 W') ∨ (e = .returned (.bool false) ∧ Jx (pre ++ [x]) W')) →
    J [] W →
    CallsIn Fence.wide n P g (#[.func (.yield l) #[] #[]] ++ lb) W fun e W' => (∃ v, e = .returned v) ∧ ((∃ xs, S xs ∧ J xs W') ∨ (∃ pre, Sp pre ∧ Jx pre W'))

set_option maxHeartbeats 1000000 in
/-- A LOOP OVER SUCH AN ITERATOR, its loop variable in a slot, or in none. -/
theorem range_own {α : Type} {P : Program} {g : Operand} {ps : Array Tmp} {assign body : Code} {Q : Exit → Act → World → Prop} {a : Act} {w : World}
    {gf : Nat} {lb : Array Value} (hg : a.eval g = .func (.func gf) #[] lb) (eg : ∀ args w, (callFunc gf args).run P w = .ok (.enter gf args) w)
    {n₀ Br : Nat} {bs : List Nat} (hn0 : n₀ ≤ w.heap.size) (hbs : ∀ b ∈ bs, b < w.heap.size) (hBr : Br < w.heap.size)
    {encs : α → Array Value} {S Sp : List α → Prop} {N : List α → α → Prop} (hseq : SeqBox 4 P gf lb encs Br (KpB n₀ bs) S Sp N w)
    (hps : ∀ x, (encs x).size = ps.size)
    (I : List α → World → Prop) (Ix : Code → List α → World → Prop) (hI : OwnFrom w.heap.size I) (hIx : ∀ c, OwnFrom w.heap.size (Ix c)) (hIb : AbidesBox Br I) (h0 : I [] w)
    (hr : ∃ a₁ : α → Act, (∀ (l : Nat) (x : α) (W : World) (K : Act → World → Prop), K (a₁ x) W →
      assign.wpIn (Fence.wide.inRound l) 3 P (Exit.then K (fun _ _ _ => False)) { tmps := (ps.zip (encs x)).foldl (fun t (p, v) => t.setIfInBounds p v) a.tmps, defers := [] } W) ∧
      (∀ (l : Nat) (pre : List α) (x : α) (W : World), I pre W → N pre x → body.wpIn (Fence.wide.inRound l) 3 P (ownPostG w.heap.size (KpB n₀ bs) I Ix (pre ++ [x]) W) (a₁ x) W))
    (hdone : ∀ (D : Nat) (xs : List α) (W : World), w.heap.size ≤ D → S xs → I xs W → W.heap[D]? = some (.deferred (some [])) → Q .normal { a with defers := { target := .collected D, args := #[] } :: a.defers } W)
    (hstop : ∀ (D : Nat) (c : Code) (pre : List α) (W : World), w.heap.size ≤ D → Sp pre → Ix c pre W → W.heap[D]? = some (.deferred (some [])) → c.wpIn Fence.wide 5 P Q { a with defers := { target := .collected D, args := #[] } :: a.defers } W) :
    (Code.rangeFunc g ps assign body).wpIn Fence.wide 5 P Q a w := by
  obtain ⟨a₁, hass, hbody⟩ := hr
  refine wpIn_rangeFunc fun fn hfn => ?_
  let D := w.heap.size
  let L := w.heap.size + 1
  let rc : LoopState → Option Code → Obj := fun st pe => .loop { state := st, pending := pe, fn, tmps := a.tmps, params := ps, assign, body, defers := D }
  let W1 := (w.alloc (.deferred (some []))).alloc (rc .ready none)
  have bL : W1.heap[L]? = some (rc .ready none) := by
    have h := World.alloc_heap_new (w.alloc (.deferred (some []))) (rc .ready none)
    rwa [World.size_alloc] at h
  have bD : W1.heap[D]? = some (.deferred (some [])) := (Below.heap_alloc _ _ _ (by simp [D])).trans (World.alloc_heap_new w _)
  have bW : Below w.heap.size w W1 := ((Below.refl _ w).alloc (Nat.le_refl _) _).alloc (by simp) _
  have put : ∀ (W : World) (l : Nat) (o o' : Obj), w.heap.size ≤ l → W.heap[l]? = some o → o.isCells = false → o.isWalk = false → KpB n₀ bs W (W.putObj l o') := kpB_b hn0 hbs
  refine ⟨L, [{ target := .collected D, args := #[] }], W1, { target := .fn (.func gf) lb, args := #[.func (.yield L) #[] #[]] }, W1, gf, #[.func (.yield L) #[] #[]] ++ lb, W1,
    run_enterLoop_outer _ _ _ _ _, by simp only [resolve, hg]; simp [go_sem], fun f' hf' => by simp [Target.leads] at hf'; subst hf'; exact trivial, by simp [invoke, go_sem, eg], fun _ => by omega, ?_⟩
  refine (hseq L (fun pre W => I pre W ∧ W.heap[L]? = some (rc .ready none) ∧ W.heap[D]? = some (.deferred (some [])))
    (fun pre W => ∃ c, Ix c pre W ∧ W.heap[L]? = some (rc .done (some c)) ∧ W.heap[D]? = some (.deferred (some []))) W1 bW
    (hIb.and ((abidesBox_block _ (by simp only [L]; omega)).and (abidesBox_block _ (by simp only [D]; omega)))) ?_ ⟨hI.alloc _ (hI.alloc _ h0), bL, bD⟩).mono ?_
  · rintro pre x W ⟨hi, hl, hk⟩ hlen
    refine ⟨fn, _, assign, body, run_yield hl (hps x), roundIn_of_wpIn hfn (hass _ x W _ ⟨_, run_beginRound hl rfl, ?_⟩)⟩
    have hlt : L < W.heap.size := (Array.getElem?_eq_some_iff.1 hl).1
    let W2 := W.putObj L (rc .busy none)
    have hl2 : W2.heap[L]? = some (rc .busy none) := World.putObj_heap_same hlt
    have hk2 : W2.heap[D]? = some (.deferred (some [])) := (World.putObj_heap_other (by simp [D, L])).trans hk
    refine wpIn_mono (hbody _ pre x _ (hI.putObj _ hi (by simp [L]) hl rfl) hlen) ?_
    have fin : ∀ (j : Option Code) (W3 : World), KeepsFrom w.heap.size W2 W3 →
        (Instr.endRound L j).run P W3 = .ok (.bool j.isNone) (W3.putObj L (rc (if j.isNone then .ready else .done) j)) ∧ W3.heap[L]? = some (rc .busy none) ∧
        (W3.putObj L (rc (if j.isNone then .ready else .done) j)).heap[L]? = some (rc (if j.isNone then .ready else .done) j) ∧ (W3.putObj L (rc (if j.isNone then .ready else .done) j)).heap[D]? = some (.deferred (some [])) := fun j W3 hk3 => by
      have e := hk3.same _ _ (by simp [L]) hl2 rfl
      exact ⟨run_endRound j e, e, World.putObj_heap_same (Array.getElem?_eq_some_iff.1 e).1, (World.putObj_heap_other (by simp [D, L])).trans (hk3.same _ _ (by simp [D]) hk2 rfl)⟩
    rintro e a3 W3 hp
    cases e with
    | normal =>
      obtain ⟨p1, p2, p3⟩ := hp
      obtain ⟨f1, f2, f3, f4⟩ := fin none W3 p1
      exact ⟨_, _, f1, .inl ⟨rfl, ⟨hI.putObj _ p3 (by simp [L]) f2 rfl, f3, f4⟩, KpB.trans (KpB.trans (put W L _ _ (by simp [L]) hl rfl rfl) p2) (put _ _ _ _ (by simp [L]) f2 rfl rfl)⟩⟩
    | ret =>
      obtain ⟨f1, f2, f3, f4⟩ := fin (some .ret) W3 hp.1
      exact ⟨_, _, f1, .inr ⟨rfl, .ret, (hIx _).putObj _ hp.2 (by simp [L]) f2 rfl, f3, f4⟩⟩
    | exit id =>
      obtain ⟨f1, f2, f3, f4⟩ := fin (some (.exit id)) W3 hp.1
      exact ⟨_, _, f1, .inr ⟨rfl, .exit id, (hIx _).putObj _ hp.2 (by simp [L]) f2 rfl, f3, f4⟩⟩
    | goto t =>
      obtain ⟨f1, f2, f3, f4⟩ := fin (some (.goto t)) W3 hp.1
      exact ⟨_, _, f1, .inr ⟨rfl, .goto t, (hIx _).putObj _ hp.2 (by simp [L]) f2 rfl, f3, f4⟩⟩
    | panic ch => exact hp.elim
    | outgrown => exact hp.elim
  · rintro e W2 ⟨⟨v, rfl⟩, (⟨xs, hS, hi, hl, hk⟩ | ⟨pre, hSp, c, hi, hl, hk⟩)⟩
    · exact ⟨none, _, run_endLoop hl (by simp), hdone _ xs _ (Nat.le_refl _) hS (hI.putObj _ hi (by simp [L]) hl rfl) ((World.putObj_heap_other (by simp [D, L])).trans hk)⟩
    · exact ⟨some c, _, run_endLoop hl (by simp), hstop _ c pre _ (Nat.le_refl _) hSp ((hIx c).putObj _ hi (by simp [L]) hl rfl) ((World.putObj_heap_other (by simp [D, L])).trans hk)⟩

/-! ### A FUNCTION THAT LEAVES WITH MANY MARKS (a loop over an iterator within a loop) -/
/-- the marks of loops that are over, each with a block of its own that lies from n₀ on -/
structure MarksAt (n₀ : Nat) (Ds : List Nat) (W : World) : Prop where
  nd : Ds.Nodup
  at_ : ∀ D ∈ Ds, n₀ ≤ D ∧ W.heap[D]? = some (.deferred (some []))
def marksOf (Ds : List Nat) : List Deferred := Ds.map (fun D => { target := .collected D, args := #[] })
theorem marks_nil (n₀ : Nat) (W : World) : MarksAt n₀ [] W := ⟨List.nodup_nil, fun _ h => by simp at h⟩
theorem MarksAt.ext {n₀ : Nat} {Ds : List Nat} {W W' : World} (h : MarksAt n₀ Ds W) (x : Ext W W') : MarksAt n₀ Ds W' :=
  ⟨h.nd, fun D hD => ⟨(h.at_ D hD).1, (Below.block x D (Array.getElem?_eq_some_iff.1 (h.at_ D hD).2).1).trans (h.at_ D hD).2⟩⟩
theorem MarksAt.grown {n₀ : Nat} {Ds : List Nat} {W W' : World} {row : Option Nat} (h : MarksAt n₀ Ds W) (hg : W.grownBy W' row) (hne : ∀ D ∈ Ds, some D ≠ row) : MarksAt n₀ Ds W' :=
  ⟨h.nd, fun D hD => ⟨(h.at_ D hD).1, (hg.block D (Array.getElem?_eq_some_iff.1 (h.at_ D hD).2).1 (hne D hD)).trans (h.at_ D hD).2⟩⟩
theorem KpB.grown {n₀ : Nat} {bs : List Nat} {A B : World} {b : Nat} (hg : A.grownBy B (some b)) (hb : n₀ ≤ b) (hbs : ∀ x ∈ bs, x < A.heap.size ∧ x ≠ b) (hn : n₀ ≤ A.heap.size) : KpB n₀ bs A B :=
  ⟨(Below.refl n₀ A).grown hg hn (fun k e => by cases e; exact hb), fun x hx => hg.block x (hbs x hx).1 (fun e => (hbs x hx).2 (Option.some.inj e))⟩
theorem MarksAt.kept {n₀ : Nat} {Ds : List Nat} {W W' : World} (h : MarksAt n₀ Ds W) (x : KeepsOthers W W') : MarksAt n₀ Ds W' :=
  ⟨h.nd, fun D hD => ⟨(h.at_ D hD).1, x.same D _ (h.at_ D hD).2 rfl⟩⟩
theorem MarksAt.cons {n₀ D : Nat} {Ds : List Nat} {W0 W : World} (h0 : MarksAt n₀ Ds W0) (h : MarksAt n₀ Ds W) (hD : W0.heap.size ≤ D) (hn : n₀ ≤ D) (hk : W.heap[D]? = some (.deferred (some []))) : MarksAt n₀ (D :: Ds) W :=
  ⟨List.nodup_cons.2 ⟨fun hm => by have := (Array.getElem?_eq_some_iff.1 (h0.at_ D hm).2).1; omega, h.nd⟩, fun x hx => by
    rcases List.mem_cons.1 hx with rfl | hx
    · exact ⟨hn, hk⟩
    · exact h.at_ x hx⟩
/-- the function's end: the marks are swept, one by one -/
theorem leaves_marks {n₀ : Nat} {n : Nat} {P : Program} {fn : Func} {tmps : Array Value} {R : Ending → World → Prop} {X : World → Prop}
    (hX : ∀ W D, n₀ ≤ D → W.heap[D]? = some (.deferred (some [])) → X W → X (W.putObj D (.deferred none))) (hend : ∀ W, X W → LeavesInM Fence.wide n P fn tmps R [] .returning W) :
    ∀ (Ds : List Nat) (W : World), MarksAt n₀ Ds W → X W → LeavesInM Fence.wide n P fn tmps R (marksOf Ds) .returning W := by
  intro Ds
  induction Ds with
  | nil => intro W _ hx; exact hend W hx
  | cons D Ds ih =>
    intro W h hx
    obtain ⟨h1, h2⟩ := h.at_ D (by simp)
    obtain ⟨n1, n2⟩ := List.nodup_cons.1 h.nd
    refine ⟨by simp, .inl ⟨_, _, rfl, run_takeDeferred h2, ih _ ⟨n2, fun x hx' => ?_⟩ (hX W D h1 h2 hx)⟩⟩
    obtain ⟨h3, h4⟩ := h.at_ x (by simp [hx'])
    exact ⟨h3, (World.putObj_heap_other (fun (e : x = D) => n1 (e ▸ hx'))).trans h4⟩
theorem ownFrom_swept {n₀ : Nat} {β : Type} {I : β → World → Prop} (h : OwnFrom n₀ I) (s : β) : ∀ W D, n₀ ≤ D → W.heap[D]? = some (.deferred (some [])) → I s W → I s (W.putObj D (.deferred none)) :=
  fun _ _ hD hk hs => h.putObj _ hs hD hk rfl
theorem ownFrom_row {β : Type} (B base : Nat) (e : TypeId) (size : Nat) (v : β → Value) (k : β → Nat) (xs : β → List Value) : OwnFrom B (fun s W => W.ownsRow base e size (v s) (k s) (xs s)) := fun s W W' row hs hg hr => by
  refine World.ownsRow.kept hs hg ?_
  rcases hs.2 with ⟨hn, _⟩ | ⟨g, cap, cur, hv, _, hgb, _⟩
  · left; rw [hn]; rfl
  · right
    intro e'
    rw [hv] at e'
    cases row with
    | none => simp [Value.ownBlock] at e'
    | some r =>
      obtain ⟨o, ho, hc⟩ := (hr r rfl).2
      have : g = r := by simpa [Value.ownBlock] using e'
      subst this
      rw [hgb] at ho; cases ho; cases hc

/-! ### A LOOP WHOSE MEASURE IS NO PART OF THE STATE, WITHIN A FENCE -/
theorem least_ghost {p : Nat → Prop} : ∀ g, p g → ∃ m, p m ∧ ∀ k, p k → m ≤ k := by
  intro g
  induction g using Nat.strongRecOn with
  | _ g ih =>
    intro hg
    by_cases h : ∃ k, k < g ∧ p k
    · obtain ⟨k, h1, h2⟩ := h
      exact ih k h1 h2
    · refine ⟨g, hg, fun k hk => ?_⟩
      by_cases hc : g ≤ k
      · exact hc
      · exact absurd ⟨k, by omega, hk⟩ h
open Classical in
noncomputable def leastG (p : Nat → Prop) : Nat := if h : ∃ m, p m ∧ ∀ k, p k → m ≤ k then Classical.choose h else 0
theorem leastG_spec {p : Nat → Prop} {g : Nat} (hg : p g) : p (leastG p) ∧ ∀ k, p k → leastG p ≤ k := by
  have h := least_ghost g hg
  unfold leastG
  rw [dif_pos h]
  exact Classical.choose_spec h
theorem wpIn_loopg {F : Fence} {n : Nat} {P : Program} {Q : Exit → Act → World → Prop} {a : Act} {w : World} {c : Code} (I : Nat → Act → World → Prop) (g : Nat) (h0 : I g a w)
    (round : ∀ g a w, I g a w → c.wpIn F n P (Exit.then (fun a' w' => ∃ g', g' < g ∧ I g' a' w') Q) a w) : (Code.loop c).wpIn F n P Q a w := by
  refine wpIn_loop (fun a w => ∃ g, I g a w) (fun a w => leastG (fun g => I g a w)) ⟨g, h0⟩ ?_
  rintro a w ⟨g, hg⟩
  obtain ⟨h1, h2⟩ := leastG_spec (p := fun g => I g a w) hg
  refine wpIn_mono (round _ a w h1) ?_
  intro e a' w' h
  cases e with
  | normal =>
    obtain ⟨g', h3, h4⟩ := h
    obtain ⟨_, h5⟩ := leastG_spec (p := fun g => I g a' w') h4
    exact ⟨⟨g', h4⟩, Nat.lt_of_le_of_lt (h5 g' h4) h3⟩
  | _ => exact h
theorem marks_own {β : Type} {B n₀ : Nat} {Ds : List Nat} (h : ∀ D ∈ Ds, D < B) : OwnFrom B (fun (_ : β) W => MarksAt n₀ Ds W) := fun _ _ _ _ hs hg hr =>
  ⟨hs.nd, fun D hD => ⟨(hs.at_ D hD).1, (hg.block D (Array.getElem?_eq_some_iff.1 (hs.at_ D hD).2).1 (fun e => by have h1 := h D hD; have h2 := (hr D e.symm).1; omega)).trans (hs.at_ D hD).2⟩⟩
theorem marks_abide {β : Type} {Br n₀ : Nat} {Ds : List Nat} : AbidesBox Br (fun (_ : β) W => MarksAt n₀ Ds W) :=
  ⟨fun _ _ _ hs => hs.kept (KeepsOthers.setCell _ _ _), fun _ _ _ hs => hs.ext (by repeat (first | exact Ext.refl _ | assumption | refine Ext.alloc ?_ _ | refine Ext.drew ?_ | refine Ext.drewN _ ?_ | refine Ext.trans ?_ (by assumption)))⟩
theorem MarksAt.lt {n₀ : Nat} {Ds : List Nat} {W : World} (h : MarksAt n₀ Ds W) : ∀ D ∈ Ds, D < W.heap.size := fun D hD => (Array.getElem?_eq_some_iff.1 (h.at_ D hD).2).1

/-! ### MAPS WITHIN A FENCE -/
section
variable {P : Program} {κ : Type} {enc : κ → Value} {kt et mt : TypeId} {w : World} {b : Nat} {l : List (κ × Value)}
variable {ops : Array Oper} {rest : List Oper} {o : Oper} {a : Act} {Q : Exit → Act → World → Prop} {F : Fence} {nF : Nat}
theorem wpListIn_rangeMap (hg : o.guard = none) (m : Operand) (hop : o.op = Op.range mt m) (ht : P.underlying mt = some (.map kt et)) (hm : a.eval m = .map (some b)) (h : MapAt enc w b l)
    (hK : ∀ w', RangeAt enc w' b w.heap.size l [] → Ext w w' → wpListIn F nF P ops Q rest (a.put o.dst (.pointer (some ⟨w.heap.size, 0, none⟩))) w') : wpListIn F nF P ops Q (o :: rest) a w := by
  refine wpListIn_plain hg fun K' hK' => ?_
  obtain ⟨w', hrun, r1, r2⟩ := run_rangeMap ht h
  unfold Oper.wpIn
  refine ⟨by simp [Oper.about, hop], ?_⟩
  rw [Oper.semAt_plain F _ _ (by rw [hop]; intro c hc'; cases hc')]
  simp [execOp, hop, hm, hrun, Result.andThen]
  exact hK' _ _ (hK w' r1 r2)
theorem wpListIn_nextMap {r : Nat} {d : List κ} (hg : o.guard = none) (it : Operand) (hop : o.op = Op.next it false) (hi : ∀ a c, enc a = enc c → a = c) (hit : a.eval it = .pointer (some ⟨r, 0, none⟩)) (h : RangeAt enc w b r l d)
    (hDone : (∀ k ∈ l.map (·.1), k ∈ d) → wpListIn F nF P ops Q rest (a.put o.dst (.tuple #[.bool false])) w)
    (hMore : ∀ k v w', (k, v) ∈ l → k ∉ d → RangeAt enc w' b r l (d ++ [k]) → w.grownBy w' (some r) → (Instr.entry (.pointer (some ⟨r, 0, none⟩))).run P w' = .ok (.tuple #[enc k, v]) w' → wpListIn F nF P ops Q rest (a.put o.dst (.tuple #[.bool true, enc k, v])) w') :
    wpListIn F nF P ops Q (o :: rest) a w := by
  refine wpListIn_plain hg fun K' hK' => ?_
  unfold Oper.wpIn
  refine ⟨by simp [Oper.about, hop], ?_⟩
  rw [Oper.semAt_plain F _ _ (by rw [hop]; intro c hc'; cases hc')]
  rcases run_nextMap (P := P) hi h o.type with ⟨h0, hrun⟩ | ⟨k, v, w', h1, h2, hrun, h3, h4, h5⟩
  · simp [execOp, hop, hit, hrun, Result.andThen]
    exact hK' _ _ (hDone h0)
  · simp [execOp, hop, hit, hrun, Result.andThen]
    exact hK' _ _ (hMore k v w' h1 h2 h3 h4 h5)
theorem wpListIn_nextRun {r : Nat} (hg : o.guard = none) (it : Operand) (hop : o.op = Op.next it false) (hit : a.eval it = .pointer (some ⟨r, 0, none⟩)) {v : Value} {w' : World} (hrun : (Instr.next (.pointer (some ⟨r, 0, none⟩)) false o.type).run P w = .ok v w')
    (hK : wpListIn F nF P ops Q rest (a.put o.dst v) w') : wpListIn F nF P ops Q (o :: rest) a w := by
  refine wpListIn_plain hg fun K' hK' => ?_
  unfold Oper.wpIn
  refine ⟨by simp [Oper.about, hop], ?_⟩
  rw [Oper.semAt_plain F _ _ (by rw [hop]; intro c hc'; cases hc')]
  simp [execOp, hop, hit, hrun, Result.andThen]
  exact hK' _ _ hK
end
end Go.Proofs.Ytiofdfjcaklmcaa
namespace Go.Proofs.Ytiofdfjcaklmcaa
open Go.RowKit Go.Shelf

attribute [local go_sem] Oper.semAt_some

set_option maxHeartbeats 1000000 in
/-- A LOOP OVER SUCH AN ITERATOR, a loop variable in a block of its own. -/
theorem range_own2 {α : Type} {P : Program} {g : Operand} {ps : Array Tmp} {assign body : Code} {Q : Exit → Act → World → Prop} {a : Act} {w : World}
    {gf : Nat} {lb : Array Value} (hg : a.eval g = .func (.func gf) #[] lb) (eg : ∀ args w, (callFunc gf args).run P w = .ok (.enter gf args) w)
    {n₀ Br : Nat} {bs : List Nat} (hn0 : n₀ ≤ w.heap.size) (hbs : ∀ b ∈ bs, b < w.heap.size) (hBr : Br < w.heap.size)
    {encs : α → Array Value} {S Sp : List α → Prop} {N : List α → α → Prop} (hseq : SeqBox 4 P gf lb encs Br (KpB n₀ bs) S Sp N w)
    (hps : ∀ x, (encs x).size = ps.size)
    (I : List α → World → Prop) (Ix : Code → List α → World → Prop) (hI : OwnFrom w.heap.size I) (hIx : ∀ c, OwnFrom w.heap.size (Ix c)) (hIb : AbidesBox Br I) (h0 : I [] w)
    (ob : α → Obj)
    (hr : ∃ a₁ : α → World → Act, (∀ (l : Nat) (x : α) (W : World) (K : Act → World → Prop), K (a₁ x W) (W.alloc (ob x)) →
      assign.wpIn (Fence.wide.inRound l) 3 P (Exit.then K (fun _ _ _ => False)) { tmps := (ps.zip (encs x)).foldl (fun t (p, v) => t.setIfInBounds p v) a.tmps, defers := [] } W) ∧
      (∀ (l : Nat) (pre : List α) (x : α) (W0 W : World), I pre W → N pre x → W.heap[W0.heap.size]? = some (ob x) → w.heap.size ≤ W0.heap.size → body.wpIn (Fence.wide.inRound l) 3 P (ownPostG w.heap.size (KpB n₀ bs) I Ix (pre ++ [x]) W) (a₁ x W0) W))
    (hdone : ∀ (D : Nat) (xs : List α) (W : World), w.heap.size ≤ D → S xs → I xs W → W.heap[D]? = some (.deferred (some [])) → Q .normal { a with defers := { target := .collected D, args := #[] } :: a.defers } W)
    (hstop : ∀ (D : Nat) (c : Code) (pre : List α) (W : World), w.heap.size ≤ D → Sp pre → Ix c pre W → W.heap[D]? = some (.deferred (some [])) → c.wpIn Fence.wide 5 P Q { a with defers := { target := .collected D, args := #[] } :: a.defers } W) :
    (Code.rangeFunc g ps assign body).wpIn Fence.wide 5 P Q a w := by
  obtain ⟨a₁, hass, hbody⟩ := hr
  refine wpIn_rangeFunc fun fn hfn => ?_
  let D := w.heap.size
  let L := w.heap.size + 1
  let rc : LoopState → Option Code → Obj := fun st pe => .loop { state := st, pending := pe, fn, tmps := a.tmps, params := ps, assign, body, defers := D }
  let W1 := (w.alloc (.deferred (some []))).alloc (rc .ready none)
  have bL : W1.heap[L]? = some (rc .ready none) := by
    have h := World.alloc_heap_new (w.alloc (.deferred (some []))) (rc .ready none)
    rwa [World.size_alloc] at h
  have bD : W1.heap[D]? = some (.deferred (some [])) := (Below.heap_alloc _ _ _ (by simp [D])).trans (World.alloc_heap_new w _)
  have bW : Below w.heap.size w W1 := ((Below.refl _ w).alloc (Nat.le_refl _) _).alloc (by simp) _
  have put : ∀ (W : World) (l : Nat) (o o' : Obj), w.heap.size ≤ l → W.heap[l]? = some o → o.isCells = false → o.isWalk = false → KpB n₀ bs W (W.putObj l o') := kpB_b hn0 hbs
  refine ⟨L, [{ target := .collected D, args := #[] }], W1, { target := .fn (.func gf) lb, args := #[.func (.yield L) #[] #[]] }, W1, gf, #[.func (.yield L) #[] #[]] ++ lb, W1,
    run_enterLoop_outer _ _ _ _ _, by simp only [resolve, hg]; simp [go_sem], fun f' hf' => by simp [Target.leads] at hf'; subst hf'; exact trivial, by simp [invoke, go_sem, eg], fun _ => by omega, ?_⟩
  refine (hseq L (fun pre W => I pre W ∧ W.heap[L]? = some (rc .ready none) ∧ W.heap[D]? = some (.deferred (some [])))
    (fun pre W => ∃ c, Ix c pre W ∧ W.heap[L]? = some (rc .done (some c)) ∧ W.heap[D]? = some (.deferred (some []))) W1 bW
    (hIb.and ((abidesBox_block _ (by simp only [L]; omega)).and (abidesBox_block _ (by simp only [D]; omega)))) ?_ ⟨hI.alloc _ (hI.alloc _ h0), bL, bD⟩).mono ?_
  · rintro pre x W ⟨hi, hl0, hk0⟩ hlen
    have hltW : L < W.heap.size := (Array.getElem?_eq_some_iff.1 hl0).1
    let Wa := W.alloc (ob x)
    have hl : Wa.heap[L]? = some (rc .ready none) := (Below.heap_alloc W (ob x) L hltW).trans hl0
    have hk : Wa.heap[D]? = some (.deferred (some [])) := (Below.heap_alloc W (ob x) D (by simp only [D, L] at *; omega)).trans hk0
    have hbx : Wa.heap[W.heap.size]? = some (ob x) := World.alloc_heap_new W (ob x)
    have hKa : KpB n₀ bs W Wa := KpB.ext (by exact (by repeat (first | exact Ext.refl _ | assumption | refine Ext.alloc ?_ _ | refine Ext.drew ?_ | refine Ext.drewN _ ?_ | refine Ext.trans ?_ (by assumption)))) (by simp only [L] at hltW; omega) (fun b hb => by have := hbs b hb; simp only [L] at hltW; omega)
    refine ⟨fn, _, assign, body, run_yield hl0 (hps x), roundIn_of_wpIn hfn (hass _ x W _ ⟨_, run_beginRound hl rfl, ?_⟩)⟩
    have hlt : L < Wa.heap.size := (Array.getElem?_eq_some_iff.1 hl).1
    let W2 := Wa.putObj L (rc .busy none)
    have hl2 : W2.heap[L]? = some (rc .busy none) := World.putObj_heap_same hlt
    have hk2 : W2.heap[D]? = some (.deferred (some [])) := (World.putObj_heap_other (by simp [D, L])).trans hk
    have hbx2 : W2.heap[W.heap.size]? = some (ob x) := (World.putObj_heap_other (by omega)).trans hbx
    refine wpIn_mono (hbody _ pre x W _ (hI.putObj _ (hI.alloc _ hi) (by simp [L]) hl rfl) hlen hbx2 (by simp only [L] at hltW; omega)) ?_
    have fin : ∀ (j : Option Code) (W3 : World), KeepsFrom w.heap.size W2 W3 →
        (Instr.endRound L j).run P W3 = .ok (.bool j.isNone) (W3.putObj L (rc (if j.isNone then .ready else .done) j)) ∧ W3.heap[L]? = some (rc .busy none) ∧
        (W3.putObj L (rc (if j.isNone then .ready else .done) j)).heap[L]? = some (rc (if j.isNone then .ready else .done) j) ∧ (W3.putObj L (rc (if j.isNone then .ready else .done) j)).heap[D]? = some (.deferred (some [])) := fun j W3 hk3 => by
      have e := hk3.same _ _ (by simp [L]) hl2 rfl
      exact ⟨run_endRound j e, e, World.putObj_heap_same (Array.getElem?_eq_some_iff.1 e).1, (World.putObj_heap_other (by simp [D, L])).trans (hk3.same _ _ (by simp [D]) hk2 rfl)⟩
    rintro e a3 W3 hp
    cases e with
    | normal =>
      obtain ⟨p1, p2, p3⟩ := hp
      obtain ⟨f1, f2, f3, f4⟩ := fin none W3 p1
      exact ⟨_, _, f1, .inl ⟨rfl, ⟨hI.putObj _ p3 (by simp [L]) f2 rfl, f3, f4⟩, KpB.trans (KpB.trans (hKa.trans (put Wa L _ _ (by simp [L]) hl rfl rfl)) p2) (put _ _ _ _ (by simp [L]) f2 rfl rfl)⟩⟩
    | ret =>
      obtain ⟨f1, f2, f3, f4⟩ := fin (some .ret) W3 hp.1
      exact ⟨_, _, f1, .inr ⟨rfl, .ret, (hIx _).putObj _ hp.2 (by simp [L]) f2 rfl, f3, f4⟩⟩
    | exit id =>
      obtain ⟨f1, f2, f3, f4⟩ := fin (some (.exit id)) W3 hp.1
      exact ⟨_, _, f1, .inr ⟨rfl, .exit id, (hIx _).putObj _ hp.2 (by simp [L]) f2 rfl, f3, f4⟩⟩
    | goto t =>
      obtain ⟨f1, f2, f3, f4⟩ := fin (some (.goto t)) W3 hp.1
      exact ⟨_, _, f1, .inr ⟨rfl, .goto t, (hIx _).putObj _ hp.2 (by simp [L]) f2 rfl, f3, f4⟩⟩
    | panic ch => exact hp.elim
    | outgrown => exact hp.elim
  · rintro e W2 ⟨⟨v, rfl⟩, (⟨xs, hS, hi, hl, hk⟩ | ⟨pre, hSp, c, hi, hl, hk⟩)⟩
    · exact ⟨none, _, run_endLoop hl (by simp), hdone _ xs _ (Nat.le_refl _) hS (hI.putObj _ hi (by simp [L]) hl rfl) ((World.putObj_heap_other (by simp [D, L])).trans hk)⟩
    · exact ⟨some c, _, run_endLoop hl (by simp), hstop _ c pre _ (Nat.le_refl _) hSp ((hIx c).putObj _ hi (by simp [L]) hl rfl) ((World.putObj_heap_other (by simp [D, L])).trans hk)⟩

end Go.Proofs.Ytiofdfjcaklmcaa
namespace Go.Proofs.Ytiofdfjcaklmcaa
open Go.RowKit Go.Shelf

def noDefer (ops : Array Oper) : Bool := ops.all (fun o => match o.op with | .defer _ => false | _ => true)
theorem noDefer_spec {ops : Array Oper} (h : noDefer ops = true) {i : Nat} {o : Oper} (hi : ops[i]? = some o) : ∀ c, o.op ≠ .defer c := by
  intro c hc
  unfold noDefer at h
  rw [Array.all_eq_true_iff_forall_mem] at h
  have := h o (Array.mem_of_getElem? hi)
  rw [hc] at this
  cases this
theorem upon_round {l n : Nat} {P : Program} {o : Oper} {a : Act} {next : Act → World → Prop} {Q : Exit → Act → World → Prop} {r : Result Next} (h : o.upon P a next Q r) : o.uponIn (Fence.wide.inRound l) n P a next Q r := by
  cases r with
  | ok x w' =>
    cases x with
    | value v => exact h
    | skip => exact h
    | defer d => exact h
    | enter f args => exact ⟨fun hd => by simp [Fence.wide, Fence.inRound] at hd, CallsIn.inRound l (callsIn_wide.2 h)⟩
    | row row args => exact ⟨fun hd => by simp [Fence.wide, Fence.inRound] at hd, fun c cs _ => let ⟨v, w', r, s⟩ := h c cs; ⟨v, w', r, stepsIn_wide.2 s⟩⟩
    | _ => exact h.elim
  | halt h' w' =>
    cases h' with
    | panic v => exact h
    | _ => exact h.elim
variable {P : Program} {md : Region.Mode} {ops : Array Oper} {Q : Exit → Act → World → Prop} {S : World → Prop} {l n : Nat}
theorem wpOpIn_round (hnd : noDefer ops = true) (hL : ¬ LetsOut Q) {i : Nat} {K K' : Act → World → Prop} (hK : ∀ a w, K a w → K' a w) {a : Act} {w : World} (h : wpOp P ops Q i K a w) : wpOpIn (Fence.wide.inRound l) n P ops Q i K' a w := by
  unfold wpOp at h
  unfold wpOpIn
  cases ho : ops[i]? with
  | none => rw [ho] at h; exact hK _ _ h
  | some o =>
    rw [ho] at h
    simp only at h ⊢
    split
    · rename_i hw
      rw [if_pos hw] at h
      rcases h with h | h
      · unfold Oper.wpIn
        refine ⟨fun _ _ => trivial, ?_⟩
        rw [Oper.semAt_plain _ _ _ (noDefer_spec hnd ho)]
        exact upon_round (Oper.wp_mono hK h)
      · exact absurd h.2 hL
    · rename_i hw
      rw [if_neg hw] at h
      exact ⟨fun _ _ => trivial, hK _ _ h⟩
theorem wpAnyIn_round (hnd : noDefer ops = true) (hL : ¬ LetsOut Q) : ∀ (fuel : Nat) (listed : Array Bool) (a : Act) (w : World), wpAny P md ops Q fuel listed a w → wpAnyIn (Fence.wide.inRound l) n P md ops Q fuel listed a w
  | 0, _, _, _, h => h
  | fuel + 1, _, _, _, h => ⟨h.1, fun i hi => wpOpIn_round hnd hL (fun a' w' h' => wpAnyIn_round hnd hL fuel _ a' w' h') (h.2 i hi)⟩
theorem wpIn_round_held {id : Nat} {a : Act} {w : World} (hm : P.follows .mixedOrders = true) (hnd : noDefer ops = true) (hL : ¬ LetsOut Q) (hS : S w.drew)
    (h : S w.drew → wpAnyH P .any ops Q S ops.size (Array.replicate ops.size false) a w.drew) : (Code.region id ops true).wpIn (Fence.wide.inRound l) n P Q a w :=
  wpIn_region_any hm (wpAnyIn_round hnd hL _ _ _ _ (wpAny_of_held _ _ _ _ (h hS)))

/-! ### The same, where the last operation (number z) need not keep the condition: every other one comes ahead of it -/
def wpAnyL (P : Program) (md : Region.Mode) (ops : Array Oper) (Q : Exit → Act → World → Prop) (S : World → Prop) (z : Nat) : Nat → Array Bool → Act → World → Prop
  | 0, listed, a, w => Region.ready md ops listed = [] ∧ Q .normal a w
  | fuel + 1, listed, a, w =>
    (Region.ready md ops listed = [] → Q .normal a w) ∧
    ∀ i ∈ Region.ready md ops listed, wpOp P ops Q i (fun a' w' => (i ≠ z → S w') ∧ wpAnyL P md ops Q S z fuel (listed.setIfInBounds i true) a' w') a w
variable {z : Nat}
theorem wpAny_of_last : ∀ (fuel : Nat) (listed : Array Bool) (a : Act) (w : World), wpAnyL P md ops Q S z fuel listed a w → wpAny P md ops Q fuel listed a w
  | 0, _, _, _, h => h
  | fuel + 1, _, _, _, h => ⟨h.1, fun i hi => wpOp_mono (fun a' w' h' => wpAny_of_last fuel _ a' w' h'.2) (h.2 i hi)⟩
def waitsFor (md : Region.Mode) (ops : Array Oper) (z i : Nat) : Bool := match ops[z]? with
  | some o => o.after.any (fun e => Region.binds md e && e.on == i)
  | none => false
theorem waitsFor_spec {i : Nat} (h : waitsFor md ops z i = true) : ∃ oz, ops[z]? = some oz ∧ ∃ e ∈ oz.after, Region.binds md e = true ∧ e.on = i := by
  unfold waitsFor at h
  cases ho : ops[z]? with
  | none => rw [ho] at h; cases h
  | some o =>
    rw [ho] at h
    simp only [Array.any_eq_true', Bool.and_eq_true, beq_iff_eq] at h
    exact ⟨o, rfl, h⟩
theorem wpAnyL_first {i : Nat} {oi : Oper} {v : Value} (hi : ops[i]? = some oi) (hsel : ∀ (j : Nat) (o : Oper) cs b, ops[j]? = some o → o.op ≠ .select cs b)
    (hQ : ∀ c a w, Q (.panic c) (a.put oi.dst v) w → Q (.panic c) a w) (hz : ∃ oz, ops[z]? = some oz ∧ ∃ e ∈ oz.after, Region.binds md e = true ∧ e.on = i) :
    ∀ (fuel : Nat) (listed : Array Bool) (a : Act) (w : World),
      (∀ j oj, ops[j]? = some oj → j ≠ i → listed.getD j true = false → (∀ e ∈ oj.after, Region.binds md e = true → e.on ≠ i) → oi.apart ops oj = true) →
      i ∈ Region.ready md ops listed → YieldsIf P ops S oi v a → S w →
      wpAnyL P md ops Q S z fuel (listed.setIfInBounds i true) (a.put oi.dst v) w → wpAnyL P md ops Q S z (fuel + 1) listed a w := by
  intro fuel
  induction fuel with
  | zero =>
    intro listed a w _ hr hy hS H
    refine ⟨fun h => (by rw [h] at hr; cases hr), fun j hj => ?_⟩
    by_cases hji : j = i
    · subst hji; exact hy.wpOp hi hS ⟨fun _ => hS, H⟩
    · have := ready_mono hj hji
      rw [H.1] at this
      cases this
  | succ fuel ih =>
    intro listed a w hfree hr hy hS H
    refine ⟨fun h => (by rw [h] at hr; cases hr), fun j hj => ?_⟩
    by_cases hji : j = i
    · subst hji; exact hy.wpOp hi hS ⟨fun _ => hS, H⟩
    · have h1 := H.2 j (ready_mono hj hji)
      obtain ⟨hjun, oj, hoj, hall⟩ := mem_ready.1 hj
      have hnot : ∀ e ∈ oj.after, Region.binds md e = true → e.on ≠ i := fun e he hb heq => by
        have h1 := hall e he hb
        have h0 := (mem_ready.1 hr).1
        rw [heq] at h1
        rcases Nat.lt_or_ge i listed.size with h' | h'
        · simp [h'] at h0 h1; rw [h0] at h1; cases h1
        · simp [Array.getElem?_eq_none h'] at h1
      have hjz : j ≠ z := by
        rintro rfl
        obtain ⟨oz, h3, e, he, hb, heq⟩ := hz
        rw [hoj] at h3
        cases h3
        exact hnot e he hb heq
      have h2 := wpOp_putIf hoj (hfree j oj hoj hji hjun hnot) (fun cs b => hsel i oi cs b hi) (fun cs b => hsel j oj cs b hoj) hQ hy h1
      have hfree' : ∀ k ok, ops[k]? = some ok → k ≠ i → (listed.setIfInBounds j true).getD k true = false →
          (∀ e ∈ ok.after, Region.binds md e = true → e.on ≠ i) → oi.apart ops ok = true := fun k ok hk hki hun hno => by
        refine hfree k ok hk hki ?_ hno
        by_cases hjk : j = k
        · subst hjk; exact hjun
        · rw [getD_set_ne true hjk] at hun; exact hun
      refine wpOp_mono (fun a' w' h3 => ⟨h3.2.1, ih (listed.setIfInBounds j true) a' w' hfree' (ready_mono hr (Ne.symm hji)) h3.1 (h3.2.1 hjz) ?_⟩) h2
      rw [Array.setIfInBounds_comm _ _ hji]
      exact h3.2.2
theorem wpAnyL_take {i : Nat} {oi : Oper} {v : Value} {fuel : Nat} {listed : Array Bool} {a : Act} {w : World} (hi : ops[i]? = some oi)
    (hs : Region.noSelect ops = true) (hf : Region.free md ops listed i = true) (hr : (Region.ready md ops listed).contains i = true) (hz : waitsFor md ops z i = true)
    (hQ : ∀ c a w, Q (.panic c) (a.put oi.dst v) w → Q (.panic c) a w) (hy : YieldsIf P ops S oi v a) (hS : S w)
    (h : wpAnyL P md ops Q S z fuel (listed.setIfInBounds i true) (a.put oi.dst v) w) : wpAnyL P md ops Q S z (fuel + 1) listed a w :=
  wpAnyL_first hi (Region.noSelect_spec hs) hQ (waitsFor_spec hz) fuel listed a w (Region.free_spec hi hf) (by simpa using hr) hy hS h
theorem tkL {i : Nat} {oi : Oper} {v : Value} {fuel : Nat} {listed : Array Bool} {a : Act} {w : World} (hi : ops[i]? = some oi)
    (hv : ∀ w, S w → (execOp a.eval oi).run P w = .ok (.value v) w) (h : wpAnyL P md ops Q S z fuel (listed.setIfInBounds i true) (a.put oi.dst v) w)
    (hs : Region.noSelect ops = true := by kernel_rfl) (hf : Region.free md ops listed i = true := by kernel_rfl) (hr : (Region.ready md ops listed).contains i = true := by kernel_rfl) (hz : waitsFor md ops z i = true := by kernel_rfl)
    (hQ : ∀ c a w, Q (.panic c) (a.put oi.dst v) w → Q (.panic c) a w := by exact fun _ _ _ h => h) (hw : Region.wanted oi (yielded ops a.tmps) = true := by rfl) (hS : S w := by assumption) : wpAnyL P md ops Q S z (fuel + 1) listed a w :=
  wpAnyL_take hi hs hf hr hz hQ (.inl ⟨hw, hv⟩) hS h
/-- one operation that is the only one that may come up now -/
theorem wpAnyL_one {i : Nat} {o : Oper} {fuel : Nat} {listed : Array Bool} {a : Act} {w : World} (hr : Region.ready md ops listed = [i]) (ho : ops[i]? = some o)
    (h : ∀ K' : Act → World → Prop, Shut (∀ a w, (i ≠ z → S w) → ((i ≠ z → S w) → wpAnyL P md ops Q S z fuel (listed.setIfInBounds i true) a w) → K' a w) → if Region.wanted o (yielded ops a.tmps) = true then Oper.wp P o a w K' Q else K' (a.put o.dst undef) w) :
    wpAnyL P md ops Q S z (fuel + 1) listed a w :=
  ⟨fun h0 => (by rw [hr] at h0; cases h0), fun j hj => by
    rw [hr] at hj
    obtain rfl : j = i := by simpa using hj
    exact wpOp_step ho (fun K' hK => h K' (fun a w hS hW => hK a w ⟨hS, hW hS⟩))⟩
theorem wpAnyL_done {listed : Array Bool} {a : Act} {w : World} (hr : Region.ready md ops listed = []) (h : Q .normal a w) :
    ∀ fuel, wpAnyL P md ops Q S z fuel listed a w
  | 0 => ⟨hr, h⟩
  | _ + 1 => ⟨fun _ => h, by rw [hr]; simp⟩
theorem wpIn_round_last {id : Nat} {a : Act} {w : World} (hm : P.follows .mixedOrders = true) (hnd : noDefer ops = true) (hL : ¬ LetsOut Q) (hS : S w.drew)
    (h : S w.drew → wpAnyL P .any ops Q S z ops.size (Array.replicate ops.size false) a w.drew) : (Code.region id ops true).wpIn (Fence.wide.inRound l) n P Q a w :=
  wpIn_region_any hm (wpAnyIn_round hnd hL _ _ _ _ (wpAny_of_last _ _ _ _ (h hS)))
theorem wp_region_last {id : Nat} {a : Act} {w : World} (hm : P.follows .mixedOrders = true) (hS : S w.drew)
    (h : S w.drew → wpAnyL P .any ops Q S z ops.size (Array.replicate ops.size false) a w.drew) : (Code.region id ops true).wp P Q a w :=
  wp_region_any hm (wpAny_of_last _ _ _ _ (h hS))
end Go.Proofs.Ytiofdfjcaklmcaa
