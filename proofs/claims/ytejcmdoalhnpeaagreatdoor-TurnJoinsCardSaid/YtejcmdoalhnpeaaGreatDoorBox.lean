/- A block that holds cells, and a loop over an iterator whose loop variable lies in a block of its own. -/
import Derived.RangeFuncNested
import Derived.Maps.AppendAt
import Derived.Test.YtejcmdoalhnpeaaGreatDoorParts
namespace Go.Proofs.YtejcmdoalhnpeaaGreatDoor
open Go.RowKit Go.Shelf

/-- a block that holds these cells, none frozen -/
def Cls (B : Nat) (t : TypeId) (cs : Array Value) (W : World) : Prop := W.heap[B]? = some (.cells cs t (0, 0))
theorem Cls.lt {B : Nat} {t : TypeId} {cs : Array Value} {W : World} (h : Cls B t cs W) : B < W.heap.size := (Array.getElem?_eq_some_iff.1 h).1
theorem Cls.cell {B : Nat} {t : TypeId} {cs : Array Value} {W : World} (h : Cls B t cs W) (i : Nat) : W.cell? ⟨B, i, none⟩ = cs[i]? := by simp [World.cell?, show W.heap[B]? = _ from h]
theorem Cls.frozen {B : Nat} {t : TypeId} {cs : Array Value} {W : World} (h : Cls B t cs W) (i : Nat) : W.frozen? ⟨B, i, none⟩ = false := by simp [World.frozen?, show W.heap[B]? = _ from h]
theorem Cls.ext {B : Nat} {t : TypeId} {cs : Array Value} {W W' : World} (h : Cls B t cs W) (x : Ext W W') : Cls B t cs W' := (Below.block x B h.lt).trans h
theorem Cls.kept {B : Nat} {t : TypeId} {cs : Array Value} {W W' : World} {row : Option Nat} (h : Cls B t cs W) (hg : W.grownBy W' row) (hne : some B ≠ row) : Cls B t cs W' := (hg.block B h.lt hne).trans h
theorem Cls.own {β : Type} (B : Nat) (t : TypeId) (f : β → Array Value) : Own (fun s W => Cls B t (f s) W) := fun s X Y row hs hg hrow =>
  hs.kept hg (fun e' => by obtain ⟨o, ho, hc⟩ := hrow B e'.symm; rw [show X.heap[B]? = _ from hs] at ho; cases ho; cases hc)
theorem Cls.new (W : World) (t : TypeId) (cs : Array Value) : Cls W.heap.size t cs (W.alloc (.cells cs t)) := World.alloc_heap_new W _
theorem Cls.set {B : Nat} {t : TypeId} {cs : Array Value} {W : World} (h : Cls B t cs W) (i : Nat) (u : Value) : Cls B t (cs.setIfInBounds i u) (W.setCell ⟨B, i, none⟩ u) := by
  unfold Cls at h ⊢
  simp [World.setCell, Array.getElem?_modify, h]
theorem Cls.other {B B' : Nat} {t : TypeId} {cs : Array Value} {W : World} (h : Cls B t cs W) (hne : B ≠ B') (i : Nat) (u : Value) : Cls B t cs (W.setCell ⟨B', i, none⟩ u) :=
  (Below.heap_setCell W ⟨B', i, none⟩ u B (by simpa using hne)).trans h
theorem Cls.putObj {B l : Nat} {t : TypeId} {cs : Array Value} {W : World} (h : Cls B t cs W) {o : Obj} (o' : Obj) (hl : W.heap[l]? = some o) (ho : o.isCells = false) : Cls B t cs (W.putObj l o') :=
  h.kept (grownBy_putObj' W l o') (fun e => by cases e; rw [show W.heap[B]? = _ from h] at hl; cases hl; cases ho)
theorem Cls.boxed {B : Nat} {t : TypeId} {v : Value} {W : World} (h : Cls B t #[v] W) : Boxed W B t v := h

theorem ownFrom_size {β : Type} (B m : Nat) : OwnFrom B (fun (_ : β) W => m ≤ W.heap.size) := fun _ _ _ _ hs hg _ => Nat.le_trans hs hg.size
theorem Cls.newAt (W : World) (t : TypeId) (cs : Array Value) {n : Nat} (h : n = W.heap.size) : Cls n t cs (W.alloc (.cells cs t)) := h ▸ Cls.new W t cs
theorem alloc1 {w w1 : World} {c0 : Array Value} {t0 : TypeId} (h : Ext (w.alloc (.cells c0 t0)) w1) : Cls w.heap.size t0 c0 w1 ∧ Ext w w1 ∧ w.heap.size < w1.heap.size :=
  ⟨(Cls.new _ _ _).ext h, Ext.trans (by repeat (first | exact Ext.refl _ | assumption | refine Ext.alloc ?_ _ | refine Ext.drew ?_ | refine Ext.drewN _ ?_ | refine Ext.trans ?_ (by assumption))) h, by have := h.size; simp at this; omega⟩
theorem alloc2 {w w1 : World} {c0 c1 : Array Value} {t0 t1 : TypeId} (h : Ext ((w.alloc (.cells c0 t0)).alloc (.cells c1 t1)) w1) : Cls w.heap.size t0 c0 w1 ∧ Cls (w.heap.size + 1) t1 c1 w1 ∧ Ext w w1 ∧ w.heap.size + 1 < w1.heap.size :=
  ⟨((Cls.new _ _ _).ext (by repeat (first | exact Ext.refl _ | assumption | refine Ext.alloc ?_ _ | refine Ext.drew ?_ | refine Ext.drewN _ ?_ | refine Ext.trans ?_ (by assumption)))).ext h, (Cls.newAt _ _ _ (by simp)).ext h, Ext.trans (by repeat (first | exact Ext.refl _ | assumption | refine Ext.alloc ?_ _ | refine Ext.drew ?_ | refine Ext.drewN _ ?_ | refine Ext.trans ?_ (by assumption))) h, by have := h.size; simp at this; omega⟩
theorem alloc3 {w w1 : World} {c0 c1 c2 : Array Value} {t0 t1 t2 : TypeId} (h : Ext (((w.alloc (.cells c0 t0)).alloc (.cells c1 t1)).alloc (.cells c2 t2)) w1) : Cls w.heap.size t0 c0 w1 ∧ Cls (w.heap.size + 1) t1 c1 w1 ∧ Cls (w.heap.size + 1 + 1) t2 c2 w1 ∧ Ext w w1 ∧ w.heap.size + 1 + 1 < w1.heap.size :=
  ⟨((Cls.new _ _ _).ext (by repeat (first | exact Ext.refl _ | assumption | refine Ext.alloc ?_ _ | refine Ext.drew ?_ | refine Ext.drewN _ ?_ | refine Ext.trans ?_ (by assumption)))).ext h, ((Cls.newAt (w.alloc (.cells c0 t0)) _ _ (by simp)).ext (by repeat (first | exact Ext.refl _ | assumption | refine Ext.alloc ?_ _ | refine Ext.drew ?_ | refine Ext.drewN _ ?_ | refine Ext.trans ?_ (by assumption)))).ext h, (Cls.newAt _ _ _ (by simp)).ext h, Ext.trans (by repeat (first | exact Ext.refl _ | assumption | refine Ext.alloc ?_ _ | refine Ext.drew ?_ | refine Ext.drewN _ ?_ | refine Ext.trans ?_ (by assumption))) h, by have := h.size; simp at this; omega⟩
theorem alloc4 {w w1 : World} {c0 c1 c2 c3 : Array Value} {t0 t1 t2 t3 : TypeId} (h : Ext ((((w.alloc (.cells c0 t0)).alloc (.cells c1 t1)).alloc (.cells c2 t2)).alloc (.cells c3 t3)) w1) : Cls w.heap.size t0 c0 w1 ∧ Cls (w.heap.size + 1) t1 c1 w1 ∧ Cls (w.heap.size + 1 + 1) t2 c2 w1 ∧ Cls (w.heap.size + 1 + 1 + 1) t3 c3 w1 ∧ Ext w w1 ∧ w.heap.size + 1 + 1 + 1 < w1.heap.size :=
  ⟨((Cls.new _ _ _).ext (by repeat (first | exact Ext.refl _ | assumption | refine Ext.alloc ?_ _ | refine Ext.drew ?_ | refine Ext.drewN _ ?_ | refine Ext.trans ?_ (by assumption)))).ext h, ((Cls.newAt (w.alloc (.cells c0 t0)) _ _ (by simp)).ext (by repeat (first | exact Ext.refl _ | assumption | refine Ext.alloc ?_ _ | refine Ext.drew ?_ | refine Ext.drewN _ ?_ | refine Ext.trans ?_ (by assumption)))).ext h, ((Cls.newAt ((w.alloc (.cells c0 t0)).alloc (.cells c1 t1)) _ _ (by simp)).ext (by repeat (first | exact Ext.refl _ | assumption | refine Ext.alloc ?_ _ | refine Ext.drew ?_ | refine Ext.drewN _ ?_ | refine Ext.trans ?_ (by assumption)))).ext h, (Cls.newAt _ _ _ (by simp)).ext h, Ext.trans (by repeat (first | exact Ext.refl _ | assumption | refine Ext.alloc ?_ _ | refine Ext.drew ?_ | refine Ext.drewN _ ?_ | refine Ext.trans ?_ (by assumption))) h, by have := h.size; simp at this; omega⟩
/-- what a round keeps: all that lay below n₀, and some blocks -/
def KpB (n₀ : Nat) (bs : List Nat) (W W' : World) : Prop := Below n₀ W W' ∧ ∀ b ∈ bs, W'.heap[b]? = W.heap[b]?
theorem KpB.trans {n₀ : Nat} {bs : List Nat} {A B C : World} (h : KpB n₀ bs A B) (k : KpB n₀ bs B C) : KpB n₀ bs A C := ⟨h.1.trans k.1, fun b hb => (k.2 b hb).trans (h.2 b hb)⟩
theorem KpB.refl (n₀ : Nat) (bs : List Nat) (A : World) : KpB n₀ bs A A := ⟨Below.refl _ _, fun _ _ => rfl⟩
theorem KpB.ext {n₀ : Nat} {bs : List Nat} {A B : World} (h : Ext A B) (h1 : n₀ ≤ A.heap.size) (h2 : ∀ b ∈ bs, b < A.heap.size) : KpB n₀ bs A B := ⟨Below.mono h h1, fun b hb => Below.block h b (h2 b hb)⟩
theorem KpB.set {n₀ : Nat} {bs : List Nat} (A : World) {p : Addr} (hp : n₀ ≤ p.block) (hb : p.block ∉ bs) (u : Value) : KpB n₀ bs A (A.setCell p u) :=
  ⟨(Below.refl _ _).setCell hp u, fun b h => Below.heap_setCell A p u b (fun e => hb (e ▸ h))⟩
theorem KpB.cell {n₀ : Nat} {bs : List Nat} {A B : World} (h : KpB n₀ bs A B) {b o : Nat} {v : Value} (hb : b ∈ bs) (hc : A.cell? ⟨b, o, none⟩ = some v) : B.cell? ⟨b, o, none⟩ = some v :=
  (World.cell?_of_block (h.2 b hb)).trans hc
theorem KpB.cls {n₀ : Nat} {bs : List Nat} {A B : World} (h : KpB n₀ bs A B) {b : Nat} {t : TypeId} {cs : Array Value} (hb : b ∈ bs) (hc : Cls b t cs A) : Cls b t cs B := (h.2 b hb).trans hc
theorem kpB_b {n₀ : Nat} {bs : List Nat} {w : World} (h1 : n₀ ≤ w.heap.size) (h2 : ∀ b ∈ bs, b < w.heap.size) : ∀ (W : World) (l : Nat) (o o' : Obj), w.heap.size ≤ l → W.heap[l]? = some o → o.isCells = false → o.isWalk = false → KpB n₀ bs W (W.putObj l o') :=
  fun W l o o' hl ho hc hw => ⟨belowK_b h1 W l o o' hl ho hc hw, fun b hb => World.putObj_heap_other (by have := h2 b hb; omega)⟩

/-- 'out = append(out, ..)' of a row whose blocks lie from 'base' on, 'out' in a box: what the walk owes behind it. -/
theorem appended2 {W w1 : World} {base B : Nat} {t e : TypeId} {size : Nat} {v v' : Value} {k m : Nat} {xs ys : List Value} {tmp : Obj}
    (hv : Boxed W B t v) (hte : t ≠ e) (hrow : W.ownsRow base e size v k xs) (hbW : base ≤ W.heap.size)
    (hown' : w1.ownsRow base e size v' m ys) (hgrow : (W.alloc tmp).grownBy w1 v.ownBlock) :
    Boxed w1 B t v ∧ Boxed (w1.setCell ⟨B, 0, none⟩ v') B t v' ∧ (w1.setCell ⟨B, 0, none⟩ v').ownsRow base e size v' m ys ∧ KeepsOthers W (w1.setCell ⟨B, 0, none⟩ v') ∧
      (∀ b, b < base → b ≠ B → (w1.setCell ⟨B, 0, none⟩ v').heap[b]? = W.heap[b]?) ∧ (∀ n₀, n₀ ≤ base → n₀ ≤ B → Below n₀ W (w1.setCell ⟨B, 0, none⟩ v')) := by
  have hv1 : Boxed w1 B t v := (hv.alloc tmp).kept hgrow (hv.not_row hte hrow)
  refine ⟨hv1, hv1.set v', hown'.kept (grownBy_setCell' w1 B v') (.inr (hv1.not_row hte hown').symm), ?_, ?_, ?_⟩
  · refine ((KeepsOthers.alloc W tmp).trans (KeepsOthers.of_grownBy hgrow fun j o ej hj => ?_)).trans (KeepsOthers.setCell _ _ _)
    rcases (hrow.alloc tmp).2 with ⟨rfl, _⟩ | ⟨g, cap, cur, rfl, _, hgb, _⟩
    · simp [Value.ownBlock] at ej
    · obtain rfl : g = j := by simpa [Value.ownBlock] using ej
      rw [hgb] at hj; cases hj; rfl
  · intro b hb hne
    rw [Below.heap_setCell _ _ _ _ (by simpa using hne)]
    refine (hgrow.block b (by simp; omega) (fun e => ?_)).trans (Below.heap_alloc W tmp b (by omega))
    have := (hrow.lt b e.symm).1
    omega
  · intro n₀ h1 h2
    refine (((Below.refl n₀ W).alloc (by omega) tmp).grown hgrow (by simp; omega) fun j ej => ?_).setCell (p := ⟨B, 0, none⟩) h2 v'
    have := (hrow.lt j ej).1
    omega

/-- A LOOP OVER AN ITERATOR whose loop variable lies in a block of its own ('tm x B': the frame behind the assignment). -/
theorem range_box {α : Type} {P : Program} {g : Operand} {ps : Array Tmp} {assign body : Code} {Q : Exit → Act → World → Prop} {a : Act} {w : World}
    {gf : Nat} {lb : Array Value} (hg : a.eval g = .func (.func gf) #[] lb) (eg : ∀ args w, (callFunc gf args).run P w = .ok (.enter gf args) w)
    {n₀ : Nat} {bs : List Nat} (hn0 : n₀ ≤ w.heap.size) (hbs : ∀ b ∈ bs, b < w.heap.size)
    {encs : α → Array Value} {S Sp : List α → Prop} {N : Nat} (hseq : SeqStopsK Fence.wide 4 P gf lb encs (KpB n₀ bs) S Sp N w)
    (hps : ∀ x, (encs x).size = ps.size) (t : TypeId) (cs : α → Array Value)
    (I : List α → World → Prop) (Ix : Code → List α → World → Prop) (hI : OwnFrom w.heap.size I) (hIx : ∀ c, OwnFrom w.heap.size (Ix c)) (h0 : I [] w)
    (hIa : ∀ pre W, I pre W → w.heap.size ≤ W.heap.size ∧ ∀ o, I pre (W.alloc o))
    (hr : ∃ tm : α → Nat → Array Value,
      (∀ (l : Nat) (x : α) (W : World) (K : Act → World → Prop) (B : Nat), Hid (W.heap.size = B) → K { tmps := tm x B, defers := [] } (W.alloc (.cells (cs x) t)) →
        assign.wpIn (Fence.wide.inRound l) 3 P (Exit.then K (fun _ _ _ => False)) { tmps := (ps.zip (encs x)).foldl (fun t (p, v) => t.setIfInBounds p v) a.tmps, defers := [] } W) ∧
      (∀ (l : Nat) (pre : List α) (x : α) (B : Nat) (W : World), I pre W → pre.length < N → w.heap.size ≤ B → Cls B t (cs x) W →
        body.wpIn (Fence.wide.inRound l) 3 P (ownPostG w.heap.size (KpB n₀ bs) I Ix (pre ++ [x]) W) { tmps := tm x B, defers := [] } W))
    (hdone : ∀ (D : Nat) (xs : List α) (W : World), w.heap.size ≤ D → S xs → I xs W → W.heap[D]? = some (.deferred (some [])) → Q .normal { a with defers := { target := .collected D, args := #[] } :: a.defers } W)
    (hstop : ∀ (D : Nat) (c : Code) (pre : List α) (W : World), w.heap.size ≤ D → Sp pre → Ix c pre W → W.heap[D]? = some (.deferred (some [])) → c.wpIn Fence.wide 5 P Q { a with defers := { target := .collected D, args := #[] } :: a.defers } W) :
    (Code.rangeFunc g ps assign body).wpIn Fence.wide 5 P Q a w := by
  obtain ⟨tm, ha, hb⟩ := hr
  refine wpIn_rangeFunc_ownH (w0 := w) rfl (by omega) hg trivial eg hseq (fun h k => KpB.trans h k) (kpB_b hn0 hbs) (Below.refl _ _) hps I Ix hI hIx h0
    (fun x a' W => ∃ B, (w.heap.size ≤ B ∧ a' = { tmps := tm x B, defers := [] }) ∧ Cls B t (cs x) W) (fun x a' _ X Y row hs hg hr => ?_) ?_ ?_ hdone hstop
  · obtain ⟨B, h1, h2⟩ := hs
    exact ⟨B, h1, Cls.own B t (fun (_ : Unit) => cs x) () X Y row h2 hg (fun r e => (hr r e).2)⟩
  · intro l pre x W K hi hK
    obtain ⟨hi1, hi2⟩ := hIa _ _ hi
    refine ha l x W K W.heap.size (Lib.hid rfl) (hK _ _ ((KeepsOthers.alloc _ _).from _) (KpB.ext ((Ext.refl _).alloc _) (by omega) (fun b h => by have := hbs b h; omega)) (hi2 _) ⟨W.heap.size, ⟨hi1, rfl⟩, Cls.new _ _ _⟩)
  · rintro l pre x a' W _ _ hi ⟨B, ⟨h1, rfl⟩, h2⟩ hN
    exact hb l pre x B W hi hN h1 h2

end Go.Proofs.YtejcmdoalhnpeaaGreatDoor
