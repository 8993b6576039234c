/- Rest of the program. -/
import Derived.Test.YtejcmdoalhnpeaaGreatDoorRefL
import Derived.BigFrameIn
namespace Go.Proofs.YtejcmdoalhnpeaaGreatDoor
open Go.RowKit Go.Shelf Go.Maps
attribute [local go_sem] Oper.semAt_some

theorem rst_range {lo hi : Int} (h : lo ≤ hi) (pre : List (SpIn lo hi)) : lo ≤ (rst lo (vals pre)).2 ∧ (rst lo (vals pre)).2 ≤ hi + 1 := by
  rcases last_cases pre with rfl | ⟨l, x, rfl⟩
  · simp [rst, vals]; omega
  · rw [vals_snoc, rst_snoc]
    have := x.2
    unfold rstS
    simp only
    omega
theorem box_kept {W w3 : World} {o : Obj} {B i : Nat} {v u : Value} (hB : B < W.heap.size) (hne : v.ownBlock ≠ some B) (hg : (W.alloc o).grownBy w3 v.ownBlock) (hc : W.cell? ⟨B, i, none⟩ = some u) : w3.cell? ⟨B, i, none⟩ = some u := by
  rw [← hc]
  exact World.cell?_of_block ((hg.block B (by simp; omega) (fun e => hne e.symm)).trans (Below.heap_alloc W o B hB))
theorem froz_kept {W w3 : World} {o : Obj} {B i : Nat} {v : Value} {u : Bool} (hB : B < W.heap.size) (hne : v.ownBlock ≠ some B) (hg : (W.alloc o).grownBy w3 v.ownBlock) (hc : W.frozen? ⟨B, i, none⟩ = u) : w3.frozen? ⟨B, i, none⟩ = u := by
  rw [← hc]
  exact World.frozen?_of_block ((hg.block B (by simp; omega) (fun e => hne e.symm)).trans (Below.heap_alloc W o B hB))
theorem row_ne {W : World} {base B n size : Nat} {t : TypeId} {v : Value} {xs : List Value} (h : W.ownsRow base t size v n xs) (hB : B < base) : v.ownBlock ≠ some B := fun e => by have := (World.ownsRow.lt h B e).1; omega
theorem rstS_t {R : List Sp × Int} {x : Sp} (h : R.2 < x.lo) : rstS R x = (R.1 ++ [⟨R.2, x.lo - 1⟩], x.hi + 1) := by unfold rstS; rw [if_pos h]
theorem rstS_f {R : List Sp × Int} {x : Sp} (h : ¬ R.2 < x.lo) : rstS R x = (R.1, x.hi + 1) := by unfold rstS; rw [if_neg h]

/-- 'range_box', for a round that grows a row of its own: the loop variable's block is not that row's. -/
theorem range_box2 {α : Type} {P : Program} {g : Operand} {ps : Array Tmp} {assign body : Code} {Q : Exit → Act → World → Prop} {a : Act} {w : World}
    {gf : Nat} {lb : Array Value} (hg : a.eval g = .func (.func gf) #[] lb) (eg : ∀ args w, (callFunc gf args).run P w = .ok (.enter gf args) w)
    {n₀ : Nat} {bs : List Nat} (hn0 : n₀ ≤ w.heap.size) (hbs : ∀ b ∈ bs, b < w.heap.size)
    {encs : α → Array Value} {S Sp : List α → Prop} {N : Nat} (hseq : SeqStopsK Fence.wide 4 P gf lb encs (KpB n₀ bs) S Sp N w)
    (hps : ∀ x, (encs x).size = ps.size) (t : TypeId) (cs : α → Array Value) (Bo : Nat) (to : TypeId)
    (I : List α → World → Prop) (Ix : Code → List α → World → Prop) (hI : OwnFrom w.heap.size I) (hIx : ∀ c, OwnFrom w.heap.size (Ix c)) (h0 : I [] w)
    (hIa : ∀ pre W, I pre W → w.heap.size ≤ W.heap.size ∧ ∀ o, I pre (W.alloc o))
    (hIb : ∀ pre W, I pre W → ∃ v, Cls Bo to #[v] W ∧ ∀ g, v.ownBlock = some g → g < W.heap.size)
    (hr : ∃ tm : α → Nat → Array Value,
      (∀ (l : Nat) (x : α) (W : World) (K : Act → World → Prop) (B : Nat), Hid (W.heap.size = B) → K { tmps := tm x B, defers := [] } (W.alloc (.cells (cs x) t)) →
        assign.wpIn (Fence.wide.inRound l) 3 P (Exit.then K (fun _ _ _ => False)) { tmps := (ps.zip (encs x)).foldl (fun t (p, v) => t.setIfInBounds p v) a.tmps, defers := [] } W) ∧
      (∀ (l : Nat) (pre : List α) (x : α) (B : Nat) (W : World), I pre W → pre.length < N → w.heap.size ≤ B → Cls B t (cs x) W → (∃ v, Cls Bo to #[v] W ∧ v.ownBlock ≠ some B) →
        body.wpIn (Fence.wide.inRound l) 3 P (ownPostG w.heap.size (KpB n₀ bs) I Ix (pre ++ [x]) W) { tmps := tm x B, defers := [] } W))
    (hdone : ∀ (D : Nat) (xs : List α) (W : World), w.heap.size ≤ D → S xs → I xs W → W.heap[D]? = some (.deferred (some [])) → Q .normal { a with defers := { target := .collected D, args := #[] } :: a.defers } W)
    (hstop : ∀ (D : Nat) (c : Code) (pre : List α) (W : World), w.heap.size ≤ D → Sp pre → Ix c pre W → W.heap[D]? = some (.deferred (some [])) → c.wpIn Fence.wide 5 P Q { a with defers := { target := .collected D, args := #[] } :: a.defers } W) :
    (Code.rangeFunc g ps assign body).wpIn Fence.wide 5 P Q a w := by
  obtain ⟨tm, ha, hb⟩ := hr
  refine wpIn_rangeFunc_ownH (w0 := w) rfl (by omega) hg trivial eg hseq (fun h k => KpB.trans h k) (kpB_b hn0 hbs) (Below.refl _ _) hps I Ix hI hIx h0
    (fun x a' W => ∃ B, (w.heap.size ≤ B ∧ a' = { tmps := tm x B, defers := [] }) ∧ Cls B t (cs x) W ∧ ∃ v, Cls Bo to #[v] W ∧ v.ownBlock ≠ some B) (fun x a' _ X Y row hs hg hr => ?_) ?_ ?_ hdone hstop
  · obtain ⟨B, h1, h2, v, h3, h4⟩ := hs
    exact ⟨B, h1, Cls.own B t (fun (_ : Unit) => cs x) () X Y row h2 hg (fun r e => (hr r e).2), v, Cls.own Bo to (fun (_ : Unit) => #[v]) () X Y row h3 hg (fun r e => (hr r e).2), h4⟩
  · intro l pre x W K hi hK
    obtain ⟨hi1, hi2⟩ := hIa _ _ hi
    obtain ⟨v, hv1, hv2⟩ := hIb _ _ hi
    refine ha l x W K W.heap.size (Lib.hid rfl) (hK _ _ ((KeepsOthers.alloc _ _).from _) (KpB.ext ((Ext.refl _).alloc _) (by omega) (fun b h => by have := hbs b h; omega)) (hi2 _) ⟨W.heap.size, ⟨hi1, rfl⟩, Cls.new _ _ _, v, hv1.ext ((Ext.refl _).alloc _), fun e => by have := hv2 _ e; omega⟩)
  · rintro l pre x a' W _ _ hi ⟨B, ⟨h1, rfl⟩, h2, h3⟩ hN
    exact hb l pre x B W hi hN h1 h2 h3


end Go.Proofs.YtejcmdoalhnpeaaGreatDoor
