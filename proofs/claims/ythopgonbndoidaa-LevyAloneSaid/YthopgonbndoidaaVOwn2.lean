/- A loop over an iterator with a box of its own, where a loop variable lies in a block of its own. No program in sight. -/
import Derived.Test.YthopgonbndoidaaVBase
namespace Go.Proofs.Ythopgonbndoidaa
open Go.RowKit Go.Shelf

attribute [local go_sem] Oper.semAt_some

set_option maxHeartbeats 1000000 in
/-- A LOOP OVER SUCH AN ITERATOR, a loop variable in a block of its own. -/
theorem range_own2 {α : Type} {P : Program} {g : Operand} {ps : Array Tmp} {assign body : Code} {Q : Exit → Act → World → Prop} {a : Act} {w : World}
    {gf : Nat} {lb : Array Value} (hg : a.eval g = .func (.func gf) #[] lb) (eg : ∀ args w, (callFunc gf args).run P w = .ok (.enter gf args) w)
    {n₀ Br : Nat} {bs : List Nat} (hn0 : n₀ ≤ w.heap.size) (hbs : ∀ b ∈ bs, b < w.heap.size) (hBr : Br < w.heap.size)
    {encs : α → Array Value} {S Sp : List α → Prop} {N : List α → α → Prop} (hseq : SeqBox 4 P gf lb encs Br (KpB n₀ bs) S Sp N w)
    (hps : ∀ x, (encs x).size = ps.size)
    (I : List α → World → Prop) (Ix : Code → List α → World → Prop) (hI : OwnFrom w.heap.size I) (hIx : ∀ c, OwnFrom w.heap.size (Ix c)) (hIb : AbidesBox Br I) (h0 : I [] w)
    (ob : α → Obj)
    (hr : ∃ a₁ : α → World → Act, (∀ (l : Nat) (x : α) (W : World) (K : Act → World → Prop), K (a₁ x W) (W.alloc (ob x)) →
      assign.wpIn (Fence.wide.inRound l) 3 P (Exit.then K (fun _ _ _ => False)) { tmps := (ps.zip (encs x)).foldl (fun t (p, v) => t.setIfInBounds p v) a.tmps, defers := [] } W) ∧
      (∀ (l : Nat) (pre : List α) (x : α) (W0 W : World), I pre W → N pre x → W.heap[W0.heap.size]? = some (ob x) → w.heap.size ≤ W0.heap.size → body.wpIn (Fence.wide.inRound l) 3 P (ownPostG w.heap.size (KpB n₀ bs) I Ix (pre ++ [x]) W) (a₁ x W0) W))
    (hdone : ∀ (D : Nat) (xs : List α) (W : World), w.heap.size ≤ D → S xs → I xs W → W.heap[D]? = some (.deferred (some [])) → Q .normal { a with defers := { target := .collected D, args := #[] } :: a.defers } W)
    (hstop : ∀ (D : Nat) (c : Code) (pre : List α) (W : World), w.heap.size ≤ D → Sp pre → Ix c pre W → W.heap[D]? = some (.deferred (some [])) → c.wpIn Fence.wide 5 P Q { a with defers := { target := .collected D, args := #[] } :: a.defers } W) :
    (Code.rangeFunc g ps assign body).wpIn Fence.wide 5 P Q a w := by
  obtain ⟨a₁, hass, hbody⟩ := hr
  refine wpIn_rangeFunc fun fn hfn => ?_
  let D := w.heap.size
  let L := w.heap.size + 1
  let rc : LoopState → Option Code → Obj := fun st pe => .loop { state := st, pending := pe, fn, tmps := a.tmps, params := ps, assign, body, defers := D }
  let W1 := (w.alloc (.deferred (some []))).alloc (rc .ready none)
  have bL : W1.heap[L]? = some (rc .ready none) := by
    have h := World.alloc_heap_new (w.alloc (.deferred (some []))) (rc .ready none)
    rwa [World.size_alloc] at h
  have bD : W1.heap[D]? = some (.deferred (some [])) := (Below.heap_alloc _ _ _ (by simp [D])).trans (World.alloc_heap_new w _)
  have bW : Below w.heap.size w W1 := ((Below.refl _ w).alloc (Nat.le_refl _) _).alloc (by simp) _
  have put : ∀ (W : World) (l : Nat) (o o' : Obj), w.heap.size ≤ l → W.heap[l]? = some o → o.isCells = false → o.isWalk = false → KpB n₀ bs W (W.putObj l o') := kpB_b hn0 hbs
  refine ⟨L, [{ target := .collected D, args := #[] }], W1, { target := .fn (.func gf) lb, args := #[.func (.yield L) #[] #[]] }, W1, gf, #[.func (.yield L) #[] #[]] ++ lb, W1,
    run_enterLoop_outer _ _ _ _ _, by simp only [resolve, hg]; simp [go_sem], fun f' hf' => by simp [Target.leads] at hf'; subst hf'; exact trivial, by simp [invoke, go_sem, eg], fun _ => by omega, ?_⟩
  refine (hseq L (fun pre W => I pre W ∧ W.heap[L]? = some (rc .ready none) ∧ W.heap[D]? = some (.deferred (some [])))
    (fun pre W => ∃ c, Ix c pre W ∧ W.heap[L]? = some (rc .done (some c)) ∧ W.heap[D]? = some (.deferred (some []))) W1 bW
    (hIb.and ((abidesBox_block _ (by simp only [L]; omega)).and (abidesBox_block _ (by simp only [D]; omega)))) ?_ ⟨hI.alloc _ (hI.alloc _ h0), bL, bD⟩).mono ?_
  · rintro pre x W ⟨hi, hl0, hk0⟩ hlen
    have hltW : L < W.heap.size := (Array.getElem?_eq_some_iff.1 hl0).1
    let Wa := W.alloc (ob x)
    have hl : Wa.heap[L]? = some (rc .ready none) := (Below.heap_alloc W (ob x) L hltW).trans hl0
    have hk : Wa.heap[D]? = some (.deferred (some [])) := (Below.heap_alloc W (ob x) D (by simp only [D, L] at *; omega)).trans hk0
    have hbx : Wa.heap[W.heap.size]? = some (ob x) := World.alloc_heap_new W (ob x)
    have hKa : KpB n₀ bs W Wa := KpB.ext (by exact (by repeat (first | exact Ext.refl _ | assumption | refine Ext.alloc ?_ _ | refine Ext.drew ?_ | refine Ext.drewN _ ?_ | refine Ext.trans ?_ (by assumption)))) (by simp only [L] at hltW; omega) (fun b hb => by have := hbs b hb; simp only [L] at hltW; omega)
    refine ⟨fn, _, assign, body, run_yield hl0 (hps x), roundIn_of_wpIn hfn (hass _ x W _ ⟨_, run_beginRound hl rfl, ?_⟩)⟩
    have hlt : L < Wa.heap.size := (Array.getElem?_eq_some_iff.1 hl).1
    let W2 := Wa.putObj L (rc .busy none)
    have hl2 : W2.heap[L]? = some (rc .busy none) := World.putObj_heap_same hlt
    have hk2 : W2.heap[D]? = some (.deferred (some [])) := (World.putObj_heap_other (by simp [D, L])).trans hk
    have hbx2 : W2.heap[W.heap.size]? = some (ob x) := (World.putObj_heap_other (by omega)).trans hbx
    refine wpIn_mono (hbody _ pre x W _ (hI.putObj _ (hI.alloc _ hi) (by simp [L]) hl rfl) hlen hbx2 (by simp only [L] at hltW; omega)) ?_
    have fin : ∀ (j : Option Code) (W3 : World), KeepsFrom w.heap.size W2 W3 →
        (Instr.endRound L j).run P W3 = .ok (.bool j.isNone) (W3.putObj L (rc (if j.isNone then .ready else .done) j)) ∧ W3.heap[L]? = some (rc .busy none) ∧
        (W3.putObj L (rc (if j.isNone then .ready else .done) j)).heap[L]? = some (rc (if j.isNone then .ready else .done) j) ∧ (W3.putObj L (rc (if j.isNone then .ready else .done) j)).heap[D]? = some (.deferred (some [])) := fun j W3 hk3 => by
      have e := hk3.same _ _ (by simp [L]) hl2 rfl
      exact ⟨run_endRound j e, e, World.putObj_heap_same (Array.getElem?_eq_some_iff.1 e).1, (World.putObj_heap_other (by simp [D, L])).trans (hk3.same _ _ (by simp [D]) hk2 rfl)⟩
    rintro e a3 W3 hp
    cases e with
    | normal =>
      obtain ⟨p1, p2, p3⟩ := hp
      obtain ⟨f1, f2, f3, f4⟩ := fin none W3 p1
      exact ⟨_, _, f1, .inl ⟨rfl, ⟨hI.putObj _ p3 (by simp [L]) f2 rfl, f3, f4⟩, KpB.trans (KpB.trans (hKa.trans (put Wa L _ _ (by simp [L]) hl rfl rfl)) p2) (put _ _ _ _ (by simp [L]) f2 rfl rfl)⟩⟩
    | ret =>
      obtain ⟨f1, f2, f3, f4⟩ := fin (some .ret) W3 hp.1
      exact ⟨_, _, f1, .inr ⟨rfl, .ret, (hIx _).putObj _ hp.2 (by simp [L]) f2 rfl, f3, f4⟩⟩
    | exit id =>
      obtain ⟨f1, f2, f3, f4⟩ := fin (some (.exit id)) W3 hp.1
      exact ⟨_, _, f1, .inr ⟨rfl, .exit id, (hIx _).putObj _ hp.2 (by simp [L]) f2 rfl, f3, f4⟩⟩
    | goto t =>
      obtain ⟨f1, f2, f3, f4⟩ := fin (some (.goto t)) W3 hp.1
      exact ⟨_, _, f1, .inr ⟨rfl, .goto t, (hIx _).putObj _ hp.2 (by simp [L]) f2 rfl, f3, f4⟩⟩
    | panic ch => exact hp.elim
    | outgrown => exact hp.elim
  · rintro e W2 ⟨⟨v, rfl⟩, (⟨xs, hS, hi, hl, hk⟩ | ⟨pre, hSp, c, hi, hl, hk⟩)⟩
    · exact ⟨none, _, run_endLoop hl (by simp), hdone _ xs _ (Nat.le_refl _) hS (hI.putObj _ hi (by simp [L]) hl rfl) ((World.putObj_heap_other (by simp [D, L])).trans hk)⟩
    · exact ⟨some c, _, run_endLoop hl (by simp), hstop _ c pre _ (Nat.le_refl _) hSp ((hIx c).putObj _ hi (by simp [L]) hl rfl) ((World.putObj_heap_other (by simp [D, L])).trans hk)⟩

end Go.Proofs.Ythopgonbndoidaa
