/- shares, Shares, Pieces, SameRatios and CheckShares of the specification; CheckShares of the program. -/
import Derived.Test.YthopgonbndoidaaVRSh
import Derived.Lib.BufferWrite
namespace Go.Proofs.Ythopgonbndoidaa
open Go.RowKit Go.Shelf Go.Lib

theorem ixr_ext {w W : World} (B : Nat) (hx : Ext w W) (hB : w.heap.size ≤ B) (v u : Value) : Ext w ((W.setCell ⟨B, 0, none⟩ v).setCell ⟨B, 1, none⟩ u) :=
  (hx.setCell (p := ⟨B, 0, none⟩) hB _).setCell (p := ⟨B, 1, none⟩) hB _
theorem RowR.lt {n₀ : Nat} {v : Value} {l : List Ra} {W : World} (h : RowR n₀ v l W) : ∀ g, v.ownBlock = some g → n₀ ≤ g ∧ g < W.heap.size := World.ownsRow.lt h
theorem rowR_kept {n₀ : Nat} {v : Value} {l : List Ra} {W W' : World} {row : Option Nat} (h : RowR n₀ v l W) (x : W.grownBy W' row) (hne : v.ownBlock = none ∨ v.ownBlock ≠ row) : RowR n₀ v l W' :=
  World.ownsRow.kept h x hne
theorem rowR_base {n₀ n₁ : Nat} {v : Value} {l : List Ra} {W : World} (h : RowR n₀ v l W) (hb : n₁ ≤ n₀) : RowR n₁ v l W := by
  refine ⟨h.1, ?_⟩
  rcases h.2 with h0 | ⟨g, cap, cur, h0, h1, h2⟩
  · exact .inl h0
  · exact .inr ⟨g, cap, cur, h0, Nat.le_trans hb h1, h2⟩
theorem rowR_cells {n₀ B : Nat} {v : Value} {l : List Ra} {W : World} (h : RowR n₀ v l W) (hB : B < n₀) (x y : Value) : RowR n₀ v l ((W.setCell ⟨B, 0, none⟩ x).setCell ⟨B, 1, none⟩ y) := by
  have hne : v.ownBlock ≠ some B := fun e => by have := (h.lt _ e).1; omega
  exact rowR_kept (rowR_kept h (grownBy_setCell _ _ _ _) (.inr hne)) (grownBy_setCell _ _ _ _) (.inr hne)
theorem append_ra {ops : Array Oper} {rest : List Oper} {o : Oper} {a : Act} {Q : Exit → Act → World → Prop} {w : World} (hgd : o.guard = none) (s x : Operand)
    (ho : o.op = .call { callee := .builtin .append, args := #[s, x], argTypes := #[28, 28] })
    (base : Nat) (v : Value) (ad : Addr) (c : Nat) (l : List Ra) (r : Ra) (hs : a.eval s = v) (hrow : RowR base v l w) (hx : a.eval x = .slice (some ad) 1 c)
    (hc : ∀ j u, [Value.int .i64 r.n, Value.int .i64 r.d][j]? = some u → w.cell? (ad.add j) = some u) (hb : base ≤ w.heap.size) (hl : l.length ≤ 2000000)
    (h : ∀ v' w', RowR base v' (l ++ [r]) w' → w.grownBy w' v.ownBlock → wpList Try.prog ops Q rest (a.put o.dst v') w') : wpList Try.prog ops Q (o :: rest) a w := by
  obtain ⟨v', w', h1, h2, h3⟩ := run_append_rat w o.type base v ad c l r hrow hc hb hl
  exact Go.Lib.wpList_append_run_sl w hgd s x 28 ho _ _ hs hx h1 (h _ _ h2 h3)
theorem shL_len (T : Tr) (l : List Py) : (shL T l).length = l.length := by simp [shL]

def IxrPost (w : World) (l : List Ra) (E : Int) (e : Ending) (w' : World) : Prop := ∃ v, e = .returned (.agg #[v, .int .i64 E]) ∧ RasAt w' v l ∧ Ext w w'
end Go.Proofs.Ythopgonbndoidaa
