/- more and listed of the specification. -/
import Derived.Test.YtejcmdoalhnpeaaGreatDoorComP
import Derived.Laws.OwnMore
namespace Go.Proofs.YtejcmdoalhnpeaaGreatDoor
open Go.RowKit Go.Shelf

theorem addM_last (l : List Sp) (s : Sp) (m : Int) : addM (l ++ [s]) m = if s.hi = m - 1 then l ++ [⟨s.lo, m⟩] else l ++ [s] ++ [⟨m, m⟩] := by
  unfold addM
  simp
theorem cellsS_set (l : List Sp) (s : Sp) (m : Int) : (cellsS (l ++ [s])).set (l.length * 2 + 1) (.int .i64 m) = cellsS (l ++ [⟨s.lo, m⟩]) := by
  rw [cellsS_append, cellsS_append, List.set_append, if_neg (by rw [cellsS_len]; omega), cellsS_len]
  rw [show l.length * 2 + 1 - l.length * 2 = 1 by omega]
  rfl
/-- what more returns: a row of its own, or the one that it was handed, grown -/
def MorePost (base : Nat) (v : Value) (l : List Sp) (m : Int) (w : World) (e : Ending) (w' : World) : Prop :=
  ∃ v', e = .returned v' ∧ RowS base v' (addM l m) w' ∧ w.grownBy w' v.ownBlock
theorem grown_row {w w' : World} (h : w.grownBy w' none) (r : Option Nat) : w.grownBy w' r := ⟨h.os, h.tape, h.output, h.size, fun k hk _ => h.block k hk (by simp)⟩
theorem grown_new {w w' : World} (h : w.grownBy w' none) {g i : Nat} (hg : w.heap.size ≤ g) (u : Value) : w.grownBy (w'.setCell ⟨g, i, none⟩ u) none :=
  ⟨h.os, h.tape, h.output, by have := h.size; simpa [World.setCell] using this, fun k hk hne => (Below.heap_setCell w' ⟨g, i, none⟩ u k (by simp; omega)).trans (h.block k hk hne)⟩

theorem grown_pre {w w' : World} {o : Obj} {r : Option Nat} (h : (w.alloc o).grownBy w' r) : w.grownBy w' r :=
  ⟨h.os, h.tape, h.output, Nat.le_trans (by simp) h.size, fun k hk hne => (h.block k (by simp; omega) hne).trans (Below.heap_alloc w o k hk)⟩

theorem cellsS_snoc {l' : List Sp} {s : Sp} {n : Nat} (h : l'.length = n) : (cellsS (l' ++ [s])).length = (n + 1) * 2 := by
  rw [cellsS_len]; simp [h]
theorem cellsS_one (l : List Sp) : ∀ u ∈ cellsS l, u.oneCell' = true := by
  intro u hu
  unfold cellsS at hu
  simp only [List.mem_flatMap, List.mem_cons, List.not_mem_nil, or_false] at hu
  obtain ⟨s, _, rfl | rfl⟩ := hu <;> rfl
theorem ownsRow_new {W : World} {base : Nat} {e : TypeId} {size : Nat} {v : Value} {k : Nat} {xs : List Value} (h : W.ownsRow base e size v (0 + (k + 1)) xs) : ∃ g cap, v = .slice (some ⟨g, 0, none⟩) (0 + (k + 1)) cap ∧ base ≤ g := by
  rcases h.2 with ⟨_, h0⟩ | ⟨g, cap, cur, rfl, hb, _⟩
  · omega
  · exact ⟨g, cap, rfl, hb⟩
theorem row_last {W : World} {base g cap n : Nat} {l' : List Sp} {s : Sp} (hn : l'.length = n) (h : W.ownsRow base 45 2 (.slice (some ⟨g, 0, none⟩) (0 + (n + 1)) cap) (0 + (n + 1)) ([] ++ cellsS (l' ++ [s]))) : W.cell? ⟨g, n * 2 + 1, none⟩ = some (.int .i64 s.hi) := by
  rw [World.ownsRow.cellAt h (n * 2 + 1) (by omega), List.nil_append]
  have := (cellsS_get (l' ++ [s]) n (by simp; omega)).2
  rw [this]
  subst hn
  simp
theorem row_weak {base base' : Nat} {W : World} {v : Value} {l : List Sp} (hb : base ≤ base') (h : W.ownsRow base' 45 2 v l.length (cellsS l)) : RowS base v l W := by
  unfold RowS
  refine ⟨h.1, ?_⟩
  rcases h.2 with h0 | ⟨g, cap, cur, h1, h2, h3⟩
  · exact .inl h0
  · exact .inr ⟨g, cap, cur, h1, Nat.le_trans hb h2, h3⟩
theorem row_n {base n c : Nat} {A : Option Addr} {W : World} {l' : List Sp} {s : Sp} (hn : l'.length = n) (h : RowS base (.slice A (l' ++ [s]).length c) (l' ++ [s]) W) : W.ownsRow base 45 2 (.slice A (n + 1) c) (n + 1) (cellsS (l' ++ [s])) := by
  have e : (l' ++ [s]).length = n + 1 := by simp [hn]
  unfold RowS at h
  rw [e] at h; exact h
theorem row_snoc {base n : Nat} {W : World} {v : Value} {l' : List Sp} {s : Sp} {m : Int} (hn : l'.length = n) (h : W.ownsRow base 45 2 v (n + 1 + 1) (cellsS (l' ++ [s]) ++ [.int .i64 m, .int .i64 m])) : RowS base v (l' ++ [s] ++ [⟨m, m⟩]) W := by
  unfold RowS
  have e : (l' ++ [s] ++ [(⟨m, m⟩ : Sp)]).length = n + 1 + 1 := by simp [hn]
  rw [e, cellsS_append]; exact h

end Go.Proofs.YtejcmdoalhnpeaaGreatDoor
