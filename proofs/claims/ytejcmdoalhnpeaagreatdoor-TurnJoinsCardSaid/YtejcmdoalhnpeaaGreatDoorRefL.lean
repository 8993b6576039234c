/- Spans, Rest and Common of the specification. -/
import Derived.Test.YtejcmdoalhnpeaaGreatDoorMore
import Derived.Test.YtejcmdoalhnpeaaGreatDoorHas
namespace Go.Proofs.YtejcmdoalhnpeaaGreatDoor
open Go.RowKit Go.Shelf

/-- what a list of the specification is -/
def LstPost (w : World) (l : List Sp) (E : Int) (e : Ending) (w' : World) : Prop := ∃ v, e = .returned (.agg #[v, .int .i64 E]) ∧ SpansAt w' v l ∧ Ext w w'

def lsV (v : Value) (l : List Sp) : Value := if 2000 < l.length then .slice none 0 0 else v
theorem lsV_form (A : Option Addr) (c : Nat) (l : List Sp) : ∃ A2 c2, lsV (.slice A l.length c) l = .slice A2 (listed l).length c2 := by
  unfold lsV listed
  split
  · exact ⟨none, 0, rfl⟩
  · exact ⟨A, c, rfl⟩
theorem lsV_at {base : Nat} {v : Value} {l : List Sp} {W : World} (h : RowS base v l W) : SpansAt W (lsV v l) (listed l) := by
  unfold lsV listed
  split
  · exact (rowS_nil 0 _).at_
  · exact h.at_
theorem ext_row {a w w' : World} {base : Nat} {v : Value} {l : List Sp} (h : Ext a w) (hr : RowS base v l w) (hb : a.heap.size ≤ base) (hg : w.grownBy w' v.ownBlock) : Ext a w' :=
  Below.grown h hg h.size (fun k e => by have := (World.ownsRow.lt hr k e).1; omega)
theorem lst_t {P : Int → Bool} {lo : Int} {k : Nat} (h : P (lo + k) = true) : lst P lo (k + 1) = addM (lst P lo k) (lo + k) := by simp [lst, h]
theorem lst_f {P : Int → Bool} {lo : Int} {k : Nat} (h : P (lo + k) = false) : lst P lo (k + 1) = lst P lo k := by simp [lst, h]
theorem row_far {base B : Nat} {v : Value} {l : List Sp} {W : World} (h : RowS base v l W) (hB : B < base) (i : Nat) (u : Value) : RowS base v l (W.setCell ⟨B, i, none⟩ u) :=
  World.ownsRow.kept h (row := some B) ⟨rfl, rfl, rfl, by simp [World.setCell], fun k _ hne => Below.heap_setCell W ⟨B, i, none⟩ u k (fun e => hne (by rw [e]))⟩ (by
    cases e : v.ownBlock with
    | none => exact .inl rfl
    | some g => right; intro e2; have := (World.ownsRow.lt h g e).1; injection e2 with e2; omega)


end Go.Proofs.YtejcmdoalhnpeaaGreatDoor
