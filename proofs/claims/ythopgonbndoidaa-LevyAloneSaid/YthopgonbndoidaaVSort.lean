/- slices.Sort of a row of integers of the call's own. -/
import Derived.Test.YthopgonbndoidaaVRow
import Derived.Test.YthopgonbndoidaaShelf
import Derived.Sort.OwnSortedInts
namespace Go.Proofs.Ythopgonbndoidaa
open Go.RowKit Go.Shelf

def srtI (l : List Int) : List Int := l.mergeSort (fun x y => decide (x ≤ y))
theorem srtI_len (l : List Int) : (srtI l).length = l.length := List.length_mergeSort l
theorem srtI_perm (l : List Int) : (srtI l).Perm l := List.mergeSort_perm _ _
theorem srtI_sorted (l : List Int) : (srtI l).Pairwise (fun a b => a ≤ b) := by
  have h := List.pairwise_mergeSort (le := fun x y : Int => decide (x ≤ y)) (fun a b c h1 h2 => by simp at *; omega) (fun a b => by simp; omega) l
  exact h.imp (fun h => by simpa using h)
theorem sort_any (base : Nat) (v : Value) (l : List Int) (w : World) (hrow : RowI base v l w) (hn : l.length ≤ 2000000) :
    Calls Try.prog 86 #[v] w fun e w' => e = .returned (.tuple #[]) ∧ RowI base v (srtI l) w' ∧ w.grownBy w' v.ownBlock := by
  by_cases h0 : l.length = 0
  · have hnil := List.eq_nil_of_length_eq_zero h0
    subst hnil
    obtain ⟨A, c, rfl⟩ := hrow.form
    refine (Try.slices_Sort_int_none A c w).mono ?_
    rintro e w' ⟨rfl, rfl⟩
    exact ⟨rfl, by simpa [srtI] using hrow, World.grownBy.refl _ _⟩
  · obtain ⟨hxl, hf⟩ := hrow
    rcases hf with ⟨_, h⟩ | ⟨g, cap, cur, rfl, h1, h2, h3, h4, h5, h6⟩
    · exact absurd h h0
    · have hg : g < w.heap.size := (Array.getElem?_eq_some_iff.1 h2).1
      have hH := holds_of_blockI (ss := l) h2 (by rw [Nat.mul_one] at h6; exact h6)
      have hcon := Try.slices_Sort_int g 0 cap l w hH hg (by omega)
      refine Calls.mono hcon ?_
      rintro e w' ⟨rfl, n, os, rfl⟩
      refine ⟨rfl, ?_, grownBy_sortedI _⟩
      have := ownsRow_sortedI (os := os) (n := n) (ts := srtI l) (ss := l) (srtI_len l) h1 h2 h3 h4 h5
      unfold RowI cellsI
      rw [srtI_len]
      exact this
theorem rowI_own {β : Type} {B n₀ : Nat} {v : Value} {l : List Int} (h : ∀ g, v.ownBlock = some g → g < B) : OwnFrom B (fun (_ : β) W => RowI n₀ v l W) := fun _ _ _ row hs hg hr => by
  refine rowI_kept hs hg ?_
  cases hv : v.ownBlock with
  | none => exact .inl rfl
  | some g =>
    refine .inr fun e => ?_
    have := h g hv
    have := (hr g e.symm).1
    omega
theorem rowI_abide {β : Type} {Br n₀ : Nat} {v : Value} {l : List Int} (h : ∀ g, v.ownBlock = some g → g ≠ Br) : AbidesBox Br (fun (_ : β) W => RowI n₀ v l W) :=
  ⟨fun _ W u hs => rowI_kept hs (grown_set W Br 0 u) (by
    cases hv : v.ownBlock with
    | none => exact .inl rfl
    | some g => exact .inr fun e => h g hv (Option.some.inj e)), fun _ _ _ hs => rowI_ext hs (by repeat (first | exact Ext.refl _ | assumption | refine Ext.alloc ?_ _ | refine Ext.drew ?_ | refine Ext.drewN _ ?_ | refine Ext.trans ?_ (by assumption)))⟩
theorem RowI.lt {n₀ : Nat} {v : Value} {l : List Int} {W : World} (h : RowI n₀ v l W) : ∀ g, v.ownBlock = some g → n₀ ≤ g ∧ g < W.heap.size := World.ownsRow.lt h
end Go.Proofs.Ythopgonbndoidaa
