/- Rows of integers of the call's own: appended to, by slices too, stored into, made. slices.Sort of a row of integers of the call's own. -/
import Derived.Test.YthopgonbndoidaaVShs
import Derived.Test.YthopgonbndoidaaVWt
import Derived.Test.YthopgonbndoidaaVChg
import Derived.Deep.Upon
import Derived.Lib.SlFresh
import Derived.Maps.AppendAt
import Derived.Deep.AppendSrc
import Derived.Test.YthopgonbndoidaaShelf
import Derived.Sort.OwnSortedInts
namespace Go.Proofs.Ythopgonbndoidaa
open Go.RowKit Go.Shelf

def cellsI (l : List Int) : List Value := l.map (Value.int .i64)
theorem cellsI_len (l : List Int) : (cellsI l).length = l.length := by simp [cellsI]
theorem cellsI_append (l r : List Int) : cellsI (l ++ r) = cellsI l ++ cellsI r := by simp [cellsI]
theorem cellsI_get (l : List Int) (i : Nat) (h : i < l.length) : (cellsI l)[i]? = some (.int .i64 l[i]) := by simp [cellsI, h]
theorem cellsI_one (l : List Int) : ∀ u ∈ cellsI l, u.oneCell' = true := by
  intro u hu
  obtain ⟨x, _, rfl⟩ := List.mem_map.1 hu
  rfl
theorem infoInt : (Try.prog.info? 3).map (fun i => (i.zero, i.size, i.bytes)) = some (some (.int .i64 0), 1, 8) := by kernel_rfl
theorem undInt : (Try.prog).underlying 34 = some (.slice 3) := by kernel_rfl
/-- a slice of the call's own that holds integers -/
def RowI (n₀ : Nat) (v : Value) (l : List Int) (W : World) : Prop := W.ownsRow n₀ 3 1 v l.length (cellsI l)
theorem RowI.form {n₀ : Nat} {v : Value} {l : List Int} {W : World} (h : RowI n₀ v l W) : ∃ A c, v = .slice A l.length c := by
  rcases h.2 with ⟨rfl, h0⟩ | ⟨g, cap, cur, rfl, _⟩
  · exact ⟨none, 0, by rw [h0]⟩
  · exact ⟨_, _, rfl⟩
theorem RowI.block {n₀ : Nat} {v : Value} {l : List Int} {W : World} (h : RowI n₀ v l W) (h0 : 0 < l.length) : ∃ g c, v = .slice (some ⟨g, 0, none⟩) l.length c ∧ n₀ ≤ g ∧ g < W.heap.size ∧ l.length ≤ c := by
  rcases h.2 with ⟨rfl, h1⟩ | ⟨g, cap, cur, rfl, h1, h2, h3, _⟩
  · omega
  · exact ⟨g, cap, rfl, h1, (Array.getElem?_eq_some_iff.1 h2).1, h3⟩
theorem RowI.at_ {n₀ : Nat} {v : Value} {l : List Int} {W : World} (h : RowI n₀ v l W) : IntsAt W v l := by
  rcases h.2 with ⟨rfl, h0⟩ | ⟨g, cap, cur, rfl, h1, h2, h3, h4, h5, h6⟩
  · exact ⟨none, 0, by rw [h0], by omega, fun i hi => by omega⟩
  · refine ⟨_, _, rfl, by omega, fun i hi => ⟨g, 0, rfl, ?_⟩⟩
    have hc := World.ownsRow.cellAt (g := g) (cap := cap) h
    rw [Nat.zero_add]
    exact (hc i (by omega)).trans (cellsI_get l i hi)
theorem rowI_nil (n₀ : Nat) (W : World) : RowI n₀ (.slice none 0 0) [] W := World.ownsRow_nil _ _ _ _
theorem rowI_ext {n₀ : Nat} {v : Value} {l : List Int} {W W' : World} (h : RowI n₀ v l W) (x : Ext W W') : RowI n₀ v l W' :=
  World.ownsRow.kept h (grown_none x) (by cases v.ownBlock <;> simp)
theorem rowI_kept {n₀ : Nat} {v : Value} {l : List Int} {W W' : World} {row : Option Nat} (h : RowI n₀ v l W) (x : W.grownBy W' row) (hne : v.ownBlock = none ∨ v.ownBlock ≠ row) : RowI n₀ v l W' :=
  World.ownsRow.kept h x hne
theorem rowI_base {n₀ n₁ : Nat} {v : Value} {l : List Int} {W : World} (h : RowI n₀ v l W) (hb : n₁ ≤ n₀) : RowI n₁ v l W := by
  refine ⟨h.1, ?_⟩
  rcases h.2 with h0 | ⟨g, cap, cur, h0, h1, h2⟩
  · exact .inl h0
  · exact .inr ⟨g, cap, cur, h0, by omega, h2⟩
theorem rowI_set {n₀ g c j : Nat} {l : List Int} {W : World} (h : RowI n₀ (.slice (some ⟨g, 0, none⟩) l.length c) l W) (x : Int) :
    RowI n₀ (.slice (some ⟨g, 0, none⟩) l.length c) (l.set j x) (W.setCell ⟨g, j, none⟩ (.int .i64 x)) := by
  have h1 := (World.ownsRow.stored h j (.int .i64 x)).1
  unfold RowI
  rw [List.length_set]
  have e : cellsI (l.set j x) = (cellsI l).set j (.int .i64 x) := by simp [cellsI, List.map_set]
  rw [e]
  exact h1
theorem ints_one (W : World) (x : Int) (t : TypeId) : IntsAt (W.alloc (.cells #[.int .i64 x] t)) (.slice (some ⟨W.heap.size, 0, none⟩) 1 1) [x] :=
  ⟨_, 1, rfl, by simp, fun i hi => ⟨W.heap.size, 0, rfl, by
    have : i = 0 := by simpa using hi
    subst this
    exact (Cls.new W t #[.int .i64 x]).cell 0⟩⟩
theorem ints_oneAt (W : World) (x : Int) (t : TypeId) {N : Nat} (h : N = W.heap.size) : IntsAt (W.alloc (.cells #[.int .i64 x] t)) (.slice (some ⟨N, 0, none⟩) 1 1) [x] := h ▸ ints_one W x t
theorem IntsAt.cells {w : World} {ao : Option Addr} {l : List Int} {c : Nat} (h : IntsAt w (.slice ao l.length c) l) (h0 : l.length ≠ 0) : ∃ ad, ao = some ad ∧ ∀ j u, (cellsI l)[j]? = some u → w.cell? (ad.add j) = some u := by
  obtain ⟨b, o, rfl, _⟩ := h.get 0 (by omega)
  refine ⟨_, rfl, fun j u hj => ?_⟩
  have hjl : j < l.length := by
    have := (List.getElem?_eq_some_iff.1 hj).1
    rwa [cellsI_len] at this
  obtain ⟨b2, o2, e, k1⟩ := h.get j hjl
  simp only [Option.some.injEq, Addr.mk.injEq, and_true] at e
  obtain ⟨rfl, rfl⟩ := e
  have ha : Addr.add ⟨b, o, none⟩ j = ⟨b, o + j, none⟩ := by simp only [Addr.add]; split <;> simp_all
  rw [ha, k1, ← Option.some.inj (hj.symm.trans (cellsI_get l j hjl))]

/-- append of a whole slice to an own row -/
theorem run_append_ints (w : World) (ty : TypeId) (base : Nat) (v u : Value) (l r : List Int) (hrow : RowI base v l w) (hu : IntsAt w u r) (hb : base ≤ w.heap.size) (hl : l.length + r.length ≤ 2000000) :
    ∃ v' w', (Builtin.append_ #[34, 34] ty #[v, u]).run Try.prog w = .ok v' w' ∧ RowI base v' (l ++ r) w' ∧ w.grownBy w' v.ownBlock ∧ (v'.ownBlock = v.ownBlock ∨ v'.ownBlock = some w.heap.size) := by
  obtain ⟨i0, hi0, hz0, hz1, hz2⟩ := info_parts infoInt
  obtain ⟨ao, c, rfl, hc⟩ := hu.len
  by_cases hm : r.length = 0
  · have hn : r = [] := List.eq_nil_of_length_eq_zero hm
    subst hn
    have hsrc : Go.Src Try.prog i0.size 34 (.slice ao 0 c) 0 [] w := by
      cases ao with
      | none => exact Go.Src.ofNil w undInt c
      | some ad => exact Go.Src.ofSlice w undInt ad 0 c [] (by simp) (by simp) (by simp)
    rw [List.append_nil]
    have hown' := hrow
    obtain ⟨hxl, hf⟩ := hown'
    rcases hf with ⟨rfl, h0⟩ | ⟨g, cap, cur, rfl, hb, hcur, h4, h5, h6⟩
    · exact ⟨_, w, run_append_nothing w 34 34 ty 3 i0 undInt hi0 none 0 0 (Nat.le_refl _) _ hsrc, by have h := hrow; exact h, World.grownBy.refl _ _, .inl rfl⟩
    · exact ⟨_, w, run_append_nothing w 34 34 ty 3 i0 undInt hi0 _ _ cap h4 _ hsrc, hrow, World.grownBy.refl _ _, .inl rfl⟩
  · obtain ⟨ad, rfl, hcc⟩ := hu.cells hm
    obtain ⟨v', w', h1, h2, h3, _, h4⟩ := run_append_own_at (P := Try.prog) w base 34 ty 3 i0 (.int .i64 0) 1 8 undInt hi0 hz0 hz1 hz2 rfl (by decide) v l.length (cellsI l) hrow ad r.length c (cellsI r) (by rw [cellsI_len]; omega) hcc (cellsI_one r) (by unfold maxLen; omega) (by omega) hb
    refine ⟨v', w', h1, ?_, h3, h4⟩
    unfold RowI
    rw [List.length_append, cellsI_append]
    exact h2
theorem append_ints {ops : Array Oper} {rest : List Oper} {o : Oper} {a : Act} {Q : Exit → Act → World → Prop} {w : World} (hgd : o.guard = none) (s x : Operand)
    (ho : o.op = .call { callee := .builtin .append, args := #[s, x], argTypes := #[34, 34] })
    (base : Nat) (v u : Value) (l r : List Int) (hs : a.eval s = v) (hrow : RowI base v l w) (hx : a.eval x = u) (hu : IntsAt w u r) (hb : base ≤ w.heap.size) (hl : l.length + r.length ≤ 2000000)
    (h : ∀ v' w', RowI base v' (l ++ r) w' → w.grownBy w' v.ownBlock → (v'.ownBlock = v.ownBlock ∨ v'.ownBlock = some w.heap.size) → wpList Try.prog ops Q rest (a.put o.dst v') w') : wpList Try.prog ops Q (o :: rest) a w := by
  obtain ⟨v', w', h1, h2, h3, h4⟩ := run_append_ints w o.type base v u l r hrow hu hb hl
  exact Go.Lib.wpList_append_run_sl w hgd s x 34 ho _ _ hs hx h1 (h _ _ h2 h3 h4)
theorem appendIn_ints {F : Fence} {nF : Nat} {ops : Array Oper} {rest : List Oper} {o : Oper} {a : Act} {Q : Exit → Act → World → Prop} {w : World} (hgd : o.guard = none) (s x : Operand)
    (ho : o.op = .call { callee := .builtin .append, args := #[s, x], argTypes := #[34, 34] })
    (base : Nat) (v u : Value) (l r : List Int) (hs : a.eval s = v) (hrow : RowI base v l w) (hx : a.eval x = u) (hu : IntsAt w u r) (hb : base ≤ w.heap.size) (hl : l.length + r.length ≤ 2000000)
    (h : ∀ v' w', RowI base v' (l ++ r) w' → w.grownBy w' v.ownBlock → (v'.ownBlock = v.ownBlock ∨ v'.ownBlock = some w.heap.size) → wpListIn F nF Try.prog ops Q rest (a.put o.dst v') w') : wpListIn F nF Try.prog ops Q (o :: rest) a w := by
  obtain ⟨v', w', h1, h2, h3, h4⟩ := run_append_ints w o.type base v u l r hrow hu hb hl
  refine wpListIn_plain hgd fun K hK' => ?_
  unfold Oper.wpIn
  refine ⟨?_, ?_⟩
  · simp [Oper.about, ho, resolve, Target.leads, Sem.run_pure]
  · rw [Oper.semAt_plain F _ _ (by rw [ho]; intro c hc'; cases hc')]
    simp [execOp, ho, resolve, invoke, builtin, hs, hx, h1, Result.andThen]
    exact hK' _ _ (h v' w' h2 h3 h4)
end Go.Proofs.Ythopgonbndoidaa
namespace Go.Proofs.Ythopgonbndoidaa
open Go.RowKit Go.Shelf

def srtI (l : List Int) : List Int := l.mergeSort (fun x y => decide (x ≤ y))
theorem srtI_len (l : List Int) : (srtI l).length = l.length := List.length_mergeSort l
theorem srtI_perm (l : List Int) : (srtI l).Perm l := List.mergeSort_perm _ _
theorem srtI_sorted (l : List Int) : (srtI l).Pairwise (fun a b => a ≤ b) := by
  have h := List.pairwise_mergeSort (le := fun x y : Int => decide (x ≤ y)) (fun a b c h1 h2 => by simp at *; omega) (fun a b => by simp; omega) l
  exact h.imp (fun h => by simpa using h)
theorem sort_any (base : Nat) (v : Value) (l : List Int) (w : World) (hrow : RowI base v l w) (hn : l.length ≤ 2000000) :
    Calls Try.prog 86 #[v] w fun e w' => e = .returned (.tuple #[]) ∧ RowI base v (srtI l) w' ∧ w.grownBy w' v.ownBlock := by
  by_cases h0 : l.length = 0
  · have hnil := List.eq_nil_of_length_eq_zero h0
    subst hnil
    obtain ⟨A, c, rfl⟩ := hrow.form
    refine (Try.slices_Sort_int_none A c w).mono ?_
    rintro e w' ⟨rfl, rfl⟩
    exact ⟨rfl, by simpa [srtI] using hrow, World.grownBy.refl _ _⟩
  · obtain ⟨hxl, hf⟩ := hrow
    rcases hf with ⟨_, h⟩ | ⟨g, cap, cur, rfl, h1, h2, h3, h4, h5, h6⟩
    · exact absurd h h0
    · have hg : g < w.heap.size := (Array.getElem?_eq_some_iff.1 h2).1
      have hH := holds_of_blockI (ss := l) h2 (by rw [Nat.mul_one] at h6; exact h6)
      have hcon := Try.slices_Sort_int g 0 cap l w hH hg (by omega)
      refine Calls.mono hcon ?_
      rintro e w' ⟨rfl, n, os, rfl⟩
      refine ⟨rfl, ?_, grownBy_sortedI _⟩
      have := ownsRow_sortedI (os := os) (n := n) (ts := srtI l) (ss := l) (srtI_len l) h1 h2 h3 h4 h5
      unfold RowI cellsI
      rw [srtI_len]
      exact this
theorem rowI_own {β : Type} {B n₀ : Nat} {v : Value} {l : List Int} (h : ∀ g, v.ownBlock = some g → g < B) : OwnFrom B (fun (_ : β) W => RowI n₀ v l W) := fun _ _ _ row hs hg hr => by
  refine rowI_kept hs hg ?_
  cases hv : v.ownBlock with
  | none => exact .inl rfl
  | some g =>
    refine .inr fun e => ?_
    have := h g hv
    have := (hr g e.symm).1
    omega
theorem rowI_abide {β : Type} {Br n₀ : Nat} {v : Value} {l : List Int} (h : ∀ g, v.ownBlock = some g → g ≠ Br) : AbidesBox Br (fun (_ : β) W => RowI n₀ v l W) :=
  ⟨fun _ W u hs => rowI_kept hs (grown_set W Br 0 u) (by
    cases hv : v.ownBlock with
    | none => exact .inl rfl
    | some g => exact .inr fun e => h g hv (Option.some.inj e)), fun _ _ _ hs => rowI_ext hs (by repeat (first | exact Ext.refl _ | assumption | refine Ext.alloc ?_ _ | refine Ext.drew ?_ | refine Ext.drewN _ ?_ | refine Ext.trans ?_ (by assumption)))⟩
theorem RowI.lt {n₀ : Nat} {v : Value} {l : List Int} {W : World} (h : RowI n₀ v l W) : ∀ g, v.ownBlock = some g → n₀ ≤ g ∧ g < W.heap.size := World.ownsRow.lt h
end Go.Proofs.Ythopgonbndoidaa
