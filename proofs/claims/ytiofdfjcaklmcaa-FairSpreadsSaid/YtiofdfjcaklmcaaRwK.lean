/- Rows of a call's own whose elements are some integers each: how slices of them read, and append of a whole slice. No program in sight. -/
import Derived.Test.YtiofdfjcaklmcaaVBase
import Derived.Deep.Upon
import Derived.Lib.SlFresh
import Derived.Maps.AppendAt
import Derived.Deep.AppendSrc
import Derived.Laws.OwnMore
namespace Go.Proofs.Ytiofdfjcaklmcaa
open Go.RowKit

/-- the cells of elements of k integers each -/
def cellsK {α : Type} (f : α → List Int) (l : List α) : List Value := l.flatMap (fun x => (f x).map (Value.int .i64))
theorem cellsK_len {α : Type} {f : α → List Int} {k : Nat} (hf : ∀ x, (f x).length = k) (l : List α) : (cellsK f l).length = l.length * k := by
  induction l with
  | nil => simp [cellsK]
  | cons x l ih =>
    have : cellsK f (x :: l) = (f x).map (Value.int .i64) ++ cellsK f l := rfl
    rw [this, List.length_append, List.length_map, hf, ih, List.length_cons, Nat.succ_mul, Nat.add_comm]
theorem cellsK_append {α : Type} (f : α → List Int) (l r : List α) : cellsK f (l ++ r) = cellsK f l ++ cellsK f r := by simp [cellsK]
theorem cellsK_one {α : Type} (f : α → List Int) (l : List α) : ∀ u ∈ cellsK f l, u.oneCell' = true := by
  intro u hu
  simp only [cellsK, List.mem_flatMap, List.mem_map] at hu
  obtain ⟨x, _, y, _, rfl⟩ := hu
  rfl
theorem cellsK_get {α : Type} {f : α → List Int} {k : Nat} (hf : ∀ x, (f x).length = k) : ∀ (l : List α) (i : Nat) (h : i < l.length) (r : Nat), r < k → (cellsK f l)[i * k + r]? = some (.int .i64 ((f l[i]).getD r 0))
  | [], i, h, _, _ => by simp at h
  | x :: l, 0, _, r, hr => by
    have e : cellsK f (x :: l) = (f x).map (Value.int .i64) ++ cellsK f l := rfl
    have hl : r < (f x).length := by rw [hf]; exact hr
    rw [e, Nat.zero_mul, Nat.zero_add, List.getElem?_append_left (by rw [List.length_map]; exact hl), List.getElem?_map, List.getElem?_eq_getElem hl, Option.map_some, List.getElem_cons_zero,
      List.getD_eq_getElem?_getD, List.getElem?_eq_getElem hl, Option.getD_some]
  | x :: l, i + 1, h, r, hr => by
    have e : cellsK f (x :: l) = (f x).map (Value.int .i64) ++ cellsK f l := rfl
    rw [e, List.getElem?_append_right (by rw [List.length_map, hf, Nat.succ_mul]; omega), List.length_map, hf, show (i + 1) * k + r - k = i * k + r by rw [Nat.succ_mul]; omega]
    exact cellsK_get hf l i (by simpa using h) r hr
/-- a slice that reads as such elements -/
def SeqK {α : Type} (f : α → List Int) (k : Nat) (W : World) (v : Value) (l : List α) : Prop :=
  ∃ ao c, v = .slice ao l.length c ∧ l.length ≤ c ∧ ∀ i (h : i < l.length), ∃ b o, ao = some ⟨b, o, none⟩ ∧ ∀ r, r < k → W.cell? ⟨b, o + i * k + r, none⟩ = some (.int .i64 ((f l[i]).getD r 0))
theorem SeqK.ext {α : Type} {f : α → List Int} {k : Nat} {W W' : World} {v : Value} {l : List α} (h : SeqK f k W v l) (x : Ext W W') : SeqK f k W' v l := by
  obtain ⟨ao, c, hv, hc, hi⟩ := h
  refine ⟨ao, c, hv, hc, fun i hl => ?_⟩
  obtain ⟨b, o, h0, h1⟩ := hi i hl
  exact ⟨b, o, h0, fun r hr => x.cell (h1 r hr)⟩
theorem SeqK.nil {α : Type} (f : α → List Int) (k : Nat) (W : World) : SeqK f k W (.slice none 0 0) ([] : List α) := ⟨none, 0, rfl, by simp, fun i h => by simp at h⟩
theorem SeqK.cells {α : Type} {f : α → List Int} {k : Nat} (hf : ∀ x, (f x).length = k) (hk : 0 < k) {W : World} {ao : Option Addr} {c n : Nat} {l : List α} (h : SeqK f k W (.slice ao n c) l) (h0 : l.length ≠ 0) :
    ∃ ad, ao = some ad ∧ ∀ j u, (cellsK f l)[j]? = some u → W.cell? (ad.add j) = some u := by
  obtain ⟨ao', c', hv, hc, hi⟩ := h
  simp only [Value.slice.injEq] at hv
  obtain ⟨rfl, rfl, rfl⟩ := hv
  obtain ⟨b, o, rfl, _⟩ := hi 0 (by omega)
  refine ⟨_, rfl, fun j u hj => ?_⟩
  have hjl : j < l.length * k := by
    have := (List.getElem?_eq_some_iff.1 hj).1
    rwa [cellsK_len hf] at this
  have hd : j / k < l.length := Nat.div_lt_of_lt_mul (by rw [Nat.mul_comm]; exact hjl)
  have hm : j % k < k := Nat.mod_lt _ hk
  have he : j / k * k + j % k = j := by rw [Nat.mul_comm]; exact Nat.div_add_mod j k
  obtain ⟨b2, o2, e, h1⟩ := hi (j / k) hd
  simp only [Option.some.injEq, Addr.mk.injEq, and_true] at e
  obtain ⟨rfl, rfl⟩ := e
  have h2 := h1 _ hm
  have h3 := cellsK_get hf l (j / k) hd (j % k) hm
  rw [he] at h3
  rw [Nat.add_assoc, he] at h2
  have ha : Addr.add ⟨b, o, none⟩ j = ⟨b, o + j, none⟩ := by simp only [Addr.add]; split <;> simp_all
  rw [ha, h2, ← Option.some.inj (hj.symm.trans h3)]
/-- a row of the call's own of such elements -/
def RowK {α : Type} (e : TypeId) (f : α → List Int) (k n₀ : Nat) (v : Value) (l : List α) (W : World) : Prop := W.ownsRow n₀ e k v l.length (cellsK f l)
section
variable {α : Type} {e : TypeId} {f : α → List Int} {k n₀ : Nat} {v : Value} {l : List α} {W W' : World}
theorem RowK.form (h : RowK e f k n₀ v l W) : ∃ A c, v = .slice A l.length c := by
  rcases h.2 with ⟨rfl, h0⟩ | ⟨g, cap, cur, rfl, _⟩
  · exact ⟨none, 0, by rw [h0]⟩
  · exact ⟨_, _, rfl⟩
theorem RowK.at_ (hf : ∀ x, (f x).length = k) (h : RowK e f k n₀ v l W) : SeqK f k W v l := by
  rcases h.2 with ⟨rfl, h0⟩ | ⟨g, cap, cur, rfl, h1, h2, h3, h4, h5, h6⟩
  · exact ⟨none, 0, by rw [h0], by omega, fun i hi => by omega⟩
  · refine ⟨_, _, rfl, by omega, fun i hi => ⟨g, 0, rfl, fun r hr => ?_⟩⟩
    have hc := World.ownsRow.cellAt (g := g) (cap := cap) h
    rw [Nat.zero_add]
    refine (hc (i * k + r) ?_).trans (cellsK_get hf l i hi r hr)
    have : (i + 1) * k ≤ l.length * k := Nat.mul_le_mul_right _ hi
    rw [Nat.succ_mul] at this
    omega
theorem RowK.nil (e : TypeId) (f : α → List Int) (k n₀ : Nat) (W : World) : RowK e f k n₀ (.slice none 0 0) [] W := World.ownsRow_nil _ _ _ _
theorem RowK.lit0 {n₀ : Nat} (W : World) (e : TypeId) (f : α → List Int) (k : Nat) (h : n₀ ≤ W.heap.size) : RowK e f k n₀ (.slice (some ⟨W.heap.size, 0, none⟩) 0 0) ([] : List α) (W.alloc (.cells #[] e)) :=
  World.ownsRow_lit (base := n₀) (e := e) (size := k) W #[] 0 h (by decide) (by simp)
theorem RowK.ext (h : RowK e f k n₀ v l W) (x : Ext W W') : RowK e f k n₀ v l W' := World.ownsRow.kept h (grown_none x) (by cases v.ownBlock <;> simp)
theorem RowK.kept {row : Option Nat} (h : RowK e f k n₀ v l W) (x : W.grownBy W' row) (hne : v.ownBlock = none ∨ v.ownBlock ≠ row) : RowK e f k n₀ v l W' := World.ownsRow.kept h x hne
theorem RowK.lt (h : RowK e f k n₀ v l W) : ∀ g, v.ownBlock = some g → n₀ ≤ g ∧ g < W.heap.size := World.ownsRow.lt h
theorem RowK.base {n₁ : Nat} (h : RowK e f k n₀ v l W) (hb : n₁ ≤ n₀) : RowK e f k n₁ v l W := by
  refine ⟨h.1, ?_⟩
  rcases h.2 with h0 | ⟨g, cap, cur, h0, h1, h2⟩
  · exact .inl h0
  · exact .inr ⟨g, cap, cur, h0, Nat.le_trans hb h1, h2⟩
theorem RowK.neRow {α' : Type} {e' : TypeId} {f' : α' → List Int} {k' n' : Nat} {v' : Value} {l' : List α'} (h : RowK e f k n₀ v l W) (h' : RowK e' f' k' n' v' l' W) (hne : e ≠ e') : v.ownBlock = none ∨ v.ownBlock ≠ v'.ownBlock := by
  rcases h.2 with ⟨rfl, _⟩ | ⟨g, cap, cur, rfl, _, h1, _⟩
  · exact .inl rfl
  · rcases h'.2 with ⟨rfl, _⟩ | ⟨g', cap', cur', rfl, _, h2, _⟩
    · exact .inr (by simp [Value.ownBlock])
    · refine .inr (fun he => hne ?_)
      simp only [Value.ownBlock, Option.some.injEq] at he
      subst he
      have := Option.some.inj (h1.symm.trans h2)
      simp only [Obj.cells.injEq] at this
      exact this.2.1
theorem RowK.neCls {B : Nat} {t : TypeId} {cs : Array Value} (h : RowK e f k n₀ v l W) (h' : Cls B t cs W) (hne : t ≠ e) : some B ≠ v.ownBlock := by
  rcases h.2 with ⟨rfl, _⟩ | ⟨g, cap, cur, rfl, _, h1, _⟩
  · simp [Value.ownBlock]
  · intro he
    simp only [Value.ownBlock, Option.some.injEq] at he
    subst he
    have := Option.some.inj (h'.symm.trans h1)
    simp only [Obj.cells.injEq] at this
    exact hne this.2.1
end
/-- append of a whole slice to an own row -/
theorem run_append_rows {P : Program} {α : Type} {f : α → List Int} (w : World) (t ty e : TypeId) (i0 : TypeInfo) (z : Value) (k bytes : Nat) (hf : ∀ x, (f x).length = k) (hk : 0 < k)
    (und : P.underlying t = some (.slice e)) (hi0 : P.info? e = some i0) (hz0 : i0.zero = some z) (hz1 : i0.size = k) (hz2 : i0.bytes = bytes) (hzs : z.cells.size = k) (hby : bytes ≤ 1000)
    (base : Nat) (v u : Value) (l r : List α) (hrow : RowK e f k base v l w) (hu : SeqK f k w u r) (hb : base ≤ w.heap.size) (hl : l.length + r.length ≤ 2000000) :
    ∃ v' w', (Builtin.append_ #[t, t] ty #[v, u]).run P w = .ok v' w' ∧ RowK e f k base v' (l ++ r) w' ∧ w.grownBy w' v.ownBlock ∧ (v'.ownBlock = v.ownBlock ∨ v'.ownBlock = some w.heap.size) := by
  have hu' := hu
  obtain ⟨ao, c, rfl, hc, hi⟩ := hu
  by_cases hm : r.length = 0
  · have hn : r = [] := List.eq_nil_of_length_eq_zero hm
    subst hn
    have hsrc : Go.Src P i0.size t (.slice ao 0 c) 0 [] w := by
      cases ao with
      | none => exact Go.Src.ofNil w und c
      | some ad => exact Go.Src.ofSlice w und ad 0 c [] (by simp) (by simp) (by simp)
    rw [List.append_nil]
    have hown' := hrow
    obtain ⟨hxl, hf'⟩ := hown'
    rcases hf' with ⟨rfl, h0⟩ | ⟨g, cap, cur, rfl, hb, hcur, h4, h5, h6⟩
    · exact ⟨_, w, run_append_nothing w t t ty e i0 und hi0 none 0 0 (Nat.le_refl _) _ hsrc, by have h := hrow; exact h, World.grownBy.refl _ _, .inl rfl⟩
    · exact ⟨_, w, run_append_nothing w t t ty e i0 und hi0 _ _ cap h4 _ hsrc, hrow, World.grownBy.refl _ _, .inl rfl⟩
  · obtain ⟨ad, rfl, hcc⟩ := hu'.cells hf hk hm
    obtain ⟨v', w', h1, h2, h3, _, h4⟩ := run_append_own_at (P := P) w base t ty e i0 z k bytes und hi0 hz0 hz1 hz2 hzs hk v l.length (cellsK f l) hrow ad r.length c (cellsK f r) (cellsK_len hf r) hcc (cellsK_one f r) (by unfold maxLen; omega) (by
      refine Nat.le_trans (Nat.mul_le_mul hl hby) (by decide)) hb
    refine ⟨v', w', h1, ?_, h3, h4⟩
    unfold RowK
    rw [List.length_append, cellsK_append]
    exact h2
end Go.Proofs.Ytiofdfjcaklmcaa
