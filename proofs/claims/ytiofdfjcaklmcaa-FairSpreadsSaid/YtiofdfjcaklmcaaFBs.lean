/- Words for the walks of Fair: how slices of integers, tenants, slots and shifts read; rows of the call's own of integers and of shifts: appended to, stored into, sorted. The program's small functions of Fair: within, the index of a tenant and of a slot, whether a list has a number, room. Check of the program: the first error of a pool. counts of the program, by a map; sharing; CheckGiven, Counts; ladder. sharing of the program; CheckGiven, Counts; ladder. -/
import Derived.Test.YtiofdfjcaklmcaaRwK
import Derived.Test.YtiofdfjcaklmcaaReg
import Derived.Test.YtiofdfjcaklmcaaFPa
import Derived.Test.YtiofdfjcaklmcaaProg
import Derived.Test.YtiofdfjcaklmcaaShelf
import Derived.Sort.OwnSortedInts
import Derived.Lib.SliceRun
import Derived.Test.YtiofdfjcaklmcaaFPb
namespace Go.Proofs.Ytiofdfjcaklmcaa
open Go.RowKit Go.Shelf

/-- slices that read as lists -/
def IntsAt (w : World) (v : Value) (l : List Int) : Prop :=
  ∃ ao cap, v = .slice ao l.length cap ∧ l.length ≤ cap ∧ ∀ i (h : i < l.length), ∃ b o, ao = some ⟨b, o, none⟩ ∧ w.cell? ⟨b, o + i, none⟩ = some (.int .i64 l[i])
theorem IntsAt.ext {w w' : World} {v : Value} {l : List Int} (h : IntsAt w v l) (x : Ext w w') : IntsAt w' v l := by
  obtain ⟨ao, cap, hv, hle, hc⟩ := h
  refine ⟨ao, cap, hv, hle, fun i hi => ?_⟩
  obtain ⟨b, o, h0, h1⟩ := hc i hi
  exact ⟨b, o, h0, x.cell h1⟩
theorem IntsAt.len {w : World} {v : Value} {l : List Int} (h : IntsAt w v l) : ∃ ao cap, v = .slice ao l.length cap ∧ l.length ≤ cap := by obtain ⟨ao, cap, hv, hle, _⟩ := h; exact ⟨ao, cap, hv, hle⟩
theorem IntsAt.get {w : World} {ao : Option Addr} {n cap : Nat} {l : List Int} (h : IntsAt w (.slice ao n cap) l) (i : Nat) (hi : i < l.length) : ∃ b o, ao = some ⟨b, o, none⟩ ∧ w.cell? ⟨b, o + i, none⟩ = some (.int .i64 l[i]) := by
  obtain ⟨ao', cap', hv, _, hc⟩ := h
  simp only [Value.slice.injEq] at hv
  obtain ⟨rfl, rfl, rfl⟩ := hv
  exact hc i hi
theorem intsAt_nil (w : World) : IntsAt w (.slice none 0 0) [] := ⟨none, 0, rfl, by simp, fun i hi => by simp at hi⟩

/-- tenants; shifts (the slot's ID, to whom) -/
def fT (t : Te) : List Int := [t.id, t.most]
def fS (m : Int × Int) : List Int := [m.1, m.2]
theorem fT_len (t : Te) : (fT t).length = 2 := rfl
theorem fS_len (m : Int × Int) : (fS m).length = 2 := rfl
def TesAt (w : World) (v : Value) (l : List Te) : Prop := SeqK fT 2 w v l
def SfsAt (w : World) (v : Value) (l : List (Int × Int)) : Prop := SeqK fS 2 w v l
theorem seqK_len {α : Type} {f : α → List Int} {k : Nat} {w : World} {v : Value} {l : List α} (h : SeqK f k w v l) : ∃ ao cap, v = .slice ao l.length cap ∧ l.length ≤ cap := by obtain ⟨ao, c, hv, hc, _⟩ := h; exact ⟨ao, c, hv, hc⟩
theorem TesAt.ext {w w' : World} {v : Value} {l : List Te} (h : TesAt w v l) (x : Ext w w') : TesAt w' v l := SeqK.ext h x
theorem SfsAt.ext {w w' : World} {v : Value} {l : List (Int × Int)} (h : SfsAt w v l) (x : Ext w w') : SfsAt w' v l := SeqK.ext h x
theorem TesAt.len {w : World} {v : Value} {l : List Te} (h : TesAt w v l) : ∃ ao cap, v = .slice ao l.length cap ∧ l.length ≤ cap := seqK_len h
theorem SfsAt.len {w : World} {v : Value} {l : List (Int × Int)} (h : SfsAt w v l) : ∃ ao cap, v = .slice ao l.length cap ∧ l.length ≤ cap := seqK_len h
theorem TesAt.get {w : World} {ao : Option Addr} {n cap : Nat} {l : List Te} (h : TesAt w (.slice ao n cap) l) (i : Nat) (hi : i < l.length) : ∃ b o, ao = some ⟨b, o, none⟩ ∧ w.cell? ⟨b, o + i * 2, none⟩ = some (.int .i64 l[i].id) ∧ w.cell? ⟨b, o + i * 2 + 1, none⟩ = some (.int .i64 l[i].most) := by
  obtain ⟨ao', cap', hv, _, hc⟩ := h
  simp only [Value.slice.injEq] at hv
  obtain ⟨rfl, rfl, rfl⟩ := hv
  obtain ⟨b, o, h0, h1⟩ := hc i hi
  exact ⟨b, o, h0, h1 0 (by decide), h1 1 (by decide)⟩
theorem SfsAt.get {w : World} {ao : Option Addr} {n cap : Nat} {l : List (Int × Int)} (h : SfsAt w (.slice ao n cap) l) (i : Nat) (hi : i < l.length) : ∃ b o, ao = some ⟨b, o, none⟩ ∧ w.cell? ⟨b, o + i * 2, none⟩ = some (.int .i64 l[i].1) ∧ w.cell? ⟨b, o + i * 2 + 1, none⟩ = some (.int .i64 l[i].2) := by
  obtain ⟨ao', cap', hv, _, hc⟩ := h
  simp only [Value.slice.injEq] at hv
  obtain ⟨rfl, rfl, rfl⟩ := hv
  obtain ⟨b, o, h0, h1⟩ := hc i hi
  exact ⟨b, o, h0, h1 0 (by decide), h1 1 (by decide)⟩
/-- slots: an ID, and a slice of users -/
def SlsAt (w : World) (v : Value) (l : List Sl) : Prop :=
  ∃ ao cap, v = .slice ao l.length cap ∧ l.length ≤ cap ∧ ∀ i (h : i < l.length), ∃ b o u, ao = some ⟨b, o, none⟩ ∧ w.cell? ⟨b, o + i * 2, none⟩ = some (.int .i64 l[i].id) ∧ w.cell? ⟨b, o + i * 2 + 1, none⟩ = some u ∧ IntsAt w u l[i].us
theorem SlsAt.ext {w w' : World} {v : Value} {l : List Sl} (h : SlsAt w v l) (x : Ext w w') : SlsAt w' v l := by
  obtain ⟨ao, cap, hv, hle, hc⟩ := h
  refine ⟨ao, cap, hv, hle, fun i hi => ?_⟩
  obtain ⟨b, o, u, h0, h1, h2, h3⟩ := hc i hi
  exact ⟨b, o, u, h0, x.cell h1, x.cell h2, h3.ext x⟩
theorem SlsAt.len {w : World} {v : Value} {l : List Sl} (h : SlsAt w v l) : ∃ ao cap, v = .slice ao l.length cap ∧ l.length ≤ cap := by obtain ⟨ao, cap, hv, hle, _⟩ := h; exact ⟨ao, cap, hv, hle⟩
theorem SlsAt.get {w : World} {ao : Option Addr} {n cap : Nat} {l : List Sl} (h : SlsAt w (.slice ao n cap) l) (i : Nat) (hi : i < l.length) :
    ∃ b o ua uc, ao = some ⟨b, o, none⟩ ∧ w.cell? ⟨b, o + i * 2, none⟩ = some (.int .i64 l[i].id) ∧ w.cell? ⟨b, o + i * 2 + 1, none⟩ = some (.slice ua l[i].us.length uc) ∧ l[i].us.length ≤ uc ∧ IntsAt w (.slice ua l[i].us.length uc) l[i].us := by
  obtain ⟨ao', cap', hv, _, hc⟩ := h
  simp only [Value.slice.injEq] at hv
  obtain ⟨rfl, rfl, rfl⟩ := hv
  obtain ⟨b, o, u, h0, h1, h2, h3⟩ := hc i hi
  obtain ⟨ua, uc, rfl, hl⟩ := h3.len
  exact ⟨b, o, ua, uc, h0, h1, h2, hl, h3⟩
/-- two values that are the fields of a pool -/
structure PoAt (w : World) (a b : Value) (P : Po) : Prop where
  t : TesAt w a P.ts
  s : SlsAt w b P.ss
theorem PoAt.ext {w w' : World} {a b : Value} {P : Po} (h : PoAt w a b P) (x : Ext w w') : PoAt w' a b P := ⟨h.t.ext x, h.s.ext x⟩

/-! ### rows of the call's own: integers -/
def cellsI (l : List Int) : List Value := l.map (Value.int .i64)
theorem cellsI_len (l : List Int) : (cellsI l).length = l.length := by simp [cellsI]
theorem cellsI_append (l r : List Int) : cellsI (l ++ r) = cellsI l ++ cellsI r := by simp [cellsI]
theorem cellsI_get (l : List Int) (i : Nat) (h : i < l.length) : (cellsI l)[i]? = some (.int .i64 l[i]) := by simp [cellsI, h]
theorem cellsI_one (l : List Int) : ∀ u ∈ cellsI l, u.oneCell' = true := by
  intro u hu
  obtain ⟨x, _, rfl⟩ := List.mem_map.1 hu
  rfl
theorem infoInt : (Try.prog.info? 3).map (fun i => (i.zero, i.size, i.bytes)) = some (some (.int .i64 0), 1, 8) := by kernel_rfl
theorem undInt : (Try.prog).underlying 46 = some (.slice 3) := by kernel_rfl
def RowI (n₀ : Nat) (v : Value) (l : List Int) (W : World) : Prop := W.ownsRow n₀ 3 1 v l.length (cellsI l)
theorem RowI.form {n₀ : Nat} {v : Value} {l : List Int} {W : World} (h : RowI n₀ v l W) : ∃ A c, v = .slice A l.length c := by
  rcases h.2 with ⟨rfl, h0⟩ | ⟨g, cap, cur, rfl, _⟩
  · exact ⟨none, 0, by rw [h0]⟩
  · exact ⟨_, _, rfl⟩
theorem RowI.block {n₀ : Nat} {v : Value} {l : List Int} {W : World} (h : RowI n₀ v l W) (h0 : 0 < l.length) : ∃ g c, v = .slice (some ⟨g, 0, none⟩) l.length c ∧ n₀ ≤ g ∧ g < W.heap.size ∧ l.length ≤ c := by
  rcases h.2 with ⟨rfl, h1⟩ | ⟨g, cap, cur, rfl, h1, h2, h3, _⟩
  · omega
  · exact ⟨g, cap, rfl, h1, (Array.getElem?_eq_some_iff.1 h2).1, h3⟩
theorem RowI.at_ {n₀ : Nat} {v : Value} {l : List Int} {W : World} (h : RowI n₀ v l W) : IntsAt W v l := by
  rcases h.2 with ⟨rfl, h0⟩ | ⟨g, cap, cur, rfl, h1, h2, h3, h4, h5, h6⟩
  · exact ⟨none, 0, by rw [h0], by omega, fun i hi => by omega⟩
  · refine ⟨_, _, rfl, by omega, fun i hi => ⟨g, 0, rfl, ?_⟩⟩
    have hc := World.ownsRow.cellAt (g := g) (cap := cap) h
    rw [Nat.zero_add]
    exact (hc i (by omega)).trans (cellsI_get l i hi)
theorem rowI_nil (n₀ : Nat) (W : World) : RowI n₀ (.slice none 0 0) [] W := World.ownsRow_nil _ _ _ _
theorem rowI_ext {n₀ : Nat} {v : Value} {l : List Int} {W W' : World} (h : RowI n₀ v l W) (x : Ext W W') : RowI n₀ v l W' :=
  World.ownsRow.kept h (grown_none x) (by cases v.ownBlock <;> simp)
theorem rowI_kept {n₀ : Nat} {v : Value} {l : List Int} {W W' : World} {row : Option Nat} (h : RowI n₀ v l W) (x : W.grownBy W' row) (hne : v.ownBlock = none ∨ v.ownBlock ≠ row) : RowI n₀ v l W' :=
  World.ownsRow.kept h x hne
theorem rowI_base {n₀ n₁ : Nat} {v : Value} {l : List Int} {W : World} (h : RowI n₀ v l W) (hb : n₁ ≤ n₀) : RowI n₁ v l W := by
  refine ⟨h.1, ?_⟩
  rcases h.2 with h0 | ⟨g, cap, cur, h0, h1, h2⟩
  · exact .inl h0
  · exact .inr ⟨g, cap, cur, h0, by omega, h2⟩
theorem RowI.lt {n₀ : Nat} {v : Value} {l : List Int} {W : World} (h : RowI n₀ v l W) : ∀ g, v.ownBlock = some g → n₀ ≤ g ∧ g < W.heap.size := World.ownsRow.lt h
theorem rowI_set {n₀ g c j : Nat} {l : List Int} {W : World} (h : RowI n₀ (.slice (some ⟨g, 0, none⟩) l.length c) l W) (x : Int) :
    RowI n₀ (.slice (some ⟨g, 0, none⟩) l.length c) (l.set j x) (W.setCell ⟨g, j, none⟩ (.int .i64 x)) := by
  have h1 := (World.ownsRow.stored h j (.int .i64 x)).1
  unfold RowI
  rw [List.length_set]
  have e : cellsI (l.set j x) = (cellsI l).set j (.int .i64 x) := by simp [cellsI, List.map_set]
  rw [e]
  exact h1
theorem ints_one (W : World) (x : Int) (t : TypeId) : IntsAt (W.alloc (.cells #[.int .i64 x] t)) (.slice (some ⟨W.heap.size, 0, none⟩) 1 1) [x] :=
  ⟨_, 1, rfl, by simp, fun i hi => ⟨W.heap.size, 0, rfl, by
    have : i = 0 := by simpa using hi
    subst this
    exact (Cls.new W t #[.int .i64 x]).cell 0⟩⟩
theorem ints_oneAt (W : World) (x : Int) (t : TypeId) {N : Nat} (h : N = W.heap.size) : IntsAt (W.alloc (.cells #[.int .i64 x] t)) (.slice (some ⟨N, 0, none⟩) 1 1) [x] := h ▸ ints_one W x t
theorem ints_oneC {W : World} {B : Nat} {x : Int} {t : TypeId} (h : Cls B t #[.int .i64 x] W) : IntsAt W (.slice (some ⟨B, 0, none⟩) 1 1) [x] :=
  ⟨_, 1, rfl, by simp, fun i hi => ⟨B, 0, rfl, by
    have : i = 0 := by simpa using hi
    subst this
    exact h.cell 0⟩⟩
theorem IntsAt.cells {w : World} {ao : Option Addr} {l : List Int} {c : Nat} (h : IntsAt w (.slice ao l.length c) l) (h0 : l.length ≠ 0) : ∃ ad, ao = some ad ∧ ∀ j u, (cellsI l)[j]? = some u → w.cell? (ad.add j) = some u := by
  obtain ⟨b, o, rfl, _⟩ := h.get 0 (by omega)
  refine ⟨_, rfl, fun j u hj => ?_⟩
  have hjl : j < l.length := by
    have := (List.getElem?_eq_some_iff.1 hj).1
    rwa [cellsI_len] at this
  obtain ⟨b2, o2, e, k1⟩ := h.get j hjl
  simp only [Option.some.injEq, Addr.mk.injEq, and_true] at e
  obtain ⟨rfl, rfl⟩ := e
  have ha : Addr.add ⟨b, o, none⟩ j = ⟨b, o + j, none⟩ := by simp only [Addr.add]; split <;> simp_all
  rw [ha, k1, ← Option.some.inj (hj.symm.trans (cellsI_get l j hjl))]
theorem run_append_ints (w : World) (ty : TypeId) (base : Nat) (v u : Value) (l r : List Int) (hrow : RowI base v l w) (hu : IntsAt w u r) (hb : base ≤ w.heap.size) (hl : l.length + r.length ≤ 2000000) :
    ∃ v' w', (Builtin.append_ #[46, 46] ty #[v, u]).run Try.prog w = .ok v' w' ∧ RowI base v' (l ++ r) w' ∧ w.grownBy w' v.ownBlock ∧ (v'.ownBlock = v.ownBlock ∨ v'.ownBlock = some w.heap.size) := by
  obtain ⟨i0, hi0, hz0, hz1, hz2⟩ := info_parts infoInt
  obtain ⟨ao, c, rfl, hc⟩ := hu.len
  by_cases hm : r.length = 0
  · have hn : r = [] := List.eq_nil_of_length_eq_zero hm
    subst hn
    have hsrc : Go.Src Try.prog i0.size 46 (.slice ao 0 c) 0 [] w := by
      cases ao with
      | none => exact Go.Src.ofNil w undInt c
      | some ad => exact Go.Src.ofSlice w undInt ad 0 c [] (by simp) (by simp) (by simp)
    rw [List.append_nil]
    have hown' := hrow
    obtain ⟨hxl, hf⟩ := hown'
    rcases hf with ⟨rfl, h0⟩ | ⟨g, cap, cur, rfl, hb, hcur, h4, h5, h6⟩
    · exact ⟨_, w, run_append_nothing w 46 46 ty 3 i0 undInt hi0 none 0 0 (Nat.le_refl _) _ hsrc, by have h := hrow; exact h, World.grownBy.refl _ _, .inl rfl⟩
    · exact ⟨_, w, run_append_nothing w 46 46 ty 3 i0 undInt hi0 _ _ cap h4 _ hsrc, hrow, World.grownBy.refl _ _, .inl rfl⟩
  · obtain ⟨ad, rfl, hcc⟩ := hu.cells hm
    obtain ⟨v', w', h1, h2, h3, _, h4⟩ := run_append_own_at (P := Try.prog) w base 46 ty 3 i0 (.int .i64 0) 1 8 undInt hi0 hz0 hz1 hz2 rfl (by decide) v l.length (cellsI l) hrow ad r.length c (cellsI r) (by rw [cellsI_len]; omega) hcc (cellsI_one r) (by unfold maxLen; omega) (by omega) hb
    refine ⟨v', w', h1, ?_, h3, h4⟩
    unfold RowI
    rw [List.length_append, cellsI_append]
    exact h2
theorem append_ints {ops : Array Oper} {rest : List Oper} {o : Oper} {a : Act} {Q : Exit → Act → World → Prop} {w : World} (hgd : o.guard = none) (s x : Operand)
    (ho : o.op = .call { callee := .builtin .append, args := #[s, x], argTypes := #[46, 46] })
    (base : Nat) (v u : Value) (l r : List Int) (hs : a.eval s = v) (hrow : RowI base v l w) (hx : a.eval x = u) (hu : IntsAt w u r) (hb : base ≤ w.heap.size) (hl : l.length + r.length ≤ 2000000)
    (h : ∀ v' w', RowI base v' (l ++ r) w' → w.grownBy w' v.ownBlock → (v'.ownBlock = v.ownBlock ∨ v'.ownBlock = some w.heap.size) → wpList Try.prog ops Q rest (a.put o.dst v') w') : wpList Try.prog ops Q (o :: rest) a w := by
  obtain ⟨v', w', h1, h2, h3, h4⟩ := run_append_ints w o.type base v u l r hrow hu hb hl
  exact Go.Lib.wpList_append_run_sl w hgd s x 46 ho _ _ hs hx h1 (h _ _ h2 h3 h4)
theorem appendIn_ints {F : Fence} {nF : Nat} {ops : Array Oper} {rest : List Oper} {o : Oper} {a : Act} {Q : Exit → Act → World → Prop} {w : World} (hgd : o.guard = none) (s x : Operand)
    (ho : o.op = .call { callee := .builtin .append, args := #[s, x], argTypes := #[46, 46] })
    (base : Nat) (v u : Value) (l r : List Int) (hs : a.eval s = v) (hrow : RowI base v l w) (hx : a.eval x = u) (hu : IntsAt w u r) (hb : base ≤ w.heap.size) (hl : l.length + r.length ≤ 2000000)
    (h : ∀ v' w', RowI base v' (l ++ r) w' → w.grownBy w' v.ownBlock → (v'.ownBlock = v.ownBlock ∨ v'.ownBlock = some w.heap.size) → wpListIn F nF Try.prog ops Q rest (a.put o.dst v') w') : wpListIn F nF Try.prog ops Q (o :: rest) a w := by
  obtain ⟨v', w', h1, h2, h3, h4⟩ := run_append_ints w o.type base v u l r hrow hu hb hl
  refine wpListIn_plain hgd fun K hK' => ?_
  unfold Oper.wpIn
  refine ⟨?_, ?_⟩
  · simp [Oper.about, ho, resolve, Target.leads, Sem.run_pure]
  · rw [Oper.semAt_plain F _ _ (by rw [ho]; intro c hc'; cases hc')]
    simp [execOp, ho, resolve, invoke, builtin, hs, hx, h1, Result.andThen]
    exact hK' _ _ (h v' w' h2 h3 h4)
def srtI (l : List Int) : List Int := l.mergeSort (fun x y => decide (x ≤ y))
theorem srtI_len (l : List Int) : (srtI l).length = l.length := List.length_mergeSort l
theorem sort_any (base : Nat) (v : Value) (l : List Int) (w : World) (hrow : RowI base v l w) (hn : l.length ≤ 2000000) :
    Calls Try.prog 118 #[v] w fun e w' => e = .returned (.tuple #[]) ∧ RowI base v (srtI l) w' ∧ w.grownBy w' v.ownBlock := by
  by_cases h0 : l.length = 0
  · have hnil := List.eq_nil_of_length_eq_zero h0
    subst hnil
    obtain ⟨A, c, rfl⟩ := hrow.form
    refine (Try.slices_Sort_int_none A c w).mono ?_
    rintro e w' ⟨rfl, rfl⟩
    exact ⟨rfl, by simpa [srtI] using hrow, World.grownBy.refl _ _⟩
  · obtain ⟨hxl, hf⟩ := hrow
    rcases hf with ⟨_, h⟩ | ⟨g, cap, cur, rfl, h1, h2, h3, h4, h5, h6⟩
    · exact absurd h h0
    · have hg : g < w.heap.size := (Array.getElem?_eq_some_iff.1 h2).1
      have hH := holds_of_blockI (ss := l) h2 (by rw [Nat.mul_one] at h6; exact h6)
      have hcon := Try.slices_Sort_int g 0 cap l w hH hg (by omega)
      refine Calls.mono hcon ?_
      rintro e w' ⟨rfl, n, os, rfl⟩
      refine ⟨rfl, ?_, grownBy_sortedI _⟩
      have := ownsRow_sortedI (os := os) (n := n) (ts := srtI l) (ss := l) (srtI_len l) h1 h2 h3 h4 h5
      unfold RowI cellsI
      rw [srtI_len]
      exact this
/-! ### shifts -/
def RowS (n₀ : Nat) (v : Value) (l : List (Int × Int)) (W : World) : Prop := RowK 58 fS 2 n₀ v l W
theorem RowS.at_ {n₀ : Nat} {v : Value} {l : List (Int × Int)} {W : World} (h : RowS n₀ v l W) : SfsAt W v l := RowK.at_ fS_len h
theorem RowS.ext {n₀ : Nat} {v : Value} {l : List (Int × Int)} {W W' : World} (h : RowS n₀ v l W) (x : Ext W W') : RowS n₀ v l W' := RowK.ext h x
theorem infoSf : (Try.prog.info? 58).map (fun i => (i.zero, i.size, i.bytes)) = some (some (.agg #[.int .i64 0, .int .i64 0]), 2, 16) := by kernel_rfl
theorem undSf : (Try.prog).underlying 35 = some (.slice 58) := by kernel_rfl
theorem run_append_sfs (w : World) (ty : TypeId) (base : Nat) (v u : Value) (l r : List (Int × Int)) (hrow : RowS base v l w) (hu : SfsAt w u r) (hb : base ≤ w.heap.size) (hl : l.length + r.length ≤ 2000000) :
    ∃ v' w', (Builtin.append_ #[35, 35] ty #[v, u]).run Try.prog w = .ok v' w' ∧ RowS base v' (l ++ r) w' ∧ w.grownBy w' v.ownBlock ∧ (v'.ownBlock = v.ownBlock ∨ v'.ownBlock = some w.heap.size) := by
  obtain ⟨i0, hi0, hz0, hz1, hz2⟩ := info_parts infoSf
  exact run_append_rows w _ ty _ i0 _ 2 16 fS_len (by decide) undSf hi0 hz0 hz1 hz2 rfl (by decide) base v u l r hrow hu hb hl
theorem append_sfs {ops : Array Oper} {rest : List Oper} {o : Oper} {a : Act} {Q : Exit → Act → World → Prop} {w : World} (hgd : o.guard = none) (s x : Operand)
    (ho : o.op = .call { callee := .builtin .append, args := #[s, x], argTypes := #[35, 35] })
    (base : Nat) (v u : Value) (l r : List (Int × Int)) (hs : a.eval s = v) (hrow : RowS base v l w) (hx : a.eval x = u) (hu : SfsAt w u r) (hb : base ≤ w.heap.size) (hl : l.length + r.length ≤ 2000000)
    (h : ∀ v' w', RowS base v' (l ++ r) w' → w.grownBy w' v.ownBlock → (v'.ownBlock = v.ownBlock ∨ v'.ownBlock = some w.heap.size) → wpList Try.prog ops Q rest (a.put o.dst v') w') : wpList Try.prog ops Q (o :: rest) a w := by
  obtain ⟨v', w', h1, h2, h3, h4⟩ := run_append_sfs w o.type base v u l r hrow hu hb hl
  exact Go.Lib.wpList_append_run_sl w hgd s x 35 ho _ _ hs hx h1 (h _ _ h2 h3 h4)
theorem rowS_lit0 {n₀ : Nat} (W : World) (h : n₀ ≤ W.heap.size) : RowS n₀ (.slice (some ⟨W.heap.size, 0, none⟩) 0 0) [] (W.alloc (.cells #[] 58)) := RowK.lit0 W _ _ _ h
theorem sfs_one {B : Nat} {W : World} {x y : Int} {t : TypeId} (h : Cls B t #[.int .i64 x, .int .i64 y] W) : SfsAt W (.slice (some ⟨B, 0, none⟩) 1 1) [(x, y)] :=
  ⟨_, 1, rfl, by simp, fun i hi => ⟨B, 0, rfl, fun r hr => by
    have : i = 0 := by simpa using hi
    subst this
    match r, hr with
    | 0, _ => exact h.cell 0
    | 1, _ => exact h.cell 1⟩⟩
theorem cls_ne {B B' : Nat} {t t' : TypeId} {cs cs' : Array Value} {W : World} (h : Cls B t cs W) (h' : Cls B' t' cs' W) (hne : t ≠ t') : B ≠ B' := fun e => by
  subst e
  have := Option.some.inj (h.symm.trans h')
  simp only [Obj.cells.injEq] at this
  exact hne this.2.1
theorem eqlSf (ao : Option Addr) (n c : Nat) (w : World) : (binOp .eql 35 (.slice ao n c) (.slice none 0 0)).run Try.prog w = .ok (.bool ao.isNone) w := Lib.run_eql_slice_nil w _ _ ao n c 0 0 undSf
set_option maxRecDepth 100000 in
set_option maxHeartbeats 2000000 in
theorem cloneS_any (v : Value) (l : List (Int × Int)) (w : World) (hl : SfsAt w v l) (hn : l.length ≤ 1000000) :
    Calls Try.prog 120 #[v] w fun e w' => ∃ u, e = .returned u ∧ RowS w.heap.size u l w' ∧ Ext w w' := by
  obtain ⟨ao, c, rfl, hc⟩ := hl.len
  have he := eqlSf
  cases ao with
  | none =>
    have h0 : l = [] := by
      cases l with
      | nil => rfl
      | cons x l => obtain ⟨b, o, h, _⟩ := hl.get 0 (by simp); cases h
    subst h0
    go_enter Try.func120, Try.ntmps120
    go_wp2_with fail
    go_ret
    exact ⟨_, rfl, RowK.nil _ _ _ _ _, Ext.refl _⟩
  | some ad =>
    go_enter Try.func120, Try.ntmps120
    go_wp2_with (at_builtin; refine append_sfs rfl _ _ rfl w.heap.size _ _ [] l rfl (rowS_lit0 w (Nat.le_refl _)) rfl (hl.ext (by repeat (first | exact Ext.refl _ | assumption | refine Ext.alloc ?_ _ | refine Ext.drew ?_ | refine Ext.drewN _ ?_ | refine Ext.trans ?_ (by assumption)))) (by simp) (by simp; omega) ?_; intro v1 w3 hr3 hg3 _)
    rw [List.nil_append] at hr3
    have hx3 : Ext w w3 := ext_own (by repeat (first | exact Ext.refl _ | assumption | refine Ext.alloc ?_ _ | refine Ext.drew ?_ | refine Ext.drewN _ ?_ | refine Ext.trans ?_ (by assumption))) (rowS_lit0 w (Nat.le_refl _)) (Nat.le_refl _) hg3
    go_ret
    exact ⟨_, rfl, hr3, hx3⟩
theorem eqlIn (ao : Option Addr) (n c : Nat) (w : World) : (binOp .eql 46 (.slice ao n c) (.slice none 0 0)).run Try.prog w = .ok (.bool ao.isNone) w := Lib.run_eql_slice_nil w _ _ ao n c 0 0 undInt
theorem rowI_lit0 {n₀ : Nat} (W : World) (h : n₀ ≤ W.heap.size) : RowI n₀ (.slice (some ⟨W.heap.size, 0, none⟩) 0 0) [] (W.alloc (.cells #[] 3)) :=
  World.ownsRow_lit (base := n₀) (e := 3) (size := 1) W #[] 0 h (by decide) (by simp)
set_option maxRecDepth 100000 in
set_option maxHeartbeats 2000000 in
theorem cloneI_any (v : Value) (l : List Int) (w : World) (hl : IntsAt w v l) (hn : l.length ≤ 1000000) :
    Calls Try.prog 110 #[v] w fun e w' => ∃ u, e = .returned u ∧ RowI w.heap.size u l w' ∧ Ext w w' := by
  obtain ⟨ao, c, rfl, hc⟩ := hl.len
  have he := eqlIn
  cases ao with
  | none =>
    have h0 : l = [] := by
      cases l with
      | nil => rfl
      | cons x l => obtain ⟨b, o, h, _⟩ := hl.get 0 (by simp); cases h
    subst h0
    go_enter Try.func110, Try.ntmps110
    go_wp2_with fail
    go_ret
    exact ⟨_, rfl, rowI_nil _ _, Ext.refl _⟩
  | some ad =>
    go_enter Try.func110, Try.ntmps110
    go_wp2_with (at_builtin; refine append_ints rfl _ _ rfl w.heap.size _ _ [] l rfl (rowI_lit0 w (Nat.le_refl _)) rfl (hl.ext (by repeat (first | exact Ext.refl _ | assumption | refine Ext.alloc ?_ _ | refine Ext.drew ?_ | refine Ext.drewN _ ?_ | refine Ext.trans ?_ (by assumption)))) (by simp) (by simp; omega) ?_; intro v1 w3 hr3 hg3 _)
    rw [List.nil_append] at hr3
    have hx3 : Ext w w3 := ext_own (by repeat (first | exact Ext.refl _ | assumption | refine Ext.alloc ?_ _ | refine Ext.drew ?_ | refine Ext.drewN _ ?_ | refine Ext.trans ?_ (by assumption))) (rowI_lit0 w (Nat.le_refl _)) (Nat.le_refl _) hg3
    go_ret
    exact ⟨_, rfl, hr3, hx3⟩
end Go.Proofs.Ytiofdfjcaklmcaa
namespace Go.Proofs.Ytiofdfjcaklmcaa
open Go.RowKit Go.Shelf

set_option maxHeartbeats 1000000 in
theorem within_any (n lo hi : Int) (w : World) :
    Calls Try.prog 87 #[.int .i64 n, .int .i64 lo, .int .i64 hi] w fun e w' => e = .returned (.bool (inB n lo hi)) ∧ w = w' := by
  go_enter Try.func87, Try.ntmps87
  by_cases h1 : lo ≤ n
  · by_cases h2 : n ≤ hi
    · go_wp2
      go_ret
      exact ⟨ret_bool (by simp [inB, h1, h2]), rfl⟩
    · go_wp2
      go_ret
      exact ⟨ret_bool (by simp [inB, h1, h2]), rfl⟩
  · go_wp2
    go_ret
    exact ⟨ret_bool (by simp [inB]; omega), rfl⟩

set_option maxHeartbeats 1000000 in
theorem tn1_any (B : Nat) (a : Int) (b : Value) (id : Int) (w : World) (hB : Cls B 3 #[.int .i64 id] w) :
    Calls Try.prog 116 #[.agg #[.int .i64 a, b], .pointer (some ⟨B, 0, none⟩)] w fun e w' => e = .returned (.bool (a == id)) ∧ Ext w w' := by
  have c0 : w.cell? ⟨B, 0, none⟩ = some (.int .i64 id) := hB.cell 0
  go_enter Try.func116, Try.ntmps116
  have c1 : (w.alloc (.cells #[.int .i64 a, b] 45)).cell? ⟨B, 0, none⟩ = some (.int .i64 id) := Ext.cell (by repeat (first | exact Ext.refl _ | assumption | refine Ext.alloc ?_ _ | refine Ext.drew ?_ | refine Ext.drewN _ ?_ | refine Ext.trans ?_ (by assumption))) c0
  go_wp2
  go_ret
  exact ⟨ret_bool (by simp), (by repeat (first | exact Ext.refl _ | assumption | refine Ext.alloc ?_ _ | refine Ext.drew ?_ | refine Ext.drewN _ ?_ | refine Ext.trans ?_ (by assumption)))⟩
set_option maxRecDepth 100000 in
set_option maxHeartbeats 2000000 in
theorem tn_any (a b : Value) (P : Po) (id : Int) (w : World) (hl : TesAt w a P.ts) (hn : P.ts.length ≤ 100000) :
    Calls Try.prog 72 #[.agg #[a, b], .int .i64 id] w fun e w' => e = .returned (.int .i64 (tnI P id)) ∧ Ext w w' := by
  obtain ⟨l, hll⟩ : ∃ l, P.ts = l := ⟨_, rfl⟩
  have hI : tnI P id = ixF (fun x => x.id == id) 0 l := by rw [← hll]; rfl
  rw [hI]
  rw [hll] at hl hn
  clear hI hll
  obtain ⟨A, c, rfl, hlc⟩ := hl.len
  have key : ∀ W, Cls (w.heap.size + 1) 3 #[.int .i64 id] W → TesAt W (.slice A l.length c) l →
      Calls Try.prog 135 #[.slice A l.length c, .func (.func 116) #[] #[.pointer (some ⟨w.heap.size + 1, 0, none⟩)]] W fun e w' => e = .returned (.int .i64 (ixF (fun x => x.id == id) 0 l)) ∧ Ext W w' := by
    intro W hB hl
    obtain ⟨F, hF⟩ : ∃ F, ixF (fun x => x.id == id) 0 l = F := ⟨_, rfl⟩
    have HF := Lib.hid hF
    rw [hF]
    clear hF
    go_enter Try.func135, Try.ntmps135
    go_wp2_with fail
    go_loopw [8] (fun i wr => ∃ k : Nat, k ≤ l.length ∧ i = .int .i64 k ∧ Hid (ixF (fun x => x.id == id) k (l.drop k) = F) ∧ Ext W wr) (fun i _ => l.length - (intOf i).toNat)
    case atStart => exact ⟨0, Nat.zero_le _, rfl, HF, Ext.refl _⟩
    case round =>
      obtain ⟨k, hk, rfl, HK, hx⟩ := hrel
      by_cases hlt : k < l.length
      · obtain ⟨b, o, rfl, c0, c1⟩ := (hl.ext hx).get k hlt
        have hhit := fun h => ixF_hit (p := fun x => x.id == id) hlt h
        have hmiss := fun h => ixF_miss (p := fun x => x.id == id) hlt h
        rw [HK.out] at hhit hmiss
        obtain ⟨x, hxx⟩ : ∃ x, l[k].id = x := ⟨_, rfl⟩
        rw [hxx] at c0 hhit hmiss
        have C := tn1_any (w.heap.size + 1) x (.int .i64 l[k].most) id wr (hB.ext hx)
        cases hq : (x == id)
        · rw [hq] at C
          have H1 := Lib.hid (hmiss hq)
          clear hxx hhit hmiss
          go_wp2_with fail
          refine C.mono ?_
          rintro e w2 ⟨rfl, hy⟩
          go_wp2
          go_roundw
          case rel => exact ⟨k + 1, by omega, by go_num, Lib.hid H1.out.symm, hx.trans hy⟩
          case measure => simp [intOf]; omega
        · rw [hq] at C
          have H1 := Lib.hid (hhit hq)
          clear hxx hhit hmiss
          go_wp2_with fail
          refine C.mono ?_
          rintro e w2 ⟨rfl, hy⟩
          go_wp2
          go_ret
          exact ⟨ret_int H1.out.symm, hx.trans hy⟩
      · obtain rfl : k = l.length := by omega
        have he := ixF_end (p := fun x : Te => x.id == id) (l := l)
        rw [HK.out] at he
        have HE := Lib.hid he
        clear he
        go_wp2
        go_ret
        exact ⟨ret_int HE.out.symm, hx⟩
  have key2 : ∀ W, Cls (w.heap.size + 1) 3 #[.int .i64 id] W → TesAt W (.slice A l.length c) l →
      Calls Try.prog 115 #[.slice A l.length c, .func (.func 116) #[] #[.pointer (some ⟨w.heap.size + 1, 0, none⟩)]] W fun e w' => e = .returned (.int .i64 (ixF (fun x => x.id == id) 0 l)) ∧ Ext W w' := by
    intro W hB hl
    go_enter Try.func115, Try.ntmps115
    go_wp2_with fail
    refine (key _ hB hl).mono ?_
    rintro e w2 ⟨rfl, hy⟩
    go_wp2
    go_ret
    exact ⟨rfl, hy⟩
  go_enter Try.func72, Try.ntmps72
  go_wp2_with fail
  refine (key2 _ (Cls.newAt _ _ _ (by simp)) (hl.ext (by repeat (first | exact Ext.refl _ | assumption | refine Ext.alloc ?_ _ | refine Ext.drew ?_ | refine Ext.drewN _ ?_ | refine Ext.trans ?_ (by assumption))))).mono ?_
  rintro e w2 ⟨rfl, hy⟩
  go_wp2
  go_ret
  exact ⟨rfl, Ext.trans (by repeat (first | exact Ext.refl _ | assumption | refine Ext.alloc ?_ _ | refine Ext.drew ?_ | refine Ext.drewN _ ?_ | refine Ext.trans ?_ (by assumption))) hy⟩

set_option maxHeartbeats 1000000 in
theorem sl1_any (B : Nat) (a : Int) (b : Value) (id : Int) (w : World) (hB : Cls B 3 #[.int .i64 id] w) :
    Calls Try.prog 124 #[.agg #[.int .i64 a, b], .pointer (some ⟨B, 0, none⟩)] w fun e w' => e = .returned (.bool (a == id)) ∧ Ext w w' := by
  have c0 : w.cell? ⟨B, 0, none⟩ = some (.int .i64 id) := hB.cell 0
  go_enter Try.func124, Try.ntmps124
  have c1 : (w.alloc (.cells #[.int .i64 a, b] 48)).cell? ⟨B, 0, none⟩ = some (.int .i64 id) := Ext.cell (by repeat (first | exact Ext.refl _ | assumption | refine Ext.alloc ?_ _ | refine Ext.drew ?_ | refine Ext.drewN _ ?_ | refine Ext.trans ?_ (by assumption))) c0
  go_wp2
  go_ret
  exact ⟨ret_bool (by simp), (by repeat (first | exact Ext.refl _ | assumption | refine Ext.alloc ?_ _ | refine Ext.drew ?_ | refine Ext.drewN _ ?_ | refine Ext.trans ?_ (by assumption)))⟩
set_option maxRecDepth 100000 in
set_option maxHeartbeats 2000000 in
theorem sl_any (a b : Value) (P : Po) (id : Int) (w : World) (hl : SlsAt w b P.ss) (hn : P.ss.length ≤ 100000) :
    Calls Try.prog 84 #[.agg #[a, b], .int .i64 id] w fun e w' => e = .returned (.int .i64 (slI P id)) ∧ Ext w w' := by
  obtain ⟨l, hll⟩ : ∃ l, P.ss = l := ⟨_, rfl⟩
  have hI : slI P id = ixF (fun x => x.id == id) 0 l := by rw [← hll]; rfl
  rw [hI]
  rw [hll] at hl hn
  clear hI hll
  obtain ⟨A, c, rfl, hlc⟩ := hl.len
  have key : ∀ W, Cls (w.heap.size + 1) 3 #[.int .i64 id] W → SlsAt W (.slice A l.length c) l →
      Calls Try.prog 140 #[.slice A l.length c, .func (.func 124) #[] #[.pointer (some ⟨w.heap.size + 1, 0, none⟩)]] W fun e w' => e = .returned (.int .i64 (ixF (fun x => x.id == id) 0 l)) ∧ Ext W w' := by
    intro W hB hl
    obtain ⟨F, hF⟩ : ∃ F, ixF (fun x => x.id == id) 0 l = F := ⟨_, rfl⟩
    have HF := Lib.hid hF
    rw [hF]
    clear hF
    go_enter Try.func140, Try.ntmps140
    go_wp2_with fail
    go_loopw [8] (fun i wr => ∃ k : Nat, k ≤ l.length ∧ i = .int .i64 k ∧ Hid (ixF (fun x => x.id == id) k (l.drop k) = F) ∧ Ext W wr) (fun i _ => l.length - (intOf i).toNat)
    case atStart => exact ⟨0, Nat.zero_le _, rfl, HF, Ext.refl _⟩
    case round =>
      obtain ⟨k, hk, rfl, HK, hx⟩ := hrel
      by_cases hlt : k < l.length
      · obtain ⟨b, o, ua, uc, rfl, c0, c1, hul, hu⟩ := (hl.ext hx).get k hlt
        have hhit := fun h => ixF_hit (p := fun x => x.id == id) hlt h
        have hmiss := fun h => ixF_miss (p := fun x => x.id == id) hlt h
        rw [HK.out] at hhit hmiss
        obtain ⟨x, hxx⟩ : ∃ x, l[k].id = x := ⟨_, rfl⟩
        rw [hxx] at c0 hhit hmiss
        have C := sl1_any (w.heap.size + 1) x (.slice ua l[k].us.length uc) id wr (hB.ext hx)
        cases hq : (x == id)
        · rw [hq] at C
          have H1 := Lib.hid (hmiss hq)
          clear hxx hhit hmiss
          go_wp2_with fail
          refine C.mono ?_
          rintro e w2 ⟨rfl, hy⟩
          go_wp2
          go_roundw
          case rel => exact ⟨k + 1, by omega, by go_num, Lib.hid H1.out.symm, hx.trans hy⟩
          case measure => simp [intOf]; omega
        · rw [hq] at C
          have H1 := Lib.hid (hhit hq)
          clear hxx hhit hmiss
          go_wp2_with fail
          refine C.mono ?_
          rintro e w2 ⟨rfl, hy⟩
          go_wp2
          go_ret
          exact ⟨ret_int H1.out.symm, hx.trans hy⟩
      · obtain rfl : k = l.length := by omega
        have he := ixF_end (p := fun x : Sl => x.id == id) (l := l)
        rw [HK.out] at he
        have HE := Lib.hid he
        clear he
        go_wp2
        go_ret
        exact ⟨ret_int HE.out.symm, hx⟩
  have key2 : ∀ W, Cls (w.heap.size + 1) 3 #[.int .i64 id] W → SlsAt W (.slice A l.length c) l →
      Calls Try.prog 123 #[.slice A l.length c, .func (.func 124) #[] #[.pointer (some ⟨w.heap.size + 1, 0, none⟩)]] W fun e w' => e = .returned (.int .i64 (ixF (fun x => x.id == id) 0 l)) ∧ Ext W w' := by
    intro W hB hl
    go_enter Try.func123, Try.ntmps123
    go_wp2_with fail
    refine (key _ hB hl).mono ?_
    rintro e w2 ⟨rfl, hy⟩
    go_wp2
    go_ret
    exact ⟨rfl, hy⟩
  go_enter Try.func84, Try.ntmps84
  go_wp2_with fail
  refine (key2 _ (Cls.newAt _ _ _ (by simp)) (hl.ext (by repeat (first | exact Ext.refl _ | assumption | refine Ext.alloc ?_ _ | refine Ext.drew ?_ | refine Ext.drewN _ ?_ | refine Ext.trans ?_ (by assumption))))).mono ?_
  rintro e w2 ⟨rfl, hy⟩
  go_wp2
  go_ret
  exact ⟨rfl, Ext.trans (by repeat (first | exact Ext.refl _ | assumption | refine Ext.alloc ?_ _ | refine Ext.drew ?_ | refine Ext.drewN _ ?_ | refine Ext.trans ?_ (by assumption))) hy⟩

set_option maxRecDepth 100000 in
set_option maxHeartbeats 2000000 in
theorem index_any (v : Value) (l : List Int) (x : Int) (w : World) (hl : IntsAt w v l) (hn : l.length ≤ 1000000) :
    Calls Try.prog 141 #[v, .int .i64 x] w fun e w' => e = .returned (.int .i64 (ixF (fun y => x == y) 0 l)) ∧ w = w' := by
  obtain ⟨A, c, rfl, hlc⟩ := hl.len
  obtain ⟨F, hF⟩ : ∃ F, ixF (fun y => x == y) 0 l = F := ⟨_, rfl⟩
  have HF := Lib.hid hF
  rw [hF]
  clear hF
  go_enter Try.func141, Try.ntmps141
  go_wp2_with fail
  go_loopw [8] (fun i wr => ∃ k : Nat, k ≤ l.length ∧ i = .int .i64 k ∧ Hid (ixF (fun y => x == y) k (l.drop k) = F) ∧ w = wr) (fun i _ => l.length - (intOf i).toNat)
  case atStart => exact ⟨0, Nat.zero_le _, rfl, HF, rfl⟩
  case round =>
    obtain ⟨k, hk, rfl, HK, rfl⟩ := hrel
    by_cases hlt : k < l.length
    · obtain ⟨b, o, rfl, c0⟩ := hl.get k hlt
      have hhit := fun h => ixF_hit (p := fun y => x == y) hlt h
      have hmiss := fun h => ixF_miss (p := fun y => x == y) hlt h
      rw [HK.out] at hhit hmiss
      obtain ⟨y, hyy⟩ : ∃ y, l[k] = y := ⟨_, rfl⟩
      rw [hyy] at c0 hhit hmiss
      by_cases hq : x = y
      · have H1 := Lib.hid (hhit (by simpa using hq))
        clear hyy hhit hmiss
        go_wp2
        go_ret
        exact ⟨ret_int H1.out.symm, rfl⟩
      · have H1 := Lib.hid (hmiss (by simpa using hq))
        clear hyy hhit hmiss
        go_wp2
        go_roundw
        case rel => exact ⟨k + 1, by omega, by go_num, Lib.hid H1.out.symm, trivial⟩
        case measure => simp [intOf]; omega
    · obtain rfl : k = l.length := by omega
      have he := ixF_end (p := fun y => x == y) (l := l)
      rw [HK.out] at he
      have HE := Lib.hid he
      clear he
      go_wp2
      go_ret
      exact ⟨ret_int HE.out.symm, rfl⟩
theorem ixF_has (l : List Int) (x : Int) : decide (0 ≤ ixF (fun y => x == y) 0 l) = l.contains x := by
  by_cases h : 0 ≤ ixF (fun y => x == y) 0 l
  · rw [decide_eq_true h]
    obtain ⟨k, hk, _, h2⟩ := ixF_some h
    have : x = l[k] := by simpa using h2
    rw [this]
    simp
  · rw [decide_eq_false h]
    have h2 := (ixF_none (p := fun y => x == y) (l := l) (i := 0)).1 (by omega)
    symm
    rw [Bool.eq_false_iff]
    intro hc
    have hm : x ∈ l := by simpa using hc
    have := h2 x hm
    simp at this
set_option maxHeartbeats 2000000 in
theorem contains_any (v : Value) (l : List Int) (x : Int) (w : World) (hl : IntsAt w v l) (hn : l.length ≤ 1000000) :
    Calls Try.prog 125 #[v, .int .i64 x] w fun e w' => e = .returned (.bool (l.contains x)) ∧ w = w' := by
  have hF := ixF_has l x
  obtain ⟨F, hFF⟩ : ∃ F, l.contains x = F := ⟨_, rfl⟩
  rw [hFF] at hF ⊢
  obtain ⟨k, hk⟩ : ∃ k, ixF (fun y => x == y) 0 l = k := ⟨_, rfl⟩
  have KI := index_any v l x w hl hn
  rw [hk] at KI hF
  have HF := Lib.hid hF
  clear hF hFF hk
  go_enter Try.func125, Try.ntmps125
  go_wp2_with fail
  refine KI.mono ?_
  rintro e w2 ⟨rfl, rfl⟩
  by_cases h : 0 ≤ k
  · have h2 := HF.out
    rw [decide_eq_true h] at h2
    go_wp2
    go_ret
    exact ⟨by rw [← h2]; rfl, rfl⟩
  · have h2 := HF.out
    rw [decide_eq_false h] at h2
    go_wp2
    go_ret
    exact ⟨ret_bool HF.out, rfl⟩
set_option maxHeartbeats 2000000 in
theorem room_any (a b : Value) (P : Po) (k : Nat) (n : Int) (w : World) (hT : TesAt w a P.ts) (hk : k < P.ts.length) :
    Calls Try.prog 77 #[.agg #[a, b], .int .i64 k, .int .i64 n] w fun e w' => e = .returned (.bool (decide (n < P.ts[k].most))) ∧ Ext w w' := by
  obtain ⟨m, hm⟩ : ∃ m, P.ts[k].most = m := ⟨_, rfl⟩
  obtain ⟨A, c, rfl, hlc⟩ := hT.len
  obtain ⟨bb, oo, rfl, c0, c1⟩ := hT.get k hk
  rw [hm] at c1 ⊢
  clear hm hT
  go_enter Try.func77, Try.ntmps77
  have hx : Ext w (w.alloc (.cells #[.slice (some ⟨bb, oo, none⟩) P.ts.length c, b] 25)) := (by repeat (first | exact Ext.refl _ | assumption | refine Ext.alloc ?_ _ | refine Ext.drew ?_ | refine Ext.drewN _ ?_ | refine Ext.trans ?_ (by assumption)))
  replace c1 := hx.cell c1
  clear hx c0
  go_wp2
  go_ret
  exact ⟨ret_bool (by simp), (by repeat (first | exact Ext.refl _ | assumption | refine Ext.alloc ?_ _ | refine Ext.drew ?_ | refine Ext.drewN _ ?_ | refine Ext.trans ?_ (by assumption)))⟩
end Go.Proofs.Ytiofdfjcaklmcaa
namespace Go.Proofs.Ytiofdfjcaklmcaa
open Go.RowKit Go.Shelf

theorem te_step {P : Po} {k : Nat} (h : k < P.ts.length) : teE P k (P.ts.drop k) = if inB P.ts[k].id 1 1099511627776 = true ∧ inB P.ts[k].most 0 40 = true then (if tnI P P.ts[k].id < k then 6 else teE P (k + 1) (P.ts.drop (k + 1))) else 1 := by
  rw [drop_cons P.ts k h, teE]
theorem sl_step {P : Po} {k : Nat} (h : k < P.ss.length) : slE P k (P.ss.drop k) = if inB P.ss[k].id 1 1099511627776 = true then (if usB P 0 P.ss[k].us = true then 1 else if slI P P.ss[k].id < k then 6 else slE P (k + 1) (P.ss.drop (k + 1))) else 1 := by
  rw [drop_cons P.ss k h, slE]
theorem us_step {P : Po} {l : List Int} {last : Int} {k : Nat} (h : k < l.length) : usB P last (l.drop k) = (decide (l[k] ≤ last) || decide (tnI P l[k] < 0) || usB P l[k] (l.drop (k + 1))) := by
  rw [drop_cons l k h, usB]
set_option maxRecDepth 100000 in
set_option maxHeartbeats 8000000 in
theorem Check_any (a b : Value) (P : Po) (w : World) (hT : PoAt w a b P) (hus : ∀ s ∈ P.ss, s.us.length ≤ 1000000) :
    Calls Try.prog 27 #[.agg #[a, b]] w fun e w' => e = .returned (.int .i64 (chkE P)) ∧ Ext w w' := by
  obtain ⟨aa, ca, rfl, hla⟩ := hT.t.len
  obtain ⟨ab, cb, rfl, hlb⟩ := hT.s.len
  have hE : chkE P = if 12 < P.ts.length ∨ 40 < P.ss.length then 2 else if teE P 0 P.ts = 0 then slE P 0 P.ss else teE P 0 P.ts := rfl
  obtain ⟨E, hEE⟩ : ∃ E, chkE P = E := ⟨_, rfl⟩
  rw [hEE] at hE ⊢
  have HE := Lib.hid hE
  clear hE hEE
  go_enter Try.func27, Try.ntmps27
  by_cases h12 : 12 < P.ts.length
  · have h2 := HE.out
    rw [if_pos (.inl h12)] at h2
    have HE2 := Lib.hid h2
    clear h2
    go_wp2
    go_ret
    exact ⟨by rw [HE2.out]; rfl, (by repeat (first | exact Ext.refl _ | assumption | refine Ext.alloc ?_ _ | refine Ext.drew ?_ | refine Ext.drewN _ ?_ | refine Ext.trans ?_ (by assumption)))⟩
  by_cases h40 : 40 < P.ss.length
  · have h2 := HE.out
    rw [if_pos (.inr h40)] at h2
    have HE2 := Lib.hid h2
    clear h2
    go_wp2
    go_ret
    exact ⟨by rw [HE2.out]; rfl, (by repeat (first | exact Ext.refl _ | assumption | refine Ext.alloc ?_ _ | refine Ext.drew ?_ | refine Ext.drewN _ ?_ | refine Ext.trans ?_ (by assumption)))⟩
  have h2 := HE.out
  rw [if_neg (by omega)] at h2
  obtain ⟨T, hT0⟩ : ∃ T, teE P 0 P.ts = T := ⟨_, rfl⟩
  obtain ⟨S, hS0⟩ : ∃ T, slE P 0 P.ss = T := ⟨_, rfl⟩
  rw [hT0, hS0] at h2
  have H2 := Lib.hid h2
  have HT := Lib.hid hT0
  have HS := Lib.hid hS0
  clear h2 hT0 hS0 HE
  have q0 := Cls.new w 25 #[.slice aa P.ts.length ca, .slice ab P.ss.length cb]
  have hx0 : Ext w (w.alloc (.cells #[.slice aa P.ts.length ca, .slice ab P.ss.length cb] 25)) := (by repeat (first | exact Ext.refl _ | assumption | refine Ext.alloc ?_ _ | refine Ext.drew ?_ | refine Ext.drewN _ ?_ | refine Ext.trans ?_ (by assumption)))
  go_wp2_with fail
  go_loopw [23] (fun i wr => ∃ k : Nat, k ≤ P.ts.length ∧ i = .int .i64 k ∧ Hid (teE P k (P.ts.drop k) = T) ∧ Cls w.heap.size 25 #[.slice aa P.ts.length ca, .slice ab P.ss.length cb] wr ∧ Ext w wr) (fun i _ => P.ts.length - (intOf i).toNat)
  case atStart => exact ⟨0, Nat.zero_le _, rfl, HT, q0, hx0⟩
  case round =>
    clear q0 hx0 HT
    obtain ⟨k, hk, rfl, HK, q, hx⟩ := hrel
    have d0 : wr.cell? ⟨w.heap.size, 0, none⟩ = some (.slice aa P.ts.length ca) := q.cell 0
    have d1 : wr.cell? ⟨w.heap.size, 1, none⟩ = some (.slice ab P.ss.length cb) := q.cell 1
    by_cases hlt : k < P.ts.length
    · obtain ⟨bb, oo, rfl, c0, c1⟩ := (hT.t.ext hx).get k hlt
      have hs := te_step hlt
      rw [HK.out] at hs
      obtain ⟨x, hxx⟩ : ∃ x, P.ts[k].id = x := ⟨_, rfl⟩
      obtain ⟨y, hyy⟩ : ∃ y, P.ts[k].most = y := ⟨_, rfl⟩
      obtain ⟨V, hV⟩ : ∃ V, teE P (k + 1) (P.ts.drop (k + 1)) = V := ⟨_, rfl⟩
      rw [hxx] at c0
      rw [hyy] at c1
      rw [hxx, hyy, hV] at hs
      have HV := Lib.hid hV
      have HX := Lib.hid hs
      obtain ⟨Y, hY⟩ : ∃ Y, wr.alloc (.cells #[.int .i64 x, .int .i64 y] 45) = Y := ⟨_, rfl⟩
      obtain ⟨PB, hPB⟩ : ∃ PB, wr.heap.size = PB := ⟨_, rfl⟩
      have hxY : Ext wr Y := by rw [← hY]; exact (by repeat (first | exact Ext.refl _ | assumption | refine Ext.alloc ?_ _ | refine Ext.drew ?_ | refine Ext.drewN _ ?_ | refine Ext.trans ?_ (by assumption)))
      have hbY : Cls PB 45 #[.int .i64 x, .int .i64 y] Y := by rw [← hY]; exact Cls.newAt _ _ _ hPB.symm
      have qY := q.ext hxY
      have hx' := hx.trans hxY
      have e0 : Y.cell? ⟨PB, 0, none⟩ = some (.int .i64 x) := hbY.cell 0
      have e1 : Y.cell? ⟨PB, 1, none⟩ = some (.int .i64 y) := hbY.cell 1
      replace d0 := hxY.cell d0
      replace d1 := hxY.cell d1
      have hTY := hT.t.ext hx'
      clear hs hV hxx hyy HK hbY hxY
      cases i1 : inB x 1 1099511627776
      · have hs := HX.out
        rw [i1, if_neg (by simp)] at hs
        have HT := Lib.hid hs
        clear hs
        go_wp2_with fail
        refine (within_any x 1 1099511627776 _).mono ?_
        rw [i1]
        rintro e w2 ⟨rfl, rfl⟩
        clear i1 HX
        go_wp2
        go_ret
        have hh := H2.out
        rw [if_neg (by rw [HT.out]; decide)] at hh
        exact ⟨by rw [hh, HT.out]; rfl, hx'⟩
      cases i2 : inB y 0 40
      · have hs := HX.out
        rw [i2, if_neg (by simp)] at hs
        have HT := Lib.hid hs
        clear hs
        go_wp2_with fail
        refine (within_any x 1 1099511627776 _).mono ?_
        rw [i1]
        rintro e w2 ⟨rfl, rfl⟩
        go_wp2_with fail
        refine (within_any y 0 40 _).mono ?_
        rw [i2]
        rintro e w2 ⟨rfl, rfl⟩
        clear i1 i2 HX
        go_wp2
        go_ret
        have hh := H2.out
        rw [if_neg (by rw [HT.out]; decide)] at hh
        exact ⟨by rw [hh, HT.out]; rfl, hx'⟩
      have hs := HX.out
      rw [i1, i2, if_pos (by simp)] at hs
      have HT := Lib.hid hs
      clear hs HX
      go_wp2_with fail
      refine (within_any x 1 1099511627776 _).mono ?_
      rw [i1]
      rintro e w2 ⟨rfl, rfl⟩
      go_wp2_with fail
      refine (within_any y 0 40 _).mono ?_
      rw [i2]
      rintro e w2 ⟨rfl, rfl⟩
      clear i1 i2
      go_wp2_with fail
      refine (tn_any _ (.slice ab P.ss.length cb) P x Y hTY (by omega)).mono ?_
      rintro e w2 ⟨rfl, hz⟩
      obtain ⟨n, hn⟩ : ∃ n, tnI P x = n := ⟨_, rfl⟩
      have hs := HT.out
      rw [hn] at hs ⊢
      have q2 := qY.ext hz
      have hx2 := hx'.trans hz
      clear hn HT d0 d1 e0 e1 hTY hz hx' qY hY q hx c0 c1
      by_cases hc : n < k
      · rw [if_pos hc] at hs
        have HT := Lib.hid hs
        clear hs
        go_wp2
        go_ret
        have hh := H2.out
        rw [if_neg (by rw [HT.out]; decide)] at hh
        exact ⟨by rw [hh, HT.out]; rfl, hx2⟩
      · rw [if_neg hc] at hs
        have HT := Lib.hid hs
        clear hs
        go_wp2_with fail
        go_roundw
        case rel => exact ⟨k + 1, by omega, by go_num, Lib.hid (by rw [HV.out]; exact HT.out.symm), q2, hx2⟩
        case measure => simp [intOf]; omega
    · obtain rfl : k = P.ts.length := by omega
      have hT0 := HK.out
      rw [List.drop_length] at hT0
      have hh := H2.out
      rw [if_pos (show T = 0 from hT0.symm)] at hh
      have HH := Lib.hid hh
      clear hT0 hh HK hk hlt H2
      go_wp2_with fail
      go_loopw [48] (fun i wr => ∃ k : Nat, k ≤ P.ss.length ∧ i = .int .i64 k ∧ Hid (slE P k (P.ss.drop k) = S) ∧ Cls w.heap.size 25 #[.slice aa P.ts.length ca, .slice ab P.ss.length cb] wr ∧ Ext w wr) (fun i _ => P.ss.length - (intOf i).toNat)
      case atStart => exact ⟨0, Nat.zero_le _, rfl, HS, q, hx⟩
      case round =>
        clear d0 d1 q hx HS
        obtain ⟨k, hk, rfl, HK, q, hx⟩ := hrel
        have d0 : wr.cell? ⟨w.heap.size, 0, none⟩ = some (.slice aa P.ts.length ca) := q.cell 0
        have d1 : wr.cell? ⟨w.heap.size, 1, none⟩ = some (.slice ab P.ss.length cb) := q.cell 1
        by_cases hlt : k < P.ss.length
        · obtain ⟨bb, oo, ua, uc, rfl, c0, c1, hul, hU⟩ := (hT.s.ext hx).get k hlt
          have hs := sl_step hlt
          rw [HK.out] at hs
          have hum := hus _ (List.getElem_mem hlt)
          obtain ⟨x, hxx⟩ : ∃ x, P.ss[k].id = x := ⟨_, rfl⟩
          obtain ⟨us, hyy⟩ : ∃ y, P.ss[k].us = y := ⟨_, rfl⟩
          obtain ⟨V, hV⟩ : ∃ V, slE P (k + 1) (P.ss.drop (k + 1)) = V := ⟨_, rfl⟩
          rw [hxx] at c0
          rw [hyy] at c1 hU hul hum
          rw [hxx, hyy, hV] at hs
          have HV := Lib.hid hV
          have HX := Lib.hid hs
          obtain ⟨Y, hY⟩ : ∃ Y, wr.alloc (.cells #[.int .i64 x, .slice ua us.length uc] 48) = Y := ⟨_, rfl⟩
          obtain ⟨PB, hPB⟩ : ∃ PB, wr.heap.size = PB := ⟨_, rfl⟩
          have hxY : Ext wr Y := by rw [← hY]; exact (by repeat (first | exact Ext.refl _ | assumption | refine Ext.alloc ?_ _ | refine Ext.drew ?_ | refine Ext.drewN _ ?_ | refine Ext.trans ?_ (by assumption)))
          have hbY : Cls PB 48 #[.int .i64 x, .slice ua us.length uc] Y := by rw [← hY]; exact Cls.newAt _ _ _ hPB.symm
          have qY := q.ext hxY
          have hx' := hx.trans hxY
          have hUY := hU.ext hxY
          have e0 : Y.cell? ⟨PB, 0, none⟩ = some (.int .i64 x) := hbY.cell 0
          have e1 : Y.cell? ⟨PB, 1, none⟩ = some (.slice ua us.length uc) := hbY.cell 1
          replace d0 := hxY.cell d0
          replace d1 := hxY.cell d1
          have hTY := hT.ext hx'
          clear hs hV hxx hyy HK hxY hU
          cases i1 : inB x 1 1099511627776
          · have hs := HX.out
            rw [i1, if_neg (by simp)] at hs
            have HT := Lib.hid hs
            clear hs
            go_wp2_with fail
            refine (within_any x 1 1099511627776 _).mono ?_
            rw [i1]
            rintro e w2 ⟨rfl, rfl⟩
            clear i1 HX
            go_wp2
            go_ret
            exact ⟨by rw [HH.out, HT.out]; rfl, hx'⟩
          have hs := HX.out
          rw [i1, if_pos rfl] at hs
          have HX2 := Lib.hid hs
          clear hs HX
          go_wp2_with fail
          refine (within_any x 1 1099511627776 _).mono ?_
          rw [i1]
          rintro e w2 ⟨rfl, rfl⟩
          obtain ⟨U, hU0⟩ : ∃ U, usB P 0 us = U := ⟨_, rfl⟩
          have hs := HX2.out
          rw [hU0] at hs
          have HX := Lib.hid hs
          have HU := Lib.hid hU0
          clear hs HX2 hU0 i1
          go_wp2_with fail
          go_loopw [60, 7] (fun i la w1 => ∃ (j : Nat) (last : Int), j ≤ us.length ∧ i = .int .i64 j ∧ la = .int .i64 last ∧ Hid (usB P last (us.drop j) = U) ∧ Cls w.heap.size 25 #[.slice aa P.ts.length ca, .slice (some ⟨bb, oo, none⟩) P.ss.length cb] w1 ∧ Cls PB 48 #[.int .i64 x, .slice ua us.length uc] w1 ∧ Ext w w1 ∧ Ext Y w1) (fun i _ _ => us.length - (intOf i).toNat)
          case atStart => exact ⟨0, 0, Nat.zero_le _, rfl, rfl, HU, qY, hbY, hx', Ext.refl _⟩
          case round =>
            clear d0 d1 e0 e1 HU hbY qY hx'
            obtain ⟨j, last, hj, rfl, rfl, HJ, q, qs, hx, hxy⟩ := hrel
            have d0 : wr.cell? ⟨w.heap.size, 0, none⟩ = some (.slice aa P.ts.length ca) := q.cell 0
            have d1 : wr.cell? ⟨w.heap.size, 1, none⟩ = some (.slice (some ⟨bb, oo, none⟩) P.ss.length cb) := q.cell 1
            have e0 : wr.cell? ⟨PB, 0, none⟩ = some (.int .i64 x) := qs.cell 0
            by_cases hlu : j < us.length
            · obtain ⟨b3, o3, rfl, c3⟩ := (hUY.ext hxy).get j hlu
              have hs := us_step (P := P) (last := last) hlu
              rw [HJ.out] at hs
              obtain ⟨u, huu⟩ : ∃ u, us[j] = u := ⟨_, rfl⟩
              rw [huu] at hs c3
              obtain ⟨V2, hV2⟩ : ∃ V, usB P u (us.drop (j + 1)) = V := ⟨_, rfl⟩
              rw [hV2] at hs
              have HV2 := Lib.hid hV2
              by_cases hle : u ≤ last
              · rw [decide_eq_true hle, Bool.true_or, Bool.true_or] at hs
                have HS2 := Lib.hid hs
                clear hs hV2 huu
                go_wp2
                go_ret
                have hh := HX.out
                rw [HS2.out, if_pos rfl] at hh
                exact ⟨by rw [HH.out, hh]; rfl, hx⟩
              · rw [decide_eq_false hle, Bool.false_or] at hs
                have HS2 := Lib.hid hs
                clear hs hV2 huu
                go_wp2_with fail
                refine (tn_any _ (.slice (some ⟨bb, oo, none⟩) P.ss.length cb) P u wr (hT.t.ext hx) (by omega)).mono ?_
                rintro e w2 ⟨rfl, hz⟩
                obtain ⟨n, hn⟩ : ∃ n, tnI P u = n := ⟨_, rfl⟩
                have hs := HS2.out
                rw [hn] at hs ⊢
                have q2 := q.ext hz
                have qs2 := qs.ext hz
                have hx2 := hx.trans hz
                have hxy2 := hxy.trans hz
                clear hn HS2 d0 d1 e0 hz c3
                by_cases hc : n < 0
                · rw [decide_eq_true hc, Bool.true_or] at hs
                  have HS2 := Lib.hid hs
                  clear hs
                  go_wp2
                  go_ret
                  have hh := HX.out
                  rw [HS2.out, if_pos rfl] at hh
                  exact ⟨by rw [HH.out, hh]; rfl, hx2⟩
                · rw [decide_eq_false hc, Bool.false_or] at hs
                  have HS2 := Lib.hid hs
                  clear hs
                  go_wp2_with fail
                  go_roundw
                  case rel => exact ⟨j + 1, u, by omega, by go_num, rfl, Lib.hid (by rw [HV2.out]; exact HS2.out.symm), q2, qs2, hx2, hxy2⟩
                  case measure => simp [intOf]; omega
            · obtain rfl : j = us.length := by omega
              have hu0 := HJ.out
              rw [List.drop_length] at hu0
              have hh := HX.out
              rw [← hu0, if_neg (by simp [usB])] at hh
              have HX2 := Lib.hid hh
              clear hh hu0 HJ HX hj hlu
              go_wp2_with fail
              refine (sl_any (.slice aa P.ts.length ca) _ P x wr (hT.s.ext hx) (by omega)).mono ?_
              rintro e w2 ⟨rfl, hz⟩
              obtain ⟨n, hn⟩ : ∃ n, slI P x = n := ⟨_, rfl⟩
              have hs := HX2.out
              rw [hn] at hs ⊢
              have q2 := q.ext hz
              have hx2 := hx.trans hz
              clear hn HX2 d0 d1 e0 hz
              by_cases hc : n < k
              · rw [if_pos hc] at hs
                have HT := Lib.hid hs
                clear hs
                go_wp2
                go_ret
                exact ⟨by rw [HH.out, HT.out]; rfl, hx2⟩
              · rw [if_neg hc] at hs
                have HT := Lib.hid hs
                clear hs
                go_wp2_with fail
                go_roundw
                case rel => exact ⟨k + 1, by omega, by go_num, Lib.hid (by rw [HV.out]; exact HT.out.symm), q2, hx2⟩
                case measure => simp [intOf]; omega
        · obtain rfl : k = P.ss.length := by omega
          have hs0 := HK.out
          rw [List.drop_length] at hs0
          have HS0 := Lib.hid (show (0 : Int) = S from hs0)
          clear hs0 HK hk hlt
          go_wp2_with fail
          go_ret
          exact ⟨by rw [HH.out, ← HS0.out]; rfl, hx⟩
end Go.Proofs.Ytiofdfjcaklmcaa
namespace Go.Proofs.Ytiofdfjcaklmcaa
open Go.RowKit Go.Shelf

theorem KI : KL Try.prog 3 encI := intKL (by kernel_rfl)
theorem mapTi : (Try.prog).underlying 127 = some (.map 3 3) := by kernel_rfl
theorem zeroI (w : World) : (zeroValue 3).run Try.prog w = .ok (.int .i64 0) w := by kernel_rfl
theorem getK_upd {V : List (Int × Value)} {k : Int} {v : Value} (r : Int) : getK (updK V k v) r = if r = k then some v else getK V r := by
  unfold updK
  by_cases h : (getK V k).isSome = true
  · rw [if_pos h]
    unfold getK at h ⊢
    induction V with
    | nil => simp at h
    | cons p V ih =>
      rw [List.map_cons, List.find?_cons, List.find?_cons]
      rw [List.find?_cons] at h
      by_cases hp : p.1 = k
      · rw [if_pos hp]
        by_cases hr : r = k
        · simp [hr]
        · have h1 : ¬ k = r := fun e => hr e.symm
          have h2 : ¬ p.1 = r := fun e => hr (e ▸ hp)
          simp only [h1, h2, decide_false, hr, if_false]
          clear ih h
          induction V with
          | nil => rfl
          | cons q V ih =>
            rw [List.map_cons, List.find?_cons, List.find?_cons]
            by_cases hq : q.1 = k
            · have h3 : ¬ q.1 = r := fun e => hr (e ▸ hq)
              rw [if_pos hq]
              simp only [h1, h3, decide_false]
              exact ih
            · rw [if_neg hq]
              by_cases hqr : q.1 = r
              · simp [hqr]
              · simp only [hqr, decide_false]; exact ih
      · rw [if_neg hp]
        simp only [hp, decide_false] at h
        by_cases hpr : p.1 = r
        · have : ¬ r = k := fun e => hp (hpr.trans e)
          simp [hpr, this]
        · simp only [hpr, decide_false]
          exact ih h
  · rw [if_neg h]
    unfold getK at h ⊢
    rw [List.find?_append]
    by_cases hr : r = k
    · subst hr
      have : V.find? (fun p => decide (p.1 = r)) = none := by
        cases hf : V.find? (fun p => decide (p.1 = r)) with
        | none => rfl
        | some q => rw [hf] at h; exact absurd rfl h
      rw [this]
      simp
    · have h1 : ¬ k = r := fun e => hr e.symm
      simp [hr, h1]
/-- a map that counts -/
def CntAt (W : World) (M : Nat) (f : Int → Int) : Prop := ∃ l, MapAt encI W M l ∧ ∀ x, (getK l x).getD (.int .i64 0) = .int .i64 (f x)
theorem CntAt.ext {W W' : World} {M : Nat} {f : Int → Int} (h : CntAt W M f) (x : Ext W W') : CntAt W' M f := by
  obtain ⟨l, h1, h2⟩ := h
  exact ⟨l, h1.ext x, h2⟩
theorem CntAt.lt {W : World} {M : Nat} {f : Int → Int} (h : CntAt W M f) : M < W.heap.size := by
  obtain ⟨l, h1, h2⟩ := h
  exact h1.lt
set_option maxRecDepth 100000 in
set_option maxHeartbeats 8000000 in
theorem counts_any (a b v : Value) (P : Po) (g : List Int) (w : World) (hT : TesAt w a P.ts) (hg : IntsAt w v g) (hlt : P.ts.length ≤ 100000) (hlg : g.length ≤ 100000) :
    Calls Try.prog 75 #[.agg #[a, b], v] w fun e w' => ∃ u, e = .returned u ∧ RowI w.heap.size u (cntT P g) w' ∧ Ext w w' := by
  obtain ⟨aa, ca, rfl, hla⟩ := hT.len
  obtain ⟨ag, cg, rfl, hlc⟩ := hg.len
  obtain ⟨R, hR⟩ : ∃ R, cntT P g = R := ⟨_, rfl⟩
  have HR := Lib.hid hR
  rw [hR]
  clear hR
  have hmk := @run_makeMap Try.prog
  go_enter Try.func75, Try.ntmps75
  have hM0 := mapAt_made encI (w.alloc (.cells #[.slice aa P.ts.length ca, b] 25))
  have hs0 : (w.alloc (.cells #[.slice aa P.ts.length ca, b] 25)).heap.size = w.heap.size + 1 := by simp
  rw [hs0] at hM0
  have hc0 : CntAt ((w.alloc (.cells #[.slice aa P.ts.length ca, b] 25)).alloc (.map #[] 0)) (w.heap.size + 1) (cntI (g.take 0)) := ⟨[], hM0, fun x => rfl⟩
  have q0 : Cls w.heap.size 25 #[.slice aa P.ts.length ca, b] ((w.alloc (.cells #[.slice aa P.ts.length ca, b] 25)).alloc (.map #[] 0)) := (Cls.new _ _ _).ext (by repeat (first | exact Ext.refl _ | assumption | refine Ext.alloc ?_ _ | refine Ext.drew ?_ | refine Ext.drewN _ ?_ | refine Ext.trans ?_ (by assumption)))
  have hx0 : Ext w ((w.alloc (.cells #[.slice aa P.ts.length ca, b] 25)).alloc (.map #[] 0)) := (by repeat (first | exact Ext.refl _ | assumption | refine Ext.alloc ?_ _ | refine Ext.drew ?_ | refine Ext.drewN _ ?_ | refine Ext.trans ?_ (by assumption)))
  clear hM0 hs0
  go_wp2_with fail
  go_loopw [14] (fun i wr => ∃ j : Nat, j ≤ g.length ∧ i = .int .i64 j ∧ CntAt wr (w.heap.size + 1) (cntI (g.take j)) ∧ Cls w.heap.size 25 #[.slice aa P.ts.length ca, b] wr ∧ Ext w wr) (fun i _ => g.length - (intOf i).toNat)
  case atStart => exact ⟨0, Nat.zero_le _, rfl, hc0, q0, hx0⟩
  case round =>
    clear hc0 q0 hx0 hmk
    obtain ⟨j, hj, rfl, ⟨ml, hM, hC⟩, q, hx⟩ := hrel
    by_cases hlj : j < g.length
    · obtain ⟨bb, oo, rfl, c0⟩ := (hg.ext hx).get j hlj
      have hst := cntI_take hlj
      have hbd := fun y => cntI_take_le g j y
      obtain ⟨x, hxx⟩ : ∃ x, g[j] = x := ⟨_, rfl⟩
      rw [hxx] at c0 hst
      have hGx := hC x
      have hbx := hbd x
      obtain ⟨n, hn⟩ : ∃ n, cntI (g.take j) x = n := ⟨_, rfl⟩
      rw [hn] at hGx hbx
      have HG := Lib.hid hGx
      have HST := Lib.hid hst
      have HC := Lib.hid hC
      have HN := Lib.hid hn
      clear hGx hst hC hbd hxx hn
      go_wp2_with (first | (refine wpList_lookupMap rfl _ _ false rfl KI mapTi rfl hM x rfl (zeroI _) ?_; simp only [Bool.false_eq_true, if_false]; rw [HG.out]) | (refine wpList_updateMap rfl _ _ _ rfl KI mapTi rfl hM x (.int .i64 (n + 1)) rfl rfl ?_; intro w5 hM5 hg5))
      go_roundw
      case rel =>
        refine ⟨j + 1, by omega, by go_num, ⟨_, hM5, fun y => ?_⟩, q.kept hg5 (fun e => by have := Option.some.inj e; omega), hx.grown hg5 (by omega)⟩
        rw [getK_upd, HST.out y]
        by_cases hy : y = x
        · rw [if_pos hy, if_pos hy.symm, hy, HN.out]; rfl
        · rw [if_neg hy, if_neg (fun e => hy e.symm), HC.out y]; simp
      case measure => simp [intOf]; omega
    · obtain rfl : j = g.length := by omega
      rw [List.take_length] at hC
      have HC := Lib.hid hC
      have d0 : wr.cell? ⟨w.heap.size, 0, none⟩ = some (.slice aa P.ts.length ca) := q.cell 0
      have hMB := hM.lt
      have hMB2 := hx.size
      obtain ⟨NB, hNB⟩ : ∃ NB, wr.heap.size = NB := ⟨_, rfl⟩
      rw [hNB] at hMB hMB2
      have hNs : NB ≤ wr.heap.size := by omega
      clear hC hj hlj hNB
      go_wp2_with fail
      go_loopw [8, 26] (fun o i w1 => ∃ k : Nat, k ≤ P.ts.length ∧ i = .int .i64 k ∧ Hid (RowI NB o ((cntT P g).take k) w1) ∧ MapAt encI w1 (w.heap.size + 1) ml ∧ Ext w w1 ∧ NB ≤ w1.heap.size) (fun _ i _ => P.ts.length - (intOf i).toNat)
      case atStart => exact ⟨0, Nat.zero_le _, rfl, Lib.hid (rowI_nil _ _), hM, hx, hNs⟩
      case round =>
        clear d0 hM q hx hNs
        rename_i w1
        obtain ⟨k, hk, rfl, HRow, hM, hx, hsz⟩ := hrel
        by_cases hlk : k < P.ts.length
        · obtain ⟨bb, oo, rfl, c0, c1⟩ := (hT.ext hx).get k hlk
          have hlk2 : k < (cntT P g).length := by rw [cntT_len]; exact hlk
          have hst := take_succ_get (cntT P g) k hlk2
          rw [cntT_get P g k hlk2 hlk] at hst
          obtain ⟨x, hxx⟩ : ∃ x, P.ts[k].id = x := ⟨_, rfl⟩
          obtain ⟨y, hyy⟩ : ∃ y, P.ts[k].most = y := ⟨_, rfl⟩
          rw [hxx] at c0 hst
          rw [hyy] at c1
          have hGx := HC.out x
          obtain ⟨n, hn⟩ : ∃ n, cntI g x = n := ⟨_, rfl⟩
          rw [hn] at hGx hst
          have hLl : ((cntT P g).take k).length ≤ 100000 := by simp; omega
          obtain ⟨Q, hQ⟩ : ∃ Q, (cntT P g).take k = Q := ⟨_, rfl⟩
          rw [hQ] at hst HRow hLl
          have hR := HRow.out
          have HG := Lib.hid hGx
          have HST := Lib.hid hst
          have hrl := hR.lt
          obtain ⟨PB, hPB⟩ : ∃ PB, wr.heap.size = PB := ⟨_, rfl⟩
          obtain ⟨Y, hY⟩ : ∃ Y, wr.alloc (.cells #[.int .i64 x, .int .i64 y] 45) = Y := ⟨_, rfl⟩
          have hxY : Ext wr Y := by rw [← hY]; exact (by repeat (first | exact Ext.refl _ | assumption | refine Ext.alloc ?_ _ | refine Ext.drew ?_ | refine Ext.drewN _ ?_ | refine Ext.trans ?_ (by assumption)))
          have hbY : Cls PB 45 #[.int .i64 x, .int .i64 y] Y := by rw [← hY]; exact Cls.newAt _ _ _ hPB.symm
          have hRY := rowI_ext hR hxY
          have hMY := hM.ext hxY
          have hx' := hx.trans hxY
          have e0 : Y.cell? ⟨PB, 0, none⟩ = some (.int .i64 x) := hbY.cell 0
          have hszY : NB ≤ Y.heap.size := Nat.le_trans hsz hxY.size
          clear hGx hst hn hQ hxx hyy HRow hR hlk2 hbY hxY hM hx hsz
          go_wp2_with (first | (refine wpList_lookupMap rfl _ _ false rfl KI mapTi rfl hMY x rfl (zeroI _) ?_; simp only [Bool.false_eq_true, if_false]; rw [HG.out]) | (at_builtin; refine append_ints rfl _ _ rfl NB _ _ Q [n] rfl (rowI_ext hRY (by repeat (first | exact Ext.refl _ | assumption | refine Ext.alloc ?_ _ | refine Ext.drew ?_ | refine Ext.drewN _ ?_ | refine Ext.trans ?_ (by assumption)))) rfl (ints_oneAt _ _ _ rfl) (by simp; omega) (by simp; omega) ?_; intro v1 w3 hr3 hg3 _; have hx3 := ext_own hx' hRY hMB2 (grown_pre hg3); have hM3 := hMY.grown (grown_pre hg3) (own_ge hRY hMB); have hsz3 : NB ≤ w3.heap.size := Nat.le_trans hszY (grown_pre hg3).size; clear hg3))
          go_roundw
          case rel => exact ⟨k + 1, by omega, by go_num, Lib.hid (by rw [HST.out]; exact hr3), hM3, hx3, hsz3⟩
          case measure => simp [intOf]; omega
        · obtain rfl : k = P.ts.length := by omega
          have hR := HRow.out
          rw [← cntT_len P g, List.take_length, HR.out] at hR
          have HRR := Lib.hid hR
          clear HRow hR
          go_wp2_with fail
          go_ret
          exact ⟨_, rfl, rowI_base HRR.out hMB2, hx⟩
end Go.Proofs.Ytiofdfjcaklmcaa
namespace Go.Proofs.Ytiofdfjcaklmcaa
open Go.RowKit Go.Shelf

set_option maxRecDepth 100000 in
set_option maxHeartbeats 8000000 in
theorem sharing_any (a b v : Value) (P : Po) (g : List Int) (hok : OkP P) (w : World) (hT : PoAt w a b P) (hg : IntsAt w v g) :
    Calls Try.prog 97 #[.agg #[a, b], v] w fun e w' => e = .returned (.bool (shrB P g)) ∧ Ext w w' := by
  have hlt := hok.lt
  have hls := hok.ls
  have hul := hok.ul
  obtain ⟨aa, ca, rfl, hla⟩ := hT.t.len
  obtain ⟨ab, cb, rfl, hlb⟩ := hT.s.len
  obtain ⟨ag, cg, rfl, hlc⟩ := hg.len
  have hfL := @shr_fL P g
  have hfU := fun i => @shr_fU P g i
  have hfM := fun j => @shr_fM P g j
  have hfT := @shr_t P g
  obtain ⟨R, hR⟩ : ∃ R, shrB P g = R := ⟨_, rfl⟩
  rw [hR] at hfL hfU hfM hfT ⊢
  have HL := Lib.hid hfL
  have HU := Lib.hid hfU
  have HM := Lib.hid hfM
  have HT := Lib.hid hfT
  clear hR hfL hfU hfM hfT
  go_enter Try.func97, Try.ntmps97
  have q0 := Cls.new w 25 #[.slice aa P.ts.length ca, .slice ab P.ss.length cb]
  have hx0 : Ext w (w.alloc (.cells #[.slice aa P.ts.length ca, .slice ab P.ss.length cb] 25)) := (by repeat (first | exact Ext.refl _ | assumption | refine Ext.alloc ?_ _ | refine Ext.drew ?_ | refine Ext.drewN _ ?_ | refine Ext.trans ?_ (by assumption)))
  by_cases hlen : g.length = P.ss.length
  · have hlen2 : ((g.length : Int) != P.ss.length) = false := by simp [hlen]
    have HLEN := Lib.hid hlen
    clear hlen
    go_wp2_with fail
    go_loopw [17] (fun i wr => ∃ j : Nat, j ≤ g.length ∧ i = .int .i64 j ∧ Hid (∀ i, i < j → pU P g i = true) ∧ Cls w.heap.size 25 #[.slice aa P.ts.length ca, .slice ab P.ss.length cb] wr ∧ Ext w wr) (fun i _ => g.length - (intOf i).toNat)
    case atStart => exact ⟨0, Nat.zero_le _, rfl, Lib.hid (fun i h => by omega), q0, hx0⟩
    case round =>
      clear q0 hx0
      obtain ⟨j, hj, rfl, HJ, q, hx⟩ := hrel
      have d0 : wr.cell? ⟨w.heap.size, 0, none⟩ = some (.slice aa P.ts.length ca) := q.cell 0
      have d1 : wr.cell? ⟨w.heap.size, 1, none⟩ = some (.slice ab P.ss.length cb) := q.cell 1
      by_cases hlj : j < g.length
      · obtain ⟨bb, oo, rfl, c0⟩ := (hg.ext hx).get j hlj
        have hjs : j < P.ss.length := by have := HLEN.out; omega
        obtain ⟨b2, o2, ua, uc, rfl, s0, s1, hul1, hU⟩ := (hT.s.ext hx).get j hjs
        have hp := pU_at hlj hjs
        have hu12 := hul _ (List.getElem_mem hjs)
        obtain ⟨x, hxx⟩ : ∃ x, g[j] = x := ⟨_, rfl⟩
        obtain ⟨us, huu⟩ : ∃ x, P.ss[j].us = x := ⟨_, rfl⟩
        rw [hxx] at c0 hp
        rw [huu] at s1 hul1 hU hp hu12
        obtain ⟨c, hc⟩ : ∃ c, us.contains x = c := ⟨_, rfl⟩
        have KC := fun W (h : Ext wr W) => contains_any _ us x W (hU.ext h) (by omega)
        rw [hc] at hp KC
        have HKC := Lib.hid KC
        have HP := Lib.hid hp
        clear hp hxx huu hc KC
        by_cases h0 : x = 0
        · have hb : (x != 0) = false := by simp [h0]
          have HB : (x == 0) = true := by simp [h0]
          have hp := HP.out
          rw [HB, Bool.true_or] at hp
          have HP := Lib.hid hp
          clear hp h0 HB
          go_wp2_with fail
          go_roundw
          case rel => exact ⟨j + 1, by omega, by go_num, Lib.hid (fun i hi => by
              by_cases e : i = j
              · rw [e]; exact HP.out
              · exact HJ.out i (by omega)), q, hx⟩
          case measure => simp [intOf]; omega
        · have hb : (x != 0) = true := by simp [h0]
          have HB : (x == 0) = false := by simp [h0]
          have hp := HP.out
          rw [HB, Bool.false_or] at hp
          have HP := Lib.hid hp
          clear hp h0 HB
          cases c
          · go_wp2_with fail
            refine (HKC.out _ (Ext.refl _)).mono ?_
            rintro e w2 ⟨rfl, rfl⟩
            go_wp2
            go_ret
            exact ⟨ret_bool (HU.out j hlj HP.out).symm, hx⟩
          · go_wp2_with fail
            refine (HKC.out _ (Ext.refl _)).mono ?_
            rintro e w2 ⟨rfl, rfl⟩
            go_wp2_with fail
            go_roundw
            case rel => exact ⟨j + 1, by omega, by go_num, Lib.hid (fun i hi => by
                by_cases e : i = j
                · rw [e]; exact HP.out
                · exact HJ.out i (by omega)), q, hx⟩
            case measure => simp [intOf]; omega
      · obtain rfl : j = g.length := by omega
        have hlg : g.length ≤ 40 := by have := HLEN.out; omega
        have KC := fun W (h : Ext w W) => counts_any _ (.slice ab P.ss.length cb) _ P g W (hT.t.ext h) (hg.ext h) (by omega) (by omega)
        have hcl := cntT_len P g
        have hcg := cntT_get P g
        obtain ⟨C, hC⟩ : ∃ C, cntT P g = C := ⟨_, rfl⟩
        rw [hC] at KC hcl hcg
        have HKC := Lib.hid KC
        have HCG := Lib.hid hcg
        clear hC KC hcg hj hlj
        go_wp2_with fail
        refine (HKC.out _ hx).mono ?_
        rintro e w2 ⟨u, rfl, hRow, hz⟩
        have hCA := hRow.at_
        obtain ⟨A, c, rfl⟩ := hRow.form
        have q2 := q.ext hz
        have hx2 := hx.trans hz
        clear hRow d0 d1 q hx hz HKC
        have HCL := Lib.hid hcl
        clear hcl
        go_wp2_with fail
        go_loopw [40] (fun i wr => ∃ k : Nat, k ≤ C.length ∧ i = .int .i64 k ∧ Hid (∀ j (h : j < P.ts.length), j < k → pM g P.ts[j] = true) ∧ w2 = wr) (fun i _ => C.length - (intOf i).toNat)
        case atStart => exact ⟨0, Nat.zero_le _, rfl, Lib.hid (fun i _ h => by omega), rfl⟩
        case round =>
          obtain ⟨k, hk, rfl, HK, rfl⟩ := hrel
          have d0 : w2.cell? ⟨w.heap.size, 0, none⟩ = some (.slice aa P.ts.length ca) := q2.cell 0
          by_cases hlk : k < C.length
          · have hkt : k < P.ts.length := by have := HCL.out; omega
            obtain ⟨b3, o3, rfl, t0⟩ := hCA.get k hlk
            obtain ⟨b4, o4, rfl, e0, e1⟩ := (hT.t.ext hx2).get k hkt
            rw [HCG.out k hlk hkt] at t0
            have hp : pM g P.ts[k] = decide (cntI g P.ts[k].id ≤ P.ts[k].most) := rfl
            obtain ⟨n, hn⟩ : ∃ n, cntI g P.ts[k].id = n := ⟨_, rfl⟩
            obtain ⟨m, hm⟩ : ∃ n, P.ts[k].most = n := ⟨_, rfl⟩
            rw [hn] at t0 hp
            rw [hm] at e1 hp
            clear hn hm
            by_cases hgt : n ≤ m
            · rw [decide_eq_true hgt] at hp
              have HP := Lib.hid hp
              have hng : ¬ (n > m) := by omega
              clear hp hgt
              go_wp2_with fail
              go_roundw
              case rel => exact ⟨k + 1, by omega, by go_num, Lib.hid (fun i hi hik => by
                  by_cases e : i = k
                  · subst e; exact HP.out
                  · exact HK.out i hi (by omega)), trivial⟩
              case measure => simp [intOf]; omega
            · rw [decide_eq_false hgt] at hp
              have HP := Lib.hid hp
              have hng : n > m := by omega
              clear hp hgt
              go_wp2_with fail
              go_ret
              exact ⟨ret_bool (HM.out k hkt HP.out).symm, hx2⟩
          · obtain rfl : k = C.length := by omega
            go_wp2_with fail
            go_ret
            exact ⟨ret_bool (HT.out HLEN.out HJ.out (fun j hj => HK.out j hj (by have := HCL.out; omega))).symm, hx2⟩
  · have hlen2 : ((g.length : Int) != P.ss.length) = true := by
      have : ¬ (g.length : Int) = P.ss.length := by omega
      simp [this]
    have HL2 := Lib.hid (HL.out hlen)
    clear hlen
    go_wp2_with fail
    go_ret
    exact ⟨ret_bool HL2.out.symm, hx0⟩

set_option maxRecDepth 100000 in
set_option maxHeartbeats 8000000 in
theorem CheckGiven_any (a b v : Value) (P : Po) (g : List Int) (w : World) (hT : PoAt w a b P) (hg : IntsAt w v g) (hus : ∀ s ∈ P.ss, s.us.length ≤ 1000000) :
    Calls Try.prog 52 #[.agg #[a, b], v] w fun e w' => e = .returned (.int .i64 (cgE P g)) ∧ Ext w w' := by
  have hE : cgE P g = if chkE P = 0 then (if shrB P g = true then 0 else 1) else chkE P := rfl
  have hok := @chk_ok P
  have KS := fun (h : OkP P) W (x : Ext w W) => sharing_any a b v P g h W (hT.ext x) (hg.ext x)
  have KC := fun W (x : Ext w W) => Check_any a b P W (hT.ext x) hus
  obtain ⟨E, hEE⟩ : ∃ E, cgE P g = E := ⟨_, rfl⟩
  obtain ⟨C, hC⟩ : ∃ E, chkE P = E := ⟨_, rfl⟩
  obtain ⟨S, hS⟩ : ∃ E, shrB P g = E := ⟨_, rfl⟩
  rw [hS] at KS
  rw [hC] at KC hok
  rw [hEE, hC, hS] at hE
  rw [hEE]
  have HE := Lib.hid hE
  have HKS := Lib.hid KS
  have HKC := Lib.hid KC
  clear hE hEE hC hS KS KC
  go_enter Try.func52, Try.ntmps52
  go_wp2_with fail
  refine (HKC.out _ (by repeat (first | exact Ext.refl _ | assumption | refine Ext.alloc ?_ _ | refine Ext.drew ?_ | refine Ext.drewN _ ?_ | refine Ext.trans ?_ (by assumption)))).mono ?_
  rintro e w1 ⟨rfl, hx1⟩
  obtain ⟨q, hx, hk0⟩ := alloc1 hx1
  have d0 : w1.cell? ⟨w.heap.size, 0, none⟩ = some a := q.cell 0
  have d1 : w1.cell? ⟨w.heap.size, 1, none⟩ = some b := q.cell 1
  clear hx1 hk0
  by_cases h0 : C = 0
  · have h2 := HE.out
    rw [if_pos h0] at h2
    have HE2 := Lib.hid h2
    have hb : (C != 0) = false := by simp [h0]
    have K2 := HKS.out (hok.1 h0)
    clear h2 h0
    go_wp2_with fail
    refine (K2 _ hx).mono ?_
    rintro e w2 ⟨rfl, hz⟩
    cases S
    · go_wp2_with fail
      go_ret
      exact ⟨by rw [HE2.out]; rfl, hx.trans hz⟩
    · go_wp2_with fail
      go_ret
      exact ⟨by rw [HE2.out]; rfl, hx.trans hz⟩
  · have h2 := HE.out
    rw [if_neg h0] at h2
    have HE2 := Lib.hid h2
    have hb : (C != 0) = true := by simp [h0]
    clear h2 h0
    go_wp2_with fail
    go_ret
    exact ⟨by rw [HE2.out]; rfl, hx⟩
def InsPost (w : World) (l : List Int) (E : Int) (e : Ending) (w' : World) : Prop := ∃ v, e = .returned (.tuple #[v, .int .i64 E]) ∧ IntsAt w' v l ∧ Ext w w'
set_option maxRecDepth 100000 in
set_option maxHeartbeats 8000000 in
theorem Counts_any (a b v : Value) (P : Po) (g : List Int) (w : World) (hT : PoAt w a b P) (hg : IntsAt w v g) (hus : ∀ s ∈ P.ss, s.us.length ≤ 1000000) :
    Calls Try.prog 47 #[.agg #[a, b], v] w (InsPost w (cntsX P g) (cgE P g)) := by
  have hX : cntsX P g = if cgE P g = 0 then cntT P g else [] := rfl
  have hok := @cg_ok P g
  have KC := fun W (x : Ext w W) => CheckGiven_any a b v P g W (hT.ext x) (hg.ext x) hus
  have KT := fun (h : OkP P ∧ ShrV P g) W (x : Ext w W) => counts_any a b v P g W (hT.t.ext x) (hg.ext x) (by have := h.1.lt; omega) (by have := h.2.le h.1; omega)
  obtain ⟨X, hXX⟩ : ∃ E, cntsX P g = E := ⟨_, rfl⟩
  obtain ⟨E, hE⟩ : ∃ E, cgE P g = E := ⟨_, rfl⟩
  obtain ⟨C, hC⟩ : ∃ E, cntT P g = E := ⟨_, rfl⟩
  rw [hXX, hE, hC] at hX
  rw [hE] at hok KC
  rw [hC] at KT
  rw [hXX, hE]
  have HX := Lib.hid hX
  have HKC := Lib.hid KC
  have HKT := Lib.hid KT
  clear hX hXX hE hC KC KT
  go_enter Try.func47, Try.ntmps47
  go_wp2_with fail
  refine (HKC.out _ (by repeat (first | exact Ext.refl _ | assumption | refine Ext.alloc ?_ _ | refine Ext.drew ?_ | refine Ext.drewN _ ?_ | refine Ext.trans ?_ (by assumption)))).mono ?_
  rintro e w1 ⟨rfl, hx1⟩
  obtain ⟨q, hx, hk0⟩ := alloc1 hx1
  have d0 : w1.cell? ⟨w.heap.size, 0, none⟩ = some a := q.cell 0
  have d1 : w1.cell? ⟨w.heap.size, 1, none⟩ = some b := q.cell 1
  clear hx1 hk0
  by_cases h0 : E = 0
  · have h2 := HX.out
    rw [if_pos h0] at h2
    have HX2 := Lib.hid h2
    have H0 := Lib.hid h0
    have hb : (E != 0) = false := by simp [h0]
    have K2 := HKT.out (hok.1 h0)
    clear h2 h0
    go_wp2_with fail
    refine (K2 _ hx).mono ?_
    rintro e w2 ⟨u, rfl, hr, hz⟩
    go_wp2_with fail
    go_ret2
    exact ⟨_, ret2 rfl (by rw [H0.out]; rfl), by rw [HX2.out]; exact hr.at_, hx.trans hz⟩
  · have h2 := HX.out
    rw [if_neg h0] at h2
    have HX2 := Lib.hid h2
    have hb : (E != 0) = true := by simp [h0]
    clear h2 h0
    go_wp2_with fail
    go_ret2
    exact ⟨_, rfl, by rw [HX2.out]; exact intsAt_nil _, hx⟩
set_option maxRecDepth 100000 in
set_option maxHeartbeats 8000000 in
theorem ladder_any (a b v : Value) (P : Po) (g : List Int) (w : World) (hT : TesAt w a P.ts) (hg : IntsAt w v g) (hlt : P.ts.length ≤ 100000) (hlg : g.length ≤ 100000) :
    Calls Try.prog 74 #[.agg #[a, b], v] w fun e w' => ∃ u, e = .returned u ∧ RowI w.heap.size u (ladL P g) w' ∧ Ext w w' := by
  have KC := fun W (x : Ext w W) => counts_any a b v P g W (hT.ext x) (hg.ext x) hlt hlg
  have hL : ladL P g = srtI (cntT P g) := rfl
  have hcl := cntT_len P g
  obtain ⟨C, hC⟩ : ∃ E, cntT P g = E := ⟨_, rfl⟩
  rw [hC] at KC hL hcl
  rw [hL]
  have HKC := Lib.hid KC
  have hcl2 : C.length ≤ 100000 := by omega
  clear hC KC hL hcl
  go_enter Try.func74, Try.ntmps74
  go_wp2_with fail
  refine (HKC.out _ (by repeat (first | exact Ext.refl _ | assumption | refine Ext.alloc ?_ _ | refine Ext.drew ?_ | refine Ext.drewN _ ?_ | refine Ext.trans ?_ (by assumption)))).mono ?_
  rintro e w1 ⟨u, rfl, hr, hx1⟩
  have hx : Ext w w1 := Ext.trans (by repeat (first | exact Ext.refl _ | assumption | refine Ext.alloc ?_ _ | refine Ext.drew ?_ | refine Ext.drewN _ ?_ | refine Ext.trans ?_ (by assumption))) hx1
  go_wp2_with fail
  refine (sort_any _ u C w1 hr (by omega)).mono ?_
  rintro e w2 ⟨rfl, hr2, hg2⟩
  have hx2 := ext_own hx hr (by simp) hg2
  go_wp2_with fail
  go_ret
  exact ⟨_, rfl, rowI_base hr2 (by simp), hx2⟩
end Go.Proofs.Ytiofdfjcaklmcaa
