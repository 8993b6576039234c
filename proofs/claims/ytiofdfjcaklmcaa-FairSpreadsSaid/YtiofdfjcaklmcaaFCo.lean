/- Rows of tenants and of slots of the call's own; slices.Clone of both. copied of the program: a pool that shares no memory. could of the program: whether a fairest sharing gives a slot to somebody; Could, Surely, Ladder. -/
import Derived.Test.YtiofdfjcaklmcaaFApW
import Derived.Test.YtiofdfjcaklmcaaFPb
import Derived.Deep.DeepCutAuto
namespace Go.Proofs.Ytiofdfjcaklmcaa
open Go.RowKit Go.Shelf

theorem pickL {α : Type} : ∀ (n : Nat) (p : Nat → α → Prop), (∀ i, i < n → ∃ x, p i x) → ∃ l : List α, l.length = n ∧ ∀ i (h : i < l.length), p i l[i]
  | 0, _, _ => ⟨[], rfl, fun i h => by simp at h⟩
  | n + 1, p, h => by
    obtain ⟨l, hl, hp⟩ := pickL n p (fun i hi => h i (by omega))
    obtain ⟨x, hx⟩ := h n (by omega)
    refine ⟨l ++ [x], by simp [hl], fun i hi => ?_⟩
    by_cases hc : i < l.length
    · rw [List.getElem_append_left hc]; exact hp i hc
    · have : i = n := by simp at hi; omega
      subst this
      rw [List.getElem_append_right (by omega)]
      simpa [hl] using hx
/-! ### tenants -/
def RowT (n₀ : Nat) (v : Value) (l : List Te) (W : World) : Prop := RowK 45 fT 2 n₀ v l W
theorem RowT.at_ {n₀ : Nat} {v : Value} {l : List Te} {W : World} (h : RowT n₀ v l W) : TesAt W v l := RowK.at_ fT_len h
theorem RowT.ext {n₀ : Nat} {v : Value} {l : List Te} {W W' : World} (h : RowT n₀ v l W) (x : Ext W W') : RowT n₀ v l W' := RowK.ext h x
theorem infoTe : (Try.prog.info? 45).map (fun i => (i.zero, i.size, i.bytes)) = some (some (.agg #[.int .i64 0, .int .i64 0]), 2, 16) := by kernel_rfl
theorem undTe : (Try.prog).underlying 22 = some (.slice 45) := by kernel_rfl
theorem eqlTe (ao : Option Addr) (n c : Nat) (w : World) : (binOp .eql 22 (.slice ao n c) (.slice none 0 0)).run Try.prog w = .ok (.bool ao.isNone) w := Lib.run_eql_slice_nil w _ _ ao n c 0 0 undTe
theorem run_append_tes (w : World) (ty : TypeId) (base : Nat) (v u : Value) (l r : List Te) (hrow : RowT base v l w) (hu : TesAt w u r) (hb : base ≤ w.heap.size) (hl : l.length + r.length ≤ 2000000) :
    ∃ v' w', (Builtin.append_ #[22, 22] ty #[v, u]).run Try.prog w = .ok v' w' ∧ RowT base v' (l ++ r) w' ∧ w.grownBy w' v.ownBlock ∧ (v'.ownBlock = v.ownBlock ∨ v'.ownBlock = some w.heap.size) := by
  obtain ⟨i0, hi0, hz0, hz1, hz2⟩ := info_parts infoTe
  exact run_append_rows w _ ty _ i0 _ 2 16 fT_len (by decide) undTe hi0 hz0 hz1 hz2 rfl (by decide) base v u l r hrow hu hb hl
theorem append_tes {ops : Array Oper} {rest : List Oper} {o : Oper} {a : Act} {Q : Exit → Act → World → Prop} {w : World} (hgd : o.guard = none) (s x : Operand)
    (ho : o.op = .call { callee := .builtin .append, args := #[s, x], argTypes := #[22, 22] })
    (base : Nat) (v u : Value) (l r : List Te) (hs : a.eval s = v) (hrow : RowT base v l w) (hx : a.eval x = u) (hu : TesAt w u r) (hb : base ≤ w.heap.size) (hl : l.length + r.length ≤ 2000000)
    (h : ∀ v' w', RowT base v' (l ++ r) w' → w.grownBy w' v.ownBlock → (v'.ownBlock = v.ownBlock ∨ v'.ownBlock = some w.heap.size) → wpList Try.prog ops Q rest (a.put o.dst v') w') : wpList Try.prog ops Q (o :: rest) a w := by
  obtain ⟨v', w', h1, h2, h3, h4⟩ := run_append_tes w o.type base v u l r hrow hu hb hl
  exact Go.Lib.wpList_append_run_sl w hgd s x 22 ho _ _ hs hx h1 (h _ _ h2 h3 h4)
theorem rowT_lit0 {n₀ : Nat} (W : World) (h : n₀ ≤ W.heap.size) : RowT n₀ (.slice (some ⟨W.heap.size, 0, none⟩) 0 0) [] (W.alloc (.cells #[] 45)) := RowK.lit0 W _ _ _ h
set_option maxRecDepth 100000 in
set_option maxHeartbeats 2000000 in
theorem cloneT_any (v : Value) (l : List Te) (w : World) (hl : TesAt w v l) (hn : l.length ≤ 1000000) :
    Calls Try.prog 111 #[v] w fun e w' => ∃ u, e = .returned u ∧ RowT w.heap.size u l w' ∧ Ext w w' := by
  obtain ⟨ao, c, rfl, hc⟩ := hl.len
  have he := eqlTe
  cases ao with
  | none =>
    have h0 : l = [] := by
      cases l with
      | nil => rfl
      | cons x l => obtain ⟨b, o, h, _⟩ := hl.get 0 (by simp); cases h
    subst h0
    go_enter Try.func111, Try.ntmps111
    go_wp2_with fail
    go_ret
    exact ⟨_, rfl, RowK.nil _ _ _ _ _, Ext.refl _⟩
  | some ad =>
    go_enter Try.func111, Try.ntmps111
    go_wp2_with (at_builtin; refine append_tes rfl _ _ rfl w.heap.size _ _ [] l rfl (rowT_lit0 w (Nat.le_refl _)) rfl (hl.ext (by repeat (first | exact Ext.refl _ | assumption | refine Ext.alloc ?_ _ | refine Ext.drew ?_ | refine Ext.drewN _ ?_ | refine Ext.trans ?_ (by assumption)))) (by simp) (by simp; omega) ?_; intro v1 w3 hr3 hg3 _)
    rw [List.nil_append] at hr3
    have hx3 : Ext w w3 := ext_own (by repeat (first | exact Ext.refl _ | assumption | refine Ext.alloc ?_ _ | refine Ext.drew ?_ | refine Ext.drewN _ ?_ | refine Ext.trans ?_ (by assumption))) (rowT_lit0 w (Nat.le_refl _)) (Nat.le_refl _) hg3
    go_ret
    exact ⟨_, rfl, hr3, hx3⟩
/-! ### slots: an ID and a slice each -/
abbrev Sv := Int × Value
def encL (p : Sv) : List Value := [.int .i64 p.1, p.2]
def cellsL (l : List Sv) : List Value := l.flatMap encL
theorem cellsL_len (l : List Sv) : (cellsL l).length = l.length * 2 := by
  induction l with
  | nil => rfl
  | cons p l ih =>
    have : cellsL (p :: l) = encL p ++ cellsL l := rfl
    rw [this, List.length_append, ih, List.length_cons]
    show 2 + _ = _
    omega
theorem cellsL_append (l r : List Sv) : cellsL (l ++ r) = cellsL l ++ cellsL r := by simp [cellsL]
theorem cellsL_get : ∀ (l : List Sv) (i : Nat) (h : i < l.length), (cellsL l)[i * 2]? = some (.int .i64 l[i].1) ∧ (cellsL l)[i * 2 + 1]? = some l[i].2
  | [], i, h => by simp at h
  | p :: l, 0, _ => ⟨rfl, rfl⟩
  | p :: l, i + 1, h => by
    have e : cellsL (p :: l) = .int .i64 p.1 :: p.2 :: cellsL l := rfl
    have ih := cellsL_get l i (by simpa using h)
    rw [e, show (i + 1) * 2 = i * 2 + 1 + 1 by omega, show i * 2 + 1 + 1 + 1 = (i * 2 + 1) + 1 + 1 by omega]
    exact ih
theorem cellsL_set : ∀ (l : List Sv) (i : Nat) (h : i < l.length) (u : Value), cellsL (l.set i (l[i].1, u)) = (cellsL l).set (i * 2 + 1) u
  | [], i, h, _ => by simp at h
  | p :: l, 0, _, _ => rfl
  | p :: l, i + 1, h, u => by
    have e : cellsL (p :: l) = .int .i64 p.1 :: p.2 :: cellsL l := rfl
    have ih := cellsL_set l i (by simpa using h) u
    rw [e, show (i + 1) * 2 + 1 = (i * 2 + 1) + 1 + 1 by omega]
    show _ = Value.int .i64 p.1 :: p.2 :: (cellsL l).set (i * 2 + 1) u
    rw [← ih]
    rfl
/-- a row of the call's own of slots -/
def RowL (n₀ : Nat) (v : Value) (l : List Sv) (W : World) : Prop := W.ownsRow n₀ 48 2 v l.length (cellsL l)
section
variable {n₀ : Nat} {v : Value} {l : List Sv} {W W' : World}
theorem RowL.form (h : RowL n₀ v l W) : ∃ A c, v = .slice A l.length c := by
  rcases h.2 with ⟨rfl, h0⟩ | ⟨g, cap, cur, rfl, _⟩
  · exact ⟨none, 0, by rw [h0]⟩
  · exact ⟨_, _, rfl⟩
theorem RowL.ext (h : RowL n₀ v l W) (x : Ext W W') : RowL n₀ v l W' := World.ownsRow.kept h (grown_none x) (by cases v.ownBlock <;> simp)
theorem RowL.kept {row : Option Nat} (h : RowL n₀ v l W) (x : W.grownBy W' row) (hne : v.ownBlock = none ∨ v.ownBlock ≠ row) : RowL n₀ v l W' := World.ownsRow.kept h x hne
theorem RowL.lt (h : RowL n₀ v l W) : ∀ g, v.ownBlock = some g → n₀ ≤ g ∧ g < W.heap.size := World.ownsRow.lt h
theorem RowL.base {n₁ : Nat} (h : RowL n₀ v l W) (hb : n₁ ≤ n₀) : RowL n₁ v l W := by
  refine ⟨h.1, ?_⟩
  rcases h.2 with h0 | ⟨g, cap, cur, h0, h1, h2⟩
  · exact .inl h0
  · exact .inr ⟨g, cap, cur, h0, Nat.le_trans hb h1, h2⟩
theorem RowL.cls (h : RowL n₀ v l W) (h0 : 0 < l.length) : ∃ g c cs, v = .slice (some ⟨g, 0, none⟩) l.length c ∧ l.length ≤ c ∧ Cls g 48 cs W ∧ n₀ ≤ g := by
  rcases h.2 with ⟨rfl, h1⟩ | ⟨g, cap, cur, rfl, h1, h2, h3, _⟩
  · omega
  · exact ⟨g, cap, cur, rfl, h3, h2, h1⟩
theorem RowL.not (h : RowL n₀ v l W) {b : Nat} (hb : v.ownBlock = some b) : ∃ cs, Cls b 48 cs W := by
  rcases h.2 with ⟨rfl, _⟩ | ⟨g, cap, cur, rfl, _, h1, _⟩
  · cases hb
  · simp only [Value.ownBlock, Option.some.injEq] at hb
    subst hb
    exact ⟨_, h1⟩
theorem RowL.get {A : Option Addr} {n c : Nat} (h : RowL n₀ (.slice A n c) l W) (i : Nat) (hi : i < l.length) : ∃ g, A = some ⟨g, 0, none⟩ ∧ W.cell? ⟨g, i * 2, none⟩ = some (.int .i64 l[i].1) ∧ W.cell? ⟨g, i * 2 + 1, none⟩ = some l[i].2 := by
  obtain ⟨g, c', cs, hv, _, _, _⟩ := h.cls (by omega)
  simp only [Value.slice.injEq] at hv
  obtain ⟨rfl, rfl, rfl⟩ := hv
  have hc := World.ownsRow.cellAt (g := g) (cap := c) h
  obtain ⟨h1, h2⟩ := cellsL_get l i hi
  exact ⟨g, rfl, (hc (i * 2) (by omega)).trans h1, (hc (i * 2 + 1) (by omega)).trans h2⟩
theorem RowL.set {g c : Nat} (h : RowL n₀ (.slice (some ⟨g, 0, none⟩) l.length c) l W) (i : Nat) (hi : i < l.length) (u : Value) (_hu : u.oneCell' = true) :
    RowL n₀ (.slice (some ⟨g, 0, none⟩) l.length c) (l.set i (l[i].1, u)) (W.setCell ⟨g, i * 2 + 1, none⟩ u) := by
  have h1 := (World.ownsRow.stored h (i * 2 + 1) u).1
  unfold RowL
  rw [List.length_set, cellsL_set l i hi u]
  exact h1
theorem RowL.nil (n₀ : Nat) (W : World) : RowL n₀ (.slice none 0 0) [] W := World.ownsRow_nil _ _ _ _
theorem RowL.lit0 (W : World) (h : n₀ ≤ W.heap.size) : RowL n₀ (.slice (some ⟨W.heap.size, 0, none⟩) 0 0) [] (W.alloc (.cells #[] 48)) :=
  World.ownsRow_lit (base := n₀) (e := 48) (size := 2) W #[] 0 h (by decide) (by simp)
end
/-- the slots' cells as they lie -/
def SvAt (W : World) (v : Value) (l : List Sv) : Prop := ∃ ao c, v = .slice ao l.length c ∧ l.length ≤ c ∧ ∀ i (h : i < l.length), ∃ b o, ao = some ⟨b, o, none⟩ ∧ W.cell? ⟨b, o + i * 2, none⟩ = some (.int .i64 l[i].1) ∧ W.cell? ⟨b, o + i * 2 + 1, none⟩ = some l[i].2
/-- values that are the slots -/
def SvOk (W : World) (l : List Sv) (ss : List Sl) : Prop := l.length = ss.length ∧ ∀ i (h : i < l.length) (h' : i < ss.length), l[i].1 = ss[i].id ∧ IntsAt W l[i].2 ss[i].us
theorem SvOk.ext {W W' : World} {l : List Sv} {ss : List Sl} (h : SvOk W l ss) (x : Ext W W') : SvOk W' l ss := ⟨h.1, fun i h1 h2 => ⟨(h.2 i h1 h2).1, (h.2 i h1 h2).2.ext x⟩⟩
theorem SvOk.one {W : World} {l : List Sv} {ss : List Sl} (h : SvOk W l ss) : ∀ p ∈ l, p.2.oneCell' = true := fun p hp => by
  obtain ⟨i, hi, rfl⟩ := List.getElem_of_mem hp
  obtain ⟨ao, c, hv, _⟩ := (h.2 i hi (by have := h.1; omega)).2.len
  rw [hv]; rfl
theorem SlsAt.vals {W : World} {v : Value} {ss : List Sl} (h : SlsAt W v ss) : ∃ l, SvAt W v l ∧ SvOk W l ss := by
  obtain ⟨ao, c, hv, hc, hi⟩ := h
  obtain ⟨l, hl, hp⟩ := pickL (α := Sv) ss.length (fun i p => ∃ (h : i < ss.length), ∃ b o, ao = some ⟨b, o, none⟩ ∧ W.cell? ⟨b, o + i * 2, none⟩ = some (.int .i64 p.1) ∧ W.cell? ⟨b, o + i * 2 + 1, none⟩ = some p.2 ∧ p.1 = ss[i].id ∧ IntsAt W p.2 ss[i].us)
    (fun i h => by
      obtain ⟨b, o, u, h0, h1, h2, h3⟩ := hi i h
      exact ⟨(ss[i].id, u), h, b, o, h0, h1, h2, rfl, h3⟩)
  refine ⟨l, ⟨ao, c, by rw [hl]; exact hv, by rw [hl]; exact hc, fun i hi => ?_⟩, hl, fun i h1 h2 => ?_⟩
  · obtain ⟨_, b, o, h0, h1, h2, _⟩ := hp i hi
    exact ⟨b, o, h0, h1, h2⟩
  · obtain ⟨_, b, o, _, _, _, h3, h4⟩ := hp i h1
    exact ⟨h3, h4⟩
theorem SvAt.ext {W W' : World} {v : Value} {l : List Sv} (h : SvAt W v l) (x : Ext W W') : SvAt W' v l := by
  obtain ⟨ao, c, hv, hc, hi⟩ := h
  refine ⟨ao, c, hv, hc, fun i h => ?_⟩
  obtain ⟨b, o, h0, h1, h2⟩ := hi i h
  exact ⟨b, o, h0, x.cell h1, x.cell h2⟩
theorem SvAt.sls {W : World} {v : Value} {l : List Sv} {ss : List Sl} (h : SvAt W v l) (k : SvOk W l ss) : SlsAt W v ss := by
  obtain ⟨ao, c, hv, hc, hi⟩ := h
  refine ⟨ao, c, by rw [← k.1]; exact hv, by rw [← k.1]; exact hc, fun i h => ?_⟩
  have hl : i < l.length := by rw [k.1]; exact h
  obtain ⟨b, o, h0, h1, h2⟩ := hi i hl
  obtain ⟨h3, h4⟩ := k.2 i hl h
  exact ⟨b, o, _, h0, by rw [← h3]; exact h1, h2, h4⟩
theorem RowL.at_ {n₀ : Nat} {v : Value} {l : List Sv} {W : World} (h : RowL n₀ v l W) : SvAt W v l := by
  by_cases h0 : 0 < l.length
  · obtain ⟨g, c, cs, hv, hc, _, _⟩ := h.cls h0
    refine ⟨_, _, hv, hc, fun i hi => ?_⟩
    subst hv
    obtain ⟨g', he, h1, h2⟩ := h.get i hi
    simp only [Option.some.injEq, Addr.mk.injEq, and_true] at he
    subst he
    exact ⟨g, 0, rfl, by rw [Nat.zero_add]; exact h1, by rw [Nat.zero_add]; exact h2⟩
  · obtain ⟨A, c, hv⟩ := h.form
    rcases h.2 with ⟨hv2, _⟩ | ⟨g, cap, cur, hv2, _, _, h3, _⟩
    · exact ⟨none, 0, by rw [hv2, show l.length = 0 by omega], by omega, fun i hi => by omega⟩
    · exact ⟨_, _, hv2, h3, fun i hi => by omega⟩
theorem infoSt : (Try.prog.info? 48).map (fun i => (i.zero, i.size, i.bytes)) = some (some (.agg #[.int .i64 0, .slice none 0 0]), 2, 32) := by kernel_rfl
theorem undSt : (Try.prog).underlying 23 = some (.slice 48) := by kernel_rfl
theorem eqlSt (ao : Option Addr) (n c : Nat) (w : World) : (binOp .eql 23 (.slice ao n c) (.slice none 0 0)).run Try.prog w = .ok (.bool ao.isNone) w := Lib.run_eql_slice_nil w _ _ ao n c 0 0 undSt
theorem SvAt.cells {w : World} {ao : Option Addr} {c n : Nat} {l : List Sv} (h : SvAt w (.slice ao n c) l) (h0 : l.length ≠ 0) : ∃ ad, ao = some ad ∧ ∀ j u, (cellsL l)[j]? = some u → w.cell? (ad.add j) = some u := by
  obtain ⟨ao', c', hv, hc, hi⟩ := h
  simp only [Value.slice.injEq] at hv
  obtain ⟨rfl, rfl, rfl⟩ := hv
  obtain ⟨b, o, rfl, _⟩ := hi 0 (by omega)
  refine ⟨_, rfl, fun j u hj => ?_⟩
  have hjl : j < l.length * 2 := by
    have := (List.getElem?_eq_some_iff.1 hj).1
    rwa [cellsL_len] at this
  have hd : j / 2 < l.length := by omega
  obtain ⟨b2, o2, e, h1, h2⟩ := hi (j / 2) hd
  simp only [Option.some.injEq, Addr.mk.injEq, and_true] at e
  obtain ⟨rfl, rfl⟩ := e
  obtain ⟨g1, g2⟩ := cellsL_get l (j / 2) hd
  have ha : Addr.add ⟨b, o, none⟩ j = ⟨b, o + j, none⟩ := by simp only [Addr.add]; split <;> simp_all
  rw [ha]
  rcases Nat.mod_two_eq_zero_or_one j with hm | hm
  · have he : j = j / 2 * 2 := by omega
    rw [he] at hj ⊢
    rw [h1, ← Option.some.inj (hj.symm.trans g1)]
  · have he : j = j / 2 * 2 + 1 := by omega
    rw [he] at hj ⊢
    rw [← Nat.add_assoc, h2, ← Option.some.inj (hj.symm.trans g2)]
theorem cellsL_one {l : List Sv} (h : ∀ p ∈ l, p.2.oneCell' = true) : ∀ u ∈ cellsL l, u.oneCell' = true := by
  intro u hu
  unfold cellsL encL at hu
  rw [List.mem_flatMap] at hu
  obtain ⟨p, hp, hm⟩ := hu
  rcases List.mem_cons.1 hm with rfl | hm
  · rfl
  · rw [List.mem_singleton.1 hm]; exact h p hp
theorem run_append_sls (w : World) (ty : TypeId) (base : Nat) (v u : Value) (l r : List Sv) (hrow : RowL base v l w) (hu : SvAt w u r) (h1c : ∀ p ∈ r, p.2.oneCell' = true) (hb : base ≤ w.heap.size) (hl : l.length + r.length ≤ 1000000) :
    ∃ v' w', (Builtin.append_ #[23, 23] ty #[v, u]).run Try.prog w = .ok v' w' ∧ RowL base v' (l ++ r) w' ∧ w.grownBy w' v.ownBlock ∧ (v'.ownBlock = v.ownBlock ∨ v'.ownBlock = some w.heap.size) := by
  obtain ⟨i0, hi0, hz0, hz1, hz2⟩ := info_parts infoSt
  have hu' := hu
  obtain ⟨ao, c, rfl, hc, hi⟩ := hu
  by_cases hm : r.length = 0
  · have hn : r = [] := List.eq_nil_of_length_eq_zero hm
    subst hn
    have hsrc : Go.Src Try.prog i0.size 23 (.slice ao 0 c) 0 [] w := by
      cases ao with
      | none => exact Go.Src.ofNil w undSt c
      | some ad => exact Go.Src.ofSlice w undSt ad 0 c [] (by simp) (by simp) (by simp)
    rw [List.append_nil]
    have hown' := hrow
    obtain ⟨hxl, hf'⟩ := hown'
    rcases hf' with ⟨rfl, h0⟩ | ⟨g, cap, cur, rfl, hb, hcur, h4, h5, h6⟩
    · exact ⟨_, w, run_append_nothing w _ _ ty _ i0 undSt hi0 none 0 0 (Nat.le_refl _) _ hsrc, by have h := hrow; exact h, World.grownBy.refl _ _, .inl rfl⟩
    · exact ⟨_, w, run_append_nothing w _ _ ty _ i0 undSt hi0 _ _ cap h4 _ hsrc, hrow, World.grownBy.refl _ _, .inl rfl⟩
  · obtain ⟨ad, rfl, hcc⟩ := hu'.cells hm
    obtain ⟨v', w', h1, h2, h3, _, h4⟩ := run_append_own_at (P := Try.prog) w base 23 ty 48 i0 (.agg #[.int .i64 0, .slice none 0 0]) 2 32 undSt hi0 hz0 hz1 hz2 rfl (by decide) v l.length (cellsL l) hrow ad r.length c (cellsL r) (cellsL_len r) hcc (cellsL_one h1c) (by unfold maxLen; omega) (by omega) hb
    refine ⟨v', w', h1, ?_, h3, h4⟩
    unfold RowL
    rw [List.length_append, cellsL_append]
    exact h2
theorem append_sls {ops : Array Oper} {rest : List Oper} {o : Oper} {a : Act} {Q : Exit → Act → World → Prop} {w : World} (hgd : o.guard = none) (s x : Operand)
    (ho : o.op = .call { callee := .builtin .append, args := #[s, x], argTypes := #[23, 23] })
    (base : Nat) (v u : Value) (l r : List Sv) (hs : a.eval s = v) (hrow : RowL base v l w) (hx : a.eval x = u) (hu : SvAt w u r) (h1c : ∀ p ∈ r, p.2.oneCell' = true) (hb : base ≤ w.heap.size) (hl : l.length + r.length ≤ 1000000)
    (h : ∀ v' w', RowL base v' (l ++ r) w' → w.grownBy w' v.ownBlock → (v'.ownBlock = v.ownBlock ∨ v'.ownBlock = some w.heap.size) → wpList Try.prog ops Q rest (a.put o.dst v') w') : wpList Try.prog ops Q (o :: rest) a w := by
  obtain ⟨v', w', h1, h2, h3, h4⟩ := run_append_sls w o.type base v u l r hrow hu h1c hb hl
  exact Go.Lib.wpList_append_run_sl w hgd s x 23 ho _ _ hs hx h1 (h _ _ h2 h3 h4)
set_option maxRecDepth 100000 in
set_option maxHeartbeats 2000000 in
theorem cloneL_any (v : Value) (l : List Sv) (w : World) (hl : SvAt w v l) (h1c : ∀ p ∈ l, p.2.oneCell' = true) (hn : l.length ≤ 1000000) :
    Calls Try.prog 134 #[v] w fun e w' => ∃ u, e = .returned u ∧ RowL w.heap.size u l w' ∧ Ext w w' := by
  have hl' := hl
  obtain ⟨ao, c, rfl, hc, hi⟩ := hl
  have he := eqlSt
  cases ao with
  | none =>
    have h0 : l = [] := by
      cases l with
      | nil => rfl
      | cons x l => obtain ⟨b, o, h, _⟩ := hi 0 (by simp); cases h
    subst h0
    go_enter Try.func134, Try.ntmps134
    go_wp2_with fail
    go_ret
    exact ⟨_, rfl, RowL.nil _ _, Ext.refl _⟩
  | some ad =>
    go_enter Try.func134, Try.ntmps134
    go_wp2_with (at_builtin; refine append_sls rfl _ _ rfl w.heap.size _ _ [] l rfl (RowL.lit0 w (Nat.le_refl _)) rfl (hl'.ext (by repeat (first | exact Ext.refl _ | assumption | refine Ext.alloc ?_ _ | refine Ext.drew ?_ | refine Ext.drewN _ ?_ | refine Ext.trans ?_ (by assumption)))) h1c (by simp) (by simp; omega) ?_; intro v1 w3 hr3 hg3 _)
    rw [List.nil_append] at hr3
    have hx3 : Ext w w3 := ext_own (by repeat (first | exact Ext.refl _ | assumption | refine Ext.alloc ?_ _ | refine Ext.drew ?_ | refine Ext.drewN _ ?_ | refine Ext.trans ?_ (by assumption))) (RowL.lit0 w (Nat.le_refl _)) (Nat.le_refl _) hg3
    go_ret
    exact ⟨_, rfl, hr3, hx3⟩
end Go.Proofs.Ytiofdfjcaklmcaa
namespace Go.Proofs.Ytiofdfjcaklmcaa
open Go.RowKit Go.Shelf

/-- slots' values whose users are rows of the call's own -/
def UsO (n₀ : Nat) (W : World) (l : List Sv) (ss : List Sl) : Prop := l.length = ss.length ∧ ∀ i (h : i < l.length) (h' : i < ss.length), l[i].1 = ss[i].id ∧ RowI n₀ l[i].2 ss[i].us W
theorem UsO.ext {n₀ : Nat} {W W' : World} {l : List Sv} {ss : List Sl} (h : UsO n₀ W l ss) (x : Ext W W') : UsO n₀ W' l ss := ⟨h.1, fun i h1 h2 => ⟨(h.2 i h1 h2).1, rowI_ext (h.2 i h1 h2).2 x⟩⟩
theorem UsO.ok {n₀ : Nat} {W : World} {l : List Sv} {ss : List Sl} (h : UsO n₀ W l ss) : SvOk W l ss := ⟨h.1, fun i h1 h2 => ⟨(h.2 i h1 h2).1, (h.2 i h1 h2).2.at_⟩⟩
theorem UsO.base {n₀ n₁ : Nat} {W : World} {l : List Sv} {ss : List Sl} (h : UsO n₀ W l ss) (hb : n₁ ≤ n₀) : UsO n₁ W l ss := ⟨h.1, fun i h1 h2 => ⟨(h.2 i h1 h2).1, rowI_base (h.2 i h1 h2).2 hb⟩⟩
/-- a pool of the call's own -/
structure PoOwn (n₀ : Nat) (W : World) (a b : Value) (P : Po) : Prop where
  t : RowT n₀ a P.ts W
  s : ∃ l, RowL n₀ b l W ∧ UsO n₀ W l P.ss
theorem PoOwn.at_ {n₀ : Nat} {W : World} {a b : Value} {P : Po} (h : PoOwn n₀ W a b P) : PoAt W a b P := by
  obtain ⟨l, h1, h2⟩ := h.s
  exact ⟨h.t.at_, h1.at_.sls h2.ok⟩
theorem PoOwn.ext {n₀ : Nat} {W W' : World} {a b : Value} {P : Po} (h : PoOwn n₀ W a b P) (x : Ext W W') : PoOwn n₀ W' a b P := by
  obtain ⟨l, h1, h2⟩ := h.s
  exact ⟨h.t.ext x, l, h1.ext x, h2.ext x⟩
theorem PoOwn.base {n₀ n₁ : Nat} {W : World} {a b : Value} {P : Po} (h : PoOwn n₀ W a b P) (hb : n₁ ≤ n₀) : PoOwn n₁ W a b P := by
  obtain ⟨l, h1, h2⟩ := h.s
  exact ⟨RowK.base h.t hb, l, h1.base hb, h2.base hb⟩
theorem grown_set (W : World) (g j : Nat) (u : Value) : W.grownBy (W.setCell ⟨g, j, none⟩ u) (some g) :=
  ⟨rfl, rfl, rfl, by simp [World.setCell], fun i _ hi => Below.heap_setCell W ⟨g, j, none⟩ u i (fun e => hi (by rw [e]))⟩
theorem rowI_setL {n₀ : Nat} {v : Value} {l : List Int} {W : World} {g j : Nat} {cs : Array Value} {u : Value} (h : RowI n₀ v l W) (hg : Cls g 48 cs W) : RowI n₀ v l (W.setCell ⟨g, j, none⟩ u) :=
  rowI_kept h (grown_set W g j u) (rowI_ne h hg (by decide))
theorem rowT_setL {n₀ : Nat} {v : Value} {l : List Te} {W : World} {g j : Nat} {cs : Array Value} {u : Value} (h : RowT n₀ v l W) (hg : Cls g 48 cs W) : RowT n₀ v l (W.setCell ⟨g, j, none⟩ u) := by
  refine RowK.kept h (grown_set W g j u) ?_
  rcases h.2 with ⟨rfl, _⟩ | ⟨r, cap, cur, rfl, _, h1, _⟩
  · exact .inl rfl
  · refine .inr fun e => ?_
    simp only [Value.ownBlock, Option.some.injEq] at e
    subst e
    exact absurd (cls_uniq hg (show Cls r _ _ W from h1)) (by decide)
theorem rowK_setC {α : Type} {e : TypeId} {f : α → List Int} {k n₀ : Nat} {v : Value} {l : List α} {W : World} {B j : Nat} {t : TypeId} {cs : Array Value} {u : Value} (h : RowK e f k n₀ v l W) (hc : Cls B t cs W) (hne : t ≠ e) : RowK e f k n₀ v l (W.setCell ⟨B, j, none⟩ u) := by
  refine RowK.kept h (grown_set W B j u) ?_
  have := h.neCls hc hne
  exact .inr (fun e => this e.symm)
theorem RowL.setC {n₀ : Nat} {v : Value} {l : List Sv} {W : World} {B j : Nat} {t : TypeId} {cs : Array Value} {u : Value} (h : RowL n₀ v l W) (hc : Cls B t cs W) (hne : t ≠ 48) : RowL n₀ v l (W.setCell ⟨B, j, none⟩ u) := by
  refine h.kept (grown_set W B j u) ?_
  cases hq : v.ownBlock with
  | none => exact .inl rfl
  | some r =>
    refine .inr fun e => ?_
    obtain ⟨cs', h2⟩ := h.not (hq.trans e)
    exact hne (cls_uniq hc h2)
theorem UsO.setC {n₀ : Nat} {l : List Sv} {ss : List Sl} {W : World} {B j : Nat} {t : TypeId} {cs : Array Value} {u : Value} (h : UsO n₀ W l ss) (hc : Cls B t cs W) (hne : t ≠ 3) : UsO n₀ (W.setCell ⟨B, j, none⟩ u) l ss :=
  ⟨h.1, fun i h1 h2 => ⟨(h.2 i h1 h2).1, rowI_kept (h.2 i h1 h2).2 (grown_set W B j u) (rowI_ne (h.2 i h1 h2).2 hc hne)⟩⟩
theorem PoOwn.setC {n₀ : Nat} {W : World} {a b : Value} {P : Po} {B j : Nat} {t : TypeId} {cs : Array Value} {u : Value} (h : PoOwn n₀ W a b P) (hc : Cls B t cs W) (h1 : t ≠ 45) (h2 : t ≠ 48) (h3 : t ≠ 3) : PoOwn n₀ (W.setCell ⟨B, j, none⟩ u) a b P := by
  obtain ⟨l, k1, k2⟩ := h.s
  exact ⟨rowK_setC h.t hc h1, l, k1.setC hc h2, k2.setC hc h3⟩

theorem PoOwn.setU {n₀ : Nat} {W : World} {a : Value} {g c : Nat} {P : Po} (h : PoOwn n₀ W a (.slice (some ⟨g, 0, none⟩) P.ss.length c) P) {i : Nat} (hi : i < P.ss.length) {u : Value} {us : List Int} (hu : RowI n₀ u us W) :
    PoOwn n₀ (W.setCell ⟨g, i * 2 + 1, none⟩ u) a (.slice (some ⟨g, 0, none⟩) P.ss.length c) (setU P i us) := by
  obtain ⟨l, h1, h2⟩ := h.s
  have hll := h2.1
  rw [← hll] at h1 ⊢
  obtain ⟨g', c', cs, hv, _, hc, _⟩ := h1.cls (by omega)
  simp only [Value.slice.injEq, Option.some.injEq, Addr.mk.injEq, and_true, true_and] at hv
  obtain ⟨rfl, _⟩ := hv
  have h1c : u.oneCell' = true := by obtain ⟨A, k, hv⟩ := hu.form; rw [hv]; rfl
  have hil : i < l.length := by omega
  refine ⟨rowT_setL h.t hc, l.set i (l[i].1, u), h1.set i hil u h1c, by simp [Go.Proofs.Ytiofdfjcaklmcaa.setU, hll], fun j hj hj' => ?_⟩
  rw [List.length_set] at hj
  have hj2 : j < P.ss.length := by omega
  have e2 : (Go.Proofs.Ytiofdfjcaklmcaa.setU P i us).ss[j] = if i = j then ⟨sid P i, us⟩ else P.ss[j] := List.getElem_set (l := P.ss) (a := ⟨sid P i, us⟩) hj'
  rw [List.getElem_set, e2]
  by_cases e : i = j
  · subst e
    simp only 
    exact ⟨by rw [sid_at hi]; exact (h2.2 i hil hi).1, rowI_setL hu hc⟩
  · simp only [if_neg e]
    exact ⟨(h2.2 j hj hj2).1, rowI_setL (h2.2 j hj hj2).2 hc⟩

set_option maxRecDepth 100000 in
set_option maxHeartbeats 8000000 in
theorem copied_any (a b : Value) (P : Po) (w : World) (hT : PoAt w a b P) (hlt : P.ts.length ≤ 100000) (hls : P.ss.length ≤ 100000) (hul : ∀ s ∈ P.ss, s.us.length ≤ 100000) :
    Calls Try.prog 104 #[.agg #[a, b]] w fun e w' => ∃ u1 u2, e = .returned (.agg #[u1, u2]) ∧ PoOwn w.heap.size w' u1 u2 P ∧ Ext w w' := by
  obtain ⟨l, hv, hok⟩ := hT.s.vals
  obtain ⟨aa, ca, rfl, hla⟩ := hT.t.len
  have hll := hok.1
  have h1c := hok.one
  have KT := fun W (x : Ext w W) => cloneT_any _ P.ts W (hT.t.ext x) (by omega)
  have KL := fun W (x : Ext w W) => cloneL_any b l W (hv.ext x) h1c (by omega)
  obtain ⟨ab, cb, rfl, hlb, _⟩ := hv
  have HKT := Lib.hid KT
  have HKL := Lib.hid KL
  have HLL := Lib.hid hll
  have hll1 : l.length ≤ 100000 := by omega
  clear KT KL hll
  go_enter Try.func104, Try.ntmps104
  obtain ⟨Y, hY⟩ : ∃ Y, (w.alloc (.cells #[.slice aa P.ts.length ca, .slice ab l.length cb] 25)).alloc (.cells #[.slice none 0 0, .slice none 0 0] 25) = Y := ⟨_, rfl⟩
  obtain ⟨q0, q1, hx, hk1⟩ := alloc2 (w := w) (w1 := Y) (by rw [hY]; exact Ext.refl _)
  go_upto_region 1 with fail
  try rw [hY]
  clear hY
  have d0 : Y.cell? ⟨w.heap.size, 0, none⟩ = some (.slice aa P.ts.length ca) := q0.cell 0
  have d1 : Y.cell? ⟨w.heap.size, 1, none⟩ = some (.slice ab l.length cb) := q0.cell 1
  go_cut [3] (fun pv W => ∃ (B3 : Nat) (v1 : Value) (vA : Option Addr) (vc : Nat), pv = .pointer (some ⟨B3, 0, none⟩) ∧ Cls B3 25 #[v1, .slice vA l.length vc] W ∧ RowT w.heap.size v1 P.ts W ∧ RowL w.heap.size (.slice vA l.length vc) l W ∧ Cls (w.heap.size + 1) 25 #[.slice none 0 0, .slice none 0 0] W ∧ Ext w W ∧ w.heap.size + 1 < B3)
  case first =>
    refine wp_region_last (z := 8) (S := fun W' => W'.cell? ⟨w.heap.size, 0, none⟩ = some (.slice aa P.ts.length ca) ∧ W'.cell? ⟨w.heap.size, 1, none⟩ = some (.slice ab l.length cb) ∧ Ext Y W') (by kernel_rfl) ?_ (fun hHeld => ?_)
    · exact ⟨d0, d1, Ext.drew (Ext.refl _)⟩
    obtain ⟨V0, hV0⟩ : ∃ V, World.drew Y = V := ⟨_, rfl⟩
    rw [hV0] at hHeld ⊢
    clear hV0
    (refine tkL (i := 0) (v := ?_) rfl ?_ ?_; rotate_left 1; (focus (intro w hSw; (try dsimp only at hSw); go_simp; try (with_reducible rfl))))
    try simp only [Act.put, xA1, xA2, xA4, xA5, xA6]
    (refine tkL (i := 1) (v := ?_) rfl ?_ ?_; rotate_left 1; (focus (intro w hSw; (try dsimp only at hSw); go_simp; try (with_reducible rfl))))
    try simp only [Act.put, xA1, xA2, xA3, xA4, xA5, xA6]
    (refine tkL (i := 3) (v := ?_) rfl ?_ ?_; rotate_left 1; (focus (intro w hSw; (try dsimp only at hSw); go_simp; try (with_reducible rfl))))
    try simp only [Act.put, xA1, xA2, xA3, xA4, xA5, xA6]
    (refine tkL (i := 4) (v := ?_) rfl ?_ ?_; rotate_left 1; (focus (intro w hSw; (try dsimp only at hSw); go_simp; try (with_reducible rfl))))
    try simp only [Act.put, xA1, xA2, xA3, xA4, xA5, xA6]
    refine wpAnyL_two (i := 2) (j := 7) (by kernel_rfl) rfl rfl (fun K hK => ?_) (fun K hK => ?_)
    · skip
      go_simp
      go_at_call 111; refine (HKT.out V0 (hx.trans hHeld.2.2)).mono ?_; rintro e V1 ⟨t1, rfl, hrt, hz⟩
      have hVs := hHeld.2.2.size
      refine hK.out _ _ (fun _ => ?_) (fun hHeld => ?_)
      · exact ⟨Ext.cell hz hHeld.1, Ext.cell hz hHeld.2.1, hHeld.2.2.trans hz⟩
      replace hHeld := hHeld (by decide)
      clear hK K
      obtain ⟨tA, tc, htv⟩ := RowK.form hrt
      subst htv
      replace hrt := RowK.base hrt (Nat.le_trans hx.size hVs)
      (try replace hbox := hbox.ext hz)
      clear hVs
      clear hz
      try simp only [Act.put, xA1, xA2, xA3, xA4, xA5, xA6]
      refine wpAnyL_two (i := 5) (j := 7) (by kernel_rfl) rfl rfl (fun K hK => ?_) (fun K hK => ?_)
      · skip
        go_simp
        go_at_call 134; refine (HKL.out V1 (hx.trans hHeld.2.2)).mono ?_; rintro e V2 ⟨t2, rfl, hrl, hz⟩
        have hVs := hHeld.2.2.size
        refine hK.out _ _ (fun _ => ?_) (fun hHeld => ?_)
        · exact ⟨Ext.cell hz hHeld.1, Ext.cell hz hHeld.2.1, hHeld.2.2.trans hz⟩
        replace hHeld := hHeld (by decide)
        clear hK K
        obtain ⟨sA, sc, hsv⟩ := hrl.form
        subst hsv
        replace hrl := hrl.base (Nat.le_trans hx.size hVs)
        replace hrt := RowT.ext hrt hz
        (try replace hbox := hbox.ext hz)
        clear hVs
        clear hz
        try simp only [Act.put, xA1, xA2, xA3, xA4, xA5, xA6]
        (refine tkL (i := 6) (v := ?_) rfl ?_ ?_; rotate_left 1; (focus (intro w hSw; (try dsimp only at hSw); go_simp; try (with_reducible rfl))))
        try simp only [Act.put, xA1, xA2, xA3, xA4, xA5, xA6]
        refine wpAnyL_one (i := 7) (by kernel_rfl) rfl (fun K hK => ?_)
        go_simp
        obtain ⟨B3, hB3⟩ : ∃ N, V2.heap.size = N := ⟨_, rfl⟩
        have hB3s : w.heap.size + 1 < B3 := by rw [← hB3]; have h1 := hHeld.2.2.size; omega
        obtain ⟨V3, hN⟩ : ∃ X, V2.alloc (.cells #[.slice none 0 0, .slice none 0 0] 25) = X := ⟨_, rfl⟩
        have hz : Ext V2 V3 := by rw [← hN]; exact (by repeat (first | exact Ext.refl _ | assumption | refine Ext.alloc ?_ _ | refine Ext.drew ?_ | refine Ext.drewN _ ?_ | refine Ext.trans ?_ (by assumption)))
        have hbox : Cls B3 25 #[.slice none 0 0, .slice none 0 0] V3 := by rw [← hN]; exact Cls.newAt _ _ _ hB3.symm
        rw [hN, hB3]
        refine hK.out _ _ (fun _ => ?_) (fun hHeld => ?_)
        · exact ⟨Ext.cell hz hHeld.1, Ext.cell hz hHeld.2.1, hHeld.2.2.trans hz⟩
        replace hHeld := hHeld (by decide)
        clear hK K
        clear hN hB3
        (try replace hrt := RowT.ext hrt hz)
        (try replace hrl := hrl.ext hz)
        clear hz
        try simp only [Act.put, xA1, xA2, xA3, xA4, xA5, xA6]
        refine wpAnyL_one (i := 8) (by kernel_rfl) rfl (fun K hK => ?_)
        have k0 := hbox.frozen 0
        have k1 := hbox.frozen 1
        have k2 := hbox.cell 0
        have k3 := hbox.cell 1
        go_simp
        refine hK.out _ _ (fun h => absurd rfl h) (fun _ => ?_)
        clear hK K
        try simp only [Act.put, xA1, xA2, xA3, xA4, xA5, xA6]
        refine wpAnyL_done (by kernel_rfl) ?_ _
        have hb2 := (hbox.set 0 (.slice tA P.ts.length tc)).set 1 (.slice sA l.length sc)
        have hrt2 := rowK_setC (j := 1) (u := .slice sA l.length sc) (rowK_setC (j := 0) (u := .slice tA P.ts.length tc) hrt hbox (by decide)) (hbox.set 0 _) (by decide)
        have hrl2 := RowL.setC (j := 1) (u := .slice sA l.length sc) (RowL.setC (j := 0) (u := .slice tA P.ts.length tc) hrl hbox (by decide)) (hbox.set 0 _) (by decide)
        have hq2 := ((q1.ext hHeld.2.2).other (B' := B3) (by omega) 0 (.slice tA P.ts.length tc)).other (B' := B3) (by omega) 1 (.slice sA l.length sc)
        have hx2 := (((hx.trans hHeld.2.2).setCell (p := ⟨B3, 0, none⟩) (by simp; omega) (.slice tA P.ts.length tc))).setCell (p := ⟨B3, 1, none⟩) (by simp; omega) (.slice sA l.length sc)
        go_wp2_with fail
        go_meet
        case rel => exact ⟨B3, _, _, _, rfl, hb2, hrt2, hrl2, hq2, hx2, hB3s⟩
      · skip
        go_simp
        obtain ⟨B3, hB3⟩ : ∃ N, V1.heap.size = N := ⟨_, rfl⟩
        have hB3s : w.heap.size + 1 < B3 := by rw [← hB3]; have h1 := hHeld.2.2.size; omega
        obtain ⟨V2, hN⟩ : ∃ X, V1.alloc (.cells #[.slice none 0 0, .slice none 0 0] 25) = X := ⟨_, rfl⟩
        have hz : Ext V1 V2 := by rw [← hN]; exact (by repeat (first | exact Ext.refl _ | assumption | refine Ext.alloc ?_ _ | refine Ext.drew ?_ | refine Ext.drewN _ ?_ | refine Ext.trans ?_ (by assumption)))
        have hbox : Cls B3 25 #[.slice none 0 0, .slice none 0 0] V2 := by rw [← hN]; exact Cls.newAt _ _ _ hB3.symm
        rw [hN, hB3]
        refine hK.out _ _ (fun _ => ?_) (fun hHeld => ?_)
        · exact ⟨Ext.cell hz hHeld.1, Ext.cell hz hHeld.2.1, hHeld.2.2.trans hz⟩
        replace hHeld := hHeld (by decide)
        clear hK K
        clear hN hB3
        (try replace hrt := RowT.ext hrt hz)
        (try replace hrl := hrl.ext hz)
        clear hz
        try simp only [Act.put, xA1, xA2, xA3, xA4, xA5, xA6]
        refine wpAnyL_one (i := 5) (by kernel_rfl) rfl (fun K hK => ?_)
        go_simp
        go_at_call 134; refine (HKL.out V2 (hx.trans hHeld.2.2)).mono ?_; rintro e V3 ⟨t2, rfl, hrl, hz⟩
        have hVs := hHeld.2.2.size
        refine hK.out _ _ (fun _ => ?_) (fun hHeld => ?_)
        · exact ⟨Ext.cell hz hHeld.1, Ext.cell hz hHeld.2.1, hHeld.2.2.trans hz⟩
        replace hHeld := hHeld (by decide)
        clear hK K
        obtain ⟨sA, sc, hsv⟩ := hrl.form
        subst hsv
        replace hrl := hrl.base (Nat.le_trans hx.size hVs)
        replace hrt := RowT.ext hrt hz
        (try replace hbox := hbox.ext hz)
        clear hVs
        clear hz
        try simp only [Act.put, xA1, xA2, xA3, xA4, xA5, xA6]
        (refine tkL (i := 6) (v := ?_) rfl ?_ ?_; rotate_left 1; (focus (intro w hSw; (try dsimp only at hSw); go_simp; try (with_reducible rfl))))
        try simp only [Act.put, xA1, xA2, xA3, xA4, xA5, xA6]
        refine wpAnyL_one (i := 8) (by kernel_rfl) rfl (fun K hK => ?_)
        have k0 := hbox.frozen 0
        have k1 := hbox.frozen 1
        have k2 := hbox.cell 0
        have k3 := hbox.cell 1
        go_simp
        refine hK.out _ _ (fun h => absurd rfl h) (fun _ => ?_)
        clear hK K
        try simp only [Act.put, xA1, xA2, xA3, xA4, xA5, xA6]
        refine wpAnyL_done (by kernel_rfl) ?_ _
        have hb2 := (hbox.set 0 (.slice tA P.ts.length tc)).set 1 (.slice sA l.length sc)
        have hrt2 := rowK_setC (j := 1) (u := .slice sA l.length sc) (rowK_setC (j := 0) (u := .slice tA P.ts.length tc) hrt hbox (by decide)) (hbox.set 0 _) (by decide)
        have hrl2 := RowL.setC (j := 1) (u := .slice sA l.length sc) (RowL.setC (j := 0) (u := .slice tA P.ts.length tc) hrl hbox (by decide)) (hbox.set 0 _) (by decide)
        have hq2 := ((q1.ext hHeld.2.2).other (B' := B3) (by omega) 0 (.slice tA P.ts.length tc)).other (B' := B3) (by omega) 1 (.slice sA l.length sc)
        have hx2 := (((hx.trans hHeld.2.2).setCell (p := ⟨B3, 0, none⟩) (by simp; omega) (.slice tA P.ts.length tc))).setCell (p := ⟨B3, 1, none⟩) (by simp; omega) (.slice sA l.length sc)
        go_wp2_with fail
        go_meet
        case rel => exact ⟨B3, _, _, _, rfl, hb2, hrt2, hrl2, hq2, hx2, hB3s⟩
    · skip
      go_simp
      obtain ⟨B3, hB3⟩ : ∃ N, V0.heap.size = N := ⟨_, rfl⟩
      have hB3s : w.heap.size + 1 < B3 := by rw [← hB3]; have h1 := hHeld.2.2.size; omega
      obtain ⟨V1, hN⟩ : ∃ X, V0.alloc (.cells #[.slice none 0 0, .slice none 0 0] 25) = X := ⟨_, rfl⟩
      have hz : Ext V0 V1 := by rw [← hN]; exact (by repeat (first | exact Ext.refl _ | assumption | refine Ext.alloc ?_ _ | refine Ext.drew ?_ | refine Ext.drewN _ ?_ | refine Ext.trans ?_ (by assumption)))
      have hbox : Cls B3 25 #[.slice none 0 0, .slice none 0 0] V1 := by rw [← hN]; exact Cls.newAt _ _ _ hB3.symm
      rw [hN, hB3]
      refine hK.out _ _ (fun _ => ?_) (fun hHeld => ?_)
      · exact ⟨Ext.cell hz hHeld.1, Ext.cell hz hHeld.2.1, hHeld.2.2.trans hz⟩
      replace hHeld := hHeld (by decide)
      clear hK K
      clear hN hB3
      (try replace hrt := RowT.ext hrt hz)
      (try replace hrl := hrl.ext hz)
      clear hz
      try simp only [Act.put, xA1, xA2, xA3, xA4, xA5, xA6]
      refine wpAnyL_one (i := 2) (by kernel_rfl) rfl (fun K hK => ?_)
      go_simp
      go_at_call 111; refine (HKT.out V1 (hx.trans hHeld.2.2)).mono ?_; rintro e V2 ⟨t1, rfl, hrt, hz⟩
      have hVs := hHeld.2.2.size
      refine hK.out _ _ (fun _ => ?_) (fun hHeld => ?_)
      · exact ⟨Ext.cell hz hHeld.1, Ext.cell hz hHeld.2.1, hHeld.2.2.trans hz⟩
      replace hHeld := hHeld (by decide)
      clear hK K
      obtain ⟨tA, tc, htv⟩ := RowK.form hrt
      subst htv
      replace hrt := RowK.base hrt (Nat.le_trans hx.size hVs)
      (try replace hbox := hbox.ext hz)
      clear hVs
      clear hz
      try simp only [Act.put, xA1, xA2, xA3, xA4, xA5, xA6]
      refine wpAnyL_one (i := 5) (by kernel_rfl) rfl (fun K hK => ?_)
      go_simp
      go_at_call 134; refine (HKL.out V2 (hx.trans hHeld.2.2)).mono ?_; rintro e V3 ⟨t2, rfl, hrl, hz⟩
      have hVs := hHeld.2.2.size
      refine hK.out _ _ (fun _ => ?_) (fun hHeld => ?_)
      · exact ⟨Ext.cell hz hHeld.1, Ext.cell hz hHeld.2.1, hHeld.2.2.trans hz⟩
      replace hHeld := hHeld (by decide)
      clear hK K
      obtain ⟨sA, sc, hsv⟩ := hrl.form
      subst hsv
      replace hrl := hrl.base (Nat.le_trans hx.size hVs)
      replace hrt := RowT.ext hrt hz
      (try replace hbox := hbox.ext hz)
      clear hVs
      clear hz
      try simp only [Act.put, xA1, xA2, xA3, xA4, xA5, xA6]
      (refine tkL (i := 6) (v := ?_) rfl ?_ ?_; rotate_left 1; (focus (intro w hSw; (try dsimp only at hSw); go_simp; try (with_reducible rfl))))
      try simp only [Act.put, xA1, xA2, xA3, xA4, xA5, xA6]
      refine wpAnyL_one (i := 8) (by kernel_rfl) rfl (fun K hK => ?_)
      have k0 := hbox.frozen 0
      have k1 := hbox.frozen 1
      have k2 := hbox.cell 0
      have k3 := hbox.cell 1
      go_simp
      refine hK.out _ _ (fun h => absurd rfl h) (fun _ => ?_)
      clear hK K
      try simp only [Act.put, xA1, xA2, xA3, xA4, xA5, xA6]
      refine wpAnyL_done (by kernel_rfl) ?_ _
      have hb2 := (hbox.set 0 (.slice tA P.ts.length tc)).set 1 (.slice sA l.length sc)
      have hrt2 := rowK_setC (j := 1) (u := .slice sA l.length sc) (rowK_setC (j := 0) (u := .slice tA P.ts.length tc) hrt hbox (by decide)) (hbox.set 0 _) (by decide)
      have hrl2 := RowL.setC (j := 1) (u := .slice sA l.length sc) (RowL.setC (j := 0) (u := .slice tA P.ts.length tc) hrl hbox (by decide)) (hbox.set 0 _) (by decide)
      have hq2 := ((q1.ext hHeld.2.2).other (B' := B3) (by omega) 0 (.slice tA P.ts.length tc)).other (B' := B3) (by omega) 1 (.slice sA l.length sc)
      have hx2 := (((hx.trans hHeld.2.2).setCell (p := ⟨B3, 0, none⟩) (by simp; omega) (.slice tA P.ts.length tc))).setCell (p := ⟨B3, 1, none⟩) (by simp; omega) (.slice sA l.length sc)
      go_wp2_with fail
      go_meet
      case rel => exact ⟨B3, _, _, _, rfl, hb2, hrt2, hrl2, hq2, hx2, hB3s⟩
  case rest =>
    obtain ⟨B3, v1, vA, vc, rfl, hb3, hr1, hr2, hq1, hx3, hB3⟩ := hcut
    have e1 : wc.cell? ⟨B3, 1, none⟩ = some (.slice vA l.length vc) := hb3.cell 1
    have HR1 : Hid (∃ l', l'.length = l.length ∧ RowL w.heap.size (.slice vA l.length vc) l' wc ∧ ∀ i (h : i < l'.length) (h' : i < l.length) (h'' : i < P.ss.length), l'[i].1 = P.ss[i].id ∧ (i < 0 → RowI w.heap.size l'[i].2 P.ss[i].us wc) ∧ (0 ≤ i → l'[i].2 = l[i].2)) :=
      Lib.hid ⟨l, rfl, hr2, fun i h h' h'' => ⟨(hok.2 i h h'').1, fun h => by omega, fun _ => rfl⟩⟩
    clear hr2 d0 d1 q0 q1 hx hk1
    go_wp2_with fail
    go_loopw [15] (fun i wr => ∃ k : Nat, k ≤ l.length ∧ i = .int .i64 k ∧ Hid (∃ l', l'.length = l.length ∧ RowL w.heap.size (.slice vA l.length vc) l' wr ∧ ∀ i (h : i < l'.length) (h' : i < l.length) (h'' : i < P.ss.length), l'[i].1 = P.ss[i].id ∧ (i < k → RowI w.heap.size l'[i].2 P.ss[i].us wr) ∧ (k ≤ i → l'[i].2 = l[i].2)) ∧ RowT w.heap.size v1 P.ts wr ∧ Cls B3 25 #[v1, .slice vA l.length vc] wr ∧ Cls (w.heap.size + 1) 25 #[.slice none 0 0, .slice none 0 0] wr ∧ Ext w wr) (fun i _ => l.length - (intOf i).toNat)
    case atStart => exact ⟨0, Nat.zero_le _, rfl, HR1, hr1, hb3, hq1, hx3⟩
    case round =>
      clear HR1 hr1 hb3 hq1 hx3 e1
      obtain ⟨k, hk, rfl, HR, hr1, hb3, hq1, hx⟩ := hrel
      have e0 : wr.cell? ⟨B3, 0, none⟩ = some v1 := hb3.cell 0
      have e1 : wr.cell? ⟨B3, 1, none⟩ = some (.slice vA l.length vc) := hb3.cell 1
      by_cases hlk : k < l.length
      · have hks : k < P.ss.length := by have := HLL.out; omega
        obtain ⟨l', hl1, hr2, hu⟩ := HR.out
        have hrl := hr2
        rw [← hl1] at hrl
        obtain ⟨g, c, cs, hvv, hgl, hgc, hgb⟩ := hrl.cls (by omega)
        simp only [Value.slice.injEq] at hvv
        obtain ⟨rfl, _, rfl⟩ := hvv
        have hlk1 : k < l'.length := by omega
        obtain ⟨g', hge, c0, c1⟩ := hrl.get k hlk1
        simp only [Option.some.injEq, Addr.mk.injEq, and_true] at hge
        subst hge
        have huk := hu k hlk1 hlk hks
        have hIA := (hok.2 k hlk hks).2
        have hul1 := hul _ (List.getElem_mem hks)
        rw [← huk.2.2 (Nat.le_refl _)] at hIA
        obtain ⟨uk, huk0⟩ : ∃ uk, l'[k].2 = uk := ⟨_, rfl⟩
        rw [huk0] at hIA c1
        have KU := fun W (x : Ext w W) => cloneI_any uk P.ss[k].us W (hIA.ext x) (by omega)
        obtain ⟨uA, uc, hue, _⟩ := hIA.len
        have HKU := Lib.hid KU
        have HU := Lib.hid hu
        have HRL := Lib.hid hrl
        have HL1 := Lib.hid hl1
        have hkl : (k : Int) < l.length := by omega
        clear huk huk0 KU hIA HR hr2 hu hrl hl1
        subst hue
        go_upto_region 5 with fail
        refine wp_region_last (z := 12) (S := fun W' => W'.cell? ⟨B3, 1, none⟩ = some (.slice (some ⟨g, 0, none⟩) l.length vc) ∧ W'.cell? ⟨g, k * 2 + 1, none⟩ = some (.slice uA P.ss[k].us.length uc) ∧ Ext wr W') (by kernel_rfl) ?_ (fun hHeld => ?_)
        · exact ⟨e1, c1, Ext.drew (Ext.refl _)⟩
        obtain ⟨V0, hV0⟩ : ∃ V, World.drew wr = V := ⟨_, rfl⟩
        rw [hV0] at hHeld ⊢
        clear hV0
        (refine tkL (i := 0) (v := ?_) rfl ?_ ?_; rotate_left 1; (focus (intro w hSw; (try dsimp only at hSw); go_simp; try (with_reducible rfl))))
        try simp only [Act.put, xA1, xA2, xA4, xA5, xA6]
        (refine tkL (i := 1) (v := ?_) rfl ?_ ?_; rotate_left 1; (focus (intro w hSw; (try dsimp only at hSw); go_simp; try (with_reducible rfl))))
        try simp only [Act.put, xA1, xA2, xA3, xA4, xA5, xA6]
        (refine tkL (i := 2) (v := ?_) rfl ?_ ?_; rotate_left 1; (focus (intro w hSw; (try dsimp only at hSw); go_simp; try (with_reducible rfl))))
        try simp only [Act.put, xA1, xA2, xA3, xA4, xA5, xA6]
        (refine tkL (i := 3) (v := ?_) rfl ?_ ?_; rotate_left 1; (focus (intro w hSw; (try dsimp only at hSw); go_simp; try (with_reducible rfl))))
        try simp only [Act.put, xA1, xA2, xA3, xA4, xA5, xA6]
        (refine tkL (i := 4) (v := ?_) rfl ?_ ?_; rotate_left 1; (focus (intro w hSw; (try dsimp only at hSw); go_simp; try (with_reducible rfl))))
        try simp only [Act.put, xA1, xA2, xA3, xA4, xA5, xA6]
        (refine tkL (i := 5) (v := ?_) rfl ?_ ?_; rotate_left 1; (focus (intro w hSw; (try dsimp only at hSw); go_simp; try (with_reducible rfl))))
        try simp only [Act.put, xA1, xA2, xA3, xA4, xA5, xA6]
        (refine tkL (i := 6) (v := ?_) rfl ?_ ?_; rotate_left 1; (focus (intro w hSw; (try dsimp only at hSw); go_simp; try (with_reducible rfl))))
        try simp only [Act.put, xA1, xA2, xA3, xA4, xA5, xA6]
        (refine tkL (i := 7) (v := ?_) rfl ?_ ?_; rotate_left 1; (focus (intro w hSw; (try dsimp only at hSw); go_simp; try (with_reducible rfl))))
        try simp only [Act.put, xA1, xA2, xA3, xA4, xA5, xA6]
        (refine tkL (i := 8) (v := ?_) rfl ?_ ?_; rotate_left 1; (focus (intro w hSw; (try dsimp only at hSw); go_simp; try (with_reducible rfl))))
        try simp only [Act.put, xA1, xA2, xA3, xA4, xA5, xA6]
        refine wpAnyL_one (i := 9) (by kernel_rfl) rfl (fun K hK => ?_)
        have hVs : w.heap.size ≤ V0.heap.size := (hx.trans hHeld.2.2).size
        go_simp
        go_at_call 110; refine (HKU.out V0 (hx.trans hHeld.2.2)).mono ?_; rintro e V1 ⟨nv, rfl, hnr, hz⟩
        refine hK.out _ _ (fun _ => ?_) (fun hHeld => ?_)
        · exact ⟨Ext.cell hz hHeld.1, Ext.cell hz hHeld.2.1, hHeld.2.2.trans hz⟩
        replace hHeld := hHeld (by decide)
        clear hK K
        obtain ⟨nA, nc, hnv⟩ := hnr.form
        subst hnv
        replace hnr := rowI_base hnr hVs
        clear hz hVs
        try simp only [Act.put, xA1, xA2, xA3, xA4, xA5, xA6]
        refine wpAnyL_one (i := 10) (by kernel_rfl) rfl (fun K hK => ?_)
        go_simp
        refine hK.out _ _ (fun _ => hHeld) (fun hHeld => ?_)
        replace hHeld := hHeld (by decide)
        clear hK K
        try simp only [Act.put, xA1, xA2, xA3, xA4, xA5, xA6]
        (refine tkL (i := 11) (v := ?_) rfl ?_ ?_; rotate_left 1; (focus (intro w hSw; (try dsimp only at hSw); go_simp; try (with_reducible rfl))))
        try simp only [Act.put, xA1, xA2, xA3, xA4, xA5, xA6]
        refine wpAnyL_one (i := 12) (by kernel_rfl) rfl (fun K hK => ?_)
        have k2 := (hgc.ext hHeld.2.2).frozen (k * 2 + 1)
        have k3 := hHeld.2.1
        go_simp
        refine hK.out _ _ (fun h => absurd rfl h) (fun _ => ?_)
        clear hK K
        try simp only [Act.put, xA1, xA2, xA3, xA4, xA5, xA6]
        refine wpAnyL_done (by kernel_rfl) ?_ _
        have hxx := hHeld.2.2
        have hg2 := hgc.ext hxx
        have hB3g : B3 ≠ g := fun e => by subst e; exact absurd (cls_uniq hgc hb3) (by decide)
        have hwg : w.heap.size + 1 ≠ g := fun e => by subst e; exact absurd (cls_uniq hgc hq1) (by decide)
        go_wp2_with fail
        go_roundw
        case rel =>
          have hrs := RowL.set (HRL.out.ext hxx) k hlk1 (.slice nA P.ss[k].us.length nc) rfl
          rw [HL1.out] at hrs
          refine ⟨k + 1, by omega, by go_num, Lib.hid ⟨l'.set k (l'[k].1, .slice nA P.ss[k].us.length nc), by rw [List.length_set]; exact HL1.out, hrs, fun i h h' h'' => ?_⟩, rowT_setL (hr1.ext hxx) hg2, (hb3.ext hxx).other hB3g _ _, (hq1.ext hxx).other hwg _ _, (hx.trans hxx).setCell (by exact hgb) _⟩
          rw [List.length_set] at h
          have hui := HU.out i h h' h''
          rw [List.getElem_set]
          by_cases e : k = i
          · subst e
            rw [if_pos rfl]
            exact ⟨hui.1, fun _ => rowI_setL hnr hg2, fun h => by omega⟩
          · rw [if_neg e]
            exact ⟨hui.1, fun hi => rowI_setL (rowI_ext (hui.2.1 (by omega)) hxx) hg2, fun hi => hui.2.2 (by omega)⟩
        case measure => simp [intOf]; omega
      · obtain rfl : k = l.length := by omega
        obtain ⟨l', hl1, hr2, hu⟩ := HR.out
        have f0 := hq1.frozen 0
        have f1 := hq1.frozen 1
        have c0 := hq1.cell 0
        have c1 := hq1.cell 1
        obtain ⟨tA, tc, htv⟩ := RowK.form hr1
        subst htv
        have hok2 : PoOwn w.heap.size wr (.slice tA P.ts.length tc) (.slice vA l.length vc) P := ⟨hr1, l', hr2, by have := HLL.out; omega, fun i h1 h2 => by
          have := hu i h1 (by omega) h2
          exact ⟨this.1, this.2.1 (by omega)⟩⟩
        have HOK := Lib.hid hok2
        clear hok2 hr2 hu HR
        have g0 : wr.cell? ⟨B3, 0, none⟩ = some (.slice tA P.ts.length tc) := hb3.cell 0
        go_wp2_with fail
        have hC := (hq1.set 0 (.slice tA P.ts.length tc)).set 1 (.slice vA l.length vc)
        exact bodyPost_ret (results_cell_row rfl _ _ (w.heap.size + 1) _ _ _ _ rfl hC Try.underlying25 rfl (by kernel_rfl)) rfl ⟨_, _, rfl, (HOK.out.setC hq1 (by decide) (by decide) (by decide)).setC (hq1.set 0 _) (by decide) (by decide) (by decide), (hx.setCell (by simp) _).setCell (by simp) _⟩
end Go.Proofs.Ytiofdfjcaklmcaa
namespace Go.Proofs.Ytiofdfjcaklmcaa
open Go.RowKit Go.Shelf

theorem equal_any (a b : Value) (x y : List Int) (w : World) (hx : IntsAt w a x) (hy : IntsAt w b y) (hn : x.length ≤ 1000000) (hm : y.length ≤ 1000000) :
    Calls Try.prog 79 #[a, b] w fun e w' => e = .returned (.bool (x == y)) ∧ Ext w w' := by
  obtain ⟨A, c, rfl, _⟩ := hx.len
  obtain ⟨B, d, rfl, _⟩ := hy.len
  by_cases hl : x.length = y.length
  · by_cases h0 : x.length = 0
    · have hx0 := List.eq_nil_of_length_eq_zero h0
      have hy0 := List.eq_nil_of_length_eq_zero (hl ▸ h0)
      subst hx0; subst hy0
      refine (Try.slices_Equal_int_empty A B c 0 d w (by omega)).mono ?_
      rintro e w' ⟨rfl, rfl⟩
      exact ⟨rfl, Ext.refl _⟩
    · obtain ⟨b1, o1, rfl, _⟩ := hx.get 0 (by omega)
      obtain ⟨b2, o2, rfl, _⟩ := hy.get 0 (by omega)
      refine (Try.slices_Equal_int b1 o1 x.length c b2 o2 y.length d x y w (Nat.le_refl _) (Nat.le_refl _) (by omega) (by omega) (fun j hj => ?_) (fun j hj => ?_)).mono ?_
      · obtain ⟨b, o, he, hc⟩ := hx.get j hj
        simp only [Option.some.injEq, Addr.mk.injEq, and_true] at he
        obtain ⟨rfl, rfl⟩ := he
        rw [hc]; simp [hj]
      · obtain ⟨b, o, he, hc⟩ := hy.get j hj
        simp only [Option.some.injEq, Addr.mk.injEq, and_true] at he
        obtain ⟨rfl, rfl⟩ := he
        rw [hc]; simp [hj]
      · rintro e w' ⟨rfl, q, rfl⟩
        rw [List.take_length, List.take_length]
        exact ⟨rfl, Ext.drewN q (Ext.refl _)⟩
  · refine (Try.slices_Equal_int_lens A B x.length c y.length d w hl).mono ?_
    rintro e w' ⟨rfl, rfl⟩
    have : (x == y) = false := by
      rw [beq_eq_false_iff_ne]
      intro e; exact hl (by rw [e])
    exact ⟨by rw [this], Ext.refl _⟩
theorem PoOwn.row {n₀ : Nat} {W : World} {a b : Value} {P : Po} (h : PoOwn n₀ W a b P) {i : Nat} (hi : i < P.ss.length) : ∃ g c cs u, b = .slice (some ⟨g, 0, none⟩) P.ss.length c ∧ Cls g 48 cs W ∧ n₀ ≤ g ∧ W.cell? ⟨g, i * 2 + 1, none⟩ = some u := by
  obtain ⟨l, h1, h2⟩ := h.s
  have hll := h2.1
  obtain ⟨g, c, cs, hv, _, hc, hg⟩ := h1.cls (by omega)
  have hil : i < l.length := by omega
  rw [hv] at h1
  obtain ⟨g', he, _, h4⟩ := h1.get i hil
  simp only [Option.some.injEq, Addr.mk.injEq, and_true] at he
  subst he
  exact ⟨g, c, cs, l[i].2, by rw [hv, hll], hc, hg, h4⟩
theorem setU_setU {P : Po} {i : Nat} {us vs : List Int} (h : i < P.ss.length) : setU (setU P i us) i vs = setU P i vs := by
  unfold setU
  simp [h]
theorem rowI_frz {n₀ g n c : Nat} {l : List Int} {W : World} (h : RowI n₀ (.slice (some ⟨g, 0, none⟩) n c) l W) {i : Nat} (hi : i < l.length) : W.cell? ⟨g, i, none⟩ = some (.int .i64 l[i]) ∧ W.frozen? ⟨g, i, none⟩ = false := by
  obtain ⟨g', c', cs, hv, hc, _⟩ := rowI_cls h (by omega)
  simp only [Value.slice.injEq, Option.some.injEq, Addr.mk.injEq, and_true] at hv
  obtain ⟨rfl, _⟩ := hv
  obtain ⟨b, o, he, hcell⟩ := h.at_.get i hi
  simp only [Option.some.injEq, Addr.mk.injEq, and_true] at he
  obtain ⟨rfl, rfl⟩ := he
  rw [Nat.zero_add] at hcell
  exact ⟨hcell, hc.frozen i⟩
theorem most_at {P : Po} (hok : OkP P) {tn : Int} (h : ∃ t ∈ P.ts, t.id = tn) : ∃ k, ∃ (hk : k < P.ts.length), tnI P tn = k ∧ mostOf P tn = P.ts[k].most ∧ P.ts[k].id = tn := by
  obtain ⟨t, ht, rfl⟩ := h
  obtain ⟨k, hk, rfl⟩ := List.getElem_of_mem ht
  have h1 := tn_at hok hk
  exact ⟨k, hk, h1, by unfold mostOf; rw [h1]; simp [hk], rfl⟩
set_option maxRecDepth 100000 in
set_option maxHeartbeats 16000000 in
theorem could_any (a b bv : Value) (P : Po) (i : Nat) (tn : Int) (best : List Int) (hok : OkP P) (hi : i < P.ss.length) (hb : best.length ≤ 1000) (w : World) (hT : PoAt w a b P) (hbv : IntsAt w bv best) :
    Calls Try.prog 85 #[.agg #[a, b], .int .i64 i, .int .i64 tn, bv] w fun e w' => e = .returned (.bool (couX P i tn best)) ∧ Ext w w' := by
  have hls := hok.ls
  have hlt := hok.lt
  have hus := hok.us _ (List.getElem_mem hi)
  have hul := hok.ul _ (List.getElem_mem hi)
  obtain ⟨aa, ca, rfl, hla⟩ := hT.t.len
  obtain ⟨ab, cb, rfl, hlb⟩ := hT.s.len
  obtain ⟨av, cv, rfl, hlv⟩ := hbv.len
  have hX : couX P i tn best = if tn ≠ 0 ∧ P.ss[i].us.contains tn = false then false else if tn = 0 then ladL (setU P i []) (faiG (setU P i [])) == best else if mostOf P tn = 0 then false else ladL (setU P i [tn]) (setL (setU P i [tn]) (oneG P i tn)) == best := by
    unfold couX
    rw [usOf_at hi]
  obtain ⟨X, hXX⟩ : ∃ X, couX P i tn best = X := ⟨_, rfl⟩
  rw [hXX] at hX ⊢
  have HX := Lib.hid hX
  have KCP := fun W (x : Ext w W) => copied_any _ _ P W (hT.ext x) (by omega) (by omega) (fun s hs => by have := hok.ul s hs; omega)
  have HKCP := Lib.hid KCP
  have hii : (i : Int) < P.ss.length := by omega
  clear hX hXX KCP
  go_enter Try.func85, Try.ntmps85
  obtain ⟨b2, o2, ua, uc, hab, _, s1, hucl, hU⟩ := hT.s.get i hi
  subst hab
  have KCT := fun W (x : Ext w W) => contains_any _ P.ss[i].us tn W (hU.ext x) (by omega)
  obtain ⟨us, huu⟩ : ∃ us, P.ss[i].us = us := ⟨_, rfl⟩
  rw [huu] at hus hul hU s1 hucl
  simp only [huu] at KCT HX
  obtain ⟨ct, hct⟩ : ∃ ct, us.contains tn = ct := ⟨_, rfl⟩
  simp only [hct] at KCT HX
  have HKCT := Lib.hid KCT
  have HCT := Lib.hid hct
  have q0 := Cls.new w 25 #[.slice aa P.ts.length ca, .slice (some ⟨b2, o2, none⟩) P.ss.length cb]
  have hx0 : Ext w (w.alloc (.cells #[.slice aa P.ts.length ca, .slice (some ⟨b2, o2, none⟩) P.ss.length cb] 25)) := (by repeat (first | exact Ext.refl _ | assumption | refine Ext.alloc ?_ _ | refine Ext.drew ?_ | refine Ext.drewN _ ?_ | refine Ext.trans ?_ (by assumption)))
  replace s1 := hx0.cell s1
  clear KCT hct huu
  by_cases h0 : tn = 0
  · have hb0 : (tn != 0) = false := by simp [h0]
    have hb1 : (tn == 0) = true := by simp [h0]
    have hx := HX.out
    rw [if_neg (by rintro ⟨h, _⟩; exact h h0), if_pos h0] at hx
    have HXX := Lib.hid hx
    clear hx h0 HX
    go_wp2_with fail
    refine (HKCP.out _ hx0).mono ?_
    rintro e w2 ⟨u1, u2, rfl, hPO, hz⟩
    obtain ⟨g, gc, gcs, gu, hu2, hgc, hgb, hgu⟩ := hPO.row hi
    subst hu2
    obtain ⟨tA, tc, htv⟩ := RowK.form hPO.t
    subst htv
    obtain ⟨B9, hB9e⟩ : ∃ B, w2.heap.size = B := ⟨_, rfl⟩
    obtain ⟨W3, hW3⟩ : ∃ W, w2.alloc (.cells #[.slice tA P.ts.length tc, .slice (some ⟨g, 0, none⟩) P.ss.length gc] 25) = W := ⟨_, rfl⟩
    have hx3 : Ext w2 W3 := by rw [← hW3]; exact (by repeat (first | exact Ext.refl _ | assumption | refine Ext.alloc ?_ _ | refine Ext.drew ?_ | refine Ext.drewN _ ?_ | refine Ext.trans ?_ (by assumption)))
    have hB9 : Cls B9 25 #[.slice tA P.ts.length tc, .slice (some ⟨g, 0, none⟩) P.ss.length gc] W3 := by rw [← hW3]; exact Cls.newAt _ _ _ hB9e.symm
    have hB9g : B9 ≠ g := by have := hgc.lt; omega
    have hgc3 := hgc.ext hx3
    have g0 := hgc3.frozen (i * 2 + 1)
    have g1 : W3.cell? ⟨g, i * 2 + 1, none⟩ = some gu := hx3.cell hgu
    have g2 : W3.cell? ⟨B9, 1, none⟩ = some (.slice (some ⟨g, 0, none⟩) P.ss.length gc) := hB9.cell 1
    have g3 : W3.cell? ⟨B9, 0, none⟩ = some (.slice tA P.ts.length tc) := hB9.cell 0
    obtain ⟨W4, hW4⟩ : ∃ W, W3.setCell ⟨g, i * 2 + 1, none⟩ (.slice none 0 0) = W := ⟨_, rfl⟩
    rw [World.size_alloc] at hPO hgb
    have hPU := (hPO.ext hx3).setU hi (rowI_nil (w.heap.size + 1) W3)
    have hx4 : Ext w W4 := by rw [← hW4]; exact ((hx0.trans hz).trans hx3).setCell (by simp; omega) _
    rw [hW4] at hPU
    have hB4 : Cls B9 25 #[.slice tA P.ts.length tc, .slice (some ⟨g, 0, none⟩) P.ss.length gc] W4 := by rw [← hW4]; exact hB9.other hB9g _ _
    have hok0 := setU_ok hok (i := i) (us := []) (fun u hu => by cases hu) List.Pairwise.nil
    have hA4 := hPU.at_
    obtain ⟨P0, hP0⟩ : ∃ P0, setU P i [] = P0 := ⟨_, rfl⟩
    rw [hP0] at hok0 hA4 HXX
    have hlt0 := hok0.lt
    have hls0 := hok0.ls
    have hfl := (faiG_V hok0.pv).1.le hok0
    have hll := ladL_len P0 (faiG P0)
    have KF := fun W (x : Ext W4 W) => fairest_any _ _ P0 hok0 W (hA4.ext x)
    have KL := fun W (x : Ext W4 W) gv (hv : IntsAt W gv (faiG P0)) => ladder_any _ (.slice (some ⟨g, 0, none⟩) P.ss.length gc) gv P0 (faiG P0) W (hA4.t.ext x) hv (by omega) (by omega)
    have KE := fun W (x : Ext W4 W) lv (hv : IntsAt W lv (ladL P0 (faiG P0))) => equal_any lv _ (ladL P0 (faiG P0)) best W hv (hbv.ext (hx4.trans x)) (by omega) (by omega)
    rw [HXX.out.symm] at KE
    have HKF := Lib.hid KF
    have HKL := Lib.hid KL
    have HKE := Lib.hid KE
    have f0 : W4.cell? ⟨B9, 0, none⟩ = some (.slice tA P.ts.length tc) := hB4.cell 0
    have f1 : W4.cell? ⟨B9, 1, none⟩ = some (.slice (some ⟨g, 0, none⟩) P.ss.length gc) := hB4.cell 1
    have HW4 := Lib.hid hW4
    clear hPU hA4 KF KL KE hW4 hP0 hok0 hfl hll hB4
    go_upto_region 6 with fail
    rw [HW4.out]
    refine wp_region_held_drew (S := fun W' => W'.cell? ⟨B9, 0, none⟩ = some (.slice tA P.ts.length tc) ∧ W'.cell? ⟨B9, 1, none⟩ = some (.slice (some ⟨g, 0, none⟩) P.ss.length gc) ∧ Ext W4 W') (by kernel_rfl) ?_ (fun hHeld => ?_)
    · exact ⟨f0, f1, Ext.drew (Ext.refl _)⟩
    obtain ⟨V0, hV0⟩ : ∃ V, World.drew W4 = V := ⟨_, rfl⟩
    rw [hV0] at hHeld ⊢
    clear hV0
    (refine tkH (i := 0) (v := ?_) rfl ?_ ?_; rotate_left 1; (focus (intro w hSw; (try dsimp only at hSw); go_simp; try (with_reducible rfl))))
    try simp only [Act.put, xA1, xA2, xA4, xA5, xA6]
    (refine tkH (i := 1) (v := ?_) rfl ?_ ?_; rotate_left 1; (focus (intro w hSw; (try dsimp only at hSw); go_simp; try (with_reducible rfl))))
    try simp only [Act.put, xA1, xA2, xA3, xA4, xA5, xA6]
    (refine tkH (i := 4) (v := ?_) rfl ?_ ?_; rotate_left 1; (focus (intro w hSw; (try dsimp only at hSw); go_simp; try (with_reducible rfl))))
    try simp only [Act.put, xA1, xA2, xA3, xA4, xA5, xA6]
    refine wpAnyH_ready (rs := [2]) (by kernel_rfl) (by simp) ?_
    refine AllReadyH.cons rfl (fun K hK => ?_) AllReadyH.nil
    go_simp
    go_at_call 73; refine (HKF.out V0 hHeld.2.2).mono ?_; rintro e V1 ⟨gv, rfl, hgv, hz⟩
    refine hK.out _ _ ?_ (fun hHeld => ?_)
    · exact ⟨Ext.cell hz hHeld.1, Ext.cell hz hHeld.2.1, hHeld.2.2.trans hz⟩
    clear hK K
    clear hz
    try simp only [Act.put, xA1, xA2, xA3, xA4, xA5, xA6]
    refine wpAnyH_ready (rs := [3]) (by kernel_rfl) (by simp) ?_
    refine AllReadyH.cons rfl (fun K hK => ?_) AllReadyH.nil
    go_simp
    go_at_call 74; refine (HKL.out V1 hHeld.2.2 gv hgv).mono ?_; rintro e V2 ⟨lv, rfl, hlv, hz⟩
    refine hK.out _ _ ?_ (fun hHeld => ?_)
    · exact ⟨Ext.cell hz hHeld.1, Ext.cell hz hHeld.2.1, hHeld.2.2.trans hz⟩
    clear hK K
    replace hlv := hlv.at_
    clear hz hgv
    try simp only [Act.put, xA1, xA2, xA3, xA4, xA5, xA6]
    refine wpAnyH_ready (rs := [5]) (by kernel_rfl) (by simp) ?_
    refine AllReadyH.cons rfl (fun K hK => ?_) AllReadyH.nil
    go_simp
    go_at_call 79; refine (HKE.out V2 hHeld.2.2 lv hlv).mono ?_; rintro e V3 ⟨rfl, hz⟩
    refine hK.out _ _ ?_ (fun hHeld => ?_)
    · exact ⟨Ext.cell hz hHeld.1, Ext.cell hz hHeld.2.1, hHeld.2.2.trans hz⟩
    clear hK K
    clear hz hlv
    try simp only [Act.put, xA1, xA2, xA3, xA4, xA5, xA6]
    (refine tkH (i := 6) (v := ?_) rfl ?_ ?_; rotate_left 1; (focus (intro w hSw; (try dsimp only at hSw); go_simp; try (with_reducible rfl))))
    try simp only [Act.put, xA1, xA2, xA3, xA4, xA5, xA6]
    refine wpAnyH_done (by kernel_rfl) ?_ _
    have hzz := hHeld.2.2
    go_wp2_with fail
    go_ret
    exact ⟨rfl, hx4.trans hzz⟩
  · have hb0 : (tn != 0) = true := by simp [h0]
    have hb1 : (tn == 0) = false := by simp [h0]
    cases ct
    · have hx := HX.out
      rw [if_pos ⟨h0, rfl⟩] at hx
      have HXX := Lib.hid hx
      have d1 : (w.alloc (.cells #[.slice aa P.ts.length ca, .slice (some ⟨b2, o2, none⟩) P.ss.length cb] 25)).cell? ⟨w.heap.size, 1, none⟩ = some (.slice (some ⟨b2, o2, none⟩) P.ss.length cb) := q0.cell 1
      clear hx h0
      go_wp2_with fail
      refine (HKCT.out _ hx0).mono ?_
      rintro e w2 ⟨rfl, rfl⟩
      go_wp2_with fail
      go_ret
      exact ⟨by rw [HXX.out]; rfl, hx0⟩
    · have hx := HX.out
      rw [if_neg (by rintro ⟨_, h⟩; cases h), if_neg h0] at hx
      have hmem : tn ∈ us := by have := HCT.out; simpa using this
      obtain ⟨k, hk, hti, hmo, hkid⟩ := most_at hok (hus tn hmem)
      rw [hmo] at hx
      have HXX := Lib.hid hx
      have KTN := fun W a' b' (h : TesAt W a' (setU P i []).ts) => tn_any a' b' (setU P i []) tn W h (by rw [setU_ts]; omega)
      have htn0 : tnI (setU P i []) tn = k := hti
      simp only [htn0] at KTN
      have HKTN := Lib.hid KTN
      have H0 := Lib.hid h0
      have hmm : P.ts[k].most ≠ 0 → ∀ t ∈ P.ts, t.id = tn → 1 ≤ t.most := fun hm t ht he => by
        obtain ⟨j, hj, rfl⟩ := List.getElem_of_mem ht
        have h1 := tn_at hok hj
        rw [he, hti] at h1
        have : j = k := by omega
        subst this
        have := (hok.ti _ ht).2.1
        omega
      have HMM := Lib.hid hmm
      have HUE := Lib.hid (hus tn hmem)
      clear hx h0 hti hmo htn0 KTN hmem hmm
      go_wp2_with fail
      refine (HKCT.out _ hx0).mono ?_
      rintro e w2 ⟨rfl, rfl⟩
      go_wp2_with fail
      refine (HKCP.out _ hx0).mono ?_
      rintro e w2 ⟨u1, u2, rfl, hPO, hz⟩
      obtain ⟨g, gc, gcs, gu, hu2, hgc, hgb, hgu⟩ := hPO.row hi
      subst hu2
      obtain ⟨tA, tc, htv⟩ := RowK.form hPO.t
      subst htv
      obtain ⟨B9, hB9e⟩ : ∃ B, w2.heap.size = B := ⟨_, rfl⟩
      obtain ⟨W3, hW3⟩ : ∃ W, w2.alloc (.cells #[.slice tA P.ts.length tc, .slice (some ⟨g, 0, none⟩) P.ss.length gc] 25) = W := ⟨_, rfl⟩
      have hx3 : Ext w2 W3 := by rw [← hW3]; exact (by repeat (first | exact Ext.refl _ | assumption | refine Ext.alloc ?_ _ | refine Ext.drew ?_ | refine Ext.drewN _ ?_ | refine Ext.trans ?_ (by assumption)))
      have hB9 : Cls B9 25 #[.slice tA P.ts.length tc, .slice (some ⟨g, 0, none⟩) P.ss.length gc] W3 := by rw [← hW3]; exact Cls.newAt _ _ _ hB9e.symm
      have hB9g : B9 ≠ g := by have := hgc.lt; omega
      have hgc3 := hgc.ext hx3
      have g0 := hgc3.frozen (i * 2 + 1)
      have g1 : W3.cell? ⟨g, i * 2 + 1, none⟩ = some gu := hx3.cell hgu
      have g2 : W3.cell? ⟨B9, 1, none⟩ = some (.slice (some ⟨g, 0, none⟩) P.ss.length gc) := hB9.cell 1
      have g3 : W3.cell? ⟨B9, 0, none⟩ = some (.slice tA P.ts.length tc) := hB9.cell 0
      obtain ⟨W4, hW4⟩ : ∃ W, W3.setCell ⟨g, i * 2 + 1, none⟩ (.slice none 0 0) = W := ⟨_, rfl⟩
      rw [World.size_alloc] at hPO hgb
      have hPU := (hPO.ext hx3).setU hi (rowI_nil (w.heap.size + 1) W3)
      have hx4 : Ext w W4 := by rw [← hW4]; exact ((hx0.trans hz).trans hx3).setCell (by simp; omega) _
      rw [hW4] at hPU
      have hB4 : Cls B9 25 #[.slice tA P.ts.length tc, .slice (some ⟨g, 0, none⟩) P.ss.length gc] W4 := by rw [← hW4]; exact hB9.other hB9g _ _
      have hq4 : Cls w.heap.size 25 #[.slice aa P.ts.length ca, .slice (some ⟨b2, o2, none⟩) P.ss.length cb] W4 := by rw [← hW4]; exact ((q0.ext hz).ext hx3).other (by omega) _ _
      have f0 : W4.cell? ⟨B9, 0, none⟩ = some (.slice tA P.ts.length tc) := hB4.cell 0
      have f1 : W4.cell? ⟨B9, 1, none⟩ = some (.slice (some ⟨g, 0, none⟩) P.ss.length gc) := hB4.cell 1
      have HW4 := Lib.hid hW4
      clear hW4
      go_upto_region 7 with fail
      rw [HW4.out]
      clear g0 g1 g2 g3 hB9 hgc3 hx3 HW4 hgu hgc hPO
      go_wp2_with fail
      refine (HKTN.out _ _ _ hPU.at_.t).mono ?_
      rintro e w5 ⟨rfl, hz5⟩
      have hPU5 := hPU.ext hz5
      have hB5 := hB4.ext hz5
      have hq5 := hq4.ext hz5
      have hx5 := hx4.trans hz5
      obtain ⟨b6, o6, htA, m0, m1⟩ := hPU5.at_.t.get k hk
      subst htA
      replace m1 : w5.cell? ⟨b6, o6 + k * 2 + 1, none⟩ = some (.int .i64 P.ts[k].most) := m1
      have f0 : w5.cell? ⟨B9, 0, none⟩ = some (.slice (some ⟨b6, o6, none⟩) P.ts.length tc) := hB5.cell 0
      have f1 : w5.cell? ⟨B9, 1, none⟩ = some (.slice (some ⟨g, 0, none⟩) P.ss.length gc) := hB5.cell 1
      obtain ⟨mo, hmo⟩ : ∃ m, P.ts[k].most = m := ⟨_, rfl⟩
      rw [hmo] at m1 HXX
      have HMO := Lib.hid hmo
      clear hPU hB4 hq4 hx4 hz5 m0 hmo hz q0 hx0
      by_cases hm0 : mo = 0
      · have hx := HXX.out
        rw [if_pos hm0] at hx
        have HX2 := Lib.hid hx
        have hbm : (mo == 0) = true := by simp [hm0]
        clear hx hm0
        go_wp2_with fail
        go_ret
        exact ⟨by rw [HX2.out]; rfl, hx5⟩
      · have hx := HXX.out
        rw [if_neg hm0] at hx
        have HX2 := Lib.hid hx
        have hbm : (mo == 0) = false := by simp [hm0]
        have hone := HMM.out (by rw [HMO.out]; exact hm0)
        have HONE := Lib.hid hone
        have hg5 := (hPU5.row (i := i) (by rw [setU_len]; exact hi))
        obtain ⟨g', gc', gcs', gu', hge, hgc5, hgb5, hgu5⟩ := hg5
        rw [setU_len] at hge
        simp only [Value.slice.injEq, Option.some.injEq, Addr.mk.injEq, and_true, true_and] at hge
        obtain ⟨rfl, rfl⟩ := hge
        obtain ⟨LB, hLB⟩ : ∃ B, w5.heap.size = B := ⟨_, rfl⟩
        obtain ⟨W6, hW6⟩ : ∃ W, w5.alloc (.cells #[.int .i64 tn] 3) = W := ⟨_, rfl⟩
        have hx6 : Ext w5 W6 := by rw [← hW6]; exact (by repeat (first | exact Ext.refl _ | assumption | refine Ext.alloc ?_ _ | refine Ext.drew ?_ | refine Ext.drewN _ ?_ | refine Ext.trans ?_ (by assumption)))
        have hlit : RowI (w.heap.size + 1) (.slice (some ⟨LB, 0, none⟩) 1 1) [tn] W6 := by
          rw [← hW6, ← hLB]
          exact World.ownsRow_lit (base := w.heap.size + 1) (e := 3) (size := 1) w5 #[.int .i64 tn] 1 (by have := hq5.lt; omega) (by decide) (by simp)
        have g0 := (hgc5.ext hx6).frozen (i * 2 + 1)
        have g1 : W6.cell? ⟨g, i * 2 + 1, none⟩ = some gu' := hx6.cell hgu5
        have f2 : W6.cell? ⟨B9, 1, none⟩ = some (.slice (some ⟨g, 0, none⟩) P.ss.length gc) := hx6.cell f1
        obtain ⟨W7, hW7⟩ : ∃ W, W6.setCell ⟨g, i * 2 + 1, none⟩ (.slice (some ⟨LB, 0, none⟩) 1 1) = W := ⟨_, rfl⟩
        have hll5 : (setU P i []).ss.length = P.ss.length := setU_len _ _ _
        have hPU6 := hPU5.ext hx6
        rw [← hll5] at hPU6
        have hPU7 := hPU6.setU (i := i) (by rw [hll5]; exact hi) hlit
        rw [hW7, hll5] at hPU7
        have hset : setU (setU P i []) i [tn] = setU P i [tn] := setU_setU hi
        rw [hset] at hPU7
        have hB7 : Cls B9 25 #[.slice (some ⟨b6, o6, none⟩) P.ts.length tc, .slice (some ⟨g, 0, none⟩) P.ss.length gc] W7 := by rw [← hW7]; exact (hB5.ext hx6).other hB9g _ _
        have hq7 : Cls w.heap.size 25 #[.slice aa P.ts.length ca, .slice (some ⟨b2, o2, none⟩) P.ss.length cb] W7 := by rw [← hW7]; exact (hq5.ext hx6).other (by omega) _ _
        have hx7 : Ext w W7 := by rw [← hW7]; exact (hx5.trans hx6).setCell (by simp; omega) _
        have f3 : W7.cell? ⟨w.heap.size, 1, none⟩ = some (.slice (some ⟨b2, o2, none⟩) P.ss.length cb) := hq7.cell 1
        have HW7 := Lib.hid hW7
        have HLB := Lib.hid hLB
        have HW6 := Lib.hid hW6
        clear hx hm0 hPU5 hB5 hq5 hPU6 hset hll5 hx5 hx6 hlit hW7 hgc5 hgu5 hone
        go_upto_region 11 with fail
        rw [HW7.out]
        clear HW7 g0 g1 f0 f1 f2 hW6 m1 hLB
        have hirp : i < (List.replicate P.ss.length (0 : Int)).length := by simpa using hi
        go_upto_region 13 with (refine wpList_makeI rfl _ _ rfl .i64 .i64 P.ss.length rfl rfl (by omega) ?_; intro W8 hz8 hx8; have k0 := (rowI_frz hz8 hirp).1; have k1 := (rowI_frz hz8 hirp).2)
        obtain ⟨GB, hGB⟩ : ∃ B, W7.heap.size = B := ⟨_, rfl⟩
        rw [hGB] at hz8
        rw [hGB]
        obtain ⟨W9, hW9⟩ : ∃ W, W8.setCell ⟨GB, i, none⟩ (.int .i64 tn) = W := ⟨_, rfl⟩
        have hgr := rowI_set (j := i) (l := List.replicate P.ss.length 0) (by simpa using hz8) tn
        rw [hW9, List.length_replicate] at hgr
        have hgv : IntsAt W9 (.slice (some ⟨GB, 0, none⟩) P.ss.length P.ss.length) (oneG P i tn) := hgr.at_
        have hxg : Ext W7 W9 := by rw [← hW9]; exact hx8.setCell (by simp; omega) _
        rw [hW9]
        have hx9 := hx7.trans hxg
        have hB9' := hB7.ext hxg
        have hPU9 := hPU7.ext hxg
        have hA9 := hPU9.at_
        have hok1 := setU_ok hok (i := i) (us := [tn]) (fun u hu => by rw [List.mem_singleton.1 hu]; exact HUE.out) (List.pairwise_singleton _ _)
        have hS1 := oneG_V hok hi H0.out HONE.out
        have f0 : W9.cell? ⟨B9, 0, none⟩ = some (.slice (some ⟨b6, o6, none⟩) P.ts.length tc) := hB9'.cell 0
        have f1 : W9.cell? ⟨B9, 1, none⟩ = some (.slice (some ⟨g, 0, none⟩) P.ss.length gc) := hB9'.cell 1
        obtain ⟨G1, hG1⟩ : ∃ G, oneG P i tn = G := ⟨_, rfl⟩
        obtain ⟨P1, hP1⟩ : ∃ P1, setU P i [tn] = P1 := ⟨_, rfl⟩
        have hX2 := HX2.out
        rw [hG1, hP1] at hS1 hX2
        rw [hP1] at hok1 hA9
        rw [hG1] at hgv
        have hlt1 := hok1.lt
        have hls1 := hok1.ls
        have hfl := (setL_V hok1.pv hS1).1.le hok1
        have hll := ladL_len P1 (setL P1 G1)
        have KF := fun W (x : Ext W9 W) => settled_any _ _ _ P1 G1 hok1 hS1 W (hA9.ext x) (hgv.ext x)
        have KL := fun W (x : Ext W9 W) gv (hv : IntsAt W gv (setL P1 G1)) => ladder_any _ (.slice (some ⟨g, 0, none⟩) P.ss.length gc) gv P1 (setL P1 G1) W (hA9.t.ext x) hv (by omega) (by omega)
        have KE := fun W (x : Ext W9 W) lv (hv : IntsAt W lv (ladL P1 (setL P1 G1))) => equal_any lv _ (ladL P1 (setL P1 G1)) best W hv (hbv.ext (hx9.trans x)) (by omega) (by omega)
        rw [hX2.symm] at KE
        have HKF := Lib.hid KF
        have HKL := Lib.hid KL
        have HKE := Lib.hid KE
        clear hgr hz8 hx8 hW9 hx7 hB7 hq7 hPU7 f3 hB9' hPU9 hA9 hok1 hS1 hX2 hfl hll KF KL KE hG1 hP1 hxg hgv k0 k1 hGB
        refine wp_region_held_drew (S := fun W' => W'.cell? ⟨B9, 0, none⟩ = some (.slice (some ⟨b6, o6, none⟩) P.ts.length tc) ∧ W'.cell? ⟨B9, 1, none⟩ = some (.slice (some ⟨g, 0, none⟩) P.ss.length gc) ∧ Ext W9 W') (by kernel_rfl) ?_ (fun hHeld => ?_)
        · exact ⟨f0, f1, Ext.drew (Ext.refl _)⟩
        obtain ⟨V0, hV0⟩ : ∃ V, World.drew W9 = V := ⟨_, rfl⟩
        rw [hV0] at hHeld ⊢
        clear hV0
        (refine tkH (i := 0) (v := ?_) rfl ?_ ?_; rotate_left 1; (focus (intro w hSw; (try dsimp only at hSw); go_simp; try (with_reducible rfl))))
        try simp only [Act.put, xA1, xA2, xA4, xA5, xA6]
        (refine tkH (i := 1) (v := ?_) rfl ?_ ?_; rotate_left 1; (focus (intro w hSw; (try dsimp only at hSw); go_simp; try (with_reducible rfl))))
        try simp only [Act.put, xA1, xA2, xA3, xA4, xA5, xA6]
        (refine tkH (i := 2) (v := ?_) rfl ?_ ?_; rotate_left 1; (focus (intro w hSw; (try dsimp only at hSw); go_simp; try (with_reducible rfl))))
        try simp only [Act.put, xA1, xA2, xA3, xA4, xA5, xA6]
        (refine tkH (i := 5) (v := ?_) rfl ?_ ?_; rotate_left 1; (focus (intro w hSw; (try dsimp only at hSw); go_simp; try (with_reducible rfl))))
        try simp only [Act.put, xA1, xA2, xA3, xA4, xA5, xA6]
        refine wpAnyH_ready (rs := [3]) (by kernel_rfl) (by simp) ?_
        refine AllReadyH.cons rfl (fun K hK => ?_) AllReadyH.nil
        go_simp
        go_at_call 117; refine (HKF.out V0 hHeld.2.2).mono ?_; rintro e V1 ⟨gv, rfl, hgv, hz⟩
        refine hK.out _ _ ?_ (fun hHeld => ?_)
        · exact ⟨Ext.cell hz hHeld.1, Ext.cell hz hHeld.2.1, hHeld.2.2.trans hz⟩
        clear hK K
        clear hz
        try simp only [Act.put, xA1, xA2, xA3, xA4, xA5, xA6]
        refine wpAnyH_ready (rs := [4]) (by kernel_rfl) (by simp) ?_
        refine AllReadyH.cons rfl (fun K hK => ?_) AllReadyH.nil
        go_simp
        go_at_call 74; refine (HKL.out V1 hHeld.2.2 gv hgv).mono ?_; rintro e V2 ⟨lv, rfl, hlv, hz⟩
        refine hK.out _ _ ?_ (fun hHeld => ?_)
        · exact ⟨Ext.cell hz hHeld.1, Ext.cell hz hHeld.2.1, hHeld.2.2.trans hz⟩
        clear hK K
        replace hlv := hlv.at_
        clear hz hgv
        try simp only [Act.put, xA1, xA2, xA3, xA4, xA5, xA6]
        refine wpAnyH_ready (rs := [6]) (by kernel_rfl) (by simp) ?_
        refine AllReadyH.cons rfl (fun K hK => ?_) AllReadyH.nil
        go_simp
        go_at_call 79; refine (HKE.out V2 hHeld.2.2 lv hlv).mono ?_; rintro e V3 ⟨rfl, hz⟩
        refine hK.out _ _ ?_ (fun hHeld => ?_)
        · exact ⟨Ext.cell hz hHeld.1, Ext.cell hz hHeld.2.1, hHeld.2.2.trans hz⟩
        clear hK K
        clear hz hlv
        try simp only [Act.put, xA1, xA2, xA3, xA4, xA5, xA6]
        (refine tkH (i := 7) (v := ?_) rfl ?_ ?_; rotate_left 1; (focus (intro w hSw; (try dsimp only at hSw); go_simp; try (with_reducible rfl))))
        try simp only [Act.put, xA1, xA2, xA3, xA4, xA5, xA6]
        refine wpAnyH_done (by kernel_rfl) ?_ _
        have hzz := hHeld.2.2
        go_wp2_with fail
        go_ret
        exact ⟨rfl, hx9.trans hzz⟩
end Go.Proofs.Ytiofdfjcaklmcaa
