/- An argument that is a set: two slices of structs, read as lists. -/
import Derived.Test.YtejmmfjabmmihaaDoorWorld
namespace Go.Proofs.YtejmmfjabmmihaaDoor
open Go.ChangeShapes Go.WideShapes Go.ChangeAt Go.RowKit Go.Deep Go.Joins

theorem add_at (b o n : Nat) : (⟨b, o, none⟩ : Addr).add n = ⟨b, o + n, none⟩ := by
  unfold Addr.add
  split
  · rename_i h; subst h; rfl
  · rfl
theorem spot_none {W : World} {a : Addr} {v : Value} (h : W.cell? (a.add 0) = some v) : a = ⟨a.block, a.off, none⟩ := by
  have h' : W.cell? a = some v := by simpa [Addr.add] using h
  unfold World.cell? at h'
  split at h'
  · split at h'
    · cases h'
    · rename_i hs
      cases a with
      | mk b o s => cases s with
        | none => rfl
        | some x => exact absurd rfl hs
  · cases h'
section
variable {H : Type} {enc : TypeId × Value → H} {W : World}
theorem pick_list {α : Type} {n : Nat} {P : Nat → α → Prop} (h : ∀ i, i < n → ∃ x, P i x) : ∃ l : List α, l.length = n ∧ ∀ i (hi : i < l.length), P i l[i] := by
  induction n with
  | zero => exact ⟨[], rfl, fun i hi => by simp at hi⟩
  | succ n ih =>
    obtain ⟨l, hl, hp⟩ := ih (fun i hi => h i (by omega))
    obtain ⟨x, hx⟩ := h n (by omega)
    refine ⟨l ++ [x], by simp [hl], fun i hi => ?_⟩
    by_cases e : i < l.length
    · rw [List.getElem_append_left e]; exact hp i e
    · have : i = l.length := by simp at hi; omega
      subst this
      simp only [List.getElem_append_right (Nat.le_refl _), Nat.sub_self, List.getElem_cons_zero]
      rw [hl]; exact hx
set_option maxRecDepth 100000 in
theorem turns_of {fuel : Nat} {v : Value} {y : DataW H × List MemPlace} (h : DataW.trod enc Tryd.prog W 0 (fun _ => true) true fuel 31 [v] = some y) : ∃ l, TurnsAt W v l := by
  rcases open_slice Tryd.underlying31 h with ⟨hcs, _⟩ | ⟨a, len, cap, m, n, D, Pl, hcs, hb, hl, hm, hmm, hx, hi⟩
  · simp only [List.cons.injEq, and_true] at hcs
    exact ⟨[], none, 0, hcs, fun i hi => by simp at hi⟩
  · simp only [List.cons.injEq, and_true] at hcs
    subst hcs
    simp only [if_true] at hmm
    have hC : (Tryd.prog).cellsOf 23 = 3 := by kernel_rfl
    have hall : ∀ i, i < len → ∃ t : Tn, W.cell? ((a.add (i * 3)).add 0) = some (.int .i64 t.p) ∧ W.cell? ((a.add (i * 3)).add 1) = some (.int .i64 t.f) ∧ W.cell? ((a.add (i * 3)).add 2) = some (.int .i64 t.l) := by
      intro i hil
      obtain ⟨cs', hc, ht'⟩ := hi i (by omega)
      rw [hC] at hc
      obtain ⟨y0, y1, y2, n', hx', _, h0, h1, h2⟩ := trod_struct3 Tryd.underlying23 ht'
      obtain ⟨_, hcl, hat⟩ := World.cells?_some hc
      obtain ⟨v0, v1, v2, rfl⟩ : ∃ v0 v1 v2, cs' = [v0, v1, v2] := by
        match cs', hcl with
        | [v0, v1, v2], _ => exact ⟨v0, v1, v2, rfl⟩
      obtain ⟨p, e0⟩ := int_of (v := v0) (by simpa [show (Tryd.prog).cellsOf 3 = 1 by kernel_rfl] using h0)
      obtain ⟨f, e1⟩ := int_of (v := v1) (by simpa [show (Tryd.prog).cellsOf 3 = 1 by kernel_rfl] using h1)
      obtain ⟨l, e2⟩ := int_of (v := v2) (by simpa [show (Tryd.prog).cellsOf 3 = 1 by kernel_rfl] using h2)
      exact ⟨⟨p, f, l⟩, by rw [hat 0 (by omega), ← e0]; rfl, by rw [hat 1 (by omega), ← e1]; rfl, by rw [hat 2 (by omega), ← e2]; rfl⟩
    obtain ⟨l, hl', hp⟩ := pick_list hall
    subst hl'
    refine ⟨l, some a, cap, rfl, fun i hi' => ?_⟩
    have h00 := (hp 0 (by omega)).1
    simp only [Nat.zero_mul] at h00
    have ha : a = ⟨a.block, a.off, none⟩ := spot_none (by simpa [Addr.add] using h00)
    obtain ⟨q0, q1, q2⟩ := hp i hi'
    rw [ha, add_at, add_at] at q0 q1 q2
    exact ⟨a.block, a.off, by rw [← ha], by simpa using q0, q1, q2⟩
set_option maxRecDepth 100000 in
theorem spans_of {fuel : Nat} {v : Value} {y : DataW H × List MemPlace} (h : DataW.trod enc Tryd.prog W 0 (fun _ => true) true fuel 32 [v] = some y) : ∃ l, SpansAt W v l := by
  rcases open_slice Tryd.underlying32 h with ⟨hcs, _⟩ | ⟨a, len, cap, m, n, D, Pl, hcs, hb, hl, hm, hmm, hx, hi⟩
  · simp only [List.cons.injEq, and_true] at hcs
    exact ⟨[], none, 0, hcs, fun i hi => by simp at hi⟩
  · simp only [List.cons.injEq, and_true] at hcs
    subst hcs
    simp only [if_true] at hmm
    have hC : (Tryd.prog).cellsOf 56 = 2 := by kernel_rfl
    have hall : ∀ i, i < len → ∃ t : Sp, W.cell? ((a.add (i * 2)).add 0) = some (.int .i64 t.lo) ∧ W.cell? ((a.add (i * 2)).add 1) = some (.int .i64 t.hi) := by
      intro i hil
      obtain ⟨cs', hc, ht'⟩ := hi i (by omega)
      rw [hC] at hc
      obtain ⟨y0, y1, n', hx', _, h0, h1⟩ := trod_struct2 Tryd.underlying56 ht'
      obtain ⟨_, hcl, hat⟩ := World.cells?_some hc
      obtain ⟨v0, v1, rfl⟩ : ∃ v0 v1, cs' = [v0, v1] := by
        match cs', hcl with
        | [v0, v1], _ => exact ⟨v0, v1, rfl⟩
      obtain ⟨p, e0⟩ := int_of (v := v0) (by simpa [show (Tryd.prog).cellsOf 3 = 1 by kernel_rfl] using h0)
      obtain ⟨f, e1⟩ := int_of (v := v1) (by simpa [show (Tryd.prog).cellsOf 3 = 1 by kernel_rfl] using h1)
      exact ⟨⟨p, f⟩, by rw [hat 0 (by omega), ← e0]; rfl, by rw [hat 1 (by omega), ← e1]; rfl⟩
    obtain ⟨l, hl', hp⟩ := pick_list hall
    subst hl'
    refine ⟨l, some a, cap, rfl, fun i hi' => ?_⟩
    have h00 := (hp 0 (by omega)).1
    simp only [Nat.zero_mul] at h00
    have ha : a = ⟨a.block, a.off, none⟩ := spot_none (by simpa [Addr.add] using h00)
    obtain ⟨q0, q1⟩ := hp i hi'
    rw [ha, add_at, add_at] at q0 q1
    exact ⟨a.block, a.off, by rw [← ha], by simpa using q0, q1⟩
set_option maxRecDepth 100000 in
/-- an argument that is a set -/
theorem open_minutes {r : Reach} {b0 : Nat} {v : Value} {d : DataW H} {p : List MemPlace} (hv : Value.okWide Tryd.prog W r b0 34 v) (h : DataW.Trod enc Tryd.prog W 0 (fun _ => true) true 34 v d p) :
    ∃ (a b : Value) (S : Mn), v = .agg #[a, b] ∧ MinsAt W a b S := by
  obtain ⟨v0, v1, y0, y1, n, rfl, _, _, h0, h1⟩ := open_agg2 Tryd.underlying34 (by kernel_rfl) (by kernel_rfl) hv h
  obtain ⟨ts, ht⟩ := turns_of h0
  obtain ⟨ss, hs⟩ := spans_of h1
  exact ⟨v0, v1, ⟨ts, ss⟩, rfl, ht, hs⟩
end
end Go.Proofs.YtejmmfjabmmihaaDoor
