/- Arguments that are lists of truth values or of small numbers. -/
import Derived.Test.YthopgonbndoidaaVArgs
namespace Go.Proofs.Ythopgonbndoidaa
open Go.ChangeShapes Go.WideShapes Go.ChangeAt Go.RowKit Go.Deep Go.Joins

def BoolsAt (w : World) (v : Value) (l : List Bool) : Prop :=
  ∃ ao cap, v = .slice ao l.length cap ∧ l.length ≤ cap ∧ ∀ i (h : i < l.length), ∃ b o, ao = some ⟨b, o, none⟩ ∧ w.cell? ⟨b, o + i, none⟩ = some (.bool l[i])
theorem BoolsAt.len {w : World} {v : Value} {l : List Bool} (h : BoolsAt w v l) : ∃ ao cap, v = .slice ao l.length cap ∧ l.length ≤ cap := by obtain ⟨ao, cap, hv, hle, _⟩ := h; exact ⟨ao, cap, hv, hle⟩
theorem BoolsAt.get {w : World} {ao : Option Addr} {n cap : Nat} {l : List Bool} (h : BoolsAt w (.slice ao n cap) l) (i : Nat) (hi : i < l.length) : ∃ b o, ao = some ⟨b, o, none⟩ ∧ w.cell? ⟨b, o + i, none⟩ = some (.bool l[i]) := by
  obtain ⟨ao', cap', hv, _, hc⟩ := h
  simp only [Value.slice.injEq] at hv
  obtain ⟨rfl, rfl, rfl⟩ := hv
  exact hc i hi
theorem BoolsAt.ext {w w' : World} {v : Value} {l : List Bool} (h : BoolsAt w v l) (x : Ext w w') : BoolsAt w' v l := by
  obtain ⟨ao, cap, hv, hle, hc⟩ := h
  refine ⟨ao, cap, hv, hle, fun i hi => ?_⟩
  obtain ⟨b, o, h0, h1⟩ := hc i hi
  exact ⟨b, o, h0, x.cell h1⟩
def ByteAt (w : World) (v : Value) (l : List Int) : Prop :=
  ∃ ao cap, v = .slice ao l.length cap ∧ l.length ≤ cap ∧ ∀ i (h : i < l.length), ∃ b o, ao = some ⟨b, o, none⟩ ∧ w.cell? ⟨b, o + i, none⟩ = some (.int .u8 l[i]) ∧ 0 ≤ l[i] ∧ l[i] ≤ 255
theorem ByteAt.len {w : World} {v : Value} {l : List Int} (h : ByteAt w v l) : ∃ ao cap, v = .slice ao l.length cap ∧ l.length ≤ cap := by obtain ⟨ao, cap, hv, hle, _⟩ := h; exact ⟨ao, cap, hv, hle⟩
theorem ByteAt.get {w : World} {ao : Option Addr} {n cap : Nat} {l : List Int} (h : ByteAt w (.slice ao n cap) l) (i : Nat) (hi : i < l.length) : ∃ b o, ao = some ⟨b, o, none⟩ ∧ w.cell? ⟨b, o + i, none⟩ = some (.int .u8 l[i]) ∧ 0 ≤ l[i] ∧ l[i] ≤ 255 := by
  obtain ⟨ao', cap', hv, _, hc⟩ := h
  simp only [Value.slice.injEq] at hv
  obtain ⟨rfl, rfl, rfl⟩ := hv
  exact hc i hi
theorem ByteAt.ext {w w' : World} {v : Value} {l : List Int} (h : ByteAt w v l) (x : Ext w w') : ByteAt w' v l := by
  obtain ⟨ao, cap, hv, hle, hc⟩ := h
  refine ⟨ao, cap, hv, hle, fun i hi => ?_⟩
  obtain ⟨b, o, h0, h1, h2⟩ := hc i hi
  exact ⟨b, o, h0, x.cell h1, h2⟩
theorem wf_u8 {n : Int} (h : (Lit.int .u8 n).wf = true) : 0 ≤ n ∧ n ≤ 255 := by
  simp [Lit.wf] at h
  first
    | exact h
    | (have := h.1; have := h.2; omega)
theorem wf_u16 {n : Int} (h : (Lit.int .u16 n).wf = true) : 0 ≤ n ∧ n ≤ 65535 := by
  simp [Lit.wf] at h
  first
    | exact h
    | (have := h.1; have := h.2; omega)
section
variable {H : Type} {enc : TypeId × Value → H} {W : World}
set_option maxRecDepth 100000 in
theorem bools_of {fuel : Nat} {v : Value} {y : DataW H × List MemPlace} (h : DataW.trod enc Try.prog W 0 (fun _ => true) true fuel 68 [v] = some y) : ∃ l, BoolsAt W v l := by
  rcases open_slice Try.underlying68 h with ⟨hcs, _⟩ | ⟨a, len, cap, m, n, D, Pl, hcs, hb, hl, hm, hmm, hx, hi⟩
  · simp only [List.cons.injEq, and_true] at hcs
    exact ⟨[], none, 0, hcs, by simp, fun i hi => by simp at hi⟩
  · simp only [List.cons.injEq, and_true] at hcs
    subst hcs
    simp only [if_true] at hmm
    have hC : (Try.prog).cellsOf 4 = 1 := by kernel_rfl
    have hall : ∀ i, i < len → ∃ t : Bool, W.cell? ((a.add (i * 1)).add 0) = some (.bool t) := by
      intro i hil
      obtain ⟨cs', hc, ht'⟩ := hi i (by omega)
      rw [hC] at hc
      obtain ⟨_, hcl, hat⟩ := World.cells?_some hc
      obtain ⟨v0, rfl⟩ : ∃ v0, cs' = [v0] := by
        match cs', hcl with
        | [v0], _ => exact ⟨v0, rfl⟩
      obtain ⟨p0, e0, _⟩ := DataW.trod_bool Try.underlying4 ht'
      have e1 : v0 = .bool p0 := by simpa using e0
      exact ⟨p0, by rw [hat 0 (by omega), ← e1]; rfl⟩
    obtain ⟨l, hl', hp⟩ := pick_list hall
    subst hl'
    refine ⟨l, some a, cap, rfl, hl, fun i hi' => ?_⟩
    have h00 := (hp 0 (by omega))
    simp only [Nat.zero_mul] at h00
    have ha : a = ⟨a.block, a.off, none⟩ := spot_none (by simpa [Addr.add] using h00)
    have q0 := hp i hi'
    rw [ha, add_at, add_at] at q0
    exact ⟨a.block, a.off, by rw [← ha], by simpa using q0⟩
set_option maxRecDepth 100000 in
theorem open_bools' {r : Reach} {b0 : Nat} {v : Value} {d : DataW H} {p : List MemPlace} (hv : Value.okWide Try.prog W r b0 68 v) (h : DataW.Trod enc Try.prog W 0 (fun _ => true) true 68 v d p) : ∃ l, BoolsAt W v l := by
  obtain ⟨a, len, cap, rfl⟩ := okWide_slice Try.underlying68 hv
  obtain ⟨fuel, hf⟩ := h
  exact bools_of (v := .slice a len cap) hf
set_option maxRecDepth 100000 in
theorem bytes_of {fuel : Nat} {v : Value} {y : DataW H × List MemPlace} (h : DataW.trod enc Try.prog W 0 (fun _ => true) true fuel 47 [v] = some y) : ∃ l, ByteAt W v l := by
  rcases open_slice Try.underlying47 h with ⟨hcs, _⟩ | ⟨a, len, cap, m, n, D, Pl, hcs, hb, hl, hm, hmm, hx, hi⟩
  · simp only [List.cons.injEq, and_true] at hcs
    exact ⟨[], none, 0, hcs, by simp, fun i hi => by simp at hi⟩
  · simp only [List.cons.injEq, and_true] at hcs
    subst hcs
    simp only [if_true] at hmm
    have hC : (Try.prog).cellsOf 5 = 1 := by kernel_rfl
    have hall : ∀ i, i < len → ∃ t : Int, W.cell? ((a.add (i * 1)).add 0) = some (.int .u8 t) ∧ 0 ≤ t ∧ t ≤ 255 := by
      intro i hil
      obtain ⟨cs', hc, ht'⟩ := hi i (by omega)
      rw [hC] at hc
      obtain ⟨_, hcl, hat⟩ := World.cells?_some hc
      obtain ⟨v0, rfl⟩ : ∃ v0, cs' = [v0] := by
        match cs', hcl with
        | [v0], _ => exact ⟨v0, rfl⟩
      obtain ⟨p0, e0, _, hw⟩ := DataW.trod_int Try.underlying5 ht'
      have e1 : v0 = .int .u8 p0 := by simpa using e0
      exact ⟨p0, by rw [hat 0 (by omega), ← e1]; rfl, wf_u8 hw⟩
    obtain ⟨l, hl', hp⟩ := pick_list hall
    subst hl'
    refine ⟨l, some a, cap, rfl, hl, fun i hi' => ?_⟩
    have h00 := (hp 0 (by omega)).1
    simp only [Nat.zero_mul] at h00
    have ha : a = ⟨a.block, a.off, none⟩ := spot_none (by simpa [Addr.add] using h00)
    have q0 := hp i hi'
    rw [ha, add_at, add_at] at q0
    exact ⟨a.block, a.off, by rw [← ha], by simpa using q0.1, q0.2⟩
set_option maxRecDepth 100000 in
theorem open_bytes' {r : Reach} {b0 : Nat} {v : Value} {d : DataW H} {p : List MemPlace} (hv : Value.okWide Try.prog W r b0 47 v) (h : DataW.Trod enc Try.prog W 0 (fun _ => true) true 47 v d p) : ∃ l, ByteAt W v l := by
  obtain ⟨a, len, cap, rfl⟩ := okWide_slice Try.underlying47 hv
  obtain ⟨fuel, hf⟩ := h
  exact bytes_of (v := .slice a len cap) hf
end
end Go.Proofs.Ythopgonbndoidaa
