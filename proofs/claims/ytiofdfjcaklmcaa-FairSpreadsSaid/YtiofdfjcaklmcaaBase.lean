/- Words for all walks of this seat: a world that only grew ('Ext'), how slices of turns and of spans read ('TurnsAt', 'SpansAt', 'MinsAt'). No program in sight but its memory. -/
import Derived.WalkKit
import Derived.WalkSpells
import Derived.WalkLawsBesides
import Derived.Lib.Hide
import Derived.Deep.QuietTactic
import Derived.BigQuiet
import Derived.Deep.LoopGhost
namespace Go.Proofs.Ytiofdfjcaklmcaa
open Go.RowKit

/-- the later world holds all that the earlier one held -/
def Ext (w w' : World) : Prop := Below w.heap.size w w'
theorem Ext.refl (w : World) : Ext w w := Below.refl _ _
theorem Ext.size {w w' : World} (h : Ext w w') : w.heap.size ≤ w'.heap.size := Below.size h
theorem Ext.trans {a b c : World} (h : Ext a b) (k : Ext b c) : Ext a c := Below.trans h (Below.mono k h.size)
theorem Ext.trans' {a b c : World} (h : Ext a b) (k : Below a.heap.size b c) : Ext a c := Below.trans h k
theorem Ext.alloc {a w : World} (h : Ext a w) (o : Obj) : Ext a (w.alloc o) := Below.alloc h h.size o
theorem Ext.drew {a w : World} (h : Ext a w) : Ext a w.drew := Below.drew h
theorem Ext.drewN {a w : World} (n : Nat) (h : Ext a w) : Ext a (w.drewN n) := by
  exact Below.trans h ⟨rfl, rfl, rfl, Nat.le_refl _, fun k _ => rfl⟩
theorem Ext.setCell {a w : World} (h : Ext a w) {p : Addr} (hp : a.heap.size ≤ p.block) (u : Value) : Ext a (w.setCell p u) := Below.setCell h hp u
theorem Ext.grown {a w w' : World} {b : Nat} (h : Ext a w) (hg : w.grownBy w' (some b)) (hb : a.heap.size ≤ b) : Ext a w' := Below.grown h hg h.size (fun k e => by cases e; exact hb)
theorem grown_cell {w w' : World} {b : Nat} (hg : w.grownBy w' (some b)) {p : Addr} {v : Value} (hne : p.block ≠ b) (h : w.cell? p = some v) : w'.cell? p = some v := by
  have hb : p.block < w.heap.size := by
    simp only [World.cell?] at h
    split at h
    · rename_i e; exact (Array.getElem?_eq_some_iff.1 e).1
    · cases h
  exact (World.cell?_of_block (hg.block p.block hb (fun e => hne (Option.some.inj e)))).trans h
theorem Ext.below {a w : World} (h : Ext a w) : Below a.heap.size a w := h
theorem cell_lt {w : World} {p : Addr} {v : Value} (hv : w.cell? p = some v) : p.block < w.heap.size := by
  simp only [World.cell?] at hv
  split at hv
  · rename_i e; exact (Array.getElem?_eq_some_iff.1 e).1
  · cases hv
theorem Ext.cell {w w' : World} (h : Ext w w') {p : Addr} {v : Value} (hv : w.cell? p = some v) : w'.cell? p = some v := by
  have hb : p.block < w.heap.size := by
    simp only [World.cell?] at hv
    split at hv
    · rename_i e; exact (Array.getElem?_eq_some_iff.1 e).1
    · cases hv
  exact (Below.cell h hb).trans hv
theorem cell_at_new (w : World) (cs : Array Value) (t : TypeId) (n k : Nat) (v : Value) (h : n = w.heap.size) (hk : cs[k]? = some v) : (w.alloc (.cells cs t)).cell? ⟨n, k, none⟩ = some v := by
  subst h
  simp only [World.cell?, World.alloc, Array.getElem?_push_size]
  simpa using hk
theorem ecell {W w1 : World} (h : Ext W w1) : (∀ b o, b < W.heap.size → w1.cell? ⟨b, o, none⟩ = W.cell? ⟨b, o, none⟩) ∧ (∀ b o, b < W.heap.size → w1.frozen? ⟨b, o, none⟩ = W.frozen? ⟨b, o, none⟩) :=
  ⟨fun b o hb => Below.cell h (p := ⟨b, o, none⟩) hb, fun b o hb => Below.frozen h (p := ⟨b, o, none⟩) hb⟩

theorem ret_int {k : IntKind} {a b : Int} (h : a = b) : Ending.returned (.int k a) = .returned (.int k b) := by rw [h]
theorem ret_bool {a b : Bool} (h : a = b) : Ending.returned (.bool a) = .returned (.bool b) := by rw [h]

/-- a turn; a span; a set -/
structure Tn where
  p : Int
  f : Int
  l : Int
structure Sp where
  lo : Int
  hi : Int
structure Mn where
  ts : List Tn
  ss : List Sp

/-- a value that is a slice of turns (of spans), and reads as a list -/
def TurnsAt (w : World) (v : Value) (l : List Tn) : Prop :=
  ∃ ao cap, v = .slice ao l.length cap ∧ ∀ i (h : i < l.length), ∃ b o, ao = some ⟨b, o, none⟩ ∧
    w.cell? ⟨b, o + i * 3, none⟩ = some (.int .i64 (l[i].p)) ∧ w.cell? ⟨b, o + i * 3 + 1, none⟩ = some (.int .i64 (l[i].f)) ∧ w.cell? ⟨b, o + i * 3 + 2, none⟩ = some (.int .i64 (l[i].l))
def SpansAt (w : World) (v : Value) (l : List Sp) : Prop :=
  ∃ ao cap, v = .slice ao l.length cap ∧ ∀ i (h : i < l.length), ∃ b o, ao = some ⟨b, o, none⟩ ∧
    w.cell? ⟨b, o + i * 2, none⟩ = some (.int .i64 (l[i].lo)) ∧ w.cell? ⟨b, o + i * 2 + 1, none⟩ = some (.int .i64 (l[i].hi))
theorem TurnsAt.ext {w w' : World} {v : Value} {l : List Tn} (h : TurnsAt w v l) (x : Ext w w') : TurnsAt w' v l := by
  obtain ⟨ao, cap, hv, hc⟩ := h
  refine ⟨ao, cap, hv, fun i hi => ?_⟩
  obtain ⟨b, o, h0, h1, h2, h3⟩ := hc i hi
  exact ⟨b, o, h0, x.cell h1, x.cell h2, x.cell h3⟩
theorem SpansAt.ext {w w' : World} {v : Value} {l : List Sp} (h : SpansAt w v l) (x : Ext w w') : SpansAt w' v l := by
  obtain ⟨ao, cap, hv, hc⟩ := h
  refine ⟨ao, cap, hv, fun i hi => ?_⟩
  obtain ⟨b, o, h0, h1, h2⟩ := hc i hi
  exact ⟨b, o, h0, x.cell h1, x.cell h2⟩
theorem TurnsAt.len {w : World} {v : Value} {l : List Tn} (h : TurnsAt w v l) : ∃ ao cap, v = .slice ao l.length cap := by
  obtain ⟨ao, cap, hv, _⟩ := h; exact ⟨ao, cap, hv⟩
theorem SpansAt.len {w : World} {v : Value} {l : List Sp} (h : SpansAt w v l) : ∃ ao cap, v = .slice ao l.length cap := by
  obtain ⟨ao, cap, hv, _⟩ := h; exact ⟨ao, cap, hv⟩
theorem TurnsAt.get {w : World} {ao : Option Addr} {n cap : Nat} {l : List Tn} (h : TurnsAt w (.slice ao n cap) l) (i : Nat) (hi : i < l.length) : ∃ b o, ao = some ⟨b, o, none⟩ ∧
    w.cell? ⟨b, o + i * 3, none⟩ = some (.int .i64 (l[i].p)) ∧ w.cell? ⟨b, o + i * 3 + 1, none⟩ = some (.int .i64 (l[i].f)) ∧ w.cell? ⟨b, o + i * 3 + 2, none⟩ = some (.int .i64 (l[i].l)) := by
  obtain ⟨ao', cap', hv, hc⟩ := h
  simp only [Value.slice.injEq] at hv
  obtain ⟨rfl, rfl, rfl⟩ := hv
  exact hc i hi
theorem SpansAt.get {w : World} {ao : Option Addr} {n cap : Nat} {l : List Sp} (h : SpansAt w (.slice ao n cap) l) (i : Nat) (hi : i < l.length) : ∃ b o, ao = some ⟨b, o, none⟩ ∧
    w.cell? ⟨b, o + i * 2, none⟩ = some (.int .i64 (l[i].lo)) ∧ w.cell? ⟨b, o + i * 2 + 1, none⟩ = some (.int .i64 (l[i].hi)) := by
  obtain ⟨ao', cap', hv, hc⟩ := h
  simp only [Value.slice.injEq] at hv
  obtain ⟨rfl, rfl, rfl⟩ := hv
  exact hc i hi
/-- two values that are the fields of a set -/
structure MinsAt (w : World) (a b : Value) (S : Mn) : Prop where
  t : TurnsAt w a S.ts
  s : SpansAt w b S.ss
theorem MinsAt.ext {w w' : World} {a b : Value} {S : Mn} (h : MinsAt w a b S) (x : Ext w w') : MinsAt w' a b S := ⟨h.t.ext x, h.s.ext x⟩

end Go.Proofs.Ytiofdfjcaklmcaa
