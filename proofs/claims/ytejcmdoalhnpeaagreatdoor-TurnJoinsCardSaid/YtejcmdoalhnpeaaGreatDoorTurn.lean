/- The reader's methods: turn, span. -/
import Derived.Test.YtejcmdoalhnpeaaGreatDoorNum
import Derived.Laws.Rows
namespace Go.Proofs.YtejcmdoalhnpeaaGreatDoor
open Go.RowKit Go.Shelf

theorem grown_alloc {a w : World} {row : Option Nat} (h : a.grownBy w row) (o : Obj) : a.grownBy (w.alloc o) row :=
  ⟨h.os, h.tape, h.output, Nat.le_trans h.size (by simp), fun i hi hne => (Below.heap_alloc w o i (Nat.lt_of_lt_of_le hi h.size)).trans (h.block i hi hne)⟩
theorem grown_setNew {a w : World} {row : Option Nat} (h : a.grownBy w row) {b i : Nat} (hb : a.heap.size ≤ b) (u : Value) : a.grownBy (w.setCell ⟨b, i, none⟩ u) row :=
  ⟨h.os, h.tape, h.output, by simpa [World.setCell] using h.size, fun j hj hne => (Below.heap_setCell w ⟨b, i, none⟩ u j (by simp; omega)).trans (h.block j hj hne)⟩
theorem RdAt.lt {R : Nat} {s : ByteArray} {r : Rd} {W : World} (h : RdAt R s r W) : R < W.heap.size := Cls.lt h
theorem RdAt.ext {R : Nat} {s : ByteArray} {r : Rd} {W W' : World} (h : RdAt R s r W) (x : Ext W W') : RdAt R s r W' := Cls.ext h x
theorem RdAt.other {R : Nat} {s : ByteArray} {r : Rd} {W : World} (h : RdAt R s r W) {b i : Nat} (hb : R ≠ b) (u : Value) : RdAt R s r (W.setCell ⟨b, i, none⟩ u) := Cls.other h hb i u

set_option maxRecDepth 100000 in
set_option maxHeartbeats 1000000 in
theorem rdTurn_any (R : Nat) (s : ByteArray) (r : Rd) (w : World) (hR : RdAt R s r w) (hs : s.size ≤ 1000000) (ha : r.at_ ≤ s.size) :
    Calls Tryz.prog 60 #[.pointer (some ⟨R, 0, none⟩)] w fun e w' => e = .returned (.agg #[.int .i64 (turnR (bytesOf s) r).1.p, .int .i64 (turnR (bytesOf s) r).1.f, .int .i64 (turnR (bytesOf s) r).1.l]) ∧ RdAt R s (turnR (bytesOf s) r).2 w' ∧ w.grownBy w' (some R) := by
  obtain ⟨V, hV⟩ : ∃ V, turnR (bytesOf s) r = V := ⟨_, rfl⟩
  have hV2 := hV
  rw [hV]
  simp only [turnR] at hV2
  have hlen := bytesOf_len s
  obtain ⟨m1, m1', _⟩ := wordR_mono (bytesOf s) [101, 118, 101, 114, 121, 32] r
  obtain ⟨r1, h1⟩ : ∃ r1, wordR (bytesOf s) [101, 118, 101, 114, 121, 32] r = r1 := ⟨_, rfl⟩
  rw [h1] at hV2 m1 m1'
  obtain ⟨m2, m2', b2, b2'⟩ := numR_mono (bytesOf s) 1 40320 r1
  obtain ⟨a, h2⟩ : ∃ a, numR (bytesOf s) 1 40320 r1 = a := ⟨_, rfl⟩
  rw [h2] at hV2 m2 m2' b2 b2'
  obtain ⟨p, r2⟩ := a
  obtain ⟨m3, m3', _⟩ := wordR_mono (bytesOf s) [32, 102, 114, 111, 109, 32] r2
  obtain ⟨r3, h3⟩ : ∃ r3, wordR (bytesOf s) [32, 102, 114, 111, 109, 32] r2 = r3 := ⟨_, rfl⟩
  simp only at hV2 m2 m2' b2 b2'
  rw [h3] at hV2 m3 m3'
  obtain ⟨m4, m4', b4, b4'⟩ := numR_mono (bytesOf s) 0 (p - 1) r3
  obtain ⟨a, h4⟩ : ∃ a, numR (bytesOf s) 0 (p - 1) r3 = a := ⟨_, rfl⟩
  rw [h4] at hV2 m4 m4' b4 b4'
  obtain ⟨f, r4⟩ := a
  obtain ⟨m5, m5', _⟩ := wordR_mono (bytesOf s) [32, 102, 111, 114, 32] r4
  obtain ⟨r5, h5⟩ : ∃ r5, wordR (bytesOf s) [32, 102, 111, 114, 32] r4 = r5 := ⟨_, rfl⟩
  simp only at hV2 m4 m4' b4 b4'
  rw [h5] at hV2 m5 m5'
  obtain ⟨m6, m6', b6, b6'⟩ := numR_mono (bytesOf s) 1 p r5
  obtain ⟨a, h6⟩ : ∃ a, numR (bytesOf s) 1 p r5 = a := ⟨_, rfl⟩
  rw [h6] at hV2 m6 m6' b6 b6'
  obtain ⟨l, r6⟩ := a
  obtain ⟨m7, m7', _⟩ := wordR_mono (bytesOf s) [59, 10] r6
  obtain ⟨r7, h7⟩ : ∃ r7, wordR (bytesOf s) [59, 10] r6 = r7 := ⟨_, rfl⟩
  simp only at hV2 m6 m6' b6 b6'
  rw [h7] at hV2 m7 m7'
  subst hV2
  rw [hlen] at m1' m2' m3' m4' m5' m6' m7'
  have q1 := m1' ha
  have q2 := m2' q1
  have q3 := m3' q2
  have q4 := m4' q3
  have q5 := m5' q4
  have q6 := m6' q5
  clear m1 m1' m2 m2' m3 m3' m4 m4' m5 m5' m6 m6' m7 m7' hV hlen
  have H1 := Lib.hid h1
  have H2 := Lib.hid h2
  have H3 := Lib.hid h3
  have H4 := Lib.hid h4
  have H5 := Lib.hid h5
  have H6 := Lib.hid h6
  have H7 := Lib.hid h7
  clear h1 h2 h3 h4 h5 h6 h7
  have hRl := hR.lt
  have HR0 := Lib.hid hR
  clear hR
  go_enter Tryz.func60, Tryz.ntmps60
  go_wp2_with fail
  refine (word_any R s ⟨#[101, 118, 101, 114, 121, 32]⟩ r _ (HR0.out.ext (by repeat (first | exact Ext.refl _ | assumption | refine Ext.alloc ?_ _ | refine Ext.drew ?_ | refine Ext.drewN _ ?_ | refine Ext.trans ?_ (by assumption)))) hs (by decide) ha).mono ?_
  rintro e w1 ⟨rfl, hR1, hg1⟩
  change RdAt R s (wordR (bytesOf s) [101, 118, 101, 114, 121, 32] r) w1 at hR1
  rw [H1.out] at hR1
  have hA0 := (Cls.new w 42 #[.int .i64 0, .int .i64 0, .int .i64 0]).ext (W' := (w.alloc (.cells #[.int .i64 0, .int .i64 0, .int .i64 0] 42)).alloc (.cells #[.int .i64 0, .int .i64 0, .int .i64 0] 42)) (by repeat (first | exact Ext.refl _ | assumption | refine Ext.alloc ?_ _ | refine Ext.drew ?_ | refine Ext.drewN _ ?_ | refine Ext.trans ?_ (by assumption)))
  have hB0 := Cls.newAt (w.alloc (.cells #[.int .i64 0, .int .i64 0, .int .i64 0] 42)) 42 #[.int .i64 0, .int .i64 0, .int .i64 0] (n := w.heap.size + 1) (by simp)
  have HA1 : Hid (Cls w.heap.size 42 #[.int .i64 0, .int .i64 0, .int .i64 0] w1) := Lib.hid (hA0.kept hg1 (by simp; omega))
  have HB1 : Hid (Cls (w.heap.size + 1) 42 #[.int .i64 0, .int .i64 0, .int .i64 0] w1) := Lib.hid (hB0.kept hg1 (by simp; omega))
  have hG1 : w.grownBy w1 (some R) := grown_trans (grown_alloc (grown_alloc (World.grownBy.refl _ _) _) _) hg1
  clear hA0 hB0 hg1
  go_wp2_with fail
  refine (number_any R s r1 1 40320 _ hR1 hs q1 (by omega) (by omega) (by omega) (by omega)).mono ?_
  rintro e w2 ⟨rfl, hR2, hg2⟩
  rw [H2.out] at hR2 ⊢
  have HA2 : Hid (Cls w.heap.size 42 #[.int .i64 0, .int .i64 0, .int .i64 0] w2) := Lib.hid (HA1.out.kept hg2 (by simp; omega))
  have HB2 : Hid (Cls (w.heap.size + 1) 42 #[.int .i64 0, .int .i64 0, .int .i64 0] w2) := Lib.hid (HB1.out.kept hg2 (by simp; omega))
  have hG2 := grown_trans hG1 hg2
  have e2 : w2.cell? ⟨w.heap.size + 1, 0, none⟩ = some (.int .i64 0) := HB2.out.cell 0
  have e2' : w2.frozen? ⟨w.heap.size + 1, 0, none⟩ = false := HB2.out.frozen 0
  clear hg2
  go_wp2_with fail
  have HB2s := Lib.hid (HB2.out.set 0 (.int .i64 p))
  have HA2s := Lib.hid (HA2.out.other (B' := w.heap.size + 1) (by omega) 0 (.int .i64 p))
  refine (word_any R s ⟨#[32, 102, 114, 111, 109, 32]⟩ r2 _ (hR2.other (by omega) _) hs (by decide) q2).mono ?_
  rintro e w3 ⟨rfl, hR3, hg3⟩
  change RdAt R s (wordR (bytesOf s) [32, 102, 114, 111, 109, 32] r2) w3 at hR3
  rw [H3.out] at hR3
  have HA3 : Hid (Cls w.heap.size 42 #[.int .i64 0, .int .i64 0, .int .i64 0] w3) := Lib.hid (HA2s.out.kept hg3 (by simp; omega))
  have HB3 : Hid (Cls (w.heap.size + 1) 42 #[.int .i64 p, .int .i64 0, .int .i64 0] w3) := Lib.hid (HB2s.out.kept hg3 (by simp; omega))
  have hG3 := grown_trans (grown_setNew hG2 (i := 0) (b := w.heap.size + 1) (by omega) (.int .i64 p)) hg3
  have e3 : w3.cell? ⟨w.heap.size + 1, 0, none⟩ = some (.int .i64 p) := HB3.out.cell 0
  clear hg3
  go_wp2_with fail
  refine (number_any R s r3 0 (p - 1) _ hR3 hs q3 (by omega) (by omega) (by omega) (by omega)).mono ?_
  rintro e w4 ⟨rfl, hR4, hg4⟩
  rw [H4.out] at hR4 ⊢
  have HA4 : Hid (Cls w.heap.size 42 #[.int .i64 0, .int .i64 0, .int .i64 0] w4) := Lib.hid (HA3.out.kept hg4 (by simp; omega))
  have HB4 : Hid (Cls (w.heap.size + 1) 42 #[.int .i64 p, .int .i64 0, .int .i64 0] w4) := Lib.hid (HB3.out.kept hg4 (by simp; omega))
  have hG4 := grown_trans hG3 hg4
  have e4 : w4.cell? ⟨w.heap.size + 1, 1, none⟩ = some (.int .i64 0) := HB4.out.cell 1
  have e4' : w4.frozen? ⟨w.heap.size + 1, 1, none⟩ = false := HB4.out.frozen 1
  clear hg4
  go_wp2_with fail
  have HB4s := Lib.hid (HB4.out.set 1 (.int .i64 f))
  have HA4s := Lib.hid (HA4.out.other (B' := w.heap.size + 1) (by omega) 1 (.int .i64 f))
  refine (word_any R s ⟨#[32, 102, 111, 114, 32]⟩ r4 _ (hR4.other (by omega) _) hs (by decide) q4).mono ?_
  rintro e w5 ⟨rfl, hR5, hg5⟩
  change RdAt R s (wordR (bytesOf s) [32, 102, 111, 114, 32] r4) w5 at hR5
  rw [H5.out] at hR5
  have HA5 : Hid (Cls w.heap.size 42 #[.int .i64 0, .int .i64 0, .int .i64 0] w5) := Lib.hid (HA4s.out.kept hg5 (by simp; omega))
  have HB5 : Hid (Cls (w.heap.size + 1) 42 #[.int .i64 p, .int .i64 f, .int .i64 0] w5) := Lib.hid (HB4s.out.kept hg5 (by simp; omega))
  have hG5 := grown_trans (grown_setNew hG4 (i := 1) (b := w.heap.size + 1) (by omega) (.int .i64 f)) hg5
  have e5 : w5.cell? ⟨w.heap.size + 1, 0, none⟩ = some (.int .i64 p) := HB5.out.cell 0
  clear hg5
  go_wp2_with fail
  refine (number_any R s r5 1 p _ hR5 hs q5 (by omega) (by omega) (by omega) (by omega)).mono ?_
  rintro e w6 ⟨rfl, hR6, hg6⟩
  rw [H6.out] at hR6 ⊢
  have HA6 : Hid (Cls w.heap.size 42 #[.int .i64 0, .int .i64 0, .int .i64 0] w6) := Lib.hid (HA5.out.kept hg6 (by simp; omega))
  have HB6 : Hid (Cls (w.heap.size + 1) 42 #[.int .i64 p, .int .i64 f, .int .i64 0] w6) := Lib.hid (HB5.out.kept hg6 (by simp; omega))
  have hG6 := grown_trans hG5 hg6
  have e6 : w6.cell? ⟨w.heap.size + 1, 2, none⟩ = some (.int .i64 0) := HB6.out.cell 2
  have e6' : w6.frozen? ⟨w.heap.size + 1, 2, none⟩ = false := HB6.out.frozen 2
  clear hg6
  go_wp2_with fail
  have HB6s := Lib.hid (HB6.out.set 2 (.int .i64 l))
  have HA6s := Lib.hid (HA6.out.other (B' := w.heap.size + 1) (by omega) 2 (.int .i64 l))
  refine (word_any R s ⟨#[59, 10]⟩ r6 _ (hR6.other (by omega) _) hs (by decide) q6).mono ?_
  rintro e w7 ⟨rfl, hR7, hg7⟩
  change RdAt R s (wordR (bytesOf s) [59, 10] r6) w7 at hR7
  rw [H7.out] at hR7
  have HA7 : Hid (Cls w.heap.size 42 #[.int .i64 0, .int .i64 0, .int .i64 0] w7) := Lib.hid (HA6s.out.kept hg7 (by simp; omega))
  have HB7 : Hid (Cls (w.heap.size + 1) 42 #[.int .i64 p, .int .i64 f, .int .i64 l] w7) := Lib.hid (HB6s.out.kept hg7 (by simp; omega))
  have hG7 := grown_trans (grown_setNew hG6 (i := 2) (b := w.heap.size + 1) (by omega) (.int .i64 l)) hg7
  have e7 : w7.cell? ⟨w.heap.size + 1, 0, none⟩ = some (.int .i64 p) := HB7.out.cell 0
  have e7' : w7.cell? ⟨w.heap.size + 1, 1, none⟩ = some (.int .i64 f) := HB7.out.cell 1
  have e7'' : w7.cell? ⟨w.heap.size + 1, 2, none⟩ = some (.int .i64 l) := HB7.out.cell 2
  have a7 : w7.cell? ⟨w.heap.size, 0, none⟩ = some (.int .i64 0) := HA7.out.cell 0
  have a7' : w7.cell? ⟨w.heap.size, 1, none⟩ = some (.int .i64 0) := HA7.out.cell 1
  have a7'' : w7.cell? ⟨w.heap.size, 2, none⟩ = some (.int .i64 0) := HA7.out.cell 2
  have z7 : w7.frozen? ⟨w.heap.size, 0, none⟩ = false := HA7.out.frozen 0
  have z7' : w7.frozen? ⟨w.heap.size, 1, none⟩ = false := HA7.out.frozen 1
  have z7'' : w7.frozen? ⟨w.heap.size, 2, none⟩ = false := HA7.out.frozen 2
  clear hg7
  go_wp2_with fail
  have hfin := ((HA7.out.set 0 (.int .i64 p)).set 1 (.int .i64 f)).set 2 (.int .i64 l)
  refine bodyPost_ret (results_cell_row rfl _ _ w.heap.size 42 #[.int .i64 p, .int .i64 f, .int .i64 l] (0, 0) _ rfl hfin Tryz.underlying42 rfl (by kernel_rfl)) rfl ⟨rfl, ?_, ?_⟩
  · exact ((hR7.other (by omega) _).other (by omega) _).other (by omega) _
  · exact grown_setNew (grown_setNew (grown_setNew hG7 (Nat.le_refl _) _) (Nat.le_refl _) _) (Nat.le_refl _) _

set_option maxRecDepth 100000 in
set_option maxHeartbeats 1000000 in
theorem rdSpan_any (R : Nat) (s : ByteArray) (r : Rd) (w : World) (hR : RdAt R s r w) (hs : s.size ≤ 1000000) (ha : r.at_ ≤ s.size) :
    Calls Tryz.prog 61 #[.pointer (some ⟨R, 0, none⟩)] w fun e w' => e = .returned (.agg #[.int .i64 (spanR (bytesOf s) r).1.lo, .int .i64 (spanR (bytesOf s) r).1.hi]) ∧ RdAt R s (spanR (bytesOf s) r).2 w' ∧ w.grownBy w' (some R) := by
  obtain ⟨V, hV⟩ : ∃ V, spanR (bytesOf s) r = V := ⟨_, rfl⟩
  have hV2 := hV
  rw [hV]
  simp only [spanR] at hV2
  have hlen := bytesOf_len s
  obtain ⟨m1, m1', _⟩ := wordR_mono (bytesOf s) [98, 101, 116, 119, 101, 101, 110, 32] r
  obtain ⟨r1, h1⟩ : ∃ r1, wordR (bytesOf s) [98, 101, 116, 119, 101, 101, 110, 32] r = r1 := ⟨_, rfl⟩
  rw [h1] at hV2 m1 m1'
  obtain ⟨m2, m2', b2, b2'⟩ := numR_mono (bytesOf s) 0 1048576 r1
  obtain ⟨a, h2⟩ : ∃ a, numR (bytesOf s) 0 1048576 r1 = a := ⟨_, rfl⟩
  rw [h2] at hV2 m2 m2' b2 b2'
  obtain ⟨p, r2⟩ := a
  obtain ⟨m3, m3', _⟩ := wordR_mono (bytesOf s) [32, 97, 110, 100, 32] r2
  obtain ⟨r3, h3⟩ : ∃ r3, wordR (bytesOf s) [32, 97, 110, 100, 32] r2 = r3 := ⟨_, rfl⟩
  simp only at hV2 m2 m2' b2 b2'
  rw [h3] at hV2 m3 m3'
  obtain ⟨m4, m4', b4, b4'⟩ := numR_mono (bytesOf s) p 1048576 r3
  obtain ⟨a, h4⟩ : ∃ a, numR (bytesOf s) p 1048576 r3 = a := ⟨_, rfl⟩
  rw [h4] at hV2 m4 m4' b4 b4'
  obtain ⟨f, r4⟩ := a
  obtain ⟨m5, m5', _⟩ := wordR_mono (bytesOf s) [59, 10] r4
  obtain ⟨r5, h5⟩ : ∃ r5, wordR (bytesOf s) [59, 10] r4 = r5 := ⟨_, rfl⟩
  simp only at hV2 m4 m4' b4 b4'
  rw [h5] at hV2 m5 m5'
  subst hV2
  rw [hlen] at m1' m2' m3' m4' m5'
  have q1 := m1' ha
  have q2 := m2' q1
  have q3 := m3' q2
  have q4 := m4' q3
  clear m1 m1' m2 m2' m3 m3' m4 m4' m5 m5' hV hlen
  have H1 := Lib.hid h1
  have H2 := Lib.hid h2
  have H3 := Lib.hid h3
  have H4 := Lib.hid h4
  have H5 := Lib.hid h5
  clear h1 h2 h3 h4 h5
  have hRl := hR.lt
  have HR0 := Lib.hid hR
  clear hR
  go_enter Tryz.func61, Tryz.ntmps61
  go_wp2_with fail
  refine (word_any R s ⟨#[98, 101, 116, 119, 101, 101, 110, 32]⟩ r _ (HR0.out.ext (by repeat (first | exact Ext.refl _ | assumption | refine Ext.alloc ?_ _ | refine Ext.drew ?_ | refine Ext.drewN _ ?_ | refine Ext.trans ?_ (by assumption)))) hs (by decide) ha).mono ?_
  rintro e w1 ⟨rfl, hR1, hg1⟩
  change RdAt R s (wordR (bytesOf s) [98, 101, 116, 119, 101, 101, 110, 32] r) w1 at hR1
  rw [H1.out] at hR1
  have hA0 := (Cls.new w 45 #[.int .i64 0, .int .i64 0]).ext (W' := (w.alloc (.cells #[.int .i64 0, .int .i64 0] 45)).alloc (.cells #[.int .i64 0, .int .i64 0] 45)) (by repeat (first | exact Ext.refl _ | assumption | refine Ext.alloc ?_ _ | refine Ext.drew ?_ | refine Ext.drewN _ ?_ | refine Ext.trans ?_ (by assumption)))
  have hB0 := Cls.newAt (w.alloc (.cells #[.int .i64 0, .int .i64 0] 45)) 45 #[.int .i64 0, .int .i64 0] (n := w.heap.size + 1) (by simp)
  have HA1 : Hid (Cls w.heap.size 45 #[.int .i64 0, .int .i64 0] w1) := Lib.hid (hA0.kept hg1 (by simp; omega))
  have HB1 : Hid (Cls (w.heap.size + 1) 45 #[.int .i64 0, .int .i64 0] w1) := Lib.hid (hB0.kept hg1 (by simp; omega))
  have hG1 : w.grownBy w1 (some R) := grown_trans (grown_alloc (grown_alloc (World.grownBy.refl _ _) _) _) hg1
  clear hA0 hB0 hg1
  go_wp2_with fail
  refine (number_any R s r1 0 1048576 _ hR1 hs q1 (by omega) (by omega) (by omega) (by omega)).mono ?_
  rintro e w2 ⟨rfl, hR2, hg2⟩
  rw [H2.out] at hR2 ⊢
  have HA2 : Hid (Cls w.heap.size 45 #[.int .i64 0, .int .i64 0] w2) := Lib.hid (HA1.out.kept hg2 (by simp; omega))
  have HB2 : Hid (Cls (w.heap.size + 1) 45 #[.int .i64 0, .int .i64 0] w2) := Lib.hid (HB1.out.kept hg2 (by simp; omega))
  have hG2 := grown_trans hG1 hg2
  have e2 : w2.cell? ⟨w.heap.size + 1, 0, none⟩ = some (.int .i64 0) := HB2.out.cell 0
  have e2' : w2.frozen? ⟨w.heap.size + 1, 0, none⟩ = false := HB2.out.frozen 0
  clear hg2
  go_wp2_with fail
  have HB2s := Lib.hid (HB2.out.set 0 (.int .i64 p))
  have HA2s := Lib.hid (HA2.out.other (B' := w.heap.size + 1) (by omega) 0 (.int .i64 p))
  refine (word_any R s ⟨#[32, 97, 110, 100, 32]⟩ r2 _ (hR2.other (by omega) _) hs (by decide) q2).mono ?_
  rintro e w3 ⟨rfl, hR3, hg3⟩
  change RdAt R s (wordR (bytesOf s) [32, 97, 110, 100, 32] r2) w3 at hR3
  rw [H3.out] at hR3
  have HA3 : Hid (Cls w.heap.size 45 #[.int .i64 0, .int .i64 0] w3) := Lib.hid (HA2s.out.kept hg3 (by simp; omega))
  have HB3 : Hid (Cls (w.heap.size + 1) 45 #[.int .i64 p, .int .i64 0] w3) := Lib.hid (HB2s.out.kept hg3 (by simp; omega))
  have hG3 := grown_trans (grown_setNew hG2 (i := 0) (b := w.heap.size + 1) (by omega) (.int .i64 p)) hg3
  have e3 : w3.cell? ⟨w.heap.size + 1, 0, none⟩ = some (.int .i64 p) := HB3.out.cell 0
  clear hg3
  go_wp2_with fail
  refine (number_any R s r3 p 1048576 _ hR3 hs q3 (by omega) (by omega) (by omega) (by omega)).mono ?_
  rintro e w4 ⟨rfl, hR4, hg4⟩
  rw [H4.out] at hR4 ⊢
  have HA4 : Hid (Cls w.heap.size 45 #[.int .i64 0, .int .i64 0] w4) := Lib.hid (HA3.out.kept hg4 (by simp; omega))
  have HB4 : Hid (Cls (w.heap.size + 1) 45 #[.int .i64 p, .int .i64 0] w4) := Lib.hid (HB3.out.kept hg4 (by simp; omega))
  have hG4 := grown_trans hG3 hg4
  have e4 : w4.cell? ⟨w.heap.size + 1, 1, none⟩ = some (.int .i64 0) := HB4.out.cell 1
  have e4' : w4.frozen? ⟨w.heap.size + 1, 1, none⟩ = false := HB4.out.frozen 1
  clear hg4
  go_wp2_with fail
  have HB4s := Lib.hid (HB4.out.set 1 (.int .i64 f))
  have HA4s := Lib.hid (HA4.out.other (B' := w.heap.size + 1) (by omega) 1 (.int .i64 f))
  refine (word_any R s ⟨#[59, 10]⟩ r4 _ (hR4.other (by omega) _) hs (by decide) q4).mono ?_
  rintro e w5 ⟨rfl, hR5, hg5⟩
  change RdAt R s (wordR (bytesOf s) [59, 10] r4) w5 at hR5
  rw [H5.out] at hR5
  have HA5 : Hid (Cls w.heap.size 45 #[.int .i64 0, .int .i64 0] w5) := Lib.hid (HA4s.out.kept hg5 (by simp; omega))
  have HB5 : Hid (Cls (w.heap.size + 1) 45 #[.int .i64 p, .int .i64 f] w5) := Lib.hid (HB4s.out.kept hg5 (by simp; omega))
  have hG5 := grown_trans (grown_setNew hG4 (i := 1) (b := w.heap.size + 1) (by omega) (.int .i64 f)) hg5
  have e7 : w5.cell? ⟨w.heap.size + 1, 0, none⟩ = some (.int .i64 p) := HB5.out.cell 0
  have e7' : w5.cell? ⟨w.heap.size + 1, 1, none⟩ = some (.int .i64 f) := HB5.out.cell 1
  have a7 : w5.cell? ⟨w.heap.size, 0, none⟩ = some (.int .i64 0) := HA5.out.cell 0
  have a7' : w5.cell? ⟨w.heap.size, 1, none⟩ = some (.int .i64 0) := HA5.out.cell 1
  have z7 : w5.frozen? ⟨w.heap.size, 0, none⟩ = false := HA5.out.frozen 0
  have z7' : w5.frozen? ⟨w.heap.size, 1, none⟩ = false := HA5.out.frozen 1
  clear hg5
  go_wp2_with fail
  have hfin := (HA5.out.set 0 (.int .i64 p)).set 1 (.int .i64 f)
  refine bodyPost_ret (results_cell_row rfl _ _ w.heap.size 45 #[.int .i64 p, .int .i64 f] (0, 0) _ rfl hfin Tryz.underlying45 rfl (by kernel_rfl)) rfl ⟨rfl, ?_, ?_⟩
  · exact (hR5.other (by omega) _).other (by omega) _
  · exact grown_setNew (grown_setNew hG5 (Nat.le_refl _) _) (Nat.le_refl _) _

end Go.Proofs.YtejcmdoalhnpeaaGreatDoor
