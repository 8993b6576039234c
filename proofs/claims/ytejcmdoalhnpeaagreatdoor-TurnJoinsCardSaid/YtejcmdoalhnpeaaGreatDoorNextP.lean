/- TurnNext, the plain law. -/
import Derived.Test.YtejcmdoalhnpeaaGreatDoorHasL
import Derived.Test.YtejcmdoalhnpeaaGreatDoorCount
import Derived.Test.YtejcmdoalhnpeaaGreatDoorBackP
namespace Go.Proofs.YtejcmdoalhnpeaaGreatDoor
open Go.RowKit Go.Shelf

theorem has_mem {S : Mn} {n : Int} (h : Ok S) (h0 : 0 ≤ n) (h1 : n ≤ 1048576) : hasB S n = mem S n := by
  have hi : inB n 0 1048576 = true := (inB_iff _ _ _).2 ⟨h0, h1⟩
  have ha : askE S n = 0 := by unfold askE; rw [h.chk]; simp [hi]
  simp [hasB, ha]
/-- what Next returns -/
structure NxtF (S : Mn) (m E N : Int) : Prop where
  e : nextE S m = E
  x : nextX S m = N
  ways : (E = 0 ∧ m ≤ N ∧ N ≤ 1048576 ∧ mem S N = true ∧ (∀ k, m ≤ k → k < N → mem S k = false)) ∨ (E = 5 ∧ N = 0 ∧ ∀ k, m ≤ k → k ≤ 1048576 → mem S k = false)
structure LstF (S : Mn) (m E N : Int) : Prop where
  e : lastE S m = E
  x : lastX S m = N
  ways : (E = 0 ∧ N ≤ m ∧ 0 ≤ N ∧ mem S N = true ∧ (∀ k, N < k → k ≤ m → mem S k = false)) ∨ (E = 5 ∧ N = 0 ∧ ∀ k, 0 ≤ k → k ≤ m → mem S k = false)
theorem nxt_facts {S : Mn} {m : Int} (h : Ok S) (h0 : 0 ≤ m) (h1 : m ≤ 1048576) : ∃ E N, NxtF S m E N := by
  have hi : inB m 0 1048576 = true := (inB_iff _ _ _).2 ⟨h0, h1⟩
  have ha : askE S m = 0 := by unfold askE; rw [h.chk]; simp [hi]
  obtain ⟨a1, a2, a3, a4⟩ := nextF_spec h m (by omega)
  by_cases hb : nextF S m ≤ 1048576
  · refine ⟨0, nextF S m, by unfold nextE; rw [if_pos ha, if_pos hb], by unfold nextX; rw [if_pos ha, if_pos hb], .inl ⟨rfl, a1, hb, ?_, a3⟩⟩
    rcases a4 with e | ⟨e, _⟩
    · omega
    · exact e
  · exact ⟨5, 0, by unfold nextE; rw [if_pos ha, if_neg hb], by unfold nextX; rw [if_pos ha, if_neg hb], .inr ⟨rfl, rfl, fun k h2 h3 => a3 k h2 (by omega)⟩⟩
theorem lst_facts {S : Mn} {m : Int} (h : Ok S) (h0 : 0 ≤ m) (h1 : m ≤ 1048576) : ∃ E N, LstF S m E N := by
  have hi : inB m 0 1048576 = true := (inB_iff _ _ _).2 ⟨h0, h1⟩
  have ha : askE S m = 0 := by unfold askE; rw [h.chk]; simp [hi]
  obtain ⟨a1, a2, a3, a4⟩ := lastF_spec h m (by omega)
  by_cases hb : 0 ≤ lastF S m
  · refine ⟨0, lastF S m, by unfold lastE; rw [if_pos ha, if_pos hb], by unfold lastX; rw [if_pos ha, if_pos hb], .inl ⟨rfl, a1, hb, ?_, fun k h2 h3 => a3 k h3 h2⟩⟩
    rcases a4 with e | e
    · omega
    · exact e
  · exact ⟨5, 0, by unfold lastE; rw [if_pos ha, if_neg hb], by unfold lastX; rw [if_pos ha, if_neg hb], .inr ⟨rfl, rfl, fun k h2 h3 => a3 k h3 (by omega)⟩⟩
/-- the count of what is left -/
theorem cnt_left {S : Mn} {m E N hi : Int} (h : Ok S) (h0 : 0 ≤ m) (h1 : m ≤ hi) (h2 : hi ≤ 1048576) (hN : NxtF S m E N) : spnE S m hi = 0 ∧ 0 ≤ cntX S m hi ∧ cntX S m hi ≤ 1048577 ∧ (0 < cntX S m hi ↔ E = 0 ∧ N ≤ hi) := by
  have hs : spnE S m hi = 0 := by unfold spnE; rw [h.chk, spB_mk ⟨h0, h1, h2⟩]; simp
  have hc : cntX S m hi = cntP (mem S) m (spN m hi) := by unfold cntX; rw [if_pos hs]
  have hb := cntP_bound (mem S) m (spN m hi)
  have hn : (spN m hi : Int) = hi + 1 - m := by unfold spN; omega
  rw [hc]
  refine ⟨hs, hb.1, by omega, ?_⟩
  rcases hN.ways with ⟨rfl, b1, b2, b3, b4⟩ | ⟨rfl, _, b4⟩
  · by_cases hle : N ≤ hi
    · have hp := sumI_pos (n := spN m hi) (P := fun i => mem S (m + i)) (k := (N - m).toNat) (by omega) (by rw [show m + ((N - m).toNat : Int) = N by omega]; exact b3)
      have : 1 ≤ cntP (mem S) m (spN m hi) := hp
      exact ⟨fun _ => ⟨rfl, hle⟩, fun _ => by omega⟩
    · have hz : cntP (mem S) m (spN m hi) = 0 := sumI_none (P := fun i => mem S (m + i)) (fun i hi' => b4 _ (by omega) (by omega))
      exact ⟨fun hh => by omega, fun hh => absurd hh.2 hle⟩
  · have hz : cntP (mem S) m (spN m hi) = 0 := sumI_none (P := fun i => mem S (m + i)) (fun i hi' => b4 _ (by omega) (by omega))
    exact ⟨fun hh => by omega, fun hh => by omega⟩
theorem has_nxt {S : Mn} {m E N : Int} (_h0 : 0 ≤ m) (h1 : m ≤ 1048576) (hN : NxtF S m E N) : mem S m = (decide (E = 0) && decide (N = m)) := by
  rcases hN.ways with ⟨rfl, b1, b2, b3, b4⟩ | ⟨rfl, _, b4⟩
  · by_cases e : N = m
    · rw [← e, b3]; simp
    · rw [b4 m (by omega) (by omega)]; simp [e]
  · rw [b4 m (by omega) (by omega)]; simp
theorem has_lst {S : Mn} {m E N : Int} (h0 : 0 ≤ m) (hN : LstF S m E N) : mem S m = (decide (E = 0) && decide (N = m)) := by
  rcases hN.ways with ⟨rfl, b1, b2, b3, b4⟩ | ⟨rfl, _, b4⟩
  · by_cases e : N = m
    · rw [← e, b3]; simp
    · rw [b4 m (by omega) (by omega)]; simp [e]
  · rw [b4 m (by omega) (by omega)]; simp
end Go.Proofs.YtejcmdoalhnpeaaGreatDoor
