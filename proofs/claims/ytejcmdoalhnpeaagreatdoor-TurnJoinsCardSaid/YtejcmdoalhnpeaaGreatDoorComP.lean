/- The plain law of Common. -/
import Derived.Test.YtejcmdoalhnpeaaGreatDoorRestP
namespace Go.Proofs.YtejcmdoalhnpeaaGreatDoor
open Go.RowKit Go.Shelf

def both2 (A B : Mn) (i : Int) : Bool := mem A i && mem B i
def comE0 (A B : Mn) (lo hi : Int) : Int := if chkE A ≠ 0 then chkE A else spnE B lo hi
def comX (A B : Mn) (lo hi : Int) : List Sp := if comE0 A B lo hi = 0 then listed (lst (both2 A B) lo (spN lo hi)) else []
def comE (A B : Mn) (lo hi : Int) : Int := if comE0 A B lo hi = 0 then listedE (lst (both2 A B) lo (spN lo hi)) else comE0 A B lo hi
theorem comE0_or {A B : Mn} {lo hi : Int} (h : or2 (chkE A) (chkE B) ≠ 0) : comE0 A B lo hi = or2 (chkE A) (chkE B) := by
  unfold or2 at h
  by_cases h1 : chkE A ≠ 0
  · unfold comE0 or2; rw [if_pos h1, if_pos h1]
  · rw [if_neg h1] at h
    unfold comE0 or2 spnE; rw [if_neg h1, if_neg h1, if_pos h]
theorem comE0_no {A B : Mn} {lo hi : Int} (h : or2 (chkE A) (chkE B) = 0) (hs : spB lo hi = false) : comE0 A B lo hi = 1 := by
  obtain ⟨h1, h2⟩ := sam_ok (A := A) (B := B) h
  unfold comE0 spnE
  rw [if_neg (by omega), if_neg (by omega), hs]; rfl
theorem comE0_ok {A B : Mn} {lo hi : Int} (h : or2 (chkE A) (chkE B) = 0) (hs : spB lo hi = true) : comE0 A B lo hi = 0 := by
  obtain ⟨h1, h2⟩ := sam_ok (A := A) (B := B) h
  unfold comE0 spnE
  rw [if_neg (by omega), if_neg (by omega), hs]; rfl
/-- how far Common has come -/
structure ComI (P : Int → Bool) (lo hi : Int) (k : Nat) (n : Int) : Prop where
  le : k ≤ spN lo hi
  at_ : n ≤ hi → lo + k = n
  end_ : hi < n → k = spN lo hi
  low : lo ≤ n
  off : k = 0 ∨ P (lo + k - 1) = false ∨ k = spN lo hi ∨ P (lo + k) = false
theorem comI_start {P : Int → Bool} {lo hi : Int} (h : lo ≤ hi) : ComI P lo hi 0 lo := ⟨Nat.zero_le _, fun _ => by simp, fun h2 => by omega, Int.le_refl _, .inl rfl⟩
theorem ComI.jump {A B : Mn} {lo hi n : Int} {k : Nat} (hA : Ok A) (hB : Ok B) (_h0 : 0 ≤ lo) (h1 : hi ≤ 1048576) (hI : ComI (both2 A B) lo hi k n) (hn : n ≤ hi) (h : ¬ (nextF A n = n ∧ nextF B n = n)) :
    n < max (nextF A n) (nextF B n) ∧ max (nextF A n) (nextF B n) ≤ 1125899906842624 ∧ ∃ k' : Nat, ComI (both2 A B) lo hi k' (max (nextF A n) (nextF B n)) ∧ lst (both2 A B) lo k' = lst (both2 A B) lo k := by
  obtain ⟨a1, a2, a3, _⟩ := nextF_spec hA n (by omega)
  obtain ⟨b1, b2, b3, _⟩ := nextF_spec hB n (by omega)
  have hk := hI.at_ hn
  have hlow := hI.low
  generalize nextF A n = one at *
  generalize nextF B n = two at *
  have hno : ∀ i, n ≤ i → i < max one two → both2 A B i = false := by
    intro i g1 g2
    unfold both2
    rcases Int.lt_or_le i one with h3 | h3
    · rw [a3 i g1 h3]; rfl
    · rw [b3 i g1 (by omega), Bool.and_false]
  have hlt : n < max one two := by omega
  refine ⟨hlt, by omega, ?_⟩
  obtain ⟨m, hm⟩ : ∃ m, max one two = m := ⟨_, rfl⟩
  rw [hm] at hlt hno ⊢
  by_cases hmh : m ≤ hi
  · refine ⟨(m - lo).toNat, ⟨by unfold spN; omega, fun _ => by omega, fun h => by omega, by omega, .inr (.inl ?_)⟩, ?_⟩
    · rw [show lo + ((m - lo).toNat : Int) - 1 = m - 1 by omega]; exact hno _ (by omega) (by omega)
    · have := lst_skip (P := both2 A B) (lo := lo) (n := k) (d := (m - n).toNat) (fun j j1 j2 => hno _ (by omega) (by omega))
      rw [show (m - lo).toNat = k + (m - n).toNat by omega]; exact this
  · refine ⟨spN lo hi, ⟨Nat.le_refl _, fun h => by omega, fun _ => rfl, by omega, .inr (.inr (.inl rfl))⟩, ?_⟩
    have := lst_skip (P := both2 A B) (lo := lo) (n := k) (d := (hi + 1 - n).toNat) (fun j j1 j2 => hno _ (by omega) (by omega))
    rw [show spN lo hi = k + (hi + 1 - n).toNat by unfold spN; omega]; exact this
theorem ComI.run {A B : Mn} {lo hi n : Int} {k : Nat} (hA : Ok A) (hB : Ok B) (_h0 : 0 ≤ lo) (h1 : hi ≤ 1048576) (hI : ComI (both2 A B) lo hi k n) (hn : n ≤ hi) (ha : nextF A n = n) (hb : nextF B n = n) :
    n ≤ min (runEnd A n hi) (runEnd B n hi) ∧ min (runEnd A n hi) (runEnd B n hi) ≤ hi ∧ Off (lst (both2 A B) lo k) n ∧
    ∃ k' : Nat, ComI (both2 A B) lo hi k' (min (runEnd A n hi) (runEnd B n hi) + 1) ∧ lst (both2 A B) lo k' = lst (both2 A B) lo k ++ [⟨n, min (runEnd A n hi) (runEnd B n hi)⟩] := by
  obtain ⟨_, _, _, a4⟩ := nextF_spec hA n (by omega)
  obtain ⟨_, _, _, b4⟩ := nextF_spec hB n (by omega)
  rw [ha] at a4
  rw [hb] at b4
  have e1 : mem A n = true := by rcases a4 with e | ⟨e, _⟩; omega; exact e
  have e2 : mem B n = true := by rcases b4 with e | ⟨e, _⟩; omega; exact e
  have hlow := hI.low
  have hk := hI.at_ hn
  have hkl := hI.le
  obtain ⟨c1, c2, c3, c4⟩ := runEnd_spec (S := A) (n := n) (limit := hi) (by omega)
  obtain ⟨d1, d2, d3, d4⟩ := runEnd_spec (S := B) (n := n) (limit := hi) (by omega)
  have f1 : n ≤ runEnd A n hi := by
    rcases c4 with e | e
    · omega
    · rcases Int.lt_or_le (runEnd A n hi) n with hlt | hge
      · rw [show runEnd A n hi + 1 = n by omega, e1] at e; cases e
      · exact hge
  have f2 : n ≤ runEnd B n hi := by
    rcases d4 with e | e
    · omega
    · rcases Int.lt_or_le (runEnd B n hi) n with hlt | hge
      · rw [show runEnd B n hi + 1 = n by omega, e2] at e; cases e
      · exact hge
  generalize runEnd A n hi = x at *
  generalize runEnd B n hi = y at *
  have hoff : Off (lst (both2 A B) lo k) n := by
    rw [← hk]
    refine lst_off ?_
    rcases hI.off with h | h | h | h
    · exact .inl h
    · exact .inr h
    · exfalso; unfold spN at h; omega
    · exfalso; rw [hk] at h; unfold both2 at h; rw [e1, e2] at h; cases h
  refine ⟨by omega, by omega, hoff, ?_⟩
  have hrun := lst_run (P := both2 A B) (lo := lo) (n := k) (d := (min x y - n).toNat) (by rw [hk]; exact hoff) (fun j j1 j2 => by unfold both2; rw [c3 _ (by omega) (by omega), d3 _ (by omega) (by omega)]; rfl)
  refine ⟨k + (min x y - n).toNat + 1, ⟨by unfold spN; omega, fun _ => by omega, fun h => by unfold spN; omega, by omega, ?_⟩, ?_⟩
  · rw [show lo + ((k + (min x y - n).toNat + 1 : Nat) : Int) = min x y + 1 by omega]
    by_cases hto : min x y = hi
    · right; right; left; unfold spN; omega
    · right; right; right
      unfold both2
      rcases Int.lt_or_le x y with hlt | hge
      · rw [show min x y = x by omega] at hto ⊢
        rcases c4 with e | e
        · exact absurd e hto
        · rw [e]; rfl
      · rw [show min x y = y by omega] at hto ⊢
        rcases d4 with e | e
        · exact absurd e hto
        · rw [e, Bool.and_false]
  · rw [hrun, hk, show n + ((min x y - n).toNat : Int) = min x y by omega]
end Go.Proofs.YtejcmdoalhnpeaaGreatDoor
