/- The plain laws of Rest, Common, Covers and Same. -/
import Derived.Test.YtejcmdoalhnpeaaGreatDoorSpans
namespace Go.Proofs.YtejcmdoalhnpeaaGreatDoor
open Go.RowKit Go.Shelf

theorem snoc_ind {α : Type} {P : List α → Prop} (h0 : P []) (h1 : ∀ l x, P l → P (l ++ [x])) (l : List α) : P l := by
  rw [← List.reverse_reverse l]
  induction l.reverse with
  | nil => exact h0
  | cons x l ih => rw [List.reverse_cons]; exact h1 _ _ ih
/-- what is left between spans, and where the next gap begins -/
def rstS (o : List Sp × Int) (r : Sp) : List Sp × Int := (if o.2 < r.lo then o.1 ++ [⟨o.2, r.lo - 1⟩] else o.1, r.hi + 1)
def rst (lo : Int) (l : List Sp) : List Sp × Int := l.foldl rstS ([], lo)
theorem rst_snoc (lo : Int) (l : List Sp) (r : Sp) : rst lo (l ++ [r]) = rstS (rst lo l) r := by simp [rst]
def tailS (f hi : Int) : List Sp := if f ≤ hi then [⟨f, hi⟩] else []
theorem rst_len (lo : Int) (l : List Sp) : (rst lo l).1.length ≤ l.length := by
  induction l using snoc_ind with
  | h0 => simp [rst]
  | h1 l r ih =>
    rw [rst_snoc]; unfold rstS; simp only
    split <;> simp <;> omega
theorem rst_more (lo : Int) (l r : List Sp) : (rst lo l).1.length ≤ (rst lo (l ++ r)).1.length := by
  induction r using snoc_ind with
  | h0 => simp
  | h1 r s ih =>
    rw [← List.append_assoc, rst_snoc]; unfold rstS; simp only
    split
    · simp; omega
    · exact ih
theorem Off.more {l : List Sp} {m m' : Int} (h : Off l m) (hm : m ≤ m') : Off l m' := fun l' s e => by have := h l' s e; omega
theorem off_nil (m : Int) : Off [] m := fun l' s e => by simp at e
theorem off_add (l : List Sp) (s : Sp) {m : Int} (h : s.hi < m - 1) : Off (l ++ [s]) m := by
  intro l' s' e
  have := (List.append_inj' e rfl).2
  have h2 : s = s' := by simpa using this
  rw [← h2]; exact h
theorem last_cases {α : Type} (l : List α) : l = [] ∨ ∃ l' s, l = l' ++ [s] := by
  rcases List.eq_nil_or_concat l with h | ⟨l', s, h⟩
  · exact .inl h
  · exact .inr ⟨l', s, by simpa using h⟩
/-- the minutes that a predicate does not have, off the runs of those that it has -/
theorem rst_lst (P : Int → Bool) (lo : Int) (n : Nat) : Off (rst lo (lst P lo n)).1 (rst lo (lst P lo n)).2 ∧ (rst lo (lst P lo n)).2 ≤ lo + n ∧ lst (fun i => !P i) lo n = (rst lo (lst P lo n)).1 ++ tailS (rst lo (lst P lo n)).2 (lo + n - 1) := by
  induction n with
  | zero => exact ⟨off_nil _, by simp [lst, rst], by simp [lst, rst, tailS]; omega⟩
  | succ n ih =>
    obtain ⟨ho, h1, h2⟩ := ih
    have hmem := lst_hi P lo n
    cases hP : P (lo + n)
    · have e1 : lst P lo (n + 1) = lst P lo n := by simp [lst, hP]
      have e2 : lst (fun i => !P i) lo (n + 1) = addM (lst (fun i => !P i) lo n) (lo + n) := by simp [lst, hP]
      rw [e1, e2, h2]
      refine ⟨ho, by push_cast; omega, ?_⟩
      unfold tailS
      by_cases hf : (rst lo (lst P lo n)).2 ≤ lo + n - 1
      · rw [if_pos hf, if_pos (by push_cast; omega)]
        rw [addM_join]
        rw [show lo + ((n + 1 : Nat) : Int) - 1 = lo + n by push_cast; omega]
      · have he : (rst lo (lst P lo n)).2 = lo + n := by omega
        rw [if_neg hf, if_pos (by push_cast; omega), List.append_nil]
        rw [he] at ho ⊢
        rw [addM_off ho, show lo + ((n + 1 : Nat) : Int) - 1 = lo + n by push_cast; omega]
    · have e1 : lst P lo (n + 1) = addM (lst P lo n) (lo + n) := by simp [lst, hP]
      have e2 : lst (fun i => !P i) lo (n + 1) = lst (fun i => !P i) lo n := by simp [lst, hP]
      rw [e1, e2, h2]
      have hs1 : lo + ((n + 1 : Nat) : Int) - 1 = lo + n := by push_cast; omega
      have hs2 : lo + ((n + 1 : Nat) : Int) = lo + n + 1 := by push_cast; omega
      rcases last_cases (lst P lo n) with hl | ⟨l', s, hl⟩
      · rw [hl, addM_nil]
        have e3 : rst lo [] = ([], lo) := rfl
        have e4 : rst lo [⟨lo + n, lo + n⟩] = (if lo < lo + n then [⟨lo, lo + n - 1⟩] else [], lo + n + 1) := by simp [rst, rstS]
        rw [e3, e4, hs1, hs2]
        refine ⟨by simp only; split; exact off_add [] _ (by simp only; omega); exact off_nil _, Int.le_refl _, ?_⟩
        simp only [tailS]
        rw [if_neg (show ¬ lo + (n : Int) + 1 ≤ lo + n by omega)]
        by_cases hn : lo ≤ lo + (n : Int) - 1
        · rw [if_pos hn, if_pos (by omega)]; simp
        · rw [if_neg hn, if_neg (by omega)]
      · have hsm := hmem s (by rw [hl]; simp)
        rw [hl] at h1 ho ⊢
        by_cases hj : s.hi = lo + n - 1
        · have e5 : l' ++ [s] = l' ++ [⟨s.lo, lo + n - 1⟩] := by rw [← hj]
          rw [rst_snoc] at ho
          rw [e5, addM_join, rst_snoc, rst_snoc, hs1, hs2]
          unfold rstS at ho ⊢
          simp only at ho ⊢
          refine ⟨ho.more (by omega), Int.le_refl _, ?_⟩
          rw [show lo + (n : Int) - 1 + 1 = lo + n by omega]
          simp only [tailS]
          rw [if_neg (show ¬ lo + (n : Int) ≤ lo + n - 1 by omega), if_neg (show ¬ lo + (n : Int) + 1 ≤ lo + n by omega)]
        · rw [addM_new l' s (lo + n) (by omega), rst_snoc, hs1, hs2]
          generalize he : rst lo (l' ++ [s]) = R at *
          have h3 : R.2 = s.hi + 1 := by rw [← he, rst_snoc]; rfl
          unfold rstS
          simp only
          refine ⟨by rw [if_pos (show R.2 < lo + n by omega)]; exact off_add _ _ (by simp only; omega), Int.le_refl _, ?_⟩
          simp only [tailS]
          rw [if_neg (show ¬ lo + (n : Int) + 1 ≤ lo + n by omega), if_pos (show R.2 < lo + n by omega), if_pos (show R.2 ≤ lo + n - 1 by omega)]
          simp
/-- Rest -/
def restX (S : Mn) (lo hi : Int) : List Sp := if spnE S lo hi = 0 then listed (lst (fun i => !mem S i) lo (spN lo hi)) else []
def restE (S : Mn) (lo hi : Int) : Int := if spnE S lo hi = 0 then listedE (lst (fun i => !mem S i) lo (spN lo hi)) else spnE S lo hi
theorem rest_all {P : Int → Bool} {lo hi : Int} (h : lo ≤ hi) : lst (fun i => !P i) lo (spN lo hi) = (rst lo (lst P lo (spN lo hi))).1 ++ tailS (rst lo (lst P lo (spN lo hi))).2 hi := by
  have := (rst_lst P lo (spN lo hi)).2.2
  rw [show lo + (spN lo hi : Int) - 1 = hi by unfold spN; omega] at this
  exact this

/-- the first minute of a span that is not in a set -/
def covN (P : Int → Bool) (lo : Int) (n : Nat) : Option Nat := (List.range n).find? (fun i => !P (lo + i))
theorem covN_hit {P : Int → Bool} {lo : Int} {n i : Nat} (h : i < n) (h1 : P (lo + i) = false) (h2 : ∀ j, j < i → P (lo + j) = true) : covN P lo n = some i := by
  unfold covN
  rw [List.find?_range_eq_some]
  exact ⟨by simp [h1], by simpa using h, fun j hj => by simp [h2 j hj]⟩
theorem covN_miss {P : Int → Bool} {lo : Int} {n : Nat} (h : ∀ j, j < n → P (lo + j) = true) : covN P lo n = none := by
  unfold covN
  rw [List.find?_eq_none]
  intro j hj
  simp [h j (by simpa using hj)]
def covX (S : Mn) (lo hi : Int) : Int := if spnE S lo hi = 0 then (match covN (mem S) lo (spN lo hi) with | some i => lo + i | none => 0) else 0
def covB (S : Mn) (lo hi : Int) : Bool := if spnE S lo hi = 0 then (covN (mem S) lo (spN lo hi)).isNone else false

/-- the first minute in which two sets part -/
def samN (A B : Mn) : Option Nat := (List.range 1048577).find? (fun i => mem A i != mem B i)
def SamTo (A B : Mn) (n : Int) : Prop := ∀ i : Int, 0 ≤ i → i < n → mem A i = mem B i
theorem samN_hit {A B : Mn} {i : Int} (h0 : 0 ≤ i) (h : i ≤ 1048576) (h1 : mem A i ≠ mem B i) (h2 : SamTo A B i) : samN A B = some i.toNat := by
  unfold samN
  rw [List.find?_range_eq_some]
  refine ⟨?_, ?_, fun j hj => ?_⟩
  · rw [show ((i.toNat : Nat) : Int) = i by omega]; simpa using h1
  · simp; omega
  · have := h2 j (by omega) (by omega); simp [this]
theorem samN_miss {A B : Mn} (h2 : SamTo A B 1048577) : samN A B = none := by
  unfold samN
  rw [List.find?_eq_none]
  intro j hj
  have := h2 j (by omega) (by have : j < 1048577 := by simpa using hj
                              omega)
  simp [this]
theorem SamTo.to {A B : Mn} {n m : Int} (h : SamTo A B n) (h2 : ∀ i, n ≤ i → i < m → mem A i = mem B i) : SamTo A B m := by
  intro i h0 hi
  rcases Int.lt_or_le i n with h3 | h3
  · exact h i h0 h3
  · exact h2 i h3 hi
def samE (A B : Mn) : Int := or2 (chkE A) (chkE B)
def samX (A B : Mn) : Int := if samE A B = 0 then (match samN A B with | some i => (i : Int) | none => 0) else 0
def samB (A B : Mn) : Bool := if samE A B = 0 then (samN A B).isNone else false
theorem sam_ok {A B : Mn} (h : samE A B = 0) : chkE A = 0 ∧ chkE B = 0 := by
  unfold samE or2 at h
  split at h
  · exact absurd h ‹_›
  · exact ⟨by omega, h⟩
theorem sam_part {A B : Mn} {m : Int} (h : samE A B = 0) (hN : samN A B = some m.toNat) (h0 : 0 ≤ m) : samX A B = m ∧ samB A B = false := by
  unfold samX samB
  rw [if_pos h, if_pos h, hN]
  exact ⟨by simp; omega, rfl⟩
theorem sam_all {A B : Mn} (h : samE A B = 0) (hN : samN A B = none) : samX A B = 0 ∧ samB A B = true := by
  unfold samX samB
  rw [if_pos h, if_pos h, hN]
  exact ⟨rfl, rfl⟩
/-- a round of Same: the next minutes part, or both are behind all -/
theorem sam_next {A B : Mn} (hA : Ok A) (hB : Ok B) {n : Int} (hn : n ≤ 1048577) (h0 : 0 ≤ n) (hS : SamTo A B n) (h : nextF A n ≠ nextF B n ∨ 1048576 < nextF A n) :
    (min (nextF A n) (nextF B n) ≤ 1048576 → samN A B = some (min (nextF A n) (nextF B n)).toNat ∧ 0 ≤ min (nextF A n) (nextF B n)) ∧ (1048576 < min (nextF A n) (nextF B n) → samN A B = none) := by
  obtain ⟨a1, a2, a3, a4⟩ := nextF_spec hA n (by omega)
  obtain ⟨b1, b2, b3, b4⟩ := nextF_spec hB n (by omega)
  generalize nextF A n = one at *
  generalize nextF B n = two at *
  have hS' : SamTo A B (min one two) := hS.to (fun i h1 h2 => by rw [a3 i h1 (by omega), b3 i h1 (by omega)])
  refine ⟨fun hm => ⟨samN_hit (by omega) hm ?_ hS', by omega⟩, fun hm => samN_miss (hS.to fun i h1 h2 => by rw [a3 i h1 (by omega), b3 i h1 (by omega)])⟩
  rcases Int.lt_or_le one two with hlt | hge
  · rw [show min one two = one by omega]
    rw [b3 one a1 hlt]
    rcases a4 with e | ⟨e, _⟩
    · omega
    · rw [e]; simp
  · have hlt2 : two < one := by rcases h with h | h <;> omega
    rw [show min one two = two by omega]
    rw [a3 two b1 hlt2]
    rcases b4 with e | ⟨e, _⟩
    · omega
    · rw [e]; simp
theorem sam_run {A B : Mn} (hA : Ok A) (hB : Ok B) {n one : Int} (h0 : 0 ≤ n) (hn : n ≤ 1048577) (hS : SamTo A B n) (h1 : nextF A n = one) (h2 : nextF B n = one) (h3 : one ≤ 1048576) :
    n ≤ one ∧ one ≤ runEnd A one 1048576 ∧ one ≤ runEnd B one 1048576 ∧ runEnd A one 1048576 ≤ 1048576 ∧ runEnd B one 1048576 ≤ 1048576 ∧
    (runEnd A one 1048576 = runEnd B one 1048576 → SamTo A B (runEnd A one 1048576 + 1)) ∧
    (runEnd A one 1048576 ≠ runEnd B one 1048576 → samN A B = some (min (runEnd A one 1048576) (runEnd B one 1048576) + 1).toNat) := by
  obtain ⟨a1, a2, a3, a4⟩ := nextF_spec hA n (by omega)
  obtain ⟨b1, b2, b3, b4⟩ := nextF_spec hB n (by omega)
  rw [h1] at a1 a2 a3 a4
  rw [h2] at b1 b2 b3 b4
  obtain ⟨c1, c2, c3, c4⟩ := runEnd_spec (S := A) (n := one) (limit := 1048576) (by omega)
  obtain ⟨d1, d2, d3, d4⟩ := runEnd_spec (S := B) (n := one) (limit := 1048576) (by omega)
  have e1 : mem A one = true := by rcases a4 with e | ⟨e, _⟩; omega; exact e
  have e2 : mem B one = true := by rcases b4 with e | ⟨e, _⟩; omega; exact e
  have f1 : one ≤ runEnd A one 1048576 := by
    rcases c4 with e | e
    · omega
    · rcases Int.lt_or_le (runEnd A one 1048576) one with hlt | hge
      · rw [show runEnd A one 1048576 + 1 = one by omega, e1] at e; cases e
      · exact hge
  have f2 : one ≤ runEnd B one 1048576 := by
    rcases d4 with e | e
    · omega
    · rcases Int.lt_or_le (runEnd B one 1048576) one with hlt | hge
      · rw [show runEnd B one 1048576 + 1 = one by omega, e2] at e; cases e
      · exact hge
  generalize runEnd A one 1048576 = x at *
  generalize runEnd B one 1048576 = y at *
  have hS1 : SamTo A B one := hS.to (fun i g1 g2 => by rw [a3 i g1 g2, b3 i g1 g2])
  have hS2 : SamTo A B (min x y + 1) := hS1.to (fun i g1 g2 => by rw [c3 i g1 (by omega), d3 i g1 (by omega)])
  refine ⟨a1, f1, f2, c2, d2, fun e => ?_, fun hne => ?_⟩
  · subst e; simpa using hS2
  · refine samN_hit (by omega) (by omega) ?_ hS2
    rcases Int.lt_or_le x y with hlt | hge
    · rw [show min x y = x by omega]
      rcases c4 with e | e
      · omega
      · rw [e, d3 (x + 1) (by omega) (by omega)]; simp
    · rw [show min x y = y by omega]
      rcases d4 with e | e
      · omega
      · rw [e, c3 (y + 1) (by omega) (by omega)]; simp
end Go.Proofs.YtejcmdoalhnpeaaGreatDoor
