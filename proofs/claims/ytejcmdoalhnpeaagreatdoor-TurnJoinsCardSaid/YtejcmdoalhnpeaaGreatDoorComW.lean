/- Common and Covers of the program; the laws' own brief, long, within, apart; plain laws of how the fewest spans lie and what they hold. -/
import Derived.Test.YtejcmdoalhnpeaaGreatDoorComP
import Derived.Test.YtejcmdoalhnpeaaGreatDoorNextP
import Derived.Test.YtejcmdoalhnpeaaGreatDoorRestW
namespace Go.Proofs.YtejcmdoalhnpeaaGreatDoor
open Go.RowKit Go.Shelf

theorem cov_ways {S : Mn} {lo hi : Int} (h : spnE S lo hi = 0) : (runEnd S lo hi < hi → covX S lo hi = runEnd S lo hi + 1 ∧ covB S lo hi = false) ∧ (¬ runEnd S lo hi < hi → covX S lo hi = 0 ∧ covB S lo hi = true) := by
  obtain ⟨hok, b1, b2, b3⟩ := spn_ok h
  obtain ⟨c1, c2, c3, c4⟩ := runEnd_spec (S := S) (n := lo) (limit := hi) (by omega)
  unfold covX covB
  rw [if_pos h, if_pos h]
  constructor
  · intro hlt
    have e : mem S (runEnd S lo hi + 1) = false := by rcases c4 with e | e; omega; exact e
    rw [covN_hit (i := (runEnd S lo hi + 1 - lo).toNat) (by unfold spN; omega) (by rw [show lo + ((runEnd S lo hi + 1 - lo).toNat : Int) = runEnd S lo hi + 1 by omega]; exact e) (fun j hj => c3 _ (by omega) (by omega))]
    exact ⟨by simp only; omega, rfl⟩
  · intro hge
    rw [covN_miss (fun j hj => c3 _ (by omega) (by unfold spN at hj; omega))]
    exact ⟨rfl, rfl⟩
/-- how far all has been in the set -/
def CovTo (P : Int → Bool) (lo : Int) (k : Nat) : Prop := ∀ j : Nat, j < k → P (lo + j) = true
theorem CovTo.succ {P : Int → Bool} {lo : Int} {k : Nat} (h : CovTo P lo k) (h1 : P (lo + k) = true) : CovTo P lo (k + 1) := by
  intro j hj
  by_cases e : j = k
  · subst e; exact h1
  · exact h j (by omega)
theorem cov_hit {S : Mn} {lo hi : Int} {k : Nat} (h0 : spnE S lo hi = 0) (hk : k < spN lo hi) (h1 : mem S (lo + k) = false) (h2 : CovTo (mem S) lo k) : covX S lo hi = lo + k ∧ covB S lo hi = false := by
  unfold covX covB
  rw [if_pos h0, if_pos h0, covN_hit hk h1 h2]
  exact ⟨rfl, rfl⟩
theorem cov_full {S : Mn} {lo hi : Int} (h0 : spnE S lo hi = 0) (h2 : CovTo (mem S) lo (spN lo hi)) : covX S lo hi = 0 ∧ covB S lo hi = true := by
  unfold covX covB
  rw [if_pos h0, if_pos h0, covN_miss h2]
  exact ⟨rfl, rfl⟩
theorem cov_none {S : Mn} {lo hi : Int} (h0 : spnE S lo hi ≠ 0) : covX S lo hi = 0 ∧ covB S lo hi = false := by
  unfold covX covB
  rw [if_neg h0, if_neg h0]
  exact ⟨rfl, rfl⟩
theorem cntP_t {P : Int → Bool} {lo : Int} {k : Nat} (h : P (lo + k) = true) : cntP P lo (k + 1) = cntP P lo k + 1 := by
  simp only [cntP, sumI, h, ind]; simp
theorem cntP_f {P : Int → Bool} {lo : Int} {k : Nat} (h : P (lo + k) = false) : cntP P lo (k + 1) = cntP P lo k := by
  simp only [cntP, sumI, h, ind]; simp

/-- spans in order, that do not touch -/
def AptOk (l : List Sp) : Prop := ∀ i (h : i < l.length), l[i].lo ≤ l[i].hi ∧ ∀ (_ : 0 < i), l[i - 1].hi + 2 ≤ l[i].lo
theorem apt_nil : AptOk [] := fun i h => by simp at h
theorem apt_snoc {l : List Sp} {s : Sp} (h : AptOk l) (h1 : s.lo ≤ s.hi) (h2 : Off l s.lo) : AptOk (l ++ [s]) := by
  intro i hi
  by_cases hlt : i < l.length
  · have h3 := h i hlt
    refine ⟨by rw [List.getElem_append_left hlt]; exact h3.1, fun h0 => ?_⟩
    rw [List.getElem_append_left hlt, List.getElem_append_left (by omega)]
    exact h3.2 h0
  · have he : i = l.length := by simp at hi; omega
    subst he
    refine ⟨by simpa using h1, fun h0 => ?_⟩
    rcases last_cases l with rfl | ⟨l', t, rfl⟩
    · simp at h0
    · have h4 := h2 l' t rfl
      rw [List.getElem_append_left (by omega)]
      simp only [List.length_append, List.length_singleton, Nat.add_sub_cancel, List.getElem_concat_length]
      omega
theorem apt_head {l : List Sp} {s : Sp} (h : AptOk (l ++ [s])) : AptOk l ∧ s.lo ≤ s.hi ∧ Off l s.lo := by
  refine ⟨fun i hi => ?_, ?_, fun l' t e => ?_⟩
  · have := h i (by simp; omega)
    rw [List.getElem_append_left hi] at this
    refine ⟨this.1, fun h0 => ?_⟩
    have h3 := this.2 h0
    rw [List.getElem_append_left (by omega)] at h3
    exact h3
  · have := (h l.length (by simp)).1
    simpa using this
  · subst e
    have := (h (l' ++ [t]).length (by simp)).2 (by simp)
    rw [List.getElem_append_left (by simp)] at this
    simp at this
    omega
theorem lst_apt (P : Int → Bool) (lo : Int) (n : Nat) : AptOk (lst P lo n) := by
  induction n with
  | zero => exact apt_nil
  | succ n ih =>
    have hh := lst_hi P lo n
    simp only [lst]
    split
    · rcases last_cases (lst P lo n) with e | ⟨l', s, e⟩
      · rw [e, addM_nil]; exact apt_snoc (l := []) apt_nil (Int.le_refl _) (off_nil _)
      · rw [e] at ih hh ⊢
        have hs := hh s (by simp)
        obtain ⟨a1, a2, a3⟩ := apt_head ih
        by_cases hj : s.hi = lo + n - 1
        · have e5 : l' ++ [s] = l' ++ [⟨s.lo, lo + n - 1⟩] := by rw [← hj]
          rw [e5, addM_join]
          exact apt_snoc a1 (by simp only; omega) a3
        · rw [addM_new l' s (lo + n) (by omega)]
          exact apt_snoc ih (Int.le_refl _) (off_add _ _ (by simp only; omega))
    · exact ih

/-- a minute is in one of some spans -/
def anyIn (l : List Sp) (m : Int) : Bool := l.any (fun s => decide (s.lo ≤ m) && decide (m ≤ s.hi))
theorem anyIn_snoc (l : List Sp) (s : Sp) (m : Int) : anyIn (l ++ [s]) m = (anyIn l m || (decide (s.lo ≤ m) && decide (m ≤ s.hi))) := by simp [anyIn]
theorem lst_any (P : Int → Bool) (lo : Int) (n : Nat) (m : Int) : anyIn (lst P lo n) m = (decide (lo ≤ m) && decide (m < lo + n) && P m) := by
  induction n with
  | zero =>
    simp only [lst, anyIn, List.any_nil]
    by_cases h : lo ≤ m
    · rw [decide_eq_false (show ¬ m < lo + ((0 : Nat) : Int) by simp; omega)]; simp
    · rw [decide_eq_false h]; simp
  | succ n ih =>
    have hh := lst_hi P lo n
    have hor : anyIn (addM (lst P lo n) (lo + n)) m = (anyIn (lst P lo n) m || decide (m = lo + n)) := by
      rcases last_cases (lst P lo n) with e | ⟨l', s, e⟩
      · rw [e, addM_nil]
        simp only [anyIn, List.any_cons, List.any_nil, Bool.or_false, Bool.false_or]
        rw [Bool.eq_iff_iff]; simp only [Bool.and_eq_true, decide_eq_true_eq]; omega
      · rw [e] at hh ⊢
        have hs := hh s (by simp)
        by_cases hj : s.hi = lo + n - 1
        · have e5 : l' ++ [s] = l' ++ [⟨s.lo, lo + n - 1⟩] := by rw [← hj]
          rw [e5, addM_join, anyIn_snoc, anyIn_snoc]
          cases anyIn l' m
          · rw [Bool.eq_iff_iff]; simp only [Bool.false_or, Bool.or_eq_true, Bool.and_eq_true, decide_eq_true_eq]; omega
          · simp
        · rw [addM_new l' s (lo + n) (by omega), anyIn_snoc]
          congr 1
          rw [Bool.eq_iff_iff]; simp only [Bool.and_eq_true, decide_eq_true_eq]; omega
    by_cases hm : m = lo + n
    · subst hm
      have e1 : decide (lo + (n : Int) < lo + n) = false := decide_eq_false (by omega)
      have e2 : decide (lo + (n : Int) < lo + ((n + 1 : Nat) : Int)) = true := decide_eq_true (by omega)
      have e3 : decide (lo ≤ lo + (n : Int)) = true := decide_eq_true (by omega)
      rw [e1] at ih
      rw [e2, e3]
      simp only [lst]
      split
      · rename_i h; rw [hor, h]; simp
      · rename_i h; rw [ih]; simp [h]
    · have e1 : decide (m < lo + (n : Int)) = decide (m < lo + ((n + 1 : Nat) : Int)) := by rw [decide_eq_decide]; omega
      rw [← e1, ← ih]
      simp only [lst]
      split
      · rw [hor, decide_eq_false hm, Bool.or_false]
      · rfl
theorem lst_half (P : Int → Bool) (lo : Int) (n : Nat) : 2 * (lst P lo n).length ≤ n + 1 ∧ (Off (lst P lo n) (lo + n) → 2 * (lst P lo n).length ≤ n) := by
  induction n with
  | zero => simp [lst]
  | succ n ih =>
    obtain ⟨h1, h2⟩ := ih
    have hh := lst_hi P lo n
    simp only [lst]
    split
    · rcases last_cases (lst P lo n) with e | ⟨l', s, e⟩
      · rw [e] at h2 ⊢
        rw [addM_nil]
        refine ⟨by simp, fun ho => ?_⟩
        have := ho [] ⟨lo + n, lo + n⟩ rfl
        simp only at this
        omega
      · rw [e] at h1 h2 hh ⊢
        have hs := hh s (by simp)
        by_cases hj : s.hi = lo + n - 1
        · have e5 : l' ++ [s] = l' ++ [⟨s.lo, lo + n - 1⟩] := by rw [← hj]
          rw [e5, addM_join]
          simp only [List.length_append, List.length_singleton] at h1 ⊢
          refine ⟨by omega, fun ho => ?_⟩
          have := ho l' ⟨s.lo, lo + n⟩ rfl
          simp only at this
          omega
        · have h3 := h2 (off_add l' s (by omega))
          rw [addM_new l' s (lo + n) (by omega)]
          simp only [List.length_append, List.length_singleton] at h3 ⊢
          refine ⟨by omega, fun ho => ?_⟩
          have := ho (l' ++ [s]) ⟨lo + n, lo + n⟩ rfl
          simp only at this
          omega
    · exact ⟨by omega, fun _ => by omega⟩
theorem lst_short {P : Int → Bool} {lo hi : Int} (h : hi - lo < 2500) : (lst P lo (spN lo hi)).length ≤ 1250 := by
  have := (lst_half P lo (spN lo hi)).1
  unfold spN at *
  omega
theorem listed_short {l : List Sp} (h : l.length ≤ 1250) : listed l = l ∧ listedE l = 0 := by
  unfold listed listedE
  rw [if_neg (by omega), if_neg (by omega)]
  exact ⟨rfl, rfl⟩
theorem cnt_both (P : Int → Bool) (lo : Int) (n : Nat) : cntP P lo n + cntP (fun i => !P i) lo n = n := by
  induction n with
  | zero => simp [cntP, sumI]
  | succ n ih =>
    cases h : P (lo + n)
    · rw [cntP_f h, cntP_t (P := fun i => !P i) (by simp [h])]; omega
    · rw [cntP_t h, cntP_f (P := fun i => !P i) (by simp [h])]; omega
theorem addM_first (s : Sp) (r : List Sp) (m : Int) : ∃ s' r', addM (s :: r) m = s' :: r' ∧ s'.lo = s.lo := by
  rcases last_cases (s :: r) with e | ⟨l', t, e⟩
  · cases e
  · rw [e, addM_last]
    cases l' with
    | nil =>
      simp only [List.nil_append] at e ⊢
      have : s = t := by injection e
      subst this
      split
      · exact ⟨_, _, rfl, rfl⟩
      · exact ⟨_, _, rfl, rfl⟩
    | cons x l' =>
      have : s = x := by simp only [List.cons_append] at e; injection e
      subst this
      split
      · exact ⟨_, _, rfl, rfl⟩
      · exact ⟨_, _, rfl, rfl⟩
theorem lst_first {P : Int → Bool} {lo : Int} {k d : Nat} {s : Sp} {r : List Sp} (h : lst P lo k = s :: r) : ∃ s' r', lst P lo (k + d) = s' :: r' ∧ s'.lo = s.lo := by
  induction d with
  | zero => exact ⟨s, r, h, rfl⟩
  | succ d ih =>
    obtain ⟨s', r', h1, h2⟩ := ih
    show ∃ s'' r'', (if P (lo + ((k + d : Nat) : Int)) then addM (lst P lo (k + d)) (lo + ((k + d : Nat) : Int)) else lst P lo (k + d)) = s'' :: r'' ∧ s''.lo = s.lo
    split
    · rw [h1]
      obtain ⟨s3, r3, h3, h4⟩ := addM_first s' r' (lo + ((k + d : Nat) : Int))
      exact ⟨s3, r3, h3, by omega⟩
    · exact ⟨s', r', h1, h2⟩
/-- what Covers says is what Rest says -/
theorem cov_rest {S : Mn} {lo hi : Int} (h0 : spnE S lo hi = 0) :
    (covB S lo hi = true ∧ lst (fun i => !mem S i) lo (spN lo hi) = []) ∨ (covB S lo hi = false ∧ ∃ s r, lst (fun i => !mem S i) lo (spN lo hi) = s :: r ∧ s.lo = covX S lo hi) := by
  obtain ⟨N, hN⟩ : ∃ N, spN lo hi = N := ⟨_, rfl⟩
  have key : ∀ k, k ≤ N → CovTo (mem S) lo k ∨ ∃ i, i < k ∧ CovTo (mem S) lo i ∧ mem S (lo + i) = false := by
    intro k
    induction k with
    | zero => intro _; exact .inl (fun j hj => by omega)
    | succ k ih =>
      intro hk
      rcases ih (by omega) with h | ⟨i, h1, h2, h3⟩
      · cases hm : mem S (lo + k)
        · exact .inr ⟨k, by omega, h, hm⟩
        · exact .inl (h.succ hm)
      · exact .inr ⟨i, by omega, h2, h3⟩
  rw [hN]
  rcases key N (Nat.le_refl _) with h | ⟨i, h1, h2, h3⟩
  · left
    refine ⟨(cov_full h0 (by rw [hN]; exact h)).2, ?_⟩
    have := lst_skip (P := fun i => !mem S i) (lo := lo) (n := 0) (d := N) (fun k _ hk => by simp [h k (by omega)])
    rw [Nat.zero_add] at this
    rw [this]; rfl
  · right
    have hc := cov_hit h0 (by rw [hN]; exact h1) h3 h2
    refine ⟨hc.2, ?_⟩
    have e0 := lst_skip (P := fun i => !mem S i) (lo := lo) (n := 0) (d := i) (fun k _ hk => by simp [h2 k (by omega)])
    rw [Nat.zero_add] at e0
    have e1 : lst (fun i => !mem S i) lo (i + 1) = [⟨lo + i, lo + i⟩] := by
      rw [lst_t (by simp [h3]), e0]; rfl
    obtain ⟨s, r, e2, e3⟩ := lst_first (d := N - (i + 1)) e1
    rw [show i + 1 + (N - (i + 1)) = N by omega] at e2
    exact ⟨s, r, e2, by rw [e3, hc.1]⟩
theorem sizes {S : Mn} {lo hi : Int} (h : lo ≤ hi + 1) : sizeL (lst (mem S) lo (spN lo hi)) + sizeL (lst (fun i => !mem S i) lo (spN lo hi)) = hi - lo + 1 := by
  rw [sizeL_lst, sizeL_lst, cnt_both]
  unfold spN
  omega

theorem rets3 {a a' b b' c c' : Value} (h : a = a') (h' : b = b') (h'' : c = c') : Ending.returned (.tuple #[a, b, c]) = .returned (.tuple #[a', b', c']) := by rw [h, h', h'']





theorem comX_err {A B : Mn} {lo hi E : Int} (h : comE0 A B lo hi = E) (hE : E ≠ 0) : comX A B lo hi = [] ∧ comE A B lo hi = E := by
  unfold comX comE
  rw [h, if_neg hE, if_neg hE]
  exact ⟨rfl, rfl⟩
theorem comX_full {A B : Mn} {lo hi : Int} {k : Nat} (h : comE0 A B lo hi = 0) (hk : k ≤ spN lo hi) (hl : 2000 < (lst (both2 A B) lo k).length) : comX A B lo hi = [] ∧ comE A B lo hi = 2 := by
  have h1 := lst_len (both2 A B) lo k (spN lo hi - k)
  rw [show k + (spN lo hi - k) = spN lo hi by omega] at h1
  unfold comX comE listed listedE
  rw [if_pos h, if_pos h, if_pos (by omega), if_pos (by omega)]
  exact ⟨rfl, rfl⟩
theorem comX_ok {A B : Mn} {lo hi : Int} {k : Nat} (h : comE0 A B lo hi = 0) (hk : k = spN lo hi) (hl : (lst (both2 A B) lo k).length ≤ 2000) : comX A B lo hi = lst (both2 A B) lo k ∧ comE A B lo hi = 0 := by
  subst hk
  unfold comX comE listed listedE
  rw [if_pos h, if_pos h, if_neg (by omega), if_neg (by omega)]
  exact ⟨rfl, rfl⟩

theorem row_add {base : Nat} {W : World} {v' : Value} {l : List Sp} {x y : Int} (h : W.ownsRow base 45 2 v' (l.length + 1) (cellsS l ++ [.int .i64 x, .int .i64 y])) : RowS base v' (l ++ [⟨x, y⟩]) W := by
  unfold RowS
  rw [List.length_append, List.length_singleton, cellsS_append]
  exact h

end Go.Proofs.YtejcmdoalhnpeaaGreatDoor
