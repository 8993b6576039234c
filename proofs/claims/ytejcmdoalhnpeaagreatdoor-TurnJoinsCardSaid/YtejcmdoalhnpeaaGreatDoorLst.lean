/- Plain laws of lists of spans: the integers with a property, from one on, as the fewest spans ('lst'). No program in sight. -/
import Derived.Test.YtejcmdoalhnpeaaGreatDoorOft
namespace Go.Proofs.YtejcmdoalhnpeaaGreatDoor

/-- spans with one integer more, behind them -/
def addM (l : List Sp) (m : Int) : List Sp :=
  match l.getLast? with
  | some s => if s.hi = m - 1 then l.dropLast ++ [⟨s.lo, m⟩] else l ++ [⟨m, m⟩]
  | none => [⟨m, m⟩]
/-- the integers with a property, so many from one on -/
def lst (P : Int → Bool) (lo : Int) : Nat → List Sp
  | 0 => []
  | n + 1 => if P (lo + n) then addM (lst P lo n) (lo + n) else lst P lo n
theorem addM_nil (m : Int) : addM [] m = [⟨m, m⟩] := rfl
theorem addM_join (l : List Sp) (a m : Int) : addM (l ++ [⟨a, m - 1⟩]) m = l ++ [⟨a, m⟩] := by simp [addM]
theorem addM_new (l : List Sp) (s : Sp) (m : Int) (h : s.hi < m - 1) : addM (l ++ [s]) m = l ++ [s] ++ [⟨m, m⟩] := by
  simp only [addM, List.getLast?_append, List.getLast?_singleton, Option.some_or]
  rw [if_neg (by omega)]
theorem addM_len (l : List Sp) (m : Int) : l.length ≤ (addM l m).length ∧ (addM l m).length ≤ l.length + 1 := by
  rcases List.eq_nil_or_concat l with rfl | ⟨l', s, rfl⟩
  · simp [addM]
  · simp only [addM, List.concat_eq_append, List.getLast?_append, List.getLast?_singleton, Option.some_or]
    split <;> simp
theorem lst_hi (P : Int → Bool) (lo : Int) (n : Nat) : ∀ s ∈ lst P lo n, lo ≤ s.lo ∧ s.lo ≤ s.hi ∧ s.hi < lo + n := by
  induction n with
  | zero => intro s hs; simp [lst] at hs
  | succ n ih =>
    intro s hs
    simp only [lst] at hs
    split at hs
    · rcases List.eq_nil_or_concat (lst P lo n) with e | ⟨l', t, e⟩
      · rw [e] at hs; simp [addM] at hs; subst hs; simp; omega
      · rw [List.concat_eq_append] at e
        rw [e] at hs ih
        simp only [addM, List.getLast?_append, List.getLast?_singleton, Option.some_or] at hs
        have ht := ih t (by simp)
        split at hs
        · simp only [List.dropLast_concat, List.mem_append, List.mem_singleton] at hs
          rcases hs with hs | rfl
          · have := ih s (by simp [hs]); omega
          · simp; omega
        · simp only [List.mem_append, List.mem_singleton] at hs
          rcases hs with hs | rfl
          · have := ih s (by simpa using hs); omega
          · simp; omega
    · have := ih s hs; omega
theorem lst_len (P : Int → Bool) (lo : Int) (n d : Nat) : (lst P lo n).length ≤ (lst P lo (n + d)).length := by
  induction d with
  | zero => exact Nat.le_refl _
  | succ d ih =>
    refine Nat.le_trans ih ?_
    show _ ≤ (if P (lo + ((n + d : Nat) : Int)) then addM (lst P lo (n + d)) (lo + ((n + d : Nat) : Int)) else lst P lo (n + d)).length
    split
    · exact (addM_len _ _).1
    · exact Nat.le_refl _
theorem lst_len_le (P : Int → Bool) (lo : Int) (n : Nat) : (lst P lo n).length ≤ n := by
  induction n with
  | zero => simp [lst]
  | succ n ih =>
    simp only [lst]
    split
    · have := (addM_len (lst P lo n) (lo + n)).2; omega
    · omega
theorem lst_skip {P : Int → Bool} {lo : Int} {n d : Nat} (h : ∀ k : Nat, n ≤ k → k < n + d → P (lo + k) = false) : lst P lo (n + d) = lst P lo n := by
  induction d with
  | zero => rfl
  | succ d ih =>
    have h1 := ih (fun k h1 h2 => h k h1 (by omega))
    rw [← h1]
    show (if P (lo + ((n + d : Nat) : Int)) then _ else _) = _
    rw [h (n + d) (by omega) (by omega)]
    rfl
/-- the last one ends before -/
def Off (l : List Sp) (m : Int) : Prop := ∀ l' s, l = l' ++ [s] → s.hi < m - 1
theorem lst_off {P : Int → Bool} {lo : Int} {n : Nat} (h : n = 0 ∨ P (lo + n - 1) = false) : Off (lst P lo n) (lo + n) := by
  intro l' s e
  rcases h with h | h
  · subst h; simp [lst] at e
  · cases n with
    | zero => simp [lst] at e
    | succ n =>
      have h1 : lo + ((n + 1 : Nat) : Int) - 1 = lo + n := by omega
      rw [h1] at h
      simp only [lst, h] at e
      have := lst_hi P lo n s (by simp only [Bool.false_eq_true, if_false] at e; rw [e]; simp)
      omega
theorem addM_off {l : List Sp} {m : Int} (h : Off l m) : addM l m = l ++ [⟨m, m⟩] := by
  rcases List.eq_nil_or_concat l with rfl | ⟨l', s, rfl⟩
  · rfl
  · rw [List.concat_eq_append]; exact addM_new _ _ _ (h l' s (by simp))
theorem lst_more {P : Int → Bool} {lo : Int} {n d : Nat} {l : List Sp} {a : Int} (h0 : lst P lo n = l ++ [⟨a, lo + n - 1⟩]) (h : ∀ k : Nat, n ≤ k → k < n + d → P (lo + k) = true) : lst P lo (n + d) = l ++ [⟨a, lo + n + d - 1⟩] := by
  induction d with
  | zero => simpa using h0
  | succ d ih =>
    have h1 := ih (fun k h1 h2 => h k h1 (by omega))
    show (if P (lo + ((n + d : Nat) : Int)) then addM (lst P lo (n + d)) (lo + ((n + d : Nat) : Int)) else _) = _
    rw [h (n + d) (by omega) (by omega), if_pos rfl, h1]
    have e : lo + (n : Int) + (d : Int) - 1 = lo + ((n + d : Nat) : Int) - 1 := by omega
    rw [e, addM_join]
    congr 3
    omega
theorem lst_run {P : Int → Bool} {lo : Int} {n d : Nat} (h0 : Off (lst P lo n) (lo + n)) (h : ∀ k : Nat, n ≤ k → k < n + d + 1 → P (lo + k) = true) : lst P lo (n + d + 1) = lst P lo n ++ [⟨lo + n, lo + n + d⟩] := by
  have h1 : lst P lo (n + 1) = lst P lo n ++ [⟨lo + n, lo + ((n + 1 : Nat) : Int) - 1⟩] := by
    show (if P (lo + n) then addM (lst P lo n) (lo + n) else _) = _
    rw [h n (by omega) (by omega), if_pos rfl, addM_off h0]
    congr 3
    omega
  have h2 := lst_more (d := d) h1 (fun k h1 h2 => h k (by omega) (by omega))
  rw [show n + d + 1 = n + 1 + d from by omega, h2]
  congr 3
  omega
theorem lst_split {P : Int → Bool} {lo : Int} {n d : Nat} (h : d = 0 ∨ P (lo + n) = false) : ∃ r, lst P lo (n + d) = lst P lo n ++ r := by
  induction d with
  | zero => exact ⟨[], by simp⟩
  | succ d ih =>
    have hp : P (lo + n) = false := h.resolve_left (by omega)
    obtain ⟨r, hr⟩ := ih (.inr hp)
    by_cases h1 : P (lo + ((n + d : Nat) : Int)) = true
    · have e : lst P lo (n + (d + 1)) = addM (lst P lo (n + d)) (lo + ((n + d : Nat) : Int)) := by
        show (if P (lo + ((n + d : Nat) : Int)) then addM (lst P lo (n + d)) (lo + ((n + d : Nat) : Int)) else lst P lo (n + d)) = _
        rw [if_pos h1]
      rw [e, hr]
      rcases List.eq_nil_or_concat r with rfl | ⟨r', s, rfl⟩
      · rw [List.append_nil]
        have hd : d ≠ 0 := by intro hd; subst hd; simp [hp] at h1
        refine ⟨[⟨lo + ((n + d : Nat) : Int), lo + ((n + d : Nat) : Int)⟩], addM_off ?_⟩
        intro l' s hs
        have := lst_hi P lo n s (by rw [hs]; simp)
        omega
      · rw [List.concat_eq_append, ← List.append_assoc]
        simp only [addM, List.getLast?_append, List.getLast?_singleton, Option.some_or]
        split
        · exact ⟨r' ++ [⟨s.lo, lo + ((n + d : Nat) : Int)⟩], by simp⟩
        · exact ⟨r' ++ [s] ++ [⟨lo + ((n + d : Nat) : Int), lo + ((n + d : Nat) : Int)⟩], by simp⟩
    · refine ⟨r, ?_⟩
      rw [← hr]
      show (if P (lo + ((n + d : Nat) : Int)) then addM (lst P lo (n + d)) (lo + ((n + d : Nat) : Int)) else lst P lo (n + d)) = _
      rw [if_neg h1]
/-- how many integers have a property -/
def cntP (P : Int → Bool) (lo : Int) (n : Nat) : Int := sumI n (fun i => ind (P (lo + i)))
theorem cntP_bound (P : Int → Bool) (lo : Int) (n : Nat) : 0 ≤ cntP P lo n ∧ cntP P lo n ≤ n := by
  have := sumI_bound n (fun i => ind (P (lo + i))) 1 (fun i _ => ind_range _)
  unfold cntP; omega
/-- how many integers spans have -/
def sizeL (l : List Sp) : Int := l.foldl (fun o s => o + (s.hi - s.lo + 1)) 0
theorem sizeL_append (l : List Sp) (s : Sp) : sizeL (l ++ [s]) = sizeL l + (s.hi - s.lo + 1) := by simp [sizeL]
theorem sizeL_addM (l : List Sp) (m : Int) : sizeL (addM l m) = sizeL l + 1 := by
  rcases List.eq_nil_or_concat l with rfl | ⟨l', s, rfl⟩
  · simp [addM, sizeL]
  · rw [List.concat_eq_append]
    simp only [addM, List.getLast?_append, List.getLast?_singleton, Option.some_or]
    split
    · rename_i h; rw [List.dropLast_concat, sizeL_append, sizeL_append]; simp; omega
    · rw [sizeL_append]; simp
theorem sizeL_lst (P : Int → Bool) (lo : Int) (n : Nat) : sizeL (lst P lo n) = cntP P lo n := by
  induction n with
  | zero => simp [lst, sizeL, cntP, sumI]
  | succ n ih =>
    simp only [lst, cntP, sumI] at *
    split
    · rename_i h; rw [sizeL_addM, ih, h]; simp [ind]
    · rename_i h; rw [ih]; simp [ind, h]

end Go.Proofs.YtejcmdoalhnpeaaGreatDoor
