/- divided of the specification: what it computes. No program in sight. -/
import Derived.Test.YthopgonbndoidaaVRPen
namespace Go.Proofs.Ythopgonbndoidaa
open Go.RowKit Go.Shelf

theorem sumI_from (l : List Int) (n : Int) : l.foldl (· + ·) n = n + sumI l := by
  induction l generalizing n with
  | nil => simp [sumI]
  | cons p l ih => simp only [List.foldl_cons, sumI]; rw [ih, ih (0 + p)]; omega
theorem sumI_cons (p : Int) (l : List Int) : sumI (p :: l) = p + sumI l := by
  show (p :: l).foldl _ 0 = _
  rw [List.foldl_cons, sumI_from]; omega
theorem sumI_append (l r : List Int) : sumI (l ++ r) = sumI l + sumI r := by
  unfold sumI
  rw [List.foldl_append, sumI_from]
  rfl
/-- one number of a division -/
def celB (T : Tr) (k i : Nat) (x : Int) : Bool := inB x 0 1073741824 && (usB T.rs (T.ps.getD i ⟨0, 0, 0⟩).reach k || !(decide (0 < x)))
def rowB (T : Tr) (k : Nat) (row : List Int) : Bool := (List.range row.length).all (fun i => celB T k i (row.getD i 0))
def toB (T : Tr) (k : Nat) (row : List Int) : Bool := !(decide (0 < (usrL T.rs k T.ps).length)) || sumI row == cst T.rs k
def linB (T : Tr) (n k : Nat) (row : List Int) : Bool := decide (row.length = n) && (rowB T k row && toB T k row)
def colS (D : List (List Int)) (i : Nat) : Int := sumI (D.map (fun r => r.getD i 0))
def dvdB (T : Tr) (l : List Int) (D : List (List Int)) : Bool :=
  decide (D.length = T.rs.length) && ((List.range D.length).all (fun k => linB T l.length k (D.getD k [])) && (List.range l.length).all (fun i => l.getD i 0 - colS D i == 0))
theorem colS_take {D : List (List Int)} {k : Nat} (h : k < D.length) (i : Nat) : colS (D.take (k + 1)) i = colS (D.take k) i + D[k].getD i 0 := by
  unfold colS
  rw [List.take_succ_eq_append_getElem h, List.map_append, sumI_append]
  simp [sumI]
/-- what is left of the pence: the first i payers have paid in k + 1 rows, the others in k -/
def rstF (l : List Int) (D : List (List Int)) (k i : Nat) : List Int := (List.range l.length).map (fun j => l.getD j 0 - colS (D.take (if j < i then k + 1 else k)) j)
theorem rstF_len (l : List Int) (D : List (List Int)) (k i : Nat) : (rstF l D k i).length = l.length := by simp [rstF]
theorem rstF_get {l : List Int} {D : List (List Int)} {k i j : Nat} (h : j < (rstF l D k i).length) : (rstF l D k i)[j] = l.getD j 0 - colS (D.take (if j < i then k + 1 else k)) j := by simp [rstF]
theorem rstF_zero (l : List Int) (D : List (List Int)) : rstF l D 0 0 = l := by
  apply List.ext_getElem (by simp [rstF])
  intro j h1 h2
  rw [rstF_get]
  simp [colS, sumI, List.getD_eq_getElem?_getD, h2]
theorem rstF_end (l : List Int) (D : List (List Int)) (k : Nat) : rstF l D k l.length = rstF l D (k + 1) 0 := by
  apply List.ext_getElem (by simp [rstF])
  intro j h1 h2
  rw [rstF_get, rstF_get]
  have : j < l.length := by simpa [rstF] using h1
  rw [if_pos this, if_neg (by omega)]
theorem rstF_set {l : List Int} {D : List (List Int)} {k i : Nat} (hk : k < D.length) (_hi : i < l.length) : (rstF l D k i).set i (l.getD i 0 - colS (D.take k) i - D[k].getD i 0) = rstF l D k (i + 1) := by
  apply List.ext_getElem (by simp [rstF])
  intro j h1 h2
  rw [List.getElem_set, rstF_get, rstF_get]
  by_cases hj : i = j
  · subst hj
    rw [if_pos rfl, if_pos (by omega), colS_take hk]
    omega
  · rw [if_neg hj]
    by_cases hji : j < i
    · rw [if_pos hji, if_pos (by omega)]
    · rw [if_neg hji, if_neg (by omega)]
/-- the numbers that have been looked at lie within bounds -/
theorem colS_bd {D : List (List Int)} {i k : Nat} (h : ∀ j (hj : j < D.length), j < k → 0 ≤ D[j].getD i 0 ∧ D[j].getD i 0 ≤ 1073741824) : 0 ≤ colS (D.take k) i ∧ colS (D.take k) i ≤ k * 1073741824 := by
  induction k with
  | zero => simp [colS, sumI]
  | succ k ih =>
    have h1 := ih (fun j hj hk => h j hj (by omega))
    by_cases hk : k < D.length
    · rw [colS_take hk]
      have := h k hk (by omega)
      push_cast
      omega
    · rw [List.take_of_length_le (by omega)] at h1 ⊢
      push_cast
      omega
theorem celB_bd {T : Tr} {k i : Nat} {x : Int} (h : celB T k i x = true) : 0 ≤ x ∧ x ≤ 1073741824 := by
  unfold celB at h
  rw [Bool.and_eq_true] at h
  exact inB_t h.1
theorem rowB_get {T : Tr} {k : Nat} {row : List Int} (h : rowB T k row = true) {i : Nat} (hi : i < row.length) : celB T k i (row.getD i 0) = true := by
  unfold rowB at h
  rw [List.all_eq_true] at h
  exact h i (by simpa using hi)
theorem rowB_bd {T : Tr} {k : Nat} {row : List Int} (h : rowB T k row = true) (i : Nat) : 0 ≤ row.getD i 0 ∧ row.getD i 0 ≤ 1073741824 := by
  by_cases hi : i < row.length
  · exact celB_bd (rowB_get h hi)
  · rw [List.getD_eq_getElem?_getD, List.getElem?_eq_none (by omega)]
    simp
theorem sumI_take_bd {row : List Int} (h : ∀ i, 0 ≤ row.getD i 0 ∧ row.getD i 0 ≤ 1073741824) (k : Nat) : 0 ≤ sumI (row.take k) ∧ sumI (row.take k) ≤ k * 1073741824 := by
  induction k with
  | zero => simp [sumI]
  | succ k ih =>
    by_cases hk : k < row.length
    · rw [List.take_succ_eq_append_getElem hk, sumI_append]
      have := h k
      rw [List.getD_eq_getElem?_getD, List.getElem?_eq_getElem hk] at this
      simp only [Option.getD_some] at this
      have e : sumI [row[k]] = row[k] := by simp [sumI]
      rw [e]
      push_cast
      omega
    · rw [List.take_of_length_le (by omega)] at ih ⊢
      push_cast
      omega
theorem sumI_take {row : List Int} {k : Nat} (h : k < row.length) : sumI (row.take (k + 1)) = sumI (row.take k) + row[k] := by
  rw [List.take_succ_eq_append_getElem h, sumI_append]
  simp [sumI]
theorem dvd_line {T : Tr} {l : List Int} {D : List (List Int)} {k : Nat} (h : k < D.length) (hb : linB T l.length k D[k] = false) : dvdB T l D = false := by
  unfold dvdB
  rw [Bool.and_eq_false_iff]
  right
  rw [Bool.and_eq_false_iff]
  left
  rw [List.all_eq_false]
  exact ⟨k, by simpa using h, by rw [List.getD_eq_getElem?_getD, List.getElem?_eq_getElem h]; simpa using hb⟩
theorem dvd_rest {T : Tr} {l : List Int} {D : List (List Int)} {i : Nat} (h : i < l.length) (hb : ¬ l.getD i 0 - colS D i = 0) : dvdB T l D = false := by
  unfold dvdB
  rw [Bool.and_eq_false_iff]
  right
  rw [Bool.and_eq_false_iff]
  right
  rw [List.all_eq_false]
  exact ⟨i, by simpa using h, by simpa using hb⟩
theorem dvd_len {T : Tr} {l : List Int} {D : List (List Int)} (h : D.length ≠ T.rs.length) : dvdB T l D = false := by
  unfold dvdB
  rw [decide_eq_false h, Bool.false_and]
theorem dvd_ok {T : Tr} {l : List Int} {D : List (List Int)} (h : D.length = T.rs.length) (h1 : ∀ k (hk : k < D.length), linB T l.length k D[k] = true) (h2 : ∀ i, i < l.length → l.getD i 0 - colS D i = 0) : dvdB T l D = true := by
  unfold dvdB
  rw [decide_eq_true h, Bool.true_and, Bool.and_eq_true]
  constructor
  · rw [List.all_eq_true]
    intro k hk
    have hk' : k < D.length := by simpa using hk
    rw [List.getD_eq_getElem?_getD, List.getElem?_eq_getElem hk']
    exact h1 k hk'
  · rw [List.all_eq_true]
    intro i hi
    simpa using h2 i (by simpa using hi)
theorem row_bad {T : Tr} {k : Nat} {row : List Int} {i : Nat} (hi : i < row.length) (h : celB T k i row[i] = false) : rowB T k row = false := by
  unfold rowB
  rw [List.all_eq_false]
  exact ⟨i, by simpa using hi, by rw [List.getD_eq_getElem?_getD, List.getElem?_eq_getElem hi]; simpa using h⟩
theorem row_ok {T : Tr} {k : Nat} {row : List Int} (h : ∀ i (hi : i < row.length), celB T k i row[i] = true) : rowB T k row = true := by
  unfold rowB
  rw [List.all_eq_true]
  intro i hi
  have hi' : i < row.length := by simpa using hi
  rw [List.getD_eq_getElem?_getD, List.getElem?_eq_getElem hi']
  exact h i hi'
def dveE (T : Tr) (l : List Int) (D : List (List Int)) : Int := if penE T l = 0 then (if dvdB T l D = true then 0 else 8) else penE T l
end Go.Proofs.Ythopgonbndoidaa
