/- Plain: what all owe, and the purse, are together the whole; payments of later days do not matter. -/
import Derived.Test.YthopgonbndoidaaVDuS
import Derived.Test.YthopgonbndoidaaVSmP
namespace Go.Proofs.Ythopgonbndoidaa
open Go.RowKit Go.Shelf

theorem sumI_set {l : List Int} {i : Nat} (h : i < l.length) (v : Int) : sumI (l.set i v) = sumI l - l.getD i 0 + v := by
  rw [sumR_snocL, sumR_snocL, List.length_set]
  have h1 : sumR l.length (fun j => (l.set i v).getD j 0) = sumR l.length (fun j => if j = i then l.getD j 0 + (v - l.getD i 0) else l.getD j 0) := by
    refine sumR_congr (fun j _ => ?_)
    rw [setD_get]
    by_cases e : j = i
    · subst e; rw [if_pos ⟨rfl, h⟩, if_pos rfl]; omega
    · rw [if_neg (fun q => e q.1), if_neg e]
  rw [h1, sumR_one h]
  omega
theorem sumI_rng {l : List Int} (h : ∀ n ∈ l, -214748364800 ≤ n ∧ n ≤ 1073741824) : -(l.length * 214748364800 : Int) ≤ sumI l ∧ sumI l ≤ l.length * 1073741824 := by
  induction l using snoc_ind with
  | h0 => simp [sumI]
  | h1 l n ih =>
    have i := ih (fun m hm => h m (by simp [hm]))
    have j := h n (by simp)
    rw [sumI_snoc, List.length_append, List.length_singleton]
    push_cast
    omega
theorem du_find {T : Tr} {d : Du} (h : duB T d = true) : 0 ≤ fnd T.ps d.id := by
  unfold duB at h
  rw [Bool.and_eq_true] at h
  have := h.1
  simp only [Bool.not_eq_true', decide_eq_false_iff_not] at this
  omega
theorem fnd_lt' (l : List Py) (x : Int) : fnd l x < l.length := by
  have key : ∀ (l : List Py) (i : Nat), fndF x i l < (i : Int) + l.length := fun l => by
    induction l with
    | nil => intro i; simp [fndF]; omega
    | cons q l ih =>
      intro i
      rw [fndF]
      split
      · simp; omega
      · have := ih (i + 1)
        simp only [List.length_cons]
        omega
  have := key l 0
  unfold fnd
  omega
theorem ar_sum {T : Tr} (hok : Ok T) (day : Int) (l : List Du) : (∀ d ∈ l, duB T d = true) → sumI (arL T day l) + puL day l = alnE T (fun _ => true) := by
  induction l using snoc_ind with
  | h0 => intro _; show sumI (pnX T) + 0 = _; rw [(pnX_fair hok).2.1]; omega
  | h1 l d ih =>
    intro h
    have i := ih (fun q hq => h q (by simp [hq]))
    have hl := (arL_bd hok day l (fun q hq => h q (by simp [hq]))).1
    have h0 := du_find (h d (by simp))
    have h1 := fnd_lt' T.ps d.id
    rw [arL_snoc, puL_snoc]
    unfold arS puS
    split
    · rw [sumI_set (by omega)]; omega
    · exact i
def efL (day : Int) (l : List Du) : List Du := l.filter (fun d => decide (d.day ≤ day))
theorem efL_snoc (day : Int) (l : List Du) (d : Du) : efL day (l ++ [d]) = if d.day ≤ day then efL day l ++ [d] else efL day l := by
  unfold efL
  rw [List.filter_append, List.filter_cons]
  by_cases h : d.day ≤ day
  · rw [if_pos h, if_pos (decide_eq_true h)]; rfl
  · rw [if_neg h, if_neg (by simpa using h)]; simp
theorem efL_len (day : Int) (l : List Du) : (efL day l).length ≤ l.length := List.length_filter_le _ _
theorem ef_ar (T : Tr) (day : Int) (l : List Du) : arL T day (efL day l) = arL T day l := by
  induction l using snoc_ind with
  | h0 => rfl
  | h1 l d ih =>
    rw [efL_snoc, arL_snoc, ← ih]
    by_cases h : d.day ≤ day
    · rw [if_pos h, arL_snoc]
    · rw [if_neg h]; unfold arS; rw [if_neg h]
theorem ef_du {T : Tr} {day : Int} {l : List Du} (h : duE T l day = 0) : duE T (efL day l) day = 0 := by
  obtain ⟨_, h2, h3⟩ := duE_ok h
  have hlen := efL_len day l
  unfold duE at h ⊢
  split at h
  · rename_i h0
    rw [if_pos h0, if_neg (by omega), if_pos (show (efL day l).all (duB T) = true from List.all_eq_true.2 (fun d hd => h3 d (List.mem_filter.1 hd).1))]
    split at h
    · omega
    · split at h
      · split at h
        · rename_i h4; rw [if_pos h4]
        · cases h
      · cases h
  · exact absurd h (by assumption)
theorem ef_arX {T : Tr} {day : Int} {l : List Du} (h : duE T l day = 0) : arX T (efL day l) day = arX T l day := by
  unfold arX
  rw [if_pos (ef_du h), if_pos h, ef_ar]
theorem pu_whole {T : Tr} {day : Int} {l : List Du} (h : duE T l day = 0) : puX T l day + sumI (arX T l day) = alnE T (fun _ => true) := by
  have hk := duE_ok h
  have := ar_sum hk.1 day l hk.2.2
  unfold puX arX
  rw [if_pos h, if_pos h]
  omega
end Go.Proofs.Ythopgonbndoidaa
