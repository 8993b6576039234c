/- Common and Covers of the program; the laws' own brief, long, within, apart; plain laws of how the fewest spans lie and what they hold. -/
import Derived.Test.YtejmmfjabmmihaaGreatDoorComP
import Derived.Test.YtejmmfjabmmihaaGreatDoorNextP
import Derived.Test.YtejmmfjabmmihaaGreatDoorRestW
namespace Go.Proofs.YtejmmfjabmmihaaGreatDoor
open Go.RowKit Go.Shelf

theorem cov_ways {S : Mn} {lo hi : Int} (h : spnE S lo hi = 0) : (runEnd S lo hi < hi → covX S lo hi = runEnd S lo hi + 1 ∧ covB S lo hi = false) ∧ (¬ runEnd S lo hi < hi → covX S lo hi = 0 ∧ covB S lo hi = true) := by
  obtain ⟨hok, b1, b2, b3⟩ := spn_ok h
  obtain ⟨c1, c2, c3, c4⟩ := runEnd_spec (S := S) (n := lo) (limit := hi) (by omega)
  unfold covX covB
  rw [if_pos h, if_pos h]
  constructor
  · intro hlt
    have e : mem S (runEnd S lo hi + 1) = false := by rcases c4 with e | e; omega; exact e
    rw [covN_hit (i := (runEnd S lo hi + 1 - lo).toNat) (by unfold spN; omega) (by rw [show lo + ((runEnd S lo hi + 1 - lo).toNat : Int) = runEnd S lo hi + 1 by omega]; exact e) (fun j hj => c3 _ (by omega) (by omega))]
    exact ⟨by simp only; omega, rfl⟩
  · intro hge
    rw [covN_miss (fun j hj => c3 _ (by omega) (by unfold spN at hj; omega))]
    exact ⟨rfl, rfl⟩
/-- how far all has been in the set -/
def CovTo (P : Int → Bool) (lo : Int) (k : Nat) : Prop := ∀ j : Nat, j < k → P (lo + j) = true
theorem CovTo.succ {P : Int → Bool} {lo : Int} {k : Nat} (h : CovTo P lo k) (h1 : P (lo + k) = true) : CovTo P lo (k + 1) := by
  intro j hj
  by_cases e : j = k
  · subst e; exact h1
  · exact h j (by omega)
theorem cov_hit {S : Mn} {lo hi : Int} {k : Nat} (h0 : spnE S lo hi = 0) (hk : k < spN lo hi) (h1 : mem S (lo + k) = false) (h2 : CovTo (mem S) lo k) : covX S lo hi = lo + k ∧ covB S lo hi = false := by
  unfold covX covB
  rw [if_pos h0, if_pos h0, covN_hit hk h1 h2]
  exact ⟨rfl, rfl⟩
theorem cov_full {S : Mn} {lo hi : Int} (h0 : spnE S lo hi = 0) (h2 : CovTo (mem S) lo (spN lo hi)) : covX S lo hi = 0 ∧ covB S lo hi = true := by
  unfold covX covB
  rw [if_pos h0, if_pos h0, covN_miss h2]
  exact ⟨rfl, rfl⟩
theorem cov_none {S : Mn} {lo hi : Int} (h0 : spnE S lo hi ≠ 0) : covX S lo hi = 0 ∧ covB S lo hi = false := by
  unfold covX covB
  rw [if_neg h0, if_neg h0]
  exact ⟨rfl, rfl⟩
theorem cntP_t {P : Int → Bool} {lo : Int} {k : Nat} (h : P (lo + k) = true) : cntP P lo (k + 1) = cntP P lo k + 1 := by
  simp only [cntP, sumI, h, ind]; simp
theorem cntP_f {P : Int → Bool} {lo : Int} {k : Nat} (h : P (lo + k) = false) : cntP P lo (k + 1) = cntP P lo k := by
  simp only [cntP, sumI, h, ind]; simp

/-- spans in order, that do not touch -/
def AptOk (l : List Sp) : Prop := ∀ i (h : i < l.length), l[i].lo ≤ l[i].hi ∧ ∀ (_ : 0 < i), l[i - 1].hi + 2 ≤ l[i].lo
theorem apt_nil : AptOk [] := fun i h => by simp at h
theorem apt_snoc {l : List Sp} {s : Sp} (h : AptOk l) (h1 : s.lo ≤ s.hi) (h2 : Off l s.lo) : AptOk (l ++ [s]) := by
  intro i hi
  by_cases hlt : i < l.length
  · have h3 := h i hlt
    refine ⟨by rw [List.getElem_append_left hlt]; exact h3.1, fun h0 => ?_⟩
    rw [List.getElem_append_left hlt, List.getElem_append_left (by omega)]
    exact h3.2 h0
  · have he : i = l.length := by simp at hi; omega
    subst he
    refine ⟨by simpa using h1, fun h0 => ?_⟩
    rcases last_cases l with rfl | ⟨l', t, rfl⟩
    · simp at h0
    · have h4 := h2 l' t rfl
      rw [List.getElem_append_left (by omega)]
      simp only [List.length_append, List.length_singleton, Nat.add_sub_cancel, List.getElem_concat_length]
      omega
theorem apt_head {l : List Sp} {s : Sp} (h : AptOk (l ++ [s])) : AptOk l ∧ s.lo ≤ s.hi ∧ Off l s.lo := by
  refine ⟨fun i hi => ?_, ?_, fun l' t e => ?_⟩
  · have := h i (by simp; omega)
    rw [List.getElem_append_left hi] at this
    refine ⟨this.1, fun h0 => ?_⟩
    have h3 := this.2 h0
    rw [List.getElem_append_left (by omega)] at h3
    exact h3
  · have := (h l.length (by simp)).1
    simpa using this
  · subst e
    have := (h (l' ++ [t]).length (by simp)).2 (by simp)
    rw [List.getElem_append_left (by simp)] at this
    simp at this
    omega
theorem lst_apt (P : Int → Bool) (lo : Int) (n : Nat) : AptOk (lst P lo n) := by
  induction n with
  | zero => exact apt_nil
  | succ n ih =>
    have hh := lst_hi P lo n
    simp only [lst]
    split
    · rcases last_cases (lst P lo n) with e | ⟨l', s, e⟩
      · rw [e, addM_nil]; exact apt_snoc (l := []) apt_nil (Int.le_refl _) (off_nil _)
      · rw [e] at ih hh ⊢
        have hs := hh s (by simp)
        obtain ⟨a1, a2, a3⟩ := apt_head ih
        by_cases hj : s.hi = lo + n - 1
        · have e5 : l' ++ [s] = l' ++ [⟨s.lo, lo + n - 1⟩] := by rw [← hj]
          rw [e5, addM_join]
          exact apt_snoc a1 (by simp only; omega) a3
        · rw [addM_new l' s (lo + n) (by omega)]
          exact apt_snoc ih (Int.le_refl _) (off_add _ _ (by simp only; omega))
    · exact ih

/-- a minute is in one of some spans -/
def anyIn (l : List Sp) (m : Int) : Bool := l.any (fun s => decide (s.lo ≤ m) && decide (m ≤ s.hi))
theorem anyIn_snoc (l : List Sp) (s : Sp) (m : Int) : anyIn (l ++ [s]) m = (anyIn l m || (decide (s.lo ≤ m) && decide (m ≤ s.hi))) := by simp [anyIn]
theorem lst_any (P : Int → Bool) (lo : Int) (n : Nat) (m : Int) : anyIn (lst P lo n) m = (decide (lo ≤ m) && decide (m < lo + n) && P m) := by
  induction n with
  | zero =>
    simp only [lst, anyIn, List.any_nil]
    by_cases h : lo ≤ m
    · rw [decide_eq_false (show ¬ m < lo + ((0 : Nat) : Int) by simp; omega)]; simp
    · rw [decide_eq_false h]; simp
  | succ n ih =>
    have hh := lst_hi P lo n
    have hor : anyIn (addM (lst P lo n) (lo + n)) m = (anyIn (lst P lo n) m || decide (m = lo + n)) := by
      rcases last_cases (lst P lo n) with e | ⟨l', s, e⟩
      · rw [e, addM_nil]
        simp only [anyIn, List.any_cons, List.any_nil, Bool.or_false, Bool.false_or]
        rw [Bool.eq_iff_iff]; simp only [Bool.and_eq_true, decide_eq_true_eq]; omega
      · rw [e] at hh ⊢
        have hs := hh s (by simp)
        by_cases hj : s.hi = lo + n - 1
        · have e5 : l' ++ [s] = l' ++ [⟨s.lo, lo + n - 1⟩] := by rw [← hj]
          rw [e5, addM_join, anyIn_snoc, anyIn_snoc]
          cases anyIn l' m
          · rw [Bool.eq_iff_iff]; simp only [Bool.false_or, Bool.or_eq_true, Bool.and_eq_true, decide_eq_true_eq]; omega
          · simp
        · rw [addM_new l' s (lo + n) (by omega), anyIn_snoc]
          congr 1
          rw [Bool.eq_iff_iff]; simp only [Bool.and_eq_true, decide_eq_true_eq]; omega
    by_cases hm : m = lo + n
    · subst hm
      have e1 : decide (lo + (n : Int) < lo + n) = false := decide_eq_false (by omega)
      have e2 : decide (lo + (n : Int) < lo + ((n + 1 : Nat) : Int)) = true := decide_eq_true (by omega)
      have e3 : decide (lo ≤ lo + (n : Int)) = true := decide_eq_true (by omega)
      rw [e1] at ih
      rw [e2, e3]
      simp only [lst]
      split
      · rename_i h; rw [hor, h]; simp
      · rename_i h; rw [ih]; simp [h]
    · have e1 : decide (m < lo + (n : Int)) = decide (m < lo + ((n + 1 : Nat) : Int)) := by rw [decide_eq_decide]; omega
      rw [← e1, ← ih]
      simp only [lst]
      split
      · rw [hor, decide_eq_false hm, Bool.or_false]
      · rfl
theorem lst_half (P : Int → Bool) (lo : Int) (n : Nat) : 2 * (lst P lo n).length ≤ n + 1 ∧ (Off (lst P lo n) (lo + n) → 2 * (lst P lo n).length ≤ n) := by
  induction n with
  | zero => simp [lst]
  | succ n ih =>
    obtain ⟨h1, h2⟩ := ih
    have hh := lst_hi P lo n
    simp only [lst]
    split
    · rcases last_cases (lst P lo n) with e | ⟨l', s, e⟩
      · rw [e] at h2 ⊢
        rw [addM_nil]
        refine ⟨by simp, fun ho => ?_⟩
        have := ho [] ⟨lo + n, lo + n⟩ rfl
        simp only at this
        omega
      · rw [e] at h1 h2 hh ⊢
        have hs := hh s (by simp)
        by_cases hj : s.hi = lo + n - 1
        · have e5 : l' ++ [s] = l' ++ [⟨s.lo, lo + n - 1⟩] := by rw [← hj]
          rw [e5, addM_join]
          simp only [List.length_append, List.length_singleton] at h1 ⊢
          refine ⟨by omega, fun ho => ?_⟩
          have := ho l' ⟨s.lo, lo + n⟩ rfl
          simp only at this
          omega
        · have h3 := h2 (off_add l' s (by omega))
          rw [addM_new l' s (lo + n) (by omega)]
          simp only [List.length_append, List.length_singleton] at h3 ⊢
          refine ⟨by omega, fun ho => ?_⟩
          have := ho (l' ++ [s]) ⟨lo + n, lo + n⟩ rfl
          simp only at this
          omega
    · exact ⟨by omega, fun _ => by omega⟩
theorem lst_short {P : Int → Bool} {lo hi : Int} (h : hi - lo < 2500) : (lst P lo (spN lo hi)).length ≤ 1250 := by
  have := (lst_half P lo (spN lo hi)).1
  unfold spN at *
  omega
theorem listed_short {l : List Sp} (h : l.length ≤ 1250) : listed l = l ∧ listedE l = 0 := by
  unfold listed listedE
  rw [if_neg (by omega), if_neg (by omega)]
  exact ⟨rfl, rfl⟩
theorem cnt_both (P : Int → Bool) (lo : Int) (n : Nat) : cntP P lo n + cntP (fun i => !P i) lo n = n := by
  induction n with
  | zero => simp [cntP, sumI]
  | succ n ih =>
    cases h : P (lo + n)
    · rw [cntP_f h, cntP_t (P := fun i => !P i) (by simp [h])]; omega
    · rw [cntP_t h, cntP_f (P := fun i => !P i) (by simp [h])]; omega
theorem addM_first (s : Sp) (r : List Sp) (m : Int) : ∃ s' r', addM (s :: r) m = s' :: r' ∧ s'.lo = s.lo := by
  rcases last_cases (s :: r) with e | ⟨l', t, e⟩
  · cases e
  · rw [e, addM_last]
    cases l' with
    | nil =>
      simp only [List.nil_append] at e ⊢
      have : s = t := by injection e
      subst this
      split
      · exact ⟨_, _, rfl, rfl⟩
      · exact ⟨_, _, rfl, rfl⟩
    | cons x l' =>
      have : s = x := by simp only [List.cons_append] at e; injection e
      subst this
      split
      · exact ⟨_, _, rfl, rfl⟩
      · exact ⟨_, _, rfl, rfl⟩
theorem lst_first {P : Int → Bool} {lo : Int} {k d : Nat} {s : Sp} {r : List Sp} (h : lst P lo k = s :: r) : ∃ s' r', lst P lo (k + d) = s' :: r' ∧ s'.lo = s.lo := by
  induction d with
  | zero => exact ⟨s, r, h, rfl⟩
  | succ d ih =>
    obtain ⟨s', r', h1, h2⟩ := ih
    show ∃ s'' r'', (if P (lo + ((k + d : Nat) : Int)) then addM (lst P lo (k + d)) (lo + ((k + d : Nat) : Int)) else lst P lo (k + d)) = s'' :: r'' ∧ s''.lo = s.lo
    split
    · rw [h1]
      obtain ⟨s3, r3, h3, h4⟩ := addM_first s' r' (lo + ((k + d : Nat) : Int))
      exact ⟨s3, r3, h3, by omega⟩
    · exact ⟨s', r', h1, h2⟩
/-- what Covers says is what Rest says -/
theorem cov_rest {S : Mn} {lo hi : Int} (h0 : spnE S lo hi = 0) :
    (covB S lo hi = true ∧ lst (fun i => !mem S i) lo (spN lo hi) = []) ∨ (covB S lo hi = false ∧ ∃ s r, lst (fun i => !mem S i) lo (spN lo hi) = s :: r ∧ s.lo = covX S lo hi) := by
  obtain ⟨N, hN⟩ : ∃ N, spN lo hi = N := ⟨_, rfl⟩
  have key : ∀ k, k ≤ N → CovTo (mem S) lo k ∨ ∃ i, i < k ∧ CovTo (mem S) lo i ∧ mem S (lo + i) = false := by
    intro k
    induction k with
    | zero => intro _; exact .inl (fun j hj => by omega)
    | succ k ih =>
      intro hk
      rcases ih (by omega) with h | ⟨i, h1, h2, h3⟩
      · cases hm : mem S (lo + k)
        · exact .inr ⟨k, by omega, h, hm⟩
        · exact .inl (h.succ hm)
      · exact .inr ⟨i, by omega, h2, h3⟩
  rw [hN]
  rcases key N (Nat.le_refl _) with h | ⟨i, h1, h2, h3⟩
  · left
    refine ⟨(cov_full h0 (by rw [hN]; exact h)).2, ?_⟩
    have := lst_skip (P := fun i => !mem S i) (lo := lo) (n := 0) (d := N) (fun k _ hk => by simp [h k (by omega)])
    rw [Nat.zero_add] at this
    rw [this]; rfl
  · right
    have hc := cov_hit h0 (by rw [hN]; exact h1) h3 h2
    refine ⟨hc.2, ?_⟩
    have e0 := lst_skip (P := fun i => !mem S i) (lo := lo) (n := 0) (d := i) (fun k _ hk => by simp [h2 k (by omega)])
    rw [Nat.zero_add] at e0
    have e1 : lst (fun i => !mem S i) lo (i + 1) = [⟨lo + i, lo + i⟩] := by
      rw [lst_t (by simp [h3]), e0]; rfl
    obtain ⟨s, r, e2, e3⟩ := lst_first (d := N - (i + 1)) e1
    rw [show i + 1 + (N - (i + 1)) = N by omega] at e2
    exact ⟨s, r, e2, by rw [e3, hc.1]⟩
theorem sizes {S : Mn} {lo hi : Int} (h : lo ≤ hi + 1) : sizeL (lst (mem S) lo (spN lo hi)) + sizeL (lst (fun i => !mem S i) lo (spN lo hi)) = hi - lo + 1 := by
  rw [sizeL_lst, sizeL_lst, cnt_both]
  unfold spN
  omega

theorem rets3 {a a' b b' c c' : Value} (h : a = a') (h' : b = b') (h'' : c = c') : Ending.returned (.tuple #[a, b, c]) = .returned (.tuple #[a', b', c']) := by rw [h, h', h'']
set_option maxHeartbeats 2000000 in
theorem Covers_any (a b : Value) (S : Mn) (lo hi : Int) (w : World) (hS : MinsAt w a b S) :
    Calls Tryz.prog 17 #[.agg #[a, b], .agg #[.int .i64 lo, .int .i64 hi]] w fun e w' => e = .returned (.tuple #[.int .i64 (covX S lo hi), .bool (covB S lo hi), .int .i64 (spnE S lo hi)]) ∧ Ext w w' := by
  cases hE : (spnE S lo hi != 0)
  · have h0 : spnE S lo hi = 0 := by simpa using hE
    obtain ⟨hok, b1, b2, b3⟩ := spn_ok h0
    obtain ⟨v1, v2⟩ := cov_ways h0
    obtain ⟨c1, c2, _, _⟩ := runEnd_spec (S := S) (n := lo) (limit := hi) (by omega)
    obtain ⟨to, hto⟩ : ∃ to, runEnd S lo hi = to := ⟨_, rfl⟩
    rw [hto] at v1 v2 c1 c2
    have HTO := Lib.hid hto
    have V1 := Lib.hid v1
    have V2 := Lib.hid v2
    have H0 := Lib.hid h0
    clear h0 v1 v2 hto hE
    go_enter Tryz.func17, Tryz.ntmps17
    go_wp2_with fail
    refine (spanned_any a b S _ _ _ (hS.ext (by repeat (first | exact Ext.refl _ | assumption | refine Ext.alloc ?_ _ | refine Ext.drew ?_ | refine Ext.drewN _ ?_ | refine Ext.trans ?_ (by assumption))))).mono ?_
    rw [H0.out]
    rintro e w1 ⟨rfl, hx1⟩
    obtain ⟨q0, q1, hx, hzz⟩ := alloc2 hx1
    clear hx1
    have d0 : w1.cell? ⟨w.heap.size, 0, none⟩ = some a := q0.cell 0
    have d1 : w1.cell? ⟨w.heap.size, 1, none⟩ = some b := q0.cell 1
    have d2 : w1.cell? ⟨w.heap.size + 1, 0, none⟩ = some (.int .i64 lo) := q1.cell 0
    have d3 : w1.cell? ⟨w.heap.size + 1, 1, none⟩ = some (.int .i64 hi) := q1.cell 1
    clear q0 q1
    go_wp2_with fail
    refine (end_any a b S lo hi _ (hS.ext hx) hok (by omega) (by omega) (by omega)).mono ?_
    rw [HTO.out]
    rintro e w2 ⟨rfl, hx2⟩
    replace d3 := hx2.cell d3
    clear d0 d1 d2
    by_cases hlt : to < hi
    · have h1 := Lib.hid (V1.out hlt)
      go_wp2_with fail
      go_ret3
      exact ⟨rets3 (vint h1.out.1.symm) (vbool h1.out.2.symm) (vint H0.out.symm), hx.trans hx2⟩
    · have h1 := Lib.hid (V2.out (by omega))
      go_wp2_with fail
      go_ret3
      exact ⟨rets3 (vint h1.out.1.symm) (vbool h1.out.2.symm) (vint H0.out.symm), hx.trans hx2⟩
  · have h0 : spnE S lo hi ≠ 0 := by simpa using hE
    have h1 := Lib.hid (cov_none h0)
    clear h0
    go_enter Tryz.func17, Tryz.ntmps17
    go_wp2_with fail
    refine (spanned_any a b S _ _ _ (hS.ext (by repeat (first | exact Ext.refl _ | assumption | refine Ext.alloc ?_ _ | refine Ext.drew ?_ | refine Ext.drewN _ ?_ | refine Ext.trans ?_ (by assumption))))).mono ?_
    rintro e w1 ⟨rfl, hx1⟩
    go_wp2_with fail
    go_ret3
    exact ⟨rets3 (vint h1.out.1.symm) (vbool h1.out.2.symm) rfl, (by repeat (first | exact Ext.refl _ | assumption | refine Ext.alloc ?_ _ | refine Ext.drew ?_ | refine Ext.drewN _ ?_ | refine Ext.trans ?_ (by assumption)))⟩

def briefB (lo hi : Int) : Bool := !spB lo hi || decide (hi - lo < 2500)
set_option maxHeartbeats 1000000 in
theorem brief_any (lo hi : Int) (w : World) :
    Calls Tryz.prog 7 #[.agg #[.int .i64 lo, .int .i64 hi]] w fun e w' => e = .returned (.bool (briefB lo hi)) ∧ Ext w w' := by
  cases hsp : spB lo hi
  · have hr : briefB lo hi = true := by simp [briefB, hsp]
    have HSP := Lib.hid hsp
    have HR := Lib.hid hr
    clear hsp hr
    go_enter Tryz.func7, Tryz.ntmps7
    go_wp2_with fail
    refine (Span_any lo hi _).mono ?_
    rw [HSP.out]
    rintro e w1 ⟨rfl, hx1⟩
    go_wp2_with fail
    go_ret
    exact ⟨ret_bool HR.out.symm, (by repeat (first | exact Ext.refl _ | assumption | refine Ext.alloc ?_ _ | refine Ext.drew ?_ | refine Ext.drewN _ ?_ | refine Ext.trans ?_ (by assumption)))⟩
  · obtain ⟨b1, b2, b3⟩ := spB_t hsp
    have hr : briefB lo hi = decide (hi - lo < 2500) := by simp [briefB, hsp]
    have HSP := Lib.hid hsp
    have HR := Lib.hid hr
    clear hsp hr
    go_enter Tryz.func7, Tryz.ntmps7
    go_wp2_with fail
    refine (Span_any lo hi _).mono ?_
    rw [HSP.out]
    rintro e w1 ⟨rfl, hx1⟩
    obtain ⟨q0, hx, hzz⟩ := alloc1 hx1
    clear hx1
    have d0 : w1.cell? ⟨w.heap.size, 0, none⟩ = some (.int .i64 lo) := q0.cell 0
    have d1 : w1.cell? ⟨w.heap.size, 1, none⟩ = some (.int .i64 hi) := q0.cell 1
    clear q0
    go_wp2_with fail
    go_ret
    exact ⟨ret_bool HR.out.symm, hx⟩




theorem comX_err {A B : Mn} {lo hi E : Int} (h : comE0 A B lo hi = E) (hE : E ≠ 0) : comX A B lo hi = [] ∧ comE A B lo hi = E := by
  unfold comX comE
  rw [h, if_neg hE, if_neg hE]
  exact ⟨rfl, rfl⟩
theorem comX_full {A B : Mn} {lo hi : Int} {k : Nat} (h : comE0 A B lo hi = 0) (hk : k ≤ spN lo hi) (hl : 2000 < (lst (both2 A B) lo k).length) : comX A B lo hi = [] ∧ comE A B lo hi = 2 := by
  have h1 := lst_len (both2 A B) lo k (spN lo hi - k)
  rw [show k + (spN lo hi - k) = spN lo hi by omega] at h1
  unfold comX comE listed listedE
  rw [if_pos h, if_pos h, if_pos (by omega), if_pos (by omega)]
  exact ⟨rfl, rfl⟩
theorem comX_ok {A B : Mn} {lo hi : Int} {k : Nat} (h : comE0 A B lo hi = 0) (hk : k = spN lo hi) (hl : (lst (both2 A B) lo k).length ≤ 2000) : comX A B lo hi = lst (both2 A B) lo k ∧ comE A B lo hi = 0 := by
  subst hk
  unfold comX comE listed listedE
  rw [if_pos h, if_pos h, if_neg (by omega), if_neg (by omega)]
  exact ⟨rfl, rfl⟩

theorem row_add {base : Nat} {W : World} {v' : Value} {l : List Sp} {x y : Int} (h : W.ownsRow base 27 2 v' (l.length + 1) (cellsS l ++ [.int .i64 x, .int .i64 y])) : RowS base v' (l ++ [⟨x, y⟩]) W := by
  unfold RowS
  rw [List.length_append, List.length_singleton, cellsS_append]
  exact h

set_option maxRecDepth 100000 in
set_option maxHeartbeats 8000000 in
theorem Common_any (a b c d : Value) (A B : Mn) (lo hi : Int) (w : World) (hA : MinsAt w a b A) (hB : MinsAt w c d B) :
    Calls Tryz.prog 15 #[.agg #[a, b], .agg #[c, d], .agg #[.int .i64 lo, .int .i64 hi]] w (ListPost w (comX A B lo hi) (comE A B lo hi)) := by
  obtain ⟨i0, hi0, hz0, hz1, hz2⟩ := info_parts infoSp
  obtain ⟨E, hE⟩ : ∃ E, or2 (chkE A) (chkE B) = E := ⟨_, rfl⟩
  have HE := Lib.hid hE
  go_enter Tryz.func15, Tryz.ntmps15
  go_wp2_with fail
  obtain ⟨W1, hW1⟩ : ∃ W1, ((w.alloc (.cells #[a, b] 25)).alloc (.cells #[c, d] 25)).alloc (.cells #[.int .i64 lo, .int .i64 hi] 27) = W1 := ⟨_, rfl⟩
  obtain ⟨q0, q1, q2, hx1, hzz⟩ := alloc3 (w1 := W1) (by rw [hW1]; exact Ext.refl _)
  have d0 : W1.cell? ⟨w.heap.size, 0, none⟩ = some a := q0.cell 0
  have d1 : W1.cell? ⟨w.heap.size, 1, none⟩ = some b := q0.cell 1
  have d2 : W1.cell? ⟨w.heap.size + 1, 0, none⟩ = some c := q1.cell 0
  have d3 : W1.cell? ⟨w.heap.size + 1, 1, none⟩ = some d := q1.cell 1
  have d4 : W1.cell? ⟨w.heap.size + 1 + 1, 0, none⟩ = some (.int .i64 lo) := q2.cell 0
  have d5 : W1.cell? ⟨w.heap.size + 1 + 1, 1, none⟩ = some (.int .i64 hi) := q2.cell 1
  have hA1 := hA.ext hx1
  have hB1 := hB.ext hx1
  have CA := fun W (h : Ext W1 W) => Check_any a b A W (hA1.ext h)
  have CB := fun W (h : Ext W1 W) => Check_any c d B W (hB1.ext h)
  rw [hW1]
  clear hW1 hE hA hB q0 q1 q2 hzz
  go_region_held3 (fun W' => W'.cell? ⟨w.heap.size, 0, none⟩ = some a ∧ W'.cell? ⟨w.heap.size, 1, none⟩ = some b ∧ W'.cell? ⟨w.heap.size + 1, 0, none⟩ = some c ∧ W'.cell? ⟨w.heap.size + 1, 1, none⟩ = some d ∧ Ext W1 W')
    ((refine ⟨Ext.cell (w := W1) ?_ d0, Ext.cell (w := W1) ?_ d1, Ext.cell (w := W1) ?_ d2, Ext.cell (w := W1) ?_ d3, ?_⟩; all_goals exact (by repeat (first | exact Ext.refl _ | assumption | refine Ext.alloc ?_ _ | refine Ext.drew ?_ | refine Ext.drewN _ ?_ | refine Ext.trans ?_ (by assumption)))))
    ((first | (go_at_call 25; first | ((with_reducible refine (CA _ ?_).mono ?_); (focus (exact (by repeat (first | exact Ext.refl _ | assumption | refine Ext.alloc ?_ _ | refine Ext.drew ?_ | refine Ext.drewN _ ?_ | refine Ext.trans ?_ (by assumption))))); rintro e w' ⟨rfl, hx⟩) | ((with_reducible refine (CB _ ?_).mono ?_); (focus (exact (by repeat (first | exact Ext.refl _ | assumption | refine Ext.alloc ?_ _ | refine Ext.drew ?_ | refine Ext.drewN _ ?_ | refine Ext.trans ?_ (by assumption))))); rintro e w' ⟨rfl, hx⟩)) | (go_at_call 44; refine (cmpOr2_any _ _ _ _ _ _ (by exact cell_at_new _ _ _ _ _ _ rfl rfl) (by exact cell_at_new _ _ _ _ _ _ rfl rfl)).mono ?_; rintro e w' ⟨rfl, rfl⟩)))
  have hx2 : Ext W1 (w'.alloc (.cells #[.int .i64 (chkE A), .int .i64 (chkE B)] 31)) := (by repeat (first | exact Ext.refl _ | assumption | refine Ext.alloc ?_ _ | refine Ext.drew ?_ | refine Ext.drewN _ ?_ | refine Ext.trans ?_ (by assumption)))
  obtain ⟨W2, hW2⟩ : ∃ W2, w'.alloc (.cells #[.int .i64 (chkE A), .int .i64 (chkE B)] 31) = W2 := ⟨_, rfl⟩
  rw [hW2] at hx2 ⊢
  rw [HE.out]
  replace d0 := hx2.cell d0
  replace d1 := hx2.cell d1
  replace d2 := hx2.cell d2
  replace d3 := hx2.cell d3
  replace d4 := hx2.cell d4
  replace d5 := hx2.cell d5
  replace hA1 := hA1.ext hx2
  replace hB1 := hB1.ext hx2
  replace hx1 := hx1.trans hx2
  clear hW2 hx2 CA CB
  cases hE0 : (E == 0)
  · have h0 : E ≠ 0 := by simpa using hE0
    have hc : comE0 A B lo hi = E := by rw [comE0_or (by rw [HE.out]; exact h0), HE.out]
    have H1 := Lib.hid (comX_err hc h0)
    clear hc h0
    go_wp2_with fail
    go_ret2
    exact ⟨.slice none 0 0, ret2 rfl (vint H1.out.2.symm), by rw [H1.out.1]; exact (rowS_nil 0 _).at_, (by repeat (first | exact Ext.refl _ | assumption | refine Ext.alloc ?_ _ | refine Ext.drew ?_ | refine Ext.drewN _ ?_ | refine Ext.trans ?_ (by assumption)))⟩
  · have h0 : E = 0 := by simpa using hE0
    obtain rfl := h0
    have hkk := sam_ok (A := A) (B := B) HE.out
    have hkA : Ok A := Ok.of hkk.1
    have hkB : Ok B := Ok.of hkk.2
    clear hkk
    cases hsp : spB lo hi
    · have hc : comE0 A B lo hi = 1 := comE0_no HE.out hsp
      have H1 := Lib.hid (comX_err hc (by decide))
      have HSP := Lib.hid hsp
      clear hc hsp
      go_wp2_with fail
      refine (span_any lo hi _).mono ?_
      rw [HSP.out]
      rintro e w3 ⟨rfl, hx3⟩
      go_wp2_with fail
      go_ret2
      exact ⟨.slice none 0 0, ret2 rfl (vint H1.out.2.symm), by rw [H1.out.1]; exact (rowS_nil 0 _).at_, (by repeat (first | exact Ext.refl _ | assumption | refine Ext.alloc ?_ _ | refine Ext.drew ?_ | refine Ext.drewN _ ?_ | refine Ext.trans ?_ (by assumption)))⟩
    · obtain ⟨b1, b2, b3⟩ := spB_t hsp
      have HC0 := Lib.hid (comE0_ok HE.out hsp)
      have HSP := Lib.hid hsp
      clear hsp
      go_wp2_with fail
      refine (span_any lo hi _).mono ?_
      rw [HSP.out]
      rintro e w3 ⟨rfl, hx3⟩
      replace d0 := hx3.cell d0
      replace d1 := hx3.cell d1
      replace d2 := hx3.cell d2
      replace d3 := hx3.cell d3
      replace d4 := hx3.cell d4
      replace d5 := hx3.cell d5
      replace hA1 := hA1.ext hx3
      replace hB1 := hB1.ext hx3
      replace hx1 := hx1.trans hx3
      clear hx3
      go_wp2_with fail
      go_loopw [9, 10, 11, 12, 13, 14] (fun u v _ _ _ _ wr => ∃ (k : Nat) (n : Int), v = .int .i64 n ∧ Hid (ComI (both2 A B) lo hi k n) ∧ lo ≤ n ∧ n ≤ 1125899906842624 ∧ (lst (both2 A B) lo k).length ≤ 2000 ∧ Hid (RowS w3.heap.size u (lst (both2 A B) lo k) wr) ∧ Ext w3 wr) (fun _ v _ _ _ _ _ => (hi + 1 - intOf v).toNat)
      case atStart => exact ⟨0, lo, rfl, Lib.hid (comI_start b2), Int.le_refl _, by omega, by simp [lst], Lib.hid (rowS_nil _ _), Ext.refl _⟩
      case round =>
        obtain ⟨k, n, rfl, HI, hn0, hn1, hlen, HR, hy⟩ := hrel
        obtain ⟨wq, rfl⟩ : ∃ wq : World, wq = wr := ⟨_, rfl⟩
        obtain ⟨Ad, cp, hform⟩ := HR.out.form
        subst hform
        have e0 := hy.cell d0
        have e1 := hy.cell d1
        have e2 := hy.cell d2
        have e3 := hy.cell d3
        have e4 := hy.cell d4
        have e5 := hy.cell d5
        by_cases hlt : n ≤ hi
        · have hA2 := hA1.ext hy
          have hB2 := hB1.ext hy
          have NA := fun W (h : Ext wq W) => next_any a b A n W (hA2.ext h) hkA (by omega) (by omega)
          have NB := fun W (h : Ext wq W) => next_any c d B n W (hB2.ext h) hkB (by omega) (by omega)
          have hjump := ComI.jump hkA hkB b1 b3 HI.out hlt
          have hrun := ComI.run hkA hkB b1 b3 HI.out hlt
          have hr1 := runEnd_spec (S := A) (n := n) (limit := hi) (by omega)
          have hr2 := runEnd_spec (S := B) (n := n) (limit := hi) (by omega)
          have EA := fun W (h : Ext wq W) => end_any a b A n hi W (hA2.ext h) hkA (by omega) (by omega) (by omega)
          have EB := fun W (h : Ext wq W) => end_any c d B n hi W (hB2.ext h) hkB (by omega) (by omega) (by omega)
          have hb1 := (nextF_spec hkA n (by omega)).1
          have hb2 := (nextF_spec hkB n (by omega)).1
          generalize hone : nextF A n = one at *
          generalize htwo : nextF B n = two at *
          obtain ⟨x, hxx⟩ : ∃ x, runEnd A n hi = x := ⟨_, rfl⟩
          obtain ⟨y, hyy⟩ : ∃ y, runEnd B n hi = y := ⟨_, rfl⟩
          rw [hxx] at EA hr1
          rw [hyy] at EB hr2
          rw [hxx, hyy] at hrun
          have hr3 := hr1.1
          have hr4 := hr1.2.1
          have hr5 := hr2.1
          have hr6 := hr2.2.1
          have HJ := Lib.hid hjump
          have HU := Lib.hid hrun
          clear hjump hrun hr1 hr2 hone htwo hxx hyy
          go_wp2_with fail
          go_region_held3 (fun W' => W'.cell? ⟨w.heap.size, 0, none⟩ = some a ∧ W'.cell? ⟨w.heap.size, 1, none⟩ = some b ∧ W'.cell? ⟨w.heap.size + 1, 0, none⟩ = some c ∧ W'.cell? ⟨w.heap.size + 1, 1, none⟩ = some d ∧ Ext wq W')
            ((refine ⟨Ext.cell (w := wq) ?_ e0, Ext.cell (w := wq) ?_ e1, Ext.cell (w := wq) ?_ e2, Ext.cell (w := wq) ?_ e3, ?_⟩; all_goals exact (by repeat (first | exact Ext.refl _ | assumption | refine Ext.alloc ?_ _ | refine Ext.drew ?_ | refine Ext.drewN _ ?_ | refine Ext.trans ?_ (by assumption)))))
            ((go_at_call 46; first | ((with_reducible refine (NA _ ?_).mono ?_); (focus (exact (by repeat (first | exact Ext.refl _ | assumption | refine Ext.alloc ?_ _ | refine Ext.drew ?_ | refine Ext.drewN _ ?_ | refine Ext.trans ?_ (by assumption))))); rintro e w' ⟨rfl, hx⟩) | ((with_reducible refine (NB _ ?_).mono ?_); (focus (exact (by repeat (first | exact Ext.refl _ | assumption | refine Ext.alloc ?_ _ | refine Ext.drew ?_ | refine Ext.drewN _ ?_ | refine Ext.trans ?_ (by assumption))))); rintro e w' ⟨rfl, hx⟩)))
          have hz : Ext wq w' := (by repeat (first | exact Ext.refl _ | assumption | refine Ext.alloc ?_ _ | refine Ext.drew ?_ | refine Ext.drewN _ ?_ | refine Ext.trans ?_ (by assumption)))
          clear NA NB
          by_cases hp : n = one ∧ n = two
          · obtain ⟨rfl, rfl⟩ := hp
            obtain ⟨u1, u2, hoff, k', hI', hl'⟩ := HU.out rfl rfl
            have HL' := Lib.hid hl'
            have HI' := Lib.hid hI'
            have hHR := Lib.hid (rowS_ext HR.out hz)
            replace e0 := hz.cell e0
            replace e1 := hz.cell e1
            replace e2 := hz.cell e2
            replace e3 := hz.cell e3
            replace e5 := hz.cell e5
            replace hy := hy.trans hz
            obtain ⟨W4, hW4⟩ : ∃ W4, w' = W4 := ⟨_, rfl⟩
            have EA2 := fun W (h : Ext w' W) => EA W (hz.trans h)
            have EB2 := fun W (h : Ext w' W) => EB W (hz.trans h)
            rw [hW4] at hHR e0 e1 e2 e3 e5 hy EA2 EB2 ⊢
            clear hW4 hz EA EB HU HJ HI hI' hl' e4 HR
            go_wp2_with fail
            go_region_held3 (fun W' => W'.cell? ⟨w.heap.size, 0, none⟩ = some a ∧ W'.cell? ⟨w.heap.size, 1, none⟩ = some b ∧ W'.cell? ⟨w.heap.size + 1, 0, none⟩ = some c ∧ W'.cell? ⟨w.heap.size + 1, 1, none⟩ = some d ∧ W'.cell? ⟨w.heap.size + 1 + 1, 1, none⟩ = some (.int .i64 hi) ∧ Ext W4 W')
              ((refine ⟨Ext.cell (w := W4) ?_ e0, Ext.cell (w := W4) ?_ e1, Ext.cell (w := W4) ?_ e2, Ext.cell (w := W4) ?_ e3, Ext.cell (w := W4) ?_ e5, ?_⟩; all_goals exact (by repeat (first | exact Ext.refl _ | assumption | refine Ext.alloc ?_ _ | refine Ext.drew ?_ | refine Ext.drewN _ ?_ | refine Ext.trans ?_ (by assumption)))))
              ((go_at_call 47; first | ((with_reducible refine (EA2 _ ?_).mono ?_); (focus (exact (by repeat (first | exact Ext.refl _ | assumption | refine Ext.alloc ?_ _ | refine Ext.drew ?_ | refine Ext.drewN _ ?_ | refine Ext.trans ?_ (by assumption))))); rintro e w' ⟨rfl, hx⟩) | ((with_reducible refine (EB2 _ ?_).mono ?_); (focus (exact (by repeat (first | exact Ext.refl _ | assumption | refine Ext.alloc ?_ _ | refine Ext.drew ?_ | refine Ext.drewN _ ?_ | refine Ext.trans ?_ (by assumption))))); rintro e w' ⟨rfl, hx⟩)))
            have hz : Ext W4 w' := (by repeat (first | exact Ext.refl _ | assumption | refine Ext.alloc ?_ _ | refine Ext.drew ?_ | refine Ext.drewN _ ?_ | refine Ext.trans ?_ (by assumption)))
            have hRow := rowS_ext hHR.out hz
            obtain ⟨W5, hW5⟩ : ∃ W5, w' = W5 := ⟨_, rfl⟩
            replace hy := hy.trans hz
            rw [hW5] at hy hRow ⊢
            clear hW5 hz EA2 EB2 hHR e0 e1 e2 e3 e5
            obtain ⟨l, hl⟩ : ∃ l, lst (both2 A B) lo k = l := ⟨_, rfl⟩
            rw [hl] at hRow hoff hlen HL' ⊢
            have HLK := Lib.hid hl
            have hsz := hy.size
            clear hl
            rcases last_cases l with rfl | ⟨l', s, rfl⟩
            · go_wp2_with ((at_builtin; refine wpList_append_own _ rfl _ _ 23 rfl w3.heap.size 27 i0 (.agg #[.int .i64 0, .int .i64 0]) 2 16 undSp hi0 hz0 hz1 hz2 rfl (by decide) _ _ _ rfl (World.ownsRow.alloc hRow _) ⟨W5.heap.size, 0, none⟩ 1 1 [.int .i64 n, .int .i64 (min x y)] rfl rfl (cell_two_new _ _ _ _) (by simp [Value.oneCell']) (by unfold maxLen; simp) (by simp) (by simp; omega) ?_; intro v' w9 hown hgrow _))
              have HN := Lib.hid (show RowS w3.heap.size v' (lst (both2 A B) lo k') w9 by rw [HL'.out]; exact row_add hown)
              have hx9 := ext_row hy hRow (Nat.le_refl _) (grown_pre hgrow)
              go_roundw
              case rel => exact ⟨k', min x y + 1, rfl, HI', by omega, by omega, by rw [HL'.out]; simp, HN, hx9⟩
              case measure => simp [intOf]; omega
            · have hml : (l' ++ [s]).length = l'.length + 1 := by simp
              have hat := hRow.at_.get l'.length (by simp)
              simp only [List.getElem_append_right (Nat.le_refl _), Nat.sub_self, List.getElem_cons_zero] at hat
              obtain ⟨bb, oo, rfl, _, hc1⟩ := hat
              have hof := hoff l' s rfl
              obtain ⟨f, hf⟩ : ∃ f, s.hi = f := ⟨_, rfl⟩
              rw [hf] at hc1 hof
              have hjb : (f == n - 1) = false := by rw [beq_eq_false_iff_ne]; omega
              rw [hml] at hlen ⊢
              obtain ⟨m, hm⟩ : ∃ m, l'.length = m := ⟨_, rfl⟩
              have HR9 := Lib.hid hRow
              rw [hm] at hlen hc1 ⊢
              have HM := Lib.hid hm
              have hfull : 2000 = m + 1 → comX A B lo hi = [] ∧ comE A B lo hi = 2 := fun h => comX_full HC0.out HI'.out.le (by rw [HL'.out]; simp; omega)
              have HFULL := Lib.hid hfull
              clear hf hml hm hoff hRow hfull hof
              rcases Nat.eq_zero_or_pos m with rfl | hpos
              · simp only [Nat.zero_mul, Nat.add_zero] at hc1
                go_wp2_with ((at_builtin; refine wpList_append_own _ rfl _ _ 23 rfl w3.heap.size 27 i0 (.agg #[.int .i64 0, .int .i64 0]) 2 16 undSp hi0 hz0 hz1 hz2 rfl (by decide) _ _ _ rfl (World.ownsRow.alloc (row_n HM.out HR9.out) _) ⟨W5.heap.size, 0, none⟩ 1 1 [.int .i64 n, .int .i64 (min x y)] rfl rfl (cell_two_new _ _ _ _) (by simp [Value.oneCell']) (by unfold maxLen; omega) (by omega) (by simp; omega) ?_; intro v' w9 hown hgrow _))
                have HN := Lib.hid (show RowS w3.heap.size v' (lst (both2 A B) lo k') w9 by rw [HL'.out]; exact row_add (by rw [List.length_append, List.length_singleton, HM.out]; exact hown))
                have hx9 := ext_row hy HR9.out (Nat.le_refl _) (grown_pre (by rw [List.length_append, List.length_singleton, HM.out]; exact hgrow))
                go_roundw
                case rel => exact ⟨k', min x y + 1, rfl, HI', by omega, by omega, by rw [HL'.out]; have := HM.out; simp; omega, HN, hx9⟩
                case measure => simp [intOf]; omega
              · by_cases hfu : 2000 = m + 1
                · have H1 := Lib.hid (HFULL.out hfu)
                  have hfb : ((m : Int) + 1 == 2000) = true := by rw [beq_iff_eq]; omega
                  clear hfu
                  go_wp2_with fail
                  go_ret2
                  exact ⟨.slice none 0 0, ret2 rfl (vint H1.out.2.symm), by rw [H1.out.1]; exact (rowS_nil 0 _).at_, hx1.trans hy⟩
                · have hfb : ((m : Int) + 1 == 2000) = false := by rw [beq_eq_false_iff_ne]; omega
                  go_wp2_with ((at_builtin; refine wpList_append_own _ rfl _ _ 23 rfl w3.heap.size 27 i0 (.agg #[.int .i64 0, .int .i64 0]) 2 16 undSp hi0 hz0 hz1 hz2 rfl (by decide) _ _ _ rfl (World.ownsRow.alloc (row_n HM.out HR9.out) _) ⟨W5.heap.size, 0, none⟩ 1 1 [.int .i64 n, .int .i64 (min x y)] rfl rfl (cell_two_new _ _ _ _) (by simp [Value.oneCell']) (by unfold maxLen; omega) (by omega) (by simp; omega) ?_; intro v' w9 hown hgrow _))
                  have HN := Lib.hid (show RowS w3.heap.size v' (lst (both2 A B) lo k') w9 by rw [HL'.out]; exact row_add (by rw [List.length_append, List.length_singleton, HM.out]; exact hown))
                  have hx9 := ext_row hy HR9.out (Nat.le_refl _) (grown_pre (by rw [List.length_append, List.length_singleton, HM.out]; exact hgrow))
                  go_roundw
                  case rel => exact ⟨k', min x y + 1, rfl, HI', by omega, by omega, by rw [HL'.out]; have := HM.out; simp; omega, HN, hx9⟩
                  case measure => simp [intOf]; omega
          · obtain ⟨j1, j2, k', hI', hl'⟩ := HJ.out (fun h => hp ⟨h.1.symm, h.2.symm⟩)
            have HI' := Lib.hid hI'
            have HN := Lib.hid (show RowS w3.heap.size (.slice Ad (lst (both2 A B) lo k).length cp) (lst (both2 A B) lo k') w' by rw [hl']; exact rowS_ext HR.out hz)
            have hlen' : (lst (both2 A B) lo k').length ≤ 2000 := by rw [hl']; exact hlen
            replace hy := hy.trans hz
            clear HJ HU EA EB hI' hl' hz HR HI
            by_cases hp1 : n = one
            · have hp2 : ¬ n = two := fun h => hp ⟨hp1, h⟩
              have hq1 : (one != n) = false := by rw [hp1]; simp
              have hq2 : (two != n) = true := by rw [bne_iff_ne]; exact fun h => hp2 h.symm
              clear hp hp1 hp2
              go_wp2_with fail
              go_roundw
              case rel => exact ⟨k', max one two, rfl, HI', by omega, by omega, hlen', HN, hy⟩
              case measure => simp [intOf]; omega
            · have hq1 : (one != n) = true := by rw [bne_iff_ne]; exact fun h => hp1 h.symm
              clear hp hp1
              go_wp2_with fail
              go_roundw
              case rel => exact ⟨k', max one two, rfl, HI', by omega, by omega, hlen', HN, hy⟩
              case measure => simp [intOf]; omega
        · have hk := HI.out.end_ (by omega)
          obtain ⟨p1, p2⟩ := comX_ok HC0.out hk hlen
          have hat := HR.out.at_
          rw [← p1] at hat
          have hll : lst (both2 A B) lo k = comX A B lo hi := p1.symm
          rw [hll]
          have P2 := Lib.hid p2
          clear p1 p2 hll hlen HI HR
          go_wp2_with fail
          go_ret2
          exact ⟨_, ret2 rfl (vint P2.out.symm), hat, hx1.trans hy⟩
end Go.Proofs.YtejmmfjabmmihaaGreatDoor
