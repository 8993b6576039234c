/- Holds, Next and Last of the program and of the specification: they return the same. -/
import Derived.Test.YtejcmdoalhnpeaaGreatDoorHas
namespace Go.Proofs.YtejcmdoalhnpeaaGreatDoor
open Go.RowKit Go.Shelf

/-- what Holds, Next, Last return -/
def holdR (S : Mn) (n : Int) : Bool := if askE S n = 0 then mem S n else false
def nextX (S : Mn) (n : Int) : Int := if askE S n = 0 then (if nextF S n ≤ 1048576 then nextF S n else 0) else 0
def nextE (S : Mn) (n : Int) : Int := if askE S n = 0 then (if nextF S n ≤ 1048576 then 0 else 5) else askE S n
def lastX (S : Mn) (n : Int) : Int := if askE S n = 0 then (if 0 ≤ lastF S n then lastF S n else 0) else 0
def lastE (S : Mn) (n : Int) : Int := if askE S n = 0 then (if 0 ≤ lastF S n then 0 else 5) else askE S n
theorem ask_ok {S : Mn} {n : Int} (h : askE S n = 0) : Ok S ∧ 0 ≤ n ∧ n ≤ 1048576 := by
  unfold askE at h
  split at h
  · rename_i h1; exact absurd h h1
  · rename_i h1
    split at h
    · rename_i h2
      exact ⟨Ok.of (by simpa using h1), inB_t h2⟩
    · cases h
theorem hold_eq {S : Mn} {n : Int} (h : Ok S) (h0 : 0 ≤ n) (hn : n ≤ 1048576) : (nextF S n == n) = mem S n := by
  obtain ⟨n1, n2, n3, n4⟩ := nextF_spec h n (by omega)
  cases hm : mem S n
  · rw [beq_eq_false_iff_ne]
    intro e
    rcases n4 with n4 | n4
    · omega
    · rw [e] at n4; simp [hm] at n4
  · rw [beq_iff_eq]
    by_cases e : n < nextF S n
    · have := n3 n (by omega) e; simp [hm] at this
    · omega
theorem ret2 {a a' b b' : Value} (h : a = a') (h' : b = b') : Ending.returned (.tuple #[a, b]) = .returned (.tuple #[a', b']) := by rw [h, h']
theorem vint {a b : Int} (h : a = b) : Value.int .i64 a = .int .i64 b := by rw [h]
theorem vbool {a b : Bool} (h : a = b) : Value.bool a = .bool b := by rw [h]

set_option maxHeartbeats 2000000 in
theorem Holds_any (a b : Value) (S : Mn) (n : Int) (w : World) (hS : MinsAt w a b S) :
    Calls Tryz.prog 44 #[.agg #[a, b], .int .i64 n] w fun e w' => e = .returned (.tuple #[.bool (holdR S n), .int .i64 (askE S n)]) ∧ Ext w w' := by
  cases hE : (askE S n != 0)
  · have h0 : askE S n = 0 := by simpa using hE
    obtain ⟨hok, b1, b2⟩ := ask_ok h0
    have H0 := Lib.hid h0
    clear h0
    go_enter Tryz.func44, Tryz.ntmps44
    go_wp2_with fail
    refine (asked_any a b S n _ (hS.ext (by repeat (first | exact Ext.refl _ | assumption | refine Ext.alloc ?_ _ | refine Ext.drew ?_ | refine Ext.drewN _ ?_ | refine Ext.trans ?_ (by assumption))))).mono ?_
    rintro e w1 ⟨rfl, hx1⟩
    have hc1 := ecell hx1
    go_wp2_with fail
    refine (next_any a b S n _ (hS.ext (by repeat (first | exact Ext.refl _ | assumption | refine Ext.alloc ?_ _ | refine Ext.drew ?_ | refine Ext.drewN _ ?_ | refine Ext.trans ?_ (by assumption)))) hok (by omega) (by omega)).mono ?_
    rintro e w2 ⟨rfl, hx2⟩
    go_wp2_with fail
    go_ret2
    exact ⟨ret2 (vbool (by rw [hold_eq hok b1 b2, holdR, if_pos H0.out])) (vint H0.out.symm), (by repeat (first | exact Ext.refl _ | assumption | refine Ext.alloc ?_ _ | refine Ext.drew ?_ | refine Ext.drewN _ ?_ | refine Ext.trans ?_ (by assumption)))⟩
  · have h0 : askE S n ≠ 0 := by simpa using hE
    go_enter Tryz.func44, Tryz.ntmps44
    go_wp2_with fail
    refine (asked_any a b S n _ (hS.ext (by repeat (first | exact Ext.refl _ | assumption | refine Ext.alloc ?_ _ | refine Ext.drew ?_ | refine Ext.drewN _ ?_ | refine Ext.trans ?_ (by assumption))))).mono ?_
    rintro e w1 ⟨rfl, hx1⟩
    go_wp2_with fail
    go_ret2
    exact ⟨ret2 (vbool (by rw [holdR, if_neg h0])) rfl, (by repeat (first | exact Ext.refl _ | assumption | refine Ext.alloc ?_ _ | refine Ext.drew ?_ | refine Ext.drewN _ ?_ | refine Ext.trans ?_ (by assumption)))⟩


set_option maxHeartbeats 2000000 in
theorem Next_any (a b : Value) (S : Mn) (n : Int) (w : World) (hS : MinsAt w a b S) :
    Calls Tryz.prog 15 #[.agg #[a, b], .int .i64 n] w fun e w' => e = .returned (.tuple #[.int .i64 (nextX S n), .int .i64 (nextE S n)]) ∧ Ext w w' := by
  cases hE : (askE S n != 0)
  · have h0 : askE S n = 0 := by simpa using hE
    obtain ⟨hok, b1, b2⟩ := ask_ok h0
    have H0 := Lib.hid h0
    clear h0
    go_enter Tryz.func15, Tryz.ntmps15
    go_wp2_with fail
    refine (asked_any a b S n _ (hS.ext (by repeat (first | exact Ext.refl _ | assumption | refine Ext.alloc ?_ _ | refine Ext.drew ?_ | refine Ext.drewN _ ?_ | refine Ext.trans ?_ (by assumption))))).mono ?_
    rintro e w1 ⟨rfl, hx1⟩
    have hc1 := ecell hx1
    go_wp2_with fail
    refine (next_any a b S n _ (hS.ext (by repeat (first | exact Ext.refl _ | assumption | refine Ext.alloc ?_ _ | refine Ext.drew ?_ | refine Ext.drewN _ ?_ | refine Ext.trans ?_ (by assumption)))) hok (by omega) (by omega)).mono ?_
    rintro e w2 ⟨rfl, hx2⟩
    have hnn := (nextF_spec hok n (by omega)).1
    cases hq : inB (nextF S n) 0 1048576
    all_goals
      have hq' := hq
      have HQ := Lib.hid hq'
      clear hq'
      go_wp2_with (go_at_call 47; refine (minute_any _ _).mono ?_; rintro e w' ⟨rfl, rfl⟩)
      go_ret2
    · have hb := inB_f HQ.out
      exact ⟨ret2 (vint (by rw [nextX, if_pos H0.out, if_neg (by omega)])) (vint (by rw [nextE, if_pos H0.out, if_neg (by omega)])), (by repeat (first | exact Ext.refl _ | assumption | refine Ext.alloc ?_ _ | refine Ext.drew ?_ | refine Ext.drewN _ ?_ | refine Ext.trans ?_ (by assumption)))⟩
    · have hb := inB_t HQ.out
      exact ⟨ret2 (vint (by rw [nextX, if_pos H0.out, if_pos (by omega)])) (vint (by rw [nextE, if_pos H0.out, if_pos (by omega)])), (by repeat (first | exact Ext.refl _ | assumption | refine Ext.alloc ?_ _ | refine Ext.drew ?_ | refine Ext.drewN _ ?_ | refine Ext.trans ?_ (by assumption)))⟩
  · have h0 : askE S n ≠ 0 := by simpa using hE
    go_enter Tryz.func15, Tryz.ntmps15
    go_wp2_with fail
    refine (asked_any a b S n _ (hS.ext (by repeat (first | exact Ext.refl _ | assumption | refine Ext.alloc ?_ _ | refine Ext.drew ?_ | refine Ext.drewN _ ?_ | refine Ext.trans ?_ (by assumption))))).mono ?_
    rintro e w1 ⟨rfl, hx1⟩
    go_wp2_with fail
    go_ret2
    exact ⟨ret2 (vint (by rw [nextX, if_neg h0])) (vint (by rw [nextE, if_neg h0])), (by repeat (first | exact Ext.refl _ | assumption | refine Ext.alloc ?_ _ | refine Ext.drew ?_ | refine Ext.drewN _ ?_ | refine Ext.trans ?_ (by assumption)))⟩



/-- what the specification's loops find: the same, up to what is too far -/
def refN (S : Mn) (n : Int) (k : Nat) : Int := ((pts S).take k).foldl (fun o x => min o (tlN n x)) 1048577
def refL (S : Mn) (n : Int) (k : Nat) : Int := ((pts S).take k).foldl (fun o x => max o (tlL n x)) (-1)
theorem refN_T {S : Mn} {n : Int} {k : Nat} (h : k < S.ts.length) : refN S n (k + 1) = min (refN S n k) (tnNext S.ts[k].p S.ts[k].f S.ts[k].l n) := by
  unfold refN
  rw [take_succ_get (pts S) k (by rw [pts_len]; omega), List.foldl_append, pts_t S k h]; rfl
theorem refN_S {S : Mn} {n : Int} {k : Nat} (h : k < S.ss.length) : refN S n (S.ts.length + k + 1) = min (refN S n (S.ts.length + k)) (spNext S.ss[k].lo S.ss[k].hi n) := by
  unfold refN
  rw [take_succ_get (pts S) (S.ts.length + k) (by rw [pts_len]; omega), List.foldl_append, pts_s S k h]; rfl
theorem refL_T {S : Mn} {n : Int} {k : Nat} (h : k < S.ts.length) : refL S n (k + 1) = max (refL S n k) (tnLast S.ts[k].p S.ts[k].f S.ts[k].l n) := by
  unfold refL
  rw [take_succ_get (pts S) k (by rw [pts_len]; omega), List.foldl_append, pts_t S k h]; rfl
theorem refL_S {S : Mn} {n : Int} {k : Nat} (h : k < S.ss.length) : refL S n (S.ts.length + k + 1) = max (refL S n (S.ts.length + k)) (spLast S.ss[k].lo S.ss[k].hi n) := by
  unfold refL
  rw [take_succ_get (pts S) (S.ts.length + k) (by rw [pts_len]; omega), List.foldl_append, pts_s S k h]; rfl
theorem refN_le (S : Mn) (n : Int) (k : Nat) : refN S n k ≤ 1048577 := by
  unfold refN
  have : ∀ (l : List Pt) (z : Int), l.foldl (fun o x => min o (tlN n x)) z ≤ z := by
    intro l
    induction l with
    | nil => intro z; exact Int.le_refl _
    | cons x l ih => intro z; simp only [List.foldl_cons]; have := ih (min z (tlN n x)); omega
  exact this _ _
theorem refL_ge (S : Mn) (n : Int) (k : Nat) : -1 ≤ refL S n k := by
  unfold refL
  have : ∀ (l : List Pt) (z : Int), z ≤ l.foldl (fun o x => max o (tlL n x)) z := by
    intro l
    induction l with
    | nil => intro z; exact Int.le_refl _
    | cons x l ih => intro z; simp only [List.foldl_cons]; have := ih (max z (tlL n x)); omega
  exact this _ _
theorem refN_eq (S : Mn) (n : Int) : refN S n (S.ts.length + S.ss.length) = min 1048577 (nextF S n) := by
  unfold refN nextF bestF
  rw [List.take_of_length_le (by rw [pts_len]; omega)]
  have : ∀ (l : List Pt) (y z : Int), y ≤ z → l.foldl (fun o x => min o (tlN n x)) y = min y (l.foldl (fun out x => if decide (tlN n x < out) = true then tlN n x else out) z) := by
    intro l
    induction l with
    | nil => intro y z h; simp only [List.foldl_nil]; omega
    | cons x l ih =>
      intro y z h
      simp only [List.foldl_cons, decide_eq_true_eq]
      simp only [decide_eq_true_eq] at ih
      have h1 : ∀ (l : List Pt) (z : Int), l.foldl (fun out x => if tlN n x < out then tlN n x else out) z ≤ z := by
        intro l
        induction l with
        | nil => intro z; exact Int.le_refl _
        | cons x l ih =>
          intro z
          simp only [List.foldl_cons]
          split
          · have := ih (tlN n x); omega
          · exact ih z
      split
      · rw [ih (min y (tlN n x)) (tlN n x) (by omega)]
        have := h1 l (tlN n x)
        omega
      · rw [ih (min y (tlN n x)) z (by omega)]
        have := h1 l z
        omega
  exact this _ _ _ (by omega)

theorem refL_eq (S : Mn) (n : Int) : refL S n (S.ts.length + S.ss.length) = max (-1) (lastF S n) := by
  unfold refL lastF bestF
  rw [List.take_of_length_le (by rw [pts_len]; omega)]
  have : ∀ (l : List Pt) (y z : Int), z ≤ y → l.foldl (fun o x => max o (tlL n x)) y = max y (l.foldl (fun out x => if decide (out < tlL n x) = true then tlL n x else out) z) := by
    intro l
    induction l with
    | nil => intro y z h; simp only [List.foldl_nil]; omega
    | cons x l ih =>
      intro y z h
      simp only [List.foldl_cons, decide_eq_true_eq]
      simp only [decide_eq_true_eq] at ih
      have h1 : ∀ (l : List Pt) (z : Int), z ≤ l.foldl (fun out x => if out < tlL n x then tlL n x else out) z := by
        intro l
        induction l with
        | nil => intro z; exact Int.le_refl _
        | cons x l ih =>
          intro z
          simp only [List.foldl_cons]
          split
          · have := ih (tlL n x); omega
          · exact ih z
      split
      · rw [ih (max y (tlL n x)) (tlL n x) (by omega)]
        have := h1 l (tlL n x)
        omega
      · rw [ih (max y (tlL n x)) z (by omega)]
        have := h1 l z
        omega
  exact this _ _ _ (by omega)




end Go.Proofs.YtejcmdoalhnpeaaGreatDoor
