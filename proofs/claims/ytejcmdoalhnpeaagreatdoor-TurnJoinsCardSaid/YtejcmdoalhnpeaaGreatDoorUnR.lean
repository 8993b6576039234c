/- Plain laws of Union and Shift: spans as the fewest ones, however they are found; turns without doubles. No program in sight. Shift of the program and of the specification. hasTurn and joined of the specification. An append of a whole slice, empty or not, onto a row of the call's own. Union of the specification. -/
import Derived.Test.YtejcmdoalhnpeaaGreatDoorComW
import Derived.Test.YtejcmdoalhnpeaaGreatDoorParse
import Derived.Deep.DeepCutAuto
import Derived.Test.YtejcmdoalhnpeaaGreatDoorApt
import Derived.Deep.Upon
import Derived.Lib.SlFresh
namespace Go.Proofs.YtejcmdoalhnpeaaGreatDoor
open Go.RowKit Go.Shelf

/-- spans of minutes -/
def SpsV (l : List Sp) : Prop := ∀ s ∈ l, 0 ≤ s.lo ∧ s.lo ≤ s.hi ∧ s.hi ≤ 1048576
/-- spans in order, with room between -/
structure Apt2 (l : List Sp) : Prop where
  v : ∀ s ∈ l, s.lo ≤ s.hi
  p : l.Pairwise (fun a b => a.hi + 2 ≤ b.lo)
theorem apt2_nil : Apt2 [] := ⟨by simp, List.Pairwise.nil⟩
theorem apt2_snoc {l : List Sp} {s : Sp} (h : Apt2 l) (h1 : s.lo ≤ s.hi) (h2 : ∀ t ∈ l, t.hi + 2 ≤ s.lo) : Apt2 (l ++ [s]) := by
  refine ⟨fun t ht => ?_, ?_⟩
  · rcases List.mem_append.1 ht with ht | ht
    · exact h.v t ht
    · rw [List.mem_singleton] at ht; subst ht; exact h1
  · rw [List.pairwise_append]
    refine ⟨h.p, List.pairwise_singleton _ _, fun t ht u hu => ?_⟩
    rw [List.mem_singleton] at hu; subst hu
    exact h2 t ht
theorem apt2_head {l : List Sp} {s : Sp} (h : Apt2 (l ++ [s])) : Apt2 l ∧ s.lo ≤ s.hi ∧ ∀ t ∈ l, t.hi + 2 ≤ s.lo := by
  have hp := h.p
  rw [List.pairwise_append] at hp
  exact ⟨⟨fun t ht => h.v t (by simp [ht]), hp.1⟩, h.v s (by simp), fun t ht => hp.2.2 t ht s (by simp)⟩
theorem apt2_of {l : List Sp} (h : AptOk l) : Apt2 l := by
  induction l using snoc_ind with
  | h0 => exact apt2_nil
  | h1 l s ih =>
    obtain ⟨a1, a2, a3⟩ := apt_head h
    have hi := ih a1
    refine apt2_snoc hi a2 (fun t ht => ?_)
    rcases last_cases l with rfl | ⟨l', z, rfl⟩
    · simp at ht
    · have hz := a3 l' z rfl
      obtain ⟨_, b2, b3⟩ := apt2_head hi
      rcases List.mem_append.1 ht with ht | ht
      · have := b3 t ht; omega
      · rw [List.mem_singleton] at ht; subst ht; omega
theorem anyIn_cons (s : Sp) (l : List Sp) (m : Int) : anyIn (s :: l) m = ((decide (s.lo ≤ m) && decide (m ≤ s.hi)) || anyIn l m) := by simp [anyIn]
theorem anyIn_t {l : List Sp} {m : Int} : anyIn l m = true ↔ ∃ s ∈ l, s.lo ≤ m ∧ m ≤ s.hi := by simp [anyIn]
theorem apt2_tail {s : Sp} {l : List Sp} (h : Apt2 (s :: l)) : Apt2 l ∧ ∀ m, m ≤ s.hi + 1 → anyIn l m = false := by
  have hp := h.p
  rw [List.pairwise_cons] at hp
  refine ⟨⟨fun t ht => h.v t (by simp [ht]), hp.2⟩, fun m hm => ?_⟩
  rw [← Bool.not_eq_true, anyIn_t]
  rintro ⟨t, ht, h1, h2⟩
  have := hp.1 t ht
  omega
theorem apt2_low {s : Sp} {l : List Sp} (h : Apt2 (s :: l)) {m : Int} (hm : anyIn (s :: l) m = true) : s.lo ≤ m := by
  rw [anyIn_t] at hm
  obtain ⟨t, ht, h1, h2⟩ := hm
  rcases List.mem_cons.1 ht with rfl | ht
  · exact h1
  · have hp := h.p
    rw [List.pairwise_cons] at hp
    have h3 := hp.1 t ht
    have h4 := h.v s (by simp)
    omega
theorem anyIn_own {s : Sp} {l : List Sp} {m : Int} (h1 : s.lo ≤ m) (h2 : m ≤ s.hi) : anyIn (s :: l) m = true := by rw [anyIn_t]; exact ⟨s, by simp, h1, h2⟩
/-- what lies so is told by what it holds -/
theorem apt2_eq : ∀ {l r : List Sp}, Apt2 l → Apt2 r → (∀ m, anyIn l m = anyIn r m) → l = r := by
  intro l
  induction l with
  | nil =>
    intro r _ hr h
    cases r with
    | nil => rfl
    | cons t r =>
      have h1 := h t.lo
      rw [anyIn_own (Int.le_refl _) (hr.v t (by simp))] at h1
      simp [anyIn] at h1
  | cons s l ih =>
    intro r hl hr h
    have hsv := hl.v s (by simp)
    cases r with
    | nil =>
      have h1 := h s.lo
      rw [anyIn_own (Int.le_refl _) hsv] at h1
      simp [anyIn] at h1
    | cons t r =>
      have htv := hr.v t (by simp)
      obtain ⟨l1, l2⟩ := apt2_tail hl
      obtain ⟨r1, r2⟩ := apt2_tail hr
      have e1 : s.lo = t.lo := by
        have a := apt2_low hr (m := s.lo) (by rw [← h]; exact anyIn_own (Int.le_refl _) hsv)
        have b := apt2_low hl (m := t.lo) (by rw [h]; exact anyIn_own (Int.le_refl _) htv)
        omega
      have g1 : anyIn (s :: l) (s.hi + 1) = false := by rw [anyIn_cons, l2 _ (Int.le_refl _), decide_eq_false (show ¬ s.hi + 1 ≤ s.hi by omega)]; simp
      have g2 : anyIn (t :: r) (t.hi + 1) = false := by rw [anyIn_cons, r2 _ (Int.le_refl _), decide_eq_false (show ¬ t.hi + 1 ≤ t.hi by omega)]; simp
      have e2 : s.hi = t.hi := by
        rcases Int.lt_trichotomy s.hi t.hi with hlt | he | hlt
        · rw [h, anyIn_own (by omega) (by omega)] at g1; cases g1
        · exact he
        · rw [← h, anyIn_own (by omega) (by omega)] at g2; cases g2
      have e3 : s = t := by cases s; cases t; simp only at e1 e2; subst e1 e2; rfl
      subst e3
      rw [ih l1 r1 (fun m => ?_)]
      have hm := h m
      rw [anyIn_cons, anyIn_cons] at hm
      by_cases hb : m ≤ s.hi
      · rw [l2 m (by omega), r2 m (by omega)]
      · rw [decide_eq_false hb, Bool.and_false, Bool.false_or, Bool.false_or] at hm
        exact hm

/-- the program's way: each span onto the last one, if it touches it -/
def jnS (o : List Sp) (s : Sp) : List Sp :=
  match o.getLast? with
  | some t => if s.lo ≤ t.hi + 1 then o.dropLast ++ [⟨t.lo, max t.hi s.hi⟩] else o ++ [s]
  | none => [s]
def jn (l : List Sp) : List Sp := l.foldl jnS []
theorem jn_snoc (l : List Sp) (s : Sp) : jn (l ++ [s]) = jnS (jn l) s := by simp [jn]
theorem jnS_nil (s : Sp) : jnS [] s = [s] := rfl
theorem jnS_last (o : List Sp) (t s : Sp) : jnS (o ++ [t]) s = if s.lo ≤ t.hi + 1 then o ++ [⟨t.lo, max t.hi s.hi⟩] else o ++ [t] ++ [s] := by simp [jnS]
theorem jn_spec (l : List Sp) (hv : ∀ s ∈ l, s.lo ≤ s.hi) (hs : l.Pairwise (fun a b => a.lo ≤ b.lo)) : Apt2 (jn l) ∧ (∀ m, anyIn (jn l) m = anyIn l m) ∧ ∀ t ∈ jn l, ∃ u ∈ l, t.lo = u.lo := by
  induction l using snoc_ind with
  | h0 => exact ⟨apt2_nil, fun m => rfl, fun t ht => by simp [jn] at ht⟩
  | h1 l s ih =>
    rw [List.pairwise_append] at hs
    obtain ⟨i1, i2, i3⟩ := ih (fun t ht => hv t (by simp [ht])) hs.1
    have hsv := hv s (by simp)
    rw [jn_snoc]
    generalize jn l = o at *
    rcases last_cases o with rfl | ⟨o', t, rfl⟩
    · rw [jnS_nil]
      refine ⟨apt2_snoc (l := []) apt2_nil hsv (by simp), fun m => ?_, fun t ht => ⟨s, by simp, by simp at ht; rw [ht]⟩⟩
      rw [anyIn_snoc, ← i2 m]
      simp [anyIn]
    · rw [jnS_last]
      obtain ⟨a1, a2, a3⟩ := apt2_head i1
      have hlo : t.lo ≤ s.lo := by
        obtain ⟨u, hu, e⟩ := i3 t (by simp)
        have := hs.2.2 u hu s (by simp)
        omega
      split
      · rename_i hj
        refine ⟨apt2_snoc a1 (by simp only; omega) a3, fun m => ?_, fun x hx => ?_⟩
        · have h2 := i2 m
          rw [anyIn_snoc] at h2 ⊢
          rw [anyIn_snoc, ← h2]
          cases anyIn o' m
          · rw [Bool.eq_iff_iff]; simp only [Bool.false_or, Bool.or_eq_true, Bool.and_eq_true, decide_eq_true_eq]; omega
          · simp
        · rcases List.mem_append.1 hx with hx | hx
          · obtain ⟨u, hu, e⟩ := i3 x (by simp [hx]); exact ⟨u, by simp [hu], e⟩
          · rw [List.mem_singleton] at hx; subst hx
            obtain ⟨u, hu, e⟩ := i3 t (by simp); exact ⟨u, by simp [hu], e⟩
      · rename_i hj
        refine ⟨apt2_snoc i1 hsv (fun x hx => ?_), fun m => ?_, fun x hx => ?_⟩
        · rcases List.mem_append.1 hx with hx | hx
          · have := a3 x hx; omega
          · rw [List.mem_singleton] at hx; subst hx; omega
        · rw [anyIn_snoc, anyIn_snoc (l := l), i2 m]
        · rcases List.mem_append.1 hx with hx | hx
          · obtain ⟨u, hu, e⟩ := i3 x hx; exact ⟨u, by simp [hu], e⟩
          · rw [List.mem_singleton] at hx; subst hx; exact ⟨x, by simp, rfl⟩
theorem jn_len (l : List Sp) : (jn l).length ≤ l.length := by
  induction l using snoc_ind with
  | h0 => simp [jn]
  | h1 l s ih =>
    rw [jn_snoc]
    generalize jn l = o at *
    rcases last_cases o with rfl | ⟨o', t, rfl⟩
    · simp [jnS_nil]
    · rw [jnS_last]
      split <;> simp at ih ⊢ <;> omega

/-- the fewest spans with the same minutes -/
def unS (l : List Sp) : List Sp := lst (anyIn l) 0 1048577
theorem unS_spec {l : List Sp} (h : SpsV l) : Apt2 (unS l) ∧ ∀ m, anyIn (unS l) m = anyIn l m := by
  refine ⟨apt2_of (lst_apt _ _ _), fun m => ?_⟩
  unfold unS
  rw [lst_any]
  by_cases h1 : 0 ≤ m ∧ m < 0 + ((1048577 : Nat) : Int)
  · rw [decide_eq_true h1.1, decide_eq_true h1.2]; rfl
  · have : anyIn l m = false := by
      rw [← Bool.not_eq_true, anyIn_t]
      rintro ⟨s, hs, h2, h3⟩
      have := h s hs
      exact h1 ⟨by omega, by simp; omega⟩
    rw [this, Bool.and_false]
theorem anyIn_perm {l r : List Sp} (h : l.Perm r) (m : Int) : anyIn l m = anyIn r m := by
  rw [Bool.eq_iff_iff, anyIn_t, anyIn_t]
  exact ⟨fun ⟨s, hs, x⟩ => ⟨s, h.mem_iff.1 hs, x⟩, fun ⟨s, hs, x⟩ => ⟨s, h.mem_iff.2 hs, x⟩⟩
/-- joined, of sorted spans -/
theorem jn_unS {l r : List Sp} (hv : SpsV l) (hp : l.Perm r) (hs : r.Pairwise (fun a b => a.lo ≤ b.lo)) : jn r = unS l := by
  obtain ⟨a1, a2, _⟩ := jn_spec r (fun s h => (hv s (hp.mem_iff.2 h)).2.1) hs
  obtain ⟨b1, b2⟩ := unS_spec hv
  exact apt2_eq a1 b1 (fun m => by rw [a2, b2, anyIn_perm hp])

/-- the specification's way: the least minute of the spans from one on -/
def nxS (fr : Int) (o : Int) (s : Sp) : Int := if fr ≤ s.hi then min o (max fr s.lo) else o
def nxU (l : List Sp) (fr : Int) : Int := l.foldl (nxS fr) 1048577
theorem nxU_snoc (l : List Sp) (s : Sp) (fr : Int) : nxU (l ++ [s]) fr = nxS fr (nxU l fr) s := by simp [nxU]
theorem nxU_spec (l : List Sp) (hv : SpsV l) (fr : Int) (_h0 : 0 ≤ fr) (h1 : fr ≤ 1048577) : fr ≤ nxU l fr ∧ nxU l fr ≤ 1048577 ∧ (∀ m, fr ≤ m → m < nxU l fr → anyIn l m = false) ∧ (nxU l fr ≤ 1048576 → anyIn l (nxU l fr) = true) := by
  induction l using snoc_ind with
  | h0 => simp [nxU, anyIn]; omega
  | h1 l s ih =>
    obtain ⟨i1, i2, i3, i4⟩ := ih (fun t ht => hv t (by simp [ht]))
    obtain ⟨v1, v2, v3⟩ := hv s (by simp)
    rw [nxU_snoc]
    generalize nxU l fr = o at *
    unfold nxS
    by_cases hf : fr ≤ s.hi
    · rw [if_pos hf]
      refine ⟨by omega, by omega, fun m g1 g2 => ?_, fun g => ?_⟩
      · rw [anyIn_snoc, i3 m g1 (by omega), Bool.false_or, decide_eq_false (show ¬ s.lo ≤ m by omega), Bool.false_and]
      · rw [anyIn_snoc]
        by_cases hc : o ≤ max fr s.lo
        · rw [show min o (max fr s.lo) = o by omega] at g ⊢
          rw [i4 g]; rfl
        · rw [show min o (max fr s.lo) = max fr s.lo by omega, decide_eq_true (show s.lo ≤ max fr s.lo by omega), decide_eq_true (show max fr s.lo ≤ s.hi by omega)]; simp
    · rw [if_neg hf]
      refine ⟨i1, i2, fun m g1 g2 => ?_, fun g => ?_⟩
      · rw [anyIn_snoc, i3 m g1 g2, Bool.false_or, decide_eq_false (show ¬ m ≤ s.hi by omega), Bool.and_false]
      · rw [anyIn_snoc, i4 g]; rfl
/-- a pass over all spans, by which an end grows -/
def paS (h : Int) (s : Sp) : Int := if s.lo ≤ h + 1 then max h s.hi else h
def pa (l : List Sp) (h : Int) : Int := l.foldl paS h
theorem pa_snoc (l : List Sp) (s : Sp) (h : Int) : pa (l ++ [s]) h = paS (pa l h) s := by simp [pa]
theorem paS_ge (h : Int) (s : Sp) : h ≤ paS h s := by unfold paS; split <;> omega
theorem pa_ge (l : List Sp) (h : Int) : h ≤ pa l h := by
  induction l using snoc_ind with
  | h0 => exact Int.le_refl _
  | h1 l s ih => rw [pa_snoc]; have := paS_ge (pa l h) s; omega
theorem pa_le (l : List Sp) (hv : SpsV l) (h : Int) (hh : h ≤ 1048576) : pa l h ≤ 1048576 := by
  induction l using snoc_ind with
  | h0 => exact hh
  | h1 l s ih =>
    have h1 := ih (fun t ht => hv t (by simp [ht]))
    have h2 := hv s (by simp)
    rw [pa_snoc]; unfold paS; split <;> omega
theorem pa_cov (l : List Sp) (h : Int) : ∀ m, h < m → m ≤ pa l h → anyIn l m = true := by
  induction l using snoc_ind with
  | h0 => intro m h1 h2; simp [pa] at h2; omega
  | h1 l s ih =>
    intro m h1 h2
    rw [pa_snoc] at h2
    rw [anyIn_snoc]
    by_cases hc : m ≤ pa l h
    · rw [ih m h1 hc]; rfl
    · unfold paS at h2
      split at h2
      · rw [decide_eq_true (show s.lo ≤ m by omega), decide_eq_true (show m ≤ s.hi by omega)]; simp
      · omega
theorem pa_end (l : List Sp) (h : Int) : pa l h = h ∨ ∃ s ∈ l, s.hi = pa l h ∧ h < s.hi := by
  induction l using snoc_ind with
  | h0 => exact .inl rfl
  | h1 l s ih =>
    have hg := pa_ge l h
    rw [pa_snoc]
    by_cases hc : s.lo ≤ pa l h + 1 ∧ pa l h < s.hi
    · right
      refine ⟨s, by simp, ?_, by omega⟩
      unfold paS; rw [if_pos hc.1]; omega
    · have he : paS (pa l h) s = pa l h := by unfold paS; split <;> omega
      rw [he]
      rcases ih with h1 | ⟨t, ht, h1, h2⟩
      · exact .inl h1
      · exact .inr ⟨t, by simp [ht], h1, h2⟩
theorem pa_stable (l : List Sp) (h : Int) (he : pa l h = h) : ∀ s ∈ l, s.lo ≤ h + 1 → s.hi ≤ h := by
  induction l using snoc_ind with
  | h0 => intro s hs; simp at hs
  | h1 l s ih =>
    rw [pa_snoc] at he
    have g1 := pa_ge l h
    have g2 := paS_ge (pa l h) s
    have e1 : pa l h = h := by omega
    intro t ht hl
    rcases List.mem_append.1 ht with ht | ht
    · exact ih e1 t ht hl
    · rw [List.mem_singleton] at ht; subst ht
      rw [e1] at he
      unfold paS at he
      rw [if_pos hl] at he
      omega
def paN (l : List Sp) : Nat → Int → Int
  | 0, h => h
  | n + 1, h => pa l (paN l n h)
def cntH (l : List Sp) (h : Int) : Nat := (l.filter (fun s => decide (s.hi ≤ h))).length
theorem cntH_mono (l : List Sp) {h h' : Int} (hh : h ≤ h') : cntH l h ≤ cntH l h' := by
  induction l with
  | nil => exact Nat.le_refl _
  | cons s l ih =>
    unfold cntH at *
    simp only [List.filter_cons]
    by_cases h1 : s.hi ≤ h
    · rw [decide_eq_true h1, decide_eq_true (show s.hi ≤ h' by omega)]; simpa using ih
    · by_cases h2 : s.hi ≤ h'
      · rw [decide_eq_false h1, decide_eq_true h2]; simp at ih ⊢; omega
      · rw [decide_eq_false h1, decide_eq_false h2]; simpa using ih
theorem cntH_lt (l : List Sp) {h h' : Int} (hh : h ≤ h') (s : Sp) (hs : s ∈ l) (h1 : h < s.hi) (h2 : s.hi ≤ h') : cntH l h + 1 ≤ cntH l h' := by
  induction l with
  | nil => simp at hs
  | cons t l ih =>
    have hm := cntH_mono l hh
    unfold cntH at *
    simp only [List.filter_cons]
    rcases List.mem_cons.1 hs with rfl | hs
    · rw [decide_eq_false (show ¬ s.hi ≤ h by omega), decide_eq_true h2]
      simp at hm ⊢; omega
    · have := ih hs
      by_cases h3 : t.hi ≤ h
      · rw [decide_eq_true h3, decide_eq_true (show t.hi ≤ h' by omega)]; simp at this ⊢; omega
      · by_cases h4 : t.hi ≤ h'
        · rw [decide_eq_false h3, decide_eq_true h4]; simp at this ⊢; omega
        · rw [decide_eq_false h3, decide_eq_false h4]; simpa using this
theorem cntH_full (l : List Sp) {h : Int} (hc : l.length ≤ cntH l h) : ∀ s ∈ l, s.hi ≤ h := by
  intro s hs
  by_cases h1 : s.hi ≤ h
  · exact h1
  · have := cntH_lt l (h := h) (h' := s.hi) (by omega) s hs (by omega) (Int.le_refl _)
    have h2 : cntH l s.hi ≤ l.length := by unfold cntH; exact List.length_filter_le _ _
    omega
/-- as many passes as there are spans reach as far as can be -/
theorem paN_closed (l : List Sp) (h : Int) : ∀ s ∈ l, s.lo ≤ paN l l.length h + 1 → s.hi ≤ paN l l.length h := by
  have key : ∀ n, (∃ k, k ≤ n ∧ paN l n h = paN l k h ∧ pa l (paN l k h) = paN l k h) ∨ n ≤ cntH l (paN l n h) := by
    intro n
    induction n with
    | zero => exact .inr (Nat.zero_le _)
    | succ n ih =>
      rcases ih with ⟨k, h1, h2, h3⟩ | hc
      · exact .inl ⟨k, by omega, by show pa l (paN l n h) = _; rw [h2, h3], h3⟩
      · rcases pa_end l (paN l n h) with he | ⟨s, hs, h1, h2⟩
        · exact .inl ⟨n, by omega, he, he⟩
        · right
          have := cntH_lt l (pa_ge l (paN l n h)) s hs h2 (by omega)
          show n + 1 ≤ cntH l (pa l (paN l n h))
          omega
  rcases key l.length with ⟨k, h1, h2, h3⟩ | hc
  · rw [h2]; exact pa_stable l _ h3
  · exact fun s hs _ => cntH_full l hc s hs
theorem paN_ge (l : List Sp) (h : Int) (n : Nat) : h ≤ paN l n h := by
  induction n with
  | zero => exact Int.le_refl _
  | succ n ih => show h ≤ pa l (paN l n h); have := pa_ge l (paN l n h); omega
theorem paN_le (l : List Sp) (hv : SpsV l) (h : Int) (hh : h ≤ 1048576) (n : Nat) : paN l n h ≤ 1048576 := by
  induction n with
  | zero => exact hh
  | succ n ih => exact pa_le l hv _ ih
theorem paN_cov (l : List Sp) (h : Int) (n : Nat) : ∀ m, h < m → m ≤ paN l n h → anyIn l m = true := by
  induction n with
  | zero => intro m h1 h2; simp only [paN] at h2; omega
  | succ n ih =>
    intro m h1 h2
    by_cases hc : m ≤ paN l n h
    · exact ih m h1 hc
    · exact pa_cov l _ m (by omega) h2
/-- where the specification's joined stands -/
structure JnI (l : List Sp) (k : Nat) : Prop where
  le : k ≤ 1048577
  off : k = 0 ∨ anyIn l k = false
theorem spN_all : spN 0 1048576 = 1048577 := rfl
theorem jnI_run {l : List Sp} {k : Nat} (hv : SpsV l) (h : JnI l k) : RunI (anyIn l) 0 1048576 k (nxU l k) := by
  obtain ⟨a1, a2, a3, a4⟩ := nxU_spec l hv k (by omega) (by have := h.le; omega)
  refine ⟨by rw [spN_all]; exact h.le, by omega, ?_, fun i g1 g2 => a3 i (by omega) g2, a4⟩
  rcases h.off with h1 | h1
  · exact .inl h1
  · exact .inr (.inl (by rw [Int.zero_add]; exact h1))
theorem jnI_done {l : List Sp} {k : Nat} (hv : SpsV l) (h : JnI l k) (hm : 1048576 < nxU l k) : lst (anyIn l) 0 k = unS l := ((jnI_run hv h).done hm).symm
theorem jnI_next {l : List Sp} {k : Nat} (hv : SpsV l) (h : JnI l k) (hm : nxU l k ≤ 1048576) :
    k ≤ nxU l k ∧ nxU l k ≤ paN l l.length (nxU l k) ∧ paN l l.length (nxU l k) ≤ 1048576 ∧ ∃ k' : Nat, JnI l k' ∧ (k' : Int) = paN l l.length (nxU l k) + 1 ∧ lst (anyIn l) 0 k' = lst (anyIn l) 0 k ++ [⟨nxU l k, paN l l.length (nxU l k)⟩] := by
  obtain ⟨a1, a2, a3, a4⟩ := nxU_spec l hv k (by omega) (by have := h.le; omega)
  have hr := jnI_run hv h
  generalize nxU l k = m at *
  have g1 := paN_ge l m l.length
  have g2 := paN_le l hv m hm l.length
  have g3 := paN_cov l m l.length
  have g4 := paN_closed l m
  generalize paN l l.length m = tq at *
  have hoff : anyIn l (tq + 1) = false := by
    rw [← Bool.not_eq_true, anyIn_t]
    rintro ⟨s, hs, h1, h2⟩
    have := g4 s hs h1
    omega
  obtain ⟨k', h1, h2, h3, _⟩ := hr.next hm g1 g2 (fun i b1 b2 => by
    by_cases e : i = m
    · subst e; exact a4 hm
    · exact g3 i (by omega) b2) (.inr hoff)
  refine ⟨a1, g1, g2, k', ⟨by rw [spN_all] at h1; exact h1, .inr (by rw [show (k' : Int) = tq + 1 by omega]; exact hoff)⟩, by omega, h3⟩

/-- turns without doubles -/
def hasT (l : List Tn) (t : Tn) : Bool := l.any (fun u => u.p == t.p && u.f == t.f && u.l == t.l)
def adT (o : List Tn) (t : Tn) : List Tn := if hasT o t then o else o ++ [t]
def ddT (l : List Tn) : List Tn := l.foldl adT []
theorem ddT_snoc (l : List Tn) (t : Tn) : ddT (l ++ [t]) = adT (ddT l) t := by simp [ddT]
theorem ddT_len (l : List Tn) : (ddT l).length ≤ l.length := by
  induction l using snoc_ind with
  | h0 => simp [ddT]
  | h1 l t ih =>
    rw [ddT_snoc]; unfold adT
    split <;> simp <;> omega
/-- Union -/
def uniE (A B : Mn) : Int := if or2 (chkE A) (chkE B) ≠ 0 then or2 (chkE A) (chkE B) else if 24 < (ddT (A.ts ++ B.ts)).length ∨ 40 < (unS (A.ss ++ B.ss)).length then 2 else 0
def uniX (A B : Mn) : Mn := if uniE A B = 0 then ⟨ddT (A.ts ++ B.ts), unS (A.ss ++ B.ss)⟩ else ⟨[], []⟩
/-- Shift -/
def shTn (b : Int) (t : Tn) : Tn := ⟨t.p, (t.f + b) % t.p, t.l⟩
def shfE (S : Mn) (b : Int) : Int := if chkE S ≠ 0 then chkE S else if 0 < S.ss.length ∨ inB b (-1048576) 1048576 = false then 1 else 0
def shfX (S : Mn) (b : Int) : Mn := if shfE S b = 0 then ⟨S.ts.map (shTn b), []⟩ else ⟨[], []⟩
end Go.Proofs.YtejcmdoalhnpeaaGreatDoor
namespace Go.Proofs.YtejcmdoalhnpeaaGreatDoor
open Go.RowKit Go.Shelf

/-- what a function that hands back a set leaves -/
def SetPost (w : World) (X : Mn) (E : Int) (e : Ending) (w' : World) : Prop := ∃ va vb, e = .returned (.tuple #[.agg #[va, vb], .int .i64 E]) ∧ MinsAt w' va vb X ∧ Ext w w'
def RSetPost (w : World) (X : Mn) (E : Int) (e : Ending) (w' : World) : Prop := ∃ va vb, e = .returned (.agg #[va, vb, .int .i64 E]) ∧ MinsAt w' va vb X ∧ Ext w w'
theorem mins_nil (W : World) : MinsAt W (.slice none 0 0) (.slice none 0 0) ⟨[], []⟩ := ⟨turnsAt_nil W, spansAt_nil W⟩
/-- a set of the call's own that turns are added to, beside the boxed argument and the result -/
structure SH (w : World) (a b : Value) (tR tO : TypeId) (r0 : Array Value) (cs : Value → Array Value) (K : Nat) (v : Value) (l : List Tn) (W : World) : Prop where
  q0 : Cls w.heap.size 25 #[a, b] W
  qr : Cls (w.heap.size + 1) tR r0 W
  mn : Cls K tO (cs v) W
  rt : RowT (K + 1) v l W
  ex : Ext w W
  sz : K + 1 ≤ W.heap.size
  hk : w.heap.size + 2 ≤ K
theorem rowT_ext {n₀ : Nat} {v : Value} {l : List Tn} {W W' : World} (h : RowT n₀ v l W) (x : Ext W W') : RowT n₀ v l W' :=
  World.ownsRow.kept h (grown_none x) (by cases v.ownBlock <;> simp)
theorem SH.ext {w : World} {a b : Value} {tR tO : TypeId} {r0 : Array Value} {cs : Value → Array Value} {K : Nat} {v : Value} {l : List Tn} {W W' : World} (h : SH w a b tR tO r0 cs K v l W) (x : Ext W W') : SH w a b tR tO r0 cs K v l W' :=
  ⟨h.q0.ext x, h.qr.ext x, h.mn.ext x, rowT_ext h.rt x, h.ex.trans x, Nat.le_trans h.sz x.size, h.hk⟩
theorem SH.add {w : World} {a b : Value} {tR tO : TypeId} {r0 : Array Value} {cs : Value → Array Value} {K : Nat} {v : Value} {l : List Tn} {t : Tn} {W W' : World} {v' : Value} {tmp : Obj} (hcs : ∀ u x, (cs u).setIfInBounds 0 x = cs x) (h : SH w a b tR tO r0 cs K v l W) (hg : (W.alloc tmp).grownBy W' v.ownBlock) (ho : W'.ownsRow (K + 1) 42 3 v' (l.length + 1) (cellsT l ++ [.int .i64 t.p, .int .i64 t.f, .int .i64 t.l])) :
    Cls K tO (cs v) W' ∧ SH w a b tR tO r0 cs K v' (l ++ [t]) (W'.setCell ⟨K, 0, none⟩ v') := by
  have hne : ∀ b, b < K + 1 → some b ≠ v.ownBlock := fun b hb => own_ge h.rt hb
  have k : ∀ {b : Nat} {t : TypeId} {cs : Array Value}, b < K + 1 → Cls b t cs W → Cls b t cs W' := fun hb hc => (hc.ext ((Ext.refl _).alloc _)).kept hg (hne _ hb)
  have hk := h.hk
  have hm := k (by omega) h.mn
  have hx : Ext w W' := (h.ex.alloc tmp).trans' (by
    refine ⟨hg.os, hg.tape, hg.output, hg.size, fun i hi => hg.block i (by have := h.sz; simp; omega) (hne i (by omega))⟩)
  refine ⟨hm, ⟨(k (by omega) h.q0).other (by omega) 0 _, (k (by omega) h.qr).other (by omega) 0 _, ?_, ?_, hx.setCell (by simp; omega) _, ?_, hk⟩⟩
  · have := hm.set 0 v'
    rw [hcs] at this
    exact this
  · have h5 : (W'.setCell ⟨K, 0, none⟩ v').ownsRow (K + 1) 42 3 v' (l.length + 1) (cellsT l ++ [.int .i64 t.p, .int .i64 t.f, .int .i64 t.l]) := World.ownsRow.kept ho (grownBy_setCell' W' K v') (.inr (own_ge ho (by omega)).symm)
    unfold RowT
    rw [List.length_append, List.length_singleton, cellsT_append]
    exact h5
  · have h1 := h.sz; have h2 := hg.size; simp [World.setCell] at *; omega
/-- the state of the loop of a shift -/
theorem shf_take {S : Mn} {b : Int} {j : Nat} (h : j < S.ts.length) : (S.ts.take (j + 1)).map (shTn b) = (S.ts.take j).map (shTn b) ++ [shTn b S.ts[j]] := by
  rw [take_succ_get S.ts j h, List.map_append]; rfl
theorem shf_err {S : Mn} {b E : Int} (h : shfE S b = E) (hE : E ≠ 0) : shfX S b = ⟨[], []⟩ := by unfold shfX; rw [if_neg (by rw [h]; exact hE)]
theorem shf_chk {S : Mn} {b : Int} (h : chkE S ≠ 0) : shfE S b = chkE S := by unfold shfE; rw [if_pos h]
theorem shf_arg {S : Mn} {b : Int} (h : chkE S = 0) (h1 : 0 < S.ss.length ∨ inB b (-1048576) 1048576 = false) : shfE S b = 1 := by unfold shfE; rw [if_neg (by omega), if_pos h1]
theorem shf_ok {S : Mn} {b : Int} (h : chkE S = 0) (h1 : ¬ (0 < S.ss.length ∨ inB b (-1048576) 1048576 = false)) : shfE S b = 0 ∧ shfX S b = ⟨S.ts.map (shTn b), []⟩ := by
  have e : shfE S b = 0 := by unfold shfE; rw [if_neg (by omega), if_neg h1]
  exact ⟨e, by unfold shfX; rw [if_pos e]⟩

def shCs (v : Value) : Array Value := #[v, .slice none 0 0]
theorem shf_ret {w W : World} {tmps : Array Value} {va vb : Value} {X : Mn} {E : Int} (h4 : tmps.getD 4 undef = .pointer (some ⟨w.heap.size + 1, 0, none⟩)) (h5 : tmps.getD 5 undef = .int .i64 E) (hc : Cls (w.heap.size + 1) 25 #[va, vb] W) (hm : MinsAt W va vb X) (hx : Ext w W) :
    bodyPost Tryz.prog Tryz.f8 (SetPost w X E) Exit.ret { tmps := tmps, defers := [] } W := by
  have c0 : W.cell? ⟨w.heap.size + 1, 0, none⟩ = some va := hc.cell 0
  have c1 : W.cell? ⟨w.heap.size + 1, 1, none⟩ = some vb := hc.cell 1
  have h4' : tmps[4]?.getD undef = .pointer (some ⟨w.heap.size + 1, 0, none⟩) := by simpa using h4
  have h5' : tmps[5]?.getD undef = .int .i64 E := by simpa using h5
  exact bodyPost_ret (v := .tuple #[.agg #[va, vb], .int .i64 E]) (by simp [results, Tryz.f8, go_sem, h4', h5', c0, c1]) rfl ⟨va, vb, rfl, hm, hx⟩
set_option maxRecDepth 100000 in
set_option maxHeartbeats 4000000 in
theorem Shift_any (a b : Value) (S : Mn) (x : Int) (w : World) (hS : MinsAt w a b S) :
    Calls Tryz.prog 8 #[.agg #[a, b], .int .i64 x] w (SetPost w (shfX S x) (shfE S x)) := by
  obtain ⟨aa, ca, rfl⟩ := hS.t.len
  obtain ⟨ab, cb, rfl⟩ := hS.s.len
  by_cases hc : chkE S = 0
  · have hok := Ok.of hc
    have HC := Lib.hid hc
    have hlt24 := hok.lt
    by_cases ha : 0 < S.ss.length ∨ inB x (-1048576) 1048576 = false
    · have hE := shf_arg (b := x) hc ha
      have HE := Lib.hid hE
      have HX := Lib.hid (shf_err hE (by decide))
      clear hE hc
      go_enter Tryz.func8, Tryz.ntmps8
      go_wp2_with fail
      refine (Check_any _ _ S _ (hS.ext (by repeat (first | exact Ext.refl _ | assumption | refine Ext.alloc ?_ _ | refine Ext.drew ?_ | refine Ext.drewN _ ?_ | refine Ext.trans ?_ (by assumption))))).mono ?_
      rw [HC.out]
      rintro e w1 ⟨rfl, hx1⟩
      obtain ⟨q0, q1, hx, hzz⟩ := alloc2 hx1
      clear hx1
      have d1 : w1.cell? ⟨w.heap.size, 1, none⟩ = some (.slice ab S.ss.length cb) := q0.cell 1
      have d2 : w1.cell? ⟨w.heap.size + 1, 0, none⟩ = some (.slice none 0 0) := q1.cell 0
      have d3 : w1.cell? ⟨w.heap.size + 1, 1, none⟩ = some (.slice none 0 0) := q1.cell 1
      have f2 := q1.frozen 0
      have f3 := q1.frozen 1
      by_cases hs : 0 < S.ss.length
      · clear ha
        go_wp2_with fail
        rw [HX.out, HE.out]
        exact shf_ret rfl rfl ((q1.set 0 (.slice none 0 0)).set 1 (.slice none 0 0)) (mins_nil _) ((hx.setCell (by simp) _).setCell (by simp) _)
      · have hI : inB x (-1048576) 1048576 = false := by rcases ha with h | h; exact absurd h hs; exact h
        have HI := Lib.hid hI
        clear ha hI
        go_wp2_with fail
        refine (within_any _ _ _ _).mono ?_
        rw [HI.out]
        rintro e w2 ⟨rfl, rfl⟩
        go_wp2_with fail
        rw [HX.out, HE.out]
        exact shf_ret rfl rfl ((q1.set 0 (.slice none 0 0)).set 1 (.slice none 0 0)) (mins_nil _) ((hx.setCell (by simp) _).setCell (by simp) _)
    · obtain ⟨hE, hX⟩ := shf_ok (b := x) hc ha
      have HE := Lib.hid hE
      have HX := Lib.hid hX
      have hs : ¬ 0 < S.ss.length := fun h => ha (.inl h)
      have hI : inB x (-1048576) 1048576 = true := by cases h : inB x (-1048576) 1048576; exact absurd (.inr h) ha; rfl
      obtain ⟨x1, x2⟩ := inB_t hI
      have HI := Lib.hid hI
      obtain ⟨i0, hi0, hz0, hz1, hz2⟩ := info_parts infoTn
      clear hE hX hc ha hI
      go_enter Tryz.func8, Tryz.ntmps8
      go_wp2_with fail
      refine (Check_any _ _ S _ (hS.ext (by repeat (first | exact Ext.refl _ | assumption | refine Ext.alloc ?_ _ | refine Ext.drew ?_ | refine Ext.drewN _ ?_ | refine Ext.trans ?_ (by assumption))))).mono ?_
      rw [HC.out]
      rintro e w1 ⟨rfl, hx1⟩
      obtain ⟨q0, q1, hx, hzz⟩ := alloc2 hx1
      clear hx1
      have d0 : w1.cell? ⟨w.heap.size, 0, none⟩ = some (.slice aa S.ts.length ca) := q0.cell 0
      have d1 : w1.cell? ⟨w.heap.size, 1, none⟩ = some (.slice ab S.ss.length cb) := q0.cell 1
      go_wp2_with fail
      refine (within_any _ _ _ _).mono ?_
      rw [HI.out]
      rintro e w2 ⟨rfl, rfl⟩
      obtain ⟨K, hK⟩ : ∃ K, w1.heap.size = K := ⟨_, rfl⟩
      have d0' : (w1.alloc (.cells #[.slice none 0 0, .slice none 0 0] 25)).cell? ⟨w.heap.size, 0, none⟩ = some (.slice aa S.ts.length ca) := Ext.cell (by repeat (first | exact Ext.refl _ | assumption | refine Ext.alloc ?_ _ | refine Ext.drew ?_ | refine Ext.drewN _ ?_ | refine Ext.trans ?_ (by assumption))) d0
      have hSH : SH w (.slice aa S.ts.length ca) (.slice ab S.ss.length cb) 25 25 #[.slice none 0 0, .slice none 0 0] shCs K (.slice none 0 0) [] (w1.alloc (.cells #[.slice none 0 0, .slice none 0 0] 25)) :=
        ⟨q0.ext (by repeat (first | exact Ext.refl _ | assumption | refine Ext.alloc ?_ _ | refine Ext.drew ?_ | refine Ext.drewN _ ?_ | refine Ext.trans ?_ (by assumption))), q1.ext (by repeat (first | exact Ext.refl _ | assumption | refine Ext.alloc ?_ _ | refine Ext.drew ?_ | refine Ext.drewN _ ?_ | refine Ext.trans ?_ (by assumption))), Cls.newAt _ _ _ hK.symm, World.ownsRow_nil _ _ _ _, Ext.trans hx (by repeat (first | exact Ext.refl _ | assumption | refine Ext.alloc ?_ _ | refine Ext.drew ?_ | refine Ext.drewN _ ?_ | refine Ext.trans ?_ (by assumption))), by simp; omega, by omega⟩
      have HSH := Lib.hid hSH
      clear hSH q0 q1
      go_wp2_with fail
      clear d0' hK
      go_loopw [9, 29] (fun _ i wr => ∃ (j : Nat) (v : Value), j ≤ S.ts.length ∧ i = .int .i64 j ∧ Hid (SH w (.slice aa S.ts.length ca) (.slice ab S.ss.length cb) 25 25 #[.slice none 0 0, .slice none 0 0] shCs K v ((S.ts.take j).map (shTn x)) wr)) (fun _ i _ => S.ts.length - (intOf i).toNat)
      case atStart => exact ⟨0, _, Nat.zero_le _, rfl, HSH⟩
      case round =>
        obtain ⟨j, v, hj, rfl, HR⟩ := hrel
        obtain ⟨Ad, cp, hform⟩ := HR.out.rt.form
        have hlj : ((S.ts.take j).map (shTn x)).length = j := by rw [List.length_map, List.length_take]; omega
        rw [hlj] at hform
        subst hform
        by_cases hlt : j < S.ts.length
        · obtain ⟨bb, oo, rfl, c0, c1, c2⟩ := (hS.t.ext HR.out.ex).get j hlt
          obtain ⟨v1, v2, v3, v4, v5, v6⟩ := tnB_t (hok.t _ (List.getElem_mem hlt))
          have htk := shf_take (b := x) hlt
          obtain ⟨p, hp⟩ : ∃ p, S.ts[j].p = p := ⟨_, rfl⟩
          obtain ⟨f, hf⟩ : ∃ f, S.ts[j].f = f := ⟨_, rfl⟩
          obtain ⟨l, hl⟩ : ∃ l, S.ts[j].l = l := ⟨_, rfl⟩
          obtain ⟨r, hr⟩ : ∃ r, (f + x) % p = r := ⟨_, rfl⟩
          have hts : shTn x S.ts[j] = ⟨p, r, l⟩ := by unfold shTn; rw [hp, hf, hl, hr]
          rw [hp] at c0 v1 v2 v4 v6
          rw [hf] at c1 v3 v4
          rw [hl] at c2 v5 v6
          rw [hts] at htk
          have HTK := Lib.hid htk
          have HRR := Lib.hid hr
          have HLJ := Lib.hid hlj
          clear hp hf hl hts htk hr hlj
          go_wp2_with fail
          refine (mod_any _ _ _ (by omega) (by omega)).mono ?_
          rw [HRR.out]
          rintro e w3 ⟨rfl, rfl⟩
          go_upto_region 11 with fail
          obtain ⟨X, hXX⟩ : ∃ X, wr.alloc (.cells #[.int .i64 p, .int .i64 r, .int .i64 l] 42) = X := ⟨_, rfl⟩
          have hxX : Ext wr X := by rw [← hXX]; exact (by repeat (first | exact Ext.refl _ | assumption | refine Ext.alloc ?_ _ | refine Ext.drew ?_ | refine Ext.drewN _ ?_ | refine Ext.trans ?_ (by assumption)))
          have hq := HR.out.ext hxX
          have hB : Cls wr.heap.size 42 #[.int .i64 p, .int .i64 r, .int .i64 l] X := by rw [← hXX]; exact Cls.new wr _ _
          have k0 : X.cell? ⟨K, 0, none⟩ = some (.slice Ad j cp) := hq.mn.cell 0
          have y0 : X.cell? ⟨wr.heap.size, 0, none⟩ = some (.int .i64 p) := hB.cell 0
          have y1 : X.cell? ⟨wr.heap.size, 1, none⟩ = some (.int .i64 r) := hB.cell 1
          have y2 : X.cell? ⟨wr.heap.size, 2, none⟩ = some (.int .i64 l) := hB.cell 2
          have hsz := hq.sz
          have hrow : X.ownsRow (K + 1) 42 3 (.slice Ad j cp) j (cellsT ((S.ts.take j).map (shTn x))) := by have := hq.rt; unfold RowT at this; rw [HLJ.out] at this; exact this
          rw [hXX]
          clear hXX
          go_wp2_with ((at_builtin; refine wpList_append_own _ rfl _ _ 22 rfl (K + 1) 42 i0 (.agg #[.int .i64 0, .int .i64 0, .int .i64 0]) 3 24 undTn hi0 hz0 hz1 hz2 rfl (by decide) _ _ _ rfl (World.ownsRow.alloc hrow _) ⟨X.heap.size, 0, none⟩ 1 1 [.int .i64 p, .int .i64 r, .int .i64 l] rfl rfl (cell_three_new _ _ _ _ _) (by simp [Value.oneCell']) (by unfold maxLen; omega) (by omega) (by simp; omega) ?_; intro v' w9 hown hgrow _; obtain ⟨g', cap', rfl⟩ := ownsRow_succ hown; obtain ⟨hm9, hq9⟩ := SH.add (t := ⟨p, r, l⟩) (fun _ _ => rfl) hq hgrow (by rw [HLJ.out]; exact hown); have hm9a := hm9.cell 0; have hm9f := hm9.frozen 0; simp only [shCs, List.getElem?_toArray, List.getElem?_cons_zero] at hm9a))
          go_roundw
          case rel => exact ⟨j + 1, _, by omega, by go_num, Lib.hid (by rw [HTK.out]; exact hq9)⟩
          case measure => simp [intOf]; omega
        · obtain rfl : j = S.ts.length := by omega
          have hmn := HR.out.mn
          have e0 : wr.cell? ⟨K, 0, none⟩ = some (.slice Ad S.ts.length cp) := hmn.cell 0
          have e1 : wr.cell? ⟨K, 1, none⟩ = some (.slice none 0 0) := hmn.cell 1
          have hqr := HR.out.qr
          have g0 : wr.cell? ⟨w.heap.size + 1, 0, none⟩ = some (.slice none 0 0) := hqr.cell 0
          have g1 : wr.cell? ⟨w.heap.size + 1, 1, none⟩ = some (.slice none 0 0) := hqr.cell 1
          have f0 := hqr.frozen 0
          have f1 := hqr.frozen 1
          have hk := HR.out.hk
          go_wp2_with fail
          rw [HX.out, HE.out]
          have hgg : wr.grownBy ((wr.setCell ⟨w.heap.size + 1, 0, none⟩ (.slice Ad S.ts.length cp)).setCell ⟨w.heap.size + 1, 1, none⟩ (.slice none 0 0)) (some (w.heap.size + 1)) := grown_set (grown_set (World.grownBy.refl _ _) 0 _) 1 _
          refine shf_ret rfl rfl ((hqr.set 0 (.slice Ad S.ts.length cp)).set 1 (.slice none 0 0)) ⟨?_, spansAt_nil _⟩ ((HR.out.ex.setCell (by simp) _).setCell (by simp) _)
          have hrt := HR.out.rt
          have h8 : RowT (K + 1) (.slice Ad S.ts.length cp) ((S.ts.take S.ts.length).map (shTn x)) _ := World.ownsRow.kept hrt hgg (.inr (own_ge hrt (by omega)).symm)
          rw [List.take_length] at h8
          exact h8.at_
  · have hE := shf_chk (b := x) hc
    have HE := Lib.hid hE
    have HX := Lib.hid (shf_err hE hc)
    have hb : (chkE S != 0) = true := by simpa using hc
    clear hE hc
    go_enter Tryz.func8, Tryz.ntmps8
    go_wp2_with fail
    refine (Check_any _ _ S _ (hS.ext (by repeat (first | exact Ext.refl _ | assumption | refine Ext.alloc ?_ _ | refine Ext.drew ?_ | refine Ext.drewN _ ?_ | refine Ext.trans ?_ (by assumption))))).mono ?_
    rintro e w1 ⟨rfl, hx1⟩
    obtain ⟨q0, q1, hx, hzz⟩ := alloc2 hx1
    clear hx1 q0
    have d2 : w1.cell? ⟨w.heap.size + 1, 0, none⟩ = some (.slice none 0 0) := q1.cell 0
    have d3 : w1.cell? ⟨w.heap.size + 1, 1, none⟩ = some (.slice none 0 0) := q1.cell 1
    have f2 := q1.frozen 0
    have f3 := q1.frozen 1
    go_wp2_with fail
    rw [HX.out, HE.out]
    exact shf_ret rfl rfl ((q1.set 0 (.slice none 0 0)).set 1 (.slice none 0 0)) (mins_nil _) ((hx.setCell (by simp) _).setCell (by simp) _)

def rshCs (v : Value) : Array Value := #[v, .slice none 0 0, .int .i64 0]
theorem rshf_ret {w W : World} {tmps : Array Value} {va vb : Value} {X : Mn} {E : Int} (h4 : tmps.getD 4 undef = .pointer (some ⟨w.heap.size + 1, 0, none⟩)) (hc : Cls (w.heap.size + 1) 31 #[va, vb, .int .i64 E] W) (hm : MinsAt W va vb X) (hx : Ext w W) :
    bodyPost Tryz.prog Tryz.f9 (RSetPost w X E) Exit.ret { tmps := tmps, defers := [] } W := by
  have c0 : W.cell? ⟨w.heap.size + 1, 0, none⟩ = some va := hc.cell 0
  have c1 : W.cell? ⟨w.heap.size + 1, 1, none⟩ = some vb := hc.cell 1
  have c2 : W.cell? ⟨w.heap.size + 1, 2, none⟩ = some (.int .i64 E) := hc.cell 2
  have h4' : tmps[4]?.getD undef = .pointer (some ⟨w.heap.size + 1, 0, none⟩) := by simpa using h4
  exact bodyPost_ret (v := .agg #[va, vb, .int .i64 E]) (by simp [results, Tryz.f9, go_sem, h4', c0, c1, c2]) rfl ⟨va, vb, rfl, hm, hx⟩
set_option maxRecDepth 100000 in
set_option maxHeartbeats 4000000 in
theorem RefShift_any (a b : Value) (S : Mn) (x : Int) (w : World) (hS : MinsAt w a b S) :
    Calls Tryz.prog 9 #[.agg #[a, b], .int .i64 x] w (RSetPost w (shfX S x) (shfE S x)) := by
  obtain ⟨aa, ca, rfl⟩ := hS.t.len
  obtain ⟨ab, cb, rfl⟩ := hS.s.len
  by_cases hc : chkE S = 0
  · have hok := Ok.of hc
    have HC := Lib.hid hc
    have hlt24 := hok.lt
    by_cases ha : 0 < S.ss.length ∨ inB x (-1048576) 1048576 = false
    · have hE := shf_arg (b := x) hc ha
      have HE := Lib.hid hE
      have HX := Lib.hid (shf_err hE (by decide))
      clear hE hc
      go_enter Tryz.func9, Tryz.ntmps9
      go_wp2_with fail
      refine (RefCheck_any _ _ S _ (hS.ext (by repeat (first | exact Ext.refl _ | assumption | refine Ext.alloc ?_ _ | refine Ext.drew ?_ | refine Ext.drewN _ ?_ | refine Ext.trans ?_ (by assumption))))).mono ?_
      rw [HC.out]
      rintro e w1 ⟨rfl, hx1⟩
      obtain ⟨q0, q1, hx, hzz⟩ := alloc2 hx1
      clear hx1
      have d1 : w1.cell? ⟨w.heap.size, 1, none⟩ = some (.slice ab S.ss.length cb) := q0.cell 1
      have d2 : w1.cell? ⟨w.heap.size + 1, 0, none⟩ = some (.slice none 0 0) := q1.cell 0
      have d3 : w1.cell? ⟨w.heap.size + 1, 1, none⟩ = some (.slice none 0 0) := q1.cell 1
      have d4 : w1.cell? ⟨w.heap.size + 1, 2, none⟩ = some (.int .i64 0) := q1.cell 2
      have f2 := q1.frozen 0
      have f3 := q1.frozen 1
      have f4 := q1.frozen 2
      by_cases hs : 0 < S.ss.length
      · clear ha
        go_wp2_with fail
        rw [HX.out, HE.out]
        exact rshf_ret rfl (((q1.set 0 (.slice none 0 0)).set 1 (.slice none 0 0)).set 2 (.int .i64 1)) (mins_nil _) (((hx.setCell (by simp) _).setCell (by simp) _).setCell (by simp) _)
      · have hI : inB x (-1048576) 1048576 = false := by rcases ha with h | h; exact absurd h hs; exact h
        have HI := Lib.hid hI
        clear ha hI
        go_wp2_with fail
        refine (in_any _ _ _ _).mono ?_
        rw [HI.out]
        rintro e w2 ⟨rfl, rfl⟩
        go_wp2_with fail
        rw [HX.out, HE.out]
        exact rshf_ret rfl (((q1.set 0 (.slice none 0 0)).set 1 (.slice none 0 0)).set 2 (.int .i64 1)) (mins_nil _) (((hx.setCell (by simp) _).setCell (by simp) _).setCell (by simp) _)
    · obtain ⟨hE, hX⟩ := shf_ok (b := x) hc ha
      have HE := Lib.hid hE
      have HX := Lib.hid hX
      have hs : ¬ 0 < S.ss.length := fun h => ha (.inl h)
      have hI : inB x (-1048576) 1048576 = true := by cases h : inB x (-1048576) 1048576; exact absurd (.inr h) ha; rfl
      obtain ⟨x1, x2⟩ := inB_t hI
      have HI := Lib.hid hI
      obtain ⟨i0, hi0, hz0, hz1, hz2⟩ := info_parts infoTn
      clear hE hX hc ha hI
      go_enter Tryz.func9, Tryz.ntmps9
      go_wp2_with fail
      refine (RefCheck_any _ _ S _ (hS.ext (by repeat (first | exact Ext.refl _ | assumption | refine Ext.alloc ?_ _ | refine Ext.drew ?_ | refine Ext.drewN _ ?_ | refine Ext.trans ?_ (by assumption))))).mono ?_
      rw [HC.out]
      rintro e w1 ⟨rfl, hx1⟩
      obtain ⟨q0, q1, hx, hzz⟩ := alloc2 hx1
      clear hx1
      have d0 : w1.cell? ⟨w.heap.size, 0, none⟩ = some (.slice aa S.ts.length ca) := q0.cell 0
      have d1 : w1.cell? ⟨w.heap.size, 1, none⟩ = some (.slice ab S.ss.length cb) := q0.cell 1
      go_wp2_with fail
      refine (in_any _ _ _ _).mono ?_
      rw [HI.out]
      rintro e w2 ⟨rfl, rfl⟩
      obtain ⟨K, hK⟩ : ∃ K, w1.heap.size = K := ⟨_, rfl⟩
      have d0' : (w1.alloc (.cells #[.slice none 0 0, .slice none 0 0, .int .i64 0] 31)).cell? ⟨w.heap.size, 0, none⟩ = some (.slice aa S.ts.length ca) := Ext.cell (by repeat (first | exact Ext.refl _ | assumption | refine Ext.alloc ?_ _ | refine Ext.drew ?_ | refine Ext.drewN _ ?_ | refine Ext.trans ?_ (by assumption))) d0
      have hSH : SH w (.slice aa S.ts.length ca) (.slice ab S.ss.length cb) 31 31 #[.slice none 0 0, .slice none 0 0, .int .i64 0] rshCs K (.slice none 0 0) [] (w1.alloc (.cells #[.slice none 0 0, .slice none 0 0, .int .i64 0] 31)) :=
        ⟨q0.ext (by repeat (first | exact Ext.refl _ | assumption | refine Ext.alloc ?_ _ | refine Ext.drew ?_ | refine Ext.drewN _ ?_ | refine Ext.trans ?_ (by assumption))), q1.ext (by repeat (first | exact Ext.refl _ | assumption | refine Ext.alloc ?_ _ | refine Ext.drew ?_ | refine Ext.drewN _ ?_ | refine Ext.trans ?_ (by assumption))), Cls.newAt _ _ _ hK.symm, World.ownsRow_nil _ _ _ _, Ext.trans hx (by repeat (first | exact Ext.refl _ | assumption | refine Ext.alloc ?_ _ | refine Ext.drew ?_ | refine Ext.drewN _ ?_ | refine Ext.trans ?_ (by assumption))), by simp; omega, by omega⟩
      have HSH := Lib.hid hSH
      clear hSH q0 q1
      go_wp2_with fail
      clear d0' hK
      go_loopw [7, 8] (fun i _ wr => ∃ (j : Nat) (v : Value), j ≤ S.ts.length ∧ i = .int .i64 j ∧ Hid (SH w (.slice aa S.ts.length ca) (.slice ab S.ss.length cb) 31 31 #[.slice none 0 0, .slice none 0 0, .int .i64 0] rshCs K v ((S.ts.take j).map (shTn x)) wr)) (fun i _ _ => S.ts.length - (intOf i).toNat)
      case atStart => exact ⟨0, _, Nat.zero_le _, rfl, HSH⟩
      case round =>
        obtain ⟨j, v, hj, rfl, HR⟩ := hrel
        obtain ⟨Ad, cp, hform⟩ := HR.out.rt.form
        have hlj : ((S.ts.take j).map (shTn x)).length = j := by rw [List.length_map, List.length_take]; omega
        rw [hlj] at hform
        subst hform
        have b0 : wr.cell? ⟨w.heap.size, 0, none⟩ = some (.slice aa S.ts.length ca) := HR.out.q0.cell 0
        by_cases hlt : j < S.ts.length
        · obtain ⟨bb, oo, rfl, c0, c1, c2⟩ := (hS.t.ext HR.out.ex).get j hlt
          obtain ⟨v1, v2, v3, v4, v5, v6⟩ := tnB_t (hok.t _ (List.getElem_mem hlt))
          have htk := shf_take (b := x) hlt
          obtain ⟨p, hp⟩ : ∃ p, S.ts[j].p = p := ⟨_, rfl⟩
          obtain ⟨f, hf⟩ : ∃ f, S.ts[j].f = f := ⟨_, rfl⟩
          obtain ⟨l, hl⟩ : ∃ l, S.ts[j].l = l := ⟨_, rfl⟩
          obtain ⟨r, hr⟩ : ∃ r, (f + x) % p = r := ⟨_, rfl⟩
          have hts : shTn x S.ts[j] = ⟨p, r, l⟩ := by unfold shTn; rw [hp, hf, hl, hr]
          rw [hp] at c0 v1 v2 v4 v6
          rw [hf] at c1 v3 v4
          rw [hl] at c2 v5 v6
          rw [hts] at htk
          have HTK := Lib.hid htk
          have HRR := Lib.hid hr
          have HLJ := Lib.hid hlj
          clear hp hf hl hts htk hr hlj
          go_wp2_with fail
          refine (refmod_any _ _ _ (by omega) (by omega)).mono ?_
          rw [HRR.out]
          rintro e w3 ⟨rfl, rfl⟩
          go_upto_region 12 with fail
          obtain ⟨X, hXX⟩ : ∃ X, wr.alloc (.cells #[.int .i64 p, .int .i64 r, .int .i64 l] 42) = X := ⟨_, rfl⟩
          have hxX : Ext wr X := by rw [← hXX]; exact (by repeat (first | exact Ext.refl _ | assumption | refine Ext.alloc ?_ _ | refine Ext.drew ?_ | refine Ext.drewN _ ?_ | refine Ext.trans ?_ (by assumption)))
          have hq := HR.out.ext hxX
          have hB : Cls wr.heap.size 42 #[.int .i64 p, .int .i64 r, .int .i64 l] X := by rw [← hXX]; exact Cls.new wr _ _
          have k0 : X.cell? ⟨K, 0, none⟩ = some (.slice Ad j cp) := hq.mn.cell 0
          have y0 : X.cell? ⟨wr.heap.size, 0, none⟩ = some (.int .i64 p) := hB.cell 0
          have y1 : X.cell? ⟨wr.heap.size, 1, none⟩ = some (.int .i64 r) := hB.cell 1
          have y2 : X.cell? ⟨wr.heap.size, 2, none⟩ = some (.int .i64 l) := hB.cell 2
          have hsz := hq.sz
          have hrow : X.ownsRow (K + 1) 42 3 (.slice Ad j cp) j (cellsT ((S.ts.take j).map (shTn x))) := by have := hq.rt; unfold RowT at this; rw [HLJ.out] at this; exact this
          rw [hXX]
          clear hXX
          go_wp2_with ((at_builtin; refine wpList_append_own _ rfl _ _ 22 rfl (K + 1) 42 i0 (.agg #[.int .i64 0, .int .i64 0, .int .i64 0]) 3 24 undTn hi0 hz0 hz1 hz2 rfl (by decide) _ _ _ rfl (World.ownsRow.alloc hrow _) ⟨X.heap.size, 0, none⟩ 1 1 [.int .i64 p, .int .i64 r, .int .i64 l] rfl rfl (cell_three_new _ _ _ _ _) (by simp [Value.oneCell']) (by unfold maxLen; omega) (by omega) (by simp; omega) ?_; intro v' w9 hown hgrow _; obtain ⟨g', cap', rfl⟩ := ownsRow_succ hown; obtain ⟨hm9, hq9⟩ := SH.add (t := ⟨p, r, l⟩) (fun _ _ => rfl) hq hgrow (by rw [HLJ.out]; exact hown); have hm9a := hm9.cell 0; have hm9f := hm9.frozen 0; simp only [rshCs, List.getElem?_toArray, List.getElem?_cons_zero] at hm9a))
          go_roundw
          case rel => exact ⟨j + 1, _, by omega, by go_num, Lib.hid (by rw [HTK.out]; exact hq9)⟩
          case measure => simp [intOf]; omega
        · obtain rfl : j = S.ts.length := by omega
          have hmn := HR.out.mn
          have e0 : wr.cell? ⟨K, 0, none⟩ = some (.slice Ad S.ts.length cp) := hmn.cell 0
          have e1 : wr.cell? ⟨K, 1, none⟩ = some (.slice none 0 0) := hmn.cell 1
          have hqr := HR.out.qr
          have g0 : wr.cell? ⟨w.heap.size + 1, 0, none⟩ = some (.slice none 0 0) := hqr.cell 0
          have g1 : wr.cell? ⟨w.heap.size + 1, 1, none⟩ = some (.slice none 0 0) := hqr.cell 1
          have g2 : wr.cell? ⟨w.heap.size + 1, 2, none⟩ = some (.int .i64 0) := hqr.cell 2
          have e2 : wr.cell? ⟨K, 2, none⟩ = some (.int .i64 0) := hmn.cell 2
          have f0 := hqr.frozen 0
          have f1 := hqr.frozen 1
          have f2 := hqr.frozen 2
          have hk := HR.out.hk
          go_wp2_with fail
          rw [HX.out, HE.out]
          have hgg : wr.grownBy (((wr.setCell ⟨w.heap.size + 1, 0, none⟩ (.slice Ad S.ts.length cp)).setCell ⟨w.heap.size + 1, 1, none⟩ (.slice none 0 0)).setCell ⟨w.heap.size + 1, 2, none⟩ (.int .i64 0)) (some (w.heap.size + 1)) := grown_set (grown_set (grown_set (World.grownBy.refl _ _) 0 _) 1 _) 2 _
          refine rshf_ret rfl (((hqr.set 0 (.slice Ad S.ts.length cp)).set 1 (.slice none 0 0)).set 2 (.int .i64 0)) ⟨?_, spansAt_nil _⟩ (((HR.out.ex.setCell (by simp) _).setCell (by simp) _).setCell (by simp) _)
          have hrt := HR.out.rt
          have h8 : RowT (K + 1) (.slice Ad S.ts.length cp) ((S.ts.take S.ts.length).map (shTn x)) _ := World.ownsRow.kept hrt hgg (.inr (own_ge hrt (by omega)).symm)
          rw [List.take_length] at h8
          exact h8.at_
  · have hE := shf_chk (b := x) hc
    have HE := Lib.hid hE
    have HX := Lib.hid (shf_err hE hc)
    have hb : (chkE S != 0) = true := by simpa using hc
    clear hE hc
    go_enter Tryz.func9, Tryz.ntmps9
    go_wp2_with fail
    refine (RefCheck_any _ _ S _ (hS.ext (by repeat (first | exact Ext.refl _ | assumption | refine Ext.alloc ?_ _ | refine Ext.drew ?_ | refine Ext.drewN _ ?_ | refine Ext.trans ?_ (by assumption))))).mono ?_
    rintro e w1 ⟨rfl, hx1⟩
    obtain ⟨q0, q1, hx, hzz⟩ := alloc2 hx1
    clear hx1 q0
    have d2 : w1.cell? ⟨w.heap.size + 1, 0, none⟩ = some (.slice none 0 0) := q1.cell 0
    have d3 : w1.cell? ⟨w.heap.size + 1, 1, none⟩ = some (.slice none 0 0) := q1.cell 1
    have d4 : w1.cell? ⟨w.heap.size + 1, 2, none⟩ = some (.int .i64 0) := q1.cell 2
    have f2 := q1.frozen 0
    have f3 := q1.frozen 1
    have f4 := q1.frozen 2
    go_wp2_with fail
    rw [HX.out, HE.out]
    exact rshf_ret rfl (((q1.set 0 (.slice none 0 0)).set 1 (.slice none 0 0)).set 2 (.int .i64 (chkE S))) (mins_nil _) (((hx.setCell (by simp) _).setCell (by simp) _).setCell (by simp) _)
end Go.Proofs.YtejcmdoalhnpeaaGreatDoor
namespace Go.Proofs.YtejcmdoalhnpeaaGreatDoor
open Go.RowKit Go.Shelf

theorem hasT_take {l : List Tn} {k : Nat} {t : Tn} (h : k < l.length) (h0 : hasT (l.take k) t = false) (h1 : (l[k].p == t.p && l[k].f == t.f && l[k].l == t.l) = false) : hasT (l.take (k + 1)) t = false := by
  rw [take_succ_get l k h]
  unfold hasT at *
  rw [List.any_append, h0, List.any_cons, h1]; rfl
theorem hasT_at {l : List Tn} {k : Nat} {t : Tn} (h : k < l.length) (h1 : (l[k].p == t.p && l[k].f == t.f && l[k].l == t.l) = true) : hasT l t = true := by
  unfold hasT
  rw [List.any_eq_true]
  exact ⟨l[k], List.getElem_mem h, h1⟩

set_option maxHeartbeats 2000000 in
theorem hasTurn_any (v : Value) (l : List Tn) (p f m : Int) (w : World) (hl : TurnsAt w v l) (hn : l.length ≤ 2000) :
    Calls Tryz.prog 32 #[v, .agg #[.int .i64 p, .int .i64 f, .int .i64 m]] w fun e w' => e = .returned (.bool (hasT l ⟨p, f, m⟩)) ∧ Ext w w' := by
  obtain ⟨A, c, rfl⟩ := hl.len
  go_enter Tryz.func32, Tryz.ntmps32
  go_wp2_with fail
  obtain ⟨W1, hW1⟩ : ∃ W1, w.alloc (.cells #[.int .i64 p, .int .i64 f, .int .i64 m] 42) = W1 := ⟨_, rfl⟩
  have hx : Ext w W1 := by rw [← hW1]; exact (by repeat (first | exact Ext.refl _ | assumption | refine Ext.alloc ?_ _ | refine Ext.drew ?_ | refine Ext.drewN _ ?_ | refine Ext.trans ?_ (by assumption)))
  have d0 : W1.cell? ⟨w.heap.size, 0, none⟩ = some (.int .i64 p) := by rw [← hW1]; exact cell_at_new _ _ _ _ _ _ rfl rfl
  have d1 : W1.cell? ⟨w.heap.size, 1, none⟩ = some (.int .i64 f) := by rw [← hW1]; exact cell_at_new _ _ _ _ _ _ rfl rfl
  have d2 : W1.cell? ⟨w.heap.size, 2, none⟩ = some (.int .i64 m) := by rw [← hW1]; exact cell_at_new _ _ _ _ _ _ rfl rfl
  have hl1 := hl.ext hx
  rw [hW1]
  clear hW1
  go_loopw [5] (fun i wr => ∃ k : Nat, k ≤ l.length ∧ Hid (hasT (l.take k) ⟨p, f, m⟩ = false) ∧ i = .int .i64 k ∧ Ext W1 wr) (fun i _ => l.length - (intOf i).toNat)
  case atStart => exact ⟨0, Nat.zero_le _, Lib.hid rfl, rfl, Ext.refl _⟩
  case round =>
    obtain ⟨k, hk, HA, rfl, hy⟩ := hrel
    have e0 := hy.cell d0
    have e1 := hy.cell d1
    have e2 := hy.cell d2
    by_cases hlt : k < l.length
    · obtain ⟨b1, o1, rfl, c0, c1, c2⟩ := (hl1.ext hy).get k hlt
      have hin := @hasT_at l k ⟨p, f, m⟩ hlt
      have hout := hasT_take (t := ⟨p, f, m⟩) hlt HA.out
      obtain ⟨x, hxx⟩ : ∃ x, l[k].p = x := ⟨_, rfl⟩
      obtain ⟨y, hyy⟩ : ∃ y, l[k].f = y := ⟨_, rfl⟩
      obtain ⟨z, hzz⟩ : ∃ z, l[k].l = z := ⟨_, rfl⟩
      rw [hxx, hyy, hzz] at hin hout
      rw [hxx] at c0
      rw [hyy] at c1
      rw [hzz] at c2
      simp only at hin hout
      have hne := eqlTn x y z p f m
      have HIN := Lib.hid hin
      have HOUT := Lib.hid hout
      clear hxx hyy hzz hin hout
      cases hq : (x == p && y == f && z == m)
      · simp only [hq] at hne
        have HR := Lib.hid (HOUT.out hq)
        go_wp2_with fail
        go_quiet (fail)
        go_wp2
        go_roundw
        case rel => exact ⟨k + 1, by omega, HR, by go_num, (by repeat (first | exact Ext.refl _ | assumption | refine Ext.alloc ?_ _ | refine Ext.drew ?_ | refine Ext.drewN _ ?_ | refine Ext.trans ?_ (by assumption)))⟩
        case measure => simp [intOf]; omega
      · simp only [hq] at hne
        have HR := Lib.hid (HIN.out hq)
        go_wp2_with fail
        go_quiet (fail)
        go_wp2
        go_ret
        exact ⟨ret_bool HR.out.symm, Ext.trans hx (by repeat (first | exact Ext.refl _ | assumption | refine Ext.alloc ?_ _ | refine Ext.drew ?_ | refine Ext.drewN _ ?_ | refine Ext.trans ?_ (by assumption)))⟩
    · obtain rfl : k = l.length := by omega
      have hr := HA.out
      rw [List.take_length] at hr
      have HR := Lib.hid hr
      clear hr
      go_wp2_with fail
      go_ret
      exact ⟨ret_bool HR.out.symm, hx.trans hy⟩

theorem nx_take {l : List Sp} {k : Nat} {fr : Int} (h : k < l.length) : nxU (l.take (k + 1)) fr = nxS fr (nxU (l.take k) fr) l[k] := by rw [take_succ_get l k h, nxU_snoc]
theorem pa_take {l : List Sp} {k : Nat} {h0 : Int} (h : k < l.length) : pa (l.take (k + 1)) h0 = paS (pa (l.take k) h0) l[k] := by rw [take_succ_get l k h, pa_snoc]
/-- what joined leaves: a row of the call's own -/
def JnPost (w : World) (l : List Sp) (e : Ending) (w' : World) : Prop := ∃ v, e = .returned v ∧ RowS w.heap.size v l w' ∧ Ext w w'
set_option maxRecDepth 100000 in
set_option maxHeartbeats 8000000 in
theorem refJoined_any (v : Value) (l : List Sp) (w : World) (hl : SpansAt w v l) (hn : l.length ≤ 200) (hv : SpsV l) :
    Calls Tryz.prog 33 #[v] w (JnPost w (unS l)) := by
  obtain ⟨i0, hi0, hz0, hz1, hz2⟩ := info_parts infoSp
  obtain ⟨A, c, rfl⟩ := hl.len
  have HV := Lib.hid hv
  clear hv
  go_enter Tryz.func33, Tryz.ntmps33
  go_wp2_with fail
  go_loopw [3, 4, 5, 6, 7, 8, 9] (fun u fr _ _ _ _ _ wr => ∃ k : Nat, fr = .int .i64 k ∧ k ≤ 1048577 ∧ Hid (JnI l k) ∧ Hid (RowS w.heap.size u (lst (anyIn l) 0 k) wr) ∧ Ext w wr) (fun _ fr _ _ _ _ _ _ => 1048578 - (intOf fr).toNat)
  case atStart => exact ⟨0, rfl, by omega, Lib.hid ⟨by omega, .inl rfl⟩, Lib.hid (rowS_nil _ _), Ext.refl _⟩
  case round =>
    obtain ⟨k, rfl, hk, HI, HR, hy⟩ := hrel
    obtain ⟨Ad, cp, hform⟩ := HR.out.form
    subst hform
    have hlen := lst_len_le (anyIn l) 0 k
    obtain ⟨wo, rfl⟩ : ∃ wo : World, wo = wr := ⟨_, rfl⟩
    go_wp2_with fail
    go_loopw [5, 6] (fun o i wr => ∃ j : Nat, j ≤ l.length ∧ i = .int .i64 j ∧ o = .int .i64 (nxU (l.take j) k) ∧ Hid (wo = wr)) (fun _ i _ => l.length - (intOf i).toNat)
    case atStart => exact ⟨0, Nat.zero_le _, rfl, rfl, Lib.hid (by first | trivial | rfl)⟩
    case round =>
      obtain ⟨j, hj, rfl, rfl, HW⟩ := hrel
      have hw := HW.out
      subst hw
      clear HW
      by_cases hlt : j < l.length
      · obtain ⟨b1, o1, rfl, c0, c1⟩ := (hl.ext hy).get j hlt
        have hnx := nx_take (fr := (k : Int)) hlt
        obtain ⟨s1, s2, s3⟩ := HV.out l[j] (List.getElem_mem hlt)
        obtain ⟨x, hxx⟩ : ∃ x, l[j].lo = x := ⟨_, rfl⟩
        obtain ⟨y, hyy⟩ : ∃ y, l[j].hi = y := ⟨_, rfl⟩
        obtain ⟨o, hoo⟩ : ∃ o, nxU (l.take j) k = o := ⟨_, rfl⟩
        unfold nxS at hnx
        rw [hxx, hyy, hoo] at hnx
        rw [hxx] at c0 s1 s2
        rw [hyy] at c1 s2 s3
        rw [hoo]
        have HNX := Lib.hid hnx
        clear hnx hxx hyy hoo
        by_cases hc : (k : Int) ≤ y
        · have hr := HNX.out
          rw [if_pos hc] at hr
          have HR2 := Lib.hid hr
          clear hr
          go_wp2_with fail
          go_roundw
          case rel => exact ⟨j + 1, by omega, by go_num, by rw [HR2.out], Lib.hid (by first | trivial | rfl)⟩
          case measure => simp [intOf]; omega
        · have hr := HNX.out
          rw [if_neg hc] at hr
          have HR2 := Lib.hid hr
          clear hr
          go_wp2_with fail
          go_roundw
          case rel => exact ⟨j + 1, by omega, by go_num, by rw [HR2.out], Lib.hid (by first | trivial | rfl)⟩
          case measure => simp [intOf]; omega
      · obtain rfl : j = l.length := by omega
        rw [List.take_length]
        obtain ⟨n1, n2, _, _⟩ := nxU_spec l HV.out k (by omega) (by omega)
        have hdone := fun h => jnI_done HV.out HI.out h
        have hnext := fun h => jnI_next HV.out HI.out h
        obtain ⟨m, hm⟩ : ∃ m, nxU l k = m := ⟨_, rfl⟩
        rw [hm] at n1 n2 hdone hnext ⊢
        have HD := Lib.hid hdone
        have HNX := Lib.hid hnext
        clear hdone hnext hm
        by_cases hbig : 1048576 < m
        · have hr := HR.out
          have hu := HD.out hbig
          rw [hu] at hr hlen ⊢
          clear hu
          go_wp2_with fail
          go_ret
          exact ⟨_, rfl, hr, hy⟩
        · obtain ⟨p1, p2, p3, k', p4, p5, p6⟩ := HNX.out (by omega)
          have P4 := Lib.hid p4
          have P6 := Lib.hid p6
          have HPL := Lib.hid (fun n => paN_le l HV.out m (by omega) n)
          have HPG := Lib.hid (fun n => paN_ge l m n)
          clear p4 p6 HD HNX
          go_wp2_with fail
          go_loopw [7, 8, 9] (fun h i _ wr => ∃ j : Nat, j ≤ l.length ∧ i = .int .i64 j ∧ h = .int .i64 (paN l j m) ∧ Hid (wo = wr)) (fun _ i _ _ => l.length - (intOf i).toNat)
          case atStart => exact ⟨0, Nat.zero_le _, rfl, rfl, Lib.hid (by first | trivial | rfl)⟩
          case round =>
            obtain ⟨j, hj, rfl, rfl, HW⟩ := hrel
            have hw := HW.out
            subst hw
            clear HW
            by_cases hlt : j < l.length
            · have hg1 := HPG.out j
              have hg2 := HPL.out j
              have hsu : paN l (j + 1) m = pa l (paN l j m) := rfl
              obtain ⟨h0, hh0⟩ : ∃ h0, paN l j m = h0 := ⟨_, rfl⟩
              rw [hh0] at hg1 hg2 hsu ⊢
              have HSU := Lib.hid hsu
              clear hsu hh0
              go_wp2_with fail
              go_loopw [7, 9] (fun h i wr => ∃ q : Nat, q ≤ l.length ∧ i = .int .i64 q ∧ h = .int .i64 (pa (l.take q) h0) ∧ Hid (wo = wr)) (fun _ i _ => l.length - (intOf i).toNat)
              case atStart => exact ⟨0, Nat.zero_le _, rfl, rfl, Lib.hid (by first | trivial | rfl)⟩
              case round =>
                obtain ⟨q, hq, rfl, rfl, HW⟩ := hrel
                have hw := HW.out
                subst hw
                clear HW
                by_cases hlq : q < l.length
                · obtain ⟨b1, o1, rfl, c0, c1⟩ := (hl.ext hy).get q hlq
                  have hnx := pa_take (h0 := h0) hlq
                  have hge := pa_ge (l.take q) h0
                  have hle := pa_le (l.take q) (fun s hs => HV.out s (List.mem_of_mem_take hs)) h0 hg2
                  obtain ⟨s1, s2, s3⟩ := HV.out l[q] (List.getElem_mem hlq)
                  obtain ⟨x, hxx⟩ : ∃ x, l[q].lo = x := ⟨_, rfl⟩
                  obtain ⟨y, hyy⟩ : ∃ y, l[q].hi = y := ⟨_, rfl⟩
                  obtain ⟨o, hoo⟩ : ∃ o, pa (l.take q) h0 = o := ⟨_, rfl⟩
                  unfold paS at hnx
                  rw [hxx, hyy, hoo] at hnx
                  rw [hxx] at c0 s1 s2
                  rw [hyy] at c1 s2 s3
                  rw [hoo] at hge hle ⊢
                  have HNX := Lib.hid hnx
                  clear hnx hxx hyy hoo
                  by_cases hc : x ≤ o + 1
                  · have hr := HNX.out
                    rw [if_pos hc] at hr
                    have HR2 := Lib.hid hr
                    clear hr
                    go_wp2_with fail
                    go_roundw
                    case rel => exact ⟨q + 1, by omega, by go_num, by rw [HR2.out], Lib.hid (by first | trivial | rfl)⟩
                    case measure => simp [intOf]; omega
                  · have hr := HNX.out
                    rw [if_neg hc] at hr
                    have HR2 := Lib.hid hr
                    clear hr
                    go_wp2_with fail
                    go_roundw
                    case rel => exact ⟨q + 1, by omega, by go_num, by rw [HR2.out], Lib.hid (by first | trivial | rfl)⟩
                    case measure => simp [intOf]; omega
                · obtain rfl : q = l.length := by omega
                  rw [List.take_length, ← HSU.out]
                  go_wp2_with fail
                  go_roundw
                  case rel => exact ⟨j + 1, by omega, by go_num, rfl, Lib.hid (by first | trivial | rfl)⟩
                  case measure => simp [intOf]; omega
            · obtain rfl : j = l.length := by omega
              obtain ⟨tt, htt⟩ : ∃ y, paN l l.length m = y := ⟨_, rfl⟩
              rw [htt] at p2 p3 p5 P6 ⊢
              have hsz := hy.size
              have hrow := HR.out
              clear htt
              go_wp2_with ((at_builtin; refine wpList_append_own _ rfl _ _ 23 rfl w.heap.size 45 i0 (.agg #[.int .i64 0, .int .i64 0]) 2 16 undSp hi0 hz0 hz1 hz2 rfl (by decide) _ _ _ rfl (World.ownsRow.alloc hrow _) ⟨wo.heap.size, 0, none⟩ 1 1 [.int .i64 m, .int .i64 tt] rfl rfl (cell_two_new _ _ _ _) (by simp [Value.oneCell']) (by unfold maxLen; omega) (by omega) (by simp; omega) ?_; intro v' w9 hown hgrow _))
              have HN := Lib.hid (show RowS w.heap.size v' (lst (anyIn l) 0 k') w9 by rw [P6.out]; exact row_add hown)
              have hx9 := ext_row hy hrow (Nat.le_refl _) (grown_pre hgrow)
              go_roundw
              case rel => exact ⟨k', by rw [p5], by omega, P4, HN, hx9⟩
              case measure => simp [intOf]; omega
end Go.Proofs.YtejcmdoalhnpeaaGreatDoor
namespace Go.Proofs.YtejcmdoalhnpeaaGreatDoor
open Go.RowKit Go.Shelf

theorem append_own0 {ops : Array Oper} {rest : List Oper} {o : Oper} {a : Act} {Q : Exit → Act → World → Prop} {w : World} (hgd : o.guard = none) (s x : Operand) (t : TypeId)
    (ho : o.op = .call { callee := .builtin .append, args := #[s, x], argTypes := #[t, t] })
    (base : Nat) (e : TypeId) (i : TypeInfo) (z : Value) (size bytes : Nat) (ht : (Tryz.prog).underlying t = some (.slice e)) (hi : (Tryz.prog).info? e = some i) (hz : i.zero = some z)
    (hsize : i.size = size) (hby : i.bytes = bytes) (hzs : z.cells.size = size) (hsz : 0 < size)
    (v : Value) (n : Nat) (xs : List Value) (hs : a.eval s = v) (hown : w.ownsRow base e size v n xs)
    (ao : Option Addr) (m c : Nat) (news : List Value) (hx : a.eval x = .slice ao m c) (hl : news.length = m * size) (hnews : m ≠ 0 → ∃ ad, ao = some ad ∧ ∀ j u, news[j]? = some u → w.cell? (ad.add j) = some u) (h1 : ∀ u ∈ news, u.oneCell' = true)
    (h63 : n + m ≤ maxLen) (hbytes : (n + m) * bytes ≤ 140737488355328) (hbase : base ≤ w.heap.size)
    (h : ∀ v' w', w'.ownsRow base e size v' (n + m) (xs ++ news) → w.grownBy w' v.ownBlock → wpList Tryz.prog ops Q rest (a.put o.dst v') w') : wpList Tryz.prog ops Q (o :: rest) a w := by
  by_cases hm : m = 0
  · subst hm
    have hsrc : Go.Src Tryz.prog i.size t (.slice ao 0 c) 0 [] w := by
      cases ao with
      | none => exact Go.Src.ofNil w ht c
      | some ad => exact Go.Src.ofSlice w ht ad 0 c [] (by simp) (by simp) (by simp)
    have hn : news = [] := List.eq_nil_of_length_eq_zero (by rw [hl]; simp)
    subst hn
    have hown' := hown
    obtain ⟨hxl, hf⟩ := hown'
    rcases hf with ⟨rfl, h0⟩ | ⟨g, cap, cur, rfl, hb, hcur, h4, h5, h6⟩
    · subst h0
      refine Go.Lib.wpList_append_run_sl w hgd s x t ho _ _ hs hx (run_append_nothing w t t o.type e i ht hi none 0 0 (Nat.le_refl _) _ ?_) (h _ _ ?_ (World.grownBy.refl _ _))
      · exact hsrc
      · simpa using hown
    · refine Go.Lib.wpList_append_run_sl w hgd s x t ho _ _ hs hx (run_append_nothing w t t o.type e i ht hi _ n cap h4 _ ?_) (h _ _ ?_ (World.grownBy.refl _ _))
      · exact hsrc
      · simpa using hown
  · obtain ⟨ad, rfl, hc⟩ := hnews hm
    exact wpList_append_own w hgd s x t ho base e i z size bytes ht hi hz hsize hby hzs hsz v n xs hs hown ad m c news hx hl hc h1 h63 hbytes hbase (fun v' w' h2 h3 _ => h v' w' h2 h3)
theorem append_spans {ops : Array Oper} {rest : List Oper} {o : Oper} {a : Act} {Q : Exit → Act → World → Prop} {w : World} (hgd : o.guard = none) (s x : Operand)
    (ho : o.op = .call { callee := .builtin .append, args := #[s, x], argTypes := #[23, 23] })
    (base : Nat) (v u : Value) (l r : List Sp) (hs : a.eval s = v) (hrow : RowS base v l w) (hx : a.eval x = u) (hu : SpansAt w u r) (hb : base ≤ w.heap.size) (hl : l.length + r.length ≤ 2000000)
    (h : ∀ v' w', RowS base v' (l ++ r) w' → w.grownBy w' v.ownBlock → wpList Tryz.prog ops Q rest (a.put o.dst v') w') : wpList Tryz.prog ops Q (o :: rest) a w := by
  obtain ⟨i0, hi0, hz0, hz1, hz2⟩ := info_parts infoSp
  obtain ⟨ao, c, rfl, hc⟩ := hu
  refine append_own0 hgd s x 23 ho base 45 i0 (.agg #[.int .i64 0, .int .i64 0]) 2 16 undSp hi0 hz0 hz1 hz2 rfl (by decide) v l.length (cellsS l) hs hrow ao r.length c (cellsS r) hx (cellsS_len r) ?_ (cellsS_one r) (by unfold maxLen; omega) (by omega) hb ?_
  · intro hm
    obtain ⟨b, o', rfl, _, _⟩ := hc 0 (by omega)
    refine ⟨⟨b, o', none⟩, rfl, fun j y hj => ?_⟩
    have hjl : j < r.length * 2 := by
      have := (List.getElem?_eq_some_iff.1 hj).1
      rwa [cellsS_len] at this
    obtain ⟨b2, o2, e, k1, k2⟩ := hc (j / 2) (by omega)
    simp only [Option.some.injEq, Addr.mk.injEq, and_true] at e
    obtain ⟨rfl, rfl⟩ := e
    obtain ⟨g1, g2⟩ := cellsS_get r (j / 2) (by omega)
    have ha : Addr.add ⟨b, o', none⟩ j = ⟨b, o' + j, none⟩ := by simp only [Addr.add]; split <;> simp_all
    rw [ha]
    rcases Nat.mod_two_eq_zero_or_one j with h2 | h2
    · have e2 : j / 2 * 2 = j := by omega
      rw [e2] at k1 g1
      rw [g1] at hj
      rw [k1, Option.some.inj hj]
    · have e2 : j / 2 * 2 + 1 = j := by omega
      rw [Nat.add_assoc, e2] at k2
      rw [e2] at g2
      rw [g2] at hj
      rw [k2, Option.some.inj hj]
  · intro v' w' h1 h2
    refine h v' w' ?_ h2
    unfold RowS
    rw [List.length_append, cellsS_append]
    exact h1
end Go.Proofs.YtejcmdoalhnpeaaGreatDoor
namespace Go.Proofs.YtejcmdoalhnpeaaGreatDoor
open Go.RowKit Go.Shelf

/-- a set of the call's own that turns are added to, beside blocks that stay -/
structure SG (w : World) (L : List (Nat × TypeId × Array Value)) (tO : TypeId) (cs : Value → Array Value) (K : Nat) (v : Value) (l : List Tn) (W : World) : Prop where
  kp : ∀ x ∈ L, Cls x.1 x.2.1 x.2.2 W ∧ x.1 < K
  mn : Cls K tO (cs v) W
  rt : RowT (K + 1) v l W
  ex : Ext w W
  sz : K + 1 ≤ W.heap.size
  hk : w.heap.size ≤ K
theorem SG.ext {w : World} {L : List (Nat × TypeId × Array Value)} {tO : TypeId} {cs : Value → Array Value} {K : Nat} {v : Value} {l : List Tn} {W W' : World} (h : SG w L tO cs K v l W) (x : Ext W W') : SG w L tO cs K v l W' :=
  ⟨fun y hy => ⟨(h.kp y hy).1.ext x, (h.kp y hy).2⟩, h.mn.ext x, rowT_ext h.rt x, h.ex.trans x, Nat.le_trans h.sz x.size, h.hk⟩
theorem SG.add {w : World} {L : List (Nat × TypeId × Array Value)} {tO : TypeId} {cs : Value → Array Value} {K : Nat} {v : Value} {l : List Tn} {t : Tn} {W W' : World} {v' : Value} {tmp : Obj} (hcs : ∀ u x, (cs u).setIfInBounds 0 x = cs x) (h : SG w L tO cs K v l W) (hg : (W.alloc tmp).grownBy W' v.ownBlock) (ho : W'.ownsRow (K + 1) 42 3 v' (l.length + 1) (cellsT l ++ [.int .i64 t.p, .int .i64 t.f, .int .i64 t.l])) :
    Cls K tO (cs v) W' ∧ SG w L tO cs K v' (l ++ [t]) (W'.setCell ⟨K, 0, none⟩ v') := by
  have hne : ∀ b, b < K + 1 → some b ≠ v.ownBlock := fun b hb => own_ge h.rt hb
  have k : ∀ {b : Nat} {t : TypeId} {cs : Array Value}, b < K + 1 → Cls b t cs W → Cls b t cs W' := fun hb hc => (hc.ext ((Ext.refl _).alloc _)).kept hg (hne _ hb)
  have hk := h.hk
  have hm := k (by omega) h.mn
  have hx : Ext w W' := (h.ex.alloc tmp).trans' (by
    refine ⟨hg.os, hg.tape, hg.output, hg.size, fun i hi => hg.block i (by have := h.sz; simp; omega) (hne i (by omega))⟩)
  refine ⟨hm, ⟨fun y hy => ?_, ?_, ?_, hx.setCell (by simp; omega) _, ?_, hk⟩⟩
  · obtain ⟨h1, h2⟩ := h.kp y hy
    exact ⟨(k (by omega) h1).other (by omega) 0 _, h2⟩
  · have := hm.set 0 v'
    rw [hcs] at this
    exact this
  · have h5 : (W'.setCell ⟨K, 0, none⟩ v').ownsRow (K + 1) 42 3 v' (l.length + 1) (cellsT l ++ [.int .i64 t.p, .int .i64 t.f, .int .i64 t.l]) := World.ownsRow.kept ho (grownBy_setCell' W' K v') (.inr (own_ge ho (by omega)).symm)
    unfold RowT
    rw [List.length_append, List.length_singleton, cellsT_append]
    exact h5
  · have h1 := h.sz; have h2 := hg.size; simp [World.setCell] at *; omega

theorem uni_err {A B : Mn} {E : Int} (h : or2 (chkE A) (chkE B) = E) (hE : E ≠ 0) : uniE A B = E ∧ uniX A B = ⟨[], []⟩ := by
  have e : uniE A B = E := by unfold uniE; rw [if_pos (by rw [h]; exact hE)]; exact h
  exact ⟨e, by unfold uniX; rw [if_neg (by rw [e]; exact hE)]⟩
theorem uni_big {A B : Mn} (h : or2 (chkE A) (chkE B) = 0) (h1 : 24 < (ddT (A.ts ++ B.ts)).length ∨ 40 < (unS (A.ss ++ B.ss)).length) : uniE A B = 2 ∧ uniX A B = ⟨[], []⟩ := by
  have e : uniE A B = 2 := by unfold uniE; rw [if_neg (by omega), if_pos h1]
  exact ⟨e, by unfold uniX; rw [if_neg (by rw [e]; decide)]⟩
theorem uni_ok {A B : Mn} (h : or2 (chkE A) (chkE B) = 0) (h1 : ¬ (24 < (ddT (A.ts ++ B.ts)).length ∨ 40 < (unS (A.ss ++ B.ss)).length)) : uniE A B = 0 ∧ uniX A B = ⟨ddT (A.ts ++ B.ts), unS (A.ss ++ B.ss)⟩ := by
  have e : uniE A B = 0 := by unfold uniE; rw [if_neg (by omega), if_neg h1]
  exact ⟨e, by unfold uniX; rw [if_pos e]⟩
theorem dd_take {l : List Tn} {j : Nat} (h : j < l.length) : ddT (l.take (j + 1)) = adT (ddT (l.take j)) l[j] := by rw [take_succ_get l j h, ddT_snoc]
theorem spsV_of {A B : Mn} (hA : Ok A) (hB : Ok B) : SpsV (A.ss ++ B.ss) := fun s hs => by
  rcases List.mem_append.1 hs with h | h
  · exact spB_t (hA.s s h)
  · exact spB_t (hB.s s h)

def ruCs (v : Value) : Array Value := #[v, .slice none 0 0, .int .i64 0]
theorem runi_ret {w W : World} {tmps : Array Value} {va vb : Value} {X : Mn} {E : Int} (h4 : tmps.getD 4 undef = .pointer (some ⟨w.heap.size + 1 + 1, 0, none⟩)) (hc : Cls (w.heap.size + 1 + 1) 31 #[va, vb, .int .i64 E] W) (hm : MinsAt W va vb X) (hx : Ext w W) :
    bodyPost Tryz.prog Tryz.f7 (RSetPost w X E) Exit.ret { tmps := tmps, defers := [] } W := by
  have c0 : W.cell? ⟨w.heap.size + 1 + 1, 0, none⟩ = some va := hc.cell 0
  have c1 : W.cell? ⟨w.heap.size + 1 + 1, 1, none⟩ = some vb := hc.cell 1
  have c2 : W.cell? ⟨w.heap.size + 1 + 1, 2, none⟩ = some (.int .i64 E) := hc.cell 2
  have h4' : tmps[4]?.getD undef = .pointer (some ⟨w.heap.size + 1 + 1, 0, none⟩) := by simpa using h4
  exact bodyPost_ret (v := .agg #[va, vb, .int .i64 E]) (by simp [results, Tryz.f7, go_sem, h4', c0, c1, c2]) rfl ⟨va, vb, rfl, hm, hx⟩
set_option maxRecDepth 100000 in
set_option maxHeartbeats 8000000 in
theorem RefUnion_any (a b c d : Value) (A B : Mn) (w : World) (hA : MinsAt w a b A) (hB : MinsAt w c d B) :
    Calls Tryz.prog 7 #[.agg #[a, b], .agg #[c, d]] w (RSetPost w (uniX A B) (uniE A B)) := by
  obtain ⟨aa, ca, rfl⟩ := hA.t.len
  obtain ⟨ab, cb, rfl⟩ := hA.s.len
  obtain ⟨ac, cc, rfl⟩ := hB.t.len
  obtain ⟨ad, cd, rfl⟩ := hB.s.len
  by_cases hcA : chkE A = 0
  · have hkA := Ok.of hcA
    have HCA := Lib.hid hcA
    by_cases hcB : chkE B = 0
    · have hkB := Ok.of hcB
      have HCB := Lib.hid hcB
      have h0 : or2 (chkE A) (chkE B) = 0 := by unfold or2; rw [if_neg (by omega)]; exact hcB
      have HBIG := Lib.hid (fun h1 => @uni_big A B h0 h1)
      have HOKK := Lib.hid (fun h1 => @uni_ok A B h0 h1)
      have hlA := hkA.lt
      have hlB := hkB.lt
      have hsA := hkA.ls
      have hsB := hkB.ls
      obtain ⟨i0, hi0, hz0, hz1, hz2⟩ := info_parts infoTn
      clear hcA hcB h0
      go_enter Tryz.func7, Tryz.ntmps7
      go_wp2_with fail
      refine (RefCheck_any _ _ A _ (hA.ext (by repeat (first | exact Ext.refl _ | assumption | refine Ext.alloc ?_ _ | refine Ext.drew ?_ | refine Ext.drewN _ ?_ | refine Ext.trans ?_ (by assumption))))).mono ?_
      rw [HCA.out]
      rintro e w1 ⟨rfl, hx1⟩
      obtain ⟨q0, q1, q2, hx, hzz⟩ := alloc3 hx1
      clear hx1
      have d2 : w1.cell? ⟨w.heap.size + 1, 0, none⟩ = some (.slice ac B.ts.length cc) := q1.cell 0
      have d3 : w1.cell? ⟨w.heap.size + 1, 1, none⟩ = some (.slice ad B.ss.length cd) := q1.cell 1
      go_wp2_with fail
      refine (RefCheck_any _ _ B _ (hB.ext hx)).mono ?_
      rw [HCB.out]
      rintro e w2 ⟨rfl, hy⟩
      replace q0 := q0.ext hy
      replace q1 := q1.ext hy
      replace q2 := q2.ext hy
      replace hx := hx.trans hy
      have hzz2 := hy.size
      clear hy d2 d3
      obtain ⟨K, hK⟩ : ∃ K, w2.heap.size = K := ⟨_, rfl⟩
      have hSG : SG w [(w.heap.size, 25, #[.slice aa A.ts.length ca, .slice ab A.ss.length cb]), (w.heap.size + 1, 25, #[.slice ac B.ts.length cc, .slice ad B.ss.length cd]), (w.heap.size + 1 + 1, 31, #[.slice none 0 0, .slice none 0 0, .int .i64 0])] 31 ruCs K (.slice none 0 0) []
          (w2.alloc (.cells #[.slice none 0 0, .slice none 0 0, .int .i64 0] 31)) := by
        refine ⟨fun x hx' => ?_, Cls.newAt _ _ _ hK.symm, World.ownsRow_nil _ _ _ _, Ext.trans hx (by repeat (first | exact Ext.refl _ | assumption | refine Ext.alloc ?_ _ | refine Ext.drew ?_ | refine Ext.drewN _ ?_ | refine Ext.trans ?_ (by assumption))), by simp; omega, by omega⟩
        simp only [List.mem_cons, List.not_mem_nil, or_false] at hx'
        rcases hx' with rfl | rfl | rfl
        · exact ⟨q0.ext (by repeat (first | exact Ext.refl _ | assumption | refine Ext.alloc ?_ _ | refine Ext.drew ?_ | refine Ext.drewN _ ?_ | refine Ext.trans ?_ (by assumption))), by simp only; omega⟩
        · exact ⟨q1.ext (by repeat (first | exact Ext.refl _ | assumption | refine Ext.alloc ?_ _ | refine Ext.drew ?_ | refine Ext.drewN _ ?_ | refine Ext.trans ?_ (by assumption))), by simp only; omega⟩
        · exact ⟨q2.ext (by repeat (first | exact Ext.refl _ | assumption | refine Ext.alloc ?_ _ | refine Ext.drew ?_ | refine Ext.drewN _ ?_ | refine Ext.trans ?_ (by assumption))), by simp only; omega⟩
      have HSG := Lib.hid hSG
      clear hSG q0 q1 q2
      go_wp2_with fail
      clear hK
      go_loopw [7, 8, 9] (fun i _ _ wr => ∃ (j : Nat) (v : Value), j ≤ (A.ts ++ B.ts).length ∧ i = .int .i64 j ∧ Hid (SG w [(w.heap.size, 25, #[.slice aa A.ts.length ca, .slice ab A.ss.length cb]), (w.heap.size + 1, 25, #[.slice ac B.ts.length cc, .slice ad B.ss.length cd]), (w.heap.size + 1 + 1, 31, #[.slice none 0 0, .slice none 0 0, .int .i64 0])] 31 ruCs K v (ddT ((A.ts ++ B.ts).take j)) wr)) (fun i _ _ _ => (A.ts ++ B.ts).length - (intOf i).toNat)
      case atStart => exact ⟨0, _, Nat.zero_le _, rfl, HSG⟩
      case round =>
        obtain ⟨j, v, hj, rfl, HR⟩ := hrel
        obtain ⟨Ad, cp, hform⟩ := HR.out.rt.form
        have hll : (A.ts ++ B.ts).length = A.ts.length + B.ts.length := List.length_append
        have e0 : wr.cell? ⟨w.heap.size, 0, none⟩ = some (.slice aa A.ts.length ca) := (HR.out.kp (w.heap.size, 25, #[.slice aa A.ts.length ca, .slice ab A.ss.length cb]) (by simp)).1.cell 0
        have e1 : wr.cell? ⟨w.heap.size, 1, none⟩ = some (.slice ab A.ss.length cb) := (HR.out.kp (w.heap.size, 25, #[.slice aa A.ts.length ca, .slice ab A.ss.length cb]) (by simp)).1.cell 1
        have e2 : wr.cell? ⟨w.heap.size + 1, 0, none⟩ = some (.slice ac B.ts.length cc) := (HR.out.kp (w.heap.size + 1, 25, #[.slice ac B.ts.length cc, .slice ad B.ss.length cd]) (by simp)).1.cell 0
        have e3 : wr.cell? ⟨w.heap.size + 1, 1, none⟩ = some (.slice ad B.ss.length cd) := (HR.out.kp (w.heap.size + 1, 25, #[.slice ac B.ts.length cc, .slice ad B.ss.length cd]) (by simp)).1.cell 1
        have hdl := ddT_len ((A.ts ++ B.ts).take j)
        rw [List.length_take] at hdl
        subst hform
        by_cases hlt : j < (A.ts ++ B.ts).length
        · have hdd := dd_take hlt
          have hlt2 : (j : Int) < (A.ts.length : Int) + (B.ts.length : Int) := by omega
          obtain ⟨D, hD⟩ : ∃ D, ddT ((A.ts ++ B.ts).take j) = D := ⟨_, rfl⟩
          rw [hD] at HR hdl hdd
          clear hD
          by_cases hjA : j < A.ts.length
          · obtain ⟨bb, oo, rfl, c0, c1, c2⟩ := (hA.t.ext HR.out.ex).get j hjA
            have hget : (A.ts ++ B.ts)[j] = A.ts[j] := List.getElem_append_left hjA
            have hTX : A.ts[j] = ⟨A.ts[j].p, A.ts[j].f, A.ts[j].l⟩ := rfl
            rw [hget] at hdd
            obtain ⟨p, hp⟩ : ∃ p, A.ts[j].p = p := ⟨_, rfl⟩
            obtain ⟨f, hf⟩ : ∃ f, A.ts[j].f = f := ⟨_, rfl⟩
            obtain ⟨m, hm⟩ : ∃ m, A.ts[j].l = m := ⟨_, rfl⟩
            rw [hp, hf, hm] at hTX
            rw [hp] at c0
            rw [hf] at c1
            rw [hm] at c2
            rw [hTX] at hdd
            have HDD := Lib.hid hdd
            clear hp hf hm hTX hget hdd
            have x0 : (wr.alloc (.cells #[.int .i64 0, .int .i64 0, .int .i64 0] 42)).cell? ⟨w.heap.size, 0, none⟩ = _ := Ext.cell (by repeat (first | exact Ext.refl _ | assumption | refine Ext.alloc ?_ _ | refine Ext.drew ?_ | refine Ext.drewN _ ?_ | refine Ext.trans ?_ (by assumption))) e0
            have x2 : (wr.alloc (.cells #[.int .i64 0, .int .i64 0, .int .i64 0] 42)).cell? ⟨w.heap.size + 1, 0, none⟩ = _ := Ext.cell (by repeat (first | exact Ext.refl _ | assumption | refine Ext.alloc ?_ _ | refine Ext.drew ?_ | refine Ext.drewN _ ?_ | refine Ext.trans ?_ (by assumption))) e2
            have z0 : (wr.alloc (.cells #[.int .i64 0, .int .i64 0, .int .i64 0] 42)).cell? _ = _ := Ext.cell (by repeat (first | exact Ext.refl _ | assumption | refine Ext.alloc ?_ _ | refine Ext.drew ?_ | refine Ext.drewN _ ?_ | refine Ext.trans ?_ (by assumption))) c0
            have z1 : (wr.alloc (.cells #[.int .i64 0, .int .i64 0, .int .i64 0] 42)).cell? _ = _ := Ext.cell (by repeat (first | exact Ext.refl _ | assumption | refine Ext.alloc ?_ _ | refine Ext.drew ?_ | refine Ext.drewN _ ?_ | refine Ext.trans ?_ (by assumption))) c1
            have z2 : (wr.alloc (.cells #[.int .i64 0, .int .i64 0, .int .i64 0] 42)).cell? _ = _ := Ext.cell (by repeat (first | exact Ext.refl _ | assumption | refine Ext.alloc ?_ _ | refine Ext.drew ?_ | refine Ext.drewN _ ?_ | refine Ext.trans ?_ (by assumption))) c2
            go_upto_region 15 with fail
            clear x0 x2 z0 z1 z2
            obtain ⟨Y, hY⟩ : ∃ Y, wr.alloc (.cells #[.int .i64 p, .int .i64 f, .int .i64 m] 42) = Y := ⟨_, rfl⟩
            have hxY : Ext wr Y := by rw [← hY]; exact (by repeat (first | exact Ext.refl _ | assumption | refine Ext.alloc ?_ _ | refine Ext.drew ?_ | refine Ext.drewN _ ?_ | refine Ext.trans ?_ (by assumption)))
            have hq := HR.out.ext hxY
            have y0 : Y.cell? ⟨wr.heap.size, 0, none⟩ = some (.int .i64 p) := by rw [← hY]; exact cell_at_new _ _ _ _ _ _ rfl rfl
            have y1 : Y.cell? ⟨wr.heap.size, 1, none⟩ = some (.int .i64 f) := by rw [← hY]; exact cell_at_new _ _ _ _ _ _ rfl rfl
            have y2 : Y.cell? ⟨wr.heap.size, 2, none⟩ = some (.int .i64 m) := by rw [← hY]; exact cell_at_new _ _ _ _ _ _ rfl rfl
            have k0 : Y.cell? ⟨K, 0, none⟩ = some (.slice Ad D.length cp) := hq.mn.cell 0
            rw [hY]
            clear hY e0 e1 e2 e3
            go_wp2_with fail
            refine (hasTurn_any _ D p f m _ hq.rt.at_ (by omega)).mono ?_
            unfold adT at HDD
            cases hh : hasT D ⟨p, f, m⟩
            · rintro e w3 ⟨rfl, hz⟩
              replace y0 := hz.cell y0
              replace y1 := hz.cell y1
              replace y2 := hz.cell y2
              replace k0 := hz.cell k0
              have hq3 := hq.ext hz
              have hsz := hq3.sz
              have hrow : w3.ownsRow (K + 1) 42 3 (.slice Ad D.length cp) D.length (cellsT D) := hq3.rt
              rw [hh] at HDD
              clear hq hz hxY
              go_wp2_with ((at_builtin; refine wpList_append_own _ rfl _ _ 22 rfl (K + 1) 42 i0 (.agg #[.int .i64 0, .int .i64 0, .int .i64 0]) 3 24 undTn hi0 hz0 hz1 hz2 rfl (by decide) _ _ _ rfl (World.ownsRow.alloc hrow _) ⟨w3.heap.size, 0, none⟩ 1 1 [.int .i64 p, .int .i64 f, .int .i64 m] rfl rfl (cell_three_new _ _ _ _ _) (by simp [Value.oneCell']) (by unfold maxLen; omega) (by omega) (by simp; omega) ?_; intro v' w9 hown hgrow _; obtain ⟨g', cap', rfl⟩ := ownsRow_succ hown; obtain ⟨hm9, hq9⟩ := SG.add (t := ⟨p, f, m⟩) (fun _ _ => rfl) hq3 hgrow hown; have hm9a := hm9.cell 0; have hm9f := hm9.frozen 0; simp only [ruCs, List.getElem?_toArray, List.getElem?_cons_zero] at hm9a))
              go_roundw
              case rel => exact ⟨j + 1, _, by omega, by go_num, Lib.hid (by rw [HDD.out]; exact hq9)⟩
              case measure => simp [intOf]; omega
            · rintro e w3 ⟨rfl, hz⟩
              have hq3 := hq.ext hz
              rw [hh] at HDD
              clear hq hz hxY y0 y1 y2 k0
              go_wp2_with fail
              go_roundw
              case rel => exact ⟨j + 1, _, by omega, by go_num, Lib.hid (by rw [HDD.out]; exact hq3)⟩
              case measure => simp [intOf]; omega
          · obtain ⟨q, hq⟩ : ∃ q, q = j - A.ts.length := ⟨_, rfl⟩
            have hqB : q < B.ts.length := by omega
            obtain ⟨bb, oo, rfl, c0, c1, c2⟩ := (hB.t.ext HR.out.ex).get q hqB
            have hget : (A.ts ++ B.ts)[j] = B.ts[q] := by subst hq; exact List.getElem_append_right (by omega)
            have hjq : (j : Int) - (A.ts.length : Int) = (q : Int) := by omega
            have hwq : IntKind.i64.wrap ((j : Int) - (A.ts.length : Int)) = (q : Int) := by rw [hjq]; exact IntWalk.i64_in _ (by omega)
            have hqb2 : (q : Int) < (B.ts.length : Int) := by omega
            clear hq
            have hTX : B.ts[q] = ⟨B.ts[q].p, B.ts[q].f, B.ts[q].l⟩ := rfl
            rw [hget] at hdd
            obtain ⟨p, hp⟩ : ∃ p, B.ts[q].p = p := ⟨_, rfl⟩
            obtain ⟨f, hf⟩ : ∃ f, B.ts[q].f = f := ⟨_, rfl⟩
            obtain ⟨m, hm⟩ : ∃ m, B.ts[q].l = m := ⟨_, rfl⟩
            rw [hp, hf, hm] at hTX
            rw [hp] at c0
            rw [hf] at c1
            rw [hm] at c2
            rw [hTX] at hdd
            have HDD := Lib.hid hdd
            clear hp hf hm hTX hget hdd
            have x0 : (wr.alloc (.cells #[.int .i64 0, .int .i64 0, .int .i64 0] 42)).cell? ⟨w.heap.size, 0, none⟩ = _ := Ext.cell (by repeat (first | exact Ext.refl _ | assumption | refine Ext.alloc ?_ _ | refine Ext.drew ?_ | refine Ext.drewN _ ?_ | refine Ext.trans ?_ (by assumption))) e0
            have x2 : (wr.alloc (.cells #[.int .i64 0, .int .i64 0, .int .i64 0] 42)).cell? ⟨w.heap.size + 1, 0, none⟩ = _ := Ext.cell (by repeat (first | exact Ext.refl _ | assumption | refine Ext.alloc ?_ _ | refine Ext.drew ?_ | refine Ext.drewN _ ?_ | refine Ext.trans ?_ (by assumption))) e2
            have z0 : (wr.alloc (.cells #[.int .i64 0, .int .i64 0, .int .i64 0] 42)).cell? _ = _ := Ext.cell (by repeat (first | exact Ext.refl _ | assumption | refine Ext.alloc ?_ _ | refine Ext.drew ?_ | refine Ext.drewN _ ?_ | refine Ext.trans ?_ (by assumption))) c0
            have z1 : (wr.alloc (.cells #[.int .i64 0, .int .i64 0, .int .i64 0] 42)).cell? _ = _ := Ext.cell (by repeat (first | exact Ext.refl _ | assumption | refine Ext.alloc ?_ _ | refine Ext.drew ?_ | refine Ext.drewN _ ?_ | refine Ext.trans ?_ (by assumption))) c1
            have z2 : (wr.alloc (.cells #[.int .i64 0, .int .i64 0, .int .i64 0] 42)).cell? _ = _ := Ext.cell (by repeat (first | exact Ext.refl _ | assumption | refine Ext.alloc ?_ _ | refine Ext.drew ?_ | refine Ext.drewN _ ?_ | refine Ext.trans ?_ (by assumption))) c2
            go_upto_region 15 with fail
            clear x0 x2 z0 z1 z2
            obtain ⟨Y, hY⟩ : ∃ Y, wr.alloc (.cells #[.int .i64 p, .int .i64 f, .int .i64 m] 42) = Y := ⟨_, rfl⟩
            have hxY : Ext wr Y := by rw [← hY]; exact (by repeat (first | exact Ext.refl _ | assumption | refine Ext.alloc ?_ _ | refine Ext.drew ?_ | refine Ext.drewN _ ?_ | refine Ext.trans ?_ (by assumption)))
            have hq := HR.out.ext hxY
            have y0 : Y.cell? ⟨wr.heap.size, 0, none⟩ = some (.int .i64 p) := by rw [← hY]; exact cell_at_new _ _ _ _ _ _ rfl rfl
            have y1 : Y.cell? ⟨wr.heap.size, 1, none⟩ = some (.int .i64 f) := by rw [← hY]; exact cell_at_new _ _ _ _ _ _ rfl rfl
            have y2 : Y.cell? ⟨wr.heap.size, 2, none⟩ = some (.int .i64 m) := by rw [← hY]; exact cell_at_new _ _ _ _ _ _ rfl rfl
            have k0 : Y.cell? ⟨K, 0, none⟩ = some (.slice Ad D.length cp) := hq.mn.cell 0
            rw [hY]
            clear hY e0 e1 e2 e3
            go_wp2_with fail
            refine (hasTurn_any _ D p f m _ hq.rt.at_ (by omega)).mono ?_
            unfold adT at HDD
            cases hh : hasT D ⟨p, f, m⟩
            · rintro e w3 ⟨rfl, hz⟩
              replace y0 := hz.cell y0
              replace y1 := hz.cell y1
              replace y2 := hz.cell y2
              replace k0 := hz.cell k0
              have hq3 := hq.ext hz
              have hsz := hq3.sz
              have hrow : w3.ownsRow (K + 1) 42 3 (.slice Ad D.length cp) D.length (cellsT D) := hq3.rt
              rw [hh] at HDD
              clear hq hz hxY
              go_wp2_with ((at_builtin; refine wpList_append_own _ rfl _ _ 22 rfl (K + 1) 42 i0 (.agg #[.int .i64 0, .int .i64 0, .int .i64 0]) 3 24 undTn hi0 hz0 hz1 hz2 rfl (by decide) _ _ _ rfl (World.ownsRow.alloc hrow _) ⟨w3.heap.size, 0, none⟩ 1 1 [.int .i64 p, .int .i64 f, .int .i64 m] rfl rfl (cell_three_new _ _ _ _ _) (by simp [Value.oneCell']) (by unfold maxLen; omega) (by omega) (by simp; omega) ?_; intro v' w9 hown hgrow _; obtain ⟨g', cap', rfl⟩ := ownsRow_succ hown; obtain ⟨hm9, hq9⟩ := SG.add (t := ⟨p, f, m⟩) (fun _ _ => rfl) hq3 hgrow hown; have hm9a := hm9.cell 0; have hm9f := hm9.frozen 0; simp only [ruCs, List.getElem?_toArray, List.getElem?_cons_zero] at hm9a))
              go_roundw
              case rel => exact ⟨j + 1, _, by omega, by go_num, Lib.hid (by rw [HDD.out]; exact hq9)⟩
              case measure => simp [intOf]; omega
            · rintro e w3 ⟨rfl, hz⟩
              have hq3 := hq.ext hz
              rw [hh] at HDD
              clear hq hz hxY y0 y1 y2 k0
              go_wp2_with fail
              go_roundw
              case rel => exact ⟨j + 1, _, by omega, by go_num, Lib.hid (by rw [HDD.out]; exact hq3)⟩
              case measure => simp [intOf]; omega
        · obtain rfl : j = (A.ts ++ B.ts).length := by omega
          rw [List.take_length] at HR hdl
          have hge : ¬ (((A.ts ++ B.ts).length : Int) < (A.ts.length : Int) + (B.ts.length : Int)) := by omega
          obtain ⟨D, hD⟩ : ∃ D, ddT (A.ts ++ B.ts) = D := ⟨_, rfl⟩
          obtain ⟨U, hU⟩ : ∃ U, unS (A.ss ++ B.ss) = U := ⟨_, rfl⟩
          rw [hD] at HR HBIG HOKK hdl
          rw [hU] at HBIG HOKK
          have HU := Lib.hid hU
          have hul : U.length ≤ 1048577 := by rw [← hU]; exact lst_len_le _ _ _
          obtain ⟨n, hn⟩ : ∃ n, (A.ts ++ B.ts).length = n := ⟨_, rfl⟩
          rw [hn] at hge hll hdl ⊢
          have hsA2 := hA.s.ext HR.out.ex
          have hsB2 := hB.s.ext HR.out.ex
          clear hD hU hn
          go_upto_region 20 with ((at_builtin; refine append_spans rfl _ _ rfl wr.heap.size _ _ [] A.ss rfl (rowS_nil _ _) rfl hsA2 (Nat.le_refl _) (by simp; omega) ?_; intro v1 w3 hr1 hg1))
          have hx3 : Ext wr w3 := ⟨hg1.os, hg1.tape, hg1.output, hg1.size, fun i hi => hg1.block i hi (fun h => by cases h)⟩
          obtain ⟨A1, c1, hv1⟩ := hr1.form
          subst hv1
          replace e3 := hx3.cell e3
          go_upto_region 21 with ((at_builtin; refine append_spans rfl _ _ rfl wr.heap.size _ _ ([] ++ A.ss) B.ss rfl hr1 rfl (hsB2.ext hx3) hx3.size (by simp; omega) ?_; intro v2 w4 hr2 hg2))
          have hx4 : Ext wr w4 := ext_row hx3 hr1 (Nat.le_refl _) hg2
          rw [List.nil_append] at hr2
          clear e0 e1 e2 e3 hg1 hg2 hx3 hr1
          go_wp2_with fail
          refine (refJoined_any _ (A.ss ++ B.ss) _ hr2.at_ (by rw [List.length_append]; omega) (spsV_of hkA hkB)).mono ?_
          rw [HU.out]
          rintro e w5 ⟨v3, rfl, hr3, hx5⟩
          have hxA := hx4.trans hx5
          have hq5 := HR.out.ext hxA
          obtain ⟨A3, c3, hv3⟩ := hr3.form
          subst hv3
          obtain ⟨hR, hKR⟩ := hq5.kp (w.heap.size + 1 + 1, 31, #[.slice none 0 0, .slice none 0 0, .int .i64 0]) (by simp)
          have hszA := HR.out.sz
          have hsz4 := hx4.size
          have k0 : w5.cell? ⟨K, 0, none⟩ = some (.slice Ad D.length cp) := hq5.mn.cell 0
          have k1 : w5.cell? ⟨K, 1, none⟩ = some (.slice none 0 0) := hq5.mn.cell 1
          have kf : w5.frozen? ⟨K, 1, none⟩ = false := hq5.mn.frozen 1
          go_upto_region 22 with fail
          obtain ⟨X, hX⟩ : ∃ X, w5.setCell ⟨K, 1, none⟩ (.slice A3 U.length c3) = X := ⟨_, rfl⟩
          have hgX : w5.grownBy X (some K) := by rw [← hX]; exact grown_set (World.grownBy.refl _ _) 1 _
          have hmX : Cls K 31 #[.slice Ad D.length cp, .slice A3 U.length c3, .int .i64 0] X := by rw [← hX]; exact hq5.mn.set 1 _
          have hRX : Cls (w.heap.size + 1 + 1) 31 #[.slice none 0 0, .slice none 0 0, .int .i64 0] X := Cls.kept hR hgX (by simp at hKR ⊢; omega)
          have hrt : RowT (K + 1) (.slice Ad D.length cp) D X := World.ownsRow.kept hq5.rt hgX (.inr (own_ge hq5.rt (by omega)).symm)
          have hrs : RowS w4.heap.size (.slice A3 U.length c3) U X := World.ownsRow.kept hr3 hgX (.inr (own_ge hr3 (by omega)).symm)
          have hxX : Ext w X := hq5.ex.grown hgX hq5.hk
          rw [hX]
          clear hX k0 k1 kf hgX hr3 hq5 hxA hx4 hx5 hr2 hR
          have k0 : X.cell? ⟨K, 0, none⟩ = some (.slice Ad D.length cp) := hmX.cell 0
          have k1 : X.cell? ⟨K, 1, none⟩ = some (.slice A3 U.length c3) := hmX.cell 1
          have k2 : X.cell? ⟨K, 2, none⟩ = some (.int .i64 0) := hmX.cell 2
          have g0 : X.cell? ⟨w.heap.size + 1 + 1, 0, none⟩ = some (.slice none 0 0) := hRX.cell 0
          have g1 : X.cell? ⟨w.heap.size + 1 + 1, 1, none⟩ = some (.slice none 0 0) := hRX.cell 1
          have g2 : X.cell? ⟨w.heap.size + 1 + 1, 2, none⟩ = some (.int .i64 0) := hRX.cell 2
          have f0 := hRX.frozen 0
          have f1 := hRX.frozen 1
          have f2 := hRX.frozen 2
          have hKR2 : w.heap.size + 1 + 1 < K := hKR
          by_cases hbig : 24 < D.length ∨ 40 < U.length
          · have H1 := Lib.hid (HBIG.out hbig)
            by_cases h24 : 24 < D.length
            · clear hbig
              go_wp2_with fail
              rw [H1.out.1, H1.out.2]
              exact runi_ret rfl (((hRX.set 0 (.slice none 0 0)).set 1 (.slice none 0 0)).set 2 (.int .i64 2)) (mins_nil _) (((hxX.setCell (by simp; omega) _).setCell (by simp; omega) _).setCell (by simp; omega) _)
            · have h40 : 40 < U.length := by omega
              clear hbig
              go_wp2_with fail
              rw [H1.out.1, H1.out.2]
              exact runi_ret rfl (((hRX.set 0 (.slice none 0 0)).set 1 (.slice none 0 0)).set 2 (.int .i64 2)) (mins_nil _) (((hxX.setCell (by simp; omega) _).setCell (by simp; omega) _).setCell (by simp; omega) _)
          · have H1 := Lib.hid (HOKK.out hbig)
            have h24 : ¬ 24 < D.length := by omega
            have h40 : ¬ 40 < U.length := by omega
            clear hbig
            go_wp2_with fail
            rw [H1.out.1, H1.out.2]
            have hgg : X.grownBy (((X.setCell ⟨w.heap.size + 1 + 1, 0, none⟩ (.slice Ad D.length cp)).setCell ⟨w.heap.size + 1 + 1, 1, none⟩ (.slice A3 U.length c3)).setCell ⟨w.heap.size + 1 + 1, 2, none⟩ (.int .i64 0)) (some (w.heap.size + 1 + 1)) := grown_set (grown_set (grown_set (World.grownBy.refl _ _) 0 _) 1 _) 2 _
            refine runi_ret rfl (((hRX.set 0 (.slice Ad D.length cp)).set 1 (.slice A3 U.length c3)).set 2 (.int .i64 0)) ⟨?_, ?_⟩ (((hxX.setCell (by simp; omega) _).setCell (by simp; omega) _).setCell (by simp; omega) _)
            · exact RowT.at_ (World.ownsRow.kept hrt hgg (.inr (own_ge hrt (by omega)).symm))
            · exact RowS.at_ (World.ownsRow.kept hrs hgg (.inr (own_ge hrs (by omega)).symm))
    · have h1 : or2 (chkE A) (chkE B) = chkE B := by unfold or2; rw [if_neg (by omega)]
      obtain ⟨hE, hX⟩ := uni_err h1 hcB
      rw [hE, hX]
      have hb : (chkE B != 0) = true := by simpa using hcB
      clear h1 hE hX hcB hcA
      go_enter Tryz.func7, Tryz.ntmps7
      go_wp2_with fail
      refine (RefCheck_any _ _ A _ (hA.ext (by repeat (first | exact Ext.refl _ | assumption | refine Ext.alloc ?_ _ | refine Ext.drew ?_ | refine Ext.drewN _ ?_ | refine Ext.trans ?_ (by assumption))))).mono ?_
      rw [HCA.out]
      rintro e w1 ⟨rfl, hx1⟩
      obtain ⟨_, q1, q2, hx, hzz⟩ := alloc3 hx1
      clear hx1
      have d2 : w1.cell? ⟨w.heap.size + 1, 0, none⟩ = some (.slice ac B.ts.length cc) := q1.cell 0
      have d3 : w1.cell? ⟨w.heap.size + 1, 1, none⟩ = some (.slice ad B.ss.length cd) := q1.cell 1
      go_wp2_with fail
      refine (RefCheck_any _ _ B _ (hB.ext hx)).mono ?_
      rintro e w2 ⟨rfl, hy⟩
      replace q2 := q2.ext hy
      replace hx := hx.trans hy
      have g0 : w2.cell? ⟨w.heap.size + 1 + 1, 0, none⟩ = some (.slice none 0 0) := q2.cell 0
      have g1 : w2.cell? ⟨w.heap.size + 1 + 1, 1, none⟩ = some (.slice none 0 0) := q2.cell 1
      have g2 : w2.cell? ⟨w.heap.size + 1 + 1, 2, none⟩ = some (.int .i64 0) := q2.cell 2
      have f0 := q2.frozen 0
      have f1 := q2.frozen 1
      have f2 := q2.frozen 2
      clear hy d2 d3
      go_wp2_with fail
      exact runi_ret rfl (((q2.set 0 (.slice none 0 0)).set 1 (.slice none 0 0)).set 2 (.int .i64 (chkE B))) (mins_nil _) (((hx.setCell (by simp; omega) _).setCell (by simp; omega) _).setCell (by simp; omega) _)
  · have h1 : or2 (chkE A) (chkE B) = chkE A := by unfold or2; rw [if_pos hcA]
    obtain ⟨hE, hX⟩ := uni_err h1 hcA
    rw [hE, hX]
    have hb : (chkE A != 0) = true := by simpa using hcA
    clear h1 hE hX hcA
    go_enter Tryz.func7, Tryz.ntmps7
    go_wp2_with fail
    refine (RefCheck_any _ _ A _ (hA.ext (by repeat (first | exact Ext.refl _ | assumption | refine Ext.alloc ?_ _ | refine Ext.drew ?_ | refine Ext.drewN _ ?_ | refine Ext.trans ?_ (by assumption))))).mono ?_
    rintro e w1 ⟨rfl, hx1⟩
    obtain ⟨_, _, q2, hx, hzz⟩ := alloc3 hx1
    clear hx1
    have g0 : w1.cell? ⟨w.heap.size + 1 + 1, 0, none⟩ = some (.slice none 0 0) := q2.cell 0
    have g1 : w1.cell? ⟨w.heap.size + 1 + 1, 1, none⟩ = some (.slice none 0 0) := q2.cell 1
    have g2 : w1.cell? ⟨w.heap.size + 1 + 1, 2, none⟩ = some (.int .i64 0) := q2.cell 2
    have f0 := q2.frozen 0
    have f1 := q2.frozen 1
    have f2 := q2.frozen 2
    go_wp2_with fail
    exact runi_ret rfl (((q2.set 0 (.slice none 0 0)).set 1 (.slice none 0 0)).set 2 (.int .i64 (chkE A))) (mins_nil _) (((hx.setCell (by simp; omega) _).setCell (by simp; omega) _).setCell (by simp; omega) _)
end Go.Proofs.YtejcmdoalhnpeaaGreatDoor
