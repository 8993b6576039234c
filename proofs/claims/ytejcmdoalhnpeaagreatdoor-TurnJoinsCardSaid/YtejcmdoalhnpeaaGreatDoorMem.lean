/- Plain laws: which integers are in a set; what next, end and Last are of them. No program in sight. -/
import Derived.Test.YtejcmdoalhnpeaaGreatDoorBest
namespace Go.Proofs.YtejcmdoalhnpeaaGreatDoor

theorem emod_of {a p q r : Int} (h : a = p * q + r) (h0 : 0 ≤ r) (h1 : r < p) : a % p = r := by
  rw [h, Int.add_comm, Int.add_mul_emod_self_left, Int.emod_eq_of_lt h0 h1]

/-- all turns, all spans of a set are valid -/
def OkT (S : Mn) : Prop := ∀ t ∈ S.ts, tnB t.p t.f t.l = true
def OkS (S : Mn) : Prop := ∀ s ∈ S.ss, spB s.lo s.hi = true
structure Ok (S : Mn) : Prop where
  t : OkT S
  s : OkS S
  lt : S.ts.length ≤ 24
  ls : S.ss.length ≤ 40
theorem Ok.of {S : Mn} (h : chkE S = 0) : Ok S := by
  unfold chkE at h
  split at h
  · cases h
  · rename_i h1
    split at h
    · cases h
    · rename_i h2
      simp only [Bool.or_eq_true, not_or, Bool.not_eq_true] at h2
      refine ⟨fun t ht => ?_, fun s hs => ?_, by omega, by omega⟩
      · have := h2.1; unfold badT at this; simp only [List.any_eq_false] at this; simpa using this t ht
      · have := h2.2; unfold badS at this; simp only [List.any_eq_false] at this; simpa using this s hs

/-- an integer is in a part; in a set -/
def ptIn (x : Pt) (n : Int) : Bool := if x.tag then tnIn x.t.p x.t.f x.t.l n else inB n x.s.lo x.s.hi
def mem (S : Mn) (n : Int) : Bool := S.ts.any (fun t => tnIn t.p t.f t.l n) || S.ss.any (fun s => inB n s.lo s.hi)
theorem mem_pts (S : Mn) (n : Int) : mem S n = (pts S).any (fun x => ptIn x n) := by
  simp only [mem, pts, List.any_append, List.any_map]
  rfl
def PtV (x : Pt) : Prop := (x.tag = true → tnB x.t.p x.t.f x.t.l = true) ∧ (x.tag = false → spB x.s.lo x.s.hi = true)
theorem Ok.pt {S : Mn} (h : Ok S) : ∀ x ∈ pts S, PtV x := by
  intro x hx
  simp only [pts, List.mem_append, List.mem_map] at hx
  rcases hx with ⟨t, h1, rfl⟩ | ⟨s, h1, rfl⟩
  · exact ⟨fun _ => h.t t h1, fun e => by cases e⟩
  · exact ⟨fun e => (by cases e), fun _ => h.s s h1⟩

/-- a turn, from an integer on -/
theorem tn_div {p f n : Int} (hp : 1 ≤ p) : n - f = p * ((n - f) / p) + (n - f) % p ∧ 0 ≤ (n - f) % p ∧ (n - f) % p < p :=
  ⟨by have := Int.emod_add_mul_ediv (n - f) p; omega, Int.emod_nonneg _ (by omega), Int.emod_lt_of_pos _ (by omega)⟩
theorem tnNext_spec {p f l n : Int} (hv : tnB p f l = true) : n ≤ tnNext p f l n ∧ tnNext p f l n ≤ n + p ∧ tnIn p f l (tnNext p f l n) = true ∧ ∀ k, n ≤ k → k < tnNext p f l n → tnIn p f l k = false := by
  obtain ⟨a1, a2, a3, a4, a5, a6⟩ := tnB_t hv
  obtain ⟨d1, d2, d3⟩ := tn_div (f := f) (n := n) a1
  unfold tnNext
  split
  · rename_i hl
    refine ⟨by omega, by omega, ?_, fun k h1 h2 => ?_⟩
    · unfold tnIn
      have : (n + p - (n - f) % p - f) % p = 0 := emod_of (q := (n - f) / p + 1) (by rw [Int.mul_add]; omega) (by omega) (by omega)
      rw [this]; simp; omega
    · unfold tnIn
      have : (k - f) % p = (n - f) % p + (k - n) := emod_of (q := (n - f) / p) (by omega) (by omega) (by omega)
      rw [this]; simp; omega
  · rename_i hl
    exact ⟨by omega, by omega, by unfold tnIn; simp; omega, fun k h1 h2 => by omega⟩
theorem tnEnd_spec {p f l n : Int} (hv : tnB p f l = true) (hi : tnIn p f l n = true) : (l = p → ∀ k, tnIn p f l k = true) ∧ (l ≠ p → n ≤ tnEnd p f l n ∧ tnEnd p f l n ≤ n + p ∧ (∀ k, n ≤ k → k ≤ tnEnd p f l n → tnIn p f l k = true)) := by
  obtain ⟨a1, a2, a3, a4, a5, a6⟩ := tnB_t hv
  obtain ⟨d1, d2, d3⟩ := tn_div (f := f) (n := n) a1
  have hi' : (n - f) % p < l := by simpa [tnIn] using hi
  refine ⟨fun e k => ?_, fun e => ?_⟩
  · have := Int.emod_lt_of_pos (k - f) (show 0 < p by omega)
    simp [tnIn]; omega
  · unfold tnEnd
    rw [if_neg e]
    refine ⟨by omega, by omega, fun k h1 h2 => ?_⟩
    unfold tnIn
    have : (k - f) % p = (n - f) % p + (k - n) := emod_of (q := (n - f) / p) (by omega) (by omega) (by omega)
    rw [this]; simp; omega
theorem tnLast_spec {p f l n : Int} (hv : tnB p f l = true) : tnLast p f l n ≤ n ∧ n - p ≤ tnLast p f l n ∧ tnIn p f l (tnLast p f l n) = true ∧ ∀ k, k ≤ n → tnLast p f l n < k → tnIn p f l k = false := by
  obtain ⟨a1, a2, a3, a4, a5, a6⟩ := tnB_t hv
  obtain ⟨d1, d2, d3⟩ := tn_div (f := f) (n := n) a1
  unfold tnLast
  split
  · rename_i hl
    refine ⟨by omega, by omega, ?_, fun k h1 h2 => ?_⟩
    · unfold tnIn
      have : (n - ((n - f) % p - l + 1) - f) % p = l - 1 := emod_of (q := (n - f) / p) (by omega) (by omega) (by omega)
      rw [this]; simp; omega
    · unfold tnIn
      have : (k - f) % p = (n - f) % p + (k - n) := emod_of (q := (n - f) / p) (by omega) (by omega) (by omega)
      rw [this]; simp; omega
  · rename_i hl
    exact ⟨by omega, by omega, by unfold tnIn; simp; omega, fun k h1 h2 => by omega⟩

/-- what next, end, Last tell of a part -/
def tlN (n : Int) (x : Pt) : Int := if x.tag then tnNext x.t.p x.t.f x.t.l n else spNext x.s.lo x.s.hi n
def tlE (n out : Int) (x : Pt) : Int := if x.tag then tellEndT x.t.p x.t.f x.t.l n out else tellEndS x.s.lo x.s.hi n out
def tlL (n : Int) (x : Pt) : Int := if x.tag then tnLast x.t.p x.t.f x.t.l n else spLast x.s.lo x.s.hi n
def nextF (S : Mn) (n : Int) : Int := bestF (tlN n) (fun a b => decide (a < b)) 1125899906842624 (pts S)
def endF (S : Mn) (out : Int) : Int := bestF (tlE (out + 1) out) (fun a b => decide (b < a)) out (pts S)
def lastF (S : Mn) (n : Int) : Int := bestF (tlL n) (fun a b => decide (b < a)) (-1125899906842624) (pts S)

theorem best_lt {α : Type} (tl : α → Int) (z : Int) (l : List α) : bestF tl (fun a b => decide (a < b)) z l ≤ z ∧ (∀ x ∈ l, bestF tl (fun a b => decide (a < b)) z l ≤ tl x) ∧ (bestF tl (fun a b => decide (a < b)) z l = z ∨ ∃ x ∈ l, bestF tl (fun a b => decide (a < b)) z l = tl x) := by
  induction l generalizing z with
  | nil => exact ⟨Int.le_refl _, fun x hx => by simp at hx, .inl rfl⟩
  | cons y l ih =>
    simp only [bestF, List.foldl_cons] at ih ⊢
    by_cases h : tl y < z
    · simp only [h, decide_true, if_true]
      obtain ⟨i1, i2, i3⟩ := ih (tl y)
      refine ⟨by omega, fun x hx => ?_, ?_⟩
      · rcases List.mem_cons.1 hx with rfl | hx
        · exact i1
        · exact i2 x hx
      · rcases i3 with i3 | ⟨x, hx, i3⟩
        · exact .inr ⟨y, List.mem_cons_self .., i3⟩
        · exact .inr ⟨x, List.mem_cons_of_mem _ hx, i3⟩
    · simp only [h, decide_false, Bool.false_eq_true, if_false]
      obtain ⟨i1, i2, i3⟩ := ih z
      refine ⟨i1, fun x hx => ?_, ?_⟩
      · rcases List.mem_cons.1 hx with rfl | hx
        · omega
        · exact i2 x hx
      · rcases i3 with i3 | ⟨x, hx, i3⟩
        · exact .inl i3
        · exact .inr ⟨x, List.mem_cons_of_mem _ hx, i3⟩
theorem best_gt {α : Type} (tl : α → Int) (z : Int) (l : List α) : z ≤ bestF tl (fun a b => decide (b < a)) z l ∧ (∀ x ∈ l, tl x ≤ bestF tl (fun a b => decide (b < a)) z l) ∧ (bestF tl (fun a b => decide (b < a)) z l = z ∨ ∃ x ∈ l, bestF tl (fun a b => decide (b < a)) z l = tl x) := by
  induction l generalizing z with
  | nil => exact ⟨Int.le_refl _, fun x hx => by simp at hx, .inl rfl⟩
  | cons y l ih =>
    simp only [bestF, List.foldl_cons] at ih ⊢
    by_cases h : z < tl y
    · simp only [h, decide_true, if_true]
      obtain ⟨i1, i2, i3⟩ := ih (tl y)
      refine ⟨by omega, fun x hx => ?_, ?_⟩
      · rcases List.mem_cons.1 hx with rfl | hx
        · exact i1
        · exact i2 x hx
      · rcases i3 with i3 | ⟨x, hx, i3⟩
        · exact .inr ⟨y, List.mem_cons_self .., i3⟩
        · exact .inr ⟨x, List.mem_cons_of_mem _ hx, i3⟩
    · simp only [h, decide_false, Bool.false_eq_true, if_false]
      obtain ⟨i1, i2, i3⟩ := ih z
      refine ⟨i1, fun x hx => ?_, ?_⟩
      · rcases List.mem_cons.1 hx with rfl | hx
        · omega
        · exact i2 x hx
      · rcases i3 with i3 | ⟨x, hx, i3⟩
        · exact .inl i3
        · exact .inr ⟨x, List.mem_cons_of_mem _ hx, i3⟩

/-- next: nothing of the set lies before it; it is in the set, unless it is far -/
theorem nextF_spec {S : Mn} (h : Ok S) (n : Int) (hn : n ≤ 1000000000000000) : n ≤ nextF S n ∧ nextF S n ≤ 1125899906842624 ∧ (∀ k, n ≤ k → k < nextF S n → mem S k = false) ∧ (nextF S n = 1125899906842624 ∨ mem S (nextF S n) = true ∧ nextF S n ≤ max (n + 40320) 1048576) := by
  obtain ⟨b1, b2, b3⟩ := best_lt (tlN n) 1125899906842624 (pts S)
  have hN : nextF S n = bestF (tlN n) (fun a b => decide (a < b)) 1125899906842624 (pts S) := rfl
  rw [← hN] at b1 b2 b3
  have hone : ∀ x ∈ pts S, n ≤ tlN n x ∧ (∀ k, n ≤ k → k < tlN n x → ptIn x k = false) ∧ (tlN n x = 1125899906842624 ∨ ptIn x (tlN n x) = true ∧ tlN n x ≤ max (n + 40320) 1048576) := by
    intro x hx
    obtain ⟨v1, v2⟩ := h.pt x hx
    obtain ⟨tag, t, s⟩ := x
    cases tag
    · have hs := spB_t (v2 rfl)
      simp only [tlN, ptIn, spNext, Bool.false_eq_true, if_false] at *
      split
      · exact ⟨by omega, fun k h1 h2 => by simp [inB]; omega, .inl rfl⟩
      · exact ⟨by omega, fun k h1 h2 => by simp [inB]; omega, .inr ⟨by simp [inB]; omega, by omega⟩⟩
    · have ht := tnNext_spec (n := n) (v1 rfl)
      have hb := tnB_t (v1 rfl)
      simp only [tlN, ptIn, if_true]
      simp only at ht hb
      exact ⟨ht.1, ht.2.2.2, .inr ⟨ht.2.2.1, by omega⟩⟩
  refine ⟨?_, b1, fun k h1 h2 => ?_, ?_⟩
  · rcases b3 with b3 | ⟨x, hx, b3⟩
    · omega
    · rw [b3]; exact (hone x hx).1
  · rw [mem_pts]
    simp only [List.any_eq_false]
    intro x hx
    have := (hone x hx).2.1 k h1 (by have := b2 x hx; omega)
    simp [this]
  · rcases b3 with b3 | ⟨x, hx, b3⟩
    · exact .inl b3
    · rcases (hone x hx).2.2 with e | ⟨e1, e2⟩
      · exact .inl (b3.trans e)
      · refine .inr ⟨?_, by omega⟩
        rw [mem_pts, b3]
        exact List.any_eq_true.2 ⟨x, hx, e1⟩

theorem lastF_spec {S : Mn} (h : Ok S) (n : Int) (hn : -1000000000000000 ≤ n) : lastF S n ≤ n ∧ -1125899906842624 ≤ lastF S n ∧ (∀ k, k ≤ n → lastF S n < k → mem S k = false) ∧ (lastF S n = -1125899906842624 ∨ mem S (lastF S n) = true) := by
  obtain ⟨b1, b2, b3⟩ := best_gt (tlL n) (-1125899906842624) (pts S)
  have hN : lastF S n = bestF (tlL n) (fun a b => decide (b < a)) (-1125899906842624) (pts S) := rfl
  rw [← hN] at b1 b2 b3
  have hone : ∀ x ∈ pts S, tlL n x ≤ n ∧ (∀ k, k ≤ n → tlL n x < k → ptIn x k = false) ∧ (tlL n x = -1125899906842624 ∨ ptIn x (tlL n x) = true) := by
    intro x hx
    obtain ⟨v1, v2⟩ := h.pt x hx
    obtain ⟨tag, t, s⟩ := x
    cases tag
    · have hs := spB_t (v2 rfl)
      simp only [tlL, ptIn, spLast, Bool.false_eq_true, if_false] at *
      split
      · exact ⟨by omega, fun k h1 h2 => by simp [inB]; omega, .inl rfl⟩
      · exact ⟨by omega, fun k h1 h2 => by simp [inB]; omega, .inr (by simp [inB]; omega)⟩
    · have ht := tnLast_spec (n := n) (v1 rfl)
      simp only [tlL, ptIn, if_true]
      simp only at ht
      exact ⟨ht.1, ht.2.2.2, .inr ht.2.2.1⟩
  refine ⟨?_, b1, fun k h1 h2 => ?_, ?_⟩
  · rcases b3 with b3 | ⟨x, hx, b3⟩
    · omega
    · rw [b3]; exact (hone x hx).1
  · rw [mem_pts]
    simp only [List.any_eq_false]
    intro x hx
    have := (hone x hx).2.1 k h1 (by have := b2 x hx; omega)
    simp [this]
  · rcases b3 with b3 | ⟨x, hx, b3⟩
    · exact .inl b3
    · rcases (hone x hx).2.2 with e | e1
      · exact .inl (b3.trans e)
      · refine .inr ?_
        rw [mem_pts, b3]
        exact List.any_eq_true.2 ⟨x, hx, e1⟩

/-- one step of end: all up to it is in the set; if it does not grow, the next one is not -/
theorem endF_spec {S : Mn} (h : Ok S) (out : Int) : out ≤ endF S out ∧ (∀ k, out < k → k ≤ endF S out → mem S k = true) ∧ (endF S out = out → out < 1000000000000000 → mem S (out + 1) = false) := by
  obtain ⟨b1, b2, b3⟩ := best_gt (tlE (out + 1) out) out (pts S)
  have hN : endF S out = bestF (tlE (out + 1) out) (fun a b => decide (b < a)) out (pts S) := rfl
  rw [← hN] at b1 b2 b3
  have hone : ∀ x ∈ pts S, (∀ k, out < k → k ≤ tlE (out + 1) out x → ptIn x k = true) ∧ (tlE (out + 1) out x ≤ out → out < 1000000000000000 → ptIn x (out + 1) = false) := by
    intro x hx
    obtain ⟨v1, v2⟩ := h.pt x hx
    obtain ⟨tag, t, s⟩ := x
    cases tag
    · have hs := spB_t (v2 rfl)
      simp only [tlE, ptIn, tellEndS, Bool.false_eq_true, if_false] at *
      split
      · rename_i hi
        have := inB_t hi
        exact ⟨fun k h1 h2 => by simp [inB]; omega, fun h1 _ => by omega⟩
      · rename_i hi
        exact ⟨fun k h1 h2 => by omega, fun _ _ => by simpa using hi⟩
    · have hb := tnB_t (v1 rfl)
      simp only [tlE, ptIn, tellEndT, if_true]
      simp only at hb
      split
      · rename_i hi
        obtain ⟨e1, e2⟩ := tnEnd_spec (p := t.p) (f := t.f) (l := t.l) (n := out + 1) (v1 rfl) hi
        by_cases e : t.l = t.p
        · exact ⟨fun k _ _ => e1 e k, fun h1 h2 => by simp only [tnEnd, e, if_true] at h1; omega⟩
        · have := e2 e
          exact ⟨fun k h1 h2 => this.2.2 k (by omega) h2, fun h1 _ => by omega⟩
      · rename_i hi
        exact ⟨fun k h1 h2 => by omega, fun _ _ => by simpa using hi⟩
  refine ⟨b1, fun k h1 h2 => ?_, fun e hb => ?_⟩
  · rcases b3 with b3 | ⟨x, hx, b3⟩
    · omega
    · rw [mem_pts]
      exact List.any_eq_true.2 ⟨x, hx, (hone x hx).1 k h1 (by omega)⟩
  · rw [mem_pts]
    simp only [List.any_eq_false]
    intro x hx
    have := (hone x hx).2 (by have := b2 x hx; omega) hb
    simp [this]

/-- the last integer of the run in which one lies, up to a limit; one less if it lies in none -/
def runE (S : Mn) (limit : Int) : Nat → Int → Int
  | 0, n => n - 1
  | k + 1, n => if n ≤ limit ∧ mem S n = true then runE S limit k (n + 1) else n - 1
def runEnd (S : Mn) (n limit : Int) : Int := runE S limit (limit + 1 - n).toNat n
theorem runE_eq {S : Mn} {limit : Int} (k : Nat) : ∀ n e, n - 1 ≤ e → e ≤ limit → (∀ i, n ≤ i → i ≤ e → mem S i = true) → (e = limit ∨ mem S (e + 1) = false) → k = (limit + 1 - n).toNat → runE S limit k n = e := by
  induction k with
  | zero => intro n e h1 h2 _ _ hk; simp only [runE]; omega
  | succ k ih =>
    intro n e h1 h2 h3 h4 hk
    simp only [runE]
    by_cases hm : n ≤ e
    · rw [if_pos ⟨by omega, h3 n (by omega) hm⟩]
      exact ih (n + 1) e (by omega) h2 (fun i hi => h3 i (by omega)) h4 (by omega)
    · have : e = n - 1 := by omega
      subst this
      rcases h4 with h4 | h4
      · omega
      · rw [if_neg (by rw [show n - 1 + 1 = n from by omega] at h4; simp [h4])]
theorem runEnd_eq {S : Mn} {n limit e : Int} (h1 : n - 1 ≤ e) (h2 : e ≤ limit) (h3 : ∀ i, n ≤ i → i ≤ e → mem S i = true) (h4 : e = limit ∨ mem S (e + 1) = false) : runEnd S n limit = e :=
  runE_eq _ n e h1 h2 h3 h4 rfl
theorem runE_spec {S : Mn} {limit : Int} (k : Nat) : ∀ n, n ≤ limit + 1 → k = (limit + 1 - n).toNat → n - 1 ≤ runE S limit k n ∧ runE S limit k n ≤ limit ∧ (∀ i, n ≤ i → i ≤ runE S limit k n → mem S i = true) ∧ (runE S limit k n = limit ∨ mem S (runE S limit k n + 1) = false) := by
  induction k with
  | zero => intro n hn hk; simp only [runE]; exact ⟨by omega, by omega, fun i h1 h2 => by omega, .inl (by omega)⟩
  | succ k ih =>
    intro n hn hk
    simp only [runE]
    split
    · rename_i h
      obtain ⟨i1, i2, i3, i4⟩ := ih (n + 1) (by omega) (by omega)
      refine ⟨by omega, i2, fun i h1 h2 => ?_, i4⟩
      by_cases e : i = n
      · rw [e]; exact h.2
      · exact i3 i (by omega) h2
    · rename_i h
      refine ⟨by omega, by omega, fun i h1 h2 => by omega, .inr ?_⟩
      rw [show n - 1 + 1 = n from by omega]
      simp only [not_and, Bool.not_eq_true] at h
      exact h (by omega)
theorem runEnd_spec {S : Mn} {n limit : Int} (h : n ≤ limit + 1) : n - 1 ≤ runEnd S n limit ∧ runEnd S n limit ≤ limit ∧ (∀ i, n ≤ i → i ≤ runEnd S n limit → mem S i = true) ∧ (runEnd S n limit = limit ∨ mem S (runEnd S n limit + 1) = false) :=
  runE_spec _ n h rfl

end Go.Proofs.YtejcmdoalhnpeaaGreatDoor
