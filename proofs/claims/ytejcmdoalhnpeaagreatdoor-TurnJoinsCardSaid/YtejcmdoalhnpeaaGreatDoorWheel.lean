/- The wheel of a set of turns: the least common multiple of all periods, and which integers of it are in the set; its least period. Plain laws. -/
import Derived.Test.YtejcmdoalhnpeaaGreatDoorApt
namespace Go.Proofs.YtejcmdoalhnpeaaGreatDoor

/-- the least common multiple of all periods -/
def allL (ts : List Tn) : Int := ts.foldl (fun a t => lcmI a t.p) 1
theorem allL_snoc (ts : List Tn) (t : Tn) : allL (ts ++ [t]) = lcmI (allL ts) t.p := by simp [allL]
theorem lcmI_ge {p q : Int} (hp : 1 ≤ p) (hq : 1 ≤ q) : p ≤ lcmI p q ∧ (∃ c, lcmI p q = p * c) ∧ ∃ d, lcmI p q = q * d := by
  obtain ⟨c, d, h1, h2, h3, h4, _, _⟩ := lcmI_spec hp hq
  refine ⟨?_, ⟨c, h1⟩, ⟨d, h2⟩⟩
  rw [h1]
  have := Int.mul_le_mul_of_nonneg_left h3 (show 0 ≤ p by omega)
  omega
theorem allL_from (ts : List Tn) (h : ∀ t ∈ ts, 1 ≤ t.p) : ∀ z : Int, 1 ≤ z → z ≤ ts.foldl (fun a t => lcmI a t.p) z ∧ (∃ c, ts.foldl (fun a t => lcmI a t.p) z = z * c) ∧ ∀ t ∈ ts, ∃ c, ts.foldl (fun a t => lcmI a t.p) z = t.p * c := by
  induction ts with
  | nil => intro z hz; exact ⟨Int.le_refl _, ⟨1, by simp⟩, fun t ht => by simp at ht⟩
  | cons t ts ih =>
    intro z hz
    obtain ⟨g1, ⟨c, g2⟩, ⟨d, g3⟩⟩ := lcmI_ge hz (h t (List.mem_cons_self ..))
    obtain ⟨i1, ⟨e, i2⟩, i3⟩ := ih (fun u hu => h u (List.mem_cons_of_mem _ hu)) (lcmI z t.p) (by omega)
    simp only [List.foldl_cons]
    refine ⟨by omega, ⟨c * e, by rw [i2, g2, Int.mul_assoc]⟩, fun u hu => ?_⟩
    rcases List.mem_cons.1 hu with rfl | hu
    · exact ⟨d * e, by rw [i2, g3, Int.mul_assoc]⟩
    · exact i3 u hu
theorem allL_pos {ts : List Tn} (h : ∀ t ∈ ts, 1 ≤ t.p) : 1 ≤ allL ts := (allL_from ts h 1 (by omega)).1
theorem allL_dvd {ts : List Tn} (h : ∀ t ∈ ts, 1 ≤ t.p) : ∀ t ∈ ts, ∃ c, allL ts = t.p * c := (allL_from ts h 1 (by omega)).2.2
theorem allL_take {ts : List Tn} (h : ∀ t ∈ ts, 1 ≤ t.p) (j : Nat) : allL (ts.take j) ≤ allL ts := by
  have h1 : allL ts = (ts.drop j).foldl (fun a t => lcmI a t.p) (allL (ts.take j)) := by
    unfold allL
    rw [← List.foldl_append, List.take_append_drop]
  have h2 := (allL_from (ts.drop j) (fun t ht => h t (List.mem_of_mem_drop ht)) (allL (ts.take j)) (allL_pos (fun t ht => h t (List.mem_of_mem_take ht)))).1
  omega

/-- a row of so many bools -/
def bools (F : Nat → Bool) (L : Nat) : Array Value := ((List.range L).map (fun i => Value.bool (F i))).toArray
theorem bools_size (F : Nat → Bool) (L : Nat) : (bools F L).size = L := by simp [bools]
theorem bools_get {F : Nat → Bool} {L i : Nat} (h : i < L) : (bools F L)[i]? = some (.bool (F i)) := by simp [bools, h]
theorem bools_get? (F : Nat → Bool) (L i : Nat) : (bools F L)[i]? = if i < L then some (.bool (F i)) else none := by
  by_cases h : i < L <;> simp [bools, h]
theorem bools_set {F : Nat → Bool} {L i : Nat} : (bools F L).setIfInBounds i (.bool true) = bools (fun j => F j || j == i) L := by
  apply Array.ext_getElem?
  intro j
  rw [Array.getElem?_setIfInBounds, bools_get?, bools_get?, bools_size]
  by_cases e : i = j
  · subst e
    by_cases h : i < L <;> simp [h]
  · rw [if_neg e]
    have : (j == i) = false := by rw [beq_eq_false_iff_ne]; omega
    simp [this]
theorem bools_congr {F G : Nat → Bool} {L : Nat} (h : ∀ i, i < L → F i = G i) : bools F L = bools G L := by
  unfold bools
  congr 1
  apply List.map_congr_left
  intro i hi
  rw [h i (by simpa using hi)]
/-- which integers the first c occurrences of a turn hit -/
def hitK (f p L : Int) (c : Int) (k : Nat) (i : Nat) : Bool := (List.range k).any (fun j => (f + c * p + j) % L == (i : Int))
def hitC (p f l L : Int) (c : Nat) (i : Nat) : Bool := (List.range c).any (fun d => hitK f p L d l.toNat i)
theorem hitK_succ (f p L c : Int) (k i : Nat) : hitK f p L c (k + 1) i = (hitK f p L c k i || (f + c * p + k) % L == (i : Int)) := by
  simp [hitK, List.range_succ]
theorem hitC_succ (p f l L : Int) (c i : Nat) : hitC p f l L (c + 1) i = (hitC p f l L c i || hitK f p L c l.toNat i) := by
  simp [hitC, List.range_succ]
theorem hit_all {p f l L : Int} {C : Nat} (hv : tnB p f l = true) (hL : L = p * C) (hC : 1 ≤ C) (i : Nat) (hi : (i : Int) < L) : hitC p f l L C i = tnIn p f l i := by
  obtain ⟨a1, a2, a3, a4, a5, a6⟩ := tnB_t hv
  rw [Bool.eq_iff_iff]
  simp only [hitC, hitK, List.any_eq_true, List.mem_range, beq_iff_eq, tnIn, decide_eq_true_eq]
  have hL0 : 0 < L := by rw [hL]; exact Int.mul_pos (by omega) (by omega)
  constructor
  · rintro ⟨c, hc, k, hk, h⟩
    have e := Int.emod_add_mul_ediv (f + c * p + k) L
    rw [h, hL] at e
    have e2 : (i : Int) - f = p * (c - C * ((f + c * p + k) / (p * C))) + k := by
      rw [Int.mul_sub, ← Int.mul_assoc, Int.mul_comm p c]
      omega
    rw [e2, Int.add_comm, Int.add_mul_emod_self_left, Int.emod_eq_of_lt (by omega) (by omega)]
    omega
  · intro h
    obtain ⟨d1, d2, d3⟩ := tn_div (f := f) (n := i) a1
    have hC0 : (0 : Int) < C := by omega
    have m1 := Int.emod_nonneg (((i : Int) - f) / p) (show (C : Int) ≠ 0 by omega)
    have m2 := Int.emod_lt_of_pos (((i : Int) - f) / p) hC0
    have m3 := Int.emod_add_mul_ediv (((i : Int) - f) / p) C
    refine ⟨((((i : Int) - f) / p) % C).toNat, by omega, ((i - f) % p).toNat, by omega, ?_⟩
    rw [Int.toNat_of_nonneg m1, Int.toNat_of_nonneg d2]
    have e : f + ((i : Int) - f) / p % C * p + ((i : Int) - f) % p = i + L * (-(((i : Int) - f) / p / C)) := by
      rw [hL, Int.mul_neg, Int.mul_assoc]
      have m4 : ((i : Int) - f) / p % C = ((i : Int) - f) / p - C * (((i : Int) - f) / p / C) := by omega
      rw [m4, Int.sub_mul, Int.mul_comm (((i : Int) - f) / p) p, Int.mul_comm ((C : Int) * _) p]
      omega
    rw [e, Int.add_mul_emod_self_left, Int.emod_eq_of_lt (by omega) hi]

/-- what wheel returns -/
def whlE (S : Mn) : Int := if chkE S ≠ 0 then chkE S else if 0 < S.ss.length ∨ S.ts.length = 0 then 1 else if 40320 < allL S.ts then 2 else 0
theorem whl_ok {S : Mn} (h : whlE S = 0) : Ok S ∧ S.ss = [] ∧ 0 < S.ts.length ∧ 1 ≤ allL S.ts ∧ allL S.ts ≤ 40320 := by
  unfold whlE at h
  split at h
  · rename_i h1; exact absurd h h1
  · rename_i h1
    split at h
    · cases h
    · rename_i h2
      split at h
      · cases h
      · rename_i h3
        have hok : Ok S := by
          refine (@ask_ok S 0 ?_).1
          unfold askE
          rw [if_neg h1, if_pos (by decide)]
        exact ⟨hok, List.eq_nil_of_length_eq_zero (by omega), by omega, allL_pos (fun t ht => (tnB_t (hok.t t ht)).1), by omega⟩
/-- the least period of a row -/
def perB (F : Nat → Bool) (L p : Nat) : Bool := decide (L % p = 0) && (List.range (L - p)).all (fun i => F (i + p) == F i)
def perN (F : Nat → Bool) (L : Nat) : Option Nat := (List.range L).find? (fun i => perB F L (i + 1))
theorem perB_all (F : Nat → Bool) (L : Nat) : perB F L L = true := by simp [perB]
theorem perN_some {F : Nat → Bool} {L : Nat} (h : 1 ≤ L) : ∃ i, perN F L = some i ∧ i < L := by
  cases e : perN F L with
  | some i =>
    refine ⟨i, rfl, ?_⟩
    have := List.mem_of_find?_eq_some e
    simpa using this
  | none =>
    exfalso
    unfold perN at e
    rw [List.find?_eq_none] at e
    have := e (L - 1) (by simp; omega)
    rw [show L - 1 + 1 = L from by omega, perB_all] at this
    exact this rfl
theorem perN_hit {F : Nat → Bool} {L i : Nat} (h : i < L) (h1 : perB F L (i + 1) = true) (h2 : ∀ j, j < i → perB F L (j + 1) = false) : perN F L = some i := by
  unfold perN
  rw [List.find?_range_eq_some]
  exact ⟨h1, by simpa using h, fun j hj => by simp [h2 j hj]⟩
/-- which integers of the wheel are in the set -/
def whlF (S : Mn) (i : Nat) : Bool := S.ts.any (fun t => tnIn t.p t.f t.l i)
def perX (S : Mn) : Int := if whlE S = 0 then (match perN (whlF S) (allL S.ts).toNat with | some i => (i : Int) + 1 | none => 0) else 0

end Go.Proofs.YtejcmdoalhnpeaaGreatDoor
