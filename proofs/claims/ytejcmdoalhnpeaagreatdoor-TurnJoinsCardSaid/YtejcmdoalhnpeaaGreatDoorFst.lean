/- Plain laws of the least integer that is in two turns. No program in sight. -/
import Derived.Test.YtejcmdoalhnpeaaGreatDoorOft
namespace Go.Proofs.YtejcmdoalhnpeaaGreatDoor

theorem comB_t {p f l q g k n : Int} (h : comB p f l q g k n = true) : tnIn p f l n = true ∧ tnIn q g k n = true := by simpa [comB] using h
theorem firstN_of {p f l q g k n : Int} (hp : 1 ≤ p) (hp2 : p ≤ 40320) (hq : 1 ≤ q) (hq2 : q ≤ 40320) (h0 : 0 ≤ n) (hc : comB p f l q g k n = true) (hm : ∀ N, 0 ≤ N → comB p f l q g k N = true → n ≤ N) : firstN p f l q g k = some n.toNat := by
  have hL := lcmI_le hp hp2 hq hq2
  have h1 := Int.emod_nonneg n (show lcmI p q ≠ 0 by omega)
  have h2 := Int.emod_lt_of_pos n (show 0 < lcmI p q by omega)
  have h3 := hm _ h1 (by rw [comB_mod hp hq]; exact hc)
  unfold firstN
  rw [List.find?_range_eq_some]
  refine ⟨by rw [Int.toNat_of_nonneg h0]; exact hc, List.mem_range.2 (by omega), fun j hj => ?_⟩
  cases hx : comB p f l q g k (j : Nat)
  · rfl
  · have := hm j (by omega) hx; omega
theorem firstN_min {p f l q g k : Int} {n : Nat} (h : firstN p f l q g k = some n) {N : Int} (h0 : 0 ≤ N) (hc : comB p f l q g k N = true) : (n : Int) ≤ N := by
  obtain ⟨_, _, h3⟩ := firstN_some h
  by_cases hlt : (n : Int) ≤ N
  · exact hlt
  · have := h3 N.toNat (by omega)
    rw [Int.toNat_of_nonneg h0, hc] at this
    cases this
theorem tnEnd_all {p f l n m : Int} (hv : tnB p f l = true) (hi : tnIn p f l n = true) (h1 : n ≤ m) (h2 : m ≤ tnEnd p f l n) : tnIn p f l m = true := by
  obtain ⟨e1, e2⟩ := tnEnd_spec hv hi
  by_cases e : l = p
  · exact e1 e m
  · exact (e2 e).2.2 m h1 h2
theorem tnEnd_ge {p f l n : Int} (hv : tnB p f l = true) (hi : tnIn p f l n = true) (hn : n ≤ 1125899906842624) : n ≤ tnEnd p f l n := by
  obtain ⟨e1, e2⟩ := tnEnd_spec hv hi
  by_cases e : l = p
  · unfold tnEnd; rw [if_pos e]; exact hn
  · exact (e2 e).1
theorem tnNext_le {p f l n m : Int} (hv : tnB p f l = true) (h1 : n ≤ m) (hm : tnIn p f l m = true) : tnNext p f l n ≤ m := by
  obtain ⟨s1, s2, s3, s4⟩ := tnNext_spec (n := n) hv
  by_cases h : tnNext p f l n ≤ m
  · exact h
  · have := s4 m h1 (by omega); rw [hm] at this; cases this
/-- one round of the program's search: found, or all up to the end of the run is behind -/
theorem first_round {p f l q g k n : Int} {N0 : Nat} (hv : tnB p f l = true) (hv2 : tnB q g k = true) (hF : firstN p f l q g k = some N0) (h0 : 0 ≤ n) (h1 : n ≤ N0) :
    n ≤ tnNext p f l n ∧ tnNext p f l n ≤ N0 ∧ tnNext p f l n ≤ tnEnd p f l (tnNext p f l n) ∧ tnNext q g k (tnNext p f l n) ≤ N0 ∧
    (tnNext q g k (tnNext p f l n) ≤ tnEnd p f l (tnNext p f l n) → tnNext q g k (tnNext p f l n) = N0) ∧
    (tnEnd p f l (tnNext p f l n) < tnNext q g k (tnNext p f l n) → tnEnd p f l (tnNext p f l n) < N0) := by
  obtain ⟨a1, a2, a3, a4, a5, a6⟩ := tnB_t hv
  obtain ⟨c1, c2, c3, c4, c5, c6⟩ := tnB_t hv2
  obtain ⟨f1, f2, f3⟩ := firstN_some hF
  obtain ⟨i1, i2⟩ := comB_t f1
  have hL := lcmI_le a1 a2 c1 c2
  obtain ⟨s1, s2, s3, s4⟩ := tnNext_spec (n := n) hv
  have hn1 := tnNext_le hv h1 i1
  obtain ⟨u1, u2, u3, u4⟩ := tnNext_spec (n := tnNext p f l n) hv2
  have hn2 := tnNext_le hv2 hn1 i2
  refine ⟨s1, hn1, tnEnd_ge hv s3 (by omega), hn2, fun h => ?_, fun h => by omega⟩
  have hin := tnEnd_all hv s3 u1 h
  have := firstN_min hF (N := tnNext q g k (tnNext p f l n)) (by omega) (by simp [comB, hin, u3])
  omega
/-- one round of the specification's: occurrence i -/
theorem occ_in {p f l m : Int} (hv : tnB p f l = true) (i : Int) (h1 : f + i * p ≤ m) (h2 : m ≤ f + i * p + l - 1) : tnIn p f l m = true := by
  obtain ⟨a1, a2, a3, a4, a5, a6⟩ := tnB_t hv
  unfold tnIn
  rw [show (m - f) % p = m - f - i * p from emod_of (q := i) (by rw [Int.mul_comm]; omega) (by omega) (by omega), decide_eq_true_eq]
  omega
theorem occ_next {p f l m : Int} (hv : tnB p f l = true) (i : Int) (h : tnIn p f l m = true) (h1 : f + (i - 1) * p + l ≤ m) : f + i * p ≤ m := by
  obtain ⟨a1, a2, a3, a4, a5, a6⟩ := tnB_t hv
  by_cases hc : f + i * p ≤ m
  · exact hc
  · simp only [tnIn, decide_eq_true_eq] at h
    have e : (i - 1) * p = i * p - p := by rw [Int.sub_mul, Int.one_mul]
    rw [e] at h1
    rw [show (m - f) % p = m - f - (i - 1) * p from emod_of (q := i - 1) (by rw [Int.mul_comm]; omega) (by rw [e]; omega) (by rw [e]; omega), e] at h
    omega
/-- all common integers from 0 on lie behind the occurrences before i -/
def Behind (p f l q g k i : Int) : Prop := ∀ N, 0 ≤ N → comB p f l q g k N = true → f + (i - 1) * p + l ≤ N
theorem behind_first {p f l q g k : Int} (hv : tnB p f l = true) : Behind p f l q g k (-1) := by
  obtain ⟨a1, a2, a3, a4, a5, a6⟩ := tnB_t hv
  intro N h0 _
  have : (-1 - 1) * p = -2 * p := rfl
  rw [this]; omega
theorem ref_round {p f l q g k i : Int} (hv : tnB p f l = true) (hv2 : tnB q g k = true) (hB : Behind p f l q g k i) :
    (tnNext q g k (max 0 (f + i * p)) ≤ f + i * p + l - 1 → firstN p f l q g k = some (tnNext q g k (max 0 (f + i * p))).toNat ∧ 0 ≤ tnNext q g k (max 0 (f + i * p))) ∧
    (f + i * p + l - 1 < tnNext q g k (max 0 (f + i * p)) → Behind p f l q g k (i + 1)) := by
  obtain ⟨a1, a2, a3, a4, a5, a6⟩ := tnB_t hv
  obtain ⟨c1, c2, c3, c4, c5, c6⟩ := tnB_t hv2
  obtain ⟨u1, u2, u3, u4⟩ := tnNext_spec (n := max 0 (f + i * p)) hv2
  have hmin : ∀ N, 0 ≤ N → comB p f l q g k N = true → tnNext q g k (max 0 (f + i * p)) ≤ N := by
    intro N h0 hc
    have h1 := occ_next hv i (comB_t hc).1 (hB N h0 hc)
    exact tnNext_le hv2 (by omega) (comB_t hc).2
  constructor
  · intro h
    refine ⟨firstN_of a1 a2 c1 c2 (by omega) ?_ hmin, by omega⟩
    have := occ_in hv i (show f + i * p ≤ tnNext q g k (max 0 (f + i * p)) by omega) h
    simp [comB, this, u3]
  · intro h N h0 hc
    have := hmin N h0 hc
    rw [show i + 1 - 1 = i from by omega]
    omega
theorem ref_none {p f l q g k i : Int} (hv : tnB p f l = true) (hB : Behind p f l q g k i) (hi : lcmI p q ≤ (i - 1) * p) : firstN p f l q g k = none := by
  obtain ⟨a1, a2, a3, a4, a5, a6⟩ := tnB_t hv
  cases hF : firstN p f l q g k with
  | none => rfl
  | some n =>
    obtain ⟨f1, f2, _⟩ := firstN_some hF
    have := hB n (by omega) f1
    omega

/-- what First returns -/
def firstX (p f l q g k : Int) : Int := if pairE p f l q g k = 0 then (match firstN p f l q g k with | some n => (n : Int) | none => 0) else 0
def firstE (p f l q g k : Int) : Int := if pairE p f l q g k = 0 then (if (firstN p f l q g k).isSome then 0 else 5) else pairE p f l q g k
theorem pair_ok {p f l q g k : Int} (h : pairE p f l q g k = 0) : tnB p f l = true ∧ tnB q g k = true := by
  unfold pairE at h
  split at h
  · rename_i h1; simpa using h1
  · cases h

end Go.Proofs.YtejcmdoalhnpeaaGreatDoor
