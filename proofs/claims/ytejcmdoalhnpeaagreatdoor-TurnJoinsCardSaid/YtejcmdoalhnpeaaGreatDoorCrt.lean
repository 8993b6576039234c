/- Plain laws of two turns: the Chinese remainder for two periods by their greatest common divisor; the least integer that is in both. No program in sight. -/
import Derived.Test.YtejcmdoalhnpeaaGreatDoorApart
namespace Go.Proofs.YtejcmdoalhnpeaaGreatDoor

/-- an integer is in both turns -/
def comB (p f l q g k n : Int) : Bool := tnIn p f l n && tnIn q g k n
def lcmI (p q : Int) : Int := p / gcdI p q * q

theorem emod_le {x m : Int} (hx : 0 ≤ x) (hm : 1 ≤ m) : x % m ≤ x := by
  have h1 := Int.emod_add_mul_ediv x m
  have h2 := Int.mul_nonneg (show 0 ≤ m by omega) (Int.ediv_nonneg hx (show 0 ≤ m by omega))
  omega
theorem bez (a : Nat) : ∀ b : Nat, ∃ u v : Int, u * a + v * b = (Nat.gcd a b : Nat) := by
  induction a using Nat.strongRecOn with
  | _ a ih =>
    intro b
    by_cases h : a = 0
    · subst h; exact ⟨0, 1, by simp⟩
    · obtain ⟨u, v, e⟩ := ih (b % a) (Nat.mod_lt _ (by omega)) a
      refine ⟨v - u * (b / a : Nat), u, ?_⟩
      rw [Nat.gcd_rec a b, ← e]
      have hb : (b : Int) = a * (b / a : Nat) + (b % a : Nat) := by
        have := Nat.div_add_mod b a
        exact_mod_cast this.symm
      have h1 : u * (b : Int) = u * (a * (b / a : Nat)) + u * (b % a : Nat) := by rw [← Int.mul_add, ← hb]
      rw [Int.sub_mul, h1, Int.mul_assoc, Int.mul_comm ((b / a : Nat) : Int) (a : Int)]
      omega
theorem gcdI_pos {p q : Int} (hp : 1 ≤ p) : 1 ≤ gcdI p q := by
  unfold gcdI
  have := Nat.gcd_pos_of_pos_left q.toNat (show 0 < p.toNat by omega)
  omega
theorem gcdI_left {p q : Int} (hp : 0 ≤ p) : ∃ c, p = gcdI p q * c := by
  obtain ⟨c, hc⟩ := Nat.gcd_dvd_left p.toNat q.toNat
  exact ⟨c, by unfold gcdI; rw [← Int.natCast_mul, ← hc]; omega⟩
theorem gcdI_right {p q : Int} (hq : 0 ≤ q) : ∃ c, q = gcdI p q * c := by
  obtain ⟨c, hc⟩ := Nat.gcd_dvd_right p.toNat q.toNat
  exact ⟨c, by unfold gcdI; rw [← Int.natCast_mul, ← hc]; omega⟩
theorem gcdI_bez {p q : Int} (hp : 0 ≤ p) (hq : 0 ≤ q) : ∃ u v, u * p + v * q = gcdI p q := by
  obtain ⟨u, v, e⟩ := bez p.toNat q.toNat
  rw [Int.toNat_of_nonneg hp, Int.toNat_of_nonneg hq] at e
  exact ⟨u, v, e⟩
theorem gcdI_le {p q : Int} (hp : 1 ≤ p) (hq : 1 ≤ q) : gcdI p q ≤ p ∧ gcdI p q ≤ q := by
  unfold gcdI
  have h1 := Nat.le_of_dvd (show 0 < p.toNat by omega) (Nat.gcd_dvd_left p.toNat q.toNat)
  have h2 := Nat.le_of_dvd (show 0 < q.toNat by omega) (Nat.gcd_dvd_right p.toNat q.toNat)
  omega
/-- the least common multiple: a multiple of both -/
theorem lcmI_spec {p q : Int} (hp : 1 ≤ p) (hq : 1 ≤ q) : ∃ c d, lcmI p q = p * c ∧ lcmI p q = q * d ∧ 1 ≤ c ∧ 1 ≤ d ∧ q = gcdI p q * c ∧ p = gcdI p q * d := by
  obtain ⟨d, hd⟩ := gcdI_left (q := q) (show 0 ≤ p by omega)
  obtain ⟨c, hc⟩ := gcdI_right (p := p) (show 0 ≤ q by omega)
  have hg := gcdI_pos (q := q) hp
  have hpg : p / gcdI p q = d := Int.ediv_eq_of_eq_mul_right (by omega) hd
  have hpos : ∀ x y : Int, 1 ≤ x → x = gcdI p q * y → 1 ≤ y := by
    intro x y h1 h2
    by_cases h : 0 < y
    · omega
    · have := Int.mul_nonpos_of_nonneg_of_nonpos (show 0 ≤ gcdI p q by omega) (show y ≤ 0 by omega)
      omega
  have hd1 := hpos p d hp hd
  have hc1 := hpos q c hq hc
  refine ⟨c, d, ?_, ?_, hc1, hd1, hc, hd⟩
  · unfold lcmI
    rw [hpg]
    have h1 : d * q = d * (gcdI p q * c) := by rw [← hc]
    have h2 : d * (gcdI p q * c) = (gcdI p q * d) * c := by rw [← Int.mul_assoc, Int.mul_comm d]
    have h3 : (gcdI p q * d) * c = p * c := by rw [← hd]
    rw [h1, h2, h3]
  · unfold lcmI; rw [hpg, Int.mul_comm]
theorem lcmI_le {p q : Int} (hp : 1 ≤ p) (hp2 : p ≤ 40320) (hq : 1 ≤ q) (hq2 : q ≤ 40320) : 1 ≤ lcmI p q ∧ lcmI p q ≤ 1625702400 := by
  obtain ⟨c, d, h1, h2, h3, h4, h5, h6⟩ := lcmI_spec hp hq
  have hg := gcdI_pos (q := q) hp
  have hd : d ≤ p := by
    rw [h6]
    have := Int.mul_le_mul_of_nonneg_right hg (show 0 ≤ d by omega)
    omega
  have e1 : q * d ≤ 40320 * d := Int.mul_le_mul_of_nonneg_right hq2 (by omega)
  have e2 : 1 * d ≤ q * d := Int.mul_le_mul_of_nonneg_right hq (by omega)
  omega
/-- by multiples of the period nothing turns -/
theorem tnIn_add (p f l n c : Int) : tnIn p f l (n + p * c) = tnIn p f l n := by
  unfold tnIn
  rw [show n + p * c - f = (n - f) + p * c from by omega, Int.add_mul_emod_self_left]
theorem comB_add {p q : Int} (hp : 1 ≤ p) (hq : 1 ≤ q) (f l g k n c : Int) : comB p f l q g k (n + lcmI p q * c) = comB p f l q g k n := by
  obtain ⟨a, b, h1, h2, _⟩ := lcmI_spec hp hq
  unfold comB
  have e1 : n + lcmI p q * c = n + p * (a * c) := by rw [h1, Int.mul_assoc]
  have e2 : n + lcmI p q * c = n + q * (b * c) := by rw [h2, Int.mul_assoc]
  rw [show tnIn p f l (n + lcmI p q * c) = tnIn p f l n from by rw [e1, tnIn_add], show tnIn q g k (n + lcmI p q * c) = tnIn q g k n from by rw [e2, tnIn_add]]
theorem comB_mod {p q : Int} (hp : 1 ≤ p) (hq : 1 ≤ q) (f l g k n : Int) : comB p f l q g k (n % lcmI p q) = comB p f l q g k n := by
  have := comB_add hp hq f l g k (n % lcmI p q) (n / lcmI p q)
  rw [← this, Int.emod_add_mul_ediv]

theorem emod_dvd {x a c : Int} (_ha : 1 ≤ a) : x % (a * c) % a = x % a := Int.emod_emod_of_dvd x ⟨c, rfl⟩
/-- an integer of a turn has a remainder of the turn, by each divisor of the period -/
theorem tou_of_in {p f l n m : Int} (hm : 1 ≤ m) (hd : ∃ c, p = m * c) (hp : 1 ≤ p) (h : tnIn p f l n = true) : touB f l m (n % m) = true := by
  obtain ⟨c, hc⟩ := hd
  simp only [tnIn, touB, decide_eq_true_eq] at *
  have e1 : (n % m - f) % m = (n - f) % m := by rw [Int.emod_sub_emod]
  rw [e1]
  have e2 : (n - f) % p % m = (n - f) % m := by rw [hc]; exact emod_dvd hm
  have h0 := Int.emod_nonneg (n - f) (show p ≠ 0 by omega)
  have h2 := emod_le h0 hm
  omega
/-- the Chinese remainder: two integers that are alike by the greatest common divisor -/
theorem crt {p q x y : Int} (hp : 1 ≤ p) (hq : 1 ≤ q) (h : ∃ c, y - x = gcdI p q * c) : ∃ n a b, n = x + p * a ∧ n = y + q * b := by
  obtain ⟨c, hc⟩ := h
  obtain ⟨u, v, e⟩ := gcdI_bez (show 0 ≤ p by omega) (show 0 ≤ q by omega)
  refine ⟨x + p * (u * c), u * c, -(v * c), rfl, ?_⟩
  have h1 : u * p * c + v * q * c = gcdI p q * c := by rw [← Int.add_mul, e]
  have h2 : p * (u * c) = u * p * c := by rw [← Int.mul_assoc, Int.mul_comm p u]
  have h3 : q * -(v * c) = -(v * q * c) := by rw [Int.mul_neg, ← Int.mul_assoc, Int.mul_comm q v]
  omega
theorem emod_diff {a b m : Int} (h : a % m = b % m) : ∃ c, b - a = m * c := by
  refine ⟨b / m - a / m, ?_⟩
  have h1 := Int.emod_add_mul_ediv a m
  have h2 := Int.emod_add_mul_ediv b m
  rw [Int.mul_sub]
  omega
/-- two turns meet exactly if the greatest common divisor does not keep them apart -/
theorem meet_iff {p f l q g k : Int} (hv : tnB p f l = true) (hv2 : tnB q g k = true) : apB f l g k (gcdI p q) = false ↔ ∃ n, 0 ≤ n ∧ n < lcmI p q ∧ comB p f l q g k n = true := by
  obtain ⟨a1, a2, a3, a4, a5, a6⟩ := tnB_t hv
  obtain ⟨c1, c2, c3, c4, c5, c6⟩ := tnB_t hv2
  have hg := gcdI_pos (q := q) a1
  constructor
  · intro h
    have h' : ¬ (apB f l g k (gcdI p q) = true) := by simp [h]
    rw [apB_iff] at h'
    obtain ⟨r, hr⟩ := Classical.not_forall.1 h'
    simp only [Classical.not_imp, Bool.not_eq_false] at hr
    obtain ⟨r0, r1, t1, t2⟩ := hr
    simp only [touB, decide_eq_true_eq] at t1 t2
    have e1 := Int.emod_nonneg (r - f) (show gcdI p q ≠ 0 by omega)
    have e2 := Int.emod_nonneg (r - g) (show gcdI p q ≠ 0 by omega)
    obtain ⟨n, a, b, n1, n2⟩ := crt (x := f + (r - f) % gcdI p q) (y := g + (r - g) % gcdI p q) a1 c1 (by
      have d1 := Int.emod_add_mul_ediv (r - f) (gcdI p q)
      have d2 := Int.emod_add_mul_ediv (r - g) (gcdI p q)
      refine ⟨(r - f) / gcdI p q - (r - g) / gcdI p q, ?_⟩
      rw [Int.mul_sub]
      omega)
    have hL := (lcmI_le a1 a2 c1 c2).1
    refine ⟨n % lcmI p q, Int.emod_nonneg _ (by omega), Int.emod_lt_of_pos _ (by omega), ?_⟩
    rw [comB_mod a1 c1]
    unfold comB
    have i1 : tnIn p f l n = true := by
      rw [n1, tnIn_add]
      simp only [tnIn, decide_eq_true_eq]
      rw [show f + (r - f) % gcdI p q - f = (r - f) % gcdI p q from by omega]
      have := emod_le e1 a1
      omega
    have i2 : tnIn q g k n = true := by
      rw [n2, tnIn_add]
      simp only [tnIn, decide_eq_true_eq]
      rw [show g + (r - g) % gcdI p q - g = (r - g) % gcdI p q from by omega]
      have := emod_le e2 c1
      omega
    simp [i1, i2]
  · rintro ⟨n, h0, h1, h2⟩
    simp only [comB, Bool.and_eq_true] at h2
    have t1 := tou_of_in hg (gcdI_left (q := q) (by omega)) a1 h2.1
    have t2 := tou_of_in hg (gcdI_right (p := p) (by omega)) c1 h2.2
    exact (apB_f (Int.emod_nonneg n (by omega)) (Int.emod_lt_of_pos n (by omega)) t1 t2).symm

/-- the least integer that is in both -/
def firstN (p f l q g k : Int) : Option Nat := (List.range (lcmI p q).toNat).find? (fun n => comB p f l q g k n)
theorem firstN_some {p f l q g k : Int} {n : Nat} (h : firstN p f l q g k = some n) : comB p f l q g k n = true ∧ (n : Int) < lcmI p q ∧ ∀ i : Nat, i < n → comB p f l q g k i = false := by
  unfold firstN at h
  rw [List.find?_range_eq_some] at h
  obtain ⟨h1, h2, h3⟩ := h
  exact ⟨h1, by have := List.mem_range.1 h2; omega, fun i hi => by simpa using h3 i hi⟩
theorem firstN_none {p f l q g k : Int} (h : firstN p f l q g k = none) : ∀ n : Int, 0 ≤ n → n < lcmI p q → comB p f l q g k n = false := by
  unfold firstN at h
  rw [List.find?_eq_none] at h
  intro n h0 h1
  have := h n.toNat (List.mem_range.2 (by omega))
  rw [Int.toNat_of_nonneg h0] at this
  simpa using this
theorem firstN_meet {p f l q g k : Int} (hv : tnB p f l = true) (hv2 : tnB q g k = true) : apB f l g k (gcdI p q) = (firstN p f l q g k).isNone := by
  cases h : firstN p f l q g k with
  | some n =>
    obtain ⟨h1, h2, _⟩ := firstN_some h
    exact (meet_iff hv hv2).2 ⟨n, by omega, h2, h1⟩
  | none =>
    have h' := firstN_none h
    cases ha : apB f l g k (gcdI p q)
    · obtain ⟨n, h0, h1, h2⟩ := (meet_iff hv hv2).1 ha
      rw [h' n h0 h1] at h2
      cases h2
    · rfl

end Go.Proofs.YtejcmdoalhnpeaaGreatDoor
