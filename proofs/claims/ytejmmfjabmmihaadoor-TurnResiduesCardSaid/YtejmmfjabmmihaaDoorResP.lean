/- TurnResidues, the plain law. -/
import Derived.Test.YtejmmfjabmmihaaDoorApt
import Derived.Test.YtejmmfjabmmihaaDoorOften
namespace Go.Proofs.YtejmmfjabmmihaaDoor
open Go.RowKit Go.Shelf

theorem apB_comB {p f l q g k m n : Int} (hp : 1 ≤ p) (hq : 1 ≤ q) (hm : 1 ≤ m) (hd : ∃ c, p = m * c) (hd2 : ∃ c, q = m * c) (h : apB f l g k m = true) : comB p f l q g k n = false := by
  rw [← Bool.not_eq_true]
  intro hc
  obtain ⟨h1, h2⟩ := comB_t hc
  have t1 := tou_of_in hm hd hp h1
  have t2 := tou_of_in hm hd2 hq h2
  rw [apB_iff] at h
  have := h (n % m) (Int.emod_nonneg _ (by omega)) (Int.emod_lt_of_pos _ (by omega)) t1
  rw [this] at t2; cases t2
theorem aptN_some {p f l q g k : Int} {i : Nat} (h : aptN p f l q g k = some i) : i < (gcdI p q).toNat ∧ aptP p f l q g k i = true ∧ ∀ j, j < i → aptP p f l q g k j = false := by
  unfold aptN at h
  rw [List.find?_range_eq_some] at h
  exact ⟨by simpa using h.2.1, h.1, fun j hj => by simpa using h.2.2 j hj⟩
theorem aptN_none {p f l q g k : Int} (h : aptN p f l q g k = none) : ∀ j, j < (gcdI p q).toNat → aptP p f l q g k j = false := by
  unfold aptN at h
  rw [List.find?_eq_none] at h
  intro j hj
  simpa using h j (by simpa using hj)
theorem dvd_of {g m : Int} (h : g % m = 0) : ∃ c, g = m * c := ⟨g / m, by have := Int.mul_ediv_add_emod g m; omega⟩
theorem dvd_mul {p g m : Int} (h : ∃ c, p = g * c) (h2 : ∃ c, g = m * c) : ∃ c, p = m * c := by
  obtain ⟨c, rfl⟩ := h
  obtain ⟨d, rfl⟩ := h2
  exact ⟨d * c, Int.mul_assoc ..⟩
theorem mod_of {p m : Int} (h : ∃ c, p = m * c) : p % m = 0 := by
  obtain ⟨c, rfl⟩ := h
  exact Int.mul_emod_right ..
/-- a common divisor divides the greatest one -/
theorem gcd_div {p q m : Int} (hp : 1 ≤ p) (hq : 1 ≤ q) (hd : p % m = 0) (hd2 : q % m = 0) : gcdI p q % m = 0 := by
  obtain ⟨u, v, h⟩ := gcdI_bez (p := p) (q := q) (by omega) (by omega)
  obtain ⟨c, hc⟩ := dvd_of hd
  obtain ⟨d, hd'⟩ := dvd_of hd2
  refine mod_of ⟨u * c + v * d, ?_⟩
  rw [← h]
  conv => lhs; rw [hc, hd']
  rw [Int.mul_add, ← Int.mul_assoc, ← Int.mul_assoc, ← Int.mul_assoc, ← Int.mul_assoc, Int.mul_comm u m, Int.mul_comm v m]
theorem apt_first {p f l q g k : Int} (hv : tnB p f l = true) (hv2 : tnB q g k = true) : (aptN p f l q g k).isSome = (firstN p f l q g k).isNone := by
  have ha := tnB_t hv
  have hc := tnB_t hv2
  have hg := gcdI_pos (q := q) ha.1
  cases hN : aptN p f l q g k with
  | some i =>
    obtain ⟨h1, h2, _⟩ := aptN_some hN
    simp only [aptP, Bool.and_eq_true, decide_eq_true_eq] at h2
    cases hF : firstN p f l q g k with
    | none => rfl
    | some n =>
      have h3 := (firstN_some hF).1
      have := apB_comB (n := (n : Int)) ha.1 hc.1 (by omega) (dvd_mul (gcdI_left (q := q) (by omega)) (dvd_of h2.1)) (dvd_mul (gcdI_right (p := p) (by omega)) (dvd_of h2.1)) h2.2
      rw [this] at h3; cases h3
  | none =>
    have h1 := aptN_none hN ((gcdI p q).toNat - 1) (by omega)
    unfold aptP at h1
    rw [show (((gcdI p q).toNat - 1 : Nat) : Int) + 1 = gcdI p q by omega] at h1
    rw [Int.emod_self, decide_eq_true rfl, Bool.true_and] at h1
    rw [← firstN_meet hv hv2, h1]; rfl
/-- a modulus that CheckApart accepts: there is one, and no less one than Apart's -/
theorem cha_apt {p f l q g k m : Int} (hv : tnB p f l = true) (hv2 : tnB q g k = true) (h : 1 ≤ m ∧ p % m = 0 ∧ q % m = 0 ∧ apB f l g k m = true) : ∃ i : Nat, aptN p f l q g k = some i ∧ (i : Int) + 1 ≤ m := by
  have ha := tnB_t hv
  have hc := tnB_t hv2
  obtain ⟨h1, h2, h3, h4⟩ := h
  have hg := gcd_div ha.1 hc.1 h2 h3
  have hgp := gcdI_pos (q := q) ha.1
  have hle : m ≤ gcdI p q := Int.le_of_dvd (by omega) (Int.dvd_of_emod_eq_zero hg)
  have hP : aptP p f l q g k (m.toNat - 1) = true := by
    unfold aptP
    rw [show ((m.toNat - 1 : Nat) : Int) + 1 = m by omega, hg, h4]; rfl
  cases hN : aptN p f l q g k with
  | none => have := aptN_none hN (m.toNat - 1) (by omega); rw [this] at hP; cases hP
  | some i =>
    refine ⟨i, rfl, ?_⟩
    obtain ⟨_, _, h5⟩ := aptN_some hN
    rcases Nat.lt_or_ge (m.toNat - 1) i with hlt | hge
    · have := h5 _ hlt; rw [this] at hP; cases hP
    · omega
theorem apt_cha {p f l q g k : Int} {i : Nat} (hv : tnB p f l = true) (hv2 : tnB q g k = true) (h : aptN p f l q g k = some i) : chaE p f l q g k ((i : Int) + 1) = 0 := by
  have ha := tnB_t hv
  have hc := tnB_t hv2
  obtain ⟨h1, h2, _⟩ := aptN_some h
  simp only [aptP, Bool.and_eq_true, decide_eq_true_eq] at h2
  unfold chaE
  have hE : pairE p f l q g k = 0 := by simp [pairE, hv, hv2]
  rw [if_pos hE, if_pos ⟨by omega, mod_of (dvd_mul (gcdI_left (q := q) (by omega)) (dvd_of h2.1)), mod_of (dvd_mul (gcdI_right (p := p) (by omega)) (dvd_of h2.1)), h2.2⟩]
end Go.Proofs.YtejmmfjabmmihaaDoor
