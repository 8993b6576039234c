/- Fractions in lowest terms. No program in sight. -/
import Derived.Test.YthopgonbndoidaaVP
namespace Go.Proofs.Ythopgonbndoidaa
open Go.RowKit Go.Shelf

/-- a fraction -/
structure Ra where
  n : Int
  d : Int
/-- a fraction in lowest terms -/
def ratF (n d : Int) : Ra := ⟨n / (Int.gcd n d : Int), d / (Int.gcd n d : Int)⟩
theorem gcd_pos {n d : Int} (h : 0 < d) : 0 < Int.gcd n d := Int.gcd_pos_of_ne_zero_right _ (by omega)
/-- the parts of a fraction -/
theorem ratF_parts {n d : Int} (h : 0 < d) : ∃ g a b : Int, 0 < g ∧ n = g * a ∧ d = g * b ∧ 0 < b ∧ Int.gcd a b = 1 ∧ ratF n d = ⟨a, b⟩ := by
  obtain ⟨a, ha⟩ : (Int.gcd n d : Int) ∣ n := Int.gcd_dvd_left _ _
  obtain ⟨b, hb⟩ : (Int.gcd n d : Int) ∣ d := Int.gcd_dvd_right _ _
  have hp : 0 < Int.gcd n d := gcd_pos h
  obtain ⟨g, hg⟩ : ∃ g, Int.gcd n d = g := ⟨_, rfl⟩
  have hr : ratF n d = ⟨n / (g : Int), d / (g : Int)⟩ := by unfold ratF; rw [hg]
  rw [hg] at ha hb hp
  have hgp : (0 : Int) < g := by omega
  have hb0 : 0 < b := by
    by_cases hc : 0 < b
    · exact hc
    · have h1 : (g : Int) * b ≤ 0 := Int.mul_nonpos_of_nonneg_of_nonpos (by omega) (by omega)
      omega
  have hc : Int.gcd a b = 1 := by
    have h2 : Int.gcd ((g : Int) * a) ((g : Int) * b) = g * Int.gcd a b := by rw [Int.gcd_mul_left]; simp
    rw [← ha, ← hb, hg] at h2
    exact (Nat.mul_eq_left (by omega)).1 h2.symm
  refine ⟨g, a, b, hgp, ha, hb, hb0, hc, ?_⟩
  rw [hr, ha, hb, Int.mul_ediv_cancel_left _ (by omega), Int.mul_ediv_cancel_left _ (by omega)]
theorem ratF_den {n d : Int} (h : 0 < d) : 0 < (ratF n d).d := by
  obtain ⟨g, a, b, _, _, _, h4, _, h6⟩ := ratF_parts (n := n) h
  rw [h6]; exact h4
/-- the value is kept -/
theorem ratF_val {n d : Int} (h : 0 < d) : (ratF n d).n * d = n * (ratF n d).d := by
  obtain ⟨g, a, b, _, h2, h3, h4, _, h6⟩ := ratF_parts (n := n) h
  rw [h6]
  show a * d = n * b
  rw [h2, h3]
  ac_rfl
theorem ratF_cop {n d : Int} (h : 0 < d) : Int.gcd (ratF n d).n (ratF n d).d = 1 := by
  obtain ⟨g, a, b, _, _, _, _, h5, h6⟩ := ratF_parts (n := n) h
  rw [h6]; exact h5
theorem euclid {a b d : Int} (h1 : Int.gcd a b = 1) (h : b ∣ a * d) : b ∣ d := by
  have h2 : b.natAbs ∣ a.natAbs * d.natAbs := by rw [← Int.natAbs_mul]; exact Int.natAbs_dvd_natAbs.2 h
  have h3 : Nat.Coprime b.natAbs a.natAbs := by unfold Nat.Coprime; rw [Nat.gcd_comm]; exact h1
  exact Int.natAbs_dvd_natAbs.1 (h3.dvd_of_dvd_mul_left h2)
/-- lowest terms are told by the value -/
theorem low_eq {a b c d : Int} (h1 : Int.gcd a b = 1) (h2 : Int.gcd c d = 1) (hb : 0 < b) (hd : 0 < d) (h : a * d = c * b) : a = c ∧ b = d := by
  have e1 : b ∣ d := by
    have : b ∣ a * d := ⟨c, by rw [h]; exact Int.mul_comm _ _⟩
    exact euclid h1 this
  have e2 : d ∣ b := by
    have : d ∣ c * b := ⟨a, by rw [← h]; exact Int.mul_comm _ _⟩
    exact euclid h2 this
  have hbd : b = d := Int.dvd_antisymm (by omega) (by omega) e1 e2
  subst hbd
  exact ⟨Int.eq_of_mul_eq_mul_right (by omega) h, rfl⟩
theorem ratF_eq {n d m e : Int} (hd : 0 < d) (he : 0 < e) (h : n * e = m * d) : ratF n d = ratF m e := by
  have a := ratF_val (n := n) hd
  have b := ratF_val (n := m) he
  have hda := ratF_den (n := n) hd
  have hdb := ratF_den (n := m) he
  have key : (ratF n d).n * (ratF m e).d = (ratF m e).n * (ratF n d).d := by
    have h1 : ((ratF n d).n * (ratF m e).d) * (d * e) = ((ratF m e).n * (ratF n d).d) * (d * e) := by
      calc ((ratF n d).n * (ratF m e).d) * (d * e) = ((ratF n d).n * d) * ((ratF m e).d * e) := by ac_rfl
        _ = (n * (ratF n d).d) * ((ratF m e).d * e) := by rw [a]
        _ = (n * e) * ((ratF n d).d * (ratF m e).d) := by ac_rfl
        _ = (m * d) * ((ratF n d).d * (ratF m e).d) := by rw [h]
        _ = (m * (ratF m e).d) * (d * (ratF n d).d) := by ac_rfl
        _ = ((ratF m e).n * e) * (d * (ratF n d).d) := by rw [b]
        _ = ((ratF m e).n * (ratF n d).d) * (d * e) := by ac_rfl
    have hpos : 0 < d * e := Int.mul_pos hd he
    exact Int.eq_of_mul_eq_mul_right (by omega) h1
  obtain ⟨k1, k2⟩ := low_eq (ratF_cop hd) (ratF_cop he) hda hdb key
  cases h1 : ratF n d
  cases h2 : ratF m e
  rw [h1, h2] at k1 k2
  simp only at k1 k2
  rw [k1, k2]
/-- what is lowest is its own -/
theorem ratF_self {a b : Int} (h : Int.gcd a b = 1) : ratF a b = ⟨a, b⟩ := by
  unfold ratF; rw [h]; simp
end Go.Proofs.Ythopgonbndoidaa
