/- Plain words for shares: a payer's pieces, as parts of the whole. No program in sight. -/
import Derived.Test.YthopgonbndoidaaVPc
import Derived.Test.YthopgonbndoidaaVSum
namespace Go.Proofs.Ythopgonbndoidaa
open Go.RowKit Go.Shelf

theorem div_whole {k : Int} (h1 : 1 ≤ k) (h2 : k ≤ 24) : k * (5354228880 / k) = 5354228880 := by
  obtain ⟨n, rfl⟩ : ∃ n : Nat, k = (n : Int) + 1 := ⟨(k - 1).toNat, by omega⟩
  exact (by decide : ∀ n : Fin 24, ((n.1 : Int) + 1) * (5354228880 / ((n.1 : Int) + 1)) = 5354228880) ⟨n, by omega⟩
theorem wtA_ge {rs : List Rc} {l : List Py} (h : ∀ p ∈ l, 1 ≤ p.w) {p : Py} (hp : p ∈ l) {r : Nat} (hu : usB rs p.reach r = true) : p.w ≤ wtA rs l r := by
  induction l using snoc_ind with
  | h0 => simp at hp
  | h1 l q ih =>
    have hb := wtA_bd rs l (fun q hq => h q (by simp [hq])) r
    have hq := h q (by simp)
    rw [wtA_snoc]
    unfold wtS
    rcases List.mem_append.1 hp with hp | hp
    · have i := ih (fun q hq => h q (by simp [hq])) hp
      split <;> omega
    · obtain rfl : p = q := by simpa using hp
      rw [if_pos hu]; omega
/-- a piece, as parts of the whole -/
def pcX (T : Tr) (c w : Int) (r : Nat) : Int := c * w * (5354228880 / wtA T.rs T.ps r)
theorem pc_ratM (T : Tr) (c w : Int) {r : Nat} (h1 : 1 ≤ wtA T.rs T.ps r) (h2 : wtA T.rs T.ps r ≤ 24) : ratF (c * w) (wtA T.rs T.ps r) = ratM (pcX T c w r) :=
  ratM_of (by omega) (div_whole h1 h2)
theorem pcX_bd {T : Tr} {c w : Int} {r : Nat} (hc : 0 ≤ c ∧ c ≤ 65536) (h0 : 1 ≤ w) (hw : w ≤ wtA T.rs T.ps r) (h2 : wtA T.rs T.ps r ≤ 24) : 0 ≤ pcX T c w r ∧ pcX T c w r ≤ 350894743879680 := by
  have hd := div_whole (k := wtA T.rs T.ps r) (by omega) h2
  obtain ⟨d, hdd⟩ : ∃ d, 5354228880 / wtA T.rs T.ps r = d := ⟨_, rfl⟩
  unfold pcX
  rw [hdd] at hd ⊢
  obtain ⟨k, hk⟩ : ∃ k, wtA T.rs T.ps r = k := ⟨_, rfl⟩
  rw [hk] at hd hw h2
  have hd0 : 0 ≤ d := by
    by_cases h : 0 ≤ d
    · exact h
    · have := Int.mul_nonpos_of_nonneg_of_nonpos (a := k) (b := d) (by omega) (by omega)
      omega
  have a1 : 0 ≤ w * d := Int.mul_nonneg (by omega) hd0
  have a2 : w * d ≤ 5354228880 := by rw [← hd]; exact Int.mul_le_mul_of_nonneg_right hw hd0
  rw [Int.mul_assoc]
  refine ⟨Int.mul_nonneg hc.1 a1, ?_⟩
  have := Int.mul_le_mul hc.2 a2 a1 (by omega)
  omega
/-- the sum of pieces on a way -/
def shF (T : Tr) (w : Int) (l : List Int) : Int := l.foldl (fun s r => s + pcX T (cst T.rs r.toNat) w r.toNat) 0
theorem shF_snoc (T : Tr) (w : Int) (l : List Int) (r : Int) : shF T w (l ++ [r]) = shF T w l + pcX T (cst T.rs r.toNat) w r.toNat := by simp [shF]
def shX (T : Tr) (p : Py) : Int := shF T p.w (upL T.rs p.reach)
theorem shF_bd {T : Tr} {w : Int} {l : List Int} (h : ∀ r ∈ l, 0 ≤ pcX T (cst T.rs r.toNat) w r.toNat ∧ pcX T (cst T.rs r.toNat) w r.toNat ≤ 350894743879680) : 0 ≤ shF T w l ∧ shF T w l ≤ l.length * 350894743879680 := by
  induction l using snoc_ind with
  | h0 => simp [shF]
  | h1 l x ih =>
    have i := ih (fun r hr => h r (by simp [hr]))
    have j := h x (by simp)
    rw [shF_snoc, List.length_append, List.length_singleton]
    push_cast
    omega
/-- what holds of a payer of a tree that is right, at a reach on its way -/
theorem pay_facts {T : Tr} (hok : Ok T) {p : Py} (hp : p ∈ T.ps) {r : Int} (hr : r ∈ upL T.rs p.reach) :
    (0 ≤ r ∧ r < T.rs.length) ∧ (1 ≤ p.w ∧ p.w ≤ wtA T.rs T.ps r.toNat) ∧ wtA T.rs T.ps r.toNat ≤ 24 ∧ (0 ≤ cst T.rs r.toNat ∧ cst T.rs r.toNat ≤ 65536) := by
  have hv := hok.pv p hp
  have hi := upL_in hok.rv hv.2.1.2 r hr
  have hall : ∀ p ∈ T.ps, 1 ≤ p.w := fun p hp => (hok.pv p hp).2.2
  have hu : usB T.rs p.reach (r.toNat : Nat) = true := usB_t.2 (by rw [show ((r.toNat : Nat) : Int) = r by omega]; exact hr)
  have h1 := wtA_ge hall hp hu
  have h2 := (wtA_bd T.rs T.ps hall r.toNat).2
  have h3 := hok.sw
  exact ⟨hi, ⟨hv.2.2, h1⟩, by omega, cst_bd hok.rv _⟩
end Go.Proofs.Ythopgonbndoidaa
