/- Plain: a further payer, a reach that costs more, a weight that is parted. -/
import Derived.Test.YthopgonbndoidaaVWhP
import Derived.Test.YthopgonbndoidaaVJoi
import Derived.Test.YthopgonbndoidaaVChg
import Derived.Test.YthopgonbndoidaaVUsd
namespace Go.Proofs.Ythopgonbndoidaa
open Go.RowKit Go.Shelf

theorem usn_mem {T : Tr} {n : Nat} {i : Nat} (h : i < T.ps.length) (hu : usB T.rs T.ps[i].reach n = true) : T.ps[i].id ∈ srtI (usnL T.rs n T.ps) := by
  rw [srtI_mem]
  have key : ∀ l : List Py, (∀ p ∈ l, usB T.rs p.reach n = true → p.id ∈ usnL T.rs n l) := fun l => by
    induction l using snoc_ind with
    | h0 => intro p hp; cases hp
    | h1 l q ih =>
      intro p hp hu
      rw [usnL_snoc]
      rcases List.mem_append.1 hp with hp | hp
      · have := ih p hp hu
        split
        · exact List.mem_append.2 (.inl this)
        · exact this
      · obtain rfl : p = q := by simpa using hp
        rw [if_pos hu]
        exact List.mem_append.2 (.inr (by simp))
  exact key T.ps _ (List.getElem_mem h) hu
/-- who pays more by how much -/
theorem chg_more {T : Tr} (hok : Ok T) {n : Nat} (hn : n < T.rs.length) {c : Int} (hc : T.rs[n].cost ≤ c) {i : Nat} (h : i < T.ps.length) : 0 ≤ (chgR T n c T.ps[i]).n ∧ (0 < (chgR T n c T.ps[i]).n → T.ps[i].id ∈ srtI (usnL T.rs n T.ps)) := by
  unfold chgR
  by_cases hu : usB T.rs T.ps[i].reach n = true
  · rw [if_pos hu]
    refine ⟨?_, fun _ => usn_mem h hu⟩
    have hw := (hok.pv _ (List.getElem_mem h)).2.2
    rw [Int.toNat_natCast, cst_get hn]
    have : 0 ≤ (c - T.rs[n].cost) * T.ps[i].w := Int.mul_nonneg (by omega) (by omega)
    exact Int.ediv_nonneg this (by omega)
  · rw [if_neg hu]
    exact ⟨Int.le_refl _, fun h => by cases h⟩
theorem div_anti {M a b : Int} (hM : 0 ≤ M) (ha : 0 < a) (h : a ≤ b) : M / b ≤ M / a := by
  refine Int.le_ediv_of_mul_le ha ?_
  have h1 : M / b * a ≤ M / b * b := Int.mul_le_mul_of_nonneg_left h (Int.ediv_nonneg hM (by omega))
  have h2 : M / b * b ≤ M := Int.ediv_mul_le M (by omega)
  omega
theorem jn_getD {T : Tr} {p : Py} {i : Nat} (h : i < T.ps.length) : (jnT T p).ps.getD i ⟨0, 0, 0⟩ = T.ps.getD i ⟨0, 0, 0⟩ := by
  show (T.ps ++ [p]).getD i _ = _
  rw [List.getD_eq_getElem?_getD, List.getD_eq_getElem?_getD, List.getElem?_append_left h]
/-- with a further payer no share of the others is greater -/
theorem jn_less {T : Tr} (hok : Ok T) {p : Py} (hok2 : Ok (jnT T p)) {i : Nat} (h : i < T.ps.length) : shI (jnT T p) i ≤ shI T i := by
  have hl : (jnT T p).ps.length = T.ps.length + 1 := by simp [jnT]
  rw [(shares_DvM hok).col i h, (shares_DvM hok2).col i (by omega)]
  show sumR T.rs.length _ ≤ _
  refine sumR_le (fun k _ => ?_)
  unfold pcR usI wgI
  rw [jn_getD h]
  show (if usB T.rs _ k = true then _ else 0) ≤ _
  by_cases hu : usB T.rs (T.ps.getD i ⟨0, 0, 0⟩).reach k = true
  · rw [if_pos hu, if_pos hu]
    rw [ps_get h] at hu ⊢
    obtain ⟨_, h2, h3, h4⟩ := pay_facts hok (List.getElem_mem h) (usB_t.1 hu)
    simp only [Int.toNat_natCast] at h2 h3 h4
    have hge : wtA T.rs T.ps k ≤ wtA (jnT T p).rs (jnT T p).ps k := by
      show _ ≤ wtA T.rs (T.ps ++ [p]) k
      rw [wtA_snoc]
      have := (hok2.pv p (by show p ∈ T.ps ++ [p]; simp)).2.2
      unfold wtS
      split <;> omega
    have := div_anti (M := 5354228880) (by decide) (by omega) hge
    unfold pcX
    refine Int.mul_le_mul_of_nonneg_left this (Int.mul_nonneg h4.1 (by omega))
  · rw [if_neg hu, if_neg hu]
    exact Int.le_refl _
end Go.Proofs.Ythopgonbndoidaa
