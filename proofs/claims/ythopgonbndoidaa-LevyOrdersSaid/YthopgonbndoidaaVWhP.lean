/- Plain: shares, pieces and pence together. -/
import Derived.Test.YthopgonbndoidaaVSmP
namespace Go.Proofs.Ythopgonbndoidaa
open Go.RowKit Go.Shelf

def shN (T : Tr) : List Int := T.ps.map (shX T)
theorem shL_map (T : Tr) : shL T T.ps = (shN T).map ratM := by unfold shL shN; rw [List.map_map]; rfl
theorem shN_bd {T : Tr} (hok : Ok T) : ∀ x ∈ shN T, 0 ≤ x ∧ x ≤ 8421473853112320 := fun x hx => by
  obtain ⟨p, hp, rfl⟩ := List.mem_map.1 hx
  exact shX_bd hok hp
theorem shN_len (T : Tr) : (shN T).length = T.ps.length := by simp [shN]
theorem shN_get (T : Tr) {i : Nat} (h : i < T.ps.length) (h' : i < (shN T).length) : (shN T)[i] = shI T i := by
  unfold shI; rw [ps_get h]; simp [shN]
theorem shN_sum {T : Tr} (hok : Ok T) : sumI (shN T) = alnE T (fun _ => true) * 5354228880 := by
  unfold shN
  rw [sumR_map ⟨0, 0, 0⟩, Int.mul_comm]
  exact dvm_all (shares_DvM hok)
theorem pn_near {T : Tr} (hok : Ok T) {i : Nat} (h : i < (pnX T).length) (h' : i < (shN T).length) : (pnX T)[i] * 5354228880 - (shN T)[i] < 5354228880 ∧ (shN T)[i] - (pnX T)[i] * 5354228880 < 5354228880 := by
  have hl := (pnX_bd hok).1
  have hf := (pnX_fair hok).2.2.2 i (by omega)
  rw [List.getD_eq_getElem?_getD, List.getElem?_eq_getElem h, Option.getD_some] at hf
  rw [shN_get T (by omega) h']
  unfold dnX upX at hf
  omega
def pcN (T : Tr) (p : Py) : List Int := (List.range T.rs.length).map (fun (k : Nat) => if usB T.rs p.reach (k : Int) = true then pcX T (cst T.rs k) p.w k else 0)
theorem pcN_len (T : Tr) (p : Py) : (pcN T p).length = T.rs.length := by simp [pcN]
theorem pie_map {T : Tr} (hok : Ok T) {p : Py} (hp : p ∈ T.ps) : pieL T p T.rs.length = (pcN T p).map ratM := by
  unfold pieL pcN
  rw [List.map_map]
  refine List.map_congr_left (fun k _ => ?_)
  show pieR T p k = ratM (if usB T.rs p.reach k = true then pcX T (cst T.rs k) p.w k else 0)
  unfold pieR
  by_cases hu : usB T.rs p.reach k = true
  · rw [if_pos hu, if_pos hu]
    obtain ⟨_, h2, h3, _⟩ := pay_facts hok hp (usB_t.1 hu)
    exact pc_ratM T _ _ (r := k) (by have := h2.1; have := h2.2; simp only [Int.toNat_natCast] at *; omega) (by simpa using h3)
  · rw [if_neg hu, if_neg hu, ratM_zero]
theorem pcN_bd {T : Tr} (hok : Ok T) {p : Py} (hp : p ∈ T.ps) : ∀ x ∈ pcN T p, 0 ≤ x ∧ x ≤ 8421473853112320 := fun x hx => by
  obtain ⟨k, _, rfl⟩ := List.mem_map.1 hx
  by_cases hu : usB T.rs p.reach k = true
  · rw [if_pos hu]
    obtain ⟨_, h2, h3, h4⟩ := pay_facts hok hp (usB_t.1 hu)
    have := pcX_bd h4 h2.1 h2.2 h3
    simp only [Int.toNat_natCast] at this
    omega
  · rw [if_neg hu]; omega
theorem pcN_sum {T : Tr} (hok : Ok T) {i : Nat} (h : i < T.ps.length) (h' : i < (shN T).length) : sumI (pcN T T.ps[i]) = (shN T)[i] := by
  rw [shN_get T h h', (shares_DvM hok).col i h]
  unfold pcN
  rw [sumI_range]
  refine sumR_congr (fun k _ => ?_)
  unfold pcR usI wgI
  rw [ps_get h]
theorem getD_at {l : List Int} {i : Nat} (h : i < l.length) : l.getD i 0 = l[i] := by rw [List.getD_eq_getElem?_getD, List.getElem?_eq_getElem h]; rfl
theorem shN_at {T : Tr} {i : Nat} (h : i < T.ps.length) : (shN T).getD i 0 = shI T i := by
  have h' : i < (shN T).length := by rw [shN_len]; exact h
  rw [getD_at h', shN_get T h h']
theorem pn_near' {T : Tr} (hok : Ok T) {i : Nat} (h : i < T.ps.length) : (pnX T).getD i 0 * 5354228880 - (shN T).getD i 0 < 5354228880 ∧ (shN T).getD i 0 - (pnX T).getD i 0 * 5354228880 < 5354228880 := by
  have h' : i < (shN T).length := by rw [shN_len]; exact h
  have h2 : i < (pnX T).length := by rw [(pnX_bd hok).1]; exact h
  rw [getD_at h', getD_at h2]
  exact pn_near hok h2 h'
theorem pcN_sum' {T : Tr} (hok : Ok T) {i : Nat} (h : i < T.ps.length) : sumI (pcN T T.ps[i]) = (shN T).getD i 0 := by
  have h' : i < (shN T).length := by rw [shN_len]; exact h
  rw [getD_at h']
  exact pcN_sum hok h h'
/-- the index of a payer's own ID is its own -/
theorem fnd_own {T : Tr} (hok : Ok T) {i : Nat} (h : i < T.ps.length) : fnd T.ps T.ps[i].id = i := by
  have key : ∀ (l : List Py) (j i : Nat) (h : i < l.length), (l.map (·.id)).Nodup → fndF l[i].id j l = (j + i : Nat) := fun l => by
    induction l with
    | nil => intro j i h; simp at h
    | cons q l ih =>
      intro j i h hn
      rw [List.map_cons, List.nodup_cons] at hn
      rw [fndF]
      cases i with
      | zero => simp
      | succ i =>
        have hi : i < l.length := by simpa using h
        rw [List.getElem_cons_succ, if_neg, ih (j + 1) i hi hn.2]
        · omega
        · have : q.id ≠ l[i].id := fun e => hn.1 (e ▸ List.mem_map_of_mem (List.getElem_mem hi))
          simpa using this
  have := key T.ps 0 i h hok.nd
  unfold fnd
  omega
end Go.Proofs.Ythopgonbndoidaa
