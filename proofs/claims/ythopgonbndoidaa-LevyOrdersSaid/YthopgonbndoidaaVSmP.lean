/- Plain: everybody and some of them are groups; objections and fairness. -/
import Derived.Test.YthopgonbndoidaaVGpP
import Derived.Test.YthopgonbndoidaaVEvb
namespace Go.Proofs.Ythopgonbndoidaa
open Go.RowKit Go.Shelf

theorem evL_perm (l : List Py) : (evL l).Perm (l.map (·.id)) := by
  induction l using snoc_ind with
  | h0 => exact List.Perm.refl _
  | h1 l p ih =>
    rw [evL_snoc, List.map_append, List.map_cons, List.map_nil]
    exact (putL_perm _ _).trans ((List.Perm.cons _ ih).trans (List.perm_append_singleton _ _).symm)
theorem evL_srt (l : List Py) : (evL l).Pairwise (· ≤ ·) := by
  induction l using snoc_ind with
  | h0 => exact List.Pairwise.nil
  | h1 l p ih => rw [evL_snoc]; exact putL_srt _ ih
theorem lt_of_srt {l : List Int} (h : l.Pairwise (· ≤ ·)) (hn : l.Nodup) : l.Pairwise (· < ·) := by
  refine List.Pairwise.imp₂ (R := fun a b : Int => a ≤ b) (S := fun a b => a ≠ b) (fun h1 h2 => ?_) h hn
  omega
theorem evL_lt {T : Tr} (hok : Ok T) : (evL T.ps).Pairwise (· < ·) := lt_of_srt (evL_srt _) ((evL_perm _).nodup_iff.2 hok.nd)
theorem evL_mem {ps : List Py} {x : Int} : x ∈ evL ps ↔ ∃ p ∈ ps, p.id = x := by rw [(evL_perm ps).mem_iff, List.mem_map]
theorem fnd_mem {ps : List Py} {x : Int} : 0 ≤ fnd ps x ↔ ∃ p ∈ ps, p.id = x := by
  constructor
  · intro h
    refine Classical.byContradiction (fun hn => ?_)
    have : fnd ps x < 0 := fndF_none.2 (fun p hp e => hn ⟨p, hp, e⟩)
    omega
  · rintro ⟨p, hp, e⟩
    refine Int.not_lt.1 (fun hn => ?_)
    exact fndF_none.1 hn p hp e
theorem grF_of {ps : List Py} : ∀ {l : List Int} {i : Nat} {last : Int}, l.Pairwise (· < ·) → (0 < i → ∀ x ∈ l, last < x) → (∀ x ∈ l, ∃ p ∈ ps, p.id = x) → grF ps i last l = true
  | [], _, _, _, _, _ => rfl
  | x :: l, i, last, h1, h2, h3 => by
    rw [List.pairwise_cons] at h1
    rw [grF, grF_of h1.2 (fun _ y hy => h1.1 y hy) (fun y hy => h3 y (by simp [hy])), decide_eq_true (fnd_mem.2 (h3 x (by simp)))]
    simp only [Bool.and_true, Bool.not_eq_true', Bool.and_eq_false_iff, decide_eq_false_iff_not]
    by_cases hi : 0 < i
    · have := h2 hi x (by simp)
      omega
    · exact .inl hi
theorem grB_of {ps : List Py} {l : List Int} (h1 : l.Pairwise (· < ·)) (h3 : ∀ x ∈ l, ∃ p ∈ ps, p.id = x) : grB ps l = true := grF_of h1 (fun h => by omega) h3
theorem sub_gr {T : Tr} (hok : Ok T) {g : List Int} (h : List.Sublist g (evL T.ps)) : grB T.ps g = true :=
  grB_of ((evL_lt hok).sublist h) (fun _ hx => evL_mem.1 (h.subset hx))
theorem gp_gr {T : Tr} (hok : Ok T) {l : List Int} (hlen : l.length = T.ps.length) : grB T.ps (gpX T l) = true := by
  have hs : (gpX T l).Pairwise (· ≤ ·) := by rw [gpX_same]; exact gprL_sorted _ _ _
  have hn : (gpX T l).Nodup := by
    refine (List.mergeSort_perm _ _).nodup_iff.2 ?_
    have hsub : List.Sublist (gpL T (objX T l) (T.ps.zip l)) ((T.ps.zip l).map (fun q => q.1.id)) := List.filter_sublist.map _
    refine List.Nodup.sublist hsub ?_
    rw [show (fun q : Py × Int => q.1.id) = Py.id ∘ Prod.fst from rfl, ← List.map_map]
    rw [List.map_fst_zip (by omega)]
    exact hok.nd
  refine grB_of (lt_of_srt hs hn) (fun x hx => ?_)
  unfold gpX gpL at hx
  rw [srtI_mem, List.mem_map] at hx
  obtain ⟨q, hq, rfl⟩ := hx
  exact ⟨q.1, (List.of_mem_zip (show (q.1, q.2) ∈ T.ps.zip l from (List.mem_filter.1 hq).1)).1, rfl⟩
theorem alnE_congr {T : Tr} {f g : Py → Bool} (h : ∀ p ∈ T.ps, f p = g p) : alnE T f = alnE T g := by
  unfold alnE
  refine sumR_congr (fun k _ => ?_)
  have : (T.ps.any fun p => f p && usB T.rs p.reach k) = (T.ps.any fun p => g p && usB T.rs p.reach k) := by
    rw [Bool.eq_iff_iff, List.any_eq_true, List.any_eq_true]
    constructor
    · rintro ⟨p, hp, hq⟩; exact ⟨p, hp, by rw [← h p hp]; exact hq⟩
    · rintro ⟨p, hp, hq⟩; exact ⟨p, hp, by rw [h p hp]; exact hq⟩
  rw [this]
theorem aln_every (T : Tr) : alnG T (evL T.ps) = alnE T (fun _ => true) := alnE_congr (fun p hp => decide_eq_true (evL_mem.2 ⟨p, hp, rfl⟩))
theorem ask_gr {T : Tr} (h : chkE T = 0) {g : List Int} (hg : grB T.ps g = true) : askE T g = 0 := by
  unfold askE
  rw [if_neg (by simpa using h), if_pos hg]
theorem AlnX_gr {T : Tr} (h : chkE T = 0) {g : List Int} (hg : grB T.ps g = true) : AlnX T g = alnG T g := by unfold AlnX; rw [if_pos (ask_gr h hg)]
theorem SavX_gr {T : Tr} (h : chkE T = 0) {g : List Int} (hg : grB T.ps g = true) : SavX T g = savG T g := by unfold SavX; rw [if_pos (ask_gr h hg)]
theorem penE_chk {T : Tr} {l : List Int} (h : penE T l = 0) : chkE T = 0 := by
  unfold penE at h
  split at h
  · assumption
  · exact h
/-- what the objection is -/
theorem ob_pos {T : Tr} {l : List Int} (h : penE T l = 0) (h0 : 0 < obN T l) : cobE T l (obL T l) = 0 ∧ cobN T l (obL T l) = obN T l ∧ faiB T l = false := by
  obtain ⟨hok, hlen, hb⟩ := penE_ok h
  have e1 : obN T l = ovX T l := by unfold obN; rw [if_pos h]
  have e2 : obL T l = gpX T l := by unfold obL; rw [if_pos h, if_neg (by omega)]
  have h1 := group_le hok hlen hb (fun p => decide (p.id ∈ gpX T l))
  have h2 := group_ge hok hlen hb
  have h3 := pdL_pdT hlen (gpX T l)
  have h4 : alnG T (gpX T l) = alnE T (fun p => decide (p.id ∈ gpX T l)) := rfl
  have h5 : cobE T l (obL T l) = 0 := by
    unfold cobE
    rw [e2, if_pos h, if_pos (gp_gr hok hlen), if_neg (by omega)]
  refine ⟨h5, ?_, ?_⟩
  · unfold cobN
    rw [if_pos h5, e2]; omega
  · unfold faiB
    rw [Bool.and_eq_false_iff]
    right
    rw [beq_eq_false_iff_ne]; omega
theorem ob_zero {T : Tr} {l : List Int} (h : penE T l = 0) (h0 : obN T l = 0) : obL T l = [] := by
  have e1 : obN T l = ovX T l := by unfold obN; rw [if_pos h]
  unfold obL
  rw [if_pos h, if_pos (by omega)]
theorem ob_nn {T : Tr} {l : List Int} (h : penE T l = 0) : 0 ≤ obN T l := by
  obtain ⟨hok, hlen, hb⟩ := penE_ok h
  have e1 : obN T l = ovX T l := by unfold obN; rw [if_pos h]
  rw [e1]; exact (ovX_bd hok hb).1
/-- what a group that is accepted shows -/
theorem cob_le {T : Tr} {l g : List Int} (h : penE T l = 0) (h0 : cobE T l g = 0) : cobN T l g ≤ obN T l ∧ faiB T l = false := by
  obtain ⟨hok, hlen, hb⟩ := penE_ok h
  have e1 : obN T l = ovX T l := by unfold obN; rw [if_pos h]
  have h1 := group_le hok hlen hb (fun p => decide (p.id ∈ g))
  have h3 := pdL_pdT hlen g
  have h4 : alnG T g = alnE T (fun p => decide (p.id ∈ g)) := rfl
  have h5 : cobN T l g = pdL g (T.ps.zip l) - alnG T g := by unfold cobN; rw [if_pos h0]
  unfold cobE at h0
  rw [if_pos h] at h0
  split at h0
  · split at h0
    · cases h0
    · refine ⟨by omega, ?_⟩
      unfold faiB
      rw [Bool.and_eq_false_iff]
      right
      rw [beq_eq_false_iff_ne]; omega
  · cases h0
/-- pence are right as sums -/
theorem penE_pn {T : Tr} (h : chkE T = 0) : penE T (pnX T) = 0 := by
  have hb := pnX_bd (Ok.of h)
  unfold penE
  rw [if_pos h, if_pos hb.1, if_neg]
  have : badF 0 (pnX T) < 0 := badF_none.2 (fun n hn => by
    have := hb.2 n hn
    unfold inB
    rw [decide_eq_true this.1, decide_eq_true this.2]; rfl)
  omega
end Go.Proofs.Ythopgonbndoidaa
