/- Plain, for the laws of Fair: what is asked of few; the labels that are returned are accepted. -/
import Derived.Test.YtiofdfjcaklmcaaFHd
import Derived.Test.YtiofdfjcaklmcaaFLbs
import Derived.Test.YtiofdfjcaklmcaaFCmp
import Derived.Test.YtiofdfjcaklmcaaFArgs
namespace Go.Proofs.Ytiofdfjcaklmcaa

theorem few_us {P : Po} (h : fewB P = true) : ∀ s ∈ P.ss, s.us.length ≤ 1000000 := by
  unfold fewB at h
  rw [Bool.and_eq_true, Bool.and_eq_true, List.all_eq_true] at h
  intro s hs
  have := of_decide_eq_true (h.1.1 s hs)
  omega
theorem labC_bd (P : Po) (g : List Int) (a : Int) : 0 ≤ labC P g a ∧ labC P g a ≤ 41 := by
  unfold labC
  generalize P.ts = ts
  induction ts with
  | nil => simp
  | cons t ts ih =>
    rw [List.foldr_cons]
    split
    · have := (cntI_nn g t.id).1
      omega
    · exact ih
theorem lbOf_lab {P : Po} (hok : OkP P) (g : List Int) {u : Int} (hu : ∃ t ∈ P.ts, t.id = u) : lbOf P (labL P g) u = lblX P g u := by
  obtain ⟨t, ht, rfl⟩ := hu
  obtain ⟨i, hi, rfl⟩ := List.getElem_of_mem ht
  unfold lbOf
  rw [tn_at hok hi, Int.toNat_natCast]
  simp [labL, hi]
/-- CheckFair accepts what Fairest returns -/
theorem cf_fai {P : Po} (hok : OkP P) : cfE P (faiG P) (labL P (faiG P)) = 0 := by
  have hV := faiG_V hok.pv
  obtain ⟨g, hg⟩ : ∃ g, faiG P = g := ⟨_, rfl⟩
  rw [hg] at hV ⊢
  have hL := lbl_prove hok.pv hV.1 hV.2
  have hll : (labL P g).length = P.ts.length := by simp [labL]
  have hat : ∀ i (h : i < P.ts.length), (labL P g)[i]'(by omega) = lblX P g P.ts[i].id := fun i h => by simp [labL]
  refine cf_t (chk_ok.2 hok) (shr_iff.2 hV.1) hll (fun i hi => ?_) (fun i hi => ?_)
  · rw [lbI_at hi (by omega), hat i hi]
    have h1 := hL.up _ (List.getElem_mem hi)
    have h2 := hL.room _ (List.getElem_mem hi)
    have h3 : 0 ≤ lblX P g P.ts[i].id ∧ lblX P g P.ts[i].id ≤ 41 := by rw [lbl_is hok.pv hV.1]; exact labC_bd _ _ _
    simp only [Bool.and_eq_true, Bool.or_eq_true, Bool.not_eq_true', decide_eq_true_eq, decide_eq_false_iff_not, inB_t]
    refine ⟨⟨h3, h1⟩, ?_⟩
    by_cases h : cntI g P.ts[i].id < P.ts[i].most
    · exact .inr (h2 h)
    · exact .inl h
  · have hi' : i < P.ss.length := by have := hV.1.len; omega
    rw [loI_at hi hi', List.all_eq_true]
    intro u hu
    have h1 := hL.low i hi hi' u hu
    rw [decide_eq_true_eq, lbOf_lab hok g (hok.us _ (List.getElem_mem hi') u hu)]
    unfold lowF
    split at h1
    · rename_i h0; rw [if_pos h0]; exact h1
    · rename_i h0
      rw [if_neg h0]
      rcases hV.1.us i hi hi' with e | e
      · exact absurd e h0
      · rw [lbOf_lab hok g (hok.us _ (List.getElem_mem hi') _ e)]; exact h1
theorem fax_is {P : Po} (hc : chkE P = 0) : faxG P = faiG P ∧ faxL P = labL P (faiG P) := by
  unfold faxG faxL
  rw [if_pos hc, if_pos hc]
  exact ⟨rfl, rfl⟩
theorem fax_cf {P : Po} (hc : chkE P = 0) : cfE P (faxG P) (faxL P) = 0 := by
  rw [(fax_is hc).1, (fax_is hc).2]
  exact cf_fai (chk_ok.1 hc)
theorem fax_V {P : Po} (hc : chkE P = 0) : ShrV P (faxG P) ∧ NoChn P (faxG P) := by
  rw [(fax_is hc).1]
  exact faiG_V (chk_ok.1 hc).pv
end Go.Proofs.Ytiofdfjcaklmcaa
