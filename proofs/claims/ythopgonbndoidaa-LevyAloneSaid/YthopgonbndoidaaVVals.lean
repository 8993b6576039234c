/- The values of the chapter's examples. No program in sight. -/
import Derived.Test.YthopgonbndoidaaVRCd
namespace Go.Proofs.Ythopgonbndoidaa
open Go.RowKit Go.Shelf

instance decRa : DecidableEq Ra := fun a b => decidable_of_iff (a.n = b.n ∧ a.d = b.d) ⟨fun h => by cases a; cases b; simp_all, fun h => by subst h; exact ⟨rfl, rfl⟩⟩
def brook (c : Int) : Tr := ⟨[⟨-1, c⟩, ⟨0, 6⟩, ⟨0, 5⟩, ⟨1, 4⟩], [⟨1, 1, 1⟩, ⟨2, 2, 1⟩, ⟨3, 3, 1⟩, ⟨4, 0, 1⟩]⟩
theorem v_chk : chkE (brook 12) = 0 ∧ chkE (brook 13) = 0 := by decide +kernel
theorem v_ask : askE (brook 12) [1, 3] = 0 := by decide +kernel
theorem v_aln : AlnX (brook 12) [1, 3] = 22 ∧ SavX (brook 12) [1, 3] = 10 := by decide +kernel
theorem v_sha : shaX (brook 12) = [⟨6, 1⟩, ⟨8, 1⟩, ⟨10, 1⟩, ⟨3, 1⟩] := by decide +kernel
theorem v_pie : pieX (brook 12) 3 = [⟨3, 1⟩, ⟨3, 1⟩, ⟨0, 1⟩, ⟨4, 1⟩] ∧ sngE (brook 12) 3 = 0 := by decide +kernel
theorem srtI_id {l : List Int} (h : l.Pairwise (fun a b => a ≤ b)) : srtI l = l := List.mergeSort_of_pairwise (h.imp (fun h => by simpa using h))
theorem v_ob : penE (brook 12) [2, 18, 6, 1] = 0 ∧ obN (brook 12) [2, 18, 6, 1] = 2 ∧ penE (brook 12) [6, 8, 10, 3] = 0 ∧ obN (brook 12) [6, 8, 10, 3] = 0 := by decide +kernel
theorem v_obl : obL (brook 12) [2, 18, 6, 1] = [2, 4] := by
  have h1 : penE (brook 12) [2, 18, 6, 1] = 0 ∧ ¬ ovX (brook 12) [2, 18, 6, 1] = 0 := by decide +kernel
  have h2 : gpL (brook 12) (objX (brook 12) [2, 18, 6, 1]) ((brook 12).ps.zip [2, 18, 6, 1]) = [2, 4] := by decide +kernel
  unfold obL gpX
  rw [if_pos h1.1, if_neg h1.2, h2]
  exact srtI_id (by decide)
theorem v_fai : faiB (brook 12) [0, 17, 10, 0] = true ∧ penE (brook 12) [0, 17, 10, 0] = 0 := by decide +kernel
theorem v_dv : dvE (brook 12) [0, 17, 10, 0] = 0 ∧ dveE (brook 12) [0, 17, 10, 0] (dvX (brook 12) [0, 17, 10, 0]) = 0 ∧ (dvX (brook 12) [0, 17, 10, 0]).length = 4 := by decide +kernel
theorem v_pen : penX (brook 13) = [7, 8, 10, 3] := by decide +kernel
theorem v_most : alnE (brook 12) (fun p => p.id == 3) = 22 ∧ alnE (brook 12) (fun _ => true) - alnE (brook 12) (fun p => !(p.id == 3)) = 4 := by decide +kernel
theorem v_chg : chgX (brook 12) 1 8 = [⟨1, 1⟩, ⟨0, 1⟩, ⟨1, 1⟩, ⟨0, 1⟩] ∧ chgE (brook 12) 1 8 = 0 := by decide +kernel
end Go.Proofs.Ythopgonbndoidaa
