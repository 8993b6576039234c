/- Fair of the program. -/
import Derived.Test.YthopgonbndoidaaVFai
namespace Go.Proofs.Ythopgonbndoidaa
open Go.RowKit Go.Shelf

set_option maxRecDepth 100000 in
set_option maxHeartbeats 4000000 in
theorem Fair_any (a b v : Value) (T : Tr) (l : List Int) (w : World) (hT : TrAt w a b T) (hl : IntsAt w v l) (hn : l.length ≤ 100000) :
    Calls Try.prog 23 #[.agg #[a, b], v] w fun e w' => e = .returned (.tuple #[.bool (if penE T l = 0 then faiB T l else false), .int .i64 (penE T l)]) ∧ Ext w w' := by
  obtain ⟨E, hE⟩ : ∃ E, penE T l = E := ⟨_, rfl⟩
  have hok : E = 0 → Ok T ∧ l.length = T.ps.length ∧ ∀ n ∈ l, 0 ≤ n ∧ n ≤ 1073741824 := fun h => penE_ok (hE.trans h)
  obtain ⟨F, hF⟩ : ∃ F, faiB T l = F := ⟨_, rfl⟩
  obtain ⟨X, hX⟩ : ∃ X, (if E = 0 then F else false) = X := ⟨_, rfl⟩
  rw [hE, hF, hX]
  have HE := Lib.hid hE
  have HF := Lib.hid hF
  have HX := Lib.hid hX
  have HOK := Lib.hid hok
  clear hE hF hX hok
  go_enter Try.func23, Try.ntmps23
  go_wp2_with fail
  refine (sums_any a b v T l _ (hT.ext (by repeat (first | exact Ext.refl _ | assumption | refine Ext.alloc ?_ _ | refine Ext.drew ?_ | refine Ext.drewN _ ?_ | refine Ext.trans ?_ (by assumption)))) (hl.ext (by repeat (first | exact Ext.refl _ | assumption | refine Ext.alloc ?_ _ | refine Ext.drew ?_ | refine Ext.drewN _ ?_ | refine Ext.trans ?_ (by assumption)))) hn).mono ?_
  rw [HE.out]
  rintro e w1 ⟨rfl, hx1⟩
  obtain ⟨q0, hx, hzz⟩ := alloc1 hx1
  have d0 : w1.cell? ⟨w.heap.size, 0, none⟩ = some a := q0.cell 0
  have d1 : w1.cell? ⟨w.heap.size, 1, none⟩ = some b := q0.cell 1
  clear hx1
  by_cases h0 : E = 0
  · have hb : (E != 0) = false := by simpa using h0
    have hx2 := HX.out
    rw [if_pos h0] at hx2
    have HX2 := Lib.hid hx2
    have HE0 := Lib.hid h0
    obtain ⟨hk, hlen, hbb⟩ := HOK.out h0
    have K := fair_any a b v T hk l _ (hT.ext hx) (hl.ext hx) hlen hbb
    rw [HF.out] at K
    have HK := Lib.hid K
    clear hx2 h0 K hlen hbb
    obtain ⟨aa, ca, rfl, _⟩ := hT.r.len
    obtain ⟨ab, cb, rfl, _⟩ := hT.p.len
    obtain ⟨av, cv, rfl, _⟩ := hl.len
    go_wp2_with (refine wpList_build rfl _ _ rfl (by rfl) ?_)
    refine HK.out.mono ?_
    rintro e w2 ⟨rfl, hy⟩
    go_wp2_with fail
    go_ret2
    exact ⟨ret2 (by rw [← HX2.out]; rfl) (by rw [HE0.out]; rfl), hx.trans hy⟩
  · have hb : (E != 0) = true := by simpa using h0
    have hx2 := HX.out
    rw [if_neg h0] at hx2
    have HX2 := Lib.hid hx2
    clear hx2 h0
    go_wp2_with fail
    go_ret2
    exact ⟨ret2 (by rw [← HX2.out]; rfl) rfl, hx⟩
end Go.Proofs.Ythopgonbndoidaa
