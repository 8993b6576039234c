/- Objection of the program. -/
import Derived.Test.YthopgonbndoidaaVFar
import Derived.Test.YthopgonbndoidaaVGp
namespace Go.Proofs.Ythopgonbndoidaa
open Go.RowKit Go.Shelf

def obN (T : Tr) (l : List Int) : Int := if penE T l = 0 then ovX T l else 0
def obL (T : Tr) (l : List Int) : List Int := if penE T l = 0 then (if ovX T l = 0 then [] else gpX T l) else []
def ObjPost (w : World) (L : List Int) (n E : Int) (e : Ending) (w' : World) : Prop := ∃ v, e = .returned (.tuple #[v, .int .i64 n, .int .i64 E]) ∧ IntsAt w' v L ∧ Ext w w'
set_option maxRecDepth 100000 in
set_option maxHeartbeats 4000000 in
theorem Objection_any (a b v : Value) (T : Tr) (l : List Int) (w : World) (hT : TrAt w a b T) (hl : IntsAt w v l) (hn : l.length ≤ 100000) :
    Calls Try.prog 37 #[.agg #[a, b], v] w (ObjPost w (obL T l) (obN T l) (penE T l)) := by
  obtain ⟨E, hE⟩ : ∃ E, penE T l = E := ⟨_, rfl⟩
  have hok : E = 0 → Ok T ∧ l.length = T.ps.length ∧ ∀ n ∈ l, 0 ≤ n ∧ n ≤ 1073741824 := fun h => penE_ok (hE.trans h)
  have hN : obN T l = if E = 0 then ovX T l else 0 := by rw [← hE]; rfl
  have hL : obL T l = if E = 0 then (if ovX T l = 0 then [] else gpX T l) else [] := by rw [← hE]; rfl
  obtain ⟨F, hF⟩ : ∃ F, ovX T l = F := ⟨_, rfl⟩
  obtain ⟨X, hX⟩ : ∃ X, obN T l = X := ⟨_, rfl⟩
  obtain ⟨L, hLL⟩ : ∃ X, obL T l = X := ⟨_, rfl⟩
  rw [hX, hF] at hN
  rw [hLL, hF] at hL
  rw [hE, hX, hLL]
  have HE := Lib.hid hE
  have HF := Lib.hid hF
  have HN := Lib.hid hN
  have HL := Lib.hid hL
  have HOK := Lib.hid hok
  clear hE hF hX hok hN hL hLL
  go_enter Try.func37, Try.ntmps37
  go_wp2_with fail
  refine (sums_any a b v T l _ (hT.ext (by repeat (first | exact Ext.refl _ | assumption | refine Ext.alloc ?_ _ | refine Ext.drew ?_ | refine Ext.drewN _ ?_ | refine Ext.trans ?_ (by assumption)))) (hl.ext (by repeat (first | exact Ext.refl _ | assumption | refine Ext.alloc ?_ _ | refine Ext.drew ?_ | refine Ext.drewN _ ?_ | refine Ext.trans ?_ (by assumption)))) hn).mono ?_
  rw [HE.out]
  rintro e w1 ⟨rfl, hx1⟩
  obtain ⟨q0, hx, hzz⟩ := alloc1 hx1
  have d0 : w1.cell? ⟨w.heap.size, 0, none⟩ = some a := q0.cell 0
  have d1 : w1.cell? ⟨w.heap.size, 1, none⟩ = some b := q0.cell 1
  clear hx1
  by_cases h0 : E = 0
  · have hb : (E != 0) = false := by simpa using h0
    have hx2 := HN.out
    rw [if_pos h0] at hx2
    have HN2 := Lib.hid hx2
    have hx3 := HL.out
    rw [if_pos h0] at hx3
    have HL2 := Lib.hid hx3
    have HE0 := Lib.hid h0
    obtain ⟨hk, hlen, hbb⟩ := HOK.out h0
    have K := fun W (h : Ext w W) => over_any a b v T hk l W (hT.ext h) (hl.ext h) hlen hbb
    have KG := fun W (h : Ext w W) => groupP_any a b v T hk l W (hT.ext h) (hl.ext h) hlen hbb
    rw [HF.out] at K
    have HK := Lib.hid K
    have HKG := Lib.hid KG
    clear hx2 hx3 h0 K KG hlen hbb
    obtain ⟨aa, ca, rfl, _⟩ := hT.r.len
    obtain ⟨ab, cb, rfl, _⟩ := hT.p.len
    obtain ⟨av, cv, rfl, _⟩ := hl.len
    go_wp2_with (refine wpList_build rfl _ _ rfl (by rfl) ?_)
    refine (HK.out _ (hx.trans (by repeat (first | exact Ext.refl _ | assumption | refine Ext.alloc ?_ _ | refine Ext.drew ?_ | refine Ext.drewN _ ?_ | refine Ext.trans ?_ (by assumption))))).mono ?_
    rintro e w2 ⟨rfl, hy⟩
    obtain ⟨q1, hy1, hyy⟩ := alloc1 hy
    have g0 : w2.cell? ⟨w1.heap.size, 0, none⟩ = _ := q1.cell 0
    have g1 : w2.cell? ⟨w1.heap.size, 1, none⟩ = _ := q1.cell 1
    have g2 : w2.cell? ⟨w1.heap.size, 2, none⟩ = _ := q1.cell 2
    clear hy
    by_cases hF0 : F = 0
    · have hl3 := HL2.out
      rw [if_pos hF0] at hl3
      have HL3 := Lib.hid hl3
      have HF0 := Lib.hid hF0
      have hFb : (F == 0) = true := by simpa using hF0
      clear hl3 hF0 g0 g1 g2
      go_wp2_with fail
      go_ret3
      exact ⟨_, rets3 rfl (by rw [HN2.out, HF0.out]; rfl) (by rw [HE0.out]; rfl), by rw [HL3.out]; exact intsAt_nil _, hx.trans hy1⟩
    · have hl3 := HL2.out
      rw [if_neg hF0] at hl3
      have HL3 := Lib.hid hl3
      have hFb : (F == 0) = false := by simpa using hF0
      clear hl3 hF0
      go_wp2_with fail
      refine (HKG.out _ (hx.trans hy1)).mono ?_
      rintro e w3 ⟨u, rfl, hu, hz⟩
      rw [← HL3.out] at hu
      clear g0 g1 g2
      go_wp2_with fail
      go_ret3
      exact ⟨_, rets3 rfl (by rw [HN2.out]; rfl) (by rw [HE0.out]; rfl), hu.at_, (hx.trans hy1).trans hz⟩
  · have hb : (E != 0) = true := by simpa using h0
    have hx2 := HN.out
    rw [if_neg h0] at hx2
    have HN2 := Lib.hid hx2
    have hx3 := HL.out
    rw [if_neg h0] at hx3
    have HL2 := Lib.hid hx3
    clear hx2 hx3 h0
    go_wp2_with fail
    go_ret3
    exact ⟨_, rets3 rfl (by rw [HN2.out]; rfl) rfl, by rw [HL2.out]; exact intsAt_nil _, hx⟩
end Go.Proofs.Ythopgonbndoidaa
