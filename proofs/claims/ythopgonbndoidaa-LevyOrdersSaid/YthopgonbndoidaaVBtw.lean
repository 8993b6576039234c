/- Objection of the program. between of the program. inPence and Pence of the program. inPence and Pence of the program: the walks. -/
import Derived.Test.YthopgonbndoidaaVFai
import Derived.Test.YthopgonbndoidaaVGp
namespace Go.Proofs.Ythopgonbndoidaa
open Go.RowKit Go.Shelf

def obN (T : Tr) (l : List Int) : Int := if penE T l = 0 then ovX T l else 0
def obL (T : Tr) (l : List Int) : List Int := if penE T l = 0 then (if ovX T l = 0 then [] else gpX T l) else []
def ObjPost (w : World) (L : List Int) (n E : Int) (e : Ending) (w' : World) : Prop := ∃ v, e = .returned (.tuple #[v, .int .i64 n, .int .i64 E]) ∧ IntsAt w' v L ∧ Ext w w'
set_option maxRecDepth 100000 in
set_option maxHeartbeats 4000000 in
theorem Objection_any (a b v : Value) (T : Tr) (l : List Int) (w : World) (hT : TrAt w a b T) (hl : IntsAt w v l) (hn : l.length ≤ 100000) :
    Calls Try.prog 37 #[.agg #[a, b], v] w (ObjPost w (obL T l) (obN T l) (penE T l)) := by
  obtain ⟨E, hE⟩ : ∃ E, penE T l = E := ⟨_, rfl⟩
  have hok : E = 0 → Ok T ∧ l.length = T.ps.length ∧ ∀ n ∈ l, 0 ≤ n ∧ n ≤ 1073741824 := fun h => penE_ok (hE.trans h)
  have hN : obN T l = if E = 0 then ovX T l else 0 := by rw [← hE]; rfl
  have hL : obL T l = if E = 0 then (if ovX T l = 0 then [] else gpX T l) else [] := by rw [← hE]; rfl
  obtain ⟨F, hF⟩ : ∃ F, ovX T l = F := ⟨_, rfl⟩
  obtain ⟨X, hX⟩ : ∃ X, obN T l = X := ⟨_, rfl⟩
  obtain ⟨L, hLL⟩ : ∃ X, obL T l = X := ⟨_, rfl⟩
  rw [hX, hF] at hN
  rw [hLL, hF] at hL
  rw [hE, hX, hLL]
  have HE := Lib.hid hE
  have HF := Lib.hid hF
  have HN := Lib.hid hN
  have HL := Lib.hid hL
  have HOK := Lib.hid hok
  clear hE hF hX hok hN hL hLL
  go_enter Try.func37, Try.ntmps37
  go_wp2_with fail
  refine (sums_any a b v T l _ (hT.ext (by repeat (first | exact Ext.refl _ | assumption | refine Ext.alloc ?_ _ | refine Ext.drew ?_ | refine Ext.drewN _ ?_ | refine Ext.trans ?_ (by assumption)))) (hl.ext (by repeat (first | exact Ext.refl _ | assumption | refine Ext.alloc ?_ _ | refine Ext.drew ?_ | refine Ext.drewN _ ?_ | refine Ext.trans ?_ (by assumption)))) hn).mono ?_
  rw [HE.out]
  rintro e w1 ⟨rfl, hx1⟩
  obtain ⟨q0, hx, hzz⟩ := alloc1 hx1
  have d0 : w1.cell? ⟨w.heap.size, 0, none⟩ = some a := q0.cell 0
  have d1 : w1.cell? ⟨w.heap.size, 1, none⟩ = some b := q0.cell 1
  clear hx1
  by_cases h0 : E = 0
  · have hb : (E != 0) = false := by simpa using h0
    have hx2 := HN.out
    rw [if_pos h0] at hx2
    have HN2 := Lib.hid hx2
    have hx3 := HL.out
    rw [if_pos h0] at hx3
    have HL2 := Lib.hid hx3
    have HE0 := Lib.hid h0
    obtain ⟨hk, hlen, hbb⟩ := HOK.out h0
    have K := fun W (h : Ext w W) => over_any a b v T hk l W (hT.ext h) (hl.ext h) hlen hbb
    have KG := fun W (h : Ext w W) => groupP_any a b v T hk l W (hT.ext h) (hl.ext h) hlen hbb
    rw [HF.out] at K
    have HK := Lib.hid K
    have HKG := Lib.hid KG
    clear hx2 hx3 h0 K KG hlen hbb
    obtain ⟨aa, ca, rfl, _⟩ := hT.r.len
    obtain ⟨ab, cb, rfl, _⟩ := hT.p.len
    obtain ⟨av, cv, rfl, _⟩ := hl.len
    go_wp2_with (refine wpList_build rfl _ _ rfl (by rfl) ?_)
    refine (HK.out _ (hx.trans (by repeat (first | exact Ext.refl _ | assumption | refine Ext.alloc ?_ _ | refine Ext.drew ?_ | refine Ext.drewN _ ?_ | refine Ext.trans ?_ (by assumption))))).mono ?_
    rintro e w2 ⟨rfl, hy⟩
    obtain ⟨q1, hy1, hyy⟩ := alloc1 hy
    have g0 : w2.cell? ⟨w1.heap.size, 0, none⟩ = _ := q1.cell 0
    have g1 : w2.cell? ⟨w1.heap.size, 1, none⟩ = _ := q1.cell 1
    have g2 : w2.cell? ⟨w1.heap.size, 2, none⟩ = _ := q1.cell 2
    clear hy
    by_cases hF0 : F = 0
    · have hl3 := HL2.out
      rw [if_pos hF0] at hl3
      have HL3 := Lib.hid hl3
      have HF0 := Lib.hid hF0
      have hFb : (F == 0) = true := by simpa using hF0
      clear hl3 hF0 g0 g1 g2
      go_wp2_with fail
      go_ret3
      exact ⟨_, rets3 rfl (by rw [HN2.out, HF0.out]; rfl) (by rw [HE0.out]; rfl), by rw [HL3.out]; exact intsAt_nil _, hx.trans hy1⟩
    · have hl3 := HL2.out
      rw [if_neg hF0] at hl3
      have HL3 := Lib.hid hl3
      have hFb : (F == 0) = false := by simpa using hF0
      clear hl3 hF0
      go_wp2_with fail
      refine (HKG.out _ (hx.trans hy1)).mono ?_
      rintro e w3 ⟨u, rfl, hu, hz⟩
      rw [← HL3.out] at hu
      clear g0 g1 g2
      go_wp2_with fail
      go_ret3
      exact ⟨_, rets3 rfl (by rw [HN2.out]; rfl) (by rw [HE0.out]; rfl), hu.at_, (hx.trans hy1).trans hz⟩
  · have hb : (E != 0) = true := by simpa using h0
    have hx2 := HN.out
    rw [if_neg h0] at hx2
    have HN2 := Lib.hid hx2
    have hx3 := HL.out
    rw [if_neg h0] at hx3
    have HL2 := Lib.hid hx3
    clear hx2 hx3 h0
    go_wp2_with fail
    go_ret3
    exact ⟨_, rets3 rfl (by rw [HN2.out]; rfl) rfl, by rw [HL2.out]; exact intsAt_nil _, hx⟩
end Go.Proofs.Ythopgonbndoidaa
namespace Go.Proofs.Ythopgonbndoidaa
open Go.RowKit Go.Shelf

def btwB (T : Tr) (lo hi : List Int) : Bool := ovX T lo == 0 && decide (ovX T hi ≤ sumI hi - alnE T (fun _ => true))
set_option maxRecDepth 100000 in
set_option maxHeartbeats 4000000 in
theorem between_any (a b vl vh : Value) (T : Tr) (hok : Ok T) (lo hi : List Int) (w : World) (hT : TrAt w a b T) (hlo : IntsAt w vl lo) (hhi : IntsAt w vh hi) (hln : lo.length = T.ps.length) (hhn : hi.length = T.ps.length)
    (hbl : ∀ n ∈ lo, 0 ≤ n ∧ n ≤ 1073741824) (hbh : ∀ n ∈ hi, 0 ≤ n ∧ n ≤ 1073741824) :
    Calls Try.prog 101 #[.agg #[a, b], vl, vh] w fun e w' => e = .returned (.bool (btwB T lo hi)) ∧ Ext w w' := by
  have KS := fun W (h : Ext w W) => sum_any vh hi W (hhi.ext h) (by have := hok.lp; omega) hbh
  have KW := fun W (h : Ext w W) => whole_any a b T hok W (hT.ext h)
  have KL := fun W (h : Ext w W) => over_any a b vl T hok lo W (hT.ext h) (hlo.ext h) hln hbl
  have KH := fun W (h : Ext w W) => over_any a b vh T hok hi W (hT.ext h) (hhi.ext h) hhn hbh
  have b1 := sumI_bd hbh
  have b2 := alnE_bd hok (fun _ => true)
  have hF : btwB T lo hi = (ovX T lo == 0 && decide (ovX T hi ≤ sumI hi - alnE T (fun _ => true))) := rfl
  obtain ⟨F, hFF⟩ : ∃ F, btwB T lo hi = F := ⟨_, rfl⟩
  obtain ⟨X1, hX1⟩ : ∃ X, ovX T lo = X := ⟨_, rfl⟩
  obtain ⟨X2, hX2⟩ : ∃ X, ovX T hi = X := ⟨_, rfl⟩
  obtain ⟨X3, hX3⟩ : ∃ X, sumI hi = X := ⟨_, rfl⟩
  obtain ⟨X4, hX4⟩ : ∃ X, alnE T (fun _ => true) = X := ⟨_, rfl⟩
  rw [hFF, hX1, hX2, hX3, hX4] at hF
  rw [hX3] at KS b1
  rw [hX4] at KW b2
  rw [hX1] at KL
  rw [hX2] at KH
  rw [hFF]
  have hlp := hok.lp
  have hws : IntKind.i64.wrap (X3 - X4) = X3 - X4 := IntWalk.i64_in _ (by omega)
  have HF := Lib.hid hF
  have HT := Lib.hid hT
  obtain ⟨ar, cr, rfl, _⟩ := hT.r.len
  obtain ⟨ab, cb, rfl, _⟩ := hT.p.len
  obtain ⟨al, cl, rfl, _⟩ := hlo.len
  obtain ⟨ah, ch, rfl, _⟩ := hhi.len
  clear hF hFF hX1 hX2 hX3 hX4 hbl hbh hln hhn hT hlo hhi b1 b2 hlp
  go_enter Try.func101, Try.ntmps101
  go_upto_region 1 with fail
  obtain ⟨W1, hW1⟩ : ∃ W1, w.alloc (.cells #[.slice ar T.rs.length cr, .slice ab T.ps.length cb] 25) = W1 := ⟨_, rfl⟩
  have hx : Ext w W1 := by rw [← hW1]; exact (by repeat (first | exact Ext.refl _ | assumption | refine Ext.alloc ?_ _ | refine Ext.drew ?_ | refine Ext.drewN _ ?_ | refine Ext.trans ?_ (by assumption)))
  have q0 : Cls w.heap.size 25 #[.slice ar T.rs.length cr, .slice ab T.ps.length cb] W1 := by rw [← hW1]; exact Cls.new _ _ _
  try rw [hW1]
  clear hW1
  have d0 : W1.cell? ⟨w.heap.size, 0, none⟩ = _ := q0.cell 0
  have d1 : W1.cell? ⟨w.heap.size, 1, none⟩ = _ := q0.cell 1
  clear q0
  refine wp_region_held_drew (S := fun W' => (W'.cell? ⟨w.heap.size, 0, none⟩ = some (.slice ar T.rs.length cr) ∧ W'.cell? ⟨w.heap.size, 1, none⟩ = some (.slice ab T.ps.length cb)) ∧ Ext w W') (by kernel_rfl) ?_ (fun hHeld => ?_)
  · exact ⟨⟨d0, d1⟩, hx.trans (Ext.drew (Ext.refl _))⟩
  first | (refine wpAnyH_take (i := 0) (v := ?_) rfl (by kernel_rfl) (by kernel_rfl) (by kernel_rfl) (fun _ _ _ h => h) (Or.inl ⟨by rfl, ?_⟩) (by assumption) ?_; rotate_left 1; (focus (intro w hSw; (try dsimp only at hSw); go_simp; try (with_reducible rfl)))) | (refine wpAnyH_take (i := 0) (v := undef) rfl (by kernel_rfl) (by kernel_rfl) (by kernel_rfl) (fun _ _ _ h => h) (Or.inr ⟨by rfl, rfl⟩) (by assumption) ?_)
  try simp only [Act.put, List.getElem_toArray, List.getElem_cons_zero, List.setIfInBounds_toArray, List.set_cons_zero, List.set_cons_succ]
  first | (refine wpAnyH_take (i := 1) (v := ?_) rfl (by kernel_rfl) (by kernel_rfl) (by kernel_rfl) (fun _ _ _ h => h) (Or.inl ⟨by rfl, ?_⟩) (by assumption) ?_; rotate_left 1; (focus (intro w hSw; (try dsimp only at hSw); go_simp; try (with_reducible rfl)))) | (refine wpAnyH_take (i := 1) (v := undef) rfl (by kernel_rfl) (by kernel_rfl) (by kernel_rfl) (fun _ _ _ h => h) (Or.inr ⟨by rfl, rfl⟩) (by assumption) ?_)
  try simp only [Act.put, List.getElem_toArray, List.getElem_cons_zero, List.getElem_cons_succ, List.setIfInBounds_toArray, List.set_cons_zero, List.set_cons_succ]
  first | (refine wpAnyH_take (i := 2) (v := ?_) rfl (by kernel_rfl) (by kernel_rfl) (by kernel_rfl) (fun _ _ _ h => h) (Or.inl ⟨by rfl, ?_⟩) (by assumption) ?_; rotate_left 1; (focus (intro w hSw; (try dsimp only at hSw); go_simp; try (with_reducible rfl)))) | (refine wpAnyH_take (i := 2) (v := undef) rfl (by kernel_rfl) (by kernel_rfl) (by kernel_rfl) (fun _ _ _ h => h) (Or.inr ⟨by rfl, rfl⟩) (by assumption) ?_)
  try simp only [Act.put, List.getElem_toArray, List.getElem_cons_zero, List.getElem_cons_succ, List.setIfInBounds_toArray, List.set_cons_zero, List.set_cons_succ]
  first | (refine wpAnyH_take (i := 3) (v := ?_) rfl (by kernel_rfl) (by kernel_rfl) (by kernel_rfl) (fun _ _ _ h => h) (Or.inl ⟨by rfl, ?_⟩) (by assumption) ?_; rotate_left 1; (focus (intro w hSw; (try dsimp only at hSw); go_simp; try (with_reducible rfl)))) | (refine wpAnyH_take (i := 3) (v := undef) rfl (by kernel_rfl) (by kernel_rfl) (by kernel_rfl) (fun _ _ _ h => h) (Or.inr ⟨by rfl, rfl⟩) (by assumption) ?_)
  try simp only [Act.put, List.getElem_toArray, List.getElem_cons_zero, List.getElem_cons_succ, List.setIfInBounds_toArray, List.set_cons_zero, List.set_cons_succ]
  first | (refine wpAnyH_take (i := 4) (v := ?_) rfl (by kernel_rfl) (by kernel_rfl) (by kernel_rfl) (fun _ _ _ h => h) (Or.inl ⟨by rfl, ?_⟩) (by assumption) ?_; rotate_left 1; (focus (intro w hSw; (try dsimp only at hSw); go_simp; try (with_reducible rfl)))) | (refine wpAnyH_take (i := 4) (v := undef) rfl (by kernel_rfl) (by kernel_rfl) (by kernel_rfl) (fun _ _ _ h => h) (Or.inr ⟨by rfl, rfl⟩) (by assumption) ?_)
  try simp only [Act.put, List.getElem_toArray, List.getElem_cons_zero, List.getElem_cons_succ, List.setIfInBounds_toArray, List.set_cons_zero, List.set_cons_succ]
  first | (refine wpAnyH_take (i := 5) (v := ?_) rfl (by kernel_rfl) (by kernel_rfl) (by kernel_rfl) (fun _ _ _ h => h) (Or.inl ⟨by rfl, ?_⟩) (by assumption) ?_; rotate_left 1; (focus (intro w hSw; (try dsimp only at hSw); go_simp; try (with_reducible rfl)))) | (refine wpAnyH_take (i := 5) (v := undef) rfl (by kernel_rfl) (by kernel_rfl) (by kernel_rfl) (fun _ _ _ h => h) (Or.inr ⟨by rfl, rfl⟩) (by assumption) ?_)
  try simp only [Act.put, List.getElem_toArray, List.getElem_cons_zero, List.getElem_cons_succ, List.setIfInBounds_toArray, List.set_cons_zero, List.set_cons_succ]
  first | (refine wpAnyH_take (i := 6) (v := ?_) rfl (by kernel_rfl) (by kernel_rfl) (by kernel_rfl) (fun _ _ _ h => h) (Or.inl ⟨by rfl, ?_⟩) (by assumption) ?_; rotate_left 1; (focus (intro w hSw; (try dsimp only at hSw); go_simp; try (with_reducible rfl)))) | (refine wpAnyH_take (i := 6) (v := undef) rfl (by kernel_rfl) (by kernel_rfl) (by kernel_rfl) (fun _ _ _ h => h) (Or.inr ⟨by rfl, rfl⟩) (by assumption) ?_)
  try simp only [Act.put, List.getElem_toArray, List.getElem_cons_zero, List.getElem_cons_succ, List.setIfInBounds_toArray, List.set_cons_zero, List.set_cons_succ]
  first | (refine wpAnyH_take (i := 7) (v := ?_) rfl (by kernel_rfl) (by kernel_rfl) (by kernel_rfl) (fun _ _ _ h => h) (Or.inl ⟨by rfl, ?_⟩) (by assumption) ?_; rotate_left 1; (focus (intro w hSw; (try dsimp only at hSw); go_simp; try (with_reducible rfl)))) | (refine wpAnyH_take (i := 7) (v := undef) rfl (by kernel_rfl) (by kernel_rfl) (by kernel_rfl) (fun _ _ _ h => h) (Or.inr ⟨by rfl, rfl⟩) (by assumption) ?_)
  try simp only [Act.put, List.getElem_toArray, List.getElem_cons_zero, List.getElem_cons_succ, List.setIfInBounds_toArray, List.set_cons_zero, List.set_cons_succ]
  first | (refine wpAnyH_take (i := 8) (v := ?_) rfl (by kernel_rfl) (by kernel_rfl) (by kernel_rfl) (fun _ _ _ h => h) (Or.inl ⟨by rfl, ?_⟩) (by assumption) ?_; rotate_left 1; (focus (intro w hSw; (try dsimp only at hSw); go_simp; try (with_reducible rfl)))) | (refine wpAnyH_take (i := 8) (v := undef) rfl (by kernel_rfl) (by kernel_rfl) (by kernel_rfl) (fun _ _ _ h => h) (Or.inr ⟨by rfl, rfl⟩) (by assumption) ?_)
  try simp only [Act.put, List.getElem_toArray, List.getElem_cons_zero, List.getElem_cons_succ, List.setIfInBounds_toArray, List.set_cons_zero, List.set_cons_succ]
  first | (refine wpAnyH_take (i := 9) (v := ?_) rfl (by kernel_rfl) (by kernel_rfl) (by kernel_rfl) (fun _ _ _ h => h) (Or.inl ⟨by rfl, ?_⟩) (by assumption) ?_; rotate_left 1; (focus (intro w hSw; (try dsimp only at hSw); go_simp; try (with_reducible rfl)))) | (refine wpAnyH_take (i := 9) (v := undef) rfl (by kernel_rfl) (by kernel_rfl) (by kernel_rfl) (fun _ _ _ h => h) (Or.inr ⟨by rfl, rfl⟩) (by assumption) ?_)
  try simp only [Act.put, List.getElem_toArray, List.getElem_cons_zero, List.getElem_cons_succ, List.setIfInBounds_toArray, List.set_cons_zero, List.set_cons_succ]
  refine wpAnyH_done (by kernel_rfl) ?_ _
  clear d0 d1
  go_upto_region 2 with fail
  cases hq : (X1 == 0)
  · have HQ := Lib.hid hq
    refine wp_region_held_drew (S := fun W' => (W'.cell? ⟨w.heap.size, 0, none⟩ = some (.slice ar T.rs.length cr) ∧ W'.cell? ⟨w.heap.size, 1, none⟩ = some (.slice ab T.ps.length cb)) ∧ Ext w W') (by kernel_rfl) ?_ (fun hHeld => ?_)
    · exact ⟨hHeld.1, hHeld.2.trans (Ext.drew (Ext.refl _))⟩
    first | (refine wpAnyH_take (i := 0) (v := ?_) rfl (by kernel_rfl) (by kernel_rfl) (by kernel_rfl) (fun _ _ _ h => h) (Or.inl ⟨by rfl, ?_⟩) (by assumption) ?_; rotate_left 1; (focus (intro w hSw; (try dsimp only at hSw); go_simp; try (with_reducible rfl)))) | (refine wpAnyH_take (i := 0) (v := undef) rfl (by kernel_rfl) (by kernel_rfl) (by kernel_rfl) (fun _ _ _ h => h) (Or.inr ⟨by rfl, rfl⟩) (by assumption) ?_)
    try simp only [Act.put, List.getElem_toArray, List.getElem_cons_zero, List.setIfInBounds_toArray, List.set_cons_zero, List.set_cons_succ]
    refine wpAnyH_ready (rs := [1]) (by kernel_rfl) (by simp) ?_
    refine AllReadyH.cons rfl (fun K hK => ?_) AllReadyH.nil
    go_simp
    go_at_call 82; refine (KL _ hHeld.2).mono ?_; rintro e w2 ⟨rfl, hz⟩
    refine hK.out _ _ ?_ (fun hHeld => ?_)
    · exact ⟨⟨hz.cell hHeld.1.1, hz.cell hHeld.1.2⟩, hHeld.2.trans hz⟩
    clear hK K
    try simp only [Act.put, List.getElem_toArray, List.getElem_cons_zero, List.getElem_cons_succ, List.setIfInBounds_toArray, List.set_cons_zero, List.set_cons_succ]
    first | (refine wpAnyH_take (i := 2) (v := ?_) rfl (by kernel_rfl) (by kernel_rfl) (by kernel_rfl) (fun _ _ _ h => h) (Or.inl ⟨by rfl, ?_⟩) (by assumption) ?_; rotate_left 1; (focus (intro w hSw; (try dsimp only at hSw); go_simp; try (with_reducible rfl)))) | (refine wpAnyH_take (i := 2) (v := undef) rfl (by kernel_rfl) (by kernel_rfl) (by kernel_rfl) (fun _ _ _ h => h) (Or.inr ⟨by rfl, rfl⟩) (by assumption) ?_)
    try simp only [Act.put, List.getElem_toArray, List.getElem_cons_zero, List.getElem_cons_succ, List.setIfInBounds_toArray, List.set_cons_zero, List.set_cons_succ]
    first | (refine wpAnyH_take (i := 3) (v := ?_) rfl (by kernel_rfl) (by kernel_rfl) (by kernel_rfl) (fun _ _ _ h => h) (Or.inl ⟨by rfl, ?_⟩) (by assumption) ?_; rotate_left 1; (focus (intro w hSw; (try dsimp only at hSw); go_simp; try (with_reducible rfl)))) | (refine wpAnyH_take (i := 3) (v := undef) rfl (by kernel_rfl) (by kernel_rfl) (by kernel_rfl) (fun _ _ _ h => h) (Or.inr ⟨by rfl, rfl⟩) (by assumption) ?_)
    try simp only [Act.put, List.getElem_toArray, List.getElem_cons_zero, List.getElem_cons_succ, List.setIfInBounds_toArray, List.set_cons_zero, List.set_cons_succ]
    (refine wpAnyH_take (i := 4) (v := undef) rfl (by kernel_rfl) (by kernel_rfl) (by kernel_rfl) (fun _ _ _ h => h) (Or.inr ⟨by rfl, rfl⟩) (by assumption) ?_)
    try simp only [Act.put, List.getElem_toArray, List.getElem_cons_zero, List.getElem_cons_succ, List.setIfInBounds_toArray, List.set_cons_zero, List.set_cons_succ]
    (refine wpAnyH_take (i := 6) (v := undef) rfl (by kernel_rfl) (by kernel_rfl) (by kernel_rfl) (fun _ _ _ h => h) (Or.inr ⟨by rfl, rfl⟩) (by assumption) ?_)
    try simp only [Act.put, List.getElem_toArray, List.getElem_cons_zero, List.getElem_cons_succ, List.setIfInBounds_toArray, List.set_cons_zero, List.set_cons_succ]
    (refine wpAnyH_take (i := 8) (v := undef) rfl (by kernel_rfl) (by kernel_rfl) (by kernel_rfl) (fun _ _ _ h => h) (Or.inr ⟨by rfl, rfl⟩) (by assumption) ?_)
    try simp only [Act.put, List.getElem_toArray, List.getElem_cons_zero, List.getElem_cons_succ, List.setIfInBounds_toArray, List.set_cons_zero, List.set_cons_succ]
    (refine wpAnyH_take (i := 5) (v := undef) rfl (by kernel_rfl) (by kernel_rfl) (by kernel_rfl) (fun _ _ _ h => h) (Or.inr ⟨by rfl, rfl⟩) (by assumption) ?_)
    try simp only [Act.put, List.getElem_toArray, List.getElem_cons_zero, List.getElem_cons_succ, List.setIfInBounds_toArray, List.set_cons_zero, List.set_cons_succ]
    (refine wpAnyH_take (i := 7) (v := undef) rfl (by kernel_rfl) (by kernel_rfl) (by kernel_rfl) (fun _ _ _ h => h) (Or.inr ⟨by rfl, rfl⟩) (by assumption) ?_)
    try simp only [Act.put, List.getElem_toArray, List.getElem_cons_zero, List.getElem_cons_succ, List.setIfInBounds_toArray, List.set_cons_zero, List.set_cons_succ]
    (refine wpAnyH_take (i := 9) (v := undef) rfl (by kernel_rfl) (by kernel_rfl) (by kernel_rfl) (fun _ _ _ h => h) (Or.inr ⟨by rfl, rfl⟩) (by assumption) ?_)
    try simp only [Act.put, List.getElem_toArray, List.getElem_cons_zero, List.getElem_cons_succ, List.setIfInBounds_toArray, List.set_cons_zero, List.set_cons_succ]
    (refine wpAnyH_take (i := 10) (v := undef) rfl (by kernel_rfl) (by kernel_rfl) (by kernel_rfl) (fun _ _ _ h => h) (Or.inr ⟨by rfl, rfl⟩) (by assumption) ?_)
    try simp only [Act.put, List.getElem_toArray, List.getElem_cons_zero, List.getElem_cons_succ, List.setIfInBounds_toArray, List.set_cons_zero, List.set_cons_succ]
    (refine wpAnyH_take (i := 11) (v := undef) rfl (by kernel_rfl) (by kernel_rfl) (by kernel_rfl) (fun _ _ _ h => h) (Or.inr ⟨by rfl, rfl⟩) (by assumption) ?_)
    try simp only [Act.put, List.getElem_toArray, List.getElem_cons_zero, List.getElem_cons_succ, List.setIfInBounds_toArray, List.set_cons_zero, List.set_cons_succ]
    first | (refine wpAnyH_take (i := 12) (v := ?_) rfl (by kernel_rfl) (by kernel_rfl) (by kernel_rfl) (fun _ _ _ h => h) (Or.inl ⟨by rfl, ?_⟩) (by assumption) ?_; rotate_left 1; (focus (intro w hSw; (try dsimp only at hSw); go_simp; try (with_reducible rfl)))) | (refine wpAnyH_take (i := 12) (v := undef) rfl (by kernel_rfl) (by kernel_rfl) (by kernel_rfl) (fun _ _ _ h => h) (Or.inr ⟨by rfl, rfl⟩) (by assumption) ?_)
    try simp only [Act.put, List.getElem_toArray, List.getElem_cons_zero, List.getElem_cons_succ, List.setIfInBounds_toArray, List.set_cons_zero, List.set_cons_succ]
    first | (refine wpAnyH_take (i := 13) (v := ?_) rfl (by kernel_rfl) (by kernel_rfl) (by kernel_rfl) (fun _ _ _ h => h) (Or.inl ⟨by rfl, ?_⟩) (by assumption) ?_; rotate_left 1; (focus (intro w hSw; (try dsimp only at hSw); go_simp; try (with_reducible rfl)))) | (refine wpAnyH_take (i := 13) (v := undef) rfl (by kernel_rfl) (by kernel_rfl) (by kernel_rfl) (fun _ _ _ h => h) (Or.inr ⟨by rfl, rfl⟩) (by assumption) ?_)
    try simp only [Act.put, List.getElem_toArray, List.getElem_cons_zero, List.getElem_cons_succ, List.setIfInBounds_toArray, List.set_cons_zero, List.set_cons_succ]
    refine wpAnyH_done (by kernel_rfl) ?_ _
    go_wp2
    go_ret
    exact ⟨ret_bool (by rw [HF.out, HQ.out]; rfl), hHeld.2⟩
  · have HQ := Lib.hid hq
    refine wp_region_held_drew (S := fun W' => (W'.cell? ⟨w.heap.size, 0, none⟩ = some (.slice ar T.rs.length cr) ∧ W'.cell? ⟨w.heap.size, 1, none⟩ = some (.slice ab T.ps.length cb)) ∧ Ext w W') (by kernel_rfl) ?_ (fun hHeld => ?_)
    · exact ⟨hHeld.1, hHeld.2.trans (Ext.drew (Ext.refl _))⟩
    first | (refine wpAnyH_take (i := 0) (v := ?_) rfl (by kernel_rfl) (by kernel_rfl) (by kernel_rfl) (fun _ _ _ h => h) (Or.inl ⟨by rfl, ?_⟩) (by assumption) ?_; rotate_left 1; (focus (intro w hSw; (try dsimp only at hSw); go_simp; try (with_reducible rfl)))) | (refine wpAnyH_take (i := 0) (v := undef) rfl (by kernel_rfl) (by kernel_rfl) (by kernel_rfl) (fun _ _ _ h => h) (Or.inr ⟨by rfl, rfl⟩) (by assumption) ?_)
    try simp only [Act.put, List.getElem_toArray, List.getElem_cons_zero, List.setIfInBounds_toArray, List.set_cons_zero, List.set_cons_succ]
    refine wpAnyH_ready (rs := [1]) (by kernel_rfl) (by simp) ?_
    refine AllReadyH.cons rfl (fun K hK => ?_) AllReadyH.nil
    go_simp
    go_at_call 82; refine (KL _ hHeld.2).mono ?_; rintro e w2 ⟨rfl, hz⟩
    refine hK.out _ _ ?_ (fun hHeld => ?_)
    · exact ⟨⟨hz.cell hHeld.1.1, hz.cell hHeld.1.2⟩, hHeld.2.trans hz⟩
    clear hK K
    try simp only [Act.put, List.getElem_toArray, List.getElem_cons_zero, List.getElem_cons_succ, List.setIfInBounds_toArray, List.set_cons_zero, List.set_cons_succ]
    first | (refine wpAnyH_take (i := 2) (v := ?_) rfl (by kernel_rfl) (by kernel_rfl) (by kernel_rfl) (fun _ _ _ h => h) (Or.inl ⟨by rfl, ?_⟩) (by assumption) ?_; rotate_left 1; (focus (intro w hSw; (try dsimp only at hSw); go_simp; try (with_reducible rfl)))) | (refine wpAnyH_take (i := 2) (v := undef) rfl (by kernel_rfl) (by kernel_rfl) (by kernel_rfl) (fun _ _ _ h => h) (Or.inr ⟨by rfl, rfl⟩) (by assumption) ?_)
    try simp only [Act.put, List.getElem_toArray, List.getElem_cons_zero, List.getElem_cons_succ, List.setIfInBounds_toArray, List.set_cons_zero, List.set_cons_succ]
    first | (refine wpAnyH_take (i := 3) (v := ?_) rfl (by kernel_rfl) (by kernel_rfl) (by kernel_rfl) (fun _ _ _ h => h) (Or.inl ⟨by rfl, ?_⟩) (by assumption) ?_; rotate_left 1; (focus (intro w hSw; (try dsimp only at hSw); go_simp; try (with_reducible rfl)))) | (refine wpAnyH_take (i := 3) (v := undef) rfl (by kernel_rfl) (by kernel_rfl) (by kernel_rfl) (fun _ _ _ h => h) (Or.inr ⟨by rfl, rfl⟩) (by assumption) ?_)
    try simp only [Act.put, List.getElem_toArray, List.getElem_cons_zero, List.getElem_cons_succ, List.setIfInBounds_toArray, List.set_cons_zero, List.set_cons_succ]
    first | (refine wpAnyH_take (i := 4) (v := ?_) rfl (by kernel_rfl) (by kernel_rfl) (by kernel_rfl) (fun _ _ _ h => h) (Or.inl ⟨by rfl, ?_⟩) (by assumption) ?_; rotate_left 1; (focus (intro w hSw; (try dsimp only at hSw); go_simp; try (with_reducible rfl)))) | (refine wpAnyH_take (i := 4) (v := undef) rfl (by kernel_rfl) (by kernel_rfl) (by kernel_rfl) (fun _ _ _ h => h) (Or.inr ⟨by rfl, rfl⟩) (by assumption) ?_)
    try simp only [Act.put, List.getElem_toArray, List.getElem_cons_zero, List.getElem_cons_succ, List.setIfInBounds_toArray, List.set_cons_zero, List.set_cons_succ]
    first | (refine wpAnyH_take (i := 6) (v := ?_) rfl (by kernel_rfl) (by kernel_rfl) (by kernel_rfl) (fun _ _ _ h => h) (Or.inl ⟨by rfl, ?_⟩) (by assumption) ?_; rotate_left 1; (focus (intro w hSw; (try dsimp only at hSw); go_simp; try (with_reducible rfl)))) | (refine wpAnyH_take (i := 6) (v := undef) rfl (by kernel_rfl) (by kernel_rfl) (by kernel_rfl) (fun _ _ _ h => h) (Or.inr ⟨by rfl, rfl⟩) (by assumption) ?_)
    try simp only [Act.put, List.getElem_toArray, List.getElem_cons_zero, List.getElem_cons_succ, List.setIfInBounds_toArray, List.set_cons_zero, List.set_cons_succ]
    first | (refine wpAnyH_take (i := 8) (v := ?_) rfl (by kernel_rfl) (by kernel_rfl) (by kernel_rfl) (fun _ _ _ h => h) (Or.inl ⟨by rfl, ?_⟩) (by assumption) ?_; rotate_left 1; (focus (intro w hSw; (try dsimp only at hSw); go_simp; try (with_reducible rfl)))) | (refine wpAnyH_take (i := 8) (v := undef) rfl (by kernel_rfl) (by kernel_rfl) (by kernel_rfl) (fun _ _ _ h => h) (Or.inr ⟨by rfl, rfl⟩) (by assumption) ?_)
    try simp only [Act.put, List.getElem_toArray, List.getElem_cons_zero, List.getElem_cons_succ, List.setIfInBounds_toArray, List.set_cons_zero, List.set_cons_succ]
    refine wpAnyH_ready (rs := [5]) (by kernel_rfl) (by simp) ?_
    refine AllReadyH.cons rfl (fun K hK => ?_) AllReadyH.nil
    go_simp
    go_at_call 82; refine (KH _ hHeld.2).mono ?_; rintro e w3 ⟨rfl, hz⟩
    refine hK.out _ _ ?_ (fun hHeld => ?_)
    · exact ⟨⟨hz.cell hHeld.1.1, hz.cell hHeld.1.2⟩, hHeld.2.trans hz⟩
    clear hK K
    try simp only [Act.put, List.getElem_toArray, List.getElem_cons_zero, List.getElem_cons_succ, List.setIfInBounds_toArray, List.set_cons_zero, List.set_cons_succ]
    refine wpAnyH_ready (rs := [7]) (by kernel_rfl) (by simp) ?_
    refine AllReadyH.cons rfl (fun K hK => ?_) AllReadyH.nil
    go_simp
    go_at_call 106; refine (KS _ hHeld.2).mono ?_; rintro e w4 ⟨rfl, hz⟩
    refine hK.out _ _ ?_ (fun hHeld => ?_)
    · exact ⟨⟨hz.cell hHeld.1.1, hz.cell hHeld.1.2⟩, hHeld.2.trans hz⟩
    clear hK K
    try simp only [Act.put, List.getElem_toArray, List.getElem_cons_zero, List.getElem_cons_succ, List.setIfInBounds_toArray, List.set_cons_zero, List.set_cons_succ]
    refine wpAnyH_ready (rs := [9]) (by kernel_rfl) (by simp) ?_
    refine AllReadyH.cons rfl (fun K hK => ?_) AllReadyH.nil
    go_simp
    go_at_call 70; refine (KW _ hHeld.2).mono ?_; rintro e w5 ⟨rfl, hz⟩
    refine hK.out _ _ ?_ (fun hHeld => ?_)
    · exact ⟨⟨hz.cell hHeld.1.1, hz.cell hHeld.1.2⟩, hHeld.2.trans hz⟩
    clear hK K
    try simp only [Act.put, List.getElem_toArray, List.getElem_cons_zero, List.getElem_cons_succ, List.setIfInBounds_toArray, List.set_cons_zero, List.set_cons_succ]
    first | (refine wpAnyH_take (i := 10) (v := ?_) rfl (by kernel_rfl) (by kernel_rfl) (by kernel_rfl) (fun _ _ _ h => h) (Or.inl ⟨by rfl, ?_⟩) (by assumption) ?_; rotate_left 1; (focus (intro w hSw; (try dsimp only at hSw); go_simp; try (with_reducible rfl)))) | (refine wpAnyH_take (i := 10) (v := undef) rfl (by kernel_rfl) (by kernel_rfl) (by kernel_rfl) (fun _ _ _ h => h) (Or.inr ⟨by rfl, rfl⟩) (by assumption) ?_)
    try simp only [Act.put, List.getElem_toArray, List.getElem_cons_zero, List.getElem_cons_succ, List.setIfInBounds_toArray, List.set_cons_zero, List.set_cons_succ]
    first | (refine wpAnyH_take (i := 11) (v := ?_) rfl (by kernel_rfl) (by kernel_rfl) (by kernel_rfl) (fun _ _ _ h => h) (Or.inl ⟨by rfl, ?_⟩) (by assumption) ?_; rotate_left 1; (focus (intro w hSw; (try dsimp only at hSw); go_simp; try (with_reducible rfl)))) | (refine wpAnyH_take (i := 11) (v := undef) rfl (by kernel_rfl) (by kernel_rfl) (by kernel_rfl) (fun _ _ _ h => h) (Or.inr ⟨by rfl, rfl⟩) (by assumption) ?_)
    try simp only [Act.put, List.getElem_toArray, List.getElem_cons_zero, List.getElem_cons_succ, List.setIfInBounds_toArray, List.set_cons_zero, List.set_cons_succ]
    first | (refine wpAnyH_take (i := 12) (v := ?_) rfl (by kernel_rfl) (by kernel_rfl) (by kernel_rfl) (fun _ _ _ h => h) (Or.inl ⟨by rfl, ?_⟩) (by assumption) ?_; rotate_left 1; (focus (intro w hSw; (try dsimp only at hSw); go_simp; try (with_reducible rfl)))) | (refine wpAnyH_take (i := 12) (v := undef) rfl (by kernel_rfl) (by kernel_rfl) (by kernel_rfl) (fun _ _ _ h => h) (Or.inr ⟨by rfl, rfl⟩) (by assumption) ?_)
    try simp only [Act.put, List.getElem_toArray, List.getElem_cons_zero, List.getElem_cons_succ, List.setIfInBounds_toArray, List.set_cons_zero, List.set_cons_succ]
    first | (refine wpAnyH_take (i := 13) (v := ?_) rfl (by kernel_rfl) (by kernel_rfl) (by kernel_rfl) (fun _ _ _ h => h) (Or.inl ⟨by rfl, ?_⟩) (by assumption) ?_; rotate_left 1; (focus (intro w hSw; (try dsimp only at hSw); go_simp; try (with_reducible rfl)))) | (refine wpAnyH_take (i := 13) (v := undef) rfl (by kernel_rfl) (by kernel_rfl) (by kernel_rfl) (fun _ _ _ h => h) (Or.inr ⟨by rfl, rfl⟩) (by assumption) ?_)
    try simp only [Act.put, List.getElem_toArray, List.getElem_cons_zero, List.getElem_cons_succ, List.setIfInBounds_toArray, List.set_cons_zero, List.set_cons_succ]
    refine wpAnyH_done (by kernel_rfl) ?_ _
    go_wp2
    go_ret
    exact ⟨ret_bool (by rw [HF.out, HQ.out]; rfl), hHeld.2⟩
end Go.Proofs.Ythopgonbndoidaa
namespace Go.Proofs.Ythopgonbndoidaa
open Go.RowKit Go.Shelf

theorem RasAt.len {w : World} {v : Value} {l : List Ra} (h : RasAt w v l) : ∃ ao cap, v = .slice ao l.length cap ∧ l.length ≤ cap := by obtain ⟨ao, cap, hv, hle, _⟩ := h; exact ⟨ao, cap, hv, hle⟩
theorem RasAt.get {w : World} {ao : Option Addr} {n cap : Nat} {l : List Ra} (h : RasAt w (.slice ao n cap) l) (i : Nat) (hi : i < l.length) : ∃ b o, ao = some ⟨b, o, none⟩ ∧
    w.cell? ⟨b, o + i * 2, none⟩ = some (.int .i64 (l[i].n)) ∧ w.cell? ⟨b, o + i * 2 + 1, none⟩ = some (.int .i64 (l[i].d)) := by
  obtain ⟨ao', cap', hv, _, hc⟩ := h
  simp only [Value.slice.injEq] at hv
  obtain ⟨rfl, rfl, rfl⟩ := hv
  exact hc i hi
/-- the whole part of a number of parts; what it is rounded up to -/
def dnX (x : Int) : Int := x / 5354228880
def upX (x : Int) : Int := x / 5354228880 + min 1 (x % 5354228880)
theorem pn_facts (x : Int) (h0 : 0 ≤ x) (h1 : x ≤ 8421473853112320) : ∃ a b : Int, ratM x = ⟨a, b⟩ ∧ (0 < b ∧ b ≤ 5354228880) ∧ (0 ≤ a ∧ a ≤ 8421473853112320) ∧ a.tdiv b = dnX x ∧ min 1 (a.tmod b) = min 1 (x % 5354228880) ∧ (0 ≤ a.tmod b ∧ a.tmod b < 5354228880) ∧ 0 ≤ dnX x ∧ dnX x ≤ 1572864 := by
  obtain ⟨g, a, b, hg, hx, hw, hb, _, hr⟩ := ratM_parts x
  have ha : 0 ≤ a := by
    rcases Int.lt_or_le a 0 with h | h
    · have : g * a < 0 := Int.mul_neg_of_pos_of_neg hg h
      omega
    · exact h
  have ha2 : a ≤ g * a := by
    have := Int.mul_le_mul_of_nonneg_right (show 1 ≤ g by omega) ha
    omega
  have hb2 : b ≤ g * b := by
    have := Int.mul_le_mul_of_nonneg_right (show 1 ≤ g by omega) (show 0 ≤ b by omega)
    omega
  have hd : a / b = dnX x := by unfold dnX; rw [hw, hx, Int.mul_ediv_mul_of_pos _ _ hg]
  have hm : x % 5354228880 = g * (a % b) := by rw [hw, hx, Int.mul_emod_mul_of_pos _ _ hg]
  have hm0 := Int.emod_nonneg a (show b ≠ 0 by omega)
  have hm1 := Int.emod_lt_of_pos a hb
  refine ⟨a, b, hr, ⟨hb, by omega⟩, ⟨ha, by omega⟩, ?_, ?_, ?_, ?_, ?_⟩
  · rw [Int.tdiv_eq_ediv_of_nonneg ha, hd]
  · rw [Int.tmod_eq_emod_of_nonneg ha, hm]
    rcases Int.lt_or_le 0 (a % b) with h | h
    · have : a % b ≤ g * (a % b) := by
        have := Int.mul_le_mul_of_nonneg_right (show 1 ≤ g by omega) hm0
        omega
      omega
    · have : a % b = 0 := by omega
      rw [this]; simp
  · rw [Int.tmod_eq_emod_of_nonneg ha]; omega
  · unfold dnX; omega
  · unfold dnX; omega
def loL (T : Tr) (l : List Py) : List Int := l.map (fun p => dnX (shX T p))
def hiL (T : Tr) (l : List Py) : List Int := l.map (fun p => upX (shX T p))
theorem loL_snoc (T : Tr) (l : List Py) (p : Py) : loL T (l ++ [p]) = loL T l ++ [dnX (shX T p)] := by simp [loL]
theorem hiL_snoc (T : Tr) (l : List Py) (p : Py) : hiL T (l ++ [p]) = hiL T l ++ [upX (shX T p)] := by simp [hiL]
/-- one step of the rounding -/
def pnS (T : Tr) (s : List Int × List Int) (i : Nat) : List Int × List Int :=
  if btwB T (s.1.set i (s.2.getD i 0)) s.2 = true then (s.1.set i (s.2.getD i 0), s.2) else (s.1, s.2.set i (s.1.getD i 0))
def pnF (T : Tr) (k : Nat) : List Int × List Int := (List.range k).foldl (pnS T) (loL T T.ps, hiL T T.ps)
theorem pnF_succ (T : Tr) (k : Nat) : pnF T (k + 1) = pnS T (pnF T k) k := by unfold pnF; rw [List.range_succ, List.foldl_append]; rfl
def pnX (T : Tr) : List Int := (pnF T T.ps.length).1

theorem shX_bd {T : Tr} (hok : Ok T) {p : Py} (hp : p ∈ T.ps) : 0 ≤ shX T p ∧ shX T p ≤ 8421473853112320 := by
  have h := shF_bd (T := T) (w := p.w) (l := upL T.rs p.reach) (fun r hr => by
    obtain ⟨_, h2, h3, h4⟩ := pay_facts hok hp hr
    exact pcX_bd h4 h2.1 h2.2 h3)
  have hl := upL_len hok.rv T.rs.length p.reach (by have := (hok.pv p hp).2.1; omega) (hok.pv p hp).2.1.2
  have := hok.lr
  unfold shX
  omega
theorem upX_bd {x : Int} (h0 : 0 ≤ x) (h1 : x ≤ 8421473853112320) : dnX x ≤ upX x ∧ upX x ≤ dnX x + 1 ∧ 0 ≤ dnX x ∧ upX x ≤ 1572865 := by unfold upX dnX; omega
/-- what the rounding keeps -/
structure PnV (n : Nat) (s : List Int × List Int) : Prop where
  l1 : s.1.length = n
  l2 : s.2.length = n
  b1 : ∀ x ∈ s.1, 0 ≤ x ∧ x ≤ 1073741824
  b2 : ∀ x ∈ s.2, 0 ≤ x ∧ x ≤ 1073741824
theorem mem_set_of {l : List Int} {i : Nat} {v x : Int} (h : x ∈ l.set i v) : x = v ∨ x ∈ l := by
  rcases List.mem_or_eq_of_mem_set h with h | h
  · exact .inr h
  · exact .inl h
theorem PnV.step {T : Tr} {n : Nat} {s : List Int × List Int} (h : PnV n s) {i : Nat} (hi : i < n) : PnV n (pnS T s i) := by
  have hd1 : s.1.getD i 0 ∈ s.1 := by rw [List.getD_eq_getElem?_getD, List.getElem?_eq_getElem (by rw [h.l1]; exact hi)]; simp
  have hd2 : s.2.getD i 0 ∈ s.2 := by rw [List.getD_eq_getElem?_getD, List.getElem?_eq_getElem (by rw [h.l2]; exact hi)]; simp
  unfold pnS
  split
  · exact ⟨by simp [h.l1], h.l2, fun x hx => by
      rcases mem_set_of hx with rfl | hx
      · exact h.b2 _ hd2
      · exact h.b1 _ hx, h.b2⟩
  · exact ⟨h.l1, by simp [h.l2], h.b1, fun x hx => by
      rcases mem_set_of hx with rfl | hx
      · exact h.b1 _ hd1
      · exact h.b2 _ hx⟩
theorem pnV_start {T : Tr} (hok : Ok T) : PnV T.ps.length (loL T T.ps, hiL T T.ps) :=
  ⟨by simp [loL], by simp [hiL], fun x hx => by
    obtain ⟨p, hp, rfl⟩ := List.mem_map.1 hx
    have h := shX_bd hok hp
    have := upX_bd h.1 h.2
    omega, fun x hx => by
    obtain ⟨p, hp, rfl⟩ := List.mem_map.1 hx
    have h := shX_bd hok hp
    have := upX_bd h.1 h.2
    omega⟩
theorem pnV_at {T : Tr} (hok : Ok T) : ∀ k, k ≤ T.ps.length → PnV T.ps.length (pnF T k) := by
  intro k
  induction k with
  | zero => intro _; exact pnV_start hok
  | succ k ih => intro h; rw [pnF_succ]; exact (ih (by omega)).step (by omega)

/-- two rows of the call's own, beside a box -/
structure TwoR (w : World) (n₀ : Nat) (W : World) (cs : Array Value) (vl vh : Value) (lo hi : List Int) : Prop where
  bx : Cls w.heap.size 25 cs W
  rl : RowI n₀ vl lo W
  rh : RowI n₀ vh hi W
  ne : ∀ g, vl.ownBlock = some g → vh.ownBlock ≠ some g
  ex : Ext w W
  nb : w.heap.size < n₀ ∧ n₀ ≤ W.heap.size
theorem TwoR.ext {w W W' : World} {n₀ : Nat} {cs : Array Value} {vl vh : Value} {lo hi : List Int} (h : TwoR w n₀ W cs vl vh lo hi) (x : Ext W W') : TwoR w n₀ W' cs vl vh lo hi :=
  ⟨h.bx.ext x, rowI_ext h.rl x, rowI_ext h.rh x, h.ne, h.ex.trans x, h.nb.1, Nat.le_trans h.nb.2 x.size⟩
theorem ne_opt {u v : Value} (h : ∀ g, u.ownBlock = some g → v.ownBlock ≠ some g) : v.ownBlock = none ∨ v.ownBlock ≠ u.ownBlock := by
  cases hu : u.ownBlock with
  | none =>
    cases hv : v.ownBlock with
    | none => exact .inl rfl
    | some g => exact .inr (by simp)
  | some g => exact .inr (h g hu)
theorem TwoR.addL {w W W' : World} {n₀ : Nat} {cs : Array Value} {vl vh v' : Value} {lo hi : List Int} {x : Int} {tmp : Obj} (h : TwoR w n₀ W cs vl vh lo hi) (hr : RowI n₀ v' (lo ++ [x]) W') (hg : (W.alloc tmp).grownBy W' vl.ownBlock)
    (ha : v'.ownBlock = vl.ownBlock ∨ v'.ownBlock = some (W.alloc tmp).heap.size) : TwoR w n₀ W' cs v' vh (lo ++ [x]) hi := by
  have hg' := grown_pre hg
  have hnb := h.nb
  have hsz := hg'.size
  refine ⟨h.bx.kept hg' (own_ge h.rl (by omega)), hr, rowI_kept h.rh hg' (ne_opt h.ne), fun g hv hv2 => ?_, ext_own h.ex h.rl (by omega) hg', by omega⟩
  rcases ha with ha | ha
  · exact h.ne g (ha.symm.trans hv) hv2
  · have := (h.rh.lt g hv2).2
    rw [ha] at hv
    have := Option.some.inj hv
    simp at this
    omega
theorem TwoR.addH {w W W' : World} {n₀ : Nat} {cs : Array Value} {vl vh v' : Value} {lo hi : List Int} {x : Int} {tmp : Obj} (h : TwoR w n₀ W cs vl vh lo hi) (hr : RowI n₀ v' (hi ++ [x]) W') (hg : (W.alloc tmp).grownBy W' vh.ownBlock)
    (ha : v'.ownBlock = vh.ownBlock ∨ v'.ownBlock = some (W.alloc tmp).heap.size) : TwoR w n₀ W' cs vl v' lo (hi ++ [x]) := by
  have hg' := grown_pre hg
  have hnb := h.nb
  have hsz := hg'.size
  refine ⟨h.bx.kept hg' (own_ge h.rh (by omega)), rowI_kept h.rl hg' (ne_opt fun g e1 e2 => h.ne g e2 e1), hr, fun g hv hv2 => ?_, ext_own h.ex h.rh (by omega) hg', by omega⟩
  rcases ha with ha | ha
  · exact h.ne g hv (ha.symm.trans hv2)
  · have := (h.rl.lt g hv).2
    rw [ha] at hv2
    have := Option.some.inj hv2
    simp at this
    omega
theorem TwoR.setL {w W : World} {n₀ : Nat} {cs : Array Value} {g c i : Nat} {vh : Value} {lo hi : List Int} (h : TwoR w n₀ W cs (.slice (some ⟨g, 0, none⟩) lo.length c) vh lo hi) (x : Int) :
    TwoR w n₀ (W.setCell ⟨g, i, none⟩ (.int .i64 x)) cs (.slice (some ⟨g, 0, none⟩) lo.length c) vh (lo.set i x) hi := by
  have hb := (h.rl.lt g rfl).1
  have hnb := h.nb
  refine ⟨h.bx.other (by omega) i _, rowI_set h.rl x, rowI_kept h.rh (grown_set W g i _) (ne_opt (u := .slice (some ⟨g, 0, none⟩) lo.length c) h.ne), h.ne, h.ex.setCell (by simp; omega) _, by simpa [World.setCell] using hnb⟩
theorem TwoR.setH {w W : World} {n₀ : Nat} {cs : Array Value} {g c i : Nat} {vl : Value} {lo hi : List Int} (h : TwoR w n₀ W cs vl (.slice (some ⟨g, 0, none⟩) hi.length c) lo hi) (x : Int) :
    TwoR w n₀ (W.setCell ⟨g, i, none⟩ (.int .i64 x)) cs vl (.slice (some ⟨g, 0, none⟩) hi.length c) lo (hi.set i x) := by
  have hb := (h.rh.lt g rfl).1
  have hnb := h.nb
  refine ⟨h.bx.other (by omega) i _, rowI_kept h.rl (grown_set W g i _) (ne_opt (u := .slice (some ⟨g, 0, none⟩) hi.length c) (fun g e1 e2 => h.ne g e2 e1)), rowI_set h.rh x, h.ne, h.ex.setCell (by simp; omega) _, by simpa [World.setCell] using hnb⟩
theorem TwoR.setL' {w W : World} {n₀ : Nat} {cs : Array Value} {g c i m : Nat} {vh : Value} {lo hi : List Int} (h : TwoR w n₀ W cs (.slice (some ⟨g, 0, none⟩) m c) vh lo hi) (hm : lo.length = m) (x : Int) :
    TwoR w n₀ (W.setCell ⟨g, i, none⟩ (.int .i64 x)) cs (.slice (some ⟨g, 0, none⟩) m c) vh (lo.set i x) hi := by subst hm; exact h.setL x
theorem TwoR.setH' {w W : World} {n₀ : Nat} {cs : Array Value} {g c i m : Nat} {vl : Value} {lo hi : List Int} (h : TwoR w n₀ W cs vl (.slice (some ⟨g, 0, none⟩) m c) lo hi) (hm : hi.length = m) (x : Int) :
    TwoR w n₀ (W.setCell ⟨g, i, none⟩ (.int .i64 x)) cs vl (.slice (some ⟨g, 0, none⟩) m c) lo (hi.set i x) := by subst hm; exact h.setH x
/-- a row that is not empty, opened -/
theorem RowI.opened {n₀ n c : Nat} {A : Option Addr} {l : List Int} {W : World} (h : RowI n₀ (.slice A n c) l W) (hn : l.length = n) (h0 : 0 < n) : ∃ g, A = some ⟨g, 0, none⟩ ∧ n₀ ≤ g ∧ g < W.heap.size ∧ n ≤ c := by
  obtain ⟨g, c', hv, h1, h2, h3⟩ := h.block (by omega)
  simp only [Value.slice.injEq] at hv
  obtain ⟨rfl, _, rfl⟩ := hv
  exact ⟨g, rfl, h1, h2, by omega⟩
theorem RowI.cell {n₀ n c g : Nat} {l : List Int} {W : World} (h : RowI n₀ (.slice (some ⟨g, 0, none⟩) n c) l W) (hn : l.length = n) {k : Nat} (hk : k < l.length) : W.cell? ⟨g, k, none⟩ = some (.int .i64 l[k]) := by
  subst hn
  exact (World.ownsRow.cellAt (g := g) h k (by omega)).trans (cellsI_get l k hk)
theorem RowI.frozen {n₀ n c g : Nat} {l : List Int} {W : World} (h : RowI n₀ (.slice (some ⟨g, 0, none⟩) n c) l W) (hn : l.length = n) (k : Nat) : W.frozen? ⟨g, k, none⟩ = false := by
  subst hn
  exact World.ownsRow.frozenAt (g := g) h k
end Go.Proofs.Ythopgonbndoidaa
namespace Go.Proofs.Ythopgonbndoidaa
open Go.RowKit Go.Shelf

set_option maxRecDepth 100000 in
set_option maxHeartbeats 8000000 in
theorem inPence_any (a b : Value) (T : Tr) (hok : Ok T) (w : World) (hT : TrAt w a b T) :
    Calls Try.prog 59 #[.agg #[a, b]] w fun e w' => ∃ u, e = .returned u ∧ RowI w.heap.size u (pnX T) w' ∧ Ext w w' := by
  obtain ⟨X, hX⟩ : ∃ X, pnX T = X := ⟨_, rfl⟩
  have HX := Lib.hid hX
  rw [hX]
  clear hX
  have hlp := hok.lp
  have KS := fun W (h : Ext w W) => shares_any a b T hok W (hT.ext h)
  go_enter Try.func59, Try.ntmps59
  go_wp2_with fail
  refine (KS _ (by repeat (first | exact Ext.refl _ | assumption | refine Ext.alloc ?_ _ | refine Ext.drew ?_ | refine Ext.drewN _ ?_ | refine Ext.trans ?_ (by assumption)))).mono ?_
  rintro e w1 ⟨vs, rfl, hs, hx1⟩
  obtain ⟨q0, hx, hk0⟩ := alloc1 hx1
  obtain ⟨aS, cS, rfl, hcs⟩ := hs.len
  have hsl : (shL T T.ps).length = T.ps.length := by simp [shL]
  have HSL := Lib.hid hsl
  rw [hsl]
  clear hsl hx1 KS
  have h00 : TwoR w w1.heap.size w1 #[a, b] (.slice none 0 0) (.slice none 0 0) [] [] := ⟨q0, rowI_nil _ _, rowI_nil _ _, fun g h => by simp [Value.ownBlock] at h, hx, hk0, Nat.le_refl _⟩
  have H00 := Lib.hid h00
  clear h00 q0 hx
  go_wp2_with fail
  go_loopw [3, 4, 13] (fun vl vh i wr => ∃ k : Nat, k ≤ T.ps.length ∧ i = .int .i64 k ∧ Hid (TwoR w w1.heap.size wr #[a, b] vl vh (loL T (T.ps.take k)) (hiL T (T.ps.take k))) ∧ Ext w1 wr) (fun _ _ i _ => T.ps.length - (intOf i).toNat)
  case atStart => exact ⟨0, Nat.zero_le _, rfl, H00, Ext.refl _⟩
  case round =>
    obtain ⟨k, hk, rfl, HR, hx⟩ := hrel
    by_cases hlt : k < T.ps.length
    · have hlt2 : k < (shL T T.ps).length := by rw [HSL.out]; exact hlt
      have hs' := hs.ext hx
      rw [HSL.out] at hs'
      obtain ⟨bb, oo, rfl, c0, c1⟩ := hs'.get k hlt2
      have hmem : T.ps[k] ∈ T.ps := List.getElem_mem hlt
      have hbd := shX_bd hok hmem
      have hgt : (shL T T.ps)[k] = ratM (shX T T.ps[k]) := by simp [shL]
      obtain ⟨x, hxx⟩ : ∃ x, shX T T.ps[k] = x := ⟨_, rfl⟩
      have hs1 : loL T (T.ps.take (k + 1)) = loL T (T.ps.take k) ++ [dnX x] := by rw [take_succ_get T.ps k hlt, loL_snoc, hxx]
      have hs2 : hiL T (T.ps.take (k + 1)) = hiL T (T.ps.take k) ++ [upX x] := by rw [take_succ_get T.ps k hlt, hiL_snoc, hxx]
      rw [hxx] at hgt hbd
      rw [hgt] at c0 c1
      obtain ⟨n, d, hr, ⟨hd0, hd1⟩, ⟨hn0, hn1⟩, hq, hm, ⟨hm0, hm1⟩, hq0, hq1⟩ := pn_facts x hbd.1 hbd.2
      rw [hr] at c0 c1
      have hu : upX x = dnX x + min 1 (n.tmod d) := by unfold upX dnX; rw [hm]
      obtain ⟨q, hqq⟩ : ∃ q, dnX x = q := ⟨_, rfl⟩
      obtain ⟨m, hmm⟩ : ∃ m, n.tmod d = m := ⟨_, rfl⟩
      rw [hqq] at hq hq0 hq1 hu hs1
      rw [hmm] at hm0 hm1 hu
      obtain ⟨lo, hlo⟩ : ∃ l, loL T (T.ps.take k) = l := ⟨_, rfl⟩
      obtain ⟨hi, hhi⟩ : ∃ l, hiL T (T.ps.take k) = l := ⟨_, rfl⟩
      have hl1 : lo.length = k := by rw [← hlo]; simp [loL]; omega
      have hl2 : hi.length = k := by rw [← hhi]; simp [hiL]; omega
      rw [hlo] at hs1 HR
      rw [hhi] at hs2 HR
      have hwq : IntKind.i64.wrap q = q := IntWalk.i64_in _ (by omega)
      have hwm : IntKind.i64.wrap m = m := IntWalk.i64_in _ (by omega)
      have hd00 : ¬ (d = 0) := by omega
      have hd0b : (d == 0) = false := by rw [beq_eq_false_iff_ne]; omega
      have HU := Lib.hid hu
      have HS1 := Lib.hid hs1
      have HS2 := Lib.hid hs2
      have hR := HR.out
      obtain ⟨al, cl, rfl⟩ := hR.rl.form
      obtain ⟨ah, ch, rfl⟩ := hR.rh.form
      clear hu hs1 hs2 hlo hhi hqq hgt hxx hs' hbd hr hm hd0 hd1 HR
      rw [hl1, hl2] at hR ⊢
      obtain ⟨B, hB⟩ : ∃ B, wr.heap.size = B := ⟨_, rfl⟩
      obtain ⟨Y, hY⟩ : ∃ Y, wr.alloc (.cells #[.int .i64 n, .int .i64 d] 42) = Y := ⟨_, rfl⟩
      have hxY : Ext wr Y := by rw [← hY]; exact (by repeat (first | exact Ext.refl _ | assumption | refine Ext.alloc ?_ _ | refine Ext.drew ?_ | refine Ext.drewN _ ?_ | refine Ext.trans ?_ (by assumption)))
      have hbY : Cls B 42 #[.int .i64 n, .int .i64 d] Y := by rw [← hY]; exact Cls.newAt _ _ _ hB.symm
      have hsY : Y.heap.size = B + 1 := by rw [← hY, World.size_alloc, hB]
      have hRY := hR.ext hxY
      have e0 : Y.cell? ⟨B, 0, none⟩ = some (.int .i64 n) := hbY.cell 0
      have e1 : Y.cell? ⟨B, 1, none⟩ = some (.int .i64 d) := hbY.cell 1
      have hrl := hR.rl.lt
      have hrh := hR.rh.lt
      have hszw := hR.bx.lt
      have hnb := hR.nb
      rw [hB] at hrl hrh hszw hnb
      go_wp2_with (first | (at_builtin; refine append_ints rfl _ _ rfl w1.heap.size _ _ lo [q] rfl (rowI_ext hRY.rl (by repeat (first | exact Ext.refl _ | assumption | refine Ext.alloc ?_ _ | refine Ext.drew ?_ | refine Ext.drewN _ ?_ | refine Ext.trans ?_ (by assumption)))) rfl (ints_oneAt _ _ _ (by omega)) (by simp; omega) (by simp; omega) ?_; intro v1 w3 hr3 hg3 ha3; have hR3 := hRY.addL hr3 hg3 ha3; have hx3 := ext_own (hx.trans hxY) hRY.rl (Nat.le_refl _) (grown_pre hg3); have hb3 := hbY.kept (grown_pre hg3) (fun e => by have := (hrl _ e.symm).2; omega); have g0 : w3.cell? ⟨B, 0, none⟩ = some (.int .i64 n) := hb3.cell 0; have g1 : w3.cell? ⟨B, 1, none⟩ = some (.int .i64 d) := hb3.cell 1) | (at_builtin; refine append_ints rfl _ _ rfl w1.heap.size _ _ hi [q + min 1 m] rfl (rowI_ext hR3.rh (by repeat (first | exact Ext.refl _ | assumption | refine Ext.alloc ?_ _ | refine Ext.drew ?_ | refine Ext.drewN _ ?_ | refine Ext.trans ?_ (by assumption)))) rfl (ints_one _ _ _) (Nat.le_trans hR3.nb.2 (by simp)) (by simp; omega) ?_; intro v2 w4 hr4 hg4 ha4; have hR4 := hR3.addH hr4 hg4 ha4; have hx4 := ext_own hx3 hR3.rh (Nat.le_refl _) (grown_pre hg4)))
      go_roundw
      case rel => exact ⟨k + 1, by omega, by go_num, Lib.hid (by rw [HS1.out, HS2.out, HU.out]; exact hR4), hx4⟩
      case measure => simp [intOf]; omega
    · obtain rfl : k = T.ps.length := by omega
      have hR := HR.out
      rw [List.take_length] at hR
      have hP0 := pnV_at hok 0 (by omega)
      have hl1 : (loL T T.ps).length = T.ps.length := hP0.l1
      have hl2 : (hiL T T.ps).length = T.ps.length := hP0.l2
      have e0 : pnF T 0 = (loL T T.ps, hiL T T.ps) := rfl
      obtain ⟨al, cl, rfl⟩ := hR.rl.form
      obtain ⟨ah, ch, rfl⟩ := hR.rh.form
      rw [hl1, hl2] at hR ⊢
      have HR2 := Lib.hid hR
      clear hP0 hl1 hl2 HR hR H00 HSL hs
      go_wp2_with fail
      go_loopw [40] (fun i W => ∃ k : Nat, k ≤ T.ps.length ∧ i = .int .i64 k ∧ Hid (TwoR w w1.heap.size W #[a, b] (.slice al T.ps.length cl) (.slice ah T.ps.length ch) (pnF T k).1 (pnF T k).2)) (fun i _ => T.ps.length - (intOf i).toNat)
      case atStart => exact ⟨0, Nat.zero_le _, rfl, HR2⟩
      case round =>
        clear HR2
        obtain ⟨k, hk, rfl, HR⟩ := hrel
        have hR := HR.out
        have hP := pnV_at hok k hk
        by_cases hlt : k < T.ps.length
        · have hst := pnF_succ T k
          obtain ⟨s, hs⟩ : ∃ s, pnF T k = s := ⟨_, rfl⟩
          rw [hs] at hst hR hP
          obtain ⟨lo, hi⟩ := s
          dsimp only at hR
          have hl1 : lo.length = T.ps.length := hP.l1
          have hl2 : hi.length = T.ps.length := hP.l2
          obtain ⟨g, rfl, hg0, hg1, hgc⟩ := hR.rl.opened hl1 (by omega)
          obtain ⟨f, rfl, hf0, hf1, hfc⟩ := hR.rh.opened hl2 (by omega)
          have hfg : f ≠ g := fun e => hR.ne g rfl (by rw [e]; rfl)
          have c1 := hR.rl.cell hl1 (k := k) (by omega)
          have c2 := hR.rh.cell hl2 (k := k) (by omega)
          have f1 := hR.rl.frozen hl1 k
          have hx1 : lo.getD k 0 = lo[k] := by simp [List.getD_eq_getElem?_getD, show k < lo.length by omega]
          have hy1 : hi.getD k 0 = hi[k] := by simp [List.getD_eq_getElem?_getD, show k < hi.length by omega]
          have hxm : lo[k] ∈ lo := List.getElem_mem _
          have hym : hi[k] ∈ hi := List.getElem_mem _
          have hself : (lo.set k hi[k]).set k lo[k] = lo := by rw [List.set_set, List.set_getElem_self]
          obtain ⟨x, hx⟩ : ∃ x, lo[k] = x := ⟨_, rfl⟩
          obtain ⟨y, hy⟩ : ∃ x, hi[k] = x := ⟨_, rfl⟩
          rw [hx] at c1 hx1 hxm hself
          rw [hy] at c2 hy1 hym hself
          have hst2 : pnF T (k + 1) = if btwB T (lo.set k y) hi = true then (lo.set k y, hi) else (lo, hi.set k x) := by rw [hst]; unfold pnS; dsimp only; rw [hx1, hy1]
          have hR1 := hR.setL' (i := k) hl1 y
          have hbm : ∀ z ∈ lo.set k y, 0 ≤ z ∧ z ≤ 1073741824 := fun z hz => by
            rcases mem_set_of hz with rfl | hz
            · exact hP.b2 _ hym
            · exact hP.b1 _ hz
          have K := between_any a b _ _ T hok (lo.set k y) hi _ (hT.ext hR1.ex) hR1.rl.at_ hR1.rh.at_ (by rw [List.length_set]; exact hl1) hl2 hbm hP.b2
          obtain ⟨bt, hbt⟩ : ∃ b, btwB T (lo.set k y) hi = b := ⟨_, rfl⟩
          rw [hbt] at K hst2
          obtain ⟨W1, hW1⟩ : ∃ W1, wr.setCell ⟨g, k, none⟩ (.int .i64 y) = W1 := ⟨_, rfl⟩
          rw [hW1] at hR1 K
          have d0 : W1.cell? ⟨w.heap.size, 0, none⟩ = some a := hR1.bx.cell 0
          have d1 : W1.cell? ⟨w.heap.size, 1, none⟩ = some b := hR1.bx.cell 1
          have HST := Lib.hid hst2
          have HSF := Lib.hid hself
          clear hst2 hself hbt hx hy hx1 hy1 hxm hym hbm hst hs hP HR
          cases bt
          · have hs3 := HST.out
            rw [if_neg (by decide)] at hs3
            have HS3 := Lib.hid hs3
            clear hs3
            go_wp2_with fail
            refine K.mono ?_
            rintro e w2 ⟨rfl, hz⟩
            have hR2 := hR1.ext hz
            have hR3 := hR2.setL' (i := k) (by rw [List.length_set]; exact hl1) x
            obtain ⟨W3, hW3⟩ : ∃ W3, w2.setCell ⟨g, k, none⟩ (.int .i64 x) = W3 := ⟨_, rfl⟩
            rw [HSF.out, hW3] at hR3
            have hR4 := hR3.setH' (i := k) hl2 x
            have f2 := hR2.rl.frozen (by rw [List.length_set]; exact hl1) k
            have f3 := hR3.rh.frozen hl2 k
            have c3 := hR2.rl.cell (by rw [List.length_set]; exact hl1) (k := k) (by rw [List.length_set]; omega)
            have c4 := hR3.rh.cell hl2 (k := k) (by omega)
            clear d0 d1 c1 c2 hR hR1 hR2 hR3 hW1
            go_wp2_with fail
            go_roundw
            case rel => exact ⟨k + 1, by omega, by go_num, Lib.hid (by rw [HS3.out]; exact hR4)⟩
            case measure => simp [intOf]; omega
          · have hs3 := HST.out
            rw [if_pos rfl] at hs3
            have HS3 := Lib.hid hs3
            clear hs3
            go_wp2_with fail
            refine K.mono ?_
            rintro e w2 ⟨rfl, hz⟩
            have hR2 := hR1.ext hz
            clear d0 d1 c1 c2 hR hR1 hW1
            go_wp2_with fail
            go_roundw
            case rel => exact ⟨k + 1, by omega, by go_num, Lib.hid (by rw [HS3.out]; exact hR2)⟩
            case measure => simp [intOf]; omega
        · obtain rfl : k = T.ps.length := by omega
          have hxx : (pnF T T.ps.length).1 = X := HX.out
          rw [hxx] at hR
          have hR9 := rowI_base (n₁ := w.heap.size) hR.rl (by have := hR.nb; omega)
          have hex := hR.ex
          clear hP hR HR hxx
          go_wp2_with fail
          go_ret
          exact ⟨_, rfl, hR9, hex⟩

theorem pnX_bd {T : Tr} (hok : Ok T) : (pnX T).length = T.ps.length ∧ ∀ x ∈ pnX T, 0 ≤ x ∧ x ≤ 1073741824 := by
  have h := pnV_at hok T.ps.length (Nat.le_refl _)
  exact ⟨h.l1, h.b1⟩
/-- what Pence returns -/
def penX (T : Tr) : List Int := if chkE T = 0 then pnX T else []
def InsPost (w : World) (l : List Int) (E : Int) (e : Ending) (w' : World) : Prop := ∃ v, e = .returned (.tuple #[v, .int .i64 E]) ∧ IntsAt w' v l ∧ Ext w w'
set_option maxRecDepth 100000 in
set_option maxHeartbeats 4000000 in
theorem Pence_any (a b : Value) (T : Tr) (w : World) (hT : TrAt w a b T) :
    Calls Try.prog 19 #[.agg #[a, b]] w (InsPost w (penX T) (chkE T)) := by
  have hX : penX T = if chkE T = 0 then pnX T else [] := rfl
  have hok := @Ok.of T
  have KP := fun (h : Ok T) W (hx : Ext w W) => inPence_any a b T h W (hT.ext hx)
  obtain ⟨E, hE⟩ : ∃ E, chkE T = E := ⟨_, rfl⟩
  obtain ⟨X, hXX⟩ : ∃ E, penX T = E := ⟨_, rfl⟩
  have HE := Lib.hid hE
  rw [hE] at hok hX ⊢
  rw [hXX] at hX ⊢
  have HX := Lib.hid hX
  clear hE hX hXX
  go_enter Try.func19, Try.ntmps19
  go_wp2_with fail
  refine (Check_any _ _ T _ (hT.ext (by repeat (first | exact Ext.refl _ | assumption | refine Ext.alloc ?_ _ | refine Ext.drew ?_ | refine Ext.drewN _ ?_ | refine Ext.trans ?_ (by assumption))))).mono ?_
  rw [HE.out]
  rintro e w1 ⟨rfl, hx1⟩
  obtain ⟨q0, hx, hk0⟩ := alloc1 hx1
  have d0 : w1.cell? ⟨w.heap.size, 0, none⟩ = some a := q0.cell 0
  have d1 : w1.cell? ⟨w.heap.size, 1, none⟩ = some b := q0.cell 1
  clear hx1 q0
  by_cases h0 : E = 0
  · have hx2 := HX.out
    rw [if_pos h0] at hx2
    have hk := hok h0
    have hb : (E != 0) = false := by simpa using h0
    have HX2 := Lib.hid hx2
    have H0 := Lib.hid h0
    clear hx2 h0 hok
    go_wp2_with fail
    refine (KP hk _ hx).mono ?_
    rintro e w2 ⟨u, rfl, hu, hz⟩
    rw [← HX2.out] at hu
    go_wp2_with fail
    go_ret2
    exact ⟨_, ret2 rfl (by rw [H0.out]; rfl), hu.at_, hx.trans hz⟩
  · have hx2 := HX.out
    rw [if_neg h0] at hx2
    have hb : (E != 0) = true := by simpa using h0
    have HX2 := Lib.hid hx2
    clear hx2 h0 hok KP
    go_wp2_with fail
    go_ret2
    exact ⟨_, rfl, by rw [HX2.out]; exact intsAt_nil _, hx⟩
end Go.Proofs.Ythopgonbndoidaa
