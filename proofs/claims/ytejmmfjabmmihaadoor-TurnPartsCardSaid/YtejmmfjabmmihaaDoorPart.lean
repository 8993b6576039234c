/- Part of a turn: the program's and the specification's. -/
import Derived.Test.YtejmmfjabmmihaaDoorAsk
import Derived.Test.YtejmmfjabmmihaaDoorBox
namespace Go.Proofs.YtejmmfjabmmihaaDoor
open Go.RowKit Go.Shelf

/-- whether there is such a part -/
def partB (p f l a b : Int) : Bool := tnB p f l && (decide (0 ≤ a) && (decide (1 ≤ b) && decide (b ≤ l - a)))
def partV (p f l a b : Int) : Value := if partB p f l a b then .agg #[.int .i64 p, .int .i64 ((f + a) % p), .int .i64 b] else .agg #[.int .i64 0, .int .i64 0, .int .i64 0]
def partE (p f l a b : Int) : Int := if partB p f l a b then 0 else 1
def PartPost (p f l a b : Int) (w : World) (e : Ending) (w' : World) : Prop := e = .returned (.tuple #[partV p f l a b, .int .i64 (partE p f l a b)]) ∧ Ext w w'
theorem partV_form (p f l a b : Int) : ∃ x y z : Int, partV p f l a b = .agg #[.int .i64 x, .int .i64 y, .int .i64 z] := by
  unfold partV; split
  · exact ⟨_, _, _, rfl⟩
  · exact ⟨_, _, _, rfl⟩

theorem part_ret {p f l a b x y z E : Int} {w W : World} {tmps : Array Value} (h6 : tmps.getD 6 undef = .pointer (some ⟨w.heap.size + 1, 0, none⟩)) (h7 : tmps.getD 7 undef = .int .i64 E)
    (hc : Cls (w.heap.size + 1) 23 #[.int .i64 x, .int .i64 y, .int .i64 z] W) (hv : partV p f l a b = .agg #[.int .i64 x, .int .i64 y, .int .i64 z]) (he : E = partE p f l a b) (hx : Ext w W) :
    bodyPost Tryd.prog Tryd.f29 (PartPost p f l a b w) Exit.ret { tmps := tmps, defers := [] } W := by
  have c0 : W.cell? ⟨w.heap.size + 1, 0, none⟩ = some (.int .i64 x) := hc.cell 0
  have c1 : W.cell? ⟨w.heap.size + 1, 1, none⟩ = some (.int .i64 y) := hc.cell 1
  have c2 : W.cell? ⟨w.heap.size + 1, 2, none⟩ = some (.int .i64 z) := hc.cell 2
  have h6' : tmps[6]?.getD undef = .pointer (some ⟨w.heap.size + 1, 0, none⟩) := by simpa using h6
  have h7' : tmps[7]?.getD undef = .int .i64 E := by simpa using h7
  exact bodyPost_ret (v := .tuple #[.agg #[.int .i64 x, .int .i64 y, .int .i64 z], .int .i64 E]) (by simp [results, Tryd.f29, go_sem, h6', h7', c0, c1, c2]) rfl ⟨by rw [hv, he], hx⟩
set_option maxRecDepth 100000 in
set_option maxHeartbeats 2000000 in
theorem Part_any (p f l a b : Int) (w : World) :
    Calls Tryd.prog 29 #[.agg #[.int .i64 p, .int .i64 f, .int .i64 l], .int .i64 a, .int .i64 b] w (PartPost p f l a b w) := by
  cases hv : tnB p f l
  · have hB : partB p f l a b = false := by simp [partB, hv]
    go_enter Tryd.func29, Tryd.ntmps29
    go_wp2_with fail
    refine (CheckTurn_any _ _ _ _).mono ?_
    rw [show tnE p f l = 1 by simp [tnE, hv]]
    rintro e w1 ⟨rfl, hx1⟩
    obtain ⟨q0, q1, hx, hzz⟩ := alloc2 hx1
    have c0 : w1.cell? ⟨w.heap.size + 1, 0, none⟩ = some (.int .i64 0) := q1.cell 0
    have c1 : w1.cell? ⟨w.heap.size + 1, 1, none⟩ = some (.int .i64 0) := q1.cell 1
    have c2 : w1.cell? ⟨w.heap.size + 1, 2, none⟩ = some (.int .i64 0) := q1.cell 2
    have z0 := q1.frozen 0
    have z1 := q1.frozen 1
    have z2 := q1.frozen 2
    clear hx1
    go_wp2_with fail
    exact part_ret rfl rfl (((q1.set 0 (.int .i64 0)).set 1 (.int .i64 0)).set 2 (.int .i64 0)) (by rw [partV, hB]; rfl) (by rw [partE, hB]; rfl) (((hx.setCell (by simp) _).setCell (by simp) _).setCell (by simp) _)
  · have ha := tnB_t hv
    have hpz : ¬ p = 0 := by omega
    have hpz2 : (p == 0) = false := by rw [beq_eq_false_iff_ne]; omega
    go_enter Tryd.func29, Tryd.ntmps29
    go_wp2_with fail
    refine (CheckTurn_any _ _ _ _).mono ?_
    rw [show tnE p f l = 0 by simp [tnE, hv]]
    rintro e w1 ⟨rfl, hx1⟩
    obtain ⟨q0, q1, hx, hzz⟩ := alloc2 hx1
    have d0 : w1.cell? ⟨w.heap.size, 0, none⟩ = some (.int .i64 p) := q0.cell 0
    have d1 : w1.cell? ⟨w.heap.size, 1, none⟩ = some (.int .i64 f) := q0.cell 1
    have d2 : w1.cell? ⟨w.heap.size, 2, none⟩ = some (.int .i64 l) := q0.cell 2
    have c0 : w1.cell? ⟨w.heap.size + 1, 0, none⟩ = some (.int .i64 0) := q1.cell 0
    have c1 : w1.cell? ⟨w.heap.size + 1, 1, none⟩ = some (.int .i64 0) := q1.cell 1
    have c2 : w1.cell? ⟨w.heap.size + 1, 2, none⟩ = some (.int .i64 0) := q1.cell 2
    have z0 := q1.frozen 0
    have z1 := q1.frozen 1
    have z2 := q1.frozen 2
    clear hx1
    go_wp2_with fail
    refine (within_any _ _ _ _).mono ?_
    cases h1 : inB a 0 (l - 1)
    · have hB : partB p f l a b = false := by
        simp only [partB, hv, Bool.true_and, Bool.and_eq_false_iff, decide_eq_false_iff_not]
        simp only [inB, Bool.and_eq_false_iff, decide_eq_false_iff_not] at h1
        omega
      rintro e w2 ⟨rfl, rfl⟩
      go_wp2_with fail
      exact part_ret rfl rfl (((q1.set 0 (.int .i64 0)).set 1 (.int .i64 0)).set 2 (.int .i64 0)) (by rw [partV, hB]; rfl) (by rw [partE, hB]; rfl) (((hx.setCell (by simp) _).setCell (by simp) _).setCell (by simp) _)
    · rintro e w2 ⟨rfl, rfl⟩
      have h1' := inB_t h1
      have hw := IntWalk.wrap64_in (l - a) (by omega)
      have hw2 := IntWalk.i64_in (f + a) (by omega)
      go_wp2_with fail
      refine (within_any _ _ _ _).mono ?_
      cases h2 : inB b 1 (l - a)
      · have hB : partB p f l a b = false := by
          simp only [partB, hv, Bool.true_and, Bool.and_eq_false_iff, decide_eq_false_iff_not]
          simp only [inB, Bool.and_eq_false_iff, decide_eq_false_iff_not] at h2
          omega
        rintro e w2 ⟨rfl, rfl⟩
        go_wp2_with fail
        exact part_ret rfl rfl (((q1.set 0 (.int .i64 0)).set 1 (.int .i64 0)).set 2 (.int .i64 0)) (by rw [partV, hB]; rfl) (by rw [partE, hB]; rfl) (((hx.setCell (by simp) _).setCell (by simp) _).setCell (by simp) _)
      · rintro e w2 ⟨rfl, rfl⟩
        have h2' := inB_t h2
        have hB : partB p f l a b = true := by simp [partB, hv]; omega
        have hm : (f + a).tmod p = (f + a) % p := Int.tmod_eq_emod_of_nonneg (by omega)
        have hm0 := Int.emod_nonneg (f + a) (show p ≠ 0 by omega)
        have hm1 := Int.emod_lt_of_pos (f + a) (show 0 < p by omega)
        go_wp2_with fail
        go_region
        all_goals
          go_wp2_with fail
          exact part_ret rfl rfl (((q1.set 0 (.int .i64 p)).set 1 (.int .i64 ((f + a) % p))).set 2 (.int .i64 b)) (by rw [partV, hB]; rfl) (by rw [partE, hB]; rfl) (((hx.drew.setCell (by simp) _).setCell (by simp) _).setCell (by simp) _)

theorem refpart_ret {p f l a b x y z E : Int} {w W : World} {tmps : Array Value} (h6 : tmps.getD 6 undef = .pointer (some ⟨w.heap.size + 1, 0, none⟩)) (h7 : tmps.getD 7 undef = .int .i64 E)
    (hc : Cls (w.heap.size + 1) 23 #[.int .i64 x, .int .i64 y, .int .i64 z] W) (hv : partV p f l a b = .agg #[.int .i64 x, .int .i64 y, .int .i64 z]) (he : E = partE p f l a b) (hx : Ext w W) :
    bodyPost Tryd.prog Tryd.f30 (PartPost p f l a b w) Exit.ret { tmps := tmps, defers := [] } W := by
  have c0 : W.cell? ⟨w.heap.size + 1, 0, none⟩ = some (.int .i64 x) := hc.cell 0
  have c1 : W.cell? ⟨w.heap.size + 1, 1, none⟩ = some (.int .i64 y) := hc.cell 1
  have c2 : W.cell? ⟨w.heap.size + 1, 2, none⟩ = some (.int .i64 z) := hc.cell 2
  have h6' : tmps[6]?.getD undef = .pointer (some ⟨w.heap.size + 1, 0, none⟩) := by simpa using h6
  have h7' : tmps[7]?.getD undef = .int .i64 E := by simpa using h7
  exact bodyPost_ret (v := .tuple #[.agg #[.int .i64 x, .int .i64 y, .int .i64 z], .int .i64 E]) (by simp [results, Tryd.f30, go_sem, h6', h7', c0, c1, c2]) rfl ⟨by rw [hv, he], hx⟩
set_option maxRecDepth 100000 in
set_option maxHeartbeats 2000000 in
theorem RefPart_any (p f l a b : Int) (w : World) :
    Calls Tryd.prog 30 #[.agg #[.int .i64 p, .int .i64 f, .int .i64 l], .int .i64 a, .int .i64 b] w (PartPost p f l a b w) := by
  go_enter Tryd.func30, Tryd.ntmps30
  go_wp2_with fail
  refine (Valid_any _ _ _ _).mono ?_
  rintro e w1 ⟨rfl, hx1⟩
  obtain ⟨q0, q1, hx, hzz⟩ := alloc2 hx1
  have d0 : w1.cell? ⟨w.heap.size, 0, none⟩ = some (.int .i64 p) := q0.cell 0
  have d1 : w1.cell? ⟨w.heap.size, 1, none⟩ = some (.int .i64 f) := q0.cell 1
  have d2 : w1.cell? ⟨w.heap.size, 2, none⟩ = some (.int .i64 l) := q0.cell 2
  have c0 : w1.cell? ⟨w.heap.size + 1, 0, none⟩ = some (.int .i64 0) := q1.cell 0
  have c1 : w1.cell? ⟨w.heap.size + 1, 1, none⟩ = some (.int .i64 0) := q1.cell 1
  have c2 : w1.cell? ⟨w.heap.size + 1, 2, none⟩ = some (.int .i64 0) := q1.cell 2
  have z0 := q1.frozen 0
  have z1 := q1.frozen 1
  have z2 := q1.frozen 2
  clear hx1
  cases hv : tnB p f l
  · have hB : partB p f l a b = false := by simp [partB, hv]
    go_wp2_with fail
    exact refpart_ret rfl rfl (((q1.set 0 (.int .i64 0)).set 1 (.int .i64 0)).set 2 (.int .i64 0)) (by rw [partV, hB]; rfl) (by rw [partE, hB]; rfl) (((hx.setCell (by simp) _).setCell (by simp) _).setCell (by simp) _)
  · have ha := tnB_t hv
    by_cases h1 : a < 0
    · have hB : partB p f l a b = false := by simp [partB, hv]; omega
      go_wp2_with fail
      exact refpart_ret rfl rfl (((q1.set 0 (.int .i64 0)).set 1 (.int .i64 0)).set 2 (.int .i64 0)) (by rw [partV, hB]; rfl) (by rw [partE, hB]; rfl) (((hx.setCell (by simp) _).setCell (by simp) _).setCell (by simp) _)
    · by_cases h2 : b < 1
      · have hB : partB p f l a b = false := by simp [partB, hv]; omega
        go_wp2_with fail
        exact refpart_ret rfl rfl (((q1.set 0 (.int .i64 0)).set 1 (.int .i64 0)).set 2 (.int .i64 0)) (by rw [partV, hB]; rfl) (by rw [partE, hB]; rfl) (((hx.setCell (by simp) _).setCell (by simp) _).setCell (by simp) _)
      · by_cases h3 : l < a
        · have hB : partB p f l a b = false := by simp [partB, hv]; omega
          go_wp2_with fail
          exact refpart_ret rfl rfl (((q1.set 0 (.int .i64 0)).set 1 (.int .i64 0)).set 2 (.int .i64 0)) (by rw [partV, hB]; rfl) (by rw [partE, hB]; rfl) (((hx.setCell (by simp) _).setCell (by simp) _).setCell (by simp) _)
        · have hw := IntWalk.wrap64_in (l - a) (by omega)
          have hw2 := IntWalk.i64_in (f + a) (by omega)
          by_cases h4 : l - a < b
          · have hB : partB p f l a b = false := by simp [partB, hv]; omega
            go_wp2_with fail
            exact refpart_ret rfl rfl (((q1.set 0 (.int .i64 0)).set 1 (.int .i64 0)).set 2 (.int .i64 0)) (by rw [partV, hB]; rfl) (by rw [partE, hB]; rfl) (((hx.setCell (by simp) _).setCell (by simp) _).setCell (by simp) _)
          · have hB : partB p f l a b = true := by simp [partB, hv]; omega
            have hm0 := Int.emod_nonneg (f + a) (show p ≠ 0 by omega)
            have hm1 := Int.emod_lt_of_pos (f + a) (show 0 < p by omega)
            have hmod := fun W => (refmod_any (f + a) p W (by omega) (by omega))
            go_wp2_with fail
            go_region_with (go_at_call 88; refine (hmod _).mono ?_; rintro e w' ⟨rfl, rfl⟩)
            all_goals
              go_wp2_with fail
              exact refpart_ret rfl rfl (((q1.set 0 (.int .i64 p)).set 1 (.int .i64 ((f + a) % p))).set 2 (.int .i64 b)) (by rw [partV, hB]; rfl) (by rw [partE, hB]; rfl) (((hx.drew.setCell (by simp) _).setCell (by simp) _).setCell (by simp) _)
end Go.Proofs.YtejmmfjabmmihaaDoor
