/- SameTree of the specification at two slices of the same tree. -/
import Derived.Test.YthopgonbndoidaaVTre
import Derived.Test.YthopgonbndoidaaVRPen
namespace Go.Proofs.Ythopgonbndoidaa
open Go.RowKit Go.Shelf

set_option maxRecDepth 100000 in
set_option maxHeartbeats 8000000 in
theorem sameTree_any (a b c d : Value) (T : Tr) (w : World) (hT : TrAt w a b T) (hU : TrAt w c d T) (hn : T.rs.length ≤ 1000000 ∧ T.ps.length ≤ 1000000) :
    Calls Try.prog 34 #[.agg #[a, b], .agg #[c, d]] w fun e w' => e = .returned (.bool true) ∧ Ext w w' := by
  obtain ⟨aa, ca, rfl, hla⟩ := hT.r.len
  obtain ⟨ab, cb, rfl, hlb⟩ := hT.p.len
  obtain ⟨ac, cc, rfl, hlc⟩ := hU.r.len
  obtain ⟨ad, cd, rfl, hld⟩ := hU.p.len
  go_enter Try.func34, Try.ntmps34
  go_upto_region 1 with fail
  obtain ⟨W1, hW1⟩ : ∃ W1, (w.alloc (.cells #[.slice aa T.rs.length ca, .slice ab T.ps.length cb] 25)).alloc (.cells #[.slice ac T.rs.length cc, .slice ad T.ps.length cd] 25) = W1 := ⟨_, rfl⟩
  obtain ⟨q0, q1, hx, _⟩ := alloc2 (w := w) (w1 := W1) (by rw [hW1]; exact Ext.refl _)
  try rw [hW1]
  clear hW1
  have d0 := q0.cell 0
  have d1 := q0.cell 1
  have e0 := q1.cell 0
  have e1 := q1.cell 1
  go_wp2_with fail
  clear d0 d1 e0 e1
  go_loopw [5] (fun i wr => ∃ k : Nat, k ≤ T.rs.length ∧ i = .int .i64 k ∧ Cls w.heap.size 25 #[.slice aa T.rs.length ca, .slice ab T.ps.length cb] wr ∧ Cls (w.heap.size + 1) 25 #[.slice ac T.rs.length cc, .slice ad T.ps.length cd] wr ∧ Ext w wr) (fun i _ => T.rs.length - (intOf i).toNat)
  case atStart => exact ⟨0, Nat.zero_le _, rfl, q0, q1, hx⟩
  case round =>
    clear q0 q1 hx
    obtain ⟨k, hk, rfl, q0, q1, hx⟩ := hrel
    have d0 := q0.cell 0
    have d1 := q0.cell 1
    have e0 := q1.cell 0
    have e1 := q1.cell 1
    by_cases hlt : k < T.rs.length
    · obtain ⟨b1, o1, rfl, c0, c1⟩ := (hT.r.ext hx).get k hlt
      obtain ⟨b2, o2, rfl, g0, g1⟩ := (hU.r.ext hx).get k hlt
      obtain ⟨x, hx⟩ : ∃ x, T.rs[k].above = x := ⟨_, rfl⟩
      rw [hx] at c0 g0
      obtain ⟨y, hy⟩ : ∃ x, T.rs[k].cost = x := ⟨_, rfl⟩
      rw [hy] at c1 g1
      have hki : (k : Int) < T.rs.length := by omega
      clear hx hy
      go_wp2_with fail
      (try go_quiet (fail))
      (try go_wp2_with fail)
      go_roundw
      case rel => exact ⟨k + 1, by omega, by go_num, q0.ext (by repeat (first | exact Ext.refl _ | assumption | refine Ext.alloc ?_ _ | refine Ext.drew ?_ | refine Ext.drewN _ ?_ | refine Ext.trans ?_ (by assumption))), q1.ext (by repeat (first | exact Ext.refl _ | assumption | refine Ext.alloc ?_ _ | refine Ext.drew ?_ | refine Ext.drewN _ ?_ | refine Ext.trans ?_ (by assumption))), hx.trans (by repeat (first | exact Ext.refl _ | assumption | refine Ext.alloc ?_ _ | refine Ext.drew ?_ | refine Ext.drewN _ ?_ | refine Ext.trans ?_ (by assumption)))⟩
      case measure => simp [intOf]; omega
    · obtain rfl : k = T.rs.length := by omega
      go_wp2_with fail
      clear d0 d1 e0 e1
      obtain ⟨wo, hwo⟩ : ∃ wo, wr = wo := ⟨_, rfl⟩
      subst hwo
      go_loopw [6] (fun i wr => ∃ k : Nat, k ≤ T.ps.length ∧ i = .int .i64 k ∧ Cls w.heap.size 25 #[.slice aa T.rs.length ca, .slice ab T.ps.length cb] wr ∧ Cls (w.heap.size + 1) 25 #[.slice ac T.rs.length cc, .slice ad T.ps.length cd] wr ∧ Ext w wr) (fun i _ => T.ps.length - (intOf i).toNat)
      case atStart => exact ⟨0, Nat.zero_le _, rfl, q0, q1, hx⟩
      case round =>
        clear q0 q1 hx
        obtain ⟨k, hk, rfl, q0, q1, hx⟩ := hrel
        have d0 := q0.cell 0
        have d1 := q0.cell 1
        have e0 := q1.cell 0
        have e1 := q1.cell 1
        by_cases hlt : k < T.ps.length
        · obtain ⟨b1, o1, rfl, c0, c1, c2⟩ := (hT.p.ext hx).get k hlt
          obtain ⟨b2, o2, rfl, g0, g1, g2⟩ := (hU.p.ext hx).get k hlt
          obtain ⟨x, hx⟩ : ∃ x, T.ps[k].id = x := ⟨_, rfl⟩
          rw [hx] at c0 g0
          obtain ⟨y, hy⟩ : ∃ x, T.ps[k].reach = x := ⟨_, rfl⟩
          rw [hy] at c1 g1
          obtain ⟨z, hz⟩ : ∃ x, T.ps[k].w = x := ⟨_, rfl⟩
          rw [hz] at c2 g2
          have hki : (k : Int) < T.ps.length := by omega
          clear hx hy hz
          go_wp2_with fail
          (try go_quiet (fail))
          (try go_wp2_with fail)
          go_roundw
          case rel => exact ⟨k + 1, by omega, by go_num, q0.ext (by repeat (first | exact Ext.refl _ | assumption | refine Ext.alloc ?_ _ | refine Ext.drew ?_ | refine Ext.drewN _ ?_ | refine Ext.trans ?_ (by assumption))), q1.ext (by repeat (first | exact Ext.refl _ | assumption | refine Ext.alloc ?_ _ | refine Ext.drew ?_ | refine Ext.drewN _ ?_ | refine Ext.trans ?_ (by assumption))), hx.trans (by repeat (first | exact Ext.refl _ | assumption | refine Ext.alloc ?_ _ | refine Ext.drew ?_ | refine Ext.drewN _ ?_ | refine Ext.trans ?_ (by assumption)))⟩
          case measure => simp [intOf]; omega
        · obtain rfl : k = T.ps.length := by omega
          go_wp2_with fail
          go_ret
          exact ⟨rfl, hx⟩
end Go.Proofs.Ythopgonbndoidaa
