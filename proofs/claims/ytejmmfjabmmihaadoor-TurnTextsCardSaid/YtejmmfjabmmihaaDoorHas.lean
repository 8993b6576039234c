/- The specification's Has, InTurn, after, before; Holds, Next and Last of both. -/
import Derived.Test.YtejmmfjabmmihaaDoorNext
import Derived.IntWalk
namespace Go.Proofs.YtejmmfjabmmihaaDoor
open Go.RowKit Go.Shelf

theorem wrapI (x : Int) (h1 : -9000000000000000000 ≤ x) (h2 : x ≤ 9000000000000000000) : IntKind.i64.wrap x = x := IntWalk.i64_in _ (by omega)

set_option maxHeartbeats 1000000 in
theorem RefInTurn_any (p f l n : Int) (w : World) (hv : tnB p f l = true) (h1 : -2000000000000000 ≤ n) (h2 : n ≤ 2000000000000000) :
    Calls Tryd.prog 131 #[.agg #[.int .i64 p, .int .i64 f, .int .i64 l], .int .i64 n] w fun e w' => e = .returned (.bool (tnIn p f l n)) ∧ Ext w w' := by
  obtain ⟨a1, a2, a3, a4, a5, a6⟩ := tnB_t hv
  have hw := wrapI (n - f) (by omega) (by omega)
  clear hv
  go_enter Tryd.func131, Tryd.ntmps131
  go_wp2
  go_quiet ((go_at_call 88; exact Calls.quiet_of_same ((refmod_any _ _ _ (by omega) (by omega)).mono fun e w' ⟨h1, h2⟩ => ⟨h1, h2.symm⟩)))
  go_wp2
  go_ret
  exact ⟨rfl, (by repeat (first | exact Ext.refl _ | assumption | refine Ext.alloc ?_ _ | refine Ext.drew ?_ | refine Ext.drewN _ ?_ | refine Ext.trans ?_ (by assumption)))⟩

set_option maxHeartbeats 1000000 in
theorem RefAfter_any (p f l n : Int) (w : World) (hv : tnB p f l = true) (h1 : -2000000000000000 ≤ n) (h2 : n ≤ 2000000000000000) :
    Calls Tryd.prog 69 #[.agg #[.int .i64 p, .int .i64 f, .int .i64 l], .int .i64 n] w fun e w' => e = .returned (.int .i64 (tnNext p f l n)) ∧ Ext w w' := by
  obtain ⟨a1, a2, a3, a4, a5, a6⟩ := tnB_t hv
  have b1 := Int.emod_nonneg (n - f) (show p ≠ 0 by omega)
  have b2 := Int.emod_lt_of_pos (n - f) (show 0 < p by omega)
  clear hv
  go_enter Tryd.func69, Tryd.ntmps69
  go_wp2_with (go_at_call 88; refine (refmod_any _ _ _ (by omega) (by omega)).mono ?_; rintro e w' ⟨rfl, rfl⟩)
  all_goals (go_ret; exact ⟨ret_int (by unfold tnNext; split <;> omega), (by repeat (first | exact Ext.refl _ | assumption | refine Ext.alloc ?_ _ | refine Ext.drew ?_ | refine Ext.drewN _ ?_ | refine Ext.trans ?_ (by assumption)))⟩)

set_option maxHeartbeats 1000000 in
theorem RefBefore_any (p f l n : Int) (w : World) (hv : tnB p f l = true) (h1 : -2000000000000000 ≤ n) (h2 : n ≤ 2000000000000000) :
    Calls Tryd.prog 111 #[.agg #[.int .i64 p, .int .i64 f, .int .i64 l], .int .i64 n] w fun e w' => e = .returned (.int .i64 (tnLast p f l n)) ∧ Ext w w' := by
  obtain ⟨a1, a2, a3, a4, a5, a6⟩ := tnB_t hv
  have b1 := Int.emod_nonneg (n - f) (show p ≠ 0 by omega)
  have b2 := Int.emod_lt_of_pos (n - f) (show 0 < p by omega)
  clear hv
  go_enter Tryd.func111, Tryd.ntmps111
  go_wp2_with (go_at_call 88; refine (refmod_any _ _ _ (by omega) (by omega)).mono ?_; rintro e w' ⟨rfl, rfl⟩)
  all_goals (go_ret; exact ⟨ret_int (by unfold tnLast; split <;> omega), (by repeat (first | exact Ext.refl _ | assumption | refine Ext.alloc ?_ _ | refine Ext.drew ?_ | refine Ext.drewN _ ?_ | refine Ext.trans ?_ (by assumption)))⟩)


/-- none of the first k -/
def noT (l : List Tn) (n : Int) (k : Nat) : Prop := ∀ i (hi : i < l.length), i < k → tnIn l[i].p l[i].f l[i].l n = false
def noS (l : List Sp) (n : Int) (k : Nat) : Prop := ∀ i (hi : i < l.length), i < k → inB n l[i].lo l[i].hi = false
theorem noT_succ {l : List Tn} {n : Int} {k : Nat} (h : noT l n k) (hk : k < l.length) (hq : tnIn l[k].p l[k].f l[k].l n = false) : noT l n (k + 1) := by
  intro i hi h'
  by_cases e : i = k
  · subst e; exact hq
  · exact h i hi (by omega)
theorem noS_succ {l : List Sp} {n : Int} {k : Nat} (h : noS l n k) (hk : k < l.length) (hq : inB n l[k].lo l[k].hi = false) : noS l n (k + 1) := by
  intro i hi h'
  by_cases e : i = k
  · subst e; exact hq
  · exact h i hi (by omega)
theorem mem_hitT {S : Mn} {n : Int} {k : Nat} (hk : k < S.ts.length) (hq : tnIn S.ts[k].p S.ts[k].f S.ts[k].l n = true) : true = mem S n := by
  have : S.ts.any (fun t => tnIn t.p t.f t.l n) = true := List.any_eq_true.2 ⟨_, List.getElem_mem hk, hq⟩
  simp [mem, this]
theorem mem_hitS {S : Mn} {n : Int} {k : Nat} (hk : k < S.ss.length) (hq : inB n S.ss[k].lo S.ss[k].hi = true) : true = mem S n := by
  have : S.ss.any (fun s => inB n s.lo s.hi) = true := List.any_eq_true.2 ⟨_, List.getElem_mem hk, hq⟩
  simp [mem, this]
theorem mem_no {S : Mn} {n : Int} (h : noT S.ts n S.ts.length) (h' : noS S.ss n S.ss.length) : false = mem S n := by
  have e1 : S.ts.any (fun t => tnIn t.p t.f t.l n) = false := by
    simp only [List.any_eq_false]
    intro x hx
    obtain ⟨i, hi, rfl⟩ := List.getElem_of_mem hx
    simp [h i hi hi]
  have e2 : S.ss.any (fun s => inB n s.lo s.hi) = false := by
    simp only [List.any_eq_false]
    intro x hx
    obtain ⟨i, hi, rfl⟩ := List.getElem_of_mem hx
    simp [h' i hi hi]
  simp [mem, e1, e2]

set_option maxHeartbeats 2000000 in
theorem RefHas_any (a b : Value) (S : Mn) (n : Int) (w : World) (hS : MinsAt w a b S) (hok : Ok S) (h1 : -2000000000000000 ≤ n) (h2 : n ≤ 2000000000000000) :
    Calls Tryd.prog 92 #[.agg #[a, b], .int .i64 n] w fun e w' => e = .returned (.bool (mem S n)) ∧ Ext w w' := by
  obtain ⟨aa, ca, rfl⟩ := hS.t.len
  obtain ⟨ab, cb, rfl⟩ := hS.s.len
  have hl1 := hok.lt
  have hl2 := hok.ls
  go_enter Tryd.func92, Tryd.ntmps92
  go_wp2_with fail
  obtain ⟨W0, hW0⟩ : ∃ W0, w.alloc (.cells #[.slice aa S.ts.length ca, .slice ab S.ss.length cb] 34) = W0 := ⟨_, rfl⟩
  have hx0 : Ext w W0 := by rw [← hW0]; exact (by repeat (first | exact Ext.refl _ | assumption | refine Ext.alloc ?_ _ | refine Ext.drew ?_ | refine Ext.drewN _ ?_ | refine Ext.trans ?_ (by assumption)))
  have b0 : W0.cell? ⟨w.heap.size, 0, none⟩ = some (.slice aa S.ts.length ca) := by rw [← hW0]; simp
  have b1 : W0.cell? ⟨w.heap.size, 1, none⟩ = some (.slice ab S.ss.length cb) := by rw [← hW0]; simp
  rw [hW0]
  clear hW0
  go_loopw [5] (fun i wr => ∃ k : Nat, k ≤ S.ts.length ∧ i = .int .i64 k ∧ noT S.ts n k ∧ Ext W0 wr) (fun i _ => S.ts.length - (intOf i).toNat)
  case atStart => exact ⟨0, by omega, rfl, fun i hi h => by omega, Ext.refl _⟩
  case round =>
    obtain ⟨k, hk, rfl, hno, hx⟩ := hrel
    have d0 := hx.cell b0
    have d1 := hx.cell b1
    by_cases hlt : k < S.ts.length
    · obtain ⟨b, o, rfl, c0, c1, c2⟩ := ((hS.t.ext hx0).ext hx).get k hlt
      have hv := hok.t _ (List.getElem_mem hlt)
      cases hq : tnIn S.ts[k].p S.ts[k].f S.ts[k].l n
      · have hs := noT_succ hno hlt hq
        go_wp2_with (go_at_call 131; refine (RefInTurn_any _ _ _ _ _ hv h1 h2).mono ?_; rintro e w' ⟨rfl, hx2⟩)
        go_roundw
        case rel => exact ⟨k + 1, by omega, by go_num, hs, (by repeat (first | exact Ext.refl _ | assumption | refine Ext.alloc ?_ _ | refine Ext.drew ?_ | refine Ext.drewN _ ?_ | refine Ext.trans ?_ (by assumption)))⟩
        case measure => simp [intOf]; omega
      · go_wp2_with (go_at_call 131; refine (RefInTurn_any _ _ _ _ _ hv h1 h2).mono ?_; rintro e w' ⟨rfl, hx2⟩)
        go_ret
        exact ⟨ret_bool (mem_hitT hlt hq), (by repeat (first | exact Ext.refl _ | assumption | refine Ext.alloc ?_ _ | refine Ext.drew ?_ | refine Ext.drewN _ ?_ | refine Ext.trans ?_ (by assumption)))⟩
    · obtain rfl : k = S.ts.length := by omega
      go_wp2_with fail
      obtain ⟨W1, rfl⟩ : ∃ W1 : World, W1 = wr := ⟨_, rfl⟩
      go_loopw [7] (fun i wr => ∃ k : Nat, k ≤ S.ss.length ∧ i = .int .i64 k ∧ noS S.ss n k ∧ Ext W1 wr) (fun i _ => S.ss.length - (intOf i).toNat)
      case atStart => exact ⟨0, by omega, rfl, fun i hi h => by omega, Ext.refl _⟩
      case round =>
        obtain ⟨k, hk, rfl, hno2, hy⟩ := hrel
        have f0 := hy.cell d0
        have f1 := hy.cell d1
        by_cases hlt : k < S.ss.length
        · obtain ⟨b, o, rfl, c0, c1⟩ := (((hS.s.ext hx0).ext hx).ext hy).get k hlt
          cases hq : inB n S.ss[k].lo S.ss[k].hi
          · have hs := noS_succ hno2 hlt hq
            go_wp2_with fail
            go_quiet ((go_at_call 125; exact Calls.quiet_of_same ((in_any _ _ _ _).mono fun e w' ⟨h1, h2⟩ => ⟨h1, h2.symm⟩)))
            rw [hq]
            go_wp2
            go_roundw
            case rel => exact ⟨k + 1, by omega, by go_num, hs, (by repeat (first | exact Ext.refl _ | assumption | refine Ext.alloc ?_ _ | refine Ext.drew ?_ | refine Ext.drewN _ ?_ | refine Ext.trans ?_ (by assumption)))⟩
            case measure => simp [intOf]; omega
          · go_wp2_with fail
            go_quiet ((go_at_call 125; exact Calls.quiet_of_same ((in_any _ _ _ _).mono fun e w' ⟨h1, h2⟩ => ⟨h1, h2.symm⟩)))
            rw [hq]
            go_wp2
            go_ret
            exact ⟨ret_bool (mem_hitS hlt hq), (by repeat (first | exact Ext.refl _ | assumption | refine Ext.alloc ?_ _ | refine Ext.drew ?_ | refine Ext.drewN _ ?_ | refine Ext.trans ?_ (by assumption)))⟩
        · obtain rfl : k = S.ss.length := by omega
          go_wp2_with fail
          go_ret
          exact ⟨ret_bool (mem_no hno hno2), (by repeat (first | exact Ext.refl _ | assumption | refine Ext.alloc ?_ _ | refine Ext.drew ?_ | refine Ext.drewN _ ?_ | refine Ext.trans ?_ (by assumption)))⟩

end Go.Proofs.YtejmmfjabmmihaaDoor
