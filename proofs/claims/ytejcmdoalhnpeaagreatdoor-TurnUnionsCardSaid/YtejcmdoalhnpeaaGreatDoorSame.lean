/- SameSet of the specification. -/
import Derived.Test.YtejcmdoalhnpeaaGreatDoorApt
namespace Go.Proofs.YtejcmdoalhnpeaaGreatDoor
open Go.RowKit Go.Shelf

/-- two sets are the same -/
def tnEq (a b : List Tn) : Bool := decide (a.map (fun s => (s.p, s.f, s.l)) = b.map (fun s => (s.p, s.f, s.l)))
theorem tn_ext {a b : Tn} (h1 : a.p = b.p) (h2 : a.f = b.f) (h3 : a.l = b.l) : a = b := by cases a; cases b; simp_all
theorem tnEq_iff (a b : List Tn) : tnEq a b = true ↔ a = b := by
  unfold tnEq
  rw [decide_eq_true_iff]
  constructor
  · intro h
    refine List.map_inj_right (f := fun s : Tn => (s.p, s.f, s.l)) ?_ |>.1 h
    intro x y hxy
    simp only [Prod.mk.injEq] at hxy
    exact tn_ext hxy.1 hxy.2.1 hxy.2.2
  · intro h; rw [h]
def mnEq (S T : Mn) : Bool := spEq S.ss T.ss && tnEq S.ts T.ts
theorem mnEq_iff (S T : Mn) : mnEq S T = true ↔ S = T := by
  unfold mnEq
  rw [Bool.and_eq_true, spEq_iff, tnEq_iff]
  cases S; cases T
  simp [and_comm]
theorem mnEq_self (S : Mn) : mnEq S S = true := (mnEq_iff S S).2 rfl
def SameToT (a b : List Tn) (n : Nat) : Prop := a.take n = b.take n

set_option maxHeartbeats 2000000 in
theorem SameSet_any (a b c d : Value) (S T : Mn) (w : World) (hS : MinsAt w a b S) (hT : MinsAt w c d T) (hl : S.ts.length ≤ 2000000) (hl2 : T.ts.length ≤ 2000000) (hl3 : S.ss.length ≤ 2000000) (hl4 : T.ss.length ≤ 2000000) :
    Calls Tryz.prog 10 #[.agg #[a, b], .agg #[c, d]] w fun e w' => e = .returned (.bool (mnEq S T)) ∧ Ext w w' := by
  obtain ⟨aa, ca, rfl⟩ := hS.t.len
  obtain ⟨ab, cb, rfl⟩ := hS.s.len
  obtain ⟨ac, cc, rfl⟩ := hT.t.len
  obtain ⟨ad, cd, rfl⟩ := hT.s.len
  go_enter Tryz.func10, Tryz.ntmps10
  go_wp2_with fail
  refine (SameSpans_any _ _ S.ss T.ss _ (hS.s.ext (by repeat (first | exact Ext.refl _ | assumption | refine Ext.alloc ?_ _ | refine Ext.drew ?_ | refine Ext.drewN _ ?_ | refine Ext.trans ?_ (by assumption)))) (hT.s.ext (by repeat (first | exact Ext.refl _ | assumption | refine Ext.alloc ?_ _ | refine Ext.drew ?_ | refine Ext.drewN _ ?_ | refine Ext.trans ?_ (by assumption)))) hl3 hl4).mono ?_
  rintro e w1 ⟨rfl, hx1⟩
  obtain ⟨q0, q1, hx, hzz⟩ := alloc2 hx1
  clear hx1
  have d0 : w1.cell? ⟨w.heap.size, 0, none⟩ = some (.slice aa S.ts.length ca) := q0.cell 0
  have d1 : w1.cell? ⟨w.heap.size + 1, 0, none⟩ = some (.slice ac T.ts.length cc) := q1.cell 0
  have ht := hS.t.ext hx
  have hu := hT.t.ext hx
  clear q0 q1 hS hT
  cases hsp : spEq S.ss T.ss
  · go_wp2_with fail
    go_ret
    exact ⟨ret_bool (by simp [mnEq, hsp]), hx⟩
  · cases hL : ((S.ts.length : Int) != T.ts.length)
    · have hl3 : S.ts.length = T.ts.length := by simp at hL; omega
      have HL := Lib.hid hl3
      clear hl3
      go_wp2_with fail
      go_loopw [6] (fun i wr => ∃ n : Nat, n ≤ S.ts.length ∧ i = .int .i64 n ∧ Hid (SameToT S.ts T.ts n) ∧ Ext w1 wr) (fun i _ => S.ts.length - (intOf i).toNat)
      case atStart => exact ⟨0, by omega, rfl, Lib.hid (by simp [SameToT]), (by repeat (first | exact Ext.refl _ | assumption | refine Ext.alloc ?_ _ | refine Ext.drew ?_ | refine Ext.drewN _ ?_ | refine Ext.trans ?_ (by assumption)))⟩
      case round =>
        obtain ⟨n, hn, rfl, HS, hy⟩ := hrel
        have e0 := hy.cell d0
        have e1 := hy.cell d1
        by_cases hlt : n < S.ts.length
        · have hlt2 : n < T.ts.length := by rw [← HL.out]; exact hlt
          obtain ⟨b1, o1, rfl, c0, c1, c2⟩ := (ht.ext hy).get n hlt
          obtain ⟨b2, o2, rfl, c3, c4, c5⟩ := (hu.ext hy).get n hlt2
          have hne := neqTn S.ts[n].p S.ts[n].f S.ts[n].l T.ts[n].p T.ts[n].f T.ts[n].l
          cases hq : (S.ts[n].p == T.ts[n].p && S.ts[n].f == T.ts[n].f && S.ts[n].l == T.ts[n].l)
          · simp only [hq] at hne
            go_wp2_with fail
            go_quiet (fail)
            go_wp2
            go_ret
            refine ⟨ret_bool ?_, (by repeat (first | exact Ext.refl _ | assumption | refine Ext.alloc ?_ _ | refine Ext.drew ?_ | refine Ext.drewN _ ?_ | refine Ext.trans ?_ (by assumption)))⟩
            symm
            rw [← Bool.not_eq_true, mnEq_iff]
            intro h
            subst h
            simp at hq
          · simp only [hq] at hne
            have he : S.ts[n] = T.ts[n] := by simp at hq; exact tn_ext hq.1.1 hq.1.2 hq.2
            have hs : SameToT S.ts T.ts (n + 1) := by
              have := HS.out
              unfold SameToT at *
              rw [take_succ_get S.ts n hlt, take_succ_get T.ts n hlt2, this, he]
            have HS2 := Lib.hid hs
            clear he hs hq
            go_wp2_with fail
            go_quiet (fail)
            go_wp2
            go_roundw
            case rel => exact ⟨n + 1, by omega, by go_num, HS2, (by repeat (first | exact Ext.refl _ | assumption | refine Ext.alloc ?_ _ | refine Ext.drew ?_ | refine Ext.drewN _ ?_ | refine Ext.trans ?_ (by assumption)))⟩
            case measure => simp [intOf]; omega
        · obtain rfl : n = S.ts.length := by omega
          go_wp2_with fail
          go_ret
          exact ⟨ret_bool (by symm; unfold mnEq; rw [hsp, Bool.true_and, tnEq_iff]; have := HS.out; unfold SameToT at this; rw [List.take_length, HL.out, List.take_length] at this; exact this), (by repeat (first | exact Ext.refl _ | assumption | refine Ext.alloc ?_ _ | refine Ext.drew ?_ | refine Ext.drewN _ ?_ | refine Ext.trans ?_ (by assumption)))⟩
    · have hl3 : S.ts.length ≠ T.ts.length := by simp at hL; omega
      go_wp2_with fail
      go_ret
      exact ⟨ret_bool (by symm; rw [← Bool.not_eq_true, mnEq_iff]; intro h; rw [h] at hl3; exact hl3 rfl), hx⟩
end Go.Proofs.YtejcmdoalhnpeaaGreatDoor
