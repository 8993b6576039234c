/- Period of the specification; the laws' own multiple and soon. -/
import Derived.Test.YtejmmfjabmmihaaDoorFewQ
import Derived.Test.YtejmmfjabmmihaaDoorFirst
namespace Go.Proofs.YtejmmfjabmmihaaDoor
open Go.RowKit Go.Shelf

set_option maxHeartbeats 2000000 in
theorem lawMultiple_any (p q : Int) (w : World) (h1 : 1 ≤ p) (h2 : p ≤ 40320) (h3 : 1 ≤ q) (h4 : q ≤ 40320) :
    Calls Tryd.prog 98 #[.int .i64 p, .int .i64 q] w fun e w' => e = .returned (.int .i64 (lcmI p q)) ∧ Ext w w' := by
  obtain ⟨a, rfl⟩ := Int.eq_ofNat_of_zero_le (show 0 ≤ p by omega)
  obtain ⟨b, rfl⟩ := Int.eq_ofNat_of_zero_le (show 0 ≤ q by omega)
  have hL := lcmI_le h1 h2 h3 h4
  have hg1 := gcdI_pos (q := (b : Int)) h1
  unfold lcmI at hL ⊢
  rw [gcdI_nat] at hL hg1 ⊢
  obtain ⟨g, hg⟩ : ∃ g, Nat.gcd a b = g := ⟨_, rfl⟩
  rw [hg] at hL hg1 ⊢
  have HG := Lib.hid hg
  have HL := Lib.hid hL
  clear hg hL
  go_enter Tryd.func98, Tryd.ntmps98
  go_wp2
  go_loopw [5, 6] (fun u v wr => ∃ x y : Nat, u = .int .i64 x ∧ v = .int .i64 y ∧ Hid (Nat.gcd x y = g) ∧ x ≤ 1000000000000 ∧ y ≤ 1000000000000 ∧ Ext w wr) (fun _ v _ => (intOf v).toNat)
  case atStart => exact ⟨a, b, rfl, rfl, HG, by omega, by omega, Ext.refl _⟩
  case round =>
    obtain ⟨x, y, rfl, rfl, HG2, hx, hy, hxw⟩ := hrel
    by_cases h0 : y = 0
    · subst h0
      have hxg : x = g := by have := HG2.out; simpa using this
      subst hxg
      have hgz : ((x : Int) == 0) = false := by rw [beq_eq_false_iff_ne]; omega
      have he : ((a : Int).tdiv x) * b = (a : Int) / x * b := by rw [Int.tdiv_eq_ediv_of_nonneg (by omega)]
      have hd1 : 0 ≤ (a : Int) / x := Int.ediv_nonneg (by omega) (by omega)
      have hd2 : (a : Int) / x ≤ a := Int.ediv_le_self _ (by omega)
      have hb1 := HL.out
      go_wp2
      go_ret
      exact ⟨ret_int (by first | rfl | (rw [IntWalk.i64_in _ (by omega)])), (by repeat (first | exact Ext.refl _ | assumption | refine Ext.alloc ?_ _ | refine Ext.drew ?_ | refine Ext.drewN _ ?_ | refine Ext.trans ?_ (by assumption)))⟩
    · have hy1 : (1 : Int) ≤ y := by omega
      have hyz : ((y : Int) == 0) = false := by rw [beq_eq_false_iff_ne]; omega
      have hyz2 : ((y : Int) != 0) = true := by rw [bne_iff_ne]; omega
      have hb1 := Int.emod_nonneg (x : Int) (show (y : Int) ≠ 0 by omega)
      have hb2 := Int.emod_lt_of_pos (x : Int) (show (0 : Int) < y by omega)
      go_wp2
      all_goals (try go_quiet (fail))
      all_goals (try go_wp2)
      all_goals
        go_roundw
        case rel => exact ⟨y, x % y, by first | rfl | simp, by first | rfl | simp, (by have h := HG2.out; exact Lib.hid (by rw [← h]; exact gcd_step x y)), hy, by have := Nat.mod_lt x (show 0 < y by omega); omega, (by repeat (first | exact Ext.refl _ | assumption | refine Ext.alloc ?_ _ | refine Ext.drew ?_ | refine Ext.drewN _ ?_ | refine Ext.trans ?_ (by assumption)))⟩
        case measure => simp [intOf]; have := Nat.mod_lt x (show 0 < y by omega); omega

/-- how far the least common multiple has come: not above the bound -/
def AllTo (S : Mn) (n : Nat) : Prop := 1 ≤ allL (S.ts.take n) ∧ allL (S.ts.take n) ≤ 40320
theorem allL_next {S : Mn} {n : Nat} (h : n < S.ts.length) : allL (S.ts.take (n + 1)) = lcmI (allL (S.ts.take n)) S.ts[n].p := by
  rw [take_succ_get S.ts n h, allL_snoc]
def allR (S : Mn) : Int := if 40320 < allL S.ts then 0 else allL S.ts
theorem okT_pos {S : Mn} (h : Ok S) : ∀ t ∈ S.ts, 1 ≤ t.p := fun t ht => (tnB_t (h.t t ht)).1

set_option maxHeartbeats 2000000 in
theorem RefAll_any (a b : Value) (S : Mn) (w : World) (hS : MinsAt w a b S) (hok : Ok S) :
    Calls Tryd.prog 101 #[.agg #[a, b]] w fun e w' => e = .returned (.int .i64 (allR S)) ∧ Ext w w' := by
  obtain ⟨aa, ca, rfl⟩ := hS.t.len
  have hl := hok.lt
  go_enter Tryd.func101, Tryd.ntmps101
  go_wp2_with fail
  obtain ⟨W1, hW1⟩ : ∃ W1, w.alloc (.cells #[.slice aa S.ts.length ca, b] 34) = W1 := ⟨_, rfl⟩
  have hx : Ext w W1 := by rw [← hW1]; exact (by repeat (first | exact Ext.refl _ | assumption | refine Ext.alloc ?_ _ | refine Ext.drew ?_ | refine Ext.drewN _ ?_ | refine Ext.trans ?_ (by assumption)))
  have d0 : W1.cell? ⟨w.heap.size, 0, none⟩ = some (.slice aa S.ts.length ca) := by rw [← hW1]; exact cell_at_new _ _ _ _ _ _ rfl rfl
  have ht := hS.t.ext hx
  rw [hW1]
  clear hW1 hS
  go_loopw [3, 4] (fun u i wr => ∃ n : Nat, n ≤ S.ts.length ∧ i = .int .i64 n ∧ u = .int .i64 (allL (S.ts.take n)) ∧ Hid (AllTo S n) ∧ Ext W1 wr) (fun _ i _ => S.ts.length - (intOf i).toNat)
  case atStart => exact ⟨0, Nat.zero_le _, rfl, rfl, Lib.hid (by simp [AllTo, allL]), (by repeat (first | exact Ext.refl _ | assumption | refine Ext.alloc ?_ _ | refine Ext.drew ?_ | refine Ext.drewN _ ?_ | refine Ext.trans ?_ (by assumption)))⟩
  case round =>
    obtain ⟨n, hn, rfl, rfl, HA, hy⟩ := hrel
    have e0 := hy.cell d0
    by_cases hlt : n < S.ts.length
    · obtain ⟨b1, o1, rfl, c0, _, _⟩ := (ht.ext hy).get n hlt
      have hv := tnB_t (hok.t _ (List.getElem_mem hlt))
      obtain ⟨a1, a2⟩ := HA.out
      have hnx := allL_next hlt
      have hps := (allL_take (okT_pos hok) (n + 1))
      have hpos : 1 ≤ allL (S.ts.take (n + 1)) := by rw [hnx]; exact (lcmI_le a1 a2 hv.1 hv.2.1).1
      have HNX := Lib.hid hnx
      have HPS := Lib.hid hps
      have HPOS := Lib.hid hpos
      clear hnx hps hpos
      go_wp2_with fail
      refine (multiple_any _ _ _ a1 a2 hv.1 hv.2.1).mono ?_
      rw [← HNX.out]
      rintro e w2 ⟨rfl, hx2⟩
      by_cases hbig : 40320 < allL (S.ts.take (n + 1))
      · have hr : allR S = 0 := by unfold allR; rw [if_pos (by have := HPS.out; omega)]
        go_wp2_with fail
        go_ret
        exact ⟨ret_int hr.symm, (by repeat (first | exact Ext.refl _ | assumption | refine Ext.alloc ?_ _ | refine Ext.drew ?_ | refine Ext.drewN _ ?_ | refine Ext.trans ?_ (by assumption)))⟩
      · have HA2 : Hid (AllTo S (n + 1)) := Lib.hid ⟨HPOS.out, by omega⟩
        go_wp2_with fail
        go_roundw
        case rel => exact ⟨n + 1, by omega, by go_num, rfl, HA2, hy.trans hx2⟩
        case measure => simp [intOf]; omega
    · obtain rfl : n = S.ts.length := by omega
      have hr : allL (S.ts.take S.ts.length) = allR S := by
        have := HA.out.2
        unfold allR
        rw [List.take_length] at this ⊢
        rw [if_neg (by omega)]
      go_wp2_with fail
      go_ret
      exact ⟨ret_int hr, (by repeat (first | exact Ext.refl _ | assumption | refine Ext.alloc ?_ _ | refine Ext.drew ?_ | refine Ext.drewN _ ?_ | refine Ext.trans ?_ (by assumption)))⟩

/-- what soon tells -/
def soonB (S : Mn) (m : Int) : Bool := decide (chkE S ≠ 0) || decide (40320 < allL S.ts) || decide (allL S.ts ≤ m)
set_option maxHeartbeats 2000000 in
theorem soon_any (a b : Value) (S : Mn) (m : Int) (w : World) (hS : MinsAt w a b S) :
    Calls Tryd.prog 41 #[.agg #[a, b], .int .i64 m] w fun e w' => e = .returned (.bool (soonB S m)) ∧ Ext w w' := by
  obtain ⟨aa, ca, rfl⟩ := hS.t.len
  by_cases hc : chkE S = 0
  · have hok := Ok.of hc
    have hl := hok.lt
    have HC := Lib.hid hc
    clear hc
    go_enter Tryd.func41, Tryd.ntmps41
    go_wp2_with fail
    refine (RefCheck_any _ _ S _ (hS.ext (by repeat (first | exact Ext.refl _ | assumption | refine Ext.alloc ?_ _ | refine Ext.drew ?_ | refine Ext.drewN _ ?_ | refine Ext.trans ?_ (by assumption))))).mono ?_
    rw [HC.out]
    rintro e W1 ⟨rfl, hx1⟩
    obtain ⟨q0, hx, hzz⟩ := alloc1 hx1
    clear hx1
    have d0 : W1.cell? ⟨w.heap.size, 0, none⟩ = some (.slice aa S.ts.length ca) := q0.cell 0
    have ht := hS.t.ext hx
    clear q0 hS
    go_wp2_with fail
    go_loopw [5, 6] (fun u i wr => ∃ n : Nat, n ≤ S.ts.length ∧ i = .int .i64 n ∧ u = .int .i64 (allL (S.ts.take n)) ∧ Hid (AllTo S n) ∧ Ext W1 wr) (fun _ i _ => S.ts.length - (intOf i).toNat)
    case atStart => exact ⟨0, Nat.zero_le _, rfl, rfl, Lib.hid (by simp [AllTo, allL]), (by repeat (first | exact Ext.refl _ | assumption | refine Ext.alloc ?_ _ | refine Ext.drew ?_ | refine Ext.drewN _ ?_ | refine Ext.trans ?_ (by assumption)))⟩
    case round =>
      obtain ⟨n, hn, rfl, rfl, HA, hy⟩ := hrel
      have e0 := hy.cell d0
      by_cases hlt : n < S.ts.length
      · obtain ⟨b1, o1, rfl, c0, _, _⟩ := (ht.ext hy).get n hlt
        have hv := tnB_t (hok.t _ (List.getElem_mem hlt))
        obtain ⟨a1, a2⟩ := HA.out
        have hnx := allL_next hlt
        have hps := (allL_take (okT_pos hok) (n + 1))
        have hpos : 1 ≤ allL (S.ts.take (n + 1)) := by rw [hnx]; exact (lcmI_le a1 a2 hv.1 hv.2.1).1
        have HNX := Lib.hid hnx
        have HPS := Lib.hid hps
        have HPOS := Lib.hid hpos
        clear hnx hps hpos
        go_wp2_with fail
        refine (lawMultiple_any _ _ _ a1 a2 hv.1 hv.2.1).mono ?_
        rw [← HNX.out]
        rintro e w2 ⟨rfl, hx2⟩
        by_cases hbig : 40320 < allL (S.ts.take (n + 1))
        · have hr : soonB S m = true := by unfold soonB; rw [decide_eq_true (show 40320 < allL S.ts by have := HPS.out; omega)]; simp
          go_wp2_with fail
          go_ret
          exact ⟨ret_bool hr.symm, (by repeat (first | exact Ext.refl _ | assumption | refine Ext.alloc ?_ _ | refine Ext.drew ?_ | refine Ext.drewN _ ?_ | refine Ext.trans ?_ (by assumption)))⟩
        · have HA2 : Hid (AllTo S (n + 1)) := Lib.hid ⟨HPOS.out, by omega⟩
          go_wp2_with fail
          go_roundw
          case rel => exact ⟨n + 1, by omega, by go_num, rfl, HA2, hy.trans hx2⟩
          case measure => simp [intOf]; omega
      · obtain rfl : n = S.ts.length := by omega
        have hr : soonB S m = decide (allL (S.ts.take S.ts.length) ≤ m) := by
          have := HA.out.2
          unfold soonB
          rw [List.take_length] at this ⊢
          rw [HC.out, decide_eq_false (show ¬ 40320 < allL S.ts by omega)]
          simp
        rw [List.take_length] at hr
        go_wp2_with fail
        go_ret
        exact ⟨ret_bool hr.symm, (by repeat (first | exact Ext.refl _ | assumption | refine Ext.alloc ?_ _ | refine Ext.drew ?_ | refine Ext.drewN _ ?_ | refine Ext.trans ?_ (by assumption)))⟩
  · have hr : soonB S m = true := by unfold soonB; rw [decide_eq_true hc]; simp
    have hcb : (chkE S != 0) = true := by simpa using hc
    clear hc
    go_enter Tryd.func41, Tryd.ntmps41
    go_wp2_with fail
    refine (RefCheck_any _ _ S _ (hS.ext (by repeat (first | exact Ext.refl _ | assumption | refine Ext.alloc ?_ _ | refine Ext.drew ?_ | refine Ext.drewN _ ?_ | refine Ext.trans ?_ (by assumption))))).mono ?_
    rintro e W1 ⟨rfl, hx1⟩
    go_wp2_with fail
    go_ret
    exact ⟨ret_bool hr.symm, (by repeat (first | exact Ext.refl _ | assumption | refine Ext.alloc ?_ _ | refine Ext.drew ?_ | refine Ext.drewN _ ?_ | refine Ext.trans ?_ (by assumption)))⟩

/-- as far as all comes again -/
def AgTo (F : Nat → Bool) (p n : Nat) : Prop := ∀ i, i < n → F i = F (i + p)
theorem agn_t {F : Nat → Bool} {L p : Nat} (h : AgTo F p L) : agnB F L p = true := by
  simp only [agnB, List.all_eq_true, List.mem_range, beq_iff_eq]; exact h
theorem agn_f {F : Nat → Bool} {L p n : Nat} (h : n < L) (h1 : F n ≠ F (n + p)) : agnB F L p = false := by
  rw [← Bool.not_eq_true]
  intro h2
  simp only [agnB, List.all_eq_true, List.mem_range, beq_iff_eq] at h2
  exact h1 (h2 n h)
theorem AgTo.succ {F : Nat → Bool} {p n : Nat} (h : AgTo F p n) (h1 : F n = F (n + p)) : AgTo F p (n + 1) := by
  intro i hi
  by_cases e : i = n
  · subst e; exact h1
  · exact h i (by omega)

set_option maxHeartbeats 2000000 in
theorem RefAgain_any (a b : Value) (S : Mn) (p L : Nat) (w : World) (hS : MinsAt w a b S) (hok : Ok S) (hss : S.ss = []) (h1 : p ≤ 1000000) (h2 : L ≤ 1000000) :
    Calls Tryd.prog 102 #[.agg #[a, b], .int .i64 p, .int .i64 L] w fun e w' => e = .returned (.bool (agnB (whlF S) L p)) ∧ Ext w w' := by
  have HSS := Lib.hid hss
  clear hss
  go_enter Tryd.func102, Tryd.ntmps102
  go_wp2_with fail
  obtain ⟨W1, hW1⟩ : ∃ W1, w.alloc (.cells #[a, b] 34) = W1 := ⟨_, rfl⟩
  have hx : Ext w W1 := by rw [← hW1]; exact (by repeat (first | exact Ext.refl _ | assumption | refine Ext.alloc ?_ _ | refine Ext.drew ?_ | refine Ext.drewN _ ?_ | refine Ext.trans ?_ (by assumption)))
  have d0 : W1.cell? ⟨w.heap.size, 0, none⟩ = some a := by rw [← hW1]; exact cell_at_new _ _ _ _ _ _ rfl rfl
  have d1 : W1.cell? ⟨w.heap.size, 1, none⟩ = some b := by rw [← hW1]; exact cell_at_new _ _ _ _ _ _ rfl rfl
  have hS1 := hS.ext hx
  rw [hW1]
  clear hW1 hS
  go_loopw [7, 8, 9] (fun i _ _ wr => ∃ n : Nat, n ≤ L ∧ i = .int .i64 n ∧ Hid (AgTo (whlF S) p n) ∧ Ext W1 wr) (fun i _ _ _ => L - (intOf i).toNat)
  case atStart => exact ⟨0, Nat.zero_le _, rfl, Lib.hid (fun i hi => by omega), (by repeat (first | exact Ext.refl _ | assumption | refine Ext.alloc ?_ _ | refine Ext.drew ?_ | refine Ext.drewN _ ?_ | refine Ext.trans ?_ (by assumption)))⟩
  case round =>
    obtain ⟨n, hn, rfl, HA, hy⟩ := hrel
    by_cases hlt : n < L
    · have e0 := hy.cell d0
      have e1 := hy.cell d1
      obtain ⟨x, hmx⟩ : ∃ x, whlF S n = x := ⟨_, rfl⟩
      obtain ⟨y, hmy⟩ : ∃ y, whlF S (n + p) = y := ⟨_, rfl⟩
      have hm1 : mem S ((n : Nat) : Int) = x := by rw [mem_whl HSS.out]; exact hmx
      have hm2 : mem S ((n : Int) + (p : Int)) = y := by rw [show (n : Int) + (p : Int) = ((n + p : Nat) : Int) by omega, mem_whl HSS.out]; exact hmy
      have hT : x = y → AgTo (whlF S) p (n + 1) := fun e => HA.out.succ (by rw [hmx, hmy, e])
      have hF : x ≠ y → agnB (whlF S) L p = false := fun e => agn_f hlt (by rw [hmx, hmy]; exact e)
      have HM1 := Lib.hid hm1
      have HM2 := Lib.hid hm2
      have HT := Lib.hid hT
      have HF := Lib.hid hF
      clear hmx hmy hm1 hm2 hT hF
      go_wp2_with fail
      refine (RefHas_any a b S n _ (hS1.ext hy) hok (by omega) (by omega)).mono ?_
      rw [HM1.out]
      rintro e w2 ⟨rfl, hx2⟩
      replace e0 := hx2.cell e0
      replace e1 := hx2.cell e1
      replace hy := hy.trans hx2
      clear hx2
      go_wp2_with fail
      refine (RefHas_any a b S ((n : Int) + (p : Int)) _ (hS1.ext hy) hok (by omega) (by omega)).mono ?_
      rw [HM2.out]
      rintro e w3 ⟨rfl, hx3⟩
      replace hy := hy.trans hx3
      clear hx3 e0 e1
      cases x
      · cases y
        · go_wp2_with fail
          go_roundw
          case rel => exact ⟨n + 1, by omega, by go_num, Lib.hid (HT.out (by simp)), hy⟩
          case measure => simp [intOf]; omega
        · go_wp2_with fail
          go_ret
          exact ⟨ret_bool (HF.out (by decide)).symm, hx.trans hy⟩
      · cases y
        · go_wp2_with fail
          go_ret
          exact ⟨ret_bool (HF.out (by decide)).symm, hx.trans hy⟩
        · go_wp2_with fail
          go_roundw
          case rel => exact ⟨n + 1, by omega, by go_num, Lib.hid (HT.out (by simp)), hy⟩
          case measure => simp [intOf]; omega
    · obtain rfl : n = L := by omega
      have hr := agn_t HA.out
      go_wp2_with fail
      go_ret
      exact ⟨ret_bool hr.symm, hx.trans hy⟩

def FoundPost (w : World) (N E : Int) (e : Ending) (w' : World) : Prop := e = .returned (.agg #[.int .i64 N, .int .i64 E]) ∧ Ext w w'
theorem perX_no {S : Mn} (h : whlE S ≠ 0) : perX S = 0 := by unfold perX; rw [if_neg h]
theorem perV_hit {F : Nat → Bool} {L n : Nat} (h : n < L) (h1 : perB F L (n + 1) = true) (h2 : NoPer F L n) : perV F L = (n : Int) + 1 := by
  unfold perV; rw [perN_hit h h1 h2]
theorem found_ret {w W : World} {tmps : Array Value} {N E n0 e0 : Int} (h2 : tmps.getD 2 undef = .pointer (some ⟨w.heap.size + 1, 0, none⟩)) (hc : Cls (w.heap.size + 1) 68 #[.int .i64 n0, .int .i64 e0] W) (hN : n0 = N) (hE : e0 = E) (hx : Ext w W) :
    bodyPost Tryd.prog Tryd.f43 (FoundPost w N E) Exit.ret { tmps := tmps, defers := [] } W := by
  have c0 := hc.cell 0
  have c1 := hc.cell 1
  simp only [List.getElem?_toArray, List.getElem?_cons_zero, List.getElem?_cons_succ] at c0 c1
  subst hN; subst hE
  have h2' : tmps[2]?.getD undef = .pointer (some ⟨w.heap.size + 1, 0, none⟩) := by simpa using h2
  refine bodyPost_ret (v := .agg #[.int .i64 n0, .int .i64 e0]) ?_ rfl ⟨rfl, hx⟩
  simp [results, Tryd.f43, go_sem, h2', c0, c1]

set_option maxRecDepth 100000 in
set_option maxHeartbeats 4000000 in
theorem RefPeriod_any (a b : Value) (S : Mn) (w : World) (hS : MinsAt w a b S) :
    Calls Tryd.prog 43 #[.agg #[a, b]] w (FoundPost w (perX S) (whlE S)) := by
  obtain ⟨aa, ca, rfl⟩ := hS.t.len
  obtain ⟨ab, cb, rfl⟩ := hS.s.len
  by_cases hc : chkE S = 0
  · have hok := Ok.of hc
    have HC := Lib.hid hc
    by_cases hs : 0 < S.ss.length ∨ S.ts.length = 0
    · have hW : whlE S = 1 := by unfold whlE; rw [if_neg (by omega), if_pos hs]
      have hP := perX_no (S := S) (by omega)
      have HW := Lib.hid hW
      have HP := Lib.hid hP
      clear hW hP hc
      go_enter Tryd.func43, Tryd.ntmps43
      go_wp2_with fail
      refine (RefCheck_any _ _ S _ (hS.ext (by repeat (first | exact Ext.refl _ | assumption | refine Ext.alloc ?_ _ | refine Ext.drew ?_ | refine Ext.drewN _ ?_ | refine Ext.trans ?_ (by assumption))))).mono ?_
      rw [HC.out]
      rintro e w1 ⟨rfl, hx1⟩
      obtain ⟨q0, q1, hx, hzz⟩ := alloc2 hx1
      clear hx1
      have d0 : w1.cell? ⟨w.heap.size, 0, none⟩ = some (.slice aa S.ts.length ca) := q0.cell 0
      have d1 : w1.cell? ⟨w.heap.size, 1, none⟩ = some (.slice ab S.ss.length cb) := q0.cell 1
      have d2 : w1.cell? ⟨w.heap.size + 1, 0, none⟩ = some (.int .i64 0) := q1.cell 0
      have d3 : w1.cell? ⟨w.heap.size + 1, 1, none⟩ = some (.int .i64 0) := q1.cell 1
      have f2 := q1.frozen 0
      have f3 := q1.frozen 1
      rcases Nat.eq_zero_or_pos S.ss.length with h0 | h0
      · have hts : S.ts.length = 0 := by omega
        clear hs
        go_wp2_with fail
        exact found_ret rfl ((q1.set 0 (.int .i64 0)).set 1 (.int .i64 1)) HP.out.symm HW.out.symm ((hx.setCell (by simp) _).setCell (by simp) _)
      · clear hs
        go_wp2_with fail
        exact found_ret rfl ((q1.set 0 (.int .i64 0)).set 1 (.int .i64 1)) HP.out.symm HW.out.symm ((hx.setCell (by simp) _).setCell (by simp) _)
    · have hs1 : S.ss.length = 0 := by omega
      have hs2 : 0 < S.ts.length := by omega
      have hss : S.ss = [] := List.eq_nil_of_length_eq_zero hs1
      have HSS := Lib.hid hss
      have HS1 := Lib.hid hs1
      obtain ⟨AL, hAL⟩ : ∃ AL, allR S = AL := ⟨_, rfl⟩
      have HAL := Lib.hid hAL
      have hal1 : 1 ≤ allL S.ts := allL_pos (okT_pos hok)
      by_cases hbig : 40320 < allL S.ts
      · have hW : whlE S = 2 := by unfold whlE; rw [if_neg (by omega), if_neg hs, if_pos hbig]
        have hP := perX_no (S := S) (by omega)
        have h0 : allR S = 0 := by unfold allR; rw [if_pos hbig]
        have HW := Lib.hid hW
        have HP := Lib.hid hP
        have H0 := Lib.hid h0
        rw [hs1] at hS ⊢
        clear hW hP hc h0 hbig hal1 hs hss hs1 hAL
        go_enter Tryd.func43, Tryd.ntmps43
        go_wp2_with fail
        refine (RefCheck_any _ _ S _ (hS.ext (by repeat (first | exact Ext.refl _ | assumption | refine Ext.alloc ?_ _ | refine Ext.drew ?_ | refine Ext.drewN _ ?_ | refine Ext.trans ?_ (by assumption))))).mono ?_
        rw [HC.out]
        rintro e w1 ⟨rfl, hx1⟩
        obtain ⟨q0, q1, hx, hzz⟩ := alloc2 hx1
        clear hx1
        have d0 : w1.cell? ⟨w.heap.size, 0, none⟩ = some (.slice aa S.ts.length ca) := q0.cell 0
        have d1 : w1.cell? ⟨w.heap.size, 1, none⟩ = some (.slice ab 0 cb) := q0.cell 1
        go_wp2_with fail
        refine (RefAll_any _ _ S _ (hS.ext hx) hok).mono ?_
        rw [H0.out]
        rintro e w2 ⟨rfl, hx2⟩
        replace q1 := q1.ext hx2
        have d2 : w2.cell? ⟨w.heap.size + 1, 0, none⟩ = some (.int .i64 0) := q1.cell 0
        have d3 : w2.cell? ⟨w.heap.size + 1, 1, none⟩ = some (.int .i64 0) := q1.cell 1
        have f2 := q1.frozen 0
        have f3 := q1.frozen 1
        go_wp2_with fail
        exact found_ret rfl ((q1.set 0 (.int .i64 0)).set 1 (.int .i64 2)) HP.out.symm HW.out.symm (((hx.trans hx2).setCell (by simp) _).setCell (by simp) _)
      · have hW : whlE S = 0 := by unfold whlE; rw [if_neg (by omega), if_neg hs, if_neg hbig]
        have hP := whlF_perX hW
        have hagn := whl_again hW
        obtain ⟨L, hL⟩ : ∃ L, (allL S.ts).toNat = L := ⟨_, rfl⟩
        have hr : allR S = (L : Int) := by unfold allR; rw [if_neg hbig]; omega
        have hL1 : 1 ≤ L := by omega
        have hL2 : L ≤ 40320 := by omega
        rw [hL] at hP hagn
        have HW := Lib.hid hW
        have HP := Lib.hid hP
        have HR := Lib.hid hr
        have HAG := Lib.hid hagn
        rw [hs1] at hS ⊢
        clear hW hP hc hbig hal1 hs hss hs1 hAL hr hagn hL
        go_enter Tryd.func43, Tryd.ntmps43
        go_wp2_with fail
        refine (RefCheck_any _ _ S _ (hS.ext (by repeat (first | exact Ext.refl _ | assumption | refine Ext.alloc ?_ _ | refine Ext.drew ?_ | refine Ext.drewN _ ?_ | refine Ext.trans ?_ (by assumption))))).mono ?_
        rw [HC.out]
        rintro e w1 ⟨rfl, hx1⟩
        obtain ⟨q0, q1, hx, hzz⟩ := alloc2 hx1
        clear hx1
        have d0 : w1.cell? ⟨w.heap.size, 0, none⟩ = some (.slice aa S.ts.length ca) := q0.cell 0
        have d1 : w1.cell? ⟨w.heap.size, 1, none⟩ = some (.slice ab 0 cb) := q0.cell 1
        go_wp2_with fail
        refine (RefAll_any _ _ S _ (hS.ext hx) hok).mono ?_
        rw [HR.out]
        rintro e w2 ⟨rfl, hx2⟩
        replace d0 := hx2.cell d0
        replace d1 := hx2.cell d1
        replace q1 := q1.ext hx2
        replace hx := hx.trans hx2
        have hS2 := hS.ext hx
        clear hx2 q0
        have hLz : ((L : Int) == 0) = false := by rw [beq_eq_false_iff_ne]; omega
        go_wp2_with fail
        go_loopw [5, 6] (fun i _ wr => ∃ n : Nat, n + 1 ≤ L ∧ i = .int .i64 ((n : Int) + 1) ∧ Hid (NoPer (whlF S) L n) ∧ Ext w2 wr) (fun i _ _ => L - (intOf i).toNat)
        case atStart => exact ⟨0, by omega, rfl, Lib.hid (fun j hj => by omega), (by repeat (first | exact Ext.refl _ | assumption | refine Ext.alloc ?_ _ | refine Ext.drew ?_ | refine Ext.drewN _ ?_ | refine Ext.trans ?_ (by assumption)))⟩
        case round =>
          obtain ⟨n, hn, rfl, HN, hy⟩ := hrel
          have e0 := hy.cell d0
          have e1 := hy.cell d1
          replace q1 := q1.ext hy
          have d2 : wr.cell? ⟨w.heap.size + 1, 0, none⟩ = some (.int .i64 0) := q1.cell 0
          have d3 : wr.cell? ⟨w.heap.size + 1, 1, none⟩ = some (.int .i64 0) := q1.cell 1
          have f2 := q1.frozen 0
          have f3 := q1.frozen 1
          by_cases hlt : n + 1 < L
          · have hte : (L : Int).tmod ((n : Int) + 1) = ((L % (n + 1) : Nat) : Int) := by rw [Int.tmod_eq_emod_of_nonneg (by omega), Int.natCast_emod]; rfl
            have hte2 : (L : Int) % ((n : Int) + 1) = ((L % (n + 1) : Nat) : Int) := by rw [Int.natCast_emod]; rfl
            have hnz : (((n : Int) + 1) == 0) = false := by rw [beq_eq_false_iff_ne]; omega
            by_cases hdv : L % (n + 1) = 0
            · have hag := agnB_per HAG.out (show 1 ≤ n + 1 by omega) (by omega) hdv
              rw [hdv] at hte hte2
              obtain ⟨x, hxx⟩ : ∃ x, agnB (whlF S) L (n + 1) = x := ⟨_, rfl⟩
              have HAX := Lib.hid hxx
              have HXP : Hid (perB (whlF S) L (n + 1) = x) := Lib.hid (by rw [← hag]; exact hxx)
              have hpn : ((n : Int) + 1) = ((n + 1 : Nat) : Int) := by omega
              have HPN := Lib.hid hpn
              clear hag hxx hdv hpn
              go_wp2_with fail
              rw [HPN.out]
              refine (RefAgain_any _ _ S (n + 1) L _ (hS2.ext hy) hok HSS.out (by omega) (by omega)).mono ?_
              rw [HAX.out]
              rintro e w3 ⟨rfl, hx3⟩
              cases x
              · go_wp2_with fail
                go_roundw
                case rel => exact ⟨n + 1, by omega, by go_num, Lib.hid (HN.out.succ HXP.out), hy.trans hx3⟩
                case measure => simp [intOf]; omega
              · replace q1 := q1.ext hx3
                have g2 : w3.cell? ⟨w.heap.size + 1, 0, none⟩ = some (.int .i64 0) := q1.cell 0
                have g3 : w3.cell? ⟨w.heap.size + 1, 1, none⟩ = some (.int .i64 0) := q1.cell 1
                have k2 := q1.frozen 0
                have k3 := q1.frozen 1
                go_wp2_with fail
                exact found_ret rfl ((q1.set 0 (.int .i64 ((n : Int) + 1))).set 1 (.int .i64 0)) (by rw [HP.out, perV_hit (by omega) HXP.out HN.out]) HW.out.symm (((hx.trans (hy.trans hx3)).setCell (by simp) _).setCell (by simp) _)
            · have hpf : perB (whlF S) L (n + 1) = false := by simp [perB, hdv]
              have HPF := Lib.hid hpf
              generalize L % (n + 1) = md at *
              have hdz : ((md : Int) != 0) = true := by rw [bne_iff_ne]; omega
              clear hpf hdv
              go_wp2_with fail
              go_roundw
              case rel => exact ⟨n + 1, by omega, by go_num, Lib.hid (HN.out.succ HPF.out), hy⟩
              case measure => simp [intOf]; omega
          · have hnl : L = n + 1 := by omega
            have hpv : perV (whlF S) L = (n : Int) + 1 := perV_hit (by omega) (by rw [← hnl]; exact perB_all _ _) HN.out
            have HPV := Lib.hid hpv
            have hLi : (L : Int) = (n : Int) + 1 := by omega
            have HLI := Lib.hid hLi
            clear hpv hnl hLi
            go_wp2_with fail
            exact found_ret rfl ((q1.set 0 (.int .i64 L)).set 1 (.int .i64 0)) (by rw [HP.out, HPV.out, HLI.out]) HW.out.symm (((hx.trans hy).setCell (by simp) _).setCell (by simp) _)
  · have hW : whlE S = chkE S := by unfold whlE; rw [if_pos hc]
    have hP := perX_no (S := S) (by rw [hW]; exact hc)
    have hcb : (chkE S != 0) = true := by simpa using hc
    have HW := Lib.hid hW
    have HP := Lib.hid hP
    clear hW hP hc
    go_enter Tryd.func43, Tryd.ntmps43
    go_wp2_with fail
    refine (RefCheck_any _ _ S _ (hS.ext (by repeat (first | exact Ext.refl _ | assumption | refine Ext.alloc ?_ _ | refine Ext.drew ?_ | refine Ext.drewN _ ?_ | refine Ext.trans ?_ (by assumption))))).mono ?_
    rintro e w1 ⟨rfl, hx1⟩
    obtain ⟨_, q1, hx, hzz⟩ := alloc2 hx1
    have d2 : w1.cell? ⟨w.heap.size + 1, 0, none⟩ = some (.int .i64 0) := q1.cell 0
    have d3 : w1.cell? ⟨w.heap.size + 1, 1, none⟩ = some (.int .i64 0) := q1.cell 1
    have f2 := q1.frozen 0
    have f3 := q1.frozen 1
    clear hx1
    go_wp2_with fail
    exact found_ret rfl ((q1.set 0 (.int .i64 0)).set 1 (.int .i64 (chkE S))) HP.out.symm HW.out.symm ((hx.setCell (by simp) _).setCell (by simp) _)
end Go.Proofs.YtejmmfjabmmihaaDoor
