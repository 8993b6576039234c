/- TurnSpans: the walk and the card. -/
import Derived.Test.YtejmmfjabmmihaaGreatDoorSanity
import Derived.Test.YtejmmfjabmmihaaGreatDoorArgs
import Derived.Test.YtejmmfjabmmihaaGreatDoorFew
import Derived.Test.YtejmmfjabmmihaaGreatDoorComW
import Derived.Test.YtejmmfjabmmihaaGreatDoorApt
import Derived.Deep.DeepCutAuto
namespace Go.Proofs.YtejmmfjabmmihaaGreatDoor
open Go.RowKit Go.Shelf


theorem cntX_ok {S : Mn} {lo hi : Int} (h : spnE S lo hi = 0) : cntX S lo hi = cntP (mem S) lo (spN lo hi) := by unfold cntX; rw [if_pos h]
theorem cntX_no {S : Mn} {lo hi : Int} (h : spnE S lo hi ≠ 0) : cntX S lo hi = 0 := by unfold cntX; rw [if_neg h]
set_option maxHeartbeats 2000000 in
theorem RefCount_any (a b : Value) (S : Mn) (lo hi : Int) (w : World) (hS : MinsAt w a b S) :
    Calls Tryz.prog 10 #[.agg #[a, b], .agg #[.int .i64 lo, .int .i64 hi]] w fun e w' => e = .returned (.tuple #[.int .i64 (cntX S lo hi), .int .i64 (spnE S lo hi)]) ∧ Ext w w' := by
  cases hE : (spnE S lo hi != 0)
  · have h0 : spnE S lo hi = 0 := by simpa using hE
    obtain ⟨hok, b1, b2, b3⟩ := spn_ok h0
    have HX := Lib.hid (cntX_ok h0)
    have H0 := Lib.hid h0
    have hN : (spN lo hi : Int) = hi + 1 - lo := by unfold spN; omega
    obtain ⟨N, hNN⟩ : ∃ N, spN lo hi = N := ⟨_, rfl⟩
    rw [hNN] at hN HX
    clear h0 hNN hE
    go_enter Tryz.func10, Tryz.ntmps10
    go_wp2_with fail
    refine (RefSpanned_any a b S _ _ _ (hS.ext (by repeat (first | exact Ext.refl _ | assumption | refine Ext.alloc ?_ _ | refine Ext.drew ?_ | refine Ext.drewN _ ?_ | refine Ext.trans ?_ (by assumption))))).mono ?_
    rw [H0.out]
    rintro e w1 ⟨rfl, hx1⟩
    obtain ⟨q0, q1, hx, hzz⟩ := alloc2 hx1
    clear hx1
    have d0 : w1.cell? ⟨w.heap.size, 0, none⟩ = some a := q0.cell 0
    have d1 : w1.cell? ⟨w.heap.size, 1, none⟩ = some b := q0.cell 1
    have d2 : w1.cell? ⟨w.heap.size + 1, 0, none⟩ = some (.int .i64 lo) := q1.cell 0
    have d3 : w1.cell? ⟨w.heap.size + 1, 1, none⟩ = some (.int .i64 hi) := q1.cell 1
    clear q0 q1
    have hS1 := hS.ext hx
    go_wp2_with fail
    go_loopw [7, 8, 9] (fun u i _ wr => ∃ k : Nat, k ≤ N ∧ i = .int .i64 (lo + k) ∧ u = .int .i64 (cntP (mem S) lo k) ∧ Ext w1 wr) (fun _ i _ _ => (hi + 1 - intOf i).toNat)
    case atStart => exact ⟨0, Nat.zero_le _, by simp, rfl, Ext.refl _⟩
    case round =>
      obtain ⟨k, hk, rfl, rfl, hy⟩ := hrel
      replace d0 := hy.cell d0
      replace d1 := hy.cell d1
      replace d2 := hy.cell d2
      replace d3 := hy.cell d3
      have hcb := cntP_bound (mem S) lo k
      by_cases hlt : k < N
      · obtain ⟨x, hmx⟩ : ∃ x, mem S (lo + k) = x := ⟨_, rfl⟩
        have hT := @cntP_t (mem S) lo k
        have hF := @cntP_f (mem S) lo k
        obtain ⟨z, hz⟩ : ∃ z, cntP (mem S) lo k = z := ⟨_, rfl⟩
        rw [hz] at hT hF hcb ⊢
        have HMX := Lib.hid hmx
        have HT := Lib.hid hT
        have HF := Lib.hid hF
        clear hmx hT hF hz
        go_wp2_with fail
        refine (RefHas_any a b S (lo + k) _ (hS1.ext hy) hok (by omega) (by omega)).mono ?_
        rw [HMX.out]
        rintro e w2 ⟨rfl, hx2⟩
        have hy2 := hy.trans hx2
        cases x
        · go_wp2_with fail
          go_roundw
          case rel => exact ⟨k + 1, by omega, vint (by omega), vint (HF.out HMX.out).symm, hy2⟩
          case measure => simp [intOf]; omega
        · go_wp2_with fail
          go_roundw
          case rel => exact ⟨k + 1, by omega, vint (by omega), vint (HT.out HMX.out).symm, hy2⟩
          case measure => simp [intOf]; omega
      · obtain rfl : k = N := by omega
        rw [← HX.out]
        go_wp2_with fail
        go_ret2
        exact ⟨ret2 rfl (vint H0.out.symm), hx.trans hy⟩
  · have h0 : spnE S lo hi ≠ 0 := by simpa using hE
    have HX := Lib.hid (cntX_no h0)
    clear h0
    go_enter Tryz.func10, Tryz.ntmps10
    go_wp2_with fail
    refine (RefSpanned_any a b S _ _ _ (hS.ext (by repeat (first | exact Ext.refl _ | assumption | refine Ext.alloc ?_ _ | refine Ext.drew ?_ | refine Ext.drewN _ ?_ | refine Ext.trans ?_ (by assumption))))).mono ?_
    rintro e w1 ⟨rfl, hx1⟩
    go_wp2_with fail
    go_ret2
    exact ⟨ret2 (vint HX.out.symm) rfl, (by repeat (first | exact Ext.refl _ | assumption | refine Ext.alloc ?_ _ | refine Ext.drew ?_ | refine Ext.drewN _ ?_ | refine Ext.trans ?_ (by assumption)))⟩

set_option maxHeartbeats 2000000 in
theorem RefCovers_any (a b : Value) (S : Mn) (lo hi : Int) (w : World) (hS : MinsAt w a b S) :
    Calls Tryz.prog 18 #[.agg #[a, b], .agg #[.int .i64 lo, .int .i64 hi]] w fun e w' => e = .returned (.tuple #[.int .i64 (covX S lo hi), .bool (covB S lo hi), .int .i64 (spnE S lo hi)]) ∧ Ext w w' := by
  cases hE : (spnE S lo hi != 0)
  · have h0 : spnE S lo hi = 0 := by simpa using hE
    obtain ⟨hok, b1, b2, b3⟩ := spn_ok h0
    have hhit := fun k => @cov_hit S lo hi k h0
    have hful := @cov_full S lo hi h0
    have H0 := Lib.hid h0
    have hN : (spN lo hi : Int) = hi + 1 - lo := by unfold spN; omega
    obtain ⟨N, hNN⟩ : ∃ N, spN lo hi = N := ⟨_, rfl⟩
    rw [hNN] at hN hhit hful
    have HH := Lib.hid hhit
    have HFL := Lib.hid hful
    clear h0 hNN hE hhit hful
    go_enter Tryz.func18, Tryz.ntmps18
    go_wp2_with fail
    refine (RefSpanned_any a b S _ _ _ (hS.ext (by repeat (first | exact Ext.refl _ | assumption | refine Ext.alloc ?_ _ | refine Ext.drew ?_ | refine Ext.drewN _ ?_ | refine Ext.trans ?_ (by assumption))))).mono ?_
    rw [H0.out]
    rintro e w1 ⟨rfl, hx1⟩
    obtain ⟨q0, q1, hx, hzz⟩ := alloc2 hx1
    clear hx1
    have d0 : w1.cell? ⟨w.heap.size, 0, none⟩ = some a := q0.cell 0
    have d1 : w1.cell? ⟨w.heap.size, 1, none⟩ = some b := q0.cell 1
    have d2 : w1.cell? ⟨w.heap.size + 1, 0, none⟩ = some (.int .i64 lo) := q1.cell 0
    have d3 : w1.cell? ⟨w.heap.size + 1, 1, none⟩ = some (.int .i64 hi) := q1.cell 1
    clear q0 q1
    have hS1 := hS.ext hx
    go_wp2_with fail
    go_loopw [8, 9] (fun i _ wr => ∃ k : Nat, k ≤ N ∧ i = .int .i64 (lo + k) ∧ Hid (CovTo (mem S) lo k) ∧ Ext w1 wr) (fun i _ _ => (hi + 1 - intOf i).toNat)
    case atStart => exact ⟨0, Nat.zero_le _, by simp, Lib.hid (fun j hj => by omega), Ext.refl _⟩
    case round =>
      obtain ⟨k, hk, rfl, HC, hy⟩ := hrel
      replace d0 := hy.cell d0
      replace d1 := hy.cell d1
      replace d2 := hy.cell d2
      replace d3 := hy.cell d3
      by_cases hlt : k < N
      · obtain ⟨x, hmx⟩ : ∃ x, mem S (lo + k) = x := ⟨_, rfl⟩
        have HMX := Lib.hid hmx
        clear hmx
        go_wp2_with fail
        refine (RefHas_any a b S (lo + k) _ (hS1.ext hy) hok (by omega) (by omega)).mono ?_
        rw [HMX.out]
        rintro e w2 ⟨rfl, hx2⟩
        have hy2 := hy.trans hx2
        cases x
        · have H1 := Lib.hid (HH.out k hlt HMX.out HC.out)
          go_wp2_with fail
          go_ret3
          exact ⟨rets3 (vint H1.out.1.symm) (vbool H1.out.2.symm) (vint H0.out.symm), hx.trans hy2⟩
        · go_wp2_with fail
          go_roundw
          case rel => exact ⟨k + 1, by omega, vint (by omega), Lib.hid (HC.out.succ HMX.out), hy2⟩
          case measure => simp [intOf]; omega
      · obtain rfl : k = N := by omega
        have H1 := Lib.hid (HFL.out HC.out)
        go_wp2_with fail
        go_ret3
        exact ⟨rets3 (vint H1.out.1.symm) (vbool H1.out.2.symm) (vint H0.out.symm), hx.trans hy⟩
  · have h0 : spnE S lo hi ≠ 0 := by simpa using hE
    have H1 := Lib.hid (cov_none h0)
    clear h0
    go_enter Tryz.func18, Tryz.ntmps18
    go_wp2_with fail
    refine (RefSpanned_any a b S _ _ _ (hS.ext (by repeat (first | exact Ext.refl _ | assumption | refine Ext.alloc ?_ _ | refine Ext.drew ?_ | refine Ext.drewN _ ?_ | refine Ext.trans ?_ (by assumption))))).mono ?_
    rintro e w1 ⟨rfl, hx1⟩
    go_wp2_with fail
    go_ret3
    exact ⟨rets3 (vint H1.out.1.symm) (vbool H1.out.2.symm) rfl, (by repeat (first | exact Ext.refl _ | assumption | refine Ext.alloc ?_ _ | refine Ext.drew ?_ | refine Ext.drewN _ ?_ | refine Ext.trans ?_ (by assumption)))⟩

theorem comE0_a {A B : Mn} {lo hi : Int} (h : chkE A ≠ 0) : comE0 A B lo hi = chkE A := by unfold comE0; rw [if_pos h]
theorem comE0_b {A B : Mn} {lo hi : Int} (h : chkE A = 0) : comE0 A B lo hi = spnE B lo hi := by unfold comE0; rw [if_neg (by omega)]
theorem lst_ret {w W : World} {tmps : Array Value} {v : Value} {l : List Sp} {E : Int} (h2 : tmps.getD 6 undef = .pointer (some ⟨w.heap.size + 1 + 1 + 1, 0, none⟩)) (hc : Cls (w.heap.size + 1 + 1 + 1) 37 #[v, .int .i64 E] W) (hv : SpansAt W v l) (hx : Ext w W) :
    bodyPost Tryz.prog Tryz.f16 (LstPost w l E) Exit.ret { tmps := tmps, defers := [] } W := by
  have c0 := hc.cell 0
  have c1 := hc.cell 1
  simp only [List.getElem?_toArray, List.getElem?_cons_zero, List.getElem?_cons_succ] at c0 c1
  have h2' : tmps[6]?.getD undef = .pointer (some ⟨w.heap.size + 1 + 1 + 1, 0, none⟩) := by simpa using h2
  exact bodyPost_ret (v := .agg #[v, .int .i64 E]) (by simp [results, Tryz.f16, go_sem, h2', c0, c1]) rfl ⟨v, rfl, hv, hx⟩
set_option maxRecDepth 100000 in
set_option maxHeartbeats 4000000 in
theorem RefCommon_any (a b c d : Value) (A B : Mn) (lo hi : Int) (w : World) (hA : MinsAt w a b A) (hB : MinsAt w c d B) :
    Calls Tryz.prog 16 #[.agg #[a, b], .agg #[c, d], .agg #[.int .i64 lo, .int .i64 hi]] w (LstPost w (comX A B lo hi) (comE A B lo hi)) := by
  by_cases hcA : chkE A = 0
  · have hkA := Ok.of hcA
    have hc0 := comE0_b (B := B) (lo := lo) (hi := hi) hcA
    have HCA := Lib.hid hcA
    by_cases h0 : spnE B lo hi = 0
    · obtain ⟨hkB, b1, b2, b3⟩ := spn_ok h0
      rw [h0] at hc0
      have hX : comX A B lo hi = listed (lst (both2 A B) lo (spN lo hi)) ∧ comE A B lo hi = listedE (lst (both2 A B) lo (spN lo hi)) := by unfold comX comE; rw [if_pos hc0, if_pos hc0]; exact ⟨rfl, rfl⟩
      have HX := Lib.hid hX
      have H0 := Lib.hid h0
      have hN : (spN lo hi : Int) = hi + 1 - lo := by unfold spN; omega
      obtain ⟨N, hNN⟩ : ∃ N, spN lo hi = N := ⟨_, rfl⟩
      rw [hNN] at hN HX
      clear h0 hX hNN hc0 hcA
      go_enter Tryz.func16, Tryz.ntmps16
      go_wp2_with fail
      refine (RefCheck_any a b A _ (hA.ext (by repeat (first | exact Ext.refl _ | assumption | refine Ext.alloc ?_ _ | refine Ext.drew ?_ | refine Ext.drewN _ ?_ | refine Ext.trans ?_ (by assumption))))).mono ?_
      rw [HCA.out]
      rintro e w1 ⟨rfl, hx1⟩
      obtain ⟨q0, q1, q2, q3, hx, hzz⟩ := alloc4 hx1
      clear hx1
      have d0 : w1.cell? ⟨w.heap.size, 0, none⟩ = some a := q0.cell 0
      have d1 : w1.cell? ⟨w.heap.size, 1, none⟩ = some b := q0.cell 1
      have d2 : w1.cell? ⟨w.heap.size + 1, 0, none⟩ = some c := q1.cell 0
      have d3 : w1.cell? ⟨w.heap.size + 1, 1, none⟩ = some d := q1.cell 1
      have d4 : w1.cell? ⟨w.heap.size + 1 + 1, 0, none⟩ = some (.int .i64 lo) := q2.cell 0
      have d5 : w1.cell? ⟨w.heap.size + 1 + 1, 1, none⟩ = some (.int .i64 hi) := q2.cell 1
      clear q0 q1 q2
      go_wp2_with fail
      refine (RefSpanned_any c d B _ _ _ (hB.ext hx)).mono ?_
      rw [H0.out]
      rintro e w2 ⟨rfl, hy⟩
      replace d0 := hy.cell d0
      replace d1 := hy.cell d1
      replace d2 := hy.cell d2
      replace d3 := hy.cell d3
      replace d4 := hy.cell d4
      replace d5 := hy.cell d5
      replace q3 := q3.ext hy
      replace hx := hx.trans hy
      have hA1 := hA.ext hx
      have hB1 := hB.ext hx
      have hzz2 := hy.size
      clear hy
      go_wp2_with fail
      go_loopw [8, 9, 10, 11] (fun v i _ _ wr => ∃ k : Nat, k ≤ N ∧ i = .int .i64 (lo + k) ∧ Hid (RowS w2.heap.size v (lst (both2 A B) lo k) wr) ∧ Ext w2 wr) (fun _ i _ _ _ => (hi + 1 - intOf i).toNat)
      case atStart => exact ⟨0, Nat.zero_le _, by simp, Lib.hid (rowS_nil _ _), (by repeat (first | exact Ext.refl _ | assumption | refine Ext.alloc ?_ _ | refine Ext.drew ?_ | refine Ext.drewN _ ?_ | refine Ext.trans ?_ (by assumption)))⟩
      case round =>
        obtain ⟨k, hk, rfl, hR, hy⟩ := hrel
        replace d0 := hy.cell d0
        replace d1 := hy.cell d1
        replace d2 := hy.cell d2
        replace d3 := hy.cell d3
        replace d4 := hy.cell d4
        replace d5 := hy.cell d5
        have hlen := lst_len_le (both2 A B) lo k
        by_cases hlt : k < N
        · obtain ⟨x, hmx⟩ : ∃ x, mem A (lo + k) = x := ⟨_, rfl⟩
          obtain ⟨y, hmy⟩ : ∃ y, mem B (lo + k) = y := ⟨_, rfl⟩
          have hbb : both2 A B (lo + k) = (x && y) := by unfold both2; rw [hmx, hmy]
          have hT := @lst_t (both2 A B) lo k
          have hF := @lst_f (both2 A B) lo k
          rw [hbb] at hT hF
          have HMX := Lib.hid hmx
          have HMY := Lib.hid hmy
          have HT := Lib.hid hT
          have HF := Lib.hid hF
          clear hmx hmy hbb hT hF
          go_wp2_with fail
          refine (RefHas_any a b A (lo + k) _ (hA1.ext hy) hkA (by omega) (by omega)).mono ?_
          rw [HMX.out]
          rintro e w3 ⟨rfl, hx2⟩
          have hR2 := Lib.hid (rowS_ext hR.out hx2)
          replace d2 := hx2.cell d2
          replace d3 := hx2.cell d3
          have hy2 := hy.trans hx2
          clear hx2 hR d0 d1
          go_wp2_with fail
          refine (RefHas_any c d B (lo + k) _ (hB1.ext hy2) hkB (by omega) (by omega)).mono ?_
          rw [HMY.out]
          rintro e w4 ⟨rfl, hx2⟩
          have hR3 := Lib.hid (rowS_ext hR2.out hx2)
          have hy3 := hy2.trans hx2
          clear hx2 hR2 d2 d3
          cases x
          · go_wp2_with fail
            go_roundw
            case rel => exact ⟨k + 1, by omega, vint (by omega), Lib.hid (by rw [HF.out (by simp)]; exact hR3.out), hy3⟩
            case measure => simp [intOf]; omega
          · cases y
            · go_wp2_with fail
              go_roundw
              case rel => exact ⟨k + 1, by omega, vint (by omega), Lib.hid (by rw [HF.out (by simp)]; exact hR3.out), hy3⟩
              case measure => simp [intOf]; omega
            · go_wp2_with fail
              refine (refMore_any w2.heap.size _ _ (lo + k) _ hR3.out hy3.size (by omega) (by omega) (by omega)).mono ?_
              rintro e w5 ⟨v5, rfl, hR5, hg5⟩
              have HR5 := Lib.hid hR5
              have hy5 := ext_row hy3 hR3.out (Nat.le_refl _) hg5
              clear hR5 hg5
              go_wp2_with fail
              go_roundw
              case rel => exact ⟨k + 1, by omega, vint (by omega), Lib.hid (by rw [HT.out (by simp)]; exact HR5.out), hy5⟩
              case measure => simp [intOf]; omega
        · obtain rfl : k = N := by omega
          obtain ⟨Ad, cc, rfl⟩ := hR.out.form
          have q4 := q3.ext hy
          go_wp2_with fail
          refine (listed_any Ad cc (lst (both2 A B) lo k) _).mono ?_
          obtain ⟨A2, c2, hls⟩ := lsV_form Ad cc (lst (both2 A B) lo k)
          rw [hls]
          rintro e w3 ⟨rfl, hx2⟩
          have hR2 := Lib.hid (rowS_ext hR.out hx2)
          have HLS := Lib.hid hls
          clear hls
          have q5 := q4.ext hx2
          have c0 : w3.cell? ⟨w.heap.size + 1 + 1 + 1, 0, none⟩ = some (.slice none 0 0) := q5.cell 0
          have c1 : w3.cell? ⟨w.heap.size + 1 + 1 + 1, 1, none⟩ = some (.int .i64 0) := q5.cell 1
          have f0 := q5.frozen 0
          have f1 := q5.frozen 1
          go_wp2_with fail
          have q6 := (q5.set 0 (.slice A2 (listed (lst (both2 A B) lo k)).length c2)).set 1 (.int .i64 (listedE (lst (both2 A B) lo k)))
          rw [HX.out.1, HX.out.2]
          refine lst_ret rfl q6 ?_ (((hx.trans (hy.trans hx2)).setCell (by simp; omega) _).setCell (by simp; omega) _)
          rw [← HLS.out]
          exact lsV_at (row_far (row_far hR2.out (by omega) _ _) (by omega) _ _)
    · have hX := comX_err hc0 h0
      rw [hX.1, hX.2]
      have hb : (spnE B lo hi != 0) = true := by simpa using h0
      clear hX hc0 hcA h0
      go_enter Tryz.func16, Tryz.ntmps16
      go_wp2_with fail
      refine (RefCheck_any a b A _ (hA.ext (by repeat (first | exact Ext.refl _ | assumption | refine Ext.alloc ?_ _ | refine Ext.drew ?_ | refine Ext.drewN _ ?_ | refine Ext.trans ?_ (by assumption))))).mono ?_
      rw [HCA.out]
      rintro e w1 ⟨rfl, hx1⟩
      obtain ⟨q0, q1, q2, q3, hx, hzz⟩ := alloc4 hx1
      clear hx1
      have d2 : w1.cell? ⟨w.heap.size + 1, 0, none⟩ = some c := q1.cell 0
      have d3 : w1.cell? ⟨w.heap.size + 1, 1, none⟩ = some d := q1.cell 1
      have d4 : w1.cell? ⟨w.heap.size + 1 + 1, 0, none⟩ = some (.int .i64 lo) := q2.cell 0
      have d5 : w1.cell? ⟨w.heap.size + 1 + 1, 1, none⟩ = some (.int .i64 hi) := q2.cell 1
      clear q0 q1 q2
      go_wp2_with fail
      refine (RefSpanned_any c d B _ _ _ (hB.ext hx)).mono ?_
      rintro e w2 ⟨rfl, hy⟩
      replace q3 := q3.ext hy
      replace hx := hx.trans hy
      have hzz2 := hy.size
      have c0 : w2.cell? ⟨w.heap.size + 1 + 1 + 1, 0, none⟩ = some (.slice none 0 0) := q3.cell 0
      have c1 : w2.cell? ⟨w.heap.size + 1 + 1 + 1, 1, none⟩ = some (.int .i64 0) := q3.cell 1
      have f0 := q3.frozen 0
      have f1 := q3.frozen 1
      clear hy d2 d3 d4 d5
      go_wp2_with fail
      exact lst_ret rfl ((q3.set 0 (.slice none 0 0)).set 1 (.int .i64 (spnE B lo hi))) (rowS_nil 0 _).at_ ((hx.setCell (by simp; omega) _).setCell (by simp; omega) _)
  · have hX := comX_err (comE0_a (B := B) (lo := lo) (hi := hi) hcA) hcA
    rw [hX.1, hX.2]
    have hb : (chkE A != 0) = true := by simpa using hcA
    clear hX hcA
    go_enter Tryz.func16, Tryz.ntmps16
    go_wp2_with fail
    refine (RefCheck_any a b A _ (hA.ext (by repeat (first | exact Ext.refl _ | assumption | refine Ext.alloc ?_ _ | refine Ext.drew ?_ | refine Ext.drewN _ ?_ | refine Ext.trans ?_ (by assumption))))).mono ?_
    rintro e w1 ⟨rfl, hx1⟩
    obtain ⟨q0, q1, q2, q3, hx, hzz⟩ := alloc4 hx1
    clear hx1 q0 q1 q2
    have c0 : w1.cell? ⟨w.heap.size + 1 + 1 + 1, 0, none⟩ = some (.slice none 0 0) := q3.cell 0
    have c1 : w1.cell? ⟨w.heap.size + 1 + 1 + 1, 1, none⟩ = some (.int .i64 0) := q3.cell 1
    have f0 := q3.frozen 0
    have f1 := q3.frozen 1
    go_wp2_with fail
    exact lst_ret rfl ((q3.set 0 (.slice none 0 0)).set 1 (.int .i64 (chkE A))) (rowS_nil 0 _).at_ ((hx.setCell (by simp; omega) _).setCell (by simp; omega) _)

theorem listed_le (l : List Sp) : (listed l).length ≤ 2000 := by
  unfold listed
  split
  · simp
  · omega
theorem spansX_le (S : Mn) (lo hi : Int) : (spansX S lo hi).length ≤ 2000000 := by
  unfold spansX
  split
  · have := listed_le (lst (mem S) lo (spN lo hi)); omega
  · simp
theorem restX_le (S : Mn) (lo hi : Int) : (restX S lo hi).length ≤ 2000000 := by
  unfold restX
  split
  · have := listed_le (lst (fun i => !mem S i) lo (spN lo hi)); omega
  · simp
theorem comX_le (A B : Mn) (lo hi : Int) : (comX A B lo hi).length ≤ 2000000 := by
  unfold comX
  split
  · have := listed_le (lst (both2 A B) lo (spN lo hi)); omega
  · simp
theorem spEq_self (l : List Sp) : spEq l l = true := (spEq_iff l l).2 rfl

set_option maxRecDepth 100000 in
set_option maxHeartbeats 16000000 in
theorem Spans_main (a b c d : Value) (A B : Mn) (lo hi : Int) (w : World) (hT : Tab w) (hA : MinsAt w a b A) (hB : MinsAt w c d B) (hfA : fewB A = true) (hfB : fewB B = true) (hbr : briefB lo hi = true) :
    Calls Tryz.prog 3 #[.agg #[a, b], .agg #[c, d], .agg #[.int .i64 lo, .int .i64 hi]] w fun e w' => e = .returned (.bool true) ∧ Ext w w' := by
  have HFA := Lib.hid hfA
  have HFB := Lib.hid hfB
  have HBR := Lib.hid hbr
  clear hfA hfB hbr
  go_enter Tryz.func3, Tryz.ntmps3
  go_wp2_with fail
  refine (few_any _ _ A _ (hA.ext (by repeat (first | exact Ext.refl _ | assumption | refine Ext.alloc ?_ _ | refine Ext.drew ?_ | refine Ext.drewN _ ?_ | refine Ext.trans ?_ (by assumption))))).mono ?_
  rw [HFA.out]
  rintro e w1 ⟨rfl, hx1⟩
  obtain ⟨q0, q1, q2, hx, hzz⟩ := alloc3 hx1
  have d0 : w1.cell? ⟨w.heap.size, 0, none⟩ = some a := q0.cell 0
  have d1 : w1.cell? ⟨w.heap.size, 1, none⟩ = some b := q0.cell 1
  have d2 : w1.cell? ⟨w.heap.size + 1, 0, none⟩ = some c := q1.cell 0
  have d3 : w1.cell? ⟨w.heap.size + 1, 1, none⟩ = some d := q1.cell 1
  have d4 : w1.cell? ⟨w.heap.size + 1 + 1, 0, none⟩ = some (.int .i64 lo) := q2.cell 0
  have d5 : w1.cell? ⟨w.heap.size + 1 + 1, 1, none⟩ = some (.int .i64 hi) := q2.cell 1
  replace hA := hA.ext hx
  replace hB := hB.ext hx
  replace hT := hT.ext hx
  clear hx1 q0 q1 q2 hzz
  go_wp2_with fail
  refine (few_any _ _ B _ hB).mono ?_
  rw [HFB.out]
  rintro e w2 ⟨rfl, hy⟩
  replace d0 := hy.cell d0
  replace d1 := hy.cell d1
  replace d2 := hy.cell d2
  replace d3 := hy.cell d3
  replace d4 := hy.cell d4
  replace d5 := hy.cell d5
  replace hA := hA.ext hy
  replace hB := hB.ext hy
  replace hT := hT.ext hy
  replace hx := hx.trans hy
  clear hy
  go_wp2_with fail
  refine (brief_any lo hi _).mono ?_
  rw [HBR.out]
  rintro e w3 ⟨rfl, hy⟩
  replace d0 := hy.cell d0
  replace d1 := hy.cell d1
  replace d2 := hy.cell d2
  replace d3 := hy.cell d3
  replace d4 := hy.cell d4
  replace d5 := hy.cell d5
  replace hA := hA.ext hy
  replace hB := hB.ext hy
  replace hT := hT.ext hy
  replace hx := hx.trans hy
  clear hy
  go_wp2_with fail
  refine (Count_any _ _ A lo hi _ hA).mono ?_
  rintro e w4 ⟨rfl, hy⟩
  replace d0 := hy.cell d0
  replace d1 := hy.cell d1
  replace d2 := hy.cell d2
  replace d3 := hy.cell d3
  replace d4 := hy.cell d4
  replace d5 := hy.cell d5
  replace hA := hA.ext hy
  replace hB := hB.ext hy
  replace hT := hT.ext hy
  replace hx := hx.trans hy
  clear hy
  go_wp2_with fail
  refine (RefCount_any _ _ A lo hi _ hA).mono ?_
  rintro e w5 ⟨rfl, hy⟩
  replace d0 := hy.cell d0
  replace d1 := hy.cell d1
  replace d2 := hy.cell d2
  replace d3 := hy.cell d3
  replace d4 := hy.cell d4
  replace d5 := hy.cell d5
  replace hA := hA.ext hy
  replace hB := hB.ext hy
  replace hT := hT.ext hy
  replace hx := hx.trans hy
  clear hy
  obtain ⟨N, hN⟩ : ∃ N, cntX A lo hi = N := ⟨_, rfl⟩
  obtain ⟨E0, hE0⟩ : ∃ E0, spnE A lo hi = E0 := ⟨_, rfl⟩
  rw [hN, hE0]
  have HE0 := Lib.hid hE0
  clear hN hE0
  go_wp2_with fail
  refine (Spans_any _ _ A lo hi _ hA).mono ?_
  rintro e w6 ⟨v1, rfl, hv1, hy⟩
  replace d0 := hy.cell d0
  replace d1 := hy.cell d1
  replace d2 := hy.cell d2
  replace d3 := hy.cell d3
  replace d4 := hy.cell d4
  replace d5 := hy.cell d5
  replace hA := hA.ext hy
  replace hB := hB.ext hy
  replace hT := hT.ext hy
  replace hx := hx.trans hy
  clear hy
  go_wp2_with fail
  refine (RefSpans_any _ _ A lo hi _ hA).mono ?_
  rintro e w7 ⟨u1v, rfl, hu1, hy⟩
  replace d0 := hy.cell d0
  replace d1 := hy.cell d1
  replace d2 := hy.cell d2
  replace d3 := hy.cell d3
  replace d4 := hy.cell d4
  replace d5 := hy.cell d5
  replace hA := hA.ext hy
  replace hB := hB.ext hy
  replace hT := hT.ext hy
  replace hv1 := hv1.ext hy
  replace hx := hx.trans hy
  clear hy
  obtain ⟨A1, c1, rfl⟩ := hv1.len
  obtain ⟨B1, e1, rfl⟩ := hu1.len
  obtain ⟨L1, hL1⟩ : ∃ L, spansX A lo hi = L := ⟨_, rfl⟩
  obtain ⟨E1, hE1⟩ : ∃ E, spansE A lo hi = E := ⟨_, rfl⟩
  have hle1 : L1.length ≤ 2000000 := by rw [← hL1]; exact spansX_le A lo hi
  rw [hL1] at hv1 hu1 ⊢
  rw [hE1]
  clear hL1 hE1
  obtain ⟨X1, hX1⟩ : ∃ X, w7.alloc (.cells #[.slice B1 L1.length e1, .int .i64 E1] 37) = X := ⟨_, rfl⟩
  have hy : Ext w7 X1 := by rw [← hX1]; exact (by repeat (first | exact Ext.refl _ | assumption | refine Ext.alloc ?_ _ | refine Ext.drew ?_ | refine Ext.drewN _ ?_ | refine Ext.trans ?_ (by assumption)))
  have p1 : Cls w7.heap.size 37 #[.slice B1 L1.length e1, .int .i64 E1] X1 := by rw [← hX1]; exact Cls.new _ _ _
  replace d0 := hy.cell d0
  replace d1 := hy.cell d1
  replace d2 := hy.cell d2
  replace d3 := hy.cell d3
  replace d4 := hy.cell d4
  replace d5 := hy.cell d5
  replace hA := hA.ext hy
  replace hB := hB.ext hy
  replace hT := hT.ext hy
  replace hv1 := hv1.ext hy
  replace hu1 := hu1.ext hy
  replace hx := hx.trans hy
  clear hy
  have HX1 := Lib.hid hX1
  clear hX1
  obtain ⟨K1, hK1⟩ : ∃ K, w7.heap.size = K := ⟨_, rfl⟩
  go_upto_region 7 with fail
  rw [HX1.out]
  rw [hK1] at p1
  try rw [hK1]
  clear hK1 HX1
  go_wp2_with fail
  refine (Rest_any _ _ A lo hi _ hA).mono ?_
  rintro e w8 ⟨v2, rfl, hv2, hy⟩
  replace d0 := hy.cell d0
  replace d1 := hy.cell d1
  replace d2 := hy.cell d2
  replace d3 := hy.cell d3
  replace d4 := hy.cell d4
  replace d5 := hy.cell d5
  replace hA := hA.ext hy
  replace hB := hB.ext hy
  replace hT := hT.ext hy
  replace hv1 := hv1.ext hy
  replace hu1 := hu1.ext hy
  replace p1 := p1.ext hy
  replace hx := hx.trans hy
  clear hy
  go_wp2_with fail
  refine (RefRest_any _ _ A lo hi _ hA).mono ?_
  rintro e w9 ⟨u2v, rfl, hu2, hy⟩
  replace d0 := hy.cell d0
  replace d1 := hy.cell d1
  replace d2 := hy.cell d2
  replace d3 := hy.cell d3
  replace d4 := hy.cell d4
  replace d5 := hy.cell d5
  replace hA := hA.ext hy
  replace hB := hB.ext hy
  replace hT := hT.ext hy
  replace hv1 := hv1.ext hy
  replace hu1 := hu1.ext hy
  replace p1 := p1.ext hy
  replace hv2 := hv2.ext hy
  replace hx := hx.trans hy
  clear hy
  obtain ⟨A2, c2, rfl⟩ := hv2.len
  obtain ⟨B2, e2, rfl⟩ := hu2.len
  obtain ⟨L2, hL2⟩ : ∃ L, restX A lo hi = L := ⟨_, rfl⟩
  obtain ⟨E2, hE2⟩ : ∃ E, restE A lo hi = E := ⟨_, rfl⟩
  have hle2 : L2.length ≤ 2000000 := by rw [← hL2]; exact restX_le A lo hi
  rw [hL2] at hv2 hu2 ⊢
  rw [hE2]
  clear hL2 hE2
  obtain ⟨X2, hX2⟩ : ∃ X, w9.alloc (.cells #[.slice B2 L2.length e2, .int .i64 E2] 37) = X := ⟨_, rfl⟩
  have hy : Ext w9 X2 := by rw [← hX2]; exact (by repeat (first | exact Ext.refl _ | assumption | refine Ext.alloc ?_ _ | refine Ext.drew ?_ | refine Ext.drewN _ ?_ | refine Ext.trans ?_ (by assumption)))
  have p2 : Cls w9.heap.size 37 #[.slice B2 L2.length e2, .int .i64 E2] X2 := by rw [← hX2]; exact Cls.new _ _ _
  replace d0 := hy.cell d0
  replace d1 := hy.cell d1
  replace d2 := hy.cell d2
  replace d3 := hy.cell d3
  replace d4 := hy.cell d4
  replace d5 := hy.cell d5
  replace hA := hA.ext hy
  replace hB := hB.ext hy
  replace hT := hT.ext hy
  replace hv1 := hv1.ext hy
  replace hu1 := hu1.ext hy
  replace p1 := p1.ext hy
  replace hv2 := hv2.ext hy
  replace hu2 := hu2.ext hy
  replace hx := hx.trans hy
  clear hy
  have HX2 := Lib.hid hX2
  clear hX2
  obtain ⟨K2, hK2⟩ : ∃ K, w9.heap.size = K := ⟨_, rfl⟩
  go_upto_region 9 with fail
  rw [HX2.out]
  rw [hK2] at p2
  try rw [hK2]
  clear hK2 HX2
  go_wp2_with fail
  refine (Common_any _ _ _ _ A B lo hi _ hA hB).mono ?_
  rintro e w10 ⟨v3, rfl, hv3, hy⟩
  replace d0 := hy.cell d0
  replace d1 := hy.cell d1
  replace d2 := hy.cell d2
  replace d3 := hy.cell d3
  replace d4 := hy.cell d4
  replace d5 := hy.cell d5
  replace hA := hA.ext hy
  replace hB := hB.ext hy
  replace hT := hT.ext hy
  replace hv1 := hv1.ext hy
  replace hu1 := hu1.ext hy
  replace p1 := p1.ext hy
  replace hv2 := hv2.ext hy
  replace hu2 := hu2.ext hy
  replace p2 := p2.ext hy
  replace hx := hx.trans hy
  clear hy
  go_wp2_with fail
  refine (RefCommon_any _ _ _ _ A B lo hi _ hA hB).mono ?_
  rintro e w11 ⟨u3v, rfl, hu3, hy⟩
  replace d0 := hy.cell d0
  replace d1 := hy.cell d1
  replace d2 := hy.cell d2
  replace d3 := hy.cell d3
  replace d4 := hy.cell d4
  replace d5 := hy.cell d5
  replace hA := hA.ext hy
  replace hB := hB.ext hy
  replace hT := hT.ext hy
  replace hv1 := hv1.ext hy
  replace hu1 := hu1.ext hy
  replace p1 := p1.ext hy
  replace hv2 := hv2.ext hy
  replace hu2 := hu2.ext hy
  replace p2 := p2.ext hy
  replace hv3 := hv3.ext hy
  replace hx := hx.trans hy
  clear hy
  obtain ⟨A3, c3, rfl⟩ := hv3.len
  obtain ⟨B3, e3, rfl⟩ := hu3.len
  obtain ⟨L3, hL3⟩ : ∃ L, comX A B lo hi = L := ⟨_, rfl⟩
  obtain ⟨E3, hE3⟩ : ∃ E, comE A B lo hi = E := ⟨_, rfl⟩
  have hle3 : L3.length ≤ 2000000 := by rw [← hL3]; exact comX_le A B lo hi
  rw [hL3] at hv3 hu3 ⊢
  rw [hE3]
  clear hL3 hE3
  obtain ⟨X3, hX3⟩ : ∃ X, w11.alloc (.cells #[.slice B3 L3.length e3, .int .i64 E3] 37) = X := ⟨_, rfl⟩
  have hy : Ext w11 X3 := by rw [← hX3]; exact (by repeat (first | exact Ext.refl _ | assumption | refine Ext.alloc ?_ _ | refine Ext.drew ?_ | refine Ext.drewN _ ?_ | refine Ext.trans ?_ (by assumption)))
  have p3 : Cls w11.heap.size 37 #[.slice B3 L3.length e3, .int .i64 E3] X3 := by rw [← hX3]; exact Cls.new _ _ _
  replace d0 := hy.cell d0
  replace d1 := hy.cell d1
  replace d2 := hy.cell d2
  replace d3 := hy.cell d3
  replace d4 := hy.cell d4
  replace d5 := hy.cell d5
  replace hA := hA.ext hy
  replace hB := hB.ext hy
  replace hT := hT.ext hy
  replace hv1 := hv1.ext hy
  replace hu1 := hu1.ext hy
  replace p1 := p1.ext hy
  replace hv2 := hv2.ext hy
  replace hu2 := hu2.ext hy
  replace p2 := p2.ext hy
  replace hv3 := hv3.ext hy
  replace hu3 := hu3.ext hy
  replace hx := hx.trans hy
  clear hy
  have HX3 := Lib.hid hX3
  clear hX3
  obtain ⟨K3, hK3⟩ : ∃ K, w11.heap.size = K := ⟨_, rfl⟩
  go_upto_region 11 with fail
  rw [HX3.out]
  rw [hK3] at p3
  try rw [hK3]
  clear hK3 HX3
  go_wp2_with fail
  refine (Covers_any _ _ A lo hi _ hA).mono ?_
  rw [HE0.out]
  rintro e w12 ⟨rfl, hy⟩
  replace d0 := hy.cell d0
  replace d1 := hy.cell d1
  replace d2 := hy.cell d2
  replace d3 := hy.cell d3
  replace d4 := hy.cell d4
  replace d5 := hy.cell d5
  replace hA := hA.ext hy
  replace hB := hB.ext hy
  replace hT := hT.ext hy
  replace hv1 := hv1.ext hy
  replace hu1 := hu1.ext hy
  replace p1 := p1.ext hy
  replace hv2 := hv2.ext hy
  replace hu2 := hu2.ext hy
  replace p2 := p2.ext hy
  replace hv3 := hv3.ext hy
  replace hu3 := hu3.ext hy
  replace p3 := p3.ext hy
  replace hx := hx.trans hy
  clear hy
  go_wp2_with fail
  refine (RefCovers_any _ _ A lo hi _ hA).mono ?_
  rw [HE0.out]
  rintro e w13 ⟨rfl, hy⟩
  replace d0 := hy.cell d0
  replace d1 := hy.cell d1
  replace d2 := hy.cell d2
  replace d3 := hy.cell d3
  replace d4 := hy.cell d4
  replace d5 := hy.cell d5
  replace hA := hA.ext hy
  replace hB := hB.ext hy
  replace hT := hT.ext hy
  replace hv1 := hv1.ext hy
  replace hu1 := hu1.ext hy
  replace p1 := p1.ext hy
  replace hv2 := hv2.ext hy
  replace hu2 := hu2.ext hy
  replace p2 := p2.ext hy
  replace hv3 := hv3.ext hy
  replace hu3 := hu3.ext hy
  replace p3 := p3.ext hy
  replace hx := hx.trans hy
  clear hy
  obtain ⟨X, hX⟩ : ∃ X, covX A lo hi = X := ⟨_, rfl⟩
  obtain ⟨V, hV⟩ : ∃ V, covB A lo hi = V := ⟨_, rfl⟩
  rw [hX, hV]
  clear hX hV hA hB d0 d1 d2 d3 d4 d5 HE0
  have y1 : w13.cell? ⟨K1, 0, none⟩ = some (.slice B1 L1.length e1) := p1.cell 0
  have z1 : w13.cell? ⟨K1, 1, none⟩ = some (.int .i64 E1) := p1.cell 1
  have y2 : w13.cell? ⟨K2, 0, none⟩ = some (.slice B2 L2.length e2) := p2.cell 0
  have z2 : w13.cell? ⟨K2, 1, none⟩ = some (.int .i64 E2) := p2.cell 1
  have y3 : w13.cell? ⟨K3, 0, none⟩ = some (.slice B3 L3.length e3) := p3.cell 0
  have z3 : w13.cell? ⟨K3, 1, none⟩ = some (.int .i64 E3) := p3.cell 1
  go_wp2_with fail
  refine (SameSpans_any _ _ L1 L1 _ hv1 hu1 hle1 hle1).mono ?_
  rw [spEq_self]
  rintro e w14 ⟨rfl, hy⟩
  clear y1 z1 y2 z2 y3 z3
  replace hT := hT.ext hy
  replace hv1 := hv1.ext hy
  replace hu1 := hu1.ext hy
  replace p1 := p1.ext hy
  replace hv2 := hv2.ext hy
  replace hu2 := hu2.ext hy
  replace p2 := p2.ext hy
  replace hv3 := hv3.ext hy
  replace hu3 := hu3.ext hy
  replace p3 := p3.ext hy
  replace hx := hx.trans hy
  clear hy
  have y1 : w14.cell? ⟨K1, 0, none⟩ = some (.slice B1 L1.length e1) := p1.cell 0
  have z1 : w14.cell? ⟨K1, 1, none⟩ = some (.int .i64 E1) := p1.cell 1
  have y2 : w14.cell? ⟨K2, 0, none⟩ = some (.slice B2 L2.length e2) := p2.cell 0
  have z2 : w14.cell? ⟨K2, 1, none⟩ = some (.int .i64 E2) := p2.cell 1
  have y3 : w14.cell? ⟨K3, 0, none⟩ = some (.slice B3 L3.length e3) := p3.cell 0
  have z3 : w14.cell? ⟨K3, 1, none⟩ = some (.int .i64 E3) := p3.cell 1
  go_wp2_with fail
  refine (SameSpans_any _ _ L2 L2 _ hv2 hu2 hle2 hle2).mono ?_
  rw [spEq_self]
  rintro e w15 ⟨rfl, hy⟩
  clear y1 z1 y2 z2 y3 z3
  replace hT := hT.ext hy
  replace hv1 := hv1.ext hy
  replace hu1 := hu1.ext hy
  replace p1 := p1.ext hy
  replace hv2 := hv2.ext hy
  replace hu2 := hu2.ext hy
  replace p2 := p2.ext hy
  replace hv3 := hv3.ext hy
  replace hu3 := hu3.ext hy
  replace p3 := p3.ext hy
  replace hx := hx.trans hy
  clear hy
  have y1 : w15.cell? ⟨K1, 0, none⟩ = some (.slice B1 L1.length e1) := p1.cell 0
  have z1 : w15.cell? ⟨K1, 1, none⟩ = some (.int .i64 E1) := p1.cell 1
  have y2 : w15.cell? ⟨K2, 0, none⟩ = some (.slice B2 L2.length e2) := p2.cell 0
  have z2 : w15.cell? ⟨K2, 1, none⟩ = some (.int .i64 E2) := p2.cell 1
  have y3 : w15.cell? ⟨K3, 0, none⟩ = some (.slice B3 L3.length e3) := p3.cell 0
  have z3 : w15.cell? ⟨K3, 1, none⟩ = some (.int .i64 E3) := p3.cell 1
  go_wp2_with fail
  refine (sanity_any _ hT).mono ?_
  rintro e w16 ⟨rfl, hy⟩
  clear y1 z1 y2 z2 y3 z3
  replace hT := hT.ext hy
  replace hv1 := hv1.ext hy
  replace hu1 := hu1.ext hy
  replace p1 := p1.ext hy
  replace hv2 := hv2.ext hy
  replace hu2 := hu2.ext hy
  replace p2 := p2.ext hy
  replace hv3 := hv3.ext hy
  replace hu3 := hu3.ext hy
  replace p3 := p3.ext hy
  replace hx := hx.trans hy
  clear hy
  have y1 : w16.cell? ⟨K1, 0, none⟩ = some (.slice B1 L1.length e1) := p1.cell 0
  have z1 : w16.cell? ⟨K1, 1, none⟩ = some (.int .i64 E1) := p1.cell 1
  have y2 : w16.cell? ⟨K2, 0, none⟩ = some (.slice B2 L2.length e2) := p2.cell 0
  have z2 : w16.cell? ⟨K2, 1, none⟩ = some (.int .i64 E2) := p2.cell 1
  have y3 : w16.cell? ⟨K3, 0, none⟩ = some (.slice B3 L3.length e3) := p3.cell 0
  have z3 : w16.cell? ⟨K3, 1, none⟩ = some (.int .i64 E3) := p3.cell 1
  go_wp2_with fail
  refine (SameSpans_any _ _ L3 L3 _ hv3 hu3 hle3 hle3).mono ?_
  rw [spEq_self]
  rintro e w17 ⟨rfl, hy⟩
  clear y1 z1 y2 z2 y3 z3
  replace hT := hT.ext hy
  replace hv1 := hv1.ext hy
  replace hu1 := hu1.ext hy
  replace p1 := p1.ext hy
  replace hv2 := hv2.ext hy
  replace hu2 := hu2.ext hy
  replace p2 := p2.ext hy
  replace hv3 := hv3.ext hy
  replace hu3 := hu3.ext hy
  replace p3 := p3.ext hy
  replace hx := hx.trans hy
  clear hy
  have y1 : w17.cell? ⟨K1, 0, none⟩ = some (.slice B1 L1.length e1) := p1.cell 0
  have z1 : w17.cell? ⟨K1, 1, none⟩ = some (.int .i64 E1) := p1.cell 1
  have y2 : w17.cell? ⟨K2, 0, none⟩ = some (.slice B2 L2.length e2) := p2.cell 0
  have z2 : w17.cell? ⟨K2, 1, none⟩ = some (.int .i64 E2) := p2.cell 1
  have y3 : w17.cell? ⟨K3, 0, none⟩ = some (.slice B3 L3.length e3) := p3.cell 0
  have z3 : w17.cell? ⟨K3, 1, none⟩ = some (.int .i64 E3) := p3.cell 1
  go_wp2_with fail
  go_ret
  exact ⟨ret_bool (by simp), hx⟩

set_option maxRecDepth 100000 in
set_option maxHeartbeats 4000000 in
theorem TurnSpans_any (a b : Value) (A : Mn) (c d : Value) (B : Mn) (lo hi : Int) (w : World) (hT : Tab w) (hA : MinsAt w a b A) (hB : MinsAt w c d B) :
    Calls Tryz.prog 3 #[.agg #[a, b], .agg #[c, d], .agg #[.int .i64 lo, .int .i64 hi]] w fun e w' => e = .returned (.bool true) ∧ Ext w w' := by
  cases hfA : fewB A
  · go_enter Tryz.func3, Tryz.ntmps3
    go_wp2_with fail
    refine (few_any _ _ A _ (hA.ext (by repeat (first | exact Ext.refl _ | assumption | refine Ext.alloc ?_ _ | refine Ext.drew ?_ | refine Ext.drewN _ ?_ | refine Ext.trans ?_ (by assumption))))).mono ?_
    rw [hfA]
    rintro e w1 ⟨rfl, hx1⟩
    go_wp2_with fail
    refine (sanity_any _ (hT.ext (Ext.trans (by repeat (first | exact Ext.refl _ | assumption | refine Ext.alloc ?_ _ | refine Ext.drew ?_ | refine Ext.drewN _ ?_ | refine Ext.trans ?_ (by assumption))) hx1))).mono ?_
    rintro e w2 ⟨rfl, hx2⟩
    go_wp2_with fail
    go_ret
    exact ⟨rfl, (Ext.trans (by repeat (first | exact Ext.refl _ | assumption | refine Ext.alloc ?_ _ | refine Ext.drew ?_ | refine Ext.drewN _ ?_ | refine Ext.trans ?_ (by assumption))) hx1).trans hx2⟩
  · cases hfB : fewB B
    · go_enter Tryz.func3, Tryz.ntmps3
      go_wp2_with fail
      refine (few_any _ _ A _ (hA.ext (by repeat (first | exact Ext.refl _ | assumption | refine Ext.alloc ?_ _ | refine Ext.drew ?_ | refine Ext.drewN _ ?_ | refine Ext.trans ?_ (by assumption))))).mono ?_
      rw [hfA]
      rintro e w1 ⟨rfl, hx1⟩
      obtain ⟨_, q1, q2, hx, hzz⟩ := alloc3 hx1
      have d2 : w1.cell? ⟨w.heap.size + 1, 0, none⟩ = some c := q1.cell 0
      have d3 : w1.cell? ⟨w.heap.size + 1, 1, none⟩ = some d := q1.cell 1
      clear hx1 q1 q2 hzz
      go_wp2_with fail
      refine (few_any _ _ B _ (hB.ext hx)).mono ?_
      rw [hfB]
      rintro e w2 ⟨rfl, hy⟩
      go_wp2_with fail
      refine (sanity_any _ (hT.ext (hx.trans hy))).mono ?_
      rintro e w3 ⟨rfl, hz⟩
      go_wp2_with fail
      go_ret
      exact ⟨rfl, (hx.trans hy).trans hz⟩
    · cases hbr : briefB lo hi
      · go_enter Tryz.func3, Tryz.ntmps3
        go_wp2_with fail
        refine (few_any _ _ A _ (hA.ext (by repeat (first | exact Ext.refl _ | assumption | refine Ext.alloc ?_ _ | refine Ext.drew ?_ | refine Ext.drewN _ ?_ | refine Ext.trans ?_ (by assumption))))).mono ?_
        rw [hfA]
        rintro e w1 ⟨rfl, hx1⟩
        obtain ⟨_, q1, q2, hx, hzz⟩ := alloc3 hx1
        have d2 : w1.cell? ⟨w.heap.size + 1, 0, none⟩ = some c := q1.cell 0
        have d3 : w1.cell? ⟨w.heap.size + 1, 1, none⟩ = some d := q1.cell 1
        have d4 : w1.cell? ⟨w.heap.size + 1 + 1, 0, none⟩ = some (.int .i64 lo) := q2.cell 0
        have d5 : w1.cell? ⟨w.heap.size + 1 + 1, 1, none⟩ = some (.int .i64 hi) := q2.cell 1
        clear hx1 q1 q2 hzz
        go_wp2_with fail
        refine (few_any _ _ B _ (hB.ext hx)).mono ?_
        rw [hfB]
        rintro e w2 ⟨rfl, hy⟩
        replace d4 := hy.cell d4
        replace d5 := hy.cell d5
        replace hx := hx.trans hy
        clear hy d2 d3
        go_wp2_with fail
        refine (brief_any lo hi _).mono ?_
        rw [hbr]
        rintro e w3 ⟨rfl, hy⟩
        go_wp2_with fail
        refine (sanity_any _ (hT.ext (hx.trans hy))).mono ?_
        rintro e w4 ⟨rfl, hz⟩
        go_wp2_with fail
        go_ret
        exact ⟨rfl, (hx.trans hy).trans hz⟩
      · exact Spans_main a b c d A B lo hi w hT hA hB hfA hfB hbr
end Go.Proofs.YtejmmfjabmmihaaGreatDoor
namespace Go.Proofs.YtejmmfjabmmihaaGreatDoor.turnSpans
open Go.ChangeShapes Go.WideShapes Go.ChangeAt Go.RowKit

set_option maxRecDepth 100000 in
theorem contract (H : Type) (enc : TypeId × Value → H) (W : World) (base : Nat) (args : Array Value) (ds gs : List (DataW H)) (before : List MemPlace)
    (hval : ∀ (j : Nat) t v, Tryz.f3.params[j]? = some t → args[j]? = some v → Value.okWide Tryz.prog W .any base t v)
    (hW : DataW.Whole enc Tryz.prog Tryz.f3.params.toList Rows.turnSpansSpec.vars false W args.toList ds gs before) (hL : laidMetH Tryz.prog Rows.turnSpansRow.laid W) :
    Calls Tryz.prog 3 args W fun e W' => ∃ v, e = .returned v ∧ Rows.turnSpansSpec.post enc Tryz.prog Tryz.f3 false true false false W args v W' := by
  have hW' := hW
  obtain ⟨p, q, hA, hV, rfl, hfz, hnd⟩ := hW
  rw [show Tryz.f3.params = #[25, 25, 27] from rfl] at hA hval
  obtain ⟨v0, vs0, d0, ds0, p0, q0, hargs, rfl, rfl, h0, r0⟩ := trodAll_cons hA
  obtain ⟨v1, vs1, d1, ds1, p1, q1, rfl, rfl, rfl, h1, r1⟩ := trodAll_cons r0
  obtain ⟨v2, vs2, d2, ds2, p2, q2, rfl, rfl, rfl, h2, r2⟩ := trodAll_cons r1
  obtain ⟨rfl, rfl, rfl⟩ := trodAll_nil r2
  obtain rfl : args = #[v0, v1, v2] := by cases args; simp_all
  obtain ⟨rfl, rfl⟩ := trodVars_none hV
  obtain ⟨x0, y0, S0, rfl, hS0⟩ := open_minutes (hval 0 25 v0 rfl rfl) h0
  obtain ⟨x1, y1, S1, rfl, hS1⟩ := open_minutes (hval 1 25 v1 rfl rfl) h1
  obtain ⟨x2, y2, rfl⟩ := open_span (hval 2 27 v2 rfl rfl) h2
  refine (TurnSpans_any _ _ S0 _ _ S1 _ _ W (tab_of hL) hS0 hS1).mono fun e W' ⟨he, hg⟩ => ?_
  subst he
  refine ⟨_, rfl, post_true hW' rfl rfl ⟨rfl, rfl, rfl⟩ ?_ hg⟩
  rw [show Tryz.f3.params = #[25, 25, 27] from rfl]
  intro t ht
  simp only [List.mem_cons, List.not_mem_nil, or_false] at ht
  rcases ht with rfl | rfl | rfl <;> exact ⟨by kernel_rfl, of_decide_eq_true (by kernel_rfl)⟩

noncomputable def wArgs : Array Value := #[.agg #[.slice none 0 0, .slice none 0 0], .agg #[.slice none 0 0, .slice none 0 0], .agg #[.int .i64 0, .int .i64 0]]
set_option maxRecDepth 100000 in
theorem laid_met (os : Os) : laidMet Tryz.prog Rows.turnSpansRow.laid ((laidWorld os).forCall (fun _ _ => 0) ⟨#[], wArgs, []⟩).memory :=
  laidMet_of_run' 8 (by kernel_rfl) (by kernel_rfl)
set_option maxRecDepth 100000 in
theorem reads (os : Os) {H : Type} (enc : TypeId × Value → H) : ∃ x places, DataW.whole enc Tryz.prog ((laidWorld os).forCall (fun _ _ => 0) ⟨#[], wArgs, []⟩).memory Tryz.f3.params.toList Rows.turnSpansSpec.vars false wArgs.toList 8 = some (x, [], places) :=
  ⟨[.agg [.nil, .nil], .agg [.nil, .nil], .agg [.lit (.int .i64 0), .lit (.int .i64 0)]], [], by kernel_rfl⟩

set_option maxRecDepth 100000 in
theorem lifted (os : Os) (started : os.Started) (H : Type) (enc : TypeId × Value → H) (F : Stop.Interp) :
    ReturnsInHanded {} Tryz.checked os 3 .any ((OpenSpec.ofChange Rows.turnSpansSpec).preRow enc Tryz.prog Tryz.f3 Rows.turnSpansRow.domain false Rows.turnSpansRow.laid) (((OpenSpec.ofChange Rows.turnSpansSpec).at F).post enc Tryz.prog Tryz.f3 false true false false) := by
  obtain ⟨x, places, hx⟩ := reads os enc
  refine returnsInHanded_of_row (C := Tryz.checked) (s := OpenSpec.ofChange Rows.turnSpansSpec) own started (by kernel_rfl) Tryz.func3
    (witness_row_at (enc := enc) (C := Tryz.checked) false (laidWorld os) wArgs rfl (by kernel_rfl) (by kernel_rfl) (by kernel_rfl)
      (OpenSpec.preRow_of_cond 8 hx (by kernel_rfl) (fun k hk => by cases hk) (by kernel_rfl) (laid_met os))) ?_
  intro W base args ds gs before hval hW _ _ _ hL _ _
  exact contract H enc W base args ds gs before hval hW hL

set_option maxRecDepth 100000 in
theorem said : Rows.TurnSpansSaid :=
  OpenClaim.holds_of_cond 3 Tryz.f3 rfl rfl rfl rfl rfl rfl rfl ⟨rfl, rfl, rfl, rfl, rfl⟩ rfl rfl rfl rfl rfl (by kernel_rfl) Tryz.func3 (by kernel_rfl)
    (of_decide_eq_true (by kernel_rfl)) (by unfold Func.isWrapper; first | (rw [if_pos (by decide +kernel)]; kernel_rfl) | (rw [if_neg (by decide +kernel)]; exact ⟨rfl, rfl⟩))
    (fun os started H enc _ F => by rw [OpenClaim.pre_eq_preRow]; exact lifted os started H enc F)

set_option maxRecDepth 100000 in
theorem plain (f : FuncId) (fn : Func) (hf : Tryz.pinned.checked.prog.funcNamed "drowner/drownerlaw01.TurnSpans" = some f) (hfn : Tryz.pinned.checked.prog.funcs[f]? = some fn) :
    false = Tryz.pinned.checked.prog.looks [] ∧ ∀ (j : Nat) t, fn.params[j]? = some t → Tryz.pinned.checked.prog.wantsStandIn t = false := by
  obtain rfl : f = 3 := Option.some.inj ((show Tryz.prog.funcNamed "drowner/drownerlaw01.TurnSpans" = some 3 by kernel_rfl).symm.trans hf) |>.symm
  obtain rfl : fn = Tryz.f3 := (Option.some.inj (Tryz.func3.symm.trans hfn)).symm
  refine ⟨by kernel_rfl, fun j t ht => ?_⟩
  rw [show Tryz.f3.params = #[25, 25, 27] from rfl] at ht
  have hm := Array.mem_of_getElem? ht
  simp only [List.mem_toArray, List.mem_cons, List.not_mem_nil, or_false] at hm
  rcases hm with rfl | rfl | rfl
  · exact (show Tryz.prog.wantsStandIn 25 = false by kernel_rfl)
  · exact (show Tryz.prog.wantsStandIn 25 = false by kernel_rfl)
  · exact (show Tryz.prog.wantsStandIn 27 = false by kernel_rfl)

set_option maxRecDepth 100000 in
theorem card : Rows.TurnSpansCardSaid :=
  Claim7.holds_tied_plain_at .later [] _ _ _ _ said (fun _ h => by cases h) (by kernel_rfl) (fun _ h => by cases h) turnSpans_row_tie rfl ⟨rfl, rfl⟩ (by kernel_rfl) rfl plain (by kernel_rfl)
end Go.Proofs.YtejmmfjabmmihaaGreatDoor.turnSpans
