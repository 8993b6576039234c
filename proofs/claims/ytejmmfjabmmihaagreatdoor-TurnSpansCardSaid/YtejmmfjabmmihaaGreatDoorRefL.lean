/- Spans, Rest and Common of the specification. -/
import Derived.Test.YtejmmfjabmmihaaGreatDoorMore
import Derived.Test.YtejmmfjabmmihaaGreatDoorHas
namespace Go.Proofs.YtejmmfjabmmihaaGreatDoor
open Go.RowKit Go.Shelf

/-- what a list of the specification is -/
def LstPost (w : World) (l : List Sp) (E : Int) (e : Ending) (w' : World) : Prop := ∃ v, e = .returned (.agg #[v, .int .i64 E]) ∧ SpansAt w' v l ∧ Ext w w'

def lsV (v : Value) (l : List Sp) : Value := if 2000 < l.length then .slice none 0 0 else v
theorem lsV_form (A : Option Addr) (c : Nat) (l : List Sp) : ∃ A2 c2, lsV (.slice A l.length c) l = .slice A2 (listed l).length c2 := by
  unfold lsV listed
  split
  · exact ⟨none, 0, rfl⟩
  · exact ⟨A, c, rfl⟩
theorem lsV_at {base : Nat} {v : Value} {l : List Sp} {W : World} (h : RowS base v l W) : SpansAt W (lsV v l) (listed l) := by
  unfold lsV listed
  split
  · exact (rowS_nil 0 _).at_
  · exact h.at_
set_option maxRecDepth 100000 in
set_option maxHeartbeats 2000000 in
theorem listed_any (A : Option Addr) (c : Nat) (l : List Sp) (w : World) :
    Calls Tryz.prog 43 #[.slice A l.length c] w fun e w' => e = .returned (.agg #[lsV (.slice A l.length c) l, .int .i64 (listedE l)]) ∧ Ext w w' := by
  by_cases hl : 2000 < l.length
  · have hL : lsV (.slice A l.length c) l = .slice none 0 0 ∧ listedE l = 2 := by unfold lsV listedE; rw [if_pos hl, if_pos hl]; exact ⟨rfl, rfl⟩
    rw [hL.1, hL.2]
    clear hL
    go_enter Tryz.func43, Tryz.ntmps43
    go_wp2_with fail
    exact bodyPost_ret (v := .agg #[.slice none 0 0, .int .i64 2]) (by simp [results, Tryz.f43, go_sem]) rfl ⟨rfl, (by repeat (first | exact Ext.refl _ | assumption | refine Ext.alloc ?_ _ | refine Ext.drew ?_ | refine Ext.drewN _ ?_ | refine Ext.trans ?_ (by assumption)))⟩
  · have hL : lsV (.slice A l.length c) l = .slice A l.length c ∧ listedE l = 0 := by unfold lsV listedE; rw [if_neg hl, if_neg hl]; exact ⟨rfl, rfl⟩
    rw [hL.1, hL.2]
    clear hL
    go_enter Tryz.func43, Tryz.ntmps43
    go_wp2_with fail
    exact bodyPost_ret (v := .agg #[.slice A l.length c, .int .i64 0]) (by simp [results, Tryz.f43, go_sem]) rfl ⟨rfl, (by repeat (first | exact Ext.refl _ | assumption | refine Ext.alloc ?_ _ | refine Ext.drew ?_ | refine Ext.drewN _ ?_ | refine Ext.trans ?_ (by assumption)))⟩
theorem ext_row {a w w' : World} {base : Nat} {v : Value} {l : List Sp} (h : Ext a w) (hr : RowS base v l w) (hb : a.heap.size ≤ base) (hg : w.grownBy w' v.ownBlock) : Ext a w' :=
  Below.grown h hg h.size (fun k e => by have := (World.ownsRow.lt hr k e).1; omega)
theorem lst_t {P : Int → Bool} {lo : Int} {k : Nat} (h : P (lo + k) = true) : lst P lo (k + 1) = addM (lst P lo k) (lo + k) := by simp [lst, h]
theorem lst_f {P : Int → Bool} {lo : Int} {k : Nat} (h : P (lo + k) = false) : lst P lo (k + 1) = lst P lo k := by simp [lst, h]
theorem row_far {base B : Nat} {v : Value} {l : List Sp} {W : World} (h : RowS base v l W) (hB : B < base) (i : Nat) (u : Value) : RowS base v l (W.setCell ⟨B, i, none⟩ u) :=
  World.ownsRow.kept h (row := some B) ⟨rfl, rfl, rfl, by simp [World.setCell], fun k _ hne => Below.heap_setCell W ⟨B, i, none⟩ u k (fun e => hne (by rw [e]))⟩ (by
    cases e : v.ownBlock with
    | none => exact .inl rfl
    | some g => right; intro e2; have := (World.ownsRow.lt h g e).1; injection e2 with e2; omega)

set_option maxRecDepth 100000 in
set_option maxHeartbeats 4000000 in
theorem RefSpans_any (a b : Value) (S : Mn) (lo hi : Int) (w : World) (hS : MinsAt w a b S) :
    Calls Tryz.prog 12 #[.agg #[a, b], .agg #[.int .i64 lo, .int .i64 hi]] w (LstPost w (spansX S lo hi) (spansE S lo hi)) := by
  cases hE : (spnE S lo hi != 0)
  · have h0 : spnE S lo hi = 0 := by simpa using hE
    obtain ⟨hok, b1, b2, b3⟩ := spn_ok h0
    have hX : spansX S lo hi = listed (lst (mem S) lo (spN lo hi)) ∧ spansE S lo hi = listedE (lst (mem S) lo (spN lo hi)) := by unfold spansX spansE; rw [if_pos h0, if_pos h0]; exact ⟨rfl, rfl⟩
    have HX := Lib.hid hX
    have H0 := Lib.hid h0
    have hN : (spN lo hi : Int) = hi + 1 - lo := by unfold spN; omega
    obtain ⟨N, hNN⟩ : ∃ N, spN lo hi = N := ⟨_, rfl⟩
    rw [hNN] at hN HX
    clear h0 hX hNN hE
    go_enter Tryz.func12, Tryz.ntmps12
    go_wp2_with fail
    refine (RefSpanned_any a b S _ _ _ (hS.ext (by repeat (first | exact Ext.refl _ | assumption | refine Ext.alloc ?_ _ | refine Ext.drew ?_ | refine Ext.drewN _ ?_ | refine Ext.trans ?_ (by assumption))))).mono ?_
    rw [H0.out]
    rintro e w1 ⟨rfl, hx1⟩
    obtain ⟨q0, q1, q2, hx, hzz⟩ := alloc3 hx1
    clear hx1
    have d0 : w1.cell? ⟨w.heap.size, 0, none⟩ = some a := q0.cell 0
    have d1 : w1.cell? ⟨w.heap.size, 1, none⟩ = some b := q0.cell 1
    have d2 : w1.cell? ⟨w.heap.size + 1, 0, none⟩ = some (.int .i64 lo) := q1.cell 0
    have d3 : w1.cell? ⟨w.heap.size + 1, 1, none⟩ = some (.int .i64 hi) := q1.cell 1
    clear q0 q1
    have hS1 := hS.ext hx
    go_wp2_with fail
    go_loopw [6, 7, 8] (fun v i _ wr => ∃ k : Nat, k ≤ N ∧ i = .int .i64 (lo + k) ∧ Hid (RowS w1.heap.size v (lst (mem S) lo k) wr) ∧ Ext w1 wr) (fun _ i _ _ => (hi + 1 - intOf i).toNat)
    case atStart => exact ⟨0, Nat.zero_le _, by simp, Lib.hid (rowS_nil _ _), (by repeat (first | exact Ext.refl _ | assumption | refine Ext.alloc ?_ _ | refine Ext.drew ?_ | refine Ext.drewN _ ?_ | refine Ext.trans ?_ (by assumption)))⟩
    case round =>
      obtain ⟨k, hk, rfl, hR, hy⟩ := hrel
      replace d0 := hy.cell d0
      replace d1 := hy.cell d1
      replace d2 := hy.cell d2
      replace d3 := hy.cell d3
      have hlen := lst_len_le (mem S) lo k
      by_cases hlt : k < N
      · obtain ⟨x, hmx⟩ : ∃ x, mem S (lo + k) = x := ⟨_, rfl⟩
        have hT := @lst_t (mem S) lo k
        have hF := @lst_f (mem S) lo k
        have HMX := Lib.hid hmx
        have HT := Lib.hid hT
        have HF := Lib.hid hF
        clear hmx hT hF
        go_wp2_with fail
        refine (RefHas_any a b S (lo + k) _ (hS1.ext hy) hok (by omega) (by omega)).mono ?_
        rw [HMX.out]
        rintro e w2 ⟨rfl, hx2⟩
        have hR2 := Lib.hid (rowS_ext hR.out hx2)
        have hy2 := hy.trans hx2
        cases x
        · go_wp2_with fail
          go_roundw
          case rel => exact ⟨k + 1, by omega, vint (by omega), Lib.hid (by rw [HF.out (by simp [HMX.out])]; exact hR2.out), hy2⟩
          case measure => simp [intOf]; omega
        · go_wp2_with fail
          refine (refMore_any w1.heap.size _ _ (lo + k) _ hR2.out hy2.size (by omega) (by omega) (by omega)).mono ?_
          rintro e w3 ⟨v3, rfl, hR3, hg3⟩
          have HR3 := Lib.hid hR3
          have hy3 := ext_row hy2 hR2.out (Nat.le_refl _) hg3
          clear hR3 hg3
          go_wp2_with fail
          go_roundw
          case rel => exact ⟨k + 1, by omega, vint (by omega), Lib.hid (by rw [HT.out (by simp [HMX.out])]; exact HR3.out), hy3⟩
          case measure => simp [intOf]; omega
      · obtain rfl : k = N := by omega
        obtain ⟨A, c, rfl⟩ := hR.out.form
        have q3 := q2.ext hy
        go_wp2_with fail
        refine (listed_any A c (lst (mem S) lo k) _).mono ?_
        obtain ⟨A2, c2, hls⟩ := lsV_form A c (lst (mem S) lo k)
        rw [hls]
        rintro e w2 ⟨rfl, hx2⟩
        have hR2 := Lib.hid (rowS_ext hR.out hx2)
        have HLS := Lib.hid hls
        clear hls
        have q4 := q3.ext hx2
        have c0 : w2.cell? ⟨w.heap.size + 1 + 1, 0, none⟩ = some (.slice none 0 0) := q4.cell 0
        have c1 : w2.cell? ⟨w.heap.size + 1 + 1, 1, none⟩ = some (.int .i64 0) := q4.cell 1
        have f0 := q4.frozen 0
        have f1 := q4.frozen 1
        go_wp2_with fail
        have q5 := (q4.set 0 (.slice A2 (listed (lst (mem S) lo k)).length c2)).set 1 (.int .i64 (listedE (lst (mem S) lo k)))
        have e0 := q5.cell 0
        have e1 := q5.cell 1
        simp only [List.setIfInBounds_toArray, List.set_cons_zero, List.set_cons_succ, List.getElem?_toArray, List.getElem?_cons_zero, List.getElem?_cons_succ] at e0 e1
        refine bodyPost_ret (v := .agg #[.slice A2 (listed (lst (mem S) lo k)).length c2, .int .i64 (listedE (lst (mem S) lo k))]) (by simp [results, Tryz.f12, go_sem, e0, e1]) rfl ⟨_, by rw [HX.out.2], ?_, ?_⟩
        · rw [HX.out.1]
          rw [← HLS.out]
          exact lsV_at (row_far (row_far hR2.out (by omega) _ _) (by omega) _ _)
        · exact ((hx.trans (hy.trans hx2)).setCell (by simp; omega) _).setCell (by simp; omega) _
  · have h0 : spnE S lo hi ≠ 0 := by simpa using hE
    have hX : spansX S lo hi = [] ∧ spansE S lo hi = spnE S lo hi := by unfold spansX spansE; rw [if_neg h0, if_neg h0]; exact ⟨rfl, rfl⟩
    rw [hX.1, hX.2]
    clear hX h0
    go_enter Tryz.func12, Tryz.ntmps12
    go_wp2_with fail
    refine (RefSpanned_any a b S _ _ _ (hS.ext (by repeat (first | exact Ext.refl _ | assumption | refine Ext.alloc ?_ _ | refine Ext.drew ?_ | refine Ext.drewN _ ?_ | refine Ext.trans ?_ (by assumption))))).mono ?_
    rintro e w1 ⟨rfl, hx1⟩
    obtain ⟨_, _, q2, hx, hzz⟩ := alloc3 hx1
    clear hx1
    have c0 : w1.cell? ⟨w.heap.size + 1 + 1, 0, none⟩ = some (.slice none 0 0) := q2.cell 0
    have c1 : w1.cell? ⟨w.heap.size + 1 + 1, 1, none⟩ = some (.int .i64 0) := q2.cell 1
    have f0 := q2.frozen 0
    have f1 := q2.frozen 1
    go_wp2_with fail
    have q5 := (q2.set 0 (.slice none 0 0)).set 1 (.int .i64 (spnE S lo hi))
    have e0 := q5.cell 0
    have e1 := q5.cell 1
    simp only [List.setIfInBounds_toArray, List.set_cons_zero, List.set_cons_succ, List.getElem?_toArray, List.getElem?_cons_zero, List.getElem?_cons_succ] at e0 e1
    exact bodyPost_ret (v := .agg #[.slice none 0 0, .int .i64 (spnE S lo hi)]) (by simp [results, Tryz.f12, go_sem, e0, e1]) rfl ⟨_, rfl, (rowS_nil 0 _).at_, (hx.setCell (by simp; omega) _).setCell (by simp; omega) _⟩

set_option maxRecDepth 100000 in
set_option maxHeartbeats 4000000 in
theorem RefRest_any (a b : Value) (S : Mn) (lo hi : Int) (w : World) (hS : MinsAt w a b S) :
    Calls Tryz.prog 14 #[.agg #[a, b], .agg #[.int .i64 lo, .int .i64 hi]] w (LstPost w (restX S lo hi) (restE S lo hi)) := by
  cases hE : (spnE S lo hi != 0)
  · have h0 : spnE S lo hi = 0 := by simpa using hE
    obtain ⟨hok, b1, b2, b3⟩ := spn_ok h0
    have hX : restX S lo hi = listed (lst (fun i => !mem S i) lo (spN lo hi)) ∧ restE S lo hi = listedE (lst (fun i => !mem S i) lo (spN lo hi)) := by unfold restX restE; rw [if_pos h0, if_pos h0]; exact ⟨rfl, rfl⟩
    have HX := Lib.hid hX
    have H0 := Lib.hid h0
    have hN : (spN lo hi : Int) = hi + 1 - lo := by unfold spN; omega
    obtain ⟨N, hNN⟩ : ∃ N, spN lo hi = N := ⟨_, rfl⟩
    rw [hNN] at hN HX
    clear h0 hX hNN hE
    go_enter Tryz.func14, Tryz.ntmps14
    go_wp2_with fail
    refine (RefSpanned_any a b S _ _ _ (hS.ext (by repeat (first | exact Ext.refl _ | assumption | refine Ext.alloc ?_ _ | refine Ext.drew ?_ | refine Ext.drewN _ ?_ | refine Ext.trans ?_ (by assumption))))).mono ?_
    rw [H0.out]
    rintro e w1 ⟨rfl, hx1⟩
    obtain ⟨q0, q1, q2, hx, hzz⟩ := alloc3 hx1
    clear hx1
    have d0 : w1.cell? ⟨w.heap.size, 0, none⟩ = some a := q0.cell 0
    have d1 : w1.cell? ⟨w.heap.size, 1, none⟩ = some b := q0.cell 1
    have d2 : w1.cell? ⟨w.heap.size + 1, 0, none⟩ = some (.int .i64 lo) := q1.cell 0
    have d3 : w1.cell? ⟨w.heap.size + 1, 1, none⟩ = some (.int .i64 hi) := q1.cell 1
    clear q0 q1
    have hS1 := hS.ext hx
    go_wp2_with fail
    go_loopw [6, 7, 8] (fun v i _ wr => ∃ k : Nat, k ≤ N ∧ i = .int .i64 (lo + k) ∧ Hid (RowS w1.heap.size v (lst (fun i => !mem S i) lo k) wr) ∧ Ext w1 wr) (fun _ i _ _ => (hi + 1 - intOf i).toNat)
    case atStart => exact ⟨0, Nat.zero_le _, by simp, Lib.hid (rowS_nil _ _), (by repeat (first | exact Ext.refl _ | assumption | refine Ext.alloc ?_ _ | refine Ext.drew ?_ | refine Ext.drewN _ ?_ | refine Ext.trans ?_ (by assumption)))⟩
    case round =>
      obtain ⟨k, hk, rfl, hR, hy⟩ := hrel
      replace d0 := hy.cell d0
      replace d1 := hy.cell d1
      replace d2 := hy.cell d2
      replace d3 := hy.cell d3
      have hlen := lst_len_le (fun i => !mem S i) lo k
      by_cases hlt : k < N
      · obtain ⟨x, hmx⟩ : ∃ x, mem S (lo + k) = x := ⟨_, rfl⟩
        have hT := @lst_t (fun i => !mem S i) lo k
        have hF := @lst_f (fun i => !mem S i) lo k
        have HMX := Lib.hid hmx
        have HT := Lib.hid hT
        have HF := Lib.hid hF
        clear hmx hT hF
        go_wp2_with fail
        refine (RefHas_any a b S (lo + k) _ (hS1.ext hy) hok (by omega) (by omega)).mono ?_
        rw [HMX.out]
        rintro e w2 ⟨rfl, hx2⟩
        have hR2 := Lib.hid (rowS_ext hR.out hx2)
        have hy2 := hy.trans hx2
        cases x
        · go_wp2_with fail
          refine (refMore_any w1.heap.size _ _ (lo + k) _ hR2.out hy2.size (by omega) (by omega) (by omega)).mono ?_
          rintro e w3 ⟨v3, rfl, hR3, hg3⟩
          have HR3 := Lib.hid hR3
          have hy3 := ext_row hy2 hR2.out (Nat.le_refl _) hg3
          clear hR3 hg3
          go_wp2_with fail
          go_roundw
          case rel => exact ⟨k + 1, by omega, vint (by omega), Lib.hid (by rw [HT.out (by simp [HMX.out])]; exact HR3.out), hy3⟩
          case measure => simp [intOf]; omega
        · go_wp2_with fail
          go_roundw
          case rel => exact ⟨k + 1, by omega, vint (by omega), Lib.hid (by rw [HF.out (by simp [HMX.out])]; exact hR2.out), hy2⟩
          case measure => simp [intOf]; omega
      · obtain rfl : k = N := by omega
        obtain ⟨A, c, rfl⟩ := hR.out.form
        have q3 := q2.ext hy
        go_wp2_with fail
        refine (listed_any A c (lst (fun i => !mem S i) lo k) _).mono ?_
        obtain ⟨A2, c2, hls⟩ := lsV_form A c (lst (fun i => !mem S i) lo k)
        rw [hls]
        rintro e w2 ⟨rfl, hx2⟩
        have hR2 := Lib.hid (rowS_ext hR.out hx2)
        have HLS := Lib.hid hls
        clear hls
        have q4 := q3.ext hx2
        have c0 : w2.cell? ⟨w.heap.size + 1 + 1, 0, none⟩ = some (.slice none 0 0) := q4.cell 0
        have c1 : w2.cell? ⟨w.heap.size + 1 + 1, 1, none⟩ = some (.int .i64 0) := q4.cell 1
        have f0 := q4.frozen 0
        have f1 := q4.frozen 1
        go_wp2_with fail
        have q5 := (q4.set 0 (.slice A2 (listed (lst (fun i => !mem S i) lo k)).length c2)).set 1 (.int .i64 (listedE (lst (fun i => !mem S i) lo k)))
        have e0 := q5.cell 0
        have e1 := q5.cell 1
        simp only [List.setIfInBounds_toArray, List.set_cons_zero, List.set_cons_succ, List.getElem?_toArray, List.getElem?_cons_zero, List.getElem?_cons_succ] at e0 e1
        refine bodyPost_ret (v := .agg #[.slice A2 (listed (lst (fun i => !mem S i) lo k)).length c2, .int .i64 (listedE (lst (fun i => !mem S i) lo k))]) (by simp [results, Tryz.f14, go_sem, e0, e1]) rfl ⟨_, by rw [HX.out.2], ?_, ?_⟩
        · rw [HX.out.1]
          rw [← HLS.out]
          exact lsV_at (row_far (row_far hR2.out (by omega) _ _) (by omega) _ _)
        · exact ((hx.trans (hy.trans hx2)).setCell (by simp; omega) _).setCell (by simp; omega) _
  · have h0 : spnE S lo hi ≠ 0 := by simpa using hE
    have hX : restX S lo hi = [] ∧ restE S lo hi = spnE S lo hi := by unfold restX restE; rw [if_neg h0, if_neg h0]; exact ⟨rfl, rfl⟩
    rw [hX.1, hX.2]
    clear hX h0
    go_enter Tryz.func14, Tryz.ntmps14
    go_wp2_with fail
    refine (RefSpanned_any a b S _ _ _ (hS.ext (by repeat (first | exact Ext.refl _ | assumption | refine Ext.alloc ?_ _ | refine Ext.drew ?_ | refine Ext.drewN _ ?_ | refine Ext.trans ?_ (by assumption))))).mono ?_
    rintro e w1 ⟨rfl, hx1⟩
    obtain ⟨_, _, q2, hx, hzz⟩ := alloc3 hx1
    clear hx1
    have c0 : w1.cell? ⟨w.heap.size + 1 + 1, 0, none⟩ = some (.slice none 0 0) := q2.cell 0
    have c1 : w1.cell? ⟨w.heap.size + 1 + 1, 1, none⟩ = some (.int .i64 0) := q2.cell 1
    have f0 := q2.frozen 0
    have f1 := q2.frozen 1
    go_wp2_with fail
    have q5 := (q2.set 0 (.slice none 0 0)).set 1 (.int .i64 (spnE S lo hi))
    have e0 := q5.cell 0
    have e1 := q5.cell 1
    simp only [List.setIfInBounds_toArray, List.set_cons_zero, List.set_cons_succ, List.getElem?_toArray, List.getElem?_cons_zero, List.getElem?_cons_succ] at e0 e1
    exact bodyPost_ret (v := .agg #[.slice none 0 0, .int .i64 (spnE S lo hi)]) (by simp [results, Tryz.f14, go_sem, e0, e1]) rfl ⟨_, rfl, (rowS_nil 0 _).at_, (hx.setCell (by simp; omega) _).setCell (by simp; omega) _⟩
end Go.Proofs.YtejmmfjabmmihaaGreatDoor
