/- Fewest of the specification. -/
import Derived.Test.YtejmmfjabmmihaaDoorFewW
import Derived.Test.YtejmmfjabmmihaaDoorPerR
namespace Go.Proofs.YtejmmfjabmmihaaDoor
open Go.RowKit Go.Shelf Go.Maps

/-- what a set of the specification is -/
def SetPost (S : Mn) (E : Int) (w : World) (e : Ending) (w' : World) : Prop :=
  ∃ va vb, e = .returned (.agg #[va, vb, .int .i64 E]) ∧ MinsAt w' va vb S ∧ Ext w w'
theorem rfew_ret {S : Mn} {w W : World} {tmps : Array Value} {va vb : Value} {E E' : Int} (h2 : tmps.getD 2 undef = .pointer (some ⟨w.heap.size + 1, 0, none⟩)) (hE : E' = E)
    (hc : Cls (w.heap.size + 1) 73 #[va, vb, .int .i64 E'] W) (hm : MinsAt W va vb S) (hx : Ext w W) : bodyPost Tryd.prog Tryd.f45 (SetPost S E w) Exit.ret { tmps := tmps, defers := [] } W := by
  subst hE
  have c0 : W.cell? ⟨w.heap.size + 1, 0, none⟩ = some va := hc.cell 0
  have c1 : W.cell? ⟨w.heap.size + 1, 1, none⟩ = some vb := hc.cell 1
  have c2 : W.cell? ⟨w.heap.size + 1, 2, none⟩ = some (.int .i64 E') := hc.cell 2
  have h2' : tmps[2]?.getD undef = .pointer (some ⟨w.heap.size + 1, 0, none⟩) := by simpa using h2
  exact bodyPost_ret (v := .agg #[va, vb, .int .i64 E']) (by simp [results, Tryd.f45, go_sem, h2', c0, c1, c2]) rfl ⟨va, vb, rfl, hm, hx⟩
theorem rowT_ext {n₀ : Nat} {v : Value} {l : List Tn} {W W' : World} (h : RowT n₀ v l W) (x : Ext W W') : RowT n₀ v l W' := World.ownsRow.kept h (grown_none x) (by
  cases e : v.ownBlock with
  | none => exact .inl rfl
  | some g => exact .inr (by simp))
/-- where the loop stands -/
structure RfI (w : World) (a b : Value) (Bq base : Nat) (v : Value) (l : List Tn) (W : World) : Prop where
  pr : Cls w.heap.size 34 #[a, b] W
  mn : Cls Bq 73 #[v, .slice none 0 0, .int .i64 0] W
  rs : Cls (w.heap.size + 1) 73 #[.slice none 0 0, .slice none 0 0, .int .i64 0] W
  rt : RowT base v l W
  ex : Ext w W
  sz : base ≤ W.heap.size
theorem RfI.ext {w : World} {a b : Value} {Bq base : Nat} {v : Value} {l : List Tn} {W W' : World} (h : RfI w a b Bq base v l W) (x : Ext W W') : RfI w a b Bq base v l W' :=
  ⟨h.pr.ext x, h.mn.ext x, h.rs.ext x, rowT_ext h.rt x, h.ex.trans x, Nat.le_trans h.sz x.size⟩
theorem RfI.add {w : World} {a b : Value} {Bq base : Nat} {v : Value} {l : List Tn} {t : Tn} {W W1 W' : World} {v' : Value} {tmp : Obj} (b2 : Bq < base) (b3 : w.heap.size + 1 < Bq) (h : RfI w a b Bq base v l W) (hW1 : W1 = W.alloc tmp) (hg : W1.grownBy W' v.ownBlock)
    (ho : W'.ownsRow base 23 3 v' (l.length + 1) (cellsT l ++ [.int .i64 t.p, .int .i64 t.f, .int .i64 t.l])) :
    Cls Bq 73 #[v, .slice none 0 0, .int .i64 0] W' ∧ RfI w a b Bq base v' (l ++ [t]) (W'.setCell ⟨Bq, 0, none⟩ v') ∧ ∀ Z : World, Z.heap.size ≤ Bq → Ext Z W → Ext Z (W'.setCell ⟨Bq, 0, none⟩ v') := by
  subst hW1
  have hne : ∀ b, b < base → some b ≠ v.ownBlock := fun b hb => own_ge h.rt hb
  have k : ∀ {b : Nat} {t : TypeId} {cs : Array Value}, b < base → Cls b t cs W → Cls b t cs W' := fun hb hc => (hc.ext ((Ext.refl _).alloc _)).kept hg (hne _ hb)
  have hm := k b2 h.mn
  have hx : Ext w W' := (h.ex.alloc tmp).trans' (by
    refine ⟨hg.os, hg.tape, hg.output, hg.size, fun i hi => hg.block i (by have := h.sz; simp; omega) (hne i (by omega))⟩)
  refine ⟨hm, ⟨(k (by omega) h.pr).other (by omega) 0 _, hm.set 0 v', (k (by omega) h.rs).other (by omega) 0 _, ?_, hx.setCell (by simp; omega) _, ?_⟩, ?_⟩
  · have := World.ownsRow.kept ho (grownBy_setCell' W' Bq v') (.inr (own_ge ho b2).symm)
    unfold RowT
    rw [List.length_append, List.length_singleton, cellsT_append]
    exact this
  · have h1 := h.sz; have h2 := hg.size; simp [World.setCell] at *; omega
  · intro Z hz hy
    have hz2 := hy.size
    exact Ext.setCell ((hy.alloc tmp).trans' ⟨hg.os, hg.tape, hg.output, hg.size, fun i hi => hg.block i (by simp; omega) (hne i (by omega))⟩) hz _

set_option maxRecDepth 100000 in
set_option maxHeartbeats 8000000 in
theorem RefFewest_any (a b : Value) (S : Mn) (w : World) (hS : MinsAt w a b S) :
    Calls Tryd.prog 45 #[.agg #[a, b]] w (SetPost (fewX S) (fewE S) w) := by
  by_cases hW : whlE S = 0
  · obtain ⟨p1, hL, hp1, hp2, hp3⟩ := perI_least hW
    obtain ⟨hok, hss, _, _, _⟩ := whl_ok hW
    have hF : fewX S = (if 24 < (fewT S).length then ⟨[], []⟩ else ⟨fewT S, []⟩) ∧ fewE S = (if 24 < (fewT S).length then 2 else 0) := by unfold fewX fewE; rw [if_pos hW, if_pos hW]; exact ⟨rfl, rfl⟩
    have HF := Lib.hid hF
    have HW := Lib.hid hW
    have hpp := hL.pos
    have hT : fewT S = fewU (whlF S) (perI S) (perI S) := rfl
    have hmw := fun n => mem_whl hss n
    obtain ⟨F, hFF⟩ : ∃ F, whlF S = F := ⟨_, rfl⟩
    obtain ⟨p, hpI⟩ : ∃ p, perI S = p := ⟨_, rfl⟩
    rw [hFF] at hT hL hmw
    rw [hpI] at hT hL hp1 hpp p1
    have HT := Lib.hid hT
    have HAG := Lib.hid hL.again
    have HMW := Lib.hid hmw
    have HP1 := Lib.hid p1
    clear hF hW hT hL hFF hpI hp2 hp3 hmw hss p1
    go_enter Tryd.func45, Tryd.ntmps45
    go_wp2_with fail
    refine (RefPeriod_any _ _ S _ (hS.ext (by repeat (first | exact Ext.refl _ | assumption | refine Ext.alloc ?_ _ | refine Ext.drew ?_ | refine Ext.drewN _ ?_ | refine Ext.trans ?_ (by assumption))))).mono ?_
    unfold FoundPost
    rw [HP1.out, HW.out]
    rintro e w1 ⟨rfl, hx1⟩
    obtain ⟨q0, q1, hx, hzz⟩ := alloc2 hx1
    clear hx1
    obtain ⟨i0, hi0, hz0, hz1, hz2⟩ := info_parts infoTn
    obtain ⟨W2, hW2⟩ : ∃ W2, w1.alloc (.cells #[.int .i64 p, .int .i64 0] 68) = W2 := ⟨_, rfl⟩
    have hx2 : Ext w W2 := by rw [← hW2]; exact hx.trans (by repeat (first | exact Ext.refl _ | assumption | refine Ext.alloc ?_ _ | refine Ext.drew ?_ | refine Ext.drewN _ ?_ | refine Ext.trans ?_ (by assumption)))
    have hB2 : w.heap.size + 1 < w1.heap.size + 1 := by omega
    have hS3 : MinsAt W2 a b S := hS.ext hx2
    obtain ⟨W3, hW3⟩ : ∃ W3, W2.alloc (.cells #[.slice none 0 0, .slice none 0 0, .int .i64 0] 73) = W3 := ⟨_, rfl⟩
    have hsz2 : W2.heap.size = w1.heap.size + 1 := by rw [← hW2]; simp
    have hx23 : Ext W2 W3 := by rw [← hW3]; exact (by repeat (first | exact Ext.refl _ | assumption | refine Ext.alloc ?_ _ | refine Ext.drew ?_ | refine Ext.drewN _ ?_ | refine Ext.trans ?_ (by assumption)))
    have q2 := q1.ext (show Ext w1 W2 by rw [← hW2]; exact (by repeat (first | exact Ext.refl _ | assumption | refine Ext.alloc ?_ _ | refine Ext.drew ?_ | refine Ext.drewN _ ?_ | refine Ext.trans ?_ (by assumption))))
    have q3 := q0.ext (show Ext w1 W2 by rw [← hW2]; exact (by repeat (first | exact Ext.refl _ | assumption | refine Ext.alloc ?_ _ | refine Ext.drew ?_ | refine Ext.drewN _ ?_ | refine Ext.trans ?_ (by assumption))))
    have hI0 : RfI w a b (w1.heap.size + 1) W3.heap.size (.slice none 0 0) (fewU F p 0) W3 := by
      rw [← hsz2]
      refine ⟨q3.ext hx23, by rw [← hW3]; exact Cls.new _ _ _, q2.ext hx23, World.ownsRow_nil _ _ _ _, hx2.trans hx23, Nat.le_refl _⟩
    have hB1 : w1.heap.size + 1 < W3.heap.size := by rw [← hW3]; simp; omega
    have hB4 : W2.heap.size ≤ w1.heap.size + 1 := by omega
    have HW2 := Lib.hid hW2
    have HW3 := Lib.hid hW3
    have HI0 := Lib.hid hI0
    have HB := Lib.hid (show (w.heap.size + 1 < w1.heap.size + 1 ∧ w1.heap.size + 1 < W3.heap.size ∧ W2.heap.size ≤ w1.heap.size + 1) from ⟨hB2, hB1, hB4⟩)
    have HX23 := Lib.hid hx23
    clear hW2 hW3 hI0 hB1 hB2 hB4 hsz2 hx23 q2 q3 hx2
    go_wp2_with fail
    rw [HW2.out, HW3.out]
    have hI0 := HI0.out
    obtain ⟨hB2, hB1, hB4⟩ := HB.out
    have hx23 := HX23.out
    obtain ⟨Bq, hBq⟩ : ∃ Bq, w1.heap.size + 1 = Bq := ⟨_, rfl⟩
    obtain ⟨base, hbase⟩ : ∃ base, W3.heap.size = base := ⟨_, rfl⟩
    rw [hBq, hbase] at hI0
    rw [hBq, hbase] at hB1
    rw [hBq] at hB2 hB4
    try rw [hBq]
    clear HW2 HW3 HI0 HB HX23 hBq hbase q0 q1 hx hzz hS
    go_loopw [6, 7, 8, 9] (fun i _ _ _ wr => ∃ (n : Nat) (v : Value), n ≤ p ∧ i = .int .i64 n ∧ Hid (RfI w a b Bq base v (fewU F p n) wr) ∧ Ext W2 wr) (fun i _ _ _ _ => p - (intOf i).toNat)
    case atStart => exact ⟨0, _, Nat.zero_le _, rfl, Lib.hid hI0, hx23⟩
    case round =>
      obtain ⟨n, v, hn, rfl, HI, hy⟩ := hrel
      obtain ⟨wo, rfl⟩ : ∃ wo : World, wo = wr := ⟨_, rfl⟩
      have hlen := fewU_len F p n
      by_cases hlt : n < p
      · have g0 : wo.cell? ⟨w.heap.size, 0, none⟩ = some a := HI.out.pr.cell 0
        have g1 : wo.cell? ⟨w.heap.size, 1, none⟩ = some b := HI.out.pr.cell 1
        obtain ⟨x, hx1⟩ : ∃ x, F n = x := ⟨_, rfl⟩
        obtain ⟨y, hy1⟩ : ∃ y, F ((n + p - 1) % p) = y := ⟨_, rfl⟩
        have hmx : mem S ((n : Nat) : Int) = x := by rw [HMW.out]; exact hx1
        have hmy : mem S ((n : Int) + (p : Int) - 1) = y := by rw [show (n : Int) + (p : Int) - 1 = ((n + p - 1 : Nat) : Int) by omega, HMW.out, ← HAG.out.mod]; exact hy1
        have HMX := Lib.hid hmx
        have HMY := Lib.hid hmy
        have HX1 := Lib.hid hx1
        have HY1 := Lib.hid hy1
        clear hmx hmy hx1 hy1
        go_wp2_with fail
        refine (RefHas_any a b S n _ (hS3.ext hy) hok (by omega) (by omega)).mono ?_
        rw [HMX.out]
        rintro e w4 ⟨rfl, hx4⟩
        replace HI := Lib.hid (HI.out.ext hx4)
        replace hy := hy.trans hx4
        replace g0 := hx4.cell g0
        replace g1 := hx4.cell g1
        clear hx4
        go_wp2_with fail
        refine (RefHas_any a b S ((n : Int) + (p : Int) - 1) _ (hS3.ext hy) hok (by omega) (by omega)).mono ?_
        rw [HMY.out]
        rintro e w5 ⟨rfl, hx5⟩
        replace HI := Lib.hid (HI.out.ext hx5)
        replace hy := hy.trans hx5
        clear hx5 g0 g1
        cases x
        · have hnx := fewU_f (startB_no (p := p) HX1.out)
          have HN2 : Hid (RfI w a b Bq base v (fewU F p (n + 1)) w5) := Lib.hid (by rw [hnx]; exact HI.out)
          clear hnx
          go_wp2_with fail
          go_roundw
          case rel => exact ⟨n + 1, _, by omega, by go_num, HN2, hy⟩
          case measure => simp [intOf]; omega
        · by_cases hgo : y = true ∧ 1 < p
          · obtain ⟨rfl, hp2⟩ := hgo
            have hnx := fewU_f (startB_in (F := F) (p := p) (n := n) (by omega) HY1.out)
            have HN2 : Hid (RfI w a b Bq base v (fewU F p (n + 1)) w5) := Lib.hid (by rw [hnx]; exact HI.out)
            clear hnx
            go_wp2_with fail
            go_roundw
            case rel => exact ⟨n + 1, _, by omega, by go_num, HN2, hy⟩
            case measure => simp [intOf]; omega
          · have hst : startB F p n = true := by
              unfold startB
              rw [HX1.out, HY1.out]
              cases y
              · rfl
              · have : p = 1 := by simp at hgo; omega
                simp [this]
            have hnx := fewU_t hst
            obtain ⟨r1, r2, r3, r4⟩ := runP_spec F hpp n
            obtain ⟨N, hN⟩ : ∃ N, runP F p n = N := ⟨_, rfl⟩
            rw [hN] at r1 r2 r3 r4 hnx
            have HNX := Lib.hid hnx
            have HR3 := Lib.hid r3
            have HR4 := Lib.hid r4
            clear hst hnx r3 r4 hN
            have hgo2 : y = false ∨ (y = true ∧ p = 1) := by
              cases y
              · exact .inl rfl
              · right; simp at hgo; exact ⟨rfl, by omega⟩
            clear hgo
            rcases hgo2 with rfl | ⟨rfl, rfl⟩
            · go_wp2_with fail
              go_loopw [9] (fun u wr => ∃ k : Nat, 1 ≤ k ∧ k ≤ N ∧ u = .int .i64 k ∧ Hid (RfI w a b Bq base v (fewU F p n) wr) ∧ Ext W2 wr) (fun u _ => N - (intOf u).toNat)
              case atStart => exact ⟨1, by omega, r1, rfl, HI, hy⟩
              case round =>
                clear hy HI
                obtain ⟨k, hk1, hk2, rfl, HI, hy⟩ := hrel
                have g0 : wr.cell? ⟨w.heap.size, 0, none⟩ = some a := HI.out.pr.cell 0
                have g1 : wr.cell? ⟨w.heap.size, 1, none⟩ = some b := HI.out.pr.cell 1
                have hmk : mem S ((n : Int) + (k : Int)) = F ((n + k) % p) := by rw [show (n : Int) + (k : Int) = ((n + k : Nat) : Int) by omega, HMW.out, HAG.out.mod]
                by_cases hkN : k < N
                · have hmk2 : mem S ((n : Int) + (k : Int)) = true := by rw [hmk]; exact HR3.out k hk1 hkN
                  have HMK := Lib.hid hmk2
                  clear hmk hmk2
                  go_wp2_with fail
                  refine (RefHas_any a b S ((n : Int) + (k : Int)) _ (hS3.ext hy) hok (by omega) (by omega)).mono ?_
                  rw [HMK.out]
                  rintro e w6 ⟨rfl, hx6⟩
                  go_wp2_with fail
                  go_roundw
                  case rel => exact ⟨k + 1, by omega, by omega, by go_num, Lib.hid (HI.out.ext hx6), hy.trans hx6⟩
                  case measure => simp [intOf]; omega
                · obtain rfl : k = N := by omega
                  by_cases hkp : k < p
                  · have hmk2 : mem S ((n : Int) + (k : Int)) = false := by rw [hmk]; exact HR4.out hkp
                    have HMK := Lib.hid hmk2
                    clear hmk hmk2
                    go_wp2_with fail
                    refine (RefHas_any a b S ((n : Int) + (k : Int)) _ (hS3.ext hy) hok (by omega) (by omega)).mono ?_
                    rw [HMK.out]
                    rintro e w6 ⟨rfl, hx6⟩
                    replace HI := Lib.hid (HI.out.ext hx6)
                    replace hy := hy.trans hx6
                    clear hx6 g0 g1
                    have hmn := HI.out.mn
                    have hrt := HI.out.rt
                    obtain ⟨A, c, rfl⟩ := hrt.form
                    have c0 : w6.cell? ⟨Bq, 0, none⟩ = some (.slice A (fewU F p n).length c) := hmn.cell 0
                    have hl2 : (fewU F p n).length ≤ 40320 := by omega
                    go_wp2_with ((at_builtin; go_must (refine wpList_append_own _ rfl _ _ 31 rfl base 23 i0 (.agg #[.int .i64 0, .int .i64 0, .int .i64 0]) 3 24 undTn hi0 hz0 hz1 hz2 rfl (by decide) _ _ _ rfl (World.ownsRow.alloc hrt _) ⟨w6.heap.size, 0, none⟩ 1 1 [.int .i64 p, .int .i64 n, .int .i64 k] rfl rfl (cell_three_new _ _ _ _ _) (by simp [Value.oneCell']) (by unfold maxLen; omega) (by omega) (by have := HI.out.sz; simp; omega) ?_; intro v' w7 hown hgrow _; obtain ⟨hm3, hI3, hm4⟩ := RfI.add (t := ⟨p, n, k⟩) hB1 hB2 HI.out rfl hgrow hown; obtain ⟨g', cap', rfl⟩ := ownsRow_succ hown; have c3 : w7.cell? ⟨Bq, 0, none⟩ = some (.slice A (fewU F p n).length c) := hm3.cell 0; have f3 : w7.frozen? ⟨Bq, 0, none⟩ = false := hm3.frozen 0; have HI3 := Lib.hid hI3; have hxw : Ext W2 (w7.setCell ⟨Bq, 0, none⟩ (.slice (some ⟨g', 0, none⟩) ((fewU F p n).length + 1) cap')) := hm4 W2 hB4 hy; clear hI3 hm3 hm4)))
                    go_roundw
                    case rel => exact ⟨n + 1, _, by omega, by go_num, Lib.hid (by rw [HNX.out]; exact HI3.out), hxw⟩
                    case measure => simp [intOf]; omega
                  · clear hmk g0 g1
                    obtain ⟨w6, rfl⟩ : ∃ w6 : World, w6 = wr := ⟨_, rfl⟩
                    have hmn := HI.out.mn
                    have hrt := HI.out.rt
                    obtain ⟨A, c, rfl⟩ := hrt.form
                    have c0 : w6.cell? ⟨Bq, 0, none⟩ = some (.slice A (fewU F p n).length c) := hmn.cell 0
                    have hl2 : (fewU F p n).length ≤ 40320 := by omega
                    go_wp2_with ((at_builtin; go_must (refine wpList_append_own _ rfl _ _ 31 rfl base 23 i0 (.agg #[.int .i64 0, .int .i64 0, .int .i64 0]) 3 24 undTn hi0 hz0 hz1 hz2 rfl (by decide) _ _ _ rfl (World.ownsRow.alloc hrt _) ⟨w6.heap.size, 0, none⟩ 1 1 [.int .i64 p, .int .i64 n, .int .i64 k] rfl rfl (cell_three_new _ _ _ _ _) (by simp [Value.oneCell']) (by unfold maxLen; omega) (by omega) (by have := HI.out.sz; simp; omega) ?_; intro v' w7 hown hgrow _; obtain ⟨hm3, hI3, hm4⟩ := RfI.add (t := ⟨p, n, k⟩) hB1 hB2 HI.out rfl hgrow hown; obtain ⟨g', cap', rfl⟩ := ownsRow_succ hown; have c3 : w7.cell? ⟨Bq, 0, none⟩ = some (.slice A (fewU F p n).length c) := hm3.cell 0; have f3 : w7.frozen? ⟨Bq, 0, none⟩ = false := hm3.frozen 0; have HI3 := Lib.hid hI3; have hxw : Ext W2 (w7.setCell ⟨Bq, 0, none⟩ (.slice (some ⟨g', 0, none⟩) ((fewU F p n).length + 1) cap')) := hm4 W2 hB4 hy; clear hI3 hm3 hm4)))
                    go_roundw
                    case rel => exact ⟨n + 1, _, by omega, by go_num, Lib.hid (by rw [HNX.out]; exact HI3.out), hxw⟩
                    case measure => simp [intOf]; omega
            · go_wp2_with fail
              go_loopw [9] (fun u wr => ∃ k : Nat, 1 ≤ k ∧ k ≤ N ∧ u = .int .i64 k ∧ Hid (RfI w a b Bq base v (fewU F 1 n) wr) ∧ Ext W2 wr) (fun u _ => N - (intOf u).toNat)
              case atStart => exact ⟨1, by omega, r1, rfl, HI, hy⟩
              case round =>
                clear hy HI
                obtain ⟨k, hk1, hk2, rfl, HI, hy⟩ := hrel
                have g0 : wr.cell? ⟨w.heap.size, 0, none⟩ = some a := HI.out.pr.cell 0
                have g1 : wr.cell? ⟨w.heap.size, 1, none⟩ = some b := HI.out.pr.cell 1
                have hmk : mem S ((n : Int) + (k : Int)) = F ((n + k) % 1) := by rw [show (n : Int) + (k : Int) = ((n + k : Nat) : Int) by omega, HMW.out, HAG.out.mod]
                obtain rfl : k = N := by omega
                clear hmk g0 g1
                obtain ⟨w6, rfl⟩ : ∃ w6 : World, w6 = wr := ⟨_, rfl⟩
                have hmn := HI.out.mn
                have hrt := HI.out.rt
                obtain ⟨A, c, rfl⟩ := hrt.form
                have c0 : w6.cell? ⟨Bq, 0, none⟩ = some (.slice A (fewU F 1 n).length c) := hmn.cell 0
                have hl2 : (fewU F 1 n).length ≤ 40320 := by omega
                go_wp2_with ((at_builtin; go_must (refine wpList_append_own _ rfl _ _ 31 rfl base 23 i0 (.agg #[.int .i64 0, .int .i64 0, .int .i64 0]) 3 24 undTn hi0 hz0 hz1 hz2 rfl (by decide) _ _ _ rfl (World.ownsRow.alloc hrt _) ⟨w6.heap.size, 0, none⟩ 1 1 [.int .i64 1, .int .i64 n, .int .i64 k] rfl rfl (cell_three_new _ _ _ _ _) (by simp [Value.oneCell']) (by unfold maxLen; omega) (by omega) (by have := HI.out.sz; simp; omega) ?_; intro v' w7 hown hgrow _; obtain ⟨hm3, hI3, hm4⟩ := RfI.add (t := ⟨1, n, k⟩) hB1 hB2 HI.out rfl hgrow hown; obtain ⟨g', cap', rfl⟩ := ownsRow_succ hown; have c3 : w7.cell? ⟨Bq, 0, none⟩ = some (.slice A (fewU F 1 n).length c) := hm3.cell 0; have f3 : w7.frozen? ⟨Bq, 0, none⟩ = false := hm3.frozen 0; have HI3 := Lib.hid hI3; have hxw : Ext W2 (w7.setCell ⟨Bq, 0, none⟩ (.slice (some ⟨g', 0, none⟩) ((fewU F 1 n).length + 1) cap')) := hm4 W2 hB4 hy; clear hI3 hm3 hm4)))
                go_roundw
                case rel => exact ⟨n + 1, by omega, by omega, _, Lib.hid (by rw [HNX.out]; exact HI3.out)⟩
                case measure => simp [intOf]; omega
      · obtain rfl : n = p := by omega
        have hrs := HI.out.rs
        have hx := HI.out.ex
        have hmn := HI.out.mn
        have hrt := HI.out.rt
        obtain ⟨A, c, rfl⟩ := hrt.form
        have c0 : wo.cell? ⟨Bq, 0, none⟩ = some (.slice A (fewU F n n).length c) := hmn.cell 0
        have c1 : wo.cell? ⟨Bq, 1, none⟩ = some (.slice none 0 0) := hmn.cell 1
        have c2 : wo.cell? ⟨Bq, 2, none⟩ = some (.int .i64 0) := hmn.cell 2
        have e2 : wo.cell? ⟨w.heap.size + 1, 0, none⟩ = some (.slice none 0 0) := hrs.cell 0
        have e3 : wo.cell? ⟨w.heap.size + 1, 1, none⟩ = some (.slice none 0 0) := hrs.cell 1
        have e4 : wo.cell? ⟨w.heap.size + 1, 2, none⟩ = some (.int .i64 0) := hrs.cell 2
        have f2 := hrs.frozen 0
        have f3 := hrs.frozen 1
        have f4 := hrs.frozen 2
        have HR := Lib.hid hrt
        by_cases h24 : 24 < (fewU F n n).length
        · have hF2 : fewX S = ⟨[], []⟩ ∧ fewE S = 2 := by rw [HF.out.1, HF.out.2, HT.out, if_pos h24, if_pos h24]; exact ⟨rfl, rfl⟩
          have HF2 := Lib.hid hF2
          clear hF2
          go_wp2_with fail
          exact rfew_ret rfl HF2.out.2.symm (((hrs.set 0 (.slice none 0 0)).set 1 (.slice none 0 0)).set 2 (.int .i64 2)) (by rw [HF2.out.1]; exact ⟨turnsAt_nil _, spansAt_nil _⟩) (((hx.setCell (by simp) _).setCell (by simp) _).setCell (by simp) _)
        · have hF2 : fewX S = ⟨fewU F n n, []⟩ ∧ fewE S = 0 := by rw [HF.out.1, HF.out.2, HT.out, if_neg h24, if_neg h24]; exact ⟨rfl, rfl⟩
          have HF2 := Lib.hid hF2
          clear hF2
          go_wp2_with fail
          refine rfew_ret rfl HF2.out.2.symm (((hrs.set 0 (.slice A (fewU F n n).length c)).set 1 (.slice none 0 0)).set 2 (.int .i64 0)) ?_ (((hx.setCell (by simp) _).setCell (by simp) _).setCell (by simp) _)
          rw [HF2.out.1]
          exact ⟨RowT.at_ (n₀ := base) (ownsRow_setCell_below (ownsRow_setCell_below (ownsRow_setCell_below HR.out (a := ⟨w.heap.size + 1, 0, none⟩) (by simp; omega) _) (a := ⟨w.heap.size + 1, 1, none⟩) (by simp; omega) _) (a := ⟨w.heap.size + 1, 2, none⟩) (by simp; omega) _), spansAt_nil _⟩
  · have hE : fewE S = whlE S ∧ fewX S = ⟨[], []⟩ := by unfold fewE fewX; rw [if_neg hW, if_neg hW]; exact ⟨rfl, rfl⟩
    have HE := Lib.hid hE
    have hWb : (whlE S != 0) = true := by simpa using hW
    clear hE
    go_enter Tryd.func45, Tryd.ntmps45
    go_wp2_with fail
    refine (RefPeriod_any _ _ S _ (hS.ext (by repeat (first | exact Ext.refl _ | assumption | refine Ext.alloc ?_ _ | refine Ext.drew ?_ | refine Ext.drewN _ ?_ | refine Ext.trans ?_ (by assumption))))).mono ?_
    unfold FoundPost
    rintro e w1 ⟨rfl, hx1⟩
    obtain ⟨q0, q1, hx, hzz⟩ := alloc2 hx1
    clear hx1 hW
    obtain ⟨W2, hW2⟩ : ∃ W2, w1.alloc (.cells #[.int .i64 (perX S), .int .i64 (whlE S)] 68) = W2 := ⟨_, rfl⟩
    have hx2 : Ext w1 W2 := by rw [← hW2]; exact (by repeat (first | exact Ext.refl _ | assumption | refine Ext.alloc ?_ _ | refine Ext.drew ?_ | refine Ext.drewN _ ?_ | refine Ext.trans ?_ (by assumption)))
    have q2 := q1.ext hx2
    have d2 : W2.cell? ⟨w.heap.size + 1, 0, none⟩ = some (.slice none 0 0) := q2.cell 0
    have d3 : W2.cell? ⟨w.heap.size + 1, 1, none⟩ = some (.slice none 0 0) := q2.cell 1
    have d4 : W2.cell? ⟨w.heap.size + 1, 2, none⟩ = some (.int .i64 0) := q2.cell 2
    have f2 := q2.frozen 0
    have f3 := q2.frozen 1
    have f4 := q2.frozen 2
    have e0 : W2.cell? ⟨w1.heap.size, 0, none⟩ = some (.int .i64 (perX S)) := by rw [← hW2]; exact cell_at_new _ _ _ _ _ _ rfl rfl
    have e1 : W2.cell? ⟨w1.heap.size, 1, none⟩ = some (.int .i64 (whlE S)) := by rw [← hW2]; exact cell_at_new _ _ _ _ _ _ rfl rfl
    go_wp2_with fail
    exact rfew_ret rfl HE.out.1.symm (((q2.set 0 (.slice none 0 0)).set 1 (.slice none 0 0)).set 2 (.int .i64 (whlE S))) (by rw [HE.out.2]; exact ⟨turnsAt_nil _, spansAt_nil _⟩) ((((hx.trans hx2).setCell (by simp) _).setCell (by simp) _).setCell (by simp) _)
end Go.Proofs.YtejmmfjabmmihaaDoor
