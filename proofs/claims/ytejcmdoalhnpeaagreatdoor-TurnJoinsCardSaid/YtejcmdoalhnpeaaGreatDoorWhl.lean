/- wheel, slices.Equal, period and Period of the program. -/
import Derived.Test.YtejcmdoalhnpeaaGreatDoorWheel
namespace Go.Proofs.YtejcmdoalhnpeaaGreatDoor
open Go.RowKit Go.Shelf

theorem infoBool : (Tryz.prog.info? 4).map (fun i => (i.zero, i.size, i.bytes)) = some (some (.bool false), 1, 1) := by kernel_rfl
theorem made_bools (n : Nat) : madeCells (Value.bool false).cells (n * 1) = bools (fun _ => false) n := by
  apply Array.ext_getElem?
  intro j
  rw [bools_get?]
  simp [madeCells, Value.cells]
  by_cases h : j < n
  · simp [h, Nat.mod_one]
  · simp [h]
theorem run_make_bools {i : TypeInfo} (hi : Tryz.prog.info? 4 = some i) (hz : i.zero = some (.bool false)) (h1 : i.size = 1) (h2 : i.bytes = 1) (c : Int) (h0 : 0 ≤ c) (h3 : c ≤ 1000000) (w : World) :
    (Instr.makeSlice 89 (.int .i64 c) (.int .i64 c)).run Tryz.prog w = .ok (.slice (some ⟨w.heap.size, 0, none⟩) c.toNat c.toNat) (w.alloc (.cells (bools (fun _ => false) c.toNat) 4)) := by
  rw [run_make w 89 4 i (.bool false) (by kernel_rfl) hi hz .i64 .i64 c c h0 (Int.le_refl _) (by rw [h2]; omega) (by omega), h1, made_bools]
/-- what wheel leaves -/
def WhlPost (S : Mn) (w : World) (e : Ending) (w' : World) : Prop :=
  if whlE S = 0 then ∃ B, e = .returned (.tuple #[.slice (some ⟨B, 0, none⟩) (allL S.ts).toNat (allL S.ts).toNat, .int .i64 0]) ∧ w.heap.size ≤ B ∧ Cls B 4 (bools (whlF S) (allL S.ts).toNat) w' ∧ Ext w w'
  else e = .returned (.tuple #[.slice none 0 0, .int .i64 (whlE S)]) ∧ Ext w w'
theorem whlPost_no {S : Mn} {w w' : World} {e : Ending} {E : Int} (h : whlE S = E) (h0 : E ≠ 0) (he : e = .returned (.tuple #[.slice none 0 0, .int .i64 E])) (hx : Ext w w') : WhlPost S w e w' := by
  unfold WhlPost
  rw [if_neg (by omega), h]
  exact ⟨he, hx⟩

set_option maxRecDepth 100000 in
set_option maxHeartbeats 4000000 in
theorem wheel_any (a b : Value) (S : Mn) (w : World) (hS : MinsAt w a b S) :
    Calls Tryz.prog 54 #[.agg #[a, b]] w (WhlPost S w) := by
  obtain ⟨aa, ca, rfl⟩ := hS.t.len
  obtain ⟨ab, cb, rfl⟩ := hS.s.len
  cases hE : (chkE S != 0)
  · have h0 : chkE S = 0 := by simpa using hE
    have hok : Ok S := by
      refine (@ask_ok S 0 ?_).1
      unfold askE
      rw [if_neg (by omega), if_pos (by decide)]
    have H0 := Lib.hid h0
    clear h0
    have hl1 := hok.lt
    have hl2 := hok.ls
    have hpos : ∀ t ∈ S.ts, 1 ≤ t.p := fun t ht => (tnB_t (hok.t t ht)).1
    have HPOS := Lib.hid hpos
    clear hpos
    go_enter Tryz.func54, Tryz.ntmps54
    go_wp2_with fail
    refine (Check_any _ _ S _ (hS.ext (by repeat (first | exact Ext.refl _ | assumption | refine Ext.alloc ?_ _ | refine Ext.drew ?_ | refine Ext.drewN _ ?_ | refine Ext.trans ?_ (by assumption))))).mono ?_
    rintro e w1 ⟨rfl, hx1⟩
    rw [H0.out]
    obtain ⟨q0, hx2, hzz⟩ := alloc1 hx1
    have g0 : w1.cell? ⟨w.heap.size, 0, none⟩ = some (.slice aa S.ts.length ca) := q0.cell 0
    have g1 : w1.cell? ⟨w.heap.size, 1, none⟩ = some (.slice ab S.ss.length cb) := q0.cell 1
    clear hx1
    by_cases hs0 : 0 < S.ss.length
    · go_wp2_with fail
      go_ret2
      exact whlPost_no (E := 1) (by unfold whlE; rw [if_neg (by rw [H0.out]; decide), if_pos (.inl hs0)]) (by omega) rfl (by repeat (first | exact Ext.refl _ | assumption | refine Ext.alloc ?_ _ | refine Ext.drew ?_ | refine Ext.drewN _ ?_ | refine Ext.trans ?_ (by assumption)))
    · cases ht0 : ((S.ts.length : Int) == 0)
      · have ht1 : 0 < S.ts.length := by have := beq_eq_false_iff_ne.1 ht0; omega
        go_wp2_with fail
        go_loopw [5, 31] (fun al i wr => ∃ j : Nat, j ≤ S.ts.length ∧ i = .int .i64 j ∧ (∃ L : Int, al = .int .i64 L ∧ 1 ≤ L ∧ L ≤ 40320 ∧ Hid (allL (S.ts.take j) = L)) ∧ Ext w1 wr) (fun _ i _ => S.ts.length - (intOf i).toNat)
        case atStart => exact ⟨0, by omega, rfl, ⟨1, rfl, by omega, by omega, Lib.hid rfl⟩, Ext.refl _⟩
        case round =>
          obtain ⟨j, hj, rfl, ⟨L, rfl, hL1, hL2, HL⟩, hx⟩ := hrel
          by_cases hlt : j < S.ts.length
          · obtain ⟨bb, oo, rfl, c0, c1, c2⟩ := ((hS.t.ext hx2).ext hx).get j hlt
            have hv := tnB_t (hok.t _ (List.getElem_mem hlt))
            have hg1 := gcdI_pos (q := S.ts[j].p) hL1
            have hg2 := (gcdI_le hL1 hv.1).1
            have hz : (gcdI L S.ts[j].p == 0) = false := by rw [beq_eq_false_iff_ne]; omega
            have he : (L.tdiv (gcdI L S.ts[j].p)) * S.ts[j].p = lcmI L S.ts[j].p := by rw [Int.tdiv_eq_ediv_of_nonneg (by omega)]; rfl
            have HE := Lib.hid he
            have hd1 : 0 ≤ L.tdiv (gcdI L S.ts[j].p) := Int.tdiv_nonneg (by omega) (by omega)
            have hd2 : L.tdiv (gcdI L S.ts[j].p) ≤ L := by
              rw [Int.tdiv_eq_ediv_of_nonneg (by omega)]
              exact Int.ediv_le_self _ (by omega)
            clear he
            have hlc := lcmI_le hL1 hL2 hv.1 hv.2.1
            have hsn := allL_snoc (S.ts.take j) S.ts[j]
            rw [← take_succ_get S.ts j hlt, HL.out] at hsn
            have HSN := Lib.hid hsn
            clear hsn
            go_wp2_with fail
            go_quiet ((go_at_call 50; exact Calls.quiet_of (divisorQ_any _ _ _ (by omega) (by omega) (by omega) (by omega))))
            have hw : wrap64 (L.tdiv (gcdI L S.ts[j].p) * S.ts[j].p) = lcmI L S.ts[j].p := by rw [HE.out]; exact IntWalk.wrap64_in _ (by omega)
            rw [hw]
            clear hw HE hd1 hd2 hz hg1 hg2
            obtain ⟨M, hM⟩ : ∃ M, lcmI L S.ts[j].p = M := ⟨_, rfl⟩
            rw [hM] at hlc ⊢
            have HM := Lib.hid hM
            clear hM
            by_cases hbig : 40320 < M
            · go_wp2_with fail
              go_ret2
              refine whlPost_no (E := 2) ?_ (by omega) rfl (by repeat (first | exact Ext.refl _ | assumption | refine Ext.alloc ?_ _ | refine Ext.drew ?_ | refine Ext.drewN _ ?_ | refine Ext.trans ?_ (by assumption)))
              unfold whlE
              rw [if_neg (by rw [H0.out]; decide), if_neg (by omega), if_pos]
              have h1 := allL_take HPOS.out (j + 1)
              rw [HSN.out, HM.out] at h1
              omega
            · go_wp2_with fail
              go_roundw
              case rel => exact ⟨j + 1, by omega, by go_num, ⟨M, rfl, by omega, by omega, Lib.hid (by rw [HSN.out, HM.out])⟩, (by repeat (first | exact Ext.refl _ | assumption | refine Ext.alloc ?_ _ | refine Ext.drew ?_ | refine Ext.drewN _ ?_ | refine Ext.trans ?_ (by assumption)))⟩
              case measure => simp [intOf]; omega
          · obtain rfl : j = S.ts.length := by omega
            rw [List.take_length] at HL
            obtain ⟨N, rfl⟩ : ∃ N : Nat, L = N := ⟨L.toNat, by omega⟩
            obtain ⟨i0, hi0, hz0, hz1, hz2⟩ := info_parts infoBool
            have hmk := run_make_bools hi0 hz0 hz1 hz2 N (by omega) (by omega)
            simp only [Int.toNat_natCast] at hmk
            have hx9 := hx2.trans hx
            have d0 : (wr.alloc (.cells (bools (fun _ => false) N) 4)).cell? ⟨w.heap.size, 0, none⟩ = some (.slice aa S.ts.length ca) := Ext.cell (by repeat (first | exact Ext.refl _ | assumption | refine Ext.alloc ?_ _ | refine Ext.drew ?_ | refine Ext.drewN _ ?_ | refine Ext.trans ?_ (by assumption))) (hx.cell g0)
            have hB0 : w.heap.size ≤ wr.heap.size := hx9.size
            go_wp2_with fail
            obtain ⟨W0, hW0⟩ : ∃ W0, wr.alloc (.cells (bools (fun _ => false) N) 4) = W0 := ⟨_, rfl⟩
            have hx10 : Ext w W0 := by rw [← hW0]; exact (by repeat (first | exact Ext.refl _ | assumption | refine Ext.alloc ?_ _ | refine Ext.drew ?_ | refine Ext.drewN _ ?_ | refine Ext.trans ?_ (by assumption)))
            have hc0 : Cls wr.heap.size 4 (bools (fun i => (S.ts.take 0).any (fun t => tnIn t.p t.f t.l i)) N) W0 := by rw [← hW0]; exact Cls.new _ _ _
            rw [hW0]
            clear hW0 hmk d0 hx9 g0 g1 q0 hx hx2
            obtain ⟨B, hB⟩ : ∃ B, wr.heap.size = B := ⟨_, rfl⟩
            rw [hB] at hc0 hB0 ⊢
            clear hB
            have hNz : (((N : Int)) == 0) = false := by rw [beq_eq_false_iff_ne]; omega
            go_loopw [52] (fun i wr2 => ∃ j : Nat, j ≤ S.ts.length ∧ i = .int .i64 j ∧ Hid (Cls B 4 (bools (fun i => (S.ts.take j).any (fun t => tnIn t.p t.f t.l i)) N) wr2) ∧ Ext w wr2) (fun i _ => S.ts.length - (intOf i).toNat)
            case atStart => exact ⟨0, by omega, rfl, Lib.hid hc0, hx10⟩
            case round =>
              obtain ⟨j, hj, rfl, HC, hx⟩ := hrel
              by_cases hlt : j < S.ts.length
              · obtain ⟨bb, oo, rfl, c0, c1, c2⟩ := (hS.t.ext hx).get j hlt
                have hv := tnB_t (hok.t _ (List.getElem_mem hlt))
                obtain ⟨t, hte⟩ : ∃ t, S.ts[j] = t := ⟨_, rfl⟩
                have hvt := hok.t _ (List.getElem_mem hlt)
                have hdv := allL_dvd HPOS.out S.ts[j] (List.getElem_mem hlt)
                have hsnoc := take_succ_get S.ts j hlt
                rw [hte] at c0 c1 c2 hv hvt hdv hsnoc
                rw [HL.out] at hdv
                have HVT := Lib.hid hvt
                have HSN := Lib.hid hsnoc
                clear hte hvt hsnoc
                obtain ⟨tp, tf, tl⟩ := t
                simp only at c0 c1 c2 hv hdv
                obtain ⟨C, hC⟩ : ∃ C : Nat, (N : Int) = tp * C := by
                  obtain ⟨c, hc⟩ := hdv
                  refine ⟨c.toNat, ?_⟩
                  have : 0 ≤ c := by
                    by_cases h : 0 ≤ c
                    · exact h
                    · have := Int.mul_neg_of_pos_of_neg (show 0 < tp by omega) (show c < 0 by omega)
                      omega
                  rw [Int.toNat_of_nonneg this]; exact hc
                have HCN := Lib.hid hC
                clear hdv hC
                go_wp2_with fail
                obtain ⟨W1, hW1⟩ : ∃ W1, wr.alloc (.cells #[.int .i64 tp, .int .i64 tf, .int .i64 tl] 42) = W1 := ⟨_, rfl⟩
                have hx11 : Ext w W1 := by rw [← hW1]; exact (by repeat (first | exact Ext.refl _ | assumption | refine Ext.alloc ?_ _ | refine Ext.drew ?_ | refine Ext.drewN _ ?_ | refine Ext.trans ?_ (by assumption)))
                have ht0' : Cls wr.heap.size 42 #[.int .i64 tp, .int .i64 tf, .int .i64 tl] W1 := by rw [← hW1]; exact Cls.new _ _ _
                have hc1 : Cls B 4 (bools (fun i => (S.ts.take j).any (fun t => tnIn t.p t.f t.l i) || hitC tp tf tl N 0 i) N) W1 := by
                  rw [← hW1]
                  have := HC.out.ext (W' := wr.alloc (.cells #[.int .i64 tp, .int .i64 tf, .int .i64 tl] 42)) (by repeat (first | exact Ext.refl _ | assumption | refine Ext.alloc ?_ _ | refine Ext.drew ?_ | refine Ext.drewN _ ?_ | refine Ext.trans ?_ (by assumption)))
                  rw [bools_congr (G := fun i => (S.ts.take j).any (fun t => tnIn t.p t.f t.l i)) (fun i _ => by simp [hitC])]
                  exact this
                have hne : B ≠ wr.heap.size := by have := HC.out.lt; omega
                rw [hW1]
                clear hW1
                obtain ⟨T, hT⟩ : ∃ T, wr.heap.size = T := ⟨_, rfl⟩
                have hT2 : w.heap.size ≤ T := by have := hx.size; omega
                rw [hT] at ht0' hne ⊢
                clear hT
                have HT0 := Lib.hid ht0'
                have HC1 := Lib.hid hc1
                clear ht0' hc1 c0 c1 c2
                go_loopw [11] (fun fr wr3 => ∃ (c : Nat) (X : Int), Hid (X = c * tp) ∧ fr = .int .i64 (tf + X) ∧ 0 ≤ X ∧ X ≤ N ∧ Hid (Cls B 4 (bools (fun i => (S.ts.take j).any (fun t => tnIn t.p t.f t.l i) || hitC tp tf tl N c i) N) wr3) ∧ Hid (Cls T 42 #[.int .i64 tp, .int .i64 tf, .int .i64 tl] wr3) ∧ Ext w wr3) (fun fr _ => (N + tf - intOf fr).toNat)
                case atStart => exact ⟨0, 0, Lib.hid (by simp), by simp, by omega, by omega, HC1, HT0, hx11⟩
                case round =>
                  obtain ⟨c, X, HX, rfl, hX0, hXN, HC3, HT3, hx3⟩ := hrel
                  have d0 : wr.cell? ⟨T, 0, none⟩ = some (.int .i64 tp) := HT3.out.cell 0
                  have d1 : wr.cell? ⟨T, 1, none⟩ = some (.int .i64 tf) := HT3.out.cell 1
                  have d2 : wr.cell? ⟨T, 2, none⟩ = some (.int .i64 tl) := HT3.out.cell 2
                  by_cases hlt3 : X < N
                  · have hCl : ((c : Int) + 1) * tp ≤ N := by
                      have h1 := HX.out; have h2 := HCN.out
                      have h3 : (c : Int) < C := by
                        by_cases h : (c : Int) < C
                        · exact h
                        · have := Int.mul_le_mul_of_nonneg_left (show (C : Int) ≤ c by omega) (show 0 ≤ tp by omega)
                          rw [Int.mul_comm tp c] at this
                          omega
                      have := Int.mul_le_mul_of_nonneg_left (show (c : Int) + 1 ≤ C by omega) (show 0 ≤ tp by omega)
                      rw [Int.mul_comm tp (c + 1)] at this
                      omega
                    have hCl2 : X + tp ≤ N := by rw [Int.add_mul, Int.one_mul, ← HX.out] at hCl; exact hCl
                    clear hCl
                    go_wp2_with fail
                    obtain ⟨W4, rfl⟩ : ∃ W4 : World, W4 = wr := ⟨_, rfl⟩
                    go_loopw [70] (fun i wr4 => ∃ k : Nat, (k : Int) ≤ tl ∧ i = .int .i64 k ∧ Hid (Cls B 4 (bools (fun i => (S.ts.take j).any (fun t => tnIn t.p t.f t.l i) || hitC tp tf tl N c i || hitK tf tp N c k i) N) wr4) ∧ Hid (Cls T 42 #[.int .i64 tp, .int .i64 tf, .int .i64 tl] wr4) ∧ Ext w wr4) (fun i _ => (tl - intOf i).toNat)
                    case atStart => exact ⟨0, by omega, rfl, Lib.hid (by have := HC3.out; rw [bools_congr (G := fun i => (S.ts.take j).any (fun t => tnIn t.p t.f t.l i) || hitC tp tf tl N c i) (fun i _ => by simp [hitK])]; exact this), HT3, hx3⟩
                    case round =>
                      obtain ⟨k, hk, rfl, HC4, HT4, hx4⟩ := hrel
                      by_cases hlt4 : (k : Int) < tl
                      · obtain ⟨q, hq⟩ : ∃ q : Nat, (tf + X + k) % (N : Int) = q := ⟨((tf + X + k) % (N : Int)).toNat, by have := Int.emod_nonneg (tf + X + k) (show (N : Int) ≠ 0 by omega); omega⟩
                        have hqN : q < N := by have := Int.emod_lt_of_pos (tf + X + k) (show 0 < (N : Int) by omega); omega
                        have e0 : wr.cell? ⟨B, q, none⟩ = some (.bool ((S.ts.take j).any (fun t => tnIn t.p t.f t.l q) || hitC tp tf tl N c q || hitK tf tp N c k q)) := by rw [HC4.out.cell q, bools_get hqN]
                        have e1 : wr.frozen? ⟨B, q, none⟩ = false := HC4.out.frozen q
                        have hst := HC4.out.set q (.bool true)
                        rw [bools_set, bools_congr (G := fun i => (S.ts.take j).any (fun t => tnIn t.p t.f t.l i) || hitC tp tf tl N c i || hitK tf tp N c (k + 1) i) (fun i _ => by
                          rw [hitK_succ, ← HX.out, hq, ← Bool.or_assoc]
                          congr 1
                          rw [Bool.eq_iff_iff]
                          simp only [beq_iff_eq]
                          omega)] at hst
                        have HST := Lib.hid hst
                        have HTT := Lib.hid (HT4.out.other (B' := B) (Ne.symm hne) q (.bool true))
                        clear hst
                        go_wp2_with fail
                        go_roundw
                        case rel => exact ⟨k + 1, by omega, by go_num, HST, HTT, hx4.setCell (by simpa using hB0) _⟩
                        case measure => simp [intOf]; omega
                      · have hke : k = tl.toNat := by omega
                        have e0 : wr.cell? ⟨T, 0, none⟩ = some (.int .i64 tp) := HT4.out.cell 0
                        have hcl := HC4.out
                        rw [bools_congr (G := fun i => (S.ts.take j).any (fun t => tnIn t.p t.f t.l i) || hitC tp tf tl N (c + 1) i) (fun i _ => by rw [hitC_succ, hke, Bool.or_assoc])] at hcl
                        have HCL := Lib.hid hcl
                        clear hcl hke
                        go_wp2_with fail
                        go_roundw
                        case rel => exact ⟨c + 1, X + tp, Lib.hid (by have := HX.out; rw [this]; simp [Int.add_mul]), by rw [Int.add_assoc], by omega, by omega, HCL, HT4, hx4⟩
                        case measure => simp [intOf]; omega
                  · have hcl := HC3.out
                    have hcC : c = C := by
                      have h1 := HX.out; have h2 := HCN.out
                      have h3 : (tp : Int) * c = tp * C := by rw [Int.mul_comm tp c]; omega
                      have := Int.eq_of_mul_eq_mul_left (by omega) h3
                      omega
                    rw [bools_congr (G := fun i => (S.ts.take (j + 1)).any (fun t => tnIn t.p t.f t.l i)) (fun i hi => by
                      rw [HSN.out, List.any_append, hcC, hit_all HVT.out HCN.out (by
                        have h2 := HCN.out
                        by_cases h : 1 ≤ C
                        · exact h
                        · have h5 : C = 0 := by omega
                          subst h5
                          simp at h2
                          omega) i (by omega)]
                      simp)] at hcl
                    have HCL := Lib.hid hcl
                    clear hcl hcC
                    go_wp2_with fail
                    go_roundw
                    case rel => exact ⟨j + 1, by omega, by go_num, HCL, hx3⟩
                    case measure => simp [intOf]; omega
              · obtain rfl : j = S.ts.length := by omega
                have hcl := HC.out
                rw [List.take_length] at hcl
                have HCL := Lib.hid hcl
                clear hcl
                go_wp2_with fail
                go_ret2
                unfold WhlPost
                have hw0 : whlE S = 0 := by
                  unfold whlE
                  rw [if_neg (by rw [H0.out]; decide), if_neg (by omega), if_neg (by rw [HL.out]; omega)]
                rw [if_pos hw0, HL.out]
                exact ⟨B, rfl, hB0, HCL.out, hx⟩
      · have ht1 : S.ts.length = 0 := by simpa using ht0
        have hw : whlE S = 1 := by unfold whlE; rw [if_neg (by rw [H0.out]; decide), if_pos (.inr ht1)]
        have HW := Lib.hid hw
        clear ht1 hw
        go_wp2_with fail
        go_ret2
        exact whlPost_no (E := 1) HW.out (by omega) rfl (by repeat (first | exact Ext.refl _ | assumption | refine Ext.alloc ?_ _ | refine Ext.drew ?_ | refine Ext.drewN _ ?_ | refine Ext.trans ?_ (by assumption)))
  · have h0 : chkE S ≠ 0 := by simpa using hE
    go_enter Tryz.func54, Tryz.ntmps54
    go_wp2_with fail
    refine (Check_any _ _ S _ (hS.ext (by repeat (first | exact Ext.refl _ | assumption | refine Ext.alloc ?_ _ | refine Ext.drew ?_ | refine Ext.drewN _ ?_ | refine Ext.trans ?_ (by assumption))))).mono ?_
    rintro e w1 ⟨rfl, hx1⟩
    go_wp2_with fail
    go_ret2
    exact whlPost_no (E := chkE S) (by unfold whlE; rw [if_pos h0]) h0 rfl (by repeat (first | exact Ext.refl _ | assumption | refine Ext.alloc ?_ _ | refine Ext.drew ?_ | refine Ext.drewN _ ?_ | refine Ext.trans ?_ (by assumption)))

end Go.Proofs.YtejcmdoalhnpeaaGreatDoor
