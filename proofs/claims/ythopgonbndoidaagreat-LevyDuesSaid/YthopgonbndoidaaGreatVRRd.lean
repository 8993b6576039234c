/- rounded, Pence, Most and Least of the specification. -/
import Derived.Test.YthopgonbndoidaaGreatVREn
import Derived.Test.YthopgonbndoidaaGreatVRSh
namespace Go.Proofs.YthopgonbndoidaaGreat
open Go.RowKit Go.Shelf Go.Lib

theorem up_eq (x : Int) (_h : 0 ≤ x) : (x + 5354228880 - 1) / 5354228880 = upX x := by unfold upX; omega
set_option maxRecDepth 100000 in
set_option maxHeartbeats 16000000 in
theorem refRounded_any (a b : Value) (T : Tr) (hok : Ok T) (w : World) (hT : TrAt w a b T) :
    Calls Tryz.prog 46 #[.agg #[a, b]] w fun e w' => ∃ u, e = .returned u ∧ RowI w.heap.size u (pnX T) w' ∧ Ext w w' := by
  obtain ⟨X, hX⟩ : ∃ X, pnX T = X := ⟨_, rfl⟩
  have HX := Lib.hid hX
  rw [hX]
  clear hX
  have hlp := hok.lp
  have KS := fun k hk W (h : Ext w W) => refShare_any a b T hok k hk W (hT.ext h)
  obtain ⟨ab, cb, rfl, hlb⟩ := hT.p.len
  have HKS := Lib.hid KS
  clear KS
  go_enter Tryz.func46, Tryz.ntmps46
  go_upto_region 1 with fail
  obtain ⟨w1, hw1⟩ : ∃ W1, w.alloc (.cells #[a, .slice ab T.ps.length cb] 25) = W1 := ⟨_, rfl⟩
  have hx : Ext w w1 := by rw [← hw1]; exact (by repeat (first | exact Ext.refl _ | assumption | refine Ext.alloc ?_ _ | refine Ext.drew ?_ | refine Ext.drewN _ ?_ | refine Ext.trans ?_ (by assumption)))
  have q0 : Cls w.heap.size 25 #[a, .slice ab T.ps.length cb] w1 := by rw [← hw1]; exact Cls.new _ _ _
  try rw [hw1]
  clear hw1
  have h00 : TwoR w w1.heap.size w1 #[a, .slice ab T.ps.length cb] (.slice none 0 0) (.slice none 0 0) [] [] := ⟨q0, rowI_nil _ _, rowI_nil _ _, fun g h => by simp [Value.ownBlock] at h, hx, q0.lt, Nat.le_refl _⟩
  have H00 := Lib.hid h00
  clear h00 q0
  go_wp2_with fail
  go_loopw [3, 4, 5] (fun vl vh i wr => ∃ k : Nat, k ≤ T.ps.length ∧ i = .int .i64 k ∧ Hid (TwoR w w1.heap.size wr #[a, .slice ab T.ps.length cb] vl vh (loL T (T.ps.take k)) (hiL T (T.ps.take k)))) (fun _ _ i _ => T.ps.length - (intOf i).toNat)
  case atStart => exact ⟨0, Nat.zero_le _, rfl, H00⟩
  case round =>
    obtain ⟨k, hk, rfl, HR⟩ := hrel
    have hR0 := HR.out
    have d0 : wr.cell? ⟨w.heap.size, 0, none⟩ = some a := hR0.bx.cell 0
    have d1 : wr.cell? ⟨w.heap.size, 1, none⟩ = some (.slice ab T.ps.length cb) := hR0.bx.cell 1
    by_cases hlt : k < T.ps.length
    · have hmem : T.ps[k] ∈ T.ps := List.getElem_mem hlt
      have hbd := shX_bd hok hmem
      have KS := fun W (h : Ext w W) => HKS.out k hlt W h
      obtain ⟨x, hxx⟩ : ∃ x, shX T T.ps[k] = x := ⟨_, rfl⟩
      have hs1 : loL T (T.ps.take (k + 1)) = loL T (T.ps.take k) ++ [dnX x] := by rw [take_succ_get T.ps k hlt, loL_snoc, hxx]
      have hs2 : hiL T (T.ps.take (k + 1)) = hiL T (T.ps.take k) ++ [upX x] := by rw [take_succ_get T.ps k hlt, hiL_snoc, hxx]
      rw [hxx] at hbd KS
      have hub := upX_bd hbd.1 hbd.2
      have hq1 : x.tdiv 5354228880 = dnX x := by rw [Int.tdiv_eq_ediv_of_nonneg hbd.1]; rfl
      have hq2 : (x + 5354228880 - 1).tdiv 5354228880 = upX x := by rw [Int.tdiv_eq_ediv_of_nonneg (by omega), up_eq x hbd.1]
      have hwa : IntKind.i64.wrap (x + 5354228880) = x + 5354228880 := IntWalk.i64_in _ (by omega)
      have hwb : IntKind.i64.wrap (x + 5354228880 - 1) = x + 5354228880 - 1 := IntWalk.i64_in _ (by omega)
      obtain ⟨q, hqq⟩ : ∃ q, dnX x = q := ⟨_, rfl⟩
      obtain ⟨r, hrr⟩ : ∃ q, upX x = q := ⟨_, rfl⟩
      rw [hqq] at hs1 hub hq1
      rw [hrr] at hs2 hub hq2
      have hwq : IntKind.i64.wrap q = q := IntWalk.i64_in _ (by omega)
      have hwr : IntKind.i64.wrap r = r := IntWalk.i64_in _ (by omega)
      obtain ⟨lo, hlo⟩ : ∃ l, loL T (T.ps.take k) = l := ⟨_, rfl⟩
      obtain ⟨hi, hhi⟩ : ∃ l, hiL T (T.ps.take k) = l := ⟨_, rfl⟩
      have hl1 : lo.length = k := by rw [← hlo]; simp [loL]; omega
      have hl2 : hi.length = k := by rw [← hhi]; simp [hiL]; omega
      rw [hlo] at hs1 hR0
      rw [hhi] at hs2 hR0
      have HS1 := Lib.hid hs1
      have HS2 := Lib.hid hs2
      obtain ⟨al, cl, rfl⟩ := hR0.rl.form
      obtain ⟨ah, ch, rfl⟩ := hR0.rh.form
      have hki : (k : Int) < (T.ps.length : Int) := by omega
      rw [hl1, hl2] at hR0 ⊢
      clear hs1 hs2 hlo hhi hqq hrr hxx hbd hub HR hmem
      go_wp2_with fail
      refine (KS _ hR0.ex).mono ?_
      rintro e w6 ⟨rfl, hz⟩
      have hRY := hR0.ext hz
      have hrl := hRY.rl.lt
      have hrh := hRY.rh.lt
      have hnb := hRY.nb
      clear KS hz hR0 d0 d1
      go_wp2_with (first | (at_builtin; refine append_ints rfl _ _ rfl w1.heap.size _ _ lo [q] rfl (rowI_ext hRY.rl (by repeat (first | exact Ext.refl _ | assumption | refine Ext.alloc ?_ _ | refine Ext.drew ?_ | refine Ext.drewN _ ?_ | refine Ext.trans ?_ (by assumption)))) rfl (ints_oneAt _ _ _ (by omega)) (by simp; omega) (by simp; omega) ?_; intro v1 w3 hr3 hg3 ha3; have hR3 := hRY.addL hr3 hg3 ha3) | (at_builtin; refine append_ints rfl _ _ rfl w1.heap.size _ _ hi [r] rfl (rowI_ext hR3.rh (by repeat (first | exact Ext.refl _ | assumption | refine Ext.alloc ?_ _ | refine Ext.drew ?_ | refine Ext.drewN _ ?_ | refine Ext.trans ?_ (by assumption)))) rfl (ints_one _ _ _) (Nat.le_trans hR3.nb.2 (by simp)) (by simp; omega) ?_; intro v2 w4 hr4 hg4 ha4; have hR4 := hR3.addH hr4 hg4 ha4))
      go_roundw
      case rel => exact ⟨k + 1, by omega, by go_num, Lib.hid (by rw [HS1.out, HS2.out]; exact hR4)⟩
      case measure => simp [intOf]; omega
    · obtain rfl : k = T.ps.length := by omega
      have hR := HR.out
      rw [List.take_length] at hR
      have hP0 := pnV_at hok 0 (by omega)
      have hl1 : (loL T T.ps).length = T.ps.length := hP0.l1
      have hl2 : (hiL T T.ps).length = T.ps.length := hP0.l2
      have e0 : pnF T 0 = (loL T T.ps, hiL T T.ps) := rfl
      obtain ⟨al, cl, rfl⟩ := hR.rl.form
      obtain ⟨ah, ch, rfl⟩ := hR.rh.form
      rw [hl1, hl2] at hR ⊢
      have HR2 := Lib.hid hR
      clear hP0 hl1 hl2 HR hR H00 hR0
      go_upto_region 10 with fail
      clear d0 d1
      go_loopw [7] (fun i W => ∃ k : Nat, k ≤ T.ps.length ∧ i = .int .i64 k ∧ Hid (TwoR w w1.heap.size W #[a, .slice ab T.ps.length cb] (.slice al T.ps.length cl) (.slice ah T.ps.length ch) (pnF T k).1 (pnF T k).2)) (fun i _ => T.ps.length - (intOf i).toNat)
      case atStart => exact ⟨0, Nat.zero_le _, rfl, HR2⟩
      case round =>
        clear HR2
        obtain ⟨k, hk, rfl, HR⟩ := hrel
        have hR := HR.out
        have hP := pnV_at hok k hk
        by_cases hlt : k < T.ps.length
        · have hst := pnF_succ T k
          obtain ⟨s, hs⟩ : ∃ s, pnF T k = s := ⟨_, rfl⟩
          rw [hs] at hst hR hP
          obtain ⟨lo, hi⟩ := s
          dsimp only at hR
          have hl1 : lo.length = T.ps.length := hP.l1
          have hl2 : hi.length = T.ps.length := hP.l2
          obtain ⟨g, rfl, hg0, hg1, hgc⟩ := hR.rl.opened hl1 (by omega)
          obtain ⟨f, rfl, hf0, hf1, hfc⟩ := hR.rh.opened hl2 (by omega)
          have hfg : f ≠ g := fun e => hR.ne g rfl (by rw [e]; rfl)
          have c1 := hR.rl.cell hl1 (k := k) (by omega)
          have c2 := hR.rh.cell hl2 (k := k) (by omega)
          have f1 := hR.rl.frozen hl1 k
          have hx1 : lo.getD k 0 = lo[k] := by simp [List.getD_eq_getElem?_getD, show k < lo.length by omega]
          have hy1 : hi.getD k 0 = hi[k] := by simp [List.getD_eq_getElem?_getD, show k < hi.length by omega]
          have hxm : lo[k] ∈ lo := List.getElem_mem _
          have hym : hi[k] ∈ hi := List.getElem_mem _
          have hself : (lo.set k hi[k]).set k lo[k] = lo := by rw [List.set_set, List.set_getElem_self]
          obtain ⟨x, hx⟩ : ∃ x, lo[k] = x := ⟨_, rfl⟩
          obtain ⟨y, hy⟩ : ∃ x, hi[k] = x := ⟨_, rfl⟩
          rw [hx] at c1 hx1 hxm hself
          rw [hy] at c2 hy1 hym hself
          have hst2 : pnF T (k + 1) = if enB T (lo.set k y) hi = true then (lo.set k y, hi) else (lo, hi.set k x) := by rw [hst, ← btw_en hok hl2]; unfold pnS; dsimp only; rw [hx1, hy1]
          have hR1 := hR.setL' (i := k) hl1 y
          have hbm : ∀ z ∈ lo.set k y, 0 ≤ z ∧ z ≤ 1073741824 := fun z hz => by
            rcases mem_set_of hz with rfl | hz
            · exact hP.b2 _ hym
            · exact hP.b1 _ hz
          have K := refEnough_any a (.slice ab T.ps.length cb) _ _ T hok (lo.set k y) hi _ (hT.ext hR1.ex) hR1.rl.at_ hR1.rh.at_ (by rw [List.length_set]; exact hl1) hl2 hbm hP.b2
          obtain ⟨bt, hbt⟩ : ∃ b, enB T (lo.set k y) hi = b := ⟨_, rfl⟩
          rw [hbt] at K hst2
          obtain ⟨W1, hW1⟩ : ∃ W1, wr.setCell ⟨g, k, none⟩ (.int .i64 y) = W1 := ⟨_, rfl⟩
          rw [hW1] at hR1 K
          have d0 : W1.cell? ⟨w.heap.size, 0, none⟩ = some a := hR1.bx.cell 0
          have d1 : W1.cell? ⟨w.heap.size, 1, none⟩ = some (.slice ab T.ps.length cb) := hR1.bx.cell 1
          have HST := Lib.hid hst2
          have HSF := Lib.hid hself
          have hki : (k : Int) < (T.ps.length : Int) := by omega
          clear hst2 hself hbt hx hy hx1 hy1 hxm hym hbm hst hs hP HR
          cases bt
          · have hs3 := HST.out
            rw [if_neg (by decide)] at hs3
            have HS3 := Lib.hid hs3
            clear hs3
            go_wp2_with fail
            refine K.mono ?_
            rintro e w2 ⟨rfl, hz⟩
            have hR2 := hR1.ext hz
            have hR3 := hR2.setL' (i := k) (by rw [List.length_set]; exact hl1) x
            obtain ⟨W3, hW3⟩ : ∃ W3, w2.setCell ⟨g, k, none⟩ (.int .i64 x) = W3 := ⟨_, rfl⟩
            rw [HSF.out, hW3] at hR3
            have hR4 := hR3.setH' (i := k) hl2 x
            have f2 := hR2.rl.frozen (by rw [List.length_set]; exact hl1) k
            have f3 := hR3.rh.frozen hl2 k
            have c3 := hR2.rl.cell (by rw [List.length_set]; exact hl1) (k := k) (by rw [List.length_set]; omega)
            have c4 := hR3.rh.cell hl2 (k := k) (by omega)
            clear d0 d1 c1 c2 hR hR1 hR2 hR3 hW1
            go_wp2_with fail
            go_roundw
            case rel => exact ⟨k + 1, by omega, by go_num, Lib.hid (by rw [HS3.out]; exact hR4)⟩
            case measure => simp [intOf]; omega
          · have hs3 := HST.out
            rw [if_pos rfl] at hs3
            have HS3 := Lib.hid hs3
            clear hs3
            go_wp2_with fail
            refine K.mono ?_
            rintro e w2 ⟨rfl, hz⟩
            have hR2 := hR1.ext hz
            clear d0 d1 c1 c2 hR hR1 hW1
            go_wp2_with fail
            go_roundw
            case rel => exact ⟨k + 1, by omega, by go_num, Lib.hid (by rw [HS3.out]; exact hR2)⟩
            case measure => simp [intOf]; omega
        · obtain rfl : k = T.ps.length := by omega
          have hxx : (pnF T T.ps.length).1 = X := HX.out
          rw [hxx] at hR
          have hR9 := rowI_base (n₁ := w.heap.size) hR.rl (by have := hR.nb; omega)
          have hex := hR.ex
          clear hP hR HR hxx
          go_wp2_with fail
          go_ret
          exact ⟨_, rfl, hR9, hex⟩
end Go.Proofs.YthopgonbndoidaaGreat
