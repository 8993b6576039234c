/- inPence and Pence of the program: the walks. -/
import Derived.Test.YthopgonbndoidaaVInP
namespace Go.Proofs.Ythopgonbndoidaa
open Go.RowKit Go.Shelf

set_option maxRecDepth 100000 in
set_option maxHeartbeats 8000000 in
theorem inPence_any (a b : Value) (T : Tr) (hok : Ok T) (w : World) (hT : TrAt w a b T) :
    Calls Try.prog 59 #[.agg #[a, b]] w fun e w' => ∃ u, e = .returned u ∧ RowI w.heap.size u (pnX T) w' ∧ Ext w w' := by
  obtain ⟨X, hX⟩ : ∃ X, pnX T = X := ⟨_, rfl⟩
  have HX := Lib.hid hX
  rw [hX]
  clear hX
  have hlp := hok.lp
  have KS := fun W (h : Ext w W) => shares_any a b T hok W (hT.ext h)
  go_enter Try.func59, Try.ntmps59
  go_wp2_with fail
  refine (KS _ (by repeat (first | exact Ext.refl _ | assumption | refine Ext.alloc ?_ _ | refine Ext.drew ?_ | refine Ext.drewN _ ?_ | refine Ext.trans ?_ (by assumption)))).mono ?_
  rintro e w1 ⟨vs, rfl, hs, hx1⟩
  obtain ⟨q0, hx, hk0⟩ := alloc1 hx1
  obtain ⟨aS, cS, rfl, hcs⟩ := hs.len
  have hsl : (shL T T.ps).length = T.ps.length := by simp [shL]
  have HSL := Lib.hid hsl
  rw [hsl]
  clear hsl hx1 KS
  have h00 : TwoR w w1.heap.size w1 #[a, b] (.slice none 0 0) (.slice none 0 0) [] [] := ⟨q0, rowI_nil _ _, rowI_nil _ _, fun g h => by simp [Value.ownBlock] at h, hx, hk0, Nat.le_refl _⟩
  have H00 := Lib.hid h00
  clear h00 q0 hx
  go_wp2_with fail
  go_loopw [3, 4, 13] (fun vl vh i wr => ∃ k : Nat, k ≤ T.ps.length ∧ i = .int .i64 k ∧ Hid (TwoR w w1.heap.size wr #[a, b] vl vh (loL T (T.ps.take k)) (hiL T (T.ps.take k))) ∧ Ext w1 wr) (fun _ _ i _ => T.ps.length - (intOf i).toNat)
  case atStart => exact ⟨0, Nat.zero_le _, rfl, H00, Ext.refl _⟩
  case round =>
    obtain ⟨k, hk, rfl, HR, hx⟩ := hrel
    by_cases hlt : k < T.ps.length
    · have hlt2 : k < (shL T T.ps).length := by rw [HSL.out]; exact hlt
      have hs' := hs.ext hx
      rw [HSL.out] at hs'
      obtain ⟨bb, oo, rfl, c0, c1⟩ := hs'.get k hlt2
      have hmem : T.ps[k] ∈ T.ps := List.getElem_mem hlt
      have hbd := shX_bd hok hmem
      have hgt : (shL T T.ps)[k] = ratM (shX T T.ps[k]) := by simp [shL]
      obtain ⟨x, hxx⟩ : ∃ x, shX T T.ps[k] = x := ⟨_, rfl⟩
      have hs1 : loL T (T.ps.take (k + 1)) = loL T (T.ps.take k) ++ [dnX x] := by rw [take_succ_get T.ps k hlt, loL_snoc, hxx]
      have hs2 : hiL T (T.ps.take (k + 1)) = hiL T (T.ps.take k) ++ [upX x] := by rw [take_succ_get T.ps k hlt, hiL_snoc, hxx]
      rw [hxx] at hgt hbd
      rw [hgt] at c0 c1
      obtain ⟨n, d, hr, ⟨hd0, hd1⟩, ⟨hn0, hn1⟩, hq, hm, ⟨hm0, hm1⟩, hq0, hq1⟩ := pn_facts x hbd.1 hbd.2
      rw [hr] at c0 c1
      have hu : upX x = dnX x + min 1 (n.tmod d) := by unfold upX dnX; rw [hm]
      obtain ⟨q, hqq⟩ : ∃ q, dnX x = q := ⟨_, rfl⟩
      obtain ⟨m, hmm⟩ : ∃ m, n.tmod d = m := ⟨_, rfl⟩
      rw [hqq] at hq hq0 hq1 hu hs1
      rw [hmm] at hm0 hm1 hu
      obtain ⟨lo, hlo⟩ : ∃ l, loL T (T.ps.take k) = l := ⟨_, rfl⟩
      obtain ⟨hi, hhi⟩ : ∃ l, hiL T (T.ps.take k) = l := ⟨_, rfl⟩
      have hl1 : lo.length = k := by rw [← hlo]; simp [loL]; omega
      have hl2 : hi.length = k := by rw [← hhi]; simp [hiL]; omega
      rw [hlo] at hs1 HR
      rw [hhi] at hs2 HR
      have hwq : IntKind.i64.wrap q = q := IntWalk.i64_in _ (by omega)
      have hwm : IntKind.i64.wrap m = m := IntWalk.i64_in _ (by omega)
      have hd00 : ¬ (d = 0) := by omega
      have hd0b : (d == 0) = false := by rw [beq_eq_false_iff_ne]; omega
      have HU := Lib.hid hu
      have HS1 := Lib.hid hs1
      have HS2 := Lib.hid hs2
      have hR := HR.out
      obtain ⟨al, cl, rfl⟩ := hR.rl.form
      obtain ⟨ah, ch, rfl⟩ := hR.rh.form
      clear hu hs1 hs2 hlo hhi hqq hgt hxx hs' hbd hr hm hd0 hd1 HR
      rw [hl1, hl2] at hR ⊢
      obtain ⟨B, hB⟩ : ∃ B, wr.heap.size = B := ⟨_, rfl⟩
      obtain ⟨Y, hY⟩ : ∃ Y, wr.alloc (.cells #[.int .i64 n, .int .i64 d] 42) = Y := ⟨_, rfl⟩
      have hxY : Ext wr Y := by rw [← hY]; exact (by repeat (first | exact Ext.refl _ | assumption | refine Ext.alloc ?_ _ | refine Ext.drew ?_ | refine Ext.drewN _ ?_ | refine Ext.trans ?_ (by assumption)))
      have hbY : Cls B 42 #[.int .i64 n, .int .i64 d] Y := by rw [← hY]; exact Cls.newAt _ _ _ hB.symm
      have hsY : Y.heap.size = B + 1 := by rw [← hY, World.size_alloc, hB]
      have hRY := hR.ext hxY
      have e0 : Y.cell? ⟨B, 0, none⟩ = some (.int .i64 n) := hbY.cell 0
      have e1 : Y.cell? ⟨B, 1, none⟩ = some (.int .i64 d) := hbY.cell 1
      have hrl := hR.rl.lt
      have hrh := hR.rh.lt
      have hszw := hR.bx.lt
      have hnb := hR.nb
      rw [hB] at hrl hrh hszw hnb
      go_wp2_with (first | (at_builtin; refine append_ints rfl _ _ rfl w1.heap.size _ _ lo [q] rfl (rowI_ext hRY.rl (by repeat (first | exact Ext.refl _ | assumption | refine Ext.alloc ?_ _ | refine Ext.drew ?_ | refine Ext.drewN _ ?_ | refine Ext.trans ?_ (by assumption)))) rfl (ints_oneAt _ _ _ (by omega)) (by simp; omega) (by simp; omega) ?_; intro v1 w3 hr3 hg3 ha3; have hR3 := hRY.addL hr3 hg3 ha3; have hx3 := ext_own (hx.trans hxY) hRY.rl (Nat.le_refl _) (grown_pre hg3); have hb3 := hbY.kept (grown_pre hg3) (fun e => by have := (hrl _ e.symm).2; omega); have g0 : w3.cell? ⟨B, 0, none⟩ = some (.int .i64 n) := hb3.cell 0; have g1 : w3.cell? ⟨B, 1, none⟩ = some (.int .i64 d) := hb3.cell 1) | (at_builtin; refine append_ints rfl _ _ rfl w1.heap.size _ _ hi [q + min 1 m] rfl (rowI_ext hR3.rh (by repeat (first | exact Ext.refl _ | assumption | refine Ext.alloc ?_ _ | refine Ext.drew ?_ | refine Ext.drewN _ ?_ | refine Ext.trans ?_ (by assumption)))) rfl (ints_one _ _ _) (Nat.le_trans hR3.nb.2 (by simp)) (by simp; omega) ?_; intro v2 w4 hr4 hg4 ha4; have hR4 := hR3.addH hr4 hg4 ha4; have hx4 := ext_own hx3 hR3.rh (Nat.le_refl _) (grown_pre hg4)))
      go_roundw
      case rel => exact ⟨k + 1, by omega, by go_num, Lib.hid (by rw [HS1.out, HS2.out, HU.out]; exact hR4), hx4⟩
      case measure => simp [intOf]; omega
    · obtain rfl : k = T.ps.length := by omega
      have hR := HR.out
      rw [List.take_length] at hR
      have hP0 := pnV_at hok 0 (by omega)
      have hl1 : (loL T T.ps).length = T.ps.length := hP0.l1
      have hl2 : (hiL T T.ps).length = T.ps.length := hP0.l2
      have e0 : pnF T 0 = (loL T T.ps, hiL T T.ps) := rfl
      obtain ⟨al, cl, rfl⟩ := hR.rl.form
      obtain ⟨ah, ch, rfl⟩ := hR.rh.form
      rw [hl1, hl2] at hR ⊢
      have HR2 := Lib.hid hR
      clear hP0 hl1 hl2 HR hR H00 HSL hs
      go_wp2_with fail
      go_loopw [40] (fun i W => ∃ k : Nat, k ≤ T.ps.length ∧ i = .int .i64 k ∧ Hid (TwoR w w1.heap.size W #[a, b] (.slice al T.ps.length cl) (.slice ah T.ps.length ch) (pnF T k).1 (pnF T k).2)) (fun i _ => T.ps.length - (intOf i).toNat)
      case atStart => exact ⟨0, Nat.zero_le _, rfl, HR2⟩
      case round =>
        clear HR2
        obtain ⟨k, hk, rfl, HR⟩ := hrel
        have hR := HR.out
        have hP := pnV_at hok k hk
        by_cases hlt : k < T.ps.length
        · have hst := pnF_succ T k
          obtain ⟨s, hs⟩ : ∃ s, pnF T k = s := ⟨_, rfl⟩
          rw [hs] at hst hR hP
          obtain ⟨lo, hi⟩ := s
          dsimp only at hR
          have hl1 : lo.length = T.ps.length := hP.l1
          have hl2 : hi.length = T.ps.length := hP.l2
          obtain ⟨g, rfl, hg0, hg1, hgc⟩ := hR.rl.opened hl1 (by omega)
          obtain ⟨f, rfl, hf0, hf1, hfc⟩ := hR.rh.opened hl2 (by omega)
          have hfg : f ≠ g := fun e => hR.ne g rfl (by rw [e]; rfl)
          have c1 := hR.rl.cell hl1 (k := k) (by omega)
          have c2 := hR.rh.cell hl2 (k := k) (by omega)
          have f1 := hR.rl.frozen hl1 k
          have hx1 : lo.getD k 0 = lo[k] := by simp [List.getD_eq_getElem?_getD, show k < lo.length by omega]
          have hy1 : hi.getD k 0 = hi[k] := by simp [List.getD_eq_getElem?_getD, show k < hi.length by omega]
          have hxm : lo[k] ∈ lo := List.getElem_mem _
          have hym : hi[k] ∈ hi := List.getElem_mem _
          have hself : (lo.set k hi[k]).set k lo[k] = lo := by rw [List.set_set, List.set_getElem_self]
          obtain ⟨x, hx⟩ : ∃ x, lo[k] = x := ⟨_, rfl⟩
          obtain ⟨y, hy⟩ : ∃ x, hi[k] = x := ⟨_, rfl⟩
          rw [hx] at c1 hx1 hxm hself
          rw [hy] at c2 hy1 hym hself
          have hst2 : pnF T (k + 1) = if btwB T (lo.set k y) hi = true then (lo.set k y, hi) else (lo, hi.set k x) := by rw [hst]; unfold pnS; dsimp only; rw [hx1, hy1]
          have hR1 := hR.setL' (i := k) hl1 y
          have hbm : ∀ z ∈ lo.set k y, 0 ≤ z ∧ z ≤ 1073741824 := fun z hz => by
            rcases mem_set_of hz with rfl | hz
            · exact hP.b2 _ hym
            · exact hP.b1 _ hz
          have K := between_any a b _ _ T hok (lo.set k y) hi _ (hT.ext hR1.ex) hR1.rl.at_ hR1.rh.at_ (by rw [List.length_set]; exact hl1) hl2 hbm hP.b2
          obtain ⟨bt, hbt⟩ : ∃ b, btwB T (lo.set k y) hi = b := ⟨_, rfl⟩
          rw [hbt] at K hst2
          obtain ⟨W1, hW1⟩ : ∃ W1, wr.setCell ⟨g, k, none⟩ (.int .i64 y) = W1 := ⟨_, rfl⟩
          rw [hW1] at hR1 K
          have d0 : W1.cell? ⟨w.heap.size, 0, none⟩ = some a := hR1.bx.cell 0
          have d1 : W1.cell? ⟨w.heap.size, 1, none⟩ = some b := hR1.bx.cell 1
          have HST := Lib.hid hst2
          have HSF := Lib.hid hself
          clear hst2 hself hbt hx hy hx1 hy1 hxm hym hbm hst hs hP HR
          cases bt
          · have hs3 := HST.out
            rw [if_neg (by decide)] at hs3
            have HS3 := Lib.hid hs3
            clear hs3
            go_wp2_with fail
            refine K.mono ?_
            rintro e w2 ⟨rfl, hz⟩
            have hR2 := hR1.ext hz
            have hR3 := hR2.setL' (i := k) (by rw [List.length_set]; exact hl1) x
            obtain ⟨W3, hW3⟩ : ∃ W3, w2.setCell ⟨g, k, none⟩ (.int .i64 x) = W3 := ⟨_, rfl⟩
            rw [HSF.out, hW3] at hR3
            have hR4 := hR3.setH' (i := k) hl2 x
            have f2 := hR2.rl.frozen (by rw [List.length_set]; exact hl1) k
            have f3 := hR3.rh.frozen hl2 k
            have c3 := hR2.rl.cell (by rw [List.length_set]; exact hl1) (k := k) (by rw [List.length_set]; omega)
            have c4 := hR3.rh.cell hl2 (k := k) (by omega)
            clear d0 d1 c1 c2 hR hR1 hR2 hR3 hW1
            go_wp2_with fail
            go_roundw
            case rel => exact ⟨k + 1, by omega, by go_num, Lib.hid (by rw [HS3.out]; exact hR4)⟩
            case measure => simp [intOf]; omega
          · have hs3 := HST.out
            rw [if_pos rfl] at hs3
            have HS3 := Lib.hid hs3
            clear hs3
            go_wp2_with fail
            refine K.mono ?_
            rintro e w2 ⟨rfl, hz⟩
            have hR2 := hR1.ext hz
            clear d0 d1 c1 c2 hR hR1 hW1
            go_wp2_with fail
            go_roundw
            case rel => exact ⟨k + 1, by omega, by go_num, Lib.hid (by rw [HS3.out]; exact hR2)⟩
            case measure => simp [intOf]; omega
        · obtain rfl : k = T.ps.length := by omega
          have hxx : (pnF T T.ps.length).1 = X := HX.out
          rw [hxx] at hR
          have hR9 := rowI_base (n₁ := w.heap.size) hR.rl (by have := hR.nb; omega)
          have hex := hR.ex
          clear hP hR HR hxx
          go_wp2_with fail
          go_ret
          exact ⟨_, rfl, hR9, hex⟩

theorem pnX_bd {T : Tr} (hok : Ok T) : (pnX T).length = T.ps.length ∧ ∀ x ∈ pnX T, 0 ≤ x ∧ x ≤ 1073741824 := by
  have h := pnV_at hok T.ps.length (Nat.le_refl _)
  exact ⟨h.l1, h.b1⟩
/-- what Pence returns -/
def penX (T : Tr) : List Int := if chkE T = 0 then pnX T else []
def InsPost (w : World) (l : List Int) (E : Int) (e : Ending) (w' : World) : Prop := ∃ v, e = .returned (.tuple #[v, .int .i64 E]) ∧ IntsAt w' v l ∧ Ext w w'
set_option maxRecDepth 100000 in
set_option maxHeartbeats 4000000 in
theorem Pence_any (a b : Value) (T : Tr) (w : World) (hT : TrAt w a b T) :
    Calls Try.prog 19 #[.agg #[a, b]] w (InsPost w (penX T) (chkE T)) := by
  have hX : penX T = if chkE T = 0 then pnX T else [] := rfl
  have hok := @Ok.of T
  have KP := fun (h : Ok T) W (hx : Ext w W) => inPence_any a b T h W (hT.ext hx)
  obtain ⟨E, hE⟩ : ∃ E, chkE T = E := ⟨_, rfl⟩
  obtain ⟨X, hXX⟩ : ∃ E, penX T = E := ⟨_, rfl⟩
  have HE := Lib.hid hE
  rw [hE] at hok hX ⊢
  rw [hXX] at hX ⊢
  have HX := Lib.hid hX
  clear hE hX hXX
  go_enter Try.func19, Try.ntmps19
  go_wp2_with fail
  refine (Check_any _ _ T _ (hT.ext (by repeat (first | exact Ext.refl _ | assumption | refine Ext.alloc ?_ _ | refine Ext.drew ?_ | refine Ext.drewN _ ?_ | refine Ext.trans ?_ (by assumption))))).mono ?_
  rw [HE.out]
  rintro e w1 ⟨rfl, hx1⟩
  obtain ⟨q0, hx, hk0⟩ := alloc1 hx1
  have d0 : w1.cell? ⟨w.heap.size, 0, none⟩ = some a := q0.cell 0
  have d1 : w1.cell? ⟨w.heap.size, 1, none⟩ = some b := q0.cell 1
  clear hx1 q0
  by_cases h0 : E = 0
  · have hx2 := HX.out
    rw [if_pos h0] at hx2
    have hk := hok h0
    have hb : (E != 0) = false := by simpa using h0
    have HX2 := Lib.hid hx2
    have H0 := Lib.hid h0
    clear hx2 h0 hok
    go_wp2_with fail
    refine (KP hk _ hx).mono ?_
    rintro e w2 ⟨u, rfl, hu, hz⟩
    rw [← HX2.out] at hu
    go_wp2_with fail
    go_ret2
    exact ⟨_, ret2 rfl (by rw [H0.out]; rfl), hu.at_, hx.trans hz⟩
  · have hx2 := HX.out
    rw [if_neg h0] at hx2
    have hb : (E != 0) = true := by simpa using h0
    have HX2 := Lib.hid hx2
    clear hx2 h0 hok KP
    go_wp2_with fail
    go_ret2
    exact ⟨_, rfl, by rw [HX2.out]; exact intsAt_nil _, hx⟩
end Go.Proofs.Ythopgonbndoidaa
