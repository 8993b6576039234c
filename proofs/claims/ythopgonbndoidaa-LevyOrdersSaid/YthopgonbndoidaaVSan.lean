/- The law's own small functions: Brook, numbers, few. sanity: the chapter's examples hold. -/
import Derived.Test.YthopgonbndoidaaVRDv
namespace Go.Proofs.Ythopgonbndoidaa
open Go.RowKit Go.Shelf

set_option maxRecDepth 100000 in
set_option maxHeartbeats 4000000 in
theorem Brook_any (c : Int) (w : World) :
    Calls Try.prog 52 #[.int .i64 c] w fun e w' => ∃ a b, e = .returned (.agg #[a, b]) ∧ TrAt w' a b (brook c) ∧ Ext w w' := by
  go_enter Try.func52, Try.ntmps52
  go_wp2
  obtain ⟨q2, q3, q4, hx, _⟩ := alloc3 (w := w) (Ext.refl (((w.alloc (.cells #[.slice (some ⟨w.heap.size + 1, 0, none⟩) 4 4, .slice (some ⟨w.heap.size + 1 + 1, 0, none⟩) 4 4] 25)).alloc (.cells #[.int .i64 (-1), .int .i64 c, .int .i64 0, .int .i64 6, .int .i64 0, .int .i64 5, .int .i64 1, .int .i64 4] 78)).alloc (.cells #[.int .i64 1, .int .i64 1, .int .i64 1, .int .i64 2, .int .i64 2, .int .i64 1, .int .i64 3, .int .i64 3, .int .i64 1, .int .i64 4, .int .i64 0, .int .i64 1] 45)))
  generalize (((w.alloc (.cells #[.slice (some ⟨w.heap.size + 1, 0, none⟩) 4 4, .slice (some ⟨w.heap.size + 1 + 1, 0, none⟩) 4 4] 25)).alloc (.cells #[.int .i64 (-1), .int .i64 c, .int .i64 0, .int .i64 6, .int .i64 0, .int .i64 5, .int .i64 1, .int .i64 4] 78)).alloc (.cells #[.int .i64 1, .int .i64 1, .int .i64 1, .int .i64 2, .int .i64 2, .int .i64 1, .int .i64 3, .int .i64 3, .int .i64 1, .int .i64 4, .int .i64 0, .int .i64 1] 45)) = W at q2 q3 q4 hx ⊢
  have c0 : W.cell? ⟨w.heap.size, 0, none⟩ = _ := q2.cell 0
  have c1 : W.cell? ⟨w.heap.size, 1, none⟩ = _ := q2.cell 1
  refine bodyPost_ret (v := .agg #[.slice (some ⟨w.heap.size + 1, 0, none⟩) 4 4, .slice (some ⟨w.heap.size + 1 + 1, 0, none⟩) 4 4]) (by simp [results, Try.f52, go_sem, c0, c1]) rfl ⟨_, _, rfl, ⟨?_, ?_⟩, hx⟩
  · refine ⟨_, 4, rfl, by simp [brook], fun i hi => ⟨w.heap.size + 1, 0, rfl, ?_⟩⟩
    have hi4 : i < 4 := by simpa [brook] using hi
    rcases (by omega : i = 0 ∨ i = 1 ∨ i = 2 ∨ i = 3) with rfl | rfl | rfl | rfl
    · exact ⟨q3.cell 0, q3.cell 1⟩
    · exact ⟨q3.cell 2, q3.cell 3⟩
    · exact ⟨q3.cell 4, q3.cell 5⟩
    · exact ⟨q3.cell 6, q3.cell 7⟩
  · refine ⟨_, 4, rfl, by simp [brook], fun i hi => ⟨w.heap.size + 1 + 1, 0, rfl, ?_⟩⟩
    have hi4 : i < 4 := by simpa [brook] using hi
    rcases (by omega : i = 0 ∨ i = 1 ∨ i = 2 ∨ i = 3) with rfl | rfl | rfl | rfl
    · exact ⟨q4.cell 0, q4.cell 1, q4.cell 2⟩
    · exact ⟨q4.cell 3, q4.cell 4, q4.cell 5⟩
    · exact ⟨q4.cell 6, q4.cell 7, q4.cell 8⟩
    · exact ⟨q4.cell 9, q4.cell 10, q4.cell 11⟩

def numB (l : List Ra) (ws : List Int) : Bool := decide (l = ws.map (fun n => ⟨n, 1⟩))
set_option maxRecDepth 100000 in
set_option maxHeartbeats 4000000 in
theorem numbers_any (v u : Value) (l : List Ra) (ws : List Int) (w : World) (hl : RasAt w v l) (hr : IntsAt w u ws) (hn : l.length ≤ 1000000) :
    Calls Try.prog 53 #[v, u] w fun e w' => e = .returned (.bool (numB l ws)) ∧ Ext w w' := by
  obtain ⟨ao, cap, rfl, hcap⟩ := hl.len
  obtain ⟨bo, cap2, rfl, hcap2⟩ := hr.len
  obtain ⟨D, hD⟩ : ∃ D, numB l ws = D := ⟨_, rfl⟩
  have HD := Lib.hid hD
  rw [hD]
  clear hD
  by_cases hlen : l.length = ws.length
  · have HL := Lib.hid hlen
    have hb : ((l.length : Int) == (ws.length : Int)) = true := by simp [hlen]
    rw [← hlen]
    clear hlen hb
    go_enter Try.func53, Try.ntmps53
    go_wp2_with fail
    go_loopw [5] (fun i wr => ∃ k : Nat, k ≤ l.length ∧ i = .int .i64 k ∧ Hid (∀ j (h : j < l.length) (h' : j < ws.length), j < k → l[j] = ⟨ws[j], 1⟩) ∧ Ext w wr) (fun i _ => l.length - (intOf i).toNat)
    case atStart => exact ⟨0, Nat.zero_le _, rfl, Lib.hid (fun _ _ _ h => by omega), Ext.refl _⟩
    case round =>
      obtain ⟨k, hk, rfl, HK, hx⟩ := hrel
      by_cases hlt : k < l.length
      · have hlt2 : k < ws.length := by have := HL.out; omega
        have hr' := hr.ext hx
        obtain ⟨b, o, rfl, c0, c1⟩ := (hl.ext hx).get k hlt
        obtain ⟨b2, o2, rfl, c2⟩ := hr'.get k hlt2
        obtain ⟨x, hxx⟩ : ∃ x, l[k].n = x := ⟨_, rfl⟩
        obtain ⟨z, hzz⟩ : ∃ x, l[k].d = x := ⟨_, rfl⟩
        obtain ⟨y, hyy⟩ : ∃ x, ws[k] = x := ⟨_, rfl⟩
        rw [hxx] at c0
        rw [hzz] at c1
        rw [hyy] at c2
        have hkr : (k : Int) < (ws.length : Int) := by omega
        by_cases hq : x = y ∧ z = 1
        · have HK2 : Hid (∀ j (h : j < l.length) (h' : j < ws.length), j < k + 1 → l[j] = ⟨ws[j], 1⟩) := Lib.hid (fun j h h' hj => by
            by_cases hjk : j = k
            · subst hjk
              have : l[j] = ⟨l[j].n, l[j].d⟩ := rfl
              rw [this, hxx, hzz, hyy, hq.1, hq.2]
            · exact HK.out j h h' (by omega))
          obtain ⟨rfl, rfl⟩ := hq
          clear hxx hyy hzz HK hr'
          go_wp2_with fail
          (try go_quiet (fail))
          (try go_wp2_with fail)
          go_roundw
          case rel => exact ⟨k + 1, by omega, by go_num, HK2, hx.trans (by repeat (first | exact Ext.refl _ | assumption | refine Ext.alloc ?_ _ | refine Ext.drew ?_ | refine Ext.drewN _ ?_ | refine Ext.trans ?_ (by assumption)))⟩
          case measure => simp [intOf]; omega
        · have hm : D = false := by
            rw [← HD.out]
            unfold numB
            rw [decide_eq_false_iff_not]
            intro he
            apply hq
            have h1 : l[k] = ⟨ws[k], 1⟩ := by simp [he]
            rw [← hxx, ← hzz, h1, hyy]
            exact ⟨rfl, rfl⟩
          have HM := Lib.hid hm
          clear hxx hyy hzz hm HK hr'
          cases hxb : (x == y)
          · have hxb2 : (x != y) = true := by simp [bne, hxb]
            go_wp2_with fail
            (try go_quiet (fail))
            (try go_wp2_with fail)
            go_ret
            exact ⟨ret_bool HM.out.symm, hx.trans (by repeat (first | exact Ext.refl _ | assumption | refine Ext.alloc ?_ _ | refine Ext.drew ?_ | refine Ext.drewN _ ?_ | refine Ext.trans ?_ (by assumption)))⟩
          · have hxe : x = y := by simpa using hxb
            have hze : ¬ z = 1 := fun h => hq ⟨hxe, h⟩
            have hzb : (z == 1) = false := by simpa using hze
            subst hxe
            clear hq
            go_wp2_with fail
            (try go_quiet (fail))
            (try go_wp2_with fail)
            go_ret
            exact ⟨ret_bool HM.out.symm, hx.trans (by repeat (first | exact Ext.refl _ | assumption | refine Ext.alloc ?_ _ | refine Ext.drew ?_ | refine Ext.drewN _ ?_ | refine Ext.trans ?_ (by assumption)))⟩
      · have hm : D = true := by
          rw [← HD.out]
          unfold numB
          rw [decide_eq_true_eq]
          exact List.ext_getElem (by simpa using HL.out) (fun j h1 h2 => by rw [List.getElem_map]; exact HK.out j h1 (by simpa using h2) (by omega))
        have HM := Lib.hid hm
        clear hm HK
        go_wp2
        go_ret
        exact ⟨ret_bool HM.out.symm, hx⟩
  · have hm : D = false := by
      rw [← HD.out]
      unfold numB
      rw [decide_eq_false_iff_not]
      intro he
      exact hlen (by rw [he]; simp)
    have HM := Lib.hid hm
    have hne : ¬ ((l.length : Int) = (ws.length : Int)) := by omega
    clear hm hlen
    go_enter Try.func53, Try.ntmps53
    go_wp2
    go_ret
    exact ⟨ret_bool HM.out.symm, Ext.refl _⟩

def FewPost (w : World) (m n : Nat) (e : Ending) (w' : World) : Prop := ∃ F : Bool, e = .returned (.bool F) ∧ (F = true → m ≤ 40 ∧ n ≤ 40) ∧ Ext w w'
set_option maxRecDepth 100000 in
set_option maxHeartbeats 4000000 in
theorem few_any (a b : Value) (T : Tr) (w : World) (hT : TrAt w a b T) :
    Calls Try.prog 13 #[.agg #[a, b]] w (FewPost w T.rs.length T.ps.length) := by
  obtain ⟨ar, cr, rfl, hlr⟩ := hT.r.len
  obtain ⟨ab, cb, rfl, hlb⟩ := hT.p.len
  obtain ⟨m, hm⟩ : ∃ m, T.rs.length = m := ⟨_, rfl⟩
  obtain ⟨n, hn⟩ : ∃ m, T.ps.length = m := ⟨_, rfl⟩
  rw [hm, hn]
  clear hm hn hT hlr hlb
  have part : ∀ k : Nat, (k ≤ 10) ∨ (¬ k ≤ 10 ∧ ¬ 24 < k) ∨ (¬ k ≤ 10 ∧ 24 < k) := fun k => by omega
  rcases part m with h1 | ⟨h1, h2⟩ | ⟨h1, h2⟩
  all_goals
    rcases part n with g1 | ⟨g1, g2⟩ | ⟨g1, g2⟩
    all_goals
      go_enter Try.func13, Try.ntmps13
      go_wp2
      all_goals go_ret
      all_goals refine ⟨_, rfl, fun h => ?_, (by repeat (first | exact Ext.refl _ | assumption | refine Ext.alloc ?_ _ | refine Ext.drew ?_ | refine Ext.drewN _ ?_ | refine Ext.trans ?_ (by assumption)))⟩
      all_goals first | omega | (simp at h; done) | (simp at h; omega)
end Go.Proofs.Ythopgonbndoidaa
namespace Go.Proofs.Ythopgonbndoidaa
open Go.RowKit Go.Shelf

theorem ints_lit (W : World) (l : List Int) (t : TypeId) : IntsAt (W.alloc (.cells (cellsI l).toArray t)) (.slice (some ⟨W.heap.size, 0, none⟩) l.length l.length) l :=
  cls_ints (Cls.new W t (cellsI l).toArray) rfl
set_option maxRecDepth 100000 in
set_option maxHeartbeats 16000000 in
theorem sanity_any (w : World) : Calls Try.prog 14 #[] w fun e w' => e = .returned (.bool true) ∧ Ext w w' := by
  obtain ⟨T, hTe⟩ : ∃ T, brook 12 = T := ⟨_, rfl⟩
  have f1 := v_chk.1
  have f2 := v_ask
  have f3 := v_aln.1
  have f4 := v_aln.2
  have f5 := v_sha
  have f6 := v_pie.1
  have f7 := v_pie.2
  have f8 := v_ob
  have f9 := v_obl
  have f10 := v_fai
  have f11 := v_dv
  have f12 := v_most
  have f13 := v_chg
  have hl1 : (brook 12).rs.length = 4 := rfl
  have hl2 : (brook 12).ps.length = 4 := rfl
  rw [hTe] at f1 f2 f3 f4 f5 f6 f7 f8 f9 f10 f11 f12 f13 hl1 hl2
  have g1 := Lib.hid f1
  have g2 := Lib.hid f2
  have g3 := Lib.hid f3
  have g4 := Lib.hid f4
  have g5 := Lib.hid f5
  have g6 := Lib.hid f6
  have g7 := Lib.hid f7
  have g8 := Lib.hid f8
  have g9 := Lib.hid f9
  have g10 := Lib.hid f10
  have g11 := Lib.hid f11
  have g12 := Lib.hid f12
  have g13 := Lib.hid f13
  have HTE := Lib.hid hTe
  have HL1 := Lib.hid hl1
  have HL2 := Lib.hid hl2
  clear f1 f2 f3 f4 f5 f6 f7 f8 f9 f10 f11 f12 f13 hl1 hl2 hTe
  go_enter Try.func14, Try.ntmps14
  go_wp2_with fail
  refine (Brook_any 12 w).mono ?_
  rw [HTE.out]
  rintro e w1 ⟨a, b, rfl, hT0, hx⟩
  obtain ⟨ar, cr, rfl, _⟩ := hT0.r.len
  obtain ⟨ab, cb, rfl, _⟩ := hT0.p.len
  rw [HL1.out, HL2.out] at hT0 ⊢
  obtain ⟨BT, hBT⟩ : ∃ B, w1.heap.size = B := ⟨_, rfl⟩
  obtain ⟨W1, hY⟩ : ∃ W1, w1.alloc (.cells #[.slice ar 4 cr, .slice ab 4 cb] 25) = W1 := ⟨_, rfl⟩
  have hxY : Ext w1 W1 := by rw [← hY]; exact (by repeat (first | exact Ext.refl _ | assumption | refine Ext.alloc ?_ _ | refine Ext.drew ?_ | refine Ext.drewN _ ?_ | refine Ext.trans ?_ (by assumption)))
  have bY : Cls BT 25 #[.slice ar 4 cr, .slice ab 4 cb] W1 := by rw [← hY]; exact Cls.newAt _ _ _ hBT.symm
  have hT := hT0.ext hxY
  clear hT0
  go_upto_region 2 with fail
  try rw [hY]
  replace hx := hx.trans hxY
  clear hY hxY hBT
  have h1 : Ext W1 W1 := Ext.refl _
  have d0 : W1.cell? ⟨BT, 0, none⟩ = _ := bY.cell 0
  have d1 : W1.cell? ⟨BT, 1, none⟩ = _ := bY.cell 1
  go_wp2_with fail
  refine (Alone_any _ _ _ T [1, 3] _ (hT.ext (h1.trans (by repeat (first | exact Ext.refl _ | assumption | refine Ext.alloc ?_ _ | refine Ext.drew ?_ | refine Ext.drewN _ ?_ | refine Ext.trans ?_ (by assumption))))) (ints_lit _ [1, 3] _) (by decide)).mono ?_
  rw [g2.out, g3.out]
  rintro e W2 ⟨rfl, hz⟩
  have hzz : Ext W1 W2 := Ext.trans (by repeat (first | exact Ext.refl _ | assumption | refine Ext.alloc ?_ _ | refine Ext.drew ?_ | refine Ext.drewN _ ?_ | refine Ext.trans ?_ (by assumption))) hz
  have h2 : Ext W1 W2 := h1.trans hzz
  replace d0 := hzz.cell d0
  replace d1 := hzz.cell d1
  clear hz hzz
  go_wp2_with fail
  refine (Saved_any _ _ _ T [1, 3] _ (hT.ext (h2.trans (by repeat (first | exact Ext.refl _ | assumption | refine Ext.alloc ?_ _ | refine Ext.drew ?_ | refine Ext.drewN _ ?_ | refine Ext.trans ?_ (by assumption))))) (ints_lit _ [1, 3] _) (by decide)).mono ?_
  rw [g2.out, g4.out]
  rintro e W3 ⟨rfl, hz⟩
  have hzz : Ext W2 W3 := Ext.trans (by repeat (first | exact Ext.refl _ | assumption | refine Ext.alloc ?_ _ | refine Ext.drew ?_ | refine Ext.drewN _ ?_ | refine Ext.trans ?_ (by assumption))) hz
  have h3 : Ext W1 W3 := h2.trans hzz
  replace d0 := hzz.cell d0
  replace d1 := hzz.cell d1
  clear hz hzz h2
  go_wp2_with fail
  refine (Shares_any _ _ T _ (hT.ext (h3.trans (by repeat (first | exact Ext.refl _ | assumption | refine Ext.alloc ?_ _ | refine Ext.drew ?_ | refine Ext.drewN _ ?_ | refine Ext.trans ?_ (by assumption))))) (by rw [HL1.out, HL2.out]; decide)).mono ?_
  rw [g5.out, g1.out]
  rintro e W4 ⟨vs, rfl, hs, hz⟩
  have hzz : Ext W3 W4 := Ext.trans (by repeat (first | exact Ext.refl _ | assumption | refine Ext.alloc ?_ _ | refine Ext.drew ?_ | refine Ext.drewN _ ?_ | refine Ext.trans ?_ (by assumption))) hz
  have h4 : Ext W1 W4 := h3.trans hzz
  replace d0 := hzz.cell d0
  replace d1 := hzz.cell d1
  clear hz hzz h3
  go_wp2_with fail
  refine (Pieces_any _ _ T 3 _ (hT.ext (h4.trans (by repeat (first | exact Ext.refl _ | assumption | refine Ext.alloc ?_ _ | refine Ext.drew ?_ | refine Ext.drewN _ ?_ | refine Ext.trans ?_ (by assumption))))) (by rw [HL2.out]; decide)).mono ?_
  rw [g6.out, g7.out]
  rintro e W5 ⟨vp, rfl, hp, hz⟩
  have hzz : Ext W4 W5 := Ext.trans (by repeat (first | exact Ext.refl _ | assumption | refine Ext.alloc ?_ _ | refine Ext.drew ?_ | refine Ext.drewN _ ?_ | refine Ext.trans ?_ (by assumption))) hz
  have h5 : Ext W1 W5 := h4.trans hzz
  replace hs := hs.ext hzz
  replace d0 := hzz.cell d0
  replace d1 := hzz.cell d1
  clear hz hzz h4
  go_wp2_with fail
  refine (Objection_any _ _ _ T [2, 18, 6, 1] _ (hT.ext (h5.trans (by repeat (first | exact Ext.refl _ | assumption | refine Ext.alloc ?_ _ | refine Ext.drew ?_ | refine Ext.drewN _ ?_ | refine Ext.trans ?_ (by assumption))))) (ints_lit _ [2, 18, 6, 1] _) (by decide)).mono ?_
  rw [g9.out, g8.out.2.1, g8.out.1]
  rintro e W6 ⟨vo, rfl, ho, hz⟩
  have hzz : Ext W5 W6 := Ext.trans (by repeat (first | exact Ext.refl _ | assumption | refine Ext.alloc ?_ _ | refine Ext.drew ?_ | refine Ext.drewN _ ?_ | refine Ext.trans ?_ (by assumption))) hz
  have h6 : Ext W1 W6 := h5.trans hzz
  replace hs := hs.ext hzz
  replace hp := hp.ext hzz
  replace d0 := hzz.cell d0
  replace d1 := hzz.cell d1
  clear hz hzz h5
  go_wp2_with fail
  refine (Objection_any _ _ _ T [6, 8, 10, 3] _ (hT.ext (h6.trans (by repeat (first | exact Ext.refl _ | assumption | refine Ext.alloc ?_ _ | refine Ext.drew ?_ | refine Ext.drewN _ ?_ | refine Ext.trans ?_ (by assumption))))) (ints_lit _ [6, 8, 10, 3] _) (by decide)).mono ?_
  rw [g8.out.2.2.2, g8.out.2.2.1]
  rintro e W7 ⟨vq, rfl, hq, hz⟩
  have hzz : Ext W6 W7 := Ext.trans (by repeat (first | exact Ext.refl _ | assumption | refine Ext.alloc ?_ _ | refine Ext.drew ?_ | refine Ext.drewN _ ?_ | refine Ext.trans ?_ (by assumption))) hz
  have h7 : Ext W1 W7 := h6.trans hzz
  replace hs := hs.ext hzz
  replace hp := hp.ext hzz
  replace ho := ho.ext hzz
  replace d0 := hzz.cell d0
  replace d1 := hzz.cell d1
  clear hz hzz h6
  go_wp2_with fail
  refine (Fair_any _ _ _ T [0, 17, 10, 0] _ (hT.ext (h7.trans (by repeat (first | exact Ext.refl _ | assumption | refine Ext.alloc ?_ _ | refine Ext.drew ?_ | refine Ext.drewN _ ?_ | refine Ext.trans ?_ (by assumption))))) (ints_lit _ [0, 17, 10, 0] _) (by decide)).mono ?_
  rw [g10.out.1, g10.out.2]
  rintro e W8 ⟨rfl, hz⟩
  have hzz : Ext W7 W8 := Ext.trans (by repeat (first | exact Ext.refl _ | assumption | refine Ext.alloc ?_ _ | refine Ext.drew ?_ | refine Ext.drewN _ ?_ | refine Ext.trans ?_ (by assumption))) hz
  have h8 : Ext W1 W8 := h7.trans hzz
  replace hs := hs.ext hzz
  replace hp := hp.ext hzz
  replace ho := ho.ext hzz
  replace hq := hq.ext hzz
  replace d0 := hzz.cell d0
  replace d1 := hzz.cell d1
  clear hz hzz h7
  go_wp2_with fail
  refine (numbers_any _ _ _ [6, 8, 10, 3] _ (hs.ext (by repeat (first | exact Ext.refl _ | assumption | refine Ext.alloc ?_ _ | refine Ext.drew ?_ | refine Ext.drewN _ ?_ | refine Ext.trans ?_ (by assumption)))) (ints_lit _ [6, 8, 10, 3] _) (by decide)).mono ?_
  rw [show numB [⟨6, 1⟩, ⟨8, 1⟩, ⟨10, 1⟩, ⟨3, 1⟩] [6, 8, 10, 3] = true by decide]
  rintro e W9 ⟨rfl, hz⟩
  have hzz : Ext W8 W9 := Ext.trans (by repeat (first | exact Ext.refl _ | assumption | refine Ext.alloc ?_ _ | refine Ext.drew ?_ | refine Ext.drewN _ ?_ | refine Ext.trans ?_ (by assumption))) hz
  have h9 : Ext W1 W9 := h8.trans hzz
  replace hs := hs.ext hzz
  replace hp := hp.ext hzz
  replace ho := ho.ext hzz
  replace hq := hq.ext hzz
  replace d0 := hzz.cell d0
  replace d1 := hzz.cell d1
  clear hz hzz h8
  go_wp2_with fail
  refine (numbers_any _ _ _ [3, 3, 0, 4] _ (hp.ext (by repeat (first | exact Ext.refl _ | assumption | refine Ext.alloc ?_ _ | refine Ext.drew ?_ | refine Ext.drewN _ ?_ | refine Ext.trans ?_ (by assumption)))) (ints_lit _ [3, 3, 0, 4] _) (by decide)).mono ?_
  rw [show numB [⟨3, 1⟩, ⟨3, 1⟩, ⟨0, 1⟩, ⟨4, 1⟩] [3, 3, 0, 4] = true by decide]
  rintro e W10 ⟨rfl, hz⟩
  have hzz : Ext W9 W10 := Ext.trans (by repeat (first | exact Ext.refl _ | assumption | refine Ext.alloc ?_ _ | refine Ext.drew ?_ | refine Ext.drewN _ ?_ | refine Ext.trans ?_ (by assumption))) hz
  have h10 : Ext W1 W10 := h9.trans hzz
  replace hs := hs.ext hzz
  replace hp := hp.ext hzz
  replace ho := ho.ext hzz
  replace hq := hq.ext hzz
  replace d0 := hzz.cell d0
  replace d1 := hzz.cell d1
  clear hz hzz h9
  go_wp2_with fail
  refine (refSame_any _ _ _ [2, 4] _ (ho.ext (by repeat (first | exact Ext.refl _ | assumption | refine Ext.alloc ?_ _ | refine Ext.drew ?_ | refine Ext.drewN _ ?_ | refine Ext.trans ?_ (by assumption)))) (ints_lit _ [2, 4] _) (by decide)).mono ?_
  rw [show decide (([2, 4] : List Int) = [2, 4]) = true by decide]
  rintro e W11 ⟨rfl, hz⟩
  have hzz : Ext W10 W11 := Ext.trans (by repeat (first | exact Ext.refl _ | assumption | refine Ext.alloc ?_ _ | refine Ext.drew ?_ | refine Ext.drewN _ ?_ | refine Ext.trans ?_ (by assumption))) hz
  have h11 : Ext W1 W11 := h10.trans hzz
  replace hs := hs.ext hzz
  replace hp := hp.ext hzz
  replace ho := ho.ext hzz
  replace hq := hq.ext hzz
  replace d0 := hzz.cell d0
  replace d1 := hzz.cell d1
  clear hz hzz h10
  go_wp2_with fail
  refine (Divide_any _ _ _ T [0, 17, 10, 0] _ (hT.ext (h11.trans (by repeat (first | exact Ext.refl _ | assumption | refine Ext.alloc ?_ _ | refine Ext.drew ?_ | refine Ext.drewN _ ?_ | refine Ext.trans ?_ (by assumption))))) (ints_lit _ [0, 17, 10, 0] _) (by decide)).mono ?_
  rw [g11.out.1]
  rintro e W12 ⟨vd, rfl, hd, hz⟩
  have hzz : Ext W11 W12 := Ext.trans (by repeat (first | exact Ext.refl _ | assumption | refine Ext.alloc ?_ _ | refine Ext.drew ?_ | refine Ext.drewN _ ?_ | refine Ext.trans ?_ (by assumption))) hz
  have h12 : Ext W1 W12 := h11.trans hzz
  replace hs := hs.ext hzz
  replace hp := hp.ext hzz
  replace ho := ho.ext hzz
  replace hq := hq.ext hzz
  replace d0 := hzz.cell d0
  replace d1 := hzz.cell d1
  clear hz hzz h11
  go_wp2_with fail
  refine (Brook_any 13 _).mono ?_
  rintro e W13 ⟨a3, b3, rfl, hT3, hz⟩
  have hzz : Ext W12 W13 := Ext.trans (by repeat (first | exact Ext.refl _ | assumption | refine Ext.alloc ?_ _ | refine Ext.drew ?_ | refine Ext.drewN _ ?_ | refine Ext.trans ?_ (by assumption))) hz
  have h13 : Ext W1 W13 := h12.trans hzz
  replace hs := hs.ext hzz
  replace hp := hp.ext hzz
  replace ho := ho.ext hzz
  replace hq := hq.ext hzz
  replace hd := hd.ext hzz
  replace d0 := hzz.cell d0
  replace d1 := hzz.cell d1
  clear hz hzz h12
  go_wp2_with fail
  refine (Pence_any _ _ (brook 13) _ (hT3.ext (by repeat (first | exact Ext.refl _ | assumption | refine Ext.alloc ?_ _ | refine Ext.drew ?_ | refine Ext.drewN _ ?_ | refine Ext.trans ?_ (by assumption))))).mono ?_
  rw [v_pen, v_chk.2]
  rintro e W14 ⟨vx, rfl, hv, hz⟩
  have hzz : Ext W13 W14 := Ext.trans (by repeat (first | exact Ext.refl _ | assumption | refine Ext.alloc ?_ _ | refine Ext.drew ?_ | refine Ext.drewN _ ?_ | refine Ext.trans ?_ (by assumption))) hz
  have h14 : Ext W1 W14 := h13.trans hzz
  replace hs := hs.ext hzz
  replace hp := hp.ext hzz
  replace ho := ho.ext hzz
  replace hq := hq.ext hzz
  replace hd := hd.ext hzz
  replace hT3 := hT3.ext hzz
  replace d0 := hzz.cell d0
  replace d1 := hzz.cell d1
  clear hz hzz h13
  go_wp2_with fail
  refine (Most_any _ _ T 3 _ (hT.ext (h14.trans (by repeat (first | exact Ext.refl _ | assumption | refine Ext.alloc ?_ _ | refine Ext.drew ?_ | refine Ext.drewN _ ?_ | refine Ext.trans ?_ (by assumption))))) (by rw [HL2.out]; decide)).mono ?_
  rw [g7.out, if_pos rfl, g12.out.1]
  rintro e W15 ⟨rfl, hz⟩
  have hzz : Ext W14 W15 := Ext.trans (by repeat (first | exact Ext.refl _ | assumption | refine Ext.alloc ?_ _ | refine Ext.drew ?_ | refine Ext.drewN _ ?_ | refine Ext.trans ?_ (by assumption))) hz
  have h15 : Ext W1 W15 := h14.trans hzz
  replace hs := hs.ext hzz
  replace hp := hp.ext hzz
  replace ho := ho.ext hzz
  replace hq := hq.ext hzz
  replace hd := hd.ext hzz
  replace hT3 := hT3.ext hzz
  replace hv := hv.ext hzz
  replace d0 := hzz.cell d0
  replace d1 := hzz.cell d1
  clear hz hzz h14
  go_wp2_with fail
  refine (Least_any _ _ T 3 _ (hT.ext (h15.trans (by repeat (first | exact Ext.refl _ | assumption | refine Ext.alloc ?_ _ | refine Ext.drew ?_ | refine Ext.drewN _ ?_ | refine Ext.trans ?_ (by assumption))))) (by rw [HL2.out]; decide)).mono ?_
  rw [g7.out, if_pos rfl, g12.out.2]
  rintro e W16 ⟨rfl, hz⟩
  have hzz : Ext W15 W16 := Ext.trans (by repeat (first | exact Ext.refl _ | assumption | refine Ext.alloc ?_ _ | refine Ext.drew ?_ | refine Ext.drewN _ ?_ | refine Ext.trans ?_ (by assumption))) hz
  have h16 : Ext W1 W16 := h15.trans hzz
  replace hs := hs.ext hzz
  replace hp := hp.ext hzz
  replace ho := ho.ext hzz
  replace hq := hq.ext hzz
  replace hd := hd.ext hzz
  replace hT3 := hT3.ext hzz
  replace hv := hv.ext hzz
  replace d0 := hzz.cell d0
  replace d1 := hzz.cell d1
  clear hz hzz h15
  go_wp2_with fail
  refine (Changed_any _ _ T 1 8 _ (hT.ext (h16.trans (by repeat (first | exact Ext.refl _ | assumption | refine Ext.alloc ?_ _ | refine Ext.drew ?_ | refine Ext.drewN _ ?_ | refine Ext.trans ?_ (by assumption))))) (by rw [HL1.out]; decide) (by decide)).mono ?_
  rw [g13.out.1, g13.out.2]
  rintro e W17 ⟨vc, rfl, hc, hz⟩
  have hzz : Ext W16 W17 := Ext.trans (by repeat (first | exact Ext.refl _ | assumption | refine Ext.alloc ?_ _ | refine Ext.drew ?_ | refine Ext.drewN _ ?_ | refine Ext.trans ?_ (by assumption))) hz
  have h17 : Ext W1 W17 := h16.trans hzz
  replace hs := hs.ext hzz
  replace hp := hp.ext hzz
  replace ho := ho.ext hzz
  replace hq := hq.ext hzz
  replace hd := hd.ext hzz
  replace hT3 := hT3.ext hzz
  replace hv := hv.ext hzz
  replace d0 := hzz.cell d0
  replace d1 := hzz.cell d1
  clear hz hzz h16
  go_wp2_with fail
  refine (refCheckDivide_any _ _ _ _ T [0, 17, 10, 0] _ _ (hT.ext (h17.trans (by repeat (first | exact Ext.refl _ | assumption | refine Ext.alloc ?_ _ | refine Ext.drew ?_ | refine Ext.drewN _ ?_ | refine Ext.trans ?_ (by assumption))))) (ints_lit _ [0, 17, 10, 0] _) (hd.ext (by repeat (first | exact Ext.refl _ | assumption | refine Ext.alloc ?_ _ | refine Ext.drew ?_ | refine Ext.drewN _ ?_ | refine Ext.trans ?_ (by assumption)))) (by decide) (by rw [g11.out.2.2]; decide)).mono ?_
  rw [g11.out.2.1]
  rintro e W18 ⟨rfl, hz⟩
  have hzz : Ext W17 W18 := Ext.trans (by repeat (first | exact Ext.refl _ | assumption | refine Ext.alloc ?_ _ | refine Ext.drew ?_ | refine Ext.drewN _ ?_ | refine Ext.trans ?_ (by assumption))) hz
  have h18 : Ext W1 W18 := h17.trans hzz
  replace hs := hs.ext hzz
  replace hp := hp.ext hzz
  replace ho := ho.ext hzz
  replace hq := hq.ext hzz
  replace hd := hd.ext hzz
  replace hT3 := hT3.ext hzz
  replace hv := hv.ext hzz
  replace hc := hc.ext hzz
  replace d0 := hzz.cell d0
  replace d1 := hzz.cell d1
  clear hz hzz h17
  go_wp2_with fail
  refine (refSame_any _ _ _ [7, 8, 10, 3] _ (hv.ext (by repeat (first | exact Ext.refl _ | assumption | refine Ext.alloc ?_ _ | refine Ext.drew ?_ | refine Ext.drewN _ ?_ | refine Ext.trans ?_ (by assumption)))) (ints_lit _ [7, 8, 10, 3] _) (by decide)).mono ?_
  rw [show decide (([7, 8, 10, 3] : List Int) = [7, 8, 10, 3]) = true by decide]
  rintro e W19 ⟨rfl, hz⟩
  have hzz : Ext W18 W19 := Ext.trans (by repeat (first | exact Ext.refl _ | assumption | refine Ext.alloc ?_ _ | refine Ext.drew ?_ | refine Ext.drewN _ ?_ | refine Ext.trans ?_ (by assumption))) hz
  have h19 : Ext W1 W19 := h18.trans hzz
  replace hs := hs.ext hzz
  replace hp := hp.ext hzz
  replace ho := ho.ext hzz
  replace hq := hq.ext hzz
  replace hd := hd.ext hzz
  replace hT3 := hT3.ext hzz
  replace hv := hv.ext hzz
  replace hc := hc.ext hzz
  replace d0 := hzz.cell d0
  replace d1 := hzz.cell d1
  clear hz hzz h18
  go_wp2_with fail
  refine (numbers_any _ _ _ [1, 0, 1, 0] _ (hc.ext (by repeat (first | exact Ext.refl _ | assumption | refine Ext.alloc ?_ _ | refine Ext.drew ?_ | refine Ext.drewN _ ?_ | refine Ext.trans ?_ (by assumption)))) (ints_lit _ [1, 0, 1, 0] _) (by decide)).mono ?_
  rw [show numB [⟨1, 1⟩, ⟨0, 1⟩, ⟨1, 1⟩, ⟨0, 1⟩] [1, 0, 1, 0] = true by decide]
  rintro e W20 ⟨rfl, hz⟩
  have hzz : Ext W19 W20 := Ext.trans (by repeat (first | exact Ext.refl _ | assumption | refine Ext.alloc ?_ _ | refine Ext.drew ?_ | refine Ext.drewN _ ?_ | refine Ext.trans ?_ (by assumption))) hz
  have h20 : Ext W1 W20 := h19.trans hzz
  replace hs := hs.ext hzz
  replace hp := hp.ext hzz
  replace ho := ho.ext hzz
  replace hq := hq.ext hzz
  replace hd := hd.ext hzz
  replace hT3 := hT3.ext hzz
  replace hv := hv.ext hzz
  replace hc := hc.ext hzz
  replace d0 := hzz.cell d0
  replace d1 := hzz.cell d1
  clear hz hzz h19
  go_wp2_with fail
  go_ret
  exact ⟨rfl, hx.trans h20⟩
end Go.Proofs.Ythopgonbndoidaa
