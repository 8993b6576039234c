/- The law's own small functions: Brook, numbers, few. -/
import Derived.Test.YthopgonbndoidaaVVals
namespace Go.Proofs.Ythopgonbndoidaa
open Go.RowKit Go.Shelf

set_option maxRecDepth 100000 in
set_option maxHeartbeats 4000000 in
theorem Brook_any (c : Int) (w : World) :
    Calls Try.prog 52 #[.int .i64 c] w fun e w' => ∃ a b, e = .returned (.agg #[a, b]) ∧ TrAt w' a b (brook c) ∧ Ext w w' := by
  go_enter Try.func52, Try.ntmps52
  go_wp2
  obtain ⟨q2, q3, q4, hx, _⟩ := alloc3 (w := w) (Ext.refl (((w.alloc (.cells #[.slice (some ⟨w.heap.size + 1, 0, none⟩) 4 4, .slice (some ⟨w.heap.size + 1 + 1, 0, none⟩) 4 4] 25)).alloc (.cells #[.int .i64 (-1), .int .i64 c, .int .i64 0, .int .i64 6, .int .i64 0, .int .i64 5, .int .i64 1, .int .i64 4] 78)).alloc (.cells #[.int .i64 1, .int .i64 1, .int .i64 1, .int .i64 2, .int .i64 2, .int .i64 1, .int .i64 3, .int .i64 3, .int .i64 1, .int .i64 4, .int .i64 0, .int .i64 1] 45)))
  generalize (((w.alloc (.cells #[.slice (some ⟨w.heap.size + 1, 0, none⟩) 4 4, .slice (some ⟨w.heap.size + 1 + 1, 0, none⟩) 4 4] 25)).alloc (.cells #[.int .i64 (-1), .int .i64 c, .int .i64 0, .int .i64 6, .int .i64 0, .int .i64 5, .int .i64 1, .int .i64 4] 78)).alloc (.cells #[.int .i64 1, .int .i64 1, .int .i64 1, .int .i64 2, .int .i64 2, .int .i64 1, .int .i64 3, .int .i64 3, .int .i64 1, .int .i64 4, .int .i64 0, .int .i64 1] 45)) = W at q2 q3 q4 hx ⊢
  have c0 : W.cell? ⟨w.heap.size, 0, none⟩ = _ := q2.cell 0
  have c1 : W.cell? ⟨w.heap.size, 1, none⟩ = _ := q2.cell 1
  refine bodyPost_ret (v := .agg #[.slice (some ⟨w.heap.size + 1, 0, none⟩) 4 4, .slice (some ⟨w.heap.size + 1 + 1, 0, none⟩) 4 4]) (by simp [results, Try.f52, go_sem, c0, c1]) rfl ⟨_, _, rfl, ⟨?_, ?_⟩, hx⟩
  · refine ⟨_, 4, rfl, by simp [brook], fun i hi => ⟨w.heap.size + 1, 0, rfl, ?_⟩⟩
    have hi4 : i < 4 := by simpa [brook] using hi
    rcases (by omega : i = 0 ∨ i = 1 ∨ i = 2 ∨ i = 3) with rfl | rfl | rfl | rfl
    · exact ⟨q3.cell 0, q3.cell 1⟩
    · exact ⟨q3.cell 2, q3.cell 3⟩
    · exact ⟨q3.cell 4, q3.cell 5⟩
    · exact ⟨q3.cell 6, q3.cell 7⟩
  · refine ⟨_, 4, rfl, by simp [brook], fun i hi => ⟨w.heap.size + 1 + 1, 0, rfl, ?_⟩⟩
    have hi4 : i < 4 := by simpa [brook] using hi
    rcases (by omega : i = 0 ∨ i = 1 ∨ i = 2 ∨ i = 3) with rfl | rfl | rfl | rfl
    · exact ⟨q4.cell 0, q4.cell 1, q4.cell 2⟩
    · exact ⟨q4.cell 3, q4.cell 4, q4.cell 5⟩
    · exact ⟨q4.cell 6, q4.cell 7, q4.cell 8⟩
    · exact ⟨q4.cell 9, q4.cell 10, q4.cell 11⟩

def numB (l : List Ra) (ws : List Int) : Bool := decide (l = ws.map (fun n => ⟨n, 1⟩))
set_option maxRecDepth 100000 in
set_option maxHeartbeats 4000000 in
theorem numbers_any (v u : Value) (l : List Ra) (ws : List Int) (w : World) (hl : RasAt w v l) (hr : IntsAt w u ws) (hn : l.length ≤ 1000000) :
    Calls Try.prog 53 #[v, u] w fun e w' => e = .returned (.bool (numB l ws)) ∧ Ext w w' := by
  obtain ⟨ao, cap, rfl, hcap⟩ := hl.len
  obtain ⟨bo, cap2, rfl, hcap2⟩ := hr.len
  obtain ⟨D, hD⟩ : ∃ D, numB l ws = D := ⟨_, rfl⟩
  have HD := Lib.hid hD
  rw [hD]
  clear hD
  by_cases hlen : l.length = ws.length
  · have HL := Lib.hid hlen
    have hb : ((l.length : Int) == (ws.length : Int)) = true := by simp [hlen]
    rw [← hlen]
    clear hlen hb
    go_enter Try.func53, Try.ntmps53
    go_wp2_with fail
    go_loopw [5] (fun i wr => ∃ k : Nat, k ≤ l.length ∧ i = .int .i64 k ∧ Hid (∀ j (h : j < l.length) (h' : j < ws.length), j < k → l[j] = ⟨ws[j], 1⟩) ∧ Ext w wr) (fun i _ => l.length - (intOf i).toNat)
    case atStart => exact ⟨0, Nat.zero_le _, rfl, Lib.hid (fun _ _ _ h => by omega), Ext.refl _⟩
    case round =>
      obtain ⟨k, hk, rfl, HK, hx⟩ := hrel
      by_cases hlt : k < l.length
      · have hlt2 : k < ws.length := by have := HL.out; omega
        have hr' := hr.ext hx
        obtain ⟨b, o, rfl, c0, c1⟩ := (hl.ext hx).get k hlt
        obtain ⟨b2, o2, rfl, c2⟩ := hr'.get k hlt2
        obtain ⟨x, hxx⟩ : ∃ x, l[k].n = x := ⟨_, rfl⟩
        obtain ⟨z, hzz⟩ : ∃ x, l[k].d = x := ⟨_, rfl⟩
        obtain ⟨y, hyy⟩ : ∃ x, ws[k] = x := ⟨_, rfl⟩
        rw [hxx] at c0
        rw [hzz] at c1
        rw [hyy] at c2
        have hkr : (k : Int) < (ws.length : Int) := by omega
        by_cases hq : x = y ∧ z = 1
        · have HK2 : Hid (∀ j (h : j < l.length) (h' : j < ws.length), j < k + 1 → l[j] = ⟨ws[j], 1⟩) := Lib.hid (fun j h h' hj => by
            by_cases hjk : j = k
            · subst hjk
              have : l[j] = ⟨l[j].n, l[j].d⟩ := rfl
              rw [this, hxx, hzz, hyy, hq.1, hq.2]
            · exact HK.out j h h' (by omega))
          obtain ⟨rfl, rfl⟩ := hq
          clear hxx hyy hzz HK hr'
          go_wp2_with fail
          (try go_quiet (fail))
          (try go_wp2_with fail)
          go_roundw
          case rel => exact ⟨k + 1, by omega, by go_num, HK2, hx.trans (by repeat (first | exact Ext.refl _ | assumption | refine Ext.alloc ?_ _ | refine Ext.drew ?_ | refine Ext.drewN _ ?_ | refine Ext.trans ?_ (by assumption)))⟩
          case measure => simp [intOf]; omega
        · have hm : D = false := by
            rw [← HD.out]
            unfold numB
            rw [decide_eq_false_iff_not]
            intro he
            apply hq
            have h1 : l[k] = ⟨ws[k], 1⟩ := by simp [he]
            rw [← hxx, ← hzz, h1, hyy]
            exact ⟨rfl, rfl⟩
          have HM := Lib.hid hm
          clear hxx hyy hzz hm HK hr'
          cases hxb : (x == y)
          · have hxb2 : (x != y) = true := by simp [bne, hxb]
            go_wp2_with fail
            (try go_quiet (fail))
            (try go_wp2_with fail)
            go_ret
            exact ⟨ret_bool HM.out.symm, hx.trans (by repeat (first | exact Ext.refl _ | assumption | refine Ext.alloc ?_ _ | refine Ext.drew ?_ | refine Ext.drewN _ ?_ | refine Ext.trans ?_ (by assumption)))⟩
          · have hxe : x = y := by simpa using hxb
            have hze : ¬ z = 1 := fun h => hq ⟨hxe, h⟩
            have hzb : (z == 1) = false := by simpa using hze
            subst hxe
            clear hq
            go_wp2_with fail
            (try go_quiet (fail))
            (try go_wp2_with fail)
            go_ret
            exact ⟨ret_bool HM.out.symm, hx.trans (by repeat (first | exact Ext.refl _ | assumption | refine Ext.alloc ?_ _ | refine Ext.drew ?_ | refine Ext.drewN _ ?_ | refine Ext.trans ?_ (by assumption)))⟩
      · have hm : D = true := by
          rw [← HD.out]
          unfold numB
          rw [decide_eq_true_eq]
          exact List.ext_getElem (by simpa using HL.out) (fun j h1 h2 => by rw [List.getElem_map]; exact HK.out j h1 (by simpa using h2) (by omega))
        have HM := Lib.hid hm
        clear hm HK
        go_wp2
        go_ret
        exact ⟨ret_bool HM.out.symm, hx⟩
  · have hm : D = false := by
      rw [← HD.out]
      unfold numB
      rw [decide_eq_false_iff_not]
      intro he
      exact hlen (by rw [he]; simp)
    have HM := Lib.hid hm
    have hne : ¬ ((l.length : Int) = (ws.length : Int)) := by omega
    clear hm hlen
    go_enter Try.func53, Try.ntmps53
    go_wp2
    go_ret
    exact ⟨ret_bool HM.out.symm, Ext.refl _⟩

def FewPost (w : World) (m n : Nat) (e : Ending) (w' : World) : Prop := ∃ F : Bool, e = .returned (.bool F) ∧ (F = true → m ≤ 40 ∧ n ≤ 40) ∧ Ext w w'
set_option maxRecDepth 100000 in
set_option maxHeartbeats 4000000 in
theorem few_any (a b : Value) (T : Tr) (w : World) (hT : TrAt w a b T) :
    Calls Try.prog 13 #[.agg #[a, b]] w (FewPost w T.rs.length T.ps.length) := by
  obtain ⟨ar, cr, rfl, hlr⟩ := hT.r.len
  obtain ⟨ab, cb, rfl, hlb⟩ := hT.p.len
  obtain ⟨m, hm⟩ : ∃ m, T.rs.length = m := ⟨_, rfl⟩
  obtain ⟨n, hn⟩ : ∃ m, T.ps.length = m := ⟨_, rfl⟩
  rw [hm, hn]
  clear hm hn hT hlr hlb
  have part : ∀ k : Nat, (k ≤ 10) ∨ (¬ k ≤ 10 ∧ ¬ 24 < k) ∨ (¬ k ≤ 10 ∧ 24 < k) := fun k => by omega
  rcases part m with h1 | ⟨h1, h2⟩ | ⟨h1, h2⟩
  all_goals
    rcases part n with g1 | ⟨g1, g2⟩ | ⟨g1, g2⟩
    all_goals
      go_enter Try.func13, Try.ntmps13
      go_wp2
      all_goals go_ret
      all_goals refine ⟨_, rfl, fun h => ?_, (by repeat (first | exact Ext.refl _ | assumption | refine Ext.alloc ?_ _ | refine Ext.drew ?_ | refine Ext.drewN _ ?_ | refine Ext.trans ?_ (by assumption)))⟩
      all_goals first | omega | (simp at h; done) | (simp at h; omega)
end Go.Proofs.Ythopgonbndoidaa
