/- everybody: the IDs of all payers, in increasing order. -/
import Derived.Test.YthopgonbndoidaaVPut
namespace Go.Proofs.Ythopgonbndoidaa
open Go.RowKit Go.Shelf Go.Lib

def evL (ps : List Py) : List Int := ps.foldl (fun o p => putL o p.id) []
theorem evL_snoc (l : List Py) (p : Py) : evL (l ++ [p]) = putL (evL l) p.id := by simp [evL]
theorem evL_len (l : List Py) : (evL l).length = l.length := by
  induction l using snoc_ind with
  | h0 => rfl
  | h1 l p ih => rw [evL_snoc, putL_len, ih, List.length_append, List.length_singleton]
set_option maxRecDepth 100000 in
set_option maxHeartbeats 16000000 in
theorem everybody_any (a b : Value) (T : Tr) (w : World) (hT : TrAt w a b T) (hp : T.ps.length ≤ 100000) :
    Calls Try.prog 17 #[.agg #[a, b]] w fun e w' => ∃ u, e = .returned u ∧ RowI w.heap.size u (evL T.ps) w' ∧ Ext w w' := by
  obtain ⟨ab, cb, rfl, hlb⟩ := hT.p.len
  go_enter Try.func17, Try.ntmps17
  go_upto_region 1 with fail
  obtain ⟨W1, hW1⟩ : ∃ W1, w.alloc (.cells #[a, .slice ab T.ps.length cb] 25) = W1 := ⟨_, rfl⟩
  have hx1 : Ext w W1 := by rw [← hW1]; exact (by repeat (first | exact Ext.refl _ | assumption | refine Ext.alloc ?_ _ | refine Ext.drew ?_ | refine Ext.drewN _ ?_ | refine Ext.trans ?_ (by assumption)))
  have q1 : Cls w.heap.size 25 #[a, .slice ab T.ps.length cb] W1 := by rw [← hW1]; exact Cls.new _ _ _
  try rw [hW1]
  clear hW1
  have hR1 : Hid (RowI (w.heap.size + 1) (.slice none 0 0) (evL (T.ps.take 0)) W1) := Lib.hid (rowI_nil _ _)
  go_wp2_with fail
  go_loopw [3, 4] (fun o i wr => ∃ k : Nat, k ≤ T.ps.length ∧ i = .int .i64 k ∧ Hid (RowI (w.heap.size + 1) o (evL (T.ps.take k)) wr) ∧ Cls w.heap.size 25 #[a, .slice ab T.ps.length cb] wr ∧ Ext w wr) (fun _ i _ => T.ps.length - (intOf i).toNat)
  case atStart => exact ⟨0, Nat.zero_le _, rfl, hR1, q1, hx1⟩
  case round =>
    clear hR1 q1 hx1
    obtain ⟨i, hi, rfl, HR, q0, hx0⟩ := hrel
    have d1 : wr.cell? ⟨w.heap.size, 1, none⟩ = some (.slice ab T.ps.length cb) := q0.cell 1
    by_cases hlt : i < T.ps.length
    · have hii : (i : Int) < (T.ps.length : Int) := by omega
      obtain ⟨bb, oo, rfl, p0, _, _⟩ := (hT.p.ext hx0).get i hlt
      have hst := evL_snoc (T.ps.take i) T.ps[i]
      rw [← take_succ_get _ _ hlt] at hst
      have hll := evL_len (T.ps.take i)
      obtain ⟨n, hnn⟩ : ∃ n, T.ps[i].id = n := ⟨_, rfl⟩
      rw [hnn] at p0 hst
      obtain ⟨l, hlL⟩ : ∃ l, evL (T.ps.take i) = l := ⟨_, rfl⟩
      rw [hlL] at hst HR hll
      have hln : l.length ≤ 100000 := by rw [hll, List.length_take]; omega
      have hR := HR.out
      obtain ⟨ao, cap, rfl⟩ := hR.form
      have hl := hR.at_
      obtain ⟨ao', cap', hv, hcap, _⟩ := id hl
      simp only [Value.slice.injEq] at hv
      obtain ⟨rfl, _, rfl⟩ := hv
      obtain ⟨P, hP⟩ : ∃ P, putL l n = P := ⟨_, rfl⟩
      have HP0 := Lib.hid hP
      rw [hP] at hst
      have HPP := Lib.hid hst
      clear hst hll hnn hlL hP hR HR
      go_upto_region 6 with fail
      obtain ⟨wk, hwk⟩ : ∃ wk, wr = wk := ⟨_, rfl⟩
      subst hwk
      go_loopw [5] (fun j wr' => ∃ k : Nat, k ≤ l.length ∧ j = .int .i64 k ∧ Hid (∀ i (h : i < l.length), i < k → l[i] < n) ∧ Ext wr wr') (fun j _ => l.length - (intOf j).toNat)
      case atStart => exact ⟨0, Nat.zero_le _, rfl, Lib.hid (fun i _ h => by omega), Ext.refl _⟩
      case round =>
        obtain ⟨k, hk, rfl, HK, hxk⟩ := hrel
        replace hl := hl.ext hxk
        replace q0 := q0.ext hxk
        replace hx0 := hx0.trans hxk
        replace d1 := hxk.cell d1
        replace p0 := hxk.cell p0
        have fin : (∀ h : k < l.length, ¬ l[k] < n) → Hid (l.take k ++ n :: l.drop k = P) := fun h => Lib.hid (by rw [← HP0.out, putL_at hk HK.out h])
        have hke : k ≤ cap := by omega
        have hki : (k : Int) ≤ (cap : Int) := by omega
        have hkn : (k : Int) ≤ (l.length : Int) := by omega
        by_cases hltk : k < l.length
        · obtain ⟨b, o, rfl, c0⟩ := hl.get k hltk
          obtain ⟨x, hxx⟩ : ∃ x, l[k] = x := ⟨_, rfl⟩
          rw [hxx] at c0
          by_cases hxn : x < n
          · have HK2 : Hid (∀ i (h : i < l.length), i < k + 1 → l[i] < n) := Lib.hid (fun i h hi => by
              by_cases hik : i = k
              · subst hik; rw [hxx]; exact hxn
              · exact HK.out i h (by omega))
            clear fin hxx HK
            have hbx : decide (x < n) = true := decide_eq_true hxn
            go_upto_region 6 with fail
            refine wp_region_held_drew (S := fun W' => W'.cell? ⟨w.heap.size, 1, none⟩ = some (.slice (some ⟨bb, oo, none⟩) T.ps.length cb) ∧ W'.cell? ⟨bb, oo + i * 3, none⟩ = some (.int .i64 n) ∧ W'.cell? ⟨b, o + k, none⟩ = some (.int .i64 x) ∧ Ext wr W') (by kernel_rfl) ?_ (fun hHeld => ?_)
            · exact ⟨d1, p0, c0, Ext.drew (Ext.refl _)⟩
            (refine wpAnyH_take (i := 0) (v := ?_) rfl (by kernel_rfl) (by kernel_rfl) (by kernel_rfl) (fun _ _ _ h => h) (Or.inl ⟨by rfl, ?_⟩) (by assumption) ?_; rotate_left 1; (focus (intro w hSw; (try dsimp only at hSw); go_simp; try (with_reducible rfl))))
            try simp only [Act.put, List.getElem_toArray, List.getElem_cons_zero, List.setIfInBounds_toArray, List.set_cons_zero, List.set_cons_succ]
            (refine wpAnyH_take (i := 1) (v := ?_) rfl (by kernel_rfl) (by kernel_rfl) (by kernel_rfl) (fun _ _ _ h => h) (Or.inl ⟨by rfl, ?_⟩) (by assumption) ?_; rotate_left 1; (focus (intro w hSw; (try dsimp only at hSw); go_simp; try (with_reducible rfl))))
            try simp only [Act.put, List.getElem_toArray, List.getElem_cons_zero, List.getElem_cons_succ, List.setIfInBounds_toArray, List.set_cons_zero, List.set_cons_succ]
            (refine wpAnyH_take (i := 2) (v := ?_) rfl (by kernel_rfl) (by kernel_rfl) (by kernel_rfl) (fun _ _ _ h => h) (Or.inl ⟨by rfl, ?_⟩) (by assumption) ?_; rotate_left 1; (focus (intro w hSw; (try dsimp only at hSw); go_simp; try (with_reducible rfl))))
            try simp only [Act.put, List.getElem_toArray, List.getElem_cons_zero, List.getElem_cons_succ, List.setIfInBounds_toArray, List.set_cons_zero, List.set_cons_succ]
            (refine wpAnyH_take (i := 3) (v := ?_) rfl (by kernel_rfl) (by kernel_rfl) (by kernel_rfl) (fun _ _ _ h => h) (Or.inl ⟨by rfl, ?_⟩) (by assumption) ?_; rotate_left 1; (focus (intro w hSw; (try dsimp only at hSw); go_simp; try (with_reducible rfl))))
            try simp only [Act.put, List.getElem_toArray, List.getElem_cons_zero, List.getElem_cons_succ, List.setIfInBounds_toArray, List.set_cons_zero, List.set_cons_succ]
            (refine wpAnyH_take (i := 4) (v := ?_) rfl (by kernel_rfl) (by kernel_rfl) (by kernel_rfl) (fun _ _ _ h => h) (Or.inl ⟨by rfl, ?_⟩) (by assumption) ?_; rotate_left 1; (focus (intro w hSw; (try dsimp only at hSw); go_simp; try (with_reducible rfl))))
            try simp only [Act.put, List.getElem_toArray, List.getElem_cons_zero, List.getElem_cons_succ, List.setIfInBounds_toArray, List.set_cons_zero, List.set_cons_succ]
            (refine wpAnyH_take (i := 5) (v := ?_) rfl (by kernel_rfl) (by kernel_rfl) (by kernel_rfl) (fun _ _ _ h => h) (Or.inl ⟨by rfl, ?_⟩) (by assumption) ?_; rotate_left 1; (focus (intro w hSw; (try dsimp only at hSw); go_simp; try (with_reducible rfl))))
            try simp only [Act.put, List.getElem_toArray, List.getElem_cons_zero, List.getElem_cons_succ, List.setIfInBounds_toArray, List.set_cons_zero, List.set_cons_succ]
            (refine wpAnyH_take (i := 6) (v := ?_) rfl (by kernel_rfl) (by kernel_rfl) (by kernel_rfl) (fun _ _ _ h => h) (Or.inl ⟨by rfl, ?_⟩) (by assumption) ?_; rotate_left 1; (focus (intro w hSw; (try dsimp only at hSw); go_simp; try (with_reducible rfl))))
            try simp only [Act.put, List.getElem_toArray, List.getElem_cons_zero, List.getElem_cons_succ, List.setIfInBounds_toArray, List.set_cons_zero, List.set_cons_succ]
            (refine wpAnyH_take (i := 7) (v := ?_) rfl (by kernel_rfl) (by kernel_rfl) (by kernel_rfl) (fun _ _ _ h => h) (Or.inl ⟨by rfl, ?_⟩) (by assumption) ?_; rotate_left 1; (focus (intro w hSw; (try dsimp only at hSw); go_simp; try (with_reducible rfl))))
            try simp only [Act.put, List.getElem_toArray, List.getElem_cons_zero, List.getElem_cons_succ, List.setIfInBounds_toArray, List.set_cons_zero, List.set_cons_succ]
            (refine wpAnyH_take (i := 8) (v := ?_) rfl (by kernel_rfl) (by kernel_rfl) (by kernel_rfl) (fun _ _ _ h => h) (Or.inl ⟨by rfl, ?_⟩) (by assumption) ?_; rotate_left 1; (focus (intro w hSw; (try dsimp only at hSw); go_simp; try (with_reducible rfl))))
            try simp only [Act.put, List.getElem_toArray, List.getElem_cons_zero, List.getElem_cons_succ, List.setIfInBounds_toArray, List.set_cons_zero, List.set_cons_succ]
            (refine wpAnyH_take (i := 9) (v := ?_) rfl (by kernel_rfl) (by kernel_rfl) (by kernel_rfl) (fun _ _ _ h => h) (Or.inl ⟨by rfl, ?_⟩) (by assumption) ?_; rotate_left 1; (focus (intro w hSw; (try dsimp only at hSw); go_simp; try (with_reducible rfl))))
            try simp only [Act.put, List.getElem_toArray, List.getElem_cons_zero, List.getElem_cons_succ, List.setIfInBounds_toArray, List.set_cons_zero, List.set_cons_succ]
            (refine wpAnyH_take (i := 10) (v := ?_) rfl (by kernel_rfl) (by kernel_rfl) (by kernel_rfl) (fun _ _ _ h => h) (Or.inl ⟨by rfl, ?_⟩) (by assumption) ?_; rotate_left 1; (focus (intro w hSw; (try dsimp only at hSw); go_simp; try (with_reducible rfl))))
            try simp only [Act.put, List.getElem_toArray, List.getElem_cons_zero, List.getElem_cons_succ, List.setIfInBounds_toArray, List.set_cons_zero, List.set_cons_succ]
            (refine wpAnyH_take (i := 11) (v := ?_) rfl (by kernel_rfl) (by kernel_rfl) (by kernel_rfl) (fun _ _ _ h => h) (Or.inl ⟨by rfl, ?_⟩) (by assumption) ?_; rotate_left 1; (focus (intro w hSw; (try dsimp only at hSw); go_simp; try (with_reducible rfl))))
            try simp only [Act.put, List.getElem_toArray, List.getElem_cons_zero, List.getElem_cons_succ, List.setIfInBounds_toArray, List.set_cons_zero, List.set_cons_succ]
            (refine wpAnyH_take (i := 12) (v := ?_) rfl (by kernel_rfl) (by kernel_rfl) (by kernel_rfl) (fun _ _ _ h => h) (Or.inl ⟨by rfl, ?_⟩) (by assumption) ?_; rotate_left 1; (focus (intro w hSw; (try dsimp only at hSw); go_simp; try (with_reducible rfl))))
            try simp only [Act.put, List.getElem_toArray, List.getElem_cons_zero, List.getElem_cons_succ, List.setIfInBounds_toArray, List.set_cons_zero, List.set_cons_succ]
            (refine wpAnyH_take (i := 13) (v := ?_) rfl (by kernel_rfl) (by kernel_rfl) (by kernel_rfl) (fun _ _ _ h => h) (Or.inl ⟨by rfl, ?_⟩) (by assumption) ?_; rotate_left 1; (focus (intro w hSw; (try dsimp only at hSw); go_simp; try (with_reducible rfl))))
            try simp only [Act.put, List.getElem_toArray, List.getElem_cons_zero, List.getElem_cons_succ, List.setIfInBounds_toArray, List.set_cons_zero, List.set_cons_succ]
            (refine wpAnyH_take (i := 14) (v := ?_) rfl (by kernel_rfl) (by kernel_rfl) (by kernel_rfl) (fun _ _ _ h => h) (Or.inl ⟨by rfl, ?_⟩) (by assumption) ?_; rotate_left 1; (focus (intro w hSw; (try dsimp only at hSw); go_simp; try (with_reducible rfl))))
            try simp only [Act.put, List.getElem_toArray, List.getElem_cons_zero, List.getElem_cons_succ, List.setIfInBounds_toArray, List.set_cons_zero, List.set_cons_succ]
            (refine wpAnyH_take (i := 15) (v := ?_) rfl (by kernel_rfl) (by kernel_rfl) (by kernel_rfl) (fun _ _ _ h => h) (Or.inl ⟨by rfl, ?_⟩) (by assumption) ?_; rotate_left 1; (focus (intro w hSw; (try dsimp only at hSw); go_simp; try (with_reducible rfl))))
            try simp only [Act.put, List.getElem_toArray, List.getElem_cons_zero, List.getElem_cons_succ, List.setIfInBounds_toArray, List.set_cons_zero, List.set_cons_succ]
            (refine wpAnyH_take (i := 16) (v := ?_) rfl (by kernel_rfl) (by kernel_rfl) (by kernel_rfl) (fun _ _ _ h => h) (Or.inl ⟨by rfl, ?_⟩) (by assumption) ?_; rotate_left 1; (focus (intro w hSw; (try dsimp only at hSw); go_simp; try (with_reducible rfl))))
            try simp only [Act.put, List.getElem_toArray, List.getElem_cons_zero, List.getElem_cons_succ, List.setIfInBounds_toArray, List.set_cons_zero, List.set_cons_succ]
            refine wpAnyH_done (by kernel_rfl) ?_ _
            obtain ⟨wv, hwv⟩ : ∃ V, wr.drew = V := ⟨_, rfl⟩
            rw [hwv] at hHeld ⊢
            replace hl := hl.ext hHeld.2.2.2
            replace q0 := q0.ext hHeld.2.2.2
            replace hx0 := hx0.trans hHeld.2.2.2
            replace d1 := hHeld.1
            replace p0 := hHeld.2.1
            have hxv := hHeld.2.2.2
            clear hHeld hwv
            go_wp2_with fail
            go_roundw
            case rel => exact ⟨k + 1, by omega, by go_num, HK2, hxk.trans hxv⟩
            case measure => simp [intOf]; omega
          · have HP := fin (fun _ => by rw [hxx]; exact hxn)
            have hbx : decide (x < n) = false := decide_eq_false hxn
            clear fin hxx HK
            go_upto_region 6 with fail
            refine wp_region_held_drew (S := fun W' => W'.cell? ⟨w.heap.size, 1, none⟩ = some (.slice (some ⟨bb, oo, none⟩) T.ps.length cb) ∧ W'.cell? ⟨bb, oo + i * 3, none⟩ = some (.int .i64 n) ∧ W'.cell? ⟨b, o + k, none⟩ = some (.int .i64 x) ∧ Ext wr W') (by kernel_rfl) ?_ (fun hHeld => ?_)
            · exact ⟨d1, p0, c0, Ext.drew (Ext.refl _)⟩
            (refine wpAnyH_take (i := 0) (v := ?_) rfl (by kernel_rfl) (by kernel_rfl) (by kernel_rfl) (fun _ _ _ h => h) (Or.inl ⟨by rfl, ?_⟩) (by assumption) ?_; rotate_left 1; (focus (intro w hSw; (try dsimp only at hSw); go_simp; try (with_reducible rfl))))
            try simp only [Act.put, List.getElem_toArray, List.getElem_cons_zero, List.setIfInBounds_toArray, List.set_cons_zero, List.set_cons_succ]
            (refine wpAnyH_take (i := 1) (v := ?_) rfl (by kernel_rfl) (by kernel_rfl) (by kernel_rfl) (fun _ _ _ h => h) (Or.inl ⟨by rfl, ?_⟩) (by assumption) ?_; rotate_left 1; (focus (intro w hSw; (try dsimp only at hSw); go_simp; try (with_reducible rfl))))
            try simp only [Act.put, List.getElem_toArray, List.getElem_cons_zero, List.getElem_cons_succ, List.setIfInBounds_toArray, List.set_cons_zero, List.set_cons_succ]
            (refine wpAnyH_take (i := 2) (v := ?_) rfl (by kernel_rfl) (by kernel_rfl) (by kernel_rfl) (fun _ _ _ h => h) (Or.inl ⟨by rfl, ?_⟩) (by assumption) ?_; rotate_left 1; (focus (intro w hSw; (try dsimp only at hSw); go_simp; try (with_reducible rfl))))
            try simp only [Act.put, List.getElem_toArray, List.getElem_cons_zero, List.getElem_cons_succ, List.setIfInBounds_toArray, List.set_cons_zero, List.set_cons_succ]
            (refine wpAnyH_take (i := 3) (v := ?_) rfl (by kernel_rfl) (by kernel_rfl) (by kernel_rfl) (fun _ _ _ h => h) (Or.inl ⟨by rfl, ?_⟩) (by assumption) ?_; rotate_left 1; (focus (intro w hSw; (try dsimp only at hSw); go_simp; try (with_reducible rfl))))
            try simp only [Act.put, List.getElem_toArray, List.getElem_cons_zero, List.getElem_cons_succ, List.setIfInBounds_toArray, List.set_cons_zero, List.set_cons_succ]
            (refine wpAnyH_take (i := 4) (v := ?_) rfl (by kernel_rfl) (by kernel_rfl) (by kernel_rfl) (fun _ _ _ h => h) (Or.inl ⟨by rfl, ?_⟩) (by assumption) ?_; rotate_left 1; (focus (intro w hSw; (try dsimp only at hSw); go_simp; try (with_reducible rfl))))
            try simp only [Act.put, List.getElem_toArray, List.getElem_cons_zero, List.getElem_cons_succ, List.setIfInBounds_toArray, List.set_cons_zero, List.set_cons_succ]
            (refine wpAnyH_take (i := 5) (v := ?_) rfl (by kernel_rfl) (by kernel_rfl) (by kernel_rfl) (fun _ _ _ h => h) (Or.inl ⟨by rfl, ?_⟩) (by assumption) ?_; rotate_left 1; (focus (intro w hSw; (try dsimp only at hSw); go_simp; try (with_reducible rfl))))
            try simp only [Act.put, List.getElem_toArray, List.getElem_cons_zero, List.getElem_cons_succ, List.setIfInBounds_toArray, List.set_cons_zero, List.set_cons_succ]
            (refine wpAnyH_take (i := 6) (v := ?_) rfl (by kernel_rfl) (by kernel_rfl) (by kernel_rfl) (fun _ _ _ h => h) (Or.inl ⟨by rfl, ?_⟩) (by assumption) ?_; rotate_left 1; (focus (intro w hSw; (try dsimp only at hSw); go_simp; try (with_reducible rfl))))
            try simp only [Act.put, List.getElem_toArray, List.getElem_cons_zero, List.getElem_cons_succ, List.setIfInBounds_toArray, List.set_cons_zero, List.set_cons_succ]
            (refine wpAnyH_take (i := 7) (v := ?_) rfl (by kernel_rfl) (by kernel_rfl) (by kernel_rfl) (fun _ _ _ h => h) (Or.inl ⟨by rfl, ?_⟩) (by assumption) ?_; rotate_left 1; (focus (intro w hSw; (try dsimp only at hSw); go_simp; try (with_reducible rfl))))
            try simp only [Act.put, List.getElem_toArray, List.getElem_cons_zero, List.getElem_cons_succ, List.setIfInBounds_toArray, List.set_cons_zero, List.set_cons_succ]
            (refine wpAnyH_take (i := 8) (v := ?_) rfl (by kernel_rfl) (by kernel_rfl) (by kernel_rfl) (fun _ _ _ h => h) (Or.inl ⟨by rfl, ?_⟩) (by assumption) ?_; rotate_left 1; (focus (intro w hSw; (try dsimp only at hSw); go_simp; try (with_reducible rfl))))
            try simp only [Act.put, List.getElem_toArray, List.getElem_cons_zero, List.getElem_cons_succ, List.setIfInBounds_toArray, List.set_cons_zero, List.set_cons_succ]
            (refine wpAnyH_take (i := 9) (v := ?_) rfl (by kernel_rfl) (by kernel_rfl) (by kernel_rfl) (fun _ _ _ h => h) (Or.inl ⟨by rfl, ?_⟩) (by assumption) ?_; rotate_left 1; (focus (intro w hSw; (try dsimp only at hSw); go_simp; try (with_reducible rfl))))
            try simp only [Act.put, List.getElem_toArray, List.getElem_cons_zero, List.getElem_cons_succ, List.setIfInBounds_toArray, List.set_cons_zero, List.set_cons_succ]
            (refine wpAnyH_take (i := 10) (v := ?_) rfl (by kernel_rfl) (by kernel_rfl) (by kernel_rfl) (fun _ _ _ h => h) (Or.inl ⟨by rfl, ?_⟩) (by assumption) ?_; rotate_left 1; (focus (intro w hSw; (try dsimp only at hSw); go_simp; try (with_reducible rfl))))
            try simp only [Act.put, List.getElem_toArray, List.getElem_cons_zero, List.getElem_cons_succ, List.setIfInBounds_toArray, List.set_cons_zero, List.set_cons_succ]
            (refine wpAnyH_take (i := 11) (v := ?_) rfl (by kernel_rfl) (by kernel_rfl) (by kernel_rfl) (fun _ _ _ h => h) (Or.inl ⟨by rfl, ?_⟩) (by assumption) ?_; rotate_left 1; (focus (intro w hSw; (try dsimp only at hSw); go_simp; try (with_reducible rfl))))
            try simp only [Act.put, List.getElem_toArray, List.getElem_cons_zero, List.getElem_cons_succ, List.setIfInBounds_toArray, List.set_cons_zero, List.set_cons_succ]
            (refine wpAnyH_take (i := 12) (v := ?_) rfl (by kernel_rfl) (by kernel_rfl) (by kernel_rfl) (fun _ _ _ h => h) (Or.inl ⟨by rfl, ?_⟩) (by assumption) ?_; rotate_left 1; (focus (intro w hSw; (try dsimp only at hSw); go_simp; try (with_reducible rfl))))
            try simp only [Act.put, List.getElem_toArray, List.getElem_cons_zero, List.getElem_cons_succ, List.setIfInBounds_toArray, List.set_cons_zero, List.set_cons_succ]
            (refine wpAnyH_take (i := 13) (v := ?_) rfl (by kernel_rfl) (by kernel_rfl) (by kernel_rfl) (fun _ _ _ h => h) (Or.inl ⟨by rfl, ?_⟩) (by assumption) ?_; rotate_left 1; (focus (intro w hSw; (try dsimp only at hSw); go_simp; try (with_reducible rfl))))
            try simp only [Act.put, List.getElem_toArray, List.getElem_cons_zero, List.getElem_cons_succ, List.setIfInBounds_toArray, List.set_cons_zero, List.set_cons_succ]
            (refine wpAnyH_take (i := 14) (v := ?_) rfl (by kernel_rfl) (by kernel_rfl) (by kernel_rfl) (fun _ _ _ h => h) (Or.inl ⟨by rfl, ?_⟩) (by assumption) ?_; rotate_left 1; (focus (intro w hSw; (try dsimp only at hSw); go_simp; try (with_reducible rfl))))
            try simp only [Act.put, List.getElem_toArray, List.getElem_cons_zero, List.getElem_cons_succ, List.setIfInBounds_toArray, List.set_cons_zero, List.set_cons_succ]
            (refine wpAnyH_take (i := 15) (v := ?_) rfl (by kernel_rfl) (by kernel_rfl) (by kernel_rfl) (fun _ _ _ h => h) (Or.inl ⟨by rfl, ?_⟩) (by assumption) ?_; rotate_left 1; (focus (intro w hSw; (try dsimp only at hSw); go_simp; try (with_reducible rfl))))
            try simp only [Act.put, List.getElem_toArray, List.getElem_cons_zero, List.getElem_cons_succ, List.setIfInBounds_toArray, List.set_cons_zero, List.set_cons_succ]
            (refine wpAnyH_take (i := 16) (v := ?_) rfl (by kernel_rfl) (by kernel_rfl) (by kernel_rfl) (fun _ _ _ h => h) (Or.inl ⟨by rfl, ?_⟩) (by assumption) ?_; rotate_left 1; (focus (intro w hSw; (try dsimp only at hSw); go_simp; try (with_reducible rfl))))
            try simp only [Act.put, List.getElem_toArray, List.getElem_cons_zero, List.getElem_cons_succ, List.setIfInBounds_toArray, List.set_cons_zero, List.set_cons_succ]
            refine wpAnyH_done (by kernel_rfl) ?_ _
            obtain ⟨wv, hwv⟩ : ∃ V, wr.drew = V := ⟨_, rfl⟩
            rw [hwv] at hHeld ⊢
            replace hl := hl.ext hHeld.2.2.2
            replace q0 := q0.ext hHeld.2.2.2
            replace hx0 := hx0.trans hHeld.2.2.2
            replace d1 := hHeld.1
            replace p0 := hHeld.2.1
            have hxv := hHeld.2.2.2
            clear hHeld hwv
            go_upto_region 8 with fail
            obtain ⟨V, hV⟩ : ∃ V, wv.drew = V := ⟨_, rfl⟩
            have hxV : Ext wv V := by rw [← hV]; exact (by repeat (first | exact Ext.refl _ | assumption | refine Ext.alloc ?_ _ | refine Ext.drew ?_ | refine Ext.drewN _ ?_ | refine Ext.trans ?_ (by assumption)))
            have hbV : w.heap.size + 1 ≤ V.heap.size := Nat.le_trans q0.lt hxV.size
            have hTk : ∀ {W}, Ext V W → IntsAt W (sliced (some ⟨b, o, none⟩) 0 k cap 1) (l.take k) := fun h => (hl.ext (hxV.trans h)).slicedT k hk
            have hDr : ∀ {W}, Ext V W → IntsAt W (sliced (some ⟨b, o, none⟩) k l.length cap 1) (l.drop k) := fun h => (hl.ext (hxV.trans h)).slicedD k hk
            have hx : Ext V V := Ext.refl _
            obtain ⟨BS, hBS⟩ : ∃ B, B = V.heap.size := ⟨_, rfl⟩
            have HBS := Lib.hid hBS
            rw [← hBS] at hbV
            clear hBS
            refine wp_region_held_drew (S := fun W' => W'.cell? ⟨w.heap.size, 1, none⟩ = some (.slice (some ⟨bb, oo, none⟩) T.ps.length cb) ∧ W'.cell? ⟨bb, oo + i * 3, none⟩ = some (.int .i64 n) ∧ Ext wv W') (by kernel_rfl) ?_ (fun hHeld => ?_)
            · exact ⟨Ext.cell (Ext.drew (Ext.refl _)) d1, Ext.cell (Ext.drew (Ext.refl _)) p0, Ext.drew (Ext.refl _)⟩
            (refine wpAnyH_take (i := 1) (v := ?_) rfl (by kernel_rfl) (by kernel_rfl) (by kernel_rfl) (fun _ _ _ h => h) (Or.inl ⟨by rfl, ?_⟩) (by assumption) ?_; rotate_left 1; (focus (intro w hSw; (try dsimp only at hSw); go_simp; try (with_reducible rfl))))
            try simp only [Act.put, List.getElem_toArray, List.setIfInBounds_toArray]
            (refine wpAnyH_take (i := 2) (v := ?_) rfl (by kernel_rfl) (by kernel_rfl) (by kernel_rfl) (fun _ _ _ h => h) (Or.inl ⟨by rfl, ?_⟩) (by assumption) ?_; rotate_left 1; (focus (intro w hSw; (try dsimp only at hSw); go_simp; try (with_reducible rfl))))
            try simp only [Act.put, List.getElem_toArray, List.getElem_cons_zero, List.getElem_cons_succ, List.setIfInBounds_toArray, List.set_cons_zero, List.set_cons_succ]
            (refine wpAnyH_take (i := 3) (v := sliced (some ⟨b, o, none⟩) 0 k cap 1) rfl (by kernel_rfl) (by kernel_rfl) (by kernel_rfl) (fun _ _ _ h => h) (Or.inl ⟨by rfl, ?_⟩) (by assumption) ?_; (focus (intro w hSw; (try dsimp only at hSw); go_simp)))
            try simp only [Act.put, List.getElem_toArray, List.getElem_cons_zero, List.getElem_cons_succ, List.setIfInBounds_toArray, List.set_cons_zero, List.set_cons_succ]
            (refine wpAnyH_take (i := 5) (v := ?_) rfl (by kernel_rfl) (by kernel_rfl) (by kernel_rfl) (fun _ _ _ h => h) (Or.inl ⟨by rfl, ?_⟩) (by assumption) ?_; rotate_left 1; (focus (intro w hSw; (try dsimp only at hSw); go_simp; try (with_reducible rfl))))
            try simp only [Act.put, List.getElem_toArray, List.getElem_cons_zero, List.getElem_cons_succ, List.setIfInBounds_toArray, List.set_cons_zero, List.set_cons_succ]
            (refine wpAnyH_take (i := 6) (v := ?_) rfl (by kernel_rfl) (by kernel_rfl) (by kernel_rfl) (fun _ _ _ h => h) (Or.inl ⟨by rfl, ?_⟩) (by assumption) ?_; rotate_left 1; (focus (intro w hSw; (try dsimp only at hSw); go_simp; try (with_reducible rfl))))
            try simp only [Act.put, List.getElem_toArray, List.getElem_cons_zero, List.getElem_cons_succ, List.setIfInBounds_toArray, List.set_cons_zero, List.set_cons_succ]
            (refine wpAnyH_take (i := 7) (v := ?_) rfl (by kernel_rfl) (by kernel_rfl) (by kernel_rfl) (fun _ _ _ h => h) (Or.inl ⟨by rfl, ?_⟩) (by assumption) ?_; rotate_left 1; (focus (intro w hSw; (try dsimp only at hSw); go_simp; try (with_reducible rfl))))
            try simp only [Act.put, List.getElem_toArray, List.getElem_cons_zero, List.getElem_cons_succ, List.setIfInBounds_toArray, List.set_cons_zero, List.set_cons_succ]
            (refine wpAnyH_take (i := 8) (v := ?_) rfl (by kernel_rfl) (by kernel_rfl) (by kernel_rfl) (fun _ _ _ h => h) (Or.inl ⟨by rfl, ?_⟩) (by assumption) ?_; rotate_left 1; (focus (intro w hSw; (try dsimp only at hSw); go_simp; try (with_reducible rfl))))
            try simp only [Act.put, List.getElem_toArray, List.getElem_cons_zero, List.getElem_cons_succ, List.setIfInBounds_toArray, List.set_cons_zero, List.set_cons_succ]
            (refine wpAnyH_take (i := 9) (v := ?_) rfl (by kernel_rfl) (by kernel_rfl) (by kernel_rfl) (fun _ _ _ h => h) (Or.inl ⟨by rfl, ?_⟩) (by assumption) ?_; rotate_left 1; (focus (intro w hSw; (try dsimp only at hSw); go_simp; try (with_reducible rfl))))
            try simp only [Act.put, List.getElem_toArray, List.getElem_cons_zero, List.getElem_cons_succ, List.setIfInBounds_toArray, List.set_cons_zero, List.set_cons_succ]
            (refine wpAnyH_take (i := 10) (v := ?_) rfl (by kernel_rfl) (by kernel_rfl) (by kernel_rfl) (fun _ _ _ h => h) (Or.inl ⟨by rfl, ?_⟩) (by assumption) ?_; rotate_left 1; (focus (intro w hSw; (try dsimp only at hSw); go_simp; try (with_reducible rfl))))
            try simp only [Act.put, List.getElem_toArray, List.getElem_cons_zero, List.getElem_cons_succ, List.setIfInBounds_toArray, List.set_cons_zero, List.set_cons_succ]
            (refine wpAnyH_take (i := 13) (v := ?_) rfl (by kernel_rfl) (by kernel_rfl) (by kernel_rfl) (fun _ _ _ h => h) (Or.inl ⟨by rfl, ?_⟩) (by assumption) ?_; rotate_left 1; (focus (intro w hSw; (try dsimp only at hSw); go_simp; try (with_reducible rfl))))
            try simp only [Act.put, List.getElem_toArray, List.getElem_cons_zero, List.getElem_cons_succ, List.setIfInBounds_toArray, List.set_cons_zero, List.set_cons_succ]
            (refine wpAnyH_take (i := 14) (v := ?_) rfl (by kernel_rfl) (by kernel_rfl) (by kernel_rfl) (fun _ _ _ h => h) (Or.inl ⟨by rfl, ?_⟩) (by assumption) ?_; rotate_left 1; (focus (intro w hSw; (try dsimp only at hSw); go_simp; try (with_reducible rfl))))
            try simp only [Act.put, List.getElem_toArray, List.getElem_cons_zero, List.getElem_cons_succ, List.setIfInBounds_toArray, List.set_cons_zero, List.set_cons_succ]
            (refine wpAnyH_take (i := 15) (v := sliced (some ⟨b, o, none⟩) k l.length cap 1) rfl (by kernel_rfl) (by kernel_rfl) (by kernel_rfl) (fun _ _ _ h => h) (Or.inl ⟨by rfl, ?_⟩) (by assumption) ?_; (focus (intro w hSw; (try dsimp only at hSw); go_simp)))
            try simp only [Act.put, List.getElem_toArray, List.getElem_cons_zero, List.getElem_cons_succ, List.setIfInBounds_toArray, List.set_cons_zero, List.set_cons_succ]
            rw [hV] at hHeld ⊢
            clear hV
            generalize sliced (some ⟨b, o, none⟩) 0 k cap 1 = ST at hTk ⊢
            generalize sliced (some ⟨b, o, none⟩) k l.length cap 1 = SD at hDr ⊢
            refine wpAnyH_ready (rs := [0, 11]) (by kernel_rfl) (by simp) ?_
            refine AllReadyH.cons rfl (fun K hK => ?_) ?_
            · go_simp
              obtain ⟨W1, hN⟩ : ∃ X, V.alloc (.cells #[] 3) = X := ⟨_, rfl⟩
              have hz : Ext V W1 := by rw [← hN]; exact (by repeat (first | exact Ext.refl _ | assumption | refine Ext.alloc ?_ _ | refine Ext.drew ?_ | refine Ext.drewN _ ?_ | refine Ext.trans ?_ (by assumption)))
              have hr0 : RowI BS (.slice (some ⟨V.heap.size, 0, none⟩) 0 0) [] W1 := by rw [← hN]; exact rowI_lit0 V (by rw [HBS.out]; exact hx.size)
              rw [hN]
              replace hx := hx.trans hz
              obtain ⟨N0, hN0⟩ : ∃ N, V.heap.size = N := ⟨_, rfl⟩
              have hlt0 : N0 < W1.heap.size := by rw [← hN0, ← hN]; simp
              rw [hN0] at hr0 ⊢
              refine hK.out _ _ ?_ (fun hHeld => ?_)
              · exact ⟨Ext.cell (hxV.trans hx) d1, Ext.cell (hxV.trans hx) p0, hxV.trans hx⟩
              clear hK K hN hz
              try simp only [Act.put, List.getElem_toArray, List.getElem_cons_zero, List.getElem_cons_succ, List.setIfInBounds_toArray, List.set_cons_zero, List.set_cons_succ]
              refine wpAnyH_ready (rs := [4, 11]) (by kernel_rfl) (by simp) ?_
              refine AllReadyH.cons rfl (fun K hK => ?_) ?_
              · rw [if_pos (by rfl)]
                obtain ⟨v1, W2, hrun, hr1, hg, _⟩ := run_append_ints W1 34 BS _ _ [] (l.take k) hr0 (hTk hx) (by rw [HBS.out]; exact hx.size) (by simp; omega)
                refine oper_append _ _ 34 rfl _ _ v1 W2 rfl rfl hrun ?_
                rw [List.nil_append] at hr1
                replace hx := ext_own hx hr0 (Nat.le_of_eq HBS.out.symm) hg
                refine hK.out _ _ ?_ (fun hHeld => ?_)
                · exact ⟨Ext.cell (hxV.trans hx) d1, Ext.cell (hxV.trans hx) p0, hxV.trans hx⟩
                clear hK K hrun hg
                try simp only [Act.put, List.getElem_toArray, List.getElem_cons_zero, List.getElem_cons_succ, List.setIfInBounds_toArray, List.set_cons_zero, List.set_cons_succ]
                refine wpAnyH_ready (rs := [11]) (by kernel_rfl) (by simp) ?_
                refine AllReadyH.cons rfl (fun K hK => ?_) ?_
                · go_simp
                  obtain ⟨W3, hN⟩ : ∃ X, W2.alloc (.cells #[.int .i64 n] 3) = X := ⟨_, rfl⟩
                  have hz : Ext W2 W3 := by rw [← hN]; exact (by repeat (first | exact Ext.refl _ | assumption | refine Ext.alloc ?_ _ | refine Ext.drew ?_ | refine Ext.drewN _ ?_ | refine Ext.trans ?_ (by assumption)))
                  have hb1 : IntsAt W3 (.slice (some ⟨W2.heap.size, 0, none⟩) 1 1) [n] := by rw [← hN]; exact ints_one _ _ _
                  rw [hN]
                  replace hr1 := rowI_ext hr1 hz
                  replace hx := hx.trans hz
                  obtain ⟨NB, hNB⟩ : ∃ N, W2.heap.size = N := ⟨_, rfl⟩
                  have hltB : NB < W3.heap.size := by rw [← hNB, ← hN]; simp
                  rw [hNB] at hb1 ⊢
                  refine hK.out _ _ ?_ (fun hHeld => ?_)
                  · exact ⟨Ext.cell (hxV.trans hx) d1, Ext.cell (hxV.trans hx) p0, hxV.trans hx⟩
                  clear hK K hN hz
                  try simp only [Act.put, List.getElem_toArray, List.getElem_cons_zero, List.getElem_cons_succ, List.setIfInBounds_toArray, List.set_cons_zero, List.set_cons_succ]
                  obtain ⟨v2, W4, hrun, hr2, hg, _⟩ := run_append_ints W3 34 BS _ _ (l.take k) [n] hr1 hb1 (by rw [HBS.out]; exact hx.size) (by simp; omega)
                  refine wpAnyH_ready (rs := [12]) (by kernel_rfl) (by simp) ?_
                  refine AllReadyH.cons rfl (fun K hK => ?_) AllReadyH.nil
                  rw [if_pos (by rfl)]
                  refine oper_append _ _ 34 rfl _ _ v2 W4 rfl rfl hrun ?_
                  have hx2 : Ext V W4 := ext_own hx hr1 (Nat.le_of_eq HBS.out.symm) hg
                  refine hK.out _ _ ?_ (fun hHeld => ?_)
                  · exact ⟨Ext.cell (hxV.trans hx2) d1, Ext.cell (hxV.trans hx2) p0, hxV.trans hx2⟩
                  clear hK K hrun hg
                  try simp only [Act.put, List.getElem_toArray, List.getElem_cons_zero, List.getElem_cons_succ, List.setIfInBounds_toArray, List.set_cons_zero, List.set_cons_succ]
                  obtain ⟨v3, W5, hrun, hr3, hg, _⟩ := run_append_ints W4 34 BS _ _ (l.take k ++ [n]) (l.drop k) hr2 (hDr hx2) (by rw [HBS.out]; exact hx2.size) (by simp; omega)
                  refine wpAnyH_ready (rs := [16]) (by kernel_rfl) (by simp) ?_
                  refine AllReadyH.cons rfl (fun K hK => ?_) AllReadyH.nil
                  rw [if_pos (by rfl)]
                  refine oper_append _ _ 34 rfl _ _ v3 W5 rfl rfl hrun ?_
                  have hx3 : Ext V W5 := ext_own hx2 hr2 (Nat.le_of_eq HBS.out.symm) hg
                  refine hK.out _ _ ?_ (fun hHeld => ?_)
                  · exact ⟨Ext.cell (hxV.trans hx3) d1, Ext.cell (hxV.trans hx3) p0, hxV.trans hx3⟩
                  clear hK K hrun hg
                  try simp only [Act.put, List.getElem_toArray, List.getElem_cons_zero, List.getElem_cons_succ, List.setIfInBounds_toArray, List.set_cons_zero, List.set_cons_succ]
                  (refine wpAnyH_take (i := 17) (v := ?_) rfl (by kernel_rfl) (by kernel_rfl) (by kernel_rfl) (fun _ _ _ h => h) (Or.inl ⟨by rfl, ?_⟩) (by assumption) ?_; rotate_left 1; (focus (intro w hSw; (try dsimp only at hSw); go_simp; try (with_reducible rfl))))
                  try simp only [Act.put, List.getElem_toArray, List.getElem_cons_zero, List.getElem_cons_succ, List.setIfInBounds_toArray, List.set_cons_zero, List.set_cons_succ]
                  refine wpAnyH_done (by kernel_rfl) ?_ _
                  obtain ⟨W3, hW3⟩ : ∃ W, W5 = W := ⟨_, rfl⟩
                  subst hW3
                  have hR3 : Hid (RowI (w.heap.size + 1) v3 P (_ : World)) := Lib.hid (by rw [← HP.out]; simpa [List.append_assoc] using rowI_base hr3 hbV)
                  have hxE := hxV.trans hx3
                  go_wp2_with fail
                  go_roundw
                  case rel => exact ⟨i + 1, by omega, by go_num, HPP.out ▸ hR3, q0.ext hxE, hx0.trans hxE⟩
                  case measure => simp [intOf]; omega
                exact AllReadyH.nil
              refine AllReadyH.cons rfl (fun K hK => ?_) ?_
              · go_simp
                obtain ⟨W2, hN⟩ : ∃ X, W1.alloc (.cells #[.int .i64 n] 3) = X := ⟨_, rfl⟩
                have hz : Ext W1 W2 := by rw [← hN]; exact (by repeat (first | exact Ext.refl _ | assumption | refine Ext.alloc ?_ _ | refine Ext.drew ?_ | refine Ext.drewN _ ?_ | refine Ext.trans ?_ (by assumption)))
                have hb1 : IntsAt W2 (.slice (some ⟨W1.heap.size, 0, none⟩) 1 1) [n] := by rw [← hN]; exact ints_one _ _ _
                rw [hN]
                replace hr0 := rowI_ext hr0 hz
                replace hx := hx.trans hz
                have hbne : some W1.heap.size ≠ (Value.slice (some ⟨N0, 0, none⟩) 0 0).ownBlock := fun e => by simp only [Value.ownBlock, Option.some.injEq] at e; omega
                obtain ⟨NB, hNB⟩ : ∃ N, W1.heap.size = N := ⟨_, rfl⟩
                have hltB : NB < W2.heap.size := by rw [← hNB, ← hN]; simp
                rw [hNB] at hb1 ⊢ hbne
                refine hK.out _ _ ?_ (fun hHeld => ?_)
                · exact ⟨Ext.cell (hxV.trans hx) d1, Ext.cell (hxV.trans hx) p0, hxV.trans hx⟩
                clear hK K hN hz
                try simp only [Act.put, List.getElem_toArray, List.getElem_cons_zero, List.getElem_cons_succ, List.setIfInBounds_toArray, List.set_cons_zero, List.set_cons_succ]
                refine wpAnyH_ready (rs := [4]) (by kernel_rfl) (by simp) ?_
                refine AllReadyH.cons rfl (fun K hK => ?_) ?_
                · rw [if_pos (by rfl)]
                  obtain ⟨v1, W3, hrun, hr1, hg, _⟩ := run_append_ints W2 34 BS _ _ [] (l.take k) hr0 (hTk hx) (by rw [HBS.out]; exact hx.size) (by simp; omega)
                  refine oper_append _ _ 34 rfl _ _ v1 W3 rfl rfl hrun ?_
                  rw [List.nil_append] at hr1
                  replace hb1 := ints_off hb1 hg hbne
                  replace hx := ext_own hx hr0 (Nat.le_of_eq HBS.out.symm) hg
                  refine hK.out _ _ ?_ (fun hHeld => ?_)
                  · exact ⟨Ext.cell (hxV.trans hx) d1, Ext.cell (hxV.trans hx) p0, hxV.trans hx⟩
                  clear hK K hrun hg
                  try simp only [Act.put, List.getElem_toArray, List.getElem_cons_zero, List.getElem_cons_succ, List.setIfInBounds_toArray, List.set_cons_zero, List.set_cons_succ]
                  obtain ⟨v2, W4, hrun, hr2, hg, _⟩ := run_append_ints W3 34 BS _ _ (l.take k) [n] hr1 hb1 (by rw [HBS.out]; exact hx.size) (by simp; omega)
                  refine wpAnyH_ready (rs := [12]) (by kernel_rfl) (by simp) ?_
                  refine AllReadyH.cons rfl (fun K hK => ?_) AllReadyH.nil
                  rw [if_pos (by rfl)]
                  refine oper_append _ _ 34 rfl _ _ v2 W4 rfl rfl hrun ?_
                  have hx2 : Ext V W4 := ext_own hx hr1 (Nat.le_of_eq HBS.out.symm) hg
                  refine hK.out _ _ ?_ (fun hHeld => ?_)
                  · exact ⟨Ext.cell (hxV.trans hx2) d1, Ext.cell (hxV.trans hx2) p0, hxV.trans hx2⟩
                  clear hK K hrun hg
                  try simp only [Act.put, List.getElem_toArray, List.getElem_cons_zero, List.getElem_cons_succ, List.setIfInBounds_toArray, List.set_cons_zero, List.set_cons_succ]
                  obtain ⟨v3, W5, hrun, hr3, hg, _⟩ := run_append_ints W4 34 BS _ _ (l.take k ++ [n]) (l.drop k) hr2 (hDr hx2) (by rw [HBS.out]; exact hx2.size) (by simp; omega)
                  refine wpAnyH_ready (rs := [16]) (by kernel_rfl) (by simp) ?_
                  refine AllReadyH.cons rfl (fun K hK => ?_) AllReadyH.nil
                  rw [if_pos (by rfl)]
                  refine oper_append _ _ 34 rfl _ _ v3 W5 rfl rfl hrun ?_
                  have hx3 : Ext V W5 := ext_own hx2 hr2 (Nat.le_of_eq HBS.out.symm) hg
                  refine hK.out _ _ ?_ (fun hHeld => ?_)
                  · exact ⟨Ext.cell (hxV.trans hx3) d1, Ext.cell (hxV.trans hx3) p0, hxV.trans hx3⟩
                  clear hK K hrun hg
                  try simp only [Act.put, List.getElem_toArray, List.getElem_cons_zero, List.getElem_cons_succ, List.setIfInBounds_toArray, List.set_cons_zero, List.set_cons_succ]
                  (refine wpAnyH_take (i := 17) (v := ?_) rfl (by kernel_rfl) (by kernel_rfl) (by kernel_rfl) (fun _ _ _ h => h) (Or.inl ⟨by rfl, ?_⟩) (by assumption) ?_; rotate_left 1; (focus (intro w hSw; (try dsimp only at hSw); go_simp; try (with_reducible rfl))))
                  try simp only [Act.put, List.getElem_toArray, List.getElem_cons_zero, List.getElem_cons_succ, List.setIfInBounds_toArray, List.set_cons_zero, List.set_cons_succ]
                  refine wpAnyH_done (by kernel_rfl) ?_ _
                  obtain ⟨W3, hW3⟩ : ∃ W, W5 = W := ⟨_, rfl⟩
                  subst hW3
                  have hR3 : Hid (RowI (w.heap.size + 1) v3 P (_ : World)) := Lib.hid (by rw [← HP.out]; simpa [List.append_assoc] using rowI_base hr3 hbV)
                  have hxE := hxV.trans hx3
                  go_wp2_with fail
                  go_roundw
                  case rel => exact ⟨i + 1, by omega, by go_num, HPP.out ▸ hR3, q0.ext hxE, hx0.trans hxE⟩
                  case measure => simp [intOf]; omega
                exact AllReadyH.nil
              exact AllReadyH.nil
            refine AllReadyH.cons rfl (fun K hK => ?_) ?_
            · go_simp
              obtain ⟨W1, hN⟩ : ∃ X, V.alloc (.cells #[.int .i64 n] 3) = X := ⟨_, rfl⟩
              have hz : Ext V W1 := by rw [← hN]; exact (by repeat (first | exact Ext.refl _ | assumption | refine Ext.alloc ?_ _ | refine Ext.drew ?_ | refine Ext.drewN _ ?_ | refine Ext.trans ?_ (by assumption)))
              have hb1 : IntsAt W1 (.slice (some ⟨V.heap.size, 0, none⟩) 1 1) [n] := by rw [← hN]; exact ints_one _ _ _
              rw [hN]
              replace hx := hx.trans hz
              obtain ⟨NB, hNB⟩ : ∃ N, V.heap.size = N := ⟨_, rfl⟩
              have hltB : NB < W1.heap.size := by rw [← hNB, ← hN]; simp
              rw [hNB] at hb1 ⊢
              refine hK.out _ _ ?_ (fun hHeld => ?_)
              · exact ⟨Ext.cell (hxV.trans hx) d1, Ext.cell (hxV.trans hx) p0, hxV.trans hx⟩
              clear hK K hN hz
              try simp only [Act.put, List.getElem_toArray, List.getElem_cons_zero, List.getElem_cons_succ, List.setIfInBounds_toArray, List.set_cons_zero, List.set_cons_succ]
              refine wpAnyH_ready (rs := [0]) (by kernel_rfl) (by simp) ?_
              refine AllReadyH.cons rfl (fun K hK => ?_) ?_
              · go_simp
                obtain ⟨W2, hN⟩ : ∃ X, W1.alloc (.cells #[] 3) = X := ⟨_, rfl⟩
                have hz : Ext W1 W2 := by rw [← hN]; exact (by repeat (first | exact Ext.refl _ | assumption | refine Ext.alloc ?_ _ | refine Ext.drew ?_ | refine Ext.drewN _ ?_ | refine Ext.trans ?_ (by assumption)))
                have hr0 : RowI BS (.slice (some ⟨W1.heap.size, 0, none⟩) 0 0) [] W2 := by rw [← hN]; exact rowI_lit0 W1 (by rw [HBS.out]; exact hx.size)
                rw [hN]
                replace hb1 := hb1.ext hz
                replace hx := hx.trans hz
                have hbne : some NB ≠ (Value.slice (some ⟨W1.heap.size, 0, none⟩) 0 0).ownBlock := fun e => by simp only [Value.ownBlock, Option.some.injEq] at e; omega
                obtain ⟨N0, hN0⟩ : ∃ N, W1.heap.size = N := ⟨_, rfl⟩
                have hlt0 : N0 < W2.heap.size := by rw [← hN0, ← hN]; simp
                rw [hN0] at hr0 ⊢ hbne
                refine hK.out _ _ ?_ (fun hHeld => ?_)
                · exact ⟨Ext.cell (hxV.trans hx) d1, Ext.cell (hxV.trans hx) p0, hxV.trans hx⟩
                clear hK K hN hz
                try simp only [Act.put, List.getElem_toArray, List.getElem_cons_zero, List.getElem_cons_succ, List.setIfInBounds_toArray, List.set_cons_zero, List.set_cons_succ]
                refine wpAnyH_ready (rs := [4]) (by kernel_rfl) (by simp) ?_
                refine AllReadyH.cons rfl (fun K hK => ?_) ?_
                · rw [if_pos (by rfl)]
                  obtain ⟨v1, W3, hrun, hr1, hg, _⟩ := run_append_ints W2 34 BS _ _ [] (l.take k) hr0 (hTk hx) (by rw [HBS.out]; exact hx.size) (by simp; omega)
                  refine oper_append _ _ 34 rfl _ _ v1 W3 rfl rfl hrun ?_
                  rw [List.nil_append] at hr1
                  replace hb1 := ints_off hb1 hg hbne
                  replace hx := ext_own hx hr0 (Nat.le_of_eq HBS.out.symm) hg
                  refine hK.out _ _ ?_ (fun hHeld => ?_)
                  · exact ⟨Ext.cell (hxV.trans hx) d1, Ext.cell (hxV.trans hx) p0, hxV.trans hx⟩
                  clear hK K hrun hg
                  try simp only [Act.put, List.getElem_toArray, List.getElem_cons_zero, List.getElem_cons_succ, List.setIfInBounds_toArray, List.set_cons_zero, List.set_cons_succ]
                  obtain ⟨v2, W4, hrun, hr2, hg, _⟩ := run_append_ints W3 34 BS _ _ (l.take k) [n] hr1 hb1 (by rw [HBS.out]; exact hx.size) (by simp; omega)
                  refine wpAnyH_ready (rs := [12]) (by kernel_rfl) (by simp) ?_
                  refine AllReadyH.cons rfl (fun K hK => ?_) AllReadyH.nil
                  rw [if_pos (by rfl)]
                  refine oper_append _ _ 34 rfl _ _ v2 W4 rfl rfl hrun ?_
                  have hx2 : Ext V W4 := ext_own hx hr1 (Nat.le_of_eq HBS.out.symm) hg
                  refine hK.out _ _ ?_ (fun hHeld => ?_)
                  · exact ⟨Ext.cell (hxV.trans hx2) d1, Ext.cell (hxV.trans hx2) p0, hxV.trans hx2⟩
                  clear hK K hrun hg
                  try simp only [Act.put, List.getElem_toArray, List.getElem_cons_zero, List.getElem_cons_succ, List.setIfInBounds_toArray, List.set_cons_zero, List.set_cons_succ]
                  obtain ⟨v3, W5, hrun, hr3, hg, _⟩ := run_append_ints W4 34 BS _ _ (l.take k ++ [n]) (l.drop k) hr2 (hDr hx2) (by rw [HBS.out]; exact hx2.size) (by simp; omega)
                  refine wpAnyH_ready (rs := [16]) (by kernel_rfl) (by simp) ?_
                  refine AllReadyH.cons rfl (fun K hK => ?_) AllReadyH.nil
                  rw [if_pos (by rfl)]
                  refine oper_append _ _ 34 rfl _ _ v3 W5 rfl rfl hrun ?_
                  have hx3 : Ext V W5 := ext_own hx2 hr2 (Nat.le_of_eq HBS.out.symm) hg
                  refine hK.out _ _ ?_ (fun hHeld => ?_)
                  · exact ⟨Ext.cell (hxV.trans hx3) d1, Ext.cell (hxV.trans hx3) p0, hxV.trans hx3⟩
                  clear hK K hrun hg
                  try simp only [Act.put, List.getElem_toArray, List.getElem_cons_zero, List.getElem_cons_succ, List.setIfInBounds_toArray, List.set_cons_zero, List.set_cons_succ]
                  (refine wpAnyH_take (i := 17) (v := ?_) rfl (by kernel_rfl) (by kernel_rfl) (by kernel_rfl) (fun _ _ _ h => h) (Or.inl ⟨by rfl, ?_⟩) (by assumption) ?_; rotate_left 1; (focus (intro w hSw; (try dsimp only at hSw); go_simp; try (with_reducible rfl))))
                  try simp only [Act.put, List.getElem_toArray, List.getElem_cons_zero, List.getElem_cons_succ, List.setIfInBounds_toArray, List.set_cons_zero, List.set_cons_succ]
                  refine wpAnyH_done (by kernel_rfl) ?_ _
                  obtain ⟨W3, hW3⟩ : ∃ W, W5 = W := ⟨_, rfl⟩
                  subst hW3
                  have hR3 : Hid (RowI (w.heap.size + 1) v3 P (_ : World)) := Lib.hid (by rw [← HP.out]; simpa [List.append_assoc] using rowI_base hr3 hbV)
                  have hxE := hxV.trans hx3
                  go_wp2_with fail
                  go_roundw
                  case rel => exact ⟨i + 1, by omega, by go_num, HPP.out ▸ hR3, q0.ext hxE, hx0.trans hxE⟩
                  case measure => simp [intOf]; omega
                exact AllReadyH.nil
              exact AllReadyH.nil
            exact AllReadyH.nil
        · have HP := fin (fun h => absurd h hltk)
          obtain rfl : k = l.length := by omega
          clear fin HK
          go_upto_region 6 with fail
          refine wp_region_held_drew (S := fun W' => W'.cell? ⟨w.heap.size, 1, none⟩ = some (.slice (some ⟨bb, oo, none⟩) T.ps.length cb) ∧ W'.cell? ⟨bb, oo + i * 3, none⟩ = some (.int .i64 n) ∧ Ext wr W') (by kernel_rfl) ?_ (fun hHeld => ?_)
          · exact ⟨d1, p0, Ext.drew (Ext.refl _)⟩
          (refine wpAnyH_take (i := 0) (v := ?_) rfl (by kernel_rfl) (by kernel_rfl) (by kernel_rfl) (fun _ _ _ h => h) (Or.inl ⟨by rfl, ?_⟩) (by assumption) ?_; rotate_left 1; (focus (intro w hSw; (try dsimp only at hSw); go_simp; try (with_reducible rfl))))
          try simp only [Act.put, List.getElem_toArray, List.getElem_cons_zero, List.setIfInBounds_toArray, List.set_cons_zero, List.set_cons_succ]
          (refine wpAnyH_take (i := 1) (v := ?_) rfl (by kernel_rfl) (by kernel_rfl) (by kernel_rfl) (fun _ _ _ h => h) (Or.inl ⟨by rfl, ?_⟩) (by assumption) ?_; rotate_left 1; (focus (intro w hSw; (try dsimp only at hSw); go_simp; try (with_reducible rfl))))
          try simp only [Act.put, List.getElem_toArray, List.getElem_cons_zero, List.getElem_cons_succ, List.setIfInBounds_toArray, List.set_cons_zero, List.set_cons_succ]
          (refine wpAnyH_take (i := 2) (v := ?_) rfl (by kernel_rfl) (by kernel_rfl) (by kernel_rfl) (fun _ _ _ h => h) (Or.inl ⟨by rfl, ?_⟩) (by assumption) ?_; rotate_left 1; (focus (intro w hSw; (try dsimp only at hSw); go_simp; try (with_reducible rfl))))
          try simp only [Act.put, List.getElem_toArray, List.getElem_cons_zero, List.getElem_cons_succ, List.setIfInBounds_toArray, List.set_cons_zero, List.set_cons_succ]
          (refine wpAnyH_take (i := 3) (v := ?_) rfl (by kernel_rfl) (by kernel_rfl) (by kernel_rfl) (fun _ _ _ h => h) (Or.inl ⟨by rfl, ?_⟩) (by assumption) ?_; rotate_left 1; (focus (intro w hSw; (try dsimp only at hSw); go_simp; try (with_reducible rfl))))
          try simp only [Act.put, List.getElem_toArray, List.getElem_cons_zero, List.getElem_cons_succ, List.setIfInBounds_toArray, List.set_cons_zero, List.set_cons_succ]
          (refine wpAnyH_take (i := 4) (v := ?_) rfl (by kernel_rfl) (by kernel_rfl) (by kernel_rfl) (fun _ _ _ h => h) (Or.inl ⟨by rfl, ?_⟩) (by assumption) ?_; rotate_left 1; (focus (intro w hSw; (try dsimp only at hSw); go_simp; try (with_reducible rfl))))
          try simp only [Act.put, List.getElem_toArray, List.getElem_cons_zero, List.getElem_cons_succ, List.setIfInBounds_toArray, List.set_cons_zero, List.set_cons_succ]
          (refine wpAnyH_take (i := 5) (v := undef) rfl (by kernel_rfl) (by kernel_rfl) (by kernel_rfl) (fun _ _ _ h => h) (Or.inr ⟨by rfl, rfl⟩) (by assumption) ?_)
          try simp only [Act.put, List.getElem_toArray, List.getElem_cons_zero, List.getElem_cons_succ, List.setIfInBounds_toArray, List.set_cons_zero, List.set_cons_succ]
          (refine wpAnyH_take (i := 6) (v := undef) rfl (by kernel_rfl) (by kernel_rfl) (by kernel_rfl) (fun _ _ _ h => h) (Or.inr ⟨by rfl, rfl⟩) (by assumption) ?_)
          try simp only [Act.put, List.getElem_toArray, List.getElem_cons_zero, List.getElem_cons_succ, List.setIfInBounds_toArray, List.set_cons_zero, List.set_cons_succ]
          (refine wpAnyH_take (i := 7) (v := undef) rfl (by kernel_rfl) (by kernel_rfl) (by kernel_rfl) (fun _ _ _ h => h) (Or.inr ⟨by rfl, rfl⟩) (by assumption) ?_)
          try simp only [Act.put, List.getElem_toArray, List.getElem_cons_zero, List.getElem_cons_succ, List.setIfInBounds_toArray, List.set_cons_zero, List.set_cons_succ]
          (refine wpAnyH_take (i := 8) (v := undef) rfl (by kernel_rfl) (by kernel_rfl) (by kernel_rfl) (fun _ _ _ h => h) (Or.inr ⟨by rfl, rfl⟩) (by assumption) ?_)
          try simp only [Act.put, List.getElem_toArray, List.getElem_cons_zero, List.getElem_cons_succ, List.setIfInBounds_toArray, List.set_cons_zero, List.set_cons_succ]
          (refine wpAnyH_take (i := 9) (v := undef) rfl (by kernel_rfl) (by kernel_rfl) (by kernel_rfl) (fun _ _ _ h => h) (Or.inr ⟨by rfl, rfl⟩) (by assumption) ?_)
          try simp only [Act.put, List.getElem_toArray, List.getElem_cons_zero, List.getElem_cons_succ, List.setIfInBounds_toArray, List.set_cons_zero, List.set_cons_succ]
          (refine wpAnyH_take (i := 10) (v := undef) rfl (by kernel_rfl) (by kernel_rfl) (by kernel_rfl) (fun _ _ _ h => h) (Or.inr ⟨by rfl, rfl⟩) (by assumption) ?_)
          try simp only [Act.put, List.getElem_toArray, List.getElem_cons_zero, List.getElem_cons_succ, List.setIfInBounds_toArray, List.set_cons_zero, List.set_cons_succ]
          (refine wpAnyH_take (i := 11) (v := undef) rfl (by kernel_rfl) (by kernel_rfl) (by kernel_rfl) (fun _ _ _ h => h) (Or.inr ⟨by rfl, rfl⟩) (by assumption) ?_)
          try simp only [Act.put, List.getElem_toArray, List.getElem_cons_zero, List.getElem_cons_succ, List.setIfInBounds_toArray, List.set_cons_zero, List.set_cons_succ]
          (refine wpAnyH_take (i := 12) (v := undef) rfl (by kernel_rfl) (by kernel_rfl) (by kernel_rfl) (fun _ _ _ h => h) (Or.inr ⟨by rfl, rfl⟩) (by assumption) ?_)
          try simp only [Act.put, List.getElem_toArray, List.getElem_cons_zero, List.getElem_cons_succ, List.setIfInBounds_toArray, List.set_cons_zero, List.set_cons_succ]
          (refine wpAnyH_take (i := 13) (v := undef) rfl (by kernel_rfl) (by kernel_rfl) (by kernel_rfl) (fun _ _ _ h => h) (Or.inr ⟨by rfl, rfl⟩) (by assumption) ?_)
          try simp only [Act.put, List.getElem_toArray, List.getElem_cons_zero, List.getElem_cons_succ, List.setIfInBounds_toArray, List.set_cons_zero, List.set_cons_succ]
          (refine wpAnyH_take (i := 14) (v := undef) rfl (by kernel_rfl) (by kernel_rfl) (by kernel_rfl) (fun _ _ _ h => h) (Or.inr ⟨by rfl, rfl⟩) (by assumption) ?_)
          try simp only [Act.put, List.getElem_toArray, List.getElem_cons_zero, List.getElem_cons_succ, List.setIfInBounds_toArray, List.set_cons_zero, List.set_cons_succ]
          (refine wpAnyH_take (i := 15) (v := undef) rfl (by kernel_rfl) (by kernel_rfl) (by kernel_rfl) (fun _ _ _ h => h) (Or.inr ⟨by rfl, rfl⟩) (by assumption) ?_)
          try simp only [Act.put, List.getElem_toArray, List.getElem_cons_zero, List.getElem_cons_succ, List.setIfInBounds_toArray, List.set_cons_zero, List.set_cons_succ]
          (refine wpAnyH_take (i := 16) (v := ?_) rfl (by kernel_rfl) (by kernel_rfl) (by kernel_rfl) (fun _ _ _ h => h) (Or.inl ⟨by rfl, ?_⟩) (by assumption) ?_; rotate_left 1; (focus (intro w hSw; (try dsimp only at hSw); go_simp; try (with_reducible rfl))))
          try simp only [Act.put, List.getElem_toArray, List.getElem_cons_zero, List.getElem_cons_succ, List.setIfInBounds_toArray, List.set_cons_zero, List.set_cons_succ]
          refine wpAnyH_done (by kernel_rfl) ?_ _
          obtain ⟨wv, hwv⟩ : ∃ V, wr.drew = V := ⟨_, rfl⟩
          rw [hwv] at hHeld ⊢
          replace hl := hl.ext hHeld.2.2
          replace q0 := q0.ext hHeld.2.2
          replace hx0 := hx0.trans hHeld.2.2
          replace d1 := hHeld.1
          replace p0 := hHeld.2.1
          have hxv := hHeld.2.2
          clear hHeld hwv
          go_upto_region 8 with fail
          obtain ⟨V, hV⟩ : ∃ V, wv.drew = V := ⟨_, rfl⟩
          have hxV : Ext wv V := by rw [← hV]; exact (by repeat (first | exact Ext.refl _ | assumption | refine Ext.alloc ?_ _ | refine Ext.drew ?_ | refine Ext.drewN _ ?_ | refine Ext.trans ?_ (by assumption)))
          have hbV : w.heap.size + 1 ≤ V.heap.size := Nat.le_trans q0.lt hxV.size
          have hTk : ∀ {W}, Ext V W → IntsAt W (sliced ao 0 l.length cap 1) (l.take l.length) := fun h => (hl.ext (hxV.trans h)).slicedT l.length hk
          have hDr : ∀ {W}, Ext V W → IntsAt W (sliced ao l.length l.length cap 1) (l.drop l.length) := fun h => (hl.ext (hxV.trans h)).slicedD l.length hk
          have hx : Ext V V := Ext.refl _
          obtain ⟨BS, hBS⟩ : ∃ B, B = V.heap.size := ⟨_, rfl⟩
          have HBS := Lib.hid hBS
          rw [← hBS] at hbV
          clear hBS
          refine wp_region_held_drew (S := fun W' => W'.cell? ⟨w.heap.size, 1, none⟩ = some (.slice (some ⟨bb, oo, none⟩) T.ps.length cb) ∧ W'.cell? ⟨bb, oo + i * 3, none⟩ = some (.int .i64 n) ∧ Ext wv W') (by kernel_rfl) ?_ (fun hHeld => ?_)
          · exact ⟨Ext.cell (Ext.drew (Ext.refl _)) d1, Ext.cell (Ext.drew (Ext.refl _)) p0, Ext.drew (Ext.refl _)⟩
          (refine wpAnyH_take (i := 1) (v := ?_) rfl (by kernel_rfl) (by kernel_rfl) (by kernel_rfl) (fun _ _ _ h => h) (Or.inl ⟨by rfl, ?_⟩) (by assumption) ?_; rotate_left 1; (focus (intro w hSw; (try dsimp only at hSw); go_simp; try (with_reducible rfl))))
          try simp only [Act.put, List.getElem_toArray, List.setIfInBounds_toArray]
          (refine wpAnyH_take (i := 2) (v := ?_) rfl (by kernel_rfl) (by kernel_rfl) (by kernel_rfl) (fun _ _ _ h => h) (Or.inl ⟨by rfl, ?_⟩) (by assumption) ?_; rotate_left 1; (focus (intro w hSw; (try dsimp only at hSw); go_simp; try (with_reducible rfl))))
          try simp only [Act.put, List.getElem_toArray, List.getElem_cons_zero, List.getElem_cons_succ, List.setIfInBounds_toArray, List.set_cons_zero, List.set_cons_succ]
          (refine wpAnyH_take (i := 3) (v := sliced ao 0 l.length cap 1) rfl (by kernel_rfl) (by kernel_rfl) (by kernel_rfl) (fun _ _ _ h => h) (Or.inl ⟨by rfl, ?_⟩) (by assumption) ?_; (focus (intro w hSw; (try dsimp only at hSw); go_simp)))
          try simp only [Act.put, List.getElem_toArray, List.getElem_cons_zero, List.getElem_cons_succ, List.setIfInBounds_toArray, List.set_cons_zero, List.set_cons_succ]
          (refine wpAnyH_take (i := 5) (v := ?_) rfl (by kernel_rfl) (by kernel_rfl) (by kernel_rfl) (fun _ _ _ h => h) (Or.inl ⟨by rfl, ?_⟩) (by assumption) ?_; rotate_left 1; (focus (intro w hSw; (try dsimp only at hSw); go_simp; try (with_reducible rfl))))
          try simp only [Act.put, List.getElem_toArray, List.getElem_cons_zero, List.getElem_cons_succ, List.setIfInBounds_toArray, List.set_cons_zero, List.set_cons_succ]
          (refine wpAnyH_take (i := 6) (v := ?_) rfl (by kernel_rfl) (by kernel_rfl) (by kernel_rfl) (fun _ _ _ h => h) (Or.inl ⟨by rfl, ?_⟩) (by assumption) ?_; rotate_left 1; (focus (intro w hSw; (try dsimp only at hSw); go_simp; try (with_reducible rfl))))
          try simp only [Act.put, List.getElem_toArray, List.getElem_cons_zero, List.getElem_cons_succ, List.setIfInBounds_toArray, List.set_cons_zero, List.set_cons_succ]
          (refine wpAnyH_take (i := 7) (v := ?_) rfl (by kernel_rfl) (by kernel_rfl) (by kernel_rfl) (fun _ _ _ h => h) (Or.inl ⟨by rfl, ?_⟩) (by assumption) ?_; rotate_left 1; (focus (intro w hSw; (try dsimp only at hSw); go_simp; try (with_reducible rfl))))
          try simp only [Act.put, List.getElem_toArray, List.getElem_cons_zero, List.getElem_cons_succ, List.setIfInBounds_toArray, List.set_cons_zero, List.set_cons_succ]
          (refine wpAnyH_take (i := 8) (v := ?_) rfl (by kernel_rfl) (by kernel_rfl) (by kernel_rfl) (fun _ _ _ h => h) (Or.inl ⟨by rfl, ?_⟩) (by assumption) ?_; rotate_left 1; (focus (intro w hSw; (try dsimp only at hSw); go_simp; try (with_reducible rfl))))
          try simp only [Act.put, List.getElem_toArray, List.getElem_cons_zero, List.getElem_cons_succ, List.setIfInBounds_toArray, List.set_cons_zero, List.set_cons_succ]
          (refine wpAnyH_take (i := 9) (v := ?_) rfl (by kernel_rfl) (by kernel_rfl) (by kernel_rfl) (fun _ _ _ h => h) (Or.inl ⟨by rfl, ?_⟩) (by assumption) ?_; rotate_left 1; (focus (intro w hSw; (try dsimp only at hSw); go_simp; try (with_reducible rfl))))
          try simp only [Act.put, List.getElem_toArray, List.getElem_cons_zero, List.getElem_cons_succ, List.setIfInBounds_toArray, List.set_cons_zero, List.set_cons_succ]
          (refine wpAnyH_take (i := 10) (v := ?_) rfl (by kernel_rfl) (by kernel_rfl) (by kernel_rfl) (fun _ _ _ h => h) (Or.inl ⟨by rfl, ?_⟩) (by assumption) ?_; rotate_left 1; (focus (intro w hSw; (try dsimp only at hSw); go_simp; try (with_reducible rfl))))
          try simp only [Act.put, List.getElem_toArray, List.getElem_cons_zero, List.getElem_cons_succ, List.setIfInBounds_toArray, List.set_cons_zero, List.set_cons_succ]
          (refine wpAnyH_take (i := 13) (v := ?_) rfl (by kernel_rfl) (by kernel_rfl) (by kernel_rfl) (fun _ _ _ h => h) (Or.inl ⟨by rfl, ?_⟩) (by assumption) ?_; rotate_left 1; (focus (intro w hSw; (try dsimp only at hSw); go_simp; try (with_reducible rfl))))
          try simp only [Act.put, List.getElem_toArray, List.getElem_cons_zero, List.getElem_cons_succ, List.setIfInBounds_toArray, List.set_cons_zero, List.set_cons_succ]
          (refine wpAnyH_take (i := 14) (v := ?_) rfl (by kernel_rfl) (by kernel_rfl) (by kernel_rfl) (fun _ _ _ h => h) (Or.inl ⟨by rfl, ?_⟩) (by assumption) ?_; rotate_left 1; (focus (intro w hSw; (try dsimp only at hSw); go_simp; try (with_reducible rfl))))
          try simp only [Act.put, List.getElem_toArray, List.getElem_cons_zero, List.getElem_cons_succ, List.setIfInBounds_toArray, List.set_cons_zero, List.set_cons_succ]
          (refine wpAnyH_take (i := 15) (v := sliced ao l.length l.length cap 1) rfl (by kernel_rfl) (by kernel_rfl) (by kernel_rfl) (fun _ _ _ h => h) (Or.inl ⟨by rfl, ?_⟩) (by assumption) ?_; (focus (intro w hSw; (try dsimp only at hSw); go_simp)))
          try simp only [Act.put, List.getElem_toArray, List.getElem_cons_zero, List.getElem_cons_succ, List.setIfInBounds_toArray, List.set_cons_zero, List.set_cons_succ]
          rw [hV] at hHeld ⊢
          clear hV
          generalize sliced ao 0 l.length cap 1 = ST at hTk ⊢
          generalize sliced ao l.length l.length cap 1 = SD at hDr ⊢
          refine wpAnyH_ready (rs := [0, 11]) (by kernel_rfl) (by simp) ?_
          refine AllReadyH.cons rfl (fun K hK => ?_) ?_
          · go_simp
            obtain ⟨W1, hN⟩ : ∃ X, V.alloc (.cells #[] 3) = X := ⟨_, rfl⟩
            have hz : Ext V W1 := by rw [← hN]; exact (by repeat (first | exact Ext.refl _ | assumption | refine Ext.alloc ?_ _ | refine Ext.drew ?_ | refine Ext.drewN _ ?_ | refine Ext.trans ?_ (by assumption)))
            have hr0 : RowI BS (.slice (some ⟨V.heap.size, 0, none⟩) 0 0) [] W1 := by rw [← hN]; exact rowI_lit0 V (by rw [HBS.out]; exact hx.size)
            rw [hN]
            replace hx := hx.trans hz
            obtain ⟨N0, hN0⟩ : ∃ N, V.heap.size = N := ⟨_, rfl⟩
            have hlt0 : N0 < W1.heap.size := by rw [← hN0, ← hN]; simp
            rw [hN0] at hr0 ⊢
            refine hK.out _ _ ?_ (fun hHeld => ?_)
            · exact ⟨Ext.cell (hxV.trans hx) d1, Ext.cell (hxV.trans hx) p0, hxV.trans hx⟩
            clear hK K hN hz
            try simp only [Act.put, List.getElem_toArray, List.getElem_cons_zero, List.getElem_cons_succ, List.setIfInBounds_toArray, List.set_cons_zero, List.set_cons_succ]
            refine wpAnyH_ready (rs := [4, 11]) (by kernel_rfl) (by simp) ?_
            refine AllReadyH.cons rfl (fun K hK => ?_) ?_
            · rw [if_pos (by rfl)]
              obtain ⟨v1, W2, hrun, hr1, hg, _⟩ := run_append_ints W1 34 BS _ _ [] (l.take l.length) hr0 (hTk hx) (by rw [HBS.out]; exact hx.size) (by simp; omega)
              refine oper_append _ _ 34 rfl _ _ v1 W2 rfl rfl hrun ?_
              rw [List.nil_append] at hr1
              replace hx := ext_own hx hr0 (Nat.le_of_eq HBS.out.symm) hg
              refine hK.out _ _ ?_ (fun hHeld => ?_)
              · exact ⟨Ext.cell (hxV.trans hx) d1, Ext.cell (hxV.trans hx) p0, hxV.trans hx⟩
              clear hK K hrun hg
              try simp only [Act.put, List.getElem_toArray, List.getElem_cons_zero, List.getElem_cons_succ, List.setIfInBounds_toArray, List.set_cons_zero, List.set_cons_succ]
              refine wpAnyH_ready (rs := [11]) (by kernel_rfl) (by simp) ?_
              refine AllReadyH.cons rfl (fun K hK => ?_) ?_
              · go_simp
                obtain ⟨W3, hN⟩ : ∃ X, W2.alloc (.cells #[.int .i64 n] 3) = X := ⟨_, rfl⟩
                have hz : Ext W2 W3 := by rw [← hN]; exact (by repeat (first | exact Ext.refl _ | assumption | refine Ext.alloc ?_ _ | refine Ext.drew ?_ | refine Ext.drewN _ ?_ | refine Ext.trans ?_ (by assumption)))
                have hb1 : IntsAt W3 (.slice (some ⟨W2.heap.size, 0, none⟩) 1 1) [n] := by rw [← hN]; exact ints_one _ _ _
                rw [hN]
                replace hr1 := rowI_ext hr1 hz
                replace hx := hx.trans hz
                obtain ⟨NB, hNB⟩ : ∃ N, W2.heap.size = N := ⟨_, rfl⟩
                have hltB : NB < W3.heap.size := by rw [← hNB, ← hN]; simp
                rw [hNB] at hb1 ⊢
                refine hK.out _ _ ?_ (fun hHeld => ?_)
                · exact ⟨Ext.cell (hxV.trans hx) d1, Ext.cell (hxV.trans hx) p0, hxV.trans hx⟩
                clear hK K hN hz
                try simp only [Act.put, List.getElem_toArray, List.getElem_cons_zero, List.getElem_cons_succ, List.setIfInBounds_toArray, List.set_cons_zero, List.set_cons_succ]
                obtain ⟨v2, W4, hrun, hr2, hg, _⟩ := run_append_ints W3 34 BS _ _ (l.take l.length) [n] hr1 hb1 (by rw [HBS.out]; exact hx.size) (by simp; omega)
                refine wpAnyH_ready (rs := [12]) (by kernel_rfl) (by simp) ?_
                refine AllReadyH.cons rfl (fun K hK => ?_) AllReadyH.nil
                rw [if_pos (by rfl)]
                refine oper_append _ _ 34 rfl _ _ v2 W4 rfl rfl hrun ?_
                have hx2 : Ext V W4 := ext_own hx hr1 (Nat.le_of_eq HBS.out.symm) hg
                refine hK.out _ _ ?_ (fun hHeld => ?_)
                · exact ⟨Ext.cell (hxV.trans hx2) d1, Ext.cell (hxV.trans hx2) p0, hxV.trans hx2⟩
                clear hK K hrun hg
                try simp only [Act.put, List.getElem_toArray, List.getElem_cons_zero, List.getElem_cons_succ, List.setIfInBounds_toArray, List.set_cons_zero, List.set_cons_succ]
                obtain ⟨v3, W5, hrun, hr3, hg, _⟩ := run_append_ints W4 34 BS _ _ (l.take l.length ++ [n]) (l.drop l.length) hr2 (hDr hx2) (by rw [HBS.out]; exact hx2.size) (by simp; omega)
                refine wpAnyH_ready (rs := [16]) (by kernel_rfl) (by simp) ?_
                refine AllReadyH.cons rfl (fun K hK => ?_) AllReadyH.nil
                rw [if_pos (by rfl)]
                refine oper_append _ _ 34 rfl _ _ v3 W5 rfl rfl hrun ?_
                have hx3 : Ext V W5 := ext_own hx2 hr2 (Nat.le_of_eq HBS.out.symm) hg
                refine hK.out _ _ ?_ (fun hHeld => ?_)
                · exact ⟨Ext.cell (hxV.trans hx3) d1, Ext.cell (hxV.trans hx3) p0, hxV.trans hx3⟩
                clear hK K hrun hg
                try simp only [Act.put, List.getElem_toArray, List.getElem_cons_zero, List.getElem_cons_succ, List.setIfInBounds_toArray, List.set_cons_zero, List.set_cons_succ]
                (refine wpAnyH_take (i := 17) (v := ?_) rfl (by kernel_rfl) (by kernel_rfl) (by kernel_rfl) (fun _ _ _ h => h) (Or.inl ⟨by rfl, ?_⟩) (by assumption) ?_; rotate_left 1; (focus (intro w hSw; (try dsimp only at hSw); go_simp; try (with_reducible rfl))))
                try simp only [Act.put, List.getElem_toArray, List.getElem_cons_zero, List.getElem_cons_succ, List.setIfInBounds_toArray, List.set_cons_zero, List.set_cons_succ]
                refine wpAnyH_done (by kernel_rfl) ?_ _
                obtain ⟨W3, hW3⟩ : ∃ W, W5 = W := ⟨_, rfl⟩
                subst hW3
                have hR3 : Hid (RowI (w.heap.size + 1) v3 P (_ : World)) := Lib.hid (by rw [← HP.out]; simpa [List.append_assoc] using rowI_base hr3 hbV)
                have hxE := hxV.trans hx3
                go_wp2_with fail
                go_roundw
                case rel => exact ⟨i + 1, by omega, by go_num, HPP.out ▸ hR3, q0.ext hxE, hx0.trans hxE⟩
                case measure => simp [intOf]; omega
              exact AllReadyH.nil
            refine AllReadyH.cons rfl (fun K hK => ?_) ?_
            · go_simp
              obtain ⟨W2, hN⟩ : ∃ X, W1.alloc (.cells #[.int .i64 n] 3) = X := ⟨_, rfl⟩
              have hz : Ext W1 W2 := by rw [← hN]; exact (by repeat (first | exact Ext.refl _ | assumption | refine Ext.alloc ?_ _ | refine Ext.drew ?_ | refine Ext.drewN _ ?_ | refine Ext.trans ?_ (by assumption)))
              have hb1 : IntsAt W2 (.slice (some ⟨W1.heap.size, 0, none⟩) 1 1) [n] := by rw [← hN]; exact ints_one _ _ _
              rw [hN]
              replace hr0 := rowI_ext hr0 hz
              replace hx := hx.trans hz
              have hbne : some W1.heap.size ≠ (Value.slice (some ⟨N0, 0, none⟩) 0 0).ownBlock := fun e => by simp only [Value.ownBlock, Option.some.injEq] at e; omega
              obtain ⟨NB, hNB⟩ : ∃ N, W1.heap.size = N := ⟨_, rfl⟩
              have hltB : NB < W2.heap.size := by rw [← hNB, ← hN]; simp
              rw [hNB] at hb1 ⊢ hbne
              refine hK.out _ _ ?_ (fun hHeld => ?_)
              · exact ⟨Ext.cell (hxV.trans hx) d1, Ext.cell (hxV.trans hx) p0, hxV.trans hx⟩
              clear hK K hN hz
              try simp only [Act.put, List.getElem_toArray, List.getElem_cons_zero, List.getElem_cons_succ, List.setIfInBounds_toArray, List.set_cons_zero, List.set_cons_succ]
              refine wpAnyH_ready (rs := [4]) (by kernel_rfl) (by simp) ?_
              refine AllReadyH.cons rfl (fun K hK => ?_) ?_
              · rw [if_pos (by rfl)]
                obtain ⟨v1, W3, hrun, hr1, hg, _⟩ := run_append_ints W2 34 BS _ _ [] (l.take l.length) hr0 (hTk hx) (by rw [HBS.out]; exact hx.size) (by simp; omega)
                refine oper_append _ _ 34 rfl _ _ v1 W3 rfl rfl hrun ?_
                rw [List.nil_append] at hr1
                replace hb1 := ints_off hb1 hg hbne
                replace hx := ext_own hx hr0 (Nat.le_of_eq HBS.out.symm) hg
                refine hK.out _ _ ?_ (fun hHeld => ?_)
                · exact ⟨Ext.cell (hxV.trans hx) d1, Ext.cell (hxV.trans hx) p0, hxV.trans hx⟩
                clear hK K hrun hg
                try simp only [Act.put, List.getElem_toArray, List.getElem_cons_zero, List.getElem_cons_succ, List.setIfInBounds_toArray, List.set_cons_zero, List.set_cons_succ]
                obtain ⟨v2, W4, hrun, hr2, hg, _⟩ := run_append_ints W3 34 BS _ _ (l.take l.length) [n] hr1 hb1 (by rw [HBS.out]; exact hx.size) (by simp; omega)
                refine wpAnyH_ready (rs := [12]) (by kernel_rfl) (by simp) ?_
                refine AllReadyH.cons rfl (fun K hK => ?_) AllReadyH.nil
                rw [if_pos (by rfl)]
                refine oper_append _ _ 34 rfl _ _ v2 W4 rfl rfl hrun ?_
                have hx2 : Ext V W4 := ext_own hx hr1 (Nat.le_of_eq HBS.out.symm) hg
                refine hK.out _ _ ?_ (fun hHeld => ?_)
                · exact ⟨Ext.cell (hxV.trans hx2) d1, Ext.cell (hxV.trans hx2) p0, hxV.trans hx2⟩
                clear hK K hrun hg
                try simp only [Act.put, List.getElem_toArray, List.getElem_cons_zero, List.getElem_cons_succ, List.setIfInBounds_toArray, List.set_cons_zero, List.set_cons_succ]
                obtain ⟨v3, W5, hrun, hr3, hg, _⟩ := run_append_ints W4 34 BS _ _ (l.take l.length ++ [n]) (l.drop l.length) hr2 (hDr hx2) (by rw [HBS.out]; exact hx2.size) (by simp; omega)
                refine wpAnyH_ready (rs := [16]) (by kernel_rfl) (by simp) ?_
                refine AllReadyH.cons rfl (fun K hK => ?_) AllReadyH.nil
                rw [if_pos (by rfl)]
                refine oper_append _ _ 34 rfl _ _ v3 W5 rfl rfl hrun ?_
                have hx3 : Ext V W5 := ext_own hx2 hr2 (Nat.le_of_eq HBS.out.symm) hg
                refine hK.out _ _ ?_ (fun hHeld => ?_)
                · exact ⟨Ext.cell (hxV.trans hx3) d1, Ext.cell (hxV.trans hx3) p0, hxV.trans hx3⟩
                clear hK K hrun hg
                try simp only [Act.put, List.getElem_toArray, List.getElem_cons_zero, List.getElem_cons_succ, List.setIfInBounds_toArray, List.set_cons_zero, List.set_cons_succ]
                (refine wpAnyH_take (i := 17) (v := ?_) rfl (by kernel_rfl) (by kernel_rfl) (by kernel_rfl) (fun _ _ _ h => h) (Or.inl ⟨by rfl, ?_⟩) (by assumption) ?_; rotate_left 1; (focus (intro w hSw; (try dsimp only at hSw); go_simp; try (with_reducible rfl))))
                try simp only [Act.put, List.getElem_toArray, List.getElem_cons_zero, List.getElem_cons_succ, List.setIfInBounds_toArray, List.set_cons_zero, List.set_cons_succ]
                refine wpAnyH_done (by kernel_rfl) ?_ _
                obtain ⟨W3, hW3⟩ : ∃ W, W5 = W := ⟨_, rfl⟩
                subst hW3
                have hR3 : Hid (RowI (w.heap.size + 1) v3 P (_ : World)) := Lib.hid (by rw [← HP.out]; simpa [List.append_assoc] using rowI_base hr3 hbV)
                have hxE := hxV.trans hx3
                go_wp2_with fail
                go_roundw
                case rel => exact ⟨i + 1, by omega, by go_num, HPP.out ▸ hR3, q0.ext hxE, hx0.trans hxE⟩
                case measure => simp [intOf]; omega
              exact AllReadyH.nil
            exact AllReadyH.nil
          refine AllReadyH.cons rfl (fun K hK => ?_) ?_
          · go_simp
            obtain ⟨W1, hN⟩ : ∃ X, V.alloc (.cells #[.int .i64 n] 3) = X := ⟨_, rfl⟩
            have hz : Ext V W1 := by rw [← hN]; exact (by repeat (first | exact Ext.refl _ | assumption | refine Ext.alloc ?_ _ | refine Ext.drew ?_ | refine Ext.drewN _ ?_ | refine Ext.trans ?_ (by assumption)))
            have hb1 : IntsAt W1 (.slice (some ⟨V.heap.size, 0, none⟩) 1 1) [n] := by rw [← hN]; exact ints_one _ _ _
            rw [hN]
            replace hx := hx.trans hz
            obtain ⟨NB, hNB⟩ : ∃ N, V.heap.size = N := ⟨_, rfl⟩
            have hltB : NB < W1.heap.size := by rw [← hNB, ← hN]; simp
            rw [hNB] at hb1 ⊢
            refine hK.out _ _ ?_ (fun hHeld => ?_)
            · exact ⟨Ext.cell (hxV.trans hx) d1, Ext.cell (hxV.trans hx) p0, hxV.trans hx⟩
            clear hK K hN hz
            try simp only [Act.put, List.getElem_toArray, List.getElem_cons_zero, List.getElem_cons_succ, List.setIfInBounds_toArray, List.set_cons_zero, List.set_cons_succ]
            refine wpAnyH_ready (rs := [0]) (by kernel_rfl) (by simp) ?_
            refine AllReadyH.cons rfl (fun K hK => ?_) ?_
            · go_simp
              obtain ⟨W2, hN⟩ : ∃ X, W1.alloc (.cells #[] 3) = X := ⟨_, rfl⟩
              have hz : Ext W1 W2 := by rw [← hN]; exact (by repeat (first | exact Ext.refl _ | assumption | refine Ext.alloc ?_ _ | refine Ext.drew ?_ | refine Ext.drewN _ ?_ | refine Ext.trans ?_ (by assumption)))
              have hr0 : RowI BS (.slice (some ⟨W1.heap.size, 0, none⟩) 0 0) [] W2 := by rw [← hN]; exact rowI_lit0 W1 (by rw [HBS.out]; exact hx.size)
              rw [hN]
              replace hb1 := hb1.ext hz
              replace hx := hx.trans hz
              have hbne : some NB ≠ (Value.slice (some ⟨W1.heap.size, 0, none⟩) 0 0).ownBlock := fun e => by simp only [Value.ownBlock, Option.some.injEq] at e; omega
              obtain ⟨N0, hN0⟩ : ∃ N, W1.heap.size = N := ⟨_, rfl⟩
              have hlt0 : N0 < W2.heap.size := by rw [← hN0, ← hN]; simp
              rw [hN0] at hr0 ⊢ hbne
              refine hK.out _ _ ?_ (fun hHeld => ?_)
              · exact ⟨Ext.cell (hxV.trans hx) d1, Ext.cell (hxV.trans hx) p0, hxV.trans hx⟩
              clear hK K hN hz
              try simp only [Act.put, List.getElem_toArray, List.getElem_cons_zero, List.getElem_cons_succ, List.setIfInBounds_toArray, List.set_cons_zero, List.set_cons_succ]
              refine wpAnyH_ready (rs := [4]) (by kernel_rfl) (by simp) ?_
              refine AllReadyH.cons rfl (fun K hK => ?_) ?_
              · rw [if_pos (by rfl)]
                obtain ⟨v1, W3, hrun, hr1, hg, _⟩ := run_append_ints W2 34 BS _ _ [] (l.take l.length) hr0 (hTk hx) (by rw [HBS.out]; exact hx.size) (by simp; omega)
                refine oper_append _ _ 34 rfl _ _ v1 W3 rfl rfl hrun ?_
                rw [List.nil_append] at hr1
                replace hb1 := ints_off hb1 hg hbne
                replace hx := ext_own hx hr0 (Nat.le_of_eq HBS.out.symm) hg
                refine hK.out _ _ ?_ (fun hHeld => ?_)
                · exact ⟨Ext.cell (hxV.trans hx) d1, Ext.cell (hxV.trans hx) p0, hxV.trans hx⟩
                clear hK K hrun hg
                try simp only [Act.put, List.getElem_toArray, List.getElem_cons_zero, List.getElem_cons_succ, List.setIfInBounds_toArray, List.set_cons_zero, List.set_cons_succ]
                obtain ⟨v2, W4, hrun, hr2, hg, _⟩ := run_append_ints W3 34 BS _ _ (l.take l.length) [n] hr1 hb1 (by rw [HBS.out]; exact hx.size) (by simp; omega)
                refine wpAnyH_ready (rs := [12]) (by kernel_rfl) (by simp) ?_
                refine AllReadyH.cons rfl (fun K hK => ?_) AllReadyH.nil
                rw [if_pos (by rfl)]
                refine oper_append _ _ 34 rfl _ _ v2 W4 rfl rfl hrun ?_
                have hx2 : Ext V W4 := ext_own hx hr1 (Nat.le_of_eq HBS.out.symm) hg
                refine hK.out _ _ ?_ (fun hHeld => ?_)
                · exact ⟨Ext.cell (hxV.trans hx2) d1, Ext.cell (hxV.trans hx2) p0, hxV.trans hx2⟩
                clear hK K hrun hg
                try simp only [Act.put, List.getElem_toArray, List.getElem_cons_zero, List.getElem_cons_succ, List.setIfInBounds_toArray, List.set_cons_zero, List.set_cons_succ]
                obtain ⟨v3, W5, hrun, hr3, hg, _⟩ := run_append_ints W4 34 BS _ _ (l.take l.length ++ [n]) (l.drop l.length) hr2 (hDr hx2) (by rw [HBS.out]; exact hx2.size) (by simp; omega)
                refine wpAnyH_ready (rs := [16]) (by kernel_rfl) (by simp) ?_
                refine AllReadyH.cons rfl (fun K hK => ?_) AllReadyH.nil
                rw [if_pos (by rfl)]
                refine oper_append _ _ 34 rfl _ _ v3 W5 rfl rfl hrun ?_
                have hx3 : Ext V W5 := ext_own hx2 hr2 (Nat.le_of_eq HBS.out.symm) hg
                refine hK.out _ _ ?_ (fun hHeld => ?_)
                · exact ⟨Ext.cell (hxV.trans hx3) d1, Ext.cell (hxV.trans hx3) p0, hxV.trans hx3⟩
                clear hK K hrun hg
                try simp only [Act.put, List.getElem_toArray, List.getElem_cons_zero, List.getElem_cons_succ, List.setIfInBounds_toArray, List.set_cons_zero, List.set_cons_succ]
                (refine wpAnyH_take (i := 17) (v := ?_) rfl (by kernel_rfl) (by kernel_rfl) (by kernel_rfl) (fun _ _ _ h => h) (Or.inl ⟨by rfl, ?_⟩) (by assumption) ?_; rotate_left 1; (focus (intro w hSw; (try dsimp only at hSw); go_simp; try (with_reducible rfl))))
                try simp only [Act.put, List.getElem_toArray, List.getElem_cons_zero, List.getElem_cons_succ, List.setIfInBounds_toArray, List.set_cons_zero, List.set_cons_succ]
                refine wpAnyH_done (by kernel_rfl) ?_ _
                obtain ⟨W3, hW3⟩ : ∃ W, W5 = W := ⟨_, rfl⟩
                subst hW3
                have hR3 : Hid (RowI (w.heap.size + 1) v3 P (_ : World)) := Lib.hid (by rw [← HP.out]; simpa [List.append_assoc] using rowI_base hr3 hbV)
                have hxE := hxV.trans hx3
                go_wp2_with fail
                go_roundw
                case rel => exact ⟨i + 1, by omega, by go_num, HPP.out ▸ hR3, q0.ext hxE, hx0.trans hxE⟩
                case measure => simp [intOf]; omega
              exact AllReadyH.nil
            exact AllReadyH.nil
          exact AllReadyH.nil
    · obtain rfl : i = T.ps.length := by omega
      have hR := HR.out
      rw [List.take_length] at hR
      go_wp2_with fail
      go_ret
      exact ⟨_, rfl, rowI_base hR (by omega), hx0⟩
end Go.Proofs.Ythopgonbndoidaa
