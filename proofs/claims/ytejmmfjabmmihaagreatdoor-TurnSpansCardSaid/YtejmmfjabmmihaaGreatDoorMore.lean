/- more and listed of the specification. -/
import Derived.Test.YtejmmfjabmmihaaGreatDoorComP
import Derived.Laws.OwnMore
namespace Go.Proofs.YtejmmfjabmmihaaGreatDoor
open Go.RowKit Go.Shelf

theorem addM_last (l : List Sp) (s : Sp) (m : Int) : addM (l ++ [s]) m = if s.hi = m - 1 then l ++ [⟨s.lo, m⟩] else l ++ [s] ++ [⟨m, m⟩] := by
  unfold addM
  simp
theorem cellsS_set (l : List Sp) (s : Sp) (m : Int) : (cellsS (l ++ [s])).set (l.length * 2 + 1) (.int .i64 m) = cellsS (l ++ [⟨s.lo, m⟩]) := by
  rw [cellsS_append, cellsS_append, List.set_append, if_neg (by rw [cellsS_len]; omega), cellsS_len]
  rw [show l.length * 2 + 1 - l.length * 2 = 1 by omega]
  rfl
/-- what more returns: a row of its own, or the one that it was handed, grown -/
def MorePost (base : Nat) (v : Value) (l : List Sp) (m : Int) (w : World) (e : Ending) (w' : World) : Prop :=
  ∃ v', e = .returned v' ∧ RowS base v' (addM l m) w' ∧ w.grownBy w' v.ownBlock
theorem grown_row {w w' : World} (h : w.grownBy w' none) (r : Option Nat) : w.grownBy w' r := ⟨h.os, h.tape, h.output, h.size, fun k hk _ => h.block k hk (by simp)⟩
theorem grown_new {w w' : World} (h : w.grownBy w' none) {g i : Nat} (hg : w.heap.size ≤ g) (u : Value) : w.grownBy (w'.setCell ⟨g, i, none⟩ u) none :=
  ⟨h.os, h.tape, h.output, by have := h.size; simpa [World.setCell] using this, fun k hk hne => (Below.heap_setCell w' ⟨g, i, none⟩ u k (by simp; omega)).trans (h.block k hk hne)⟩

theorem grown_pre {w w' : World} {o : Obj} {r : Option Nat} (h : (w.alloc o).grownBy w' r) : w.grownBy w' r :=
  ⟨h.os, h.tape, h.output, Nat.le_trans (by simp) h.size, fun k hk hne => (h.block k (by simp; omega) hne).trans (Below.heap_alloc w o k hk)⟩

theorem cellsS_snoc {l' : List Sp} {s : Sp} {n : Nat} (h : l'.length = n) : (cellsS (l' ++ [s])).length = (n + 1) * 2 := by
  rw [cellsS_len]; simp [h]
theorem cellsS_one (l : List Sp) : ∀ u ∈ cellsS l, u.oneCell' = true := by
  intro u hu
  unfold cellsS at hu
  simp only [List.mem_flatMap, List.mem_cons, List.not_mem_nil, or_false] at hu
  obtain ⟨s, _, rfl | rfl⟩ := hu <;> rfl
theorem ownsRow_new {W : World} {base : Nat} {e : TypeId} {size : Nat} {v : Value} {k : Nat} {xs : List Value} (h : W.ownsRow base e size v (0 + (k + 1)) xs) : ∃ g cap, v = .slice (some ⟨g, 0, none⟩) (0 + (k + 1)) cap ∧ base ≤ g := by
  rcases h.2 with ⟨_, h0⟩ | ⟨g, cap, cur, rfl, hb, _⟩
  · omega
  · exact ⟨g, cap, rfl, hb⟩
theorem row_last {W : World} {base g cap n : Nat} {l' : List Sp} {s : Sp} (hn : l'.length = n) (h : W.ownsRow base 27 2 (.slice (some ⟨g, 0, none⟩) (0 + (n + 1)) cap) (0 + (n + 1)) ([] ++ cellsS (l' ++ [s]))) : W.cell? ⟨g, n * 2 + 1, none⟩ = some (.int .i64 s.hi) := by
  rw [World.ownsRow.cellAt h (n * 2 + 1) (by omega), List.nil_append]
  have := (cellsS_get (l' ++ [s]) n (by simp; omega)).2
  rw [this]
  subst hn
  simp
theorem row_weak {base base' : Nat} {W : World} {v : Value} {l : List Sp} (hb : base ≤ base') (h : W.ownsRow base' 27 2 v l.length (cellsS l)) : RowS base v l W := by
  unfold RowS
  refine ⟨h.1, ?_⟩
  rcases h.2 with h0 | ⟨g, cap, cur, h1, h2, h3⟩
  · exact .inl h0
  · exact .inr ⟨g, cap, cur, h1, Nat.le_trans hb h2, h3⟩
theorem row_n {base n c : Nat} {A : Option Addr} {W : World} {l' : List Sp} {s : Sp} (hn : l'.length = n) (h : RowS base (.slice A (l' ++ [s]).length c) (l' ++ [s]) W) : W.ownsRow base 27 2 (.slice A (n + 1) c) (n + 1) (cellsS (l' ++ [s])) := by
  have e : (l' ++ [s]).length = n + 1 := by simp [hn]
  unfold RowS at h
  rw [e] at h; exact h
theorem row_snoc {base n : Nat} {W : World} {v : Value} {l' : List Sp} {s : Sp} {m : Int} (hn : l'.length = n) (h : W.ownsRow base 27 2 v (n + 1 + 1) (cellsS (l' ++ [s]) ++ [.int .i64 m, .int .i64 m])) : RowS base v (l' ++ [s] ++ [⟨m, m⟩]) W := by
  unfold RowS
  have e : (l' ++ [s] ++ [(⟨m, m⟩ : Sp)]).length = n + 1 + 1 := by simp [hn]
  rw [e, cellsS_append]; exact h

set_option maxRecDepth 100000 in
set_option maxHeartbeats 2000000 in
theorem refMore_any (base : Nat) (v : Value) (l : List Sp) (m : Int) (w : World) (hrow : RowS base v l w) (hb : base ≤ w.heap.size) (hl : l.length ≤ 2000000) (h1 : -1000000000 ≤ m) (h2 : m ≤ 1000000000) :
    Calls Tryz.prog 42 #[v, .int .i64 m] w (MorePost base v l m w) := by
  obtain ⟨i0, hi0, hz0, hz1, hz2⟩ := info_parts infoSp
  obtain ⟨A, c, rfl⟩ := hrow.form
  rcases last_cases l with rfl | ⟨l', s, rfl⟩
  · go_enter Tryz.func42, Tryz.ntmps42
    go_wp2_with ((at_builtin; refine wpList_append_own _ rfl _ _ 23 rfl base 27 i0 (.agg #[.int .i64 0, .int .i64 0]) 2 16 undSp hi0 hz0 hz1 hz2 rfl (by decide) _ _ _ rfl (World.ownsRow.alloc hrow _) ⟨w.heap.size, 0, none⟩ 1 1 [.int .i64 m, .int .i64 m] rfl rfl (cell_two_new _ _ _ _) (by simp [Value.oneCell']) (by unfold maxLen; simp) (by simp) (by simp; omega) ?_; intro v' w1 hown hgrow _))
    go_ret
    exact ⟨v', rfl, hown, grown_pre hgrow⟩
  · have hlen : (l' ++ [s]).length = l'.length + 1 := by simp
    have hat := hrow.at_.get l'.length (by simp)
    have hcells := fun g (hA : A = some ⟨g, 0, none⟩) => World.ownsRow.cells (g := g) hrow (by rw [hA]; rfl)
    have hform := hrow.2
    simp only [List.getElem_append_right (Nat.le_refl _), Nat.sub_self, List.getElem_cons_zero] at hat
    rw [hlen] at hl hform ⊢
    obtain ⟨g, rfl, hbg⟩ : ∃ g, A = some ⟨g, 0, none⟩ ∧ base ≤ g := by
      rcases hform with ⟨h0, _⟩ | ⟨g, cap, cur, hv, hbg, _⟩
      · simp at h0
      · injection hv with hv1 _ _; exact ⟨g, hv1, hbg⟩
    obtain ⟨b, o, hbo, hc0, hc1⟩ := hat
    injection hbo with hbo
    injection hbo with e1 e2
    subst e1; subst e2
    rw [Nat.zero_add] at hc0 hc1
    have hcl := hcells g rfl
    clear hcells hform hc0
    obtain ⟨n, hn⟩ : ∃ n, l'.length = n := ⟨_, rfl⟩
    rw [hn] at hl hc1
    rcases Nat.eq_zero_or_pos n with rfl | hpos
    · simp only [Nat.zero_mul, Nat.zero_add] at hc1 hl
      by_cases hj : s.hi = m - 1
      · have hadd : addM (l' ++ [s]) m = l' ++ [⟨s.lo, m⟩] := by rw [addM_last, if_pos hj]
        have hset := cellsS_set l' s m
        rw [hn] at hset
        have HA := Lib.hid hadd
        have HS := Lib.hid hset
        have HN := Lib.hid hn
        have HR := Lib.hid hrow
        have HJ := Lib.hid hj
        rw [hj] at hc1
        clear hadd hset hrow hj hlen
        rw [hn]
        clear hn
        go_enter Tryz.func42, Tryz.ntmps42
        go_wp2_with ((at_builtin; refine wpList_append_own _ rfl (.tmp 23) (.tmp 24) 23 rfl w.heap.size 27 i0 (.agg #[.int .i64 0, .int .i64 0]) 2 16 undSp hi0 hz0 hz1 hz2 rfl (by decide) (.slice none 0 0) 0 [] rfl (World.ownsRow_nil _ _ _ _) ⟨g, 0, none⟩ 1 c (cellsS (l' ++ [s])) rfl (cellsS_snoc HN.out) hcl (cellsS_one _) (by unfold maxLen; omega) (by omega) (Nat.le_refl _) ?_; intro v' w1 hown hgrow _; obtain ⟨g', cap', rfl, hg'⟩ := ownsRow_new hown; have hf := World.ownsRow.frozenAt hown 1; have hcc := row_last HN.out hown))
        all_goals
          go_ret
          refine ⟨.slice (some ⟨g', 0, none⟩) 1 cap', rfl, ?_, grown_row (grown_new hgrow hg' _) _⟩
          have h5 := (World.ownsRow.stored hown 1 (.int .i64 m)).1
          rw [List.nil_append, HS.out] at h5
          rw [HA.out]
          exact row_weak hb (by simpa [HN.out] using h5)
      · have hadd : addM (l' ++ [s]) m = l' ++ [s] ++ [⟨m, m⟩] := by rw [addM_last, if_neg hj]
        have HA := Lib.hid hadd
        have HN := Lib.hid hn
        have HR := Lib.hid hrow
        have hjb : (s.hi == m - 1) = false := by rw [beq_eq_false_iff_ne]; exact hj
        clear hadd hrow hj hlen hcl
        rw [hn]
        clear hn
        go_enter Tryz.func42, Tryz.ntmps42
        go_wp2_with ((at_builtin; refine wpList_append_own _ rfl (.tmp 33) (.tmp 37) 23 rfl base 27 i0 (.agg #[.int .i64 0, .int .i64 0]) 2 16 undSp hi0 hz0 hz1 hz2 rfl (by decide) _ _ _ rfl (World.ownsRow.alloc (row_n HN.out HR.out) _) ⟨w.heap.size, 0, none⟩ 1 1 [.int .i64 m, .int .i64 m] rfl rfl (cell_two_new _ _ _ _) (by simp [Value.oneCell']) (by unfold maxLen; omega) (by omega) (by simp; omega) ?_; intro v' w1 hown hgrow _))
        all_goals
          go_ret
          refine ⟨_, rfl, ?_, grown_pre hgrow⟩
          rw [HA.out]
          exact row_snoc HN.out hown
    · by_cases hj : s.hi = m - 1
      · have hadd : addM (l' ++ [s]) m = l' ++ [⟨s.lo, m⟩] := by rw [addM_last, if_pos hj]
        have hset := cellsS_set l' s m
        rw [hn] at hset
        have HA := Lib.hid hadd
        have HS := Lib.hid hset
        have HN := Lib.hid hn
        have HR := Lib.hid hrow
        have HJ := Lib.hid hj
        rw [hj] at hc1
        clear hadd hset hrow hj hlen
        rw [hn]
        clear hn
        go_enter Tryz.func42, Tryz.ntmps42
        go_wp2_with ((at_builtin; refine wpList_append_own _ rfl (.tmp 23) (.tmp 24) 23 rfl w.heap.size 27 i0 (.agg #[.int .i64 0, .int .i64 0]) 2 16 undSp hi0 hz0 hz1 hz2 rfl (by decide) (.slice none 0 0) 0 [] rfl (World.ownsRow_nil _ _ _ _) ⟨g, 0, none⟩ (n + 1) c (cellsS (l' ++ [s])) rfl (cellsS_snoc HN.out) hcl (cellsS_one _) (by unfold maxLen; omega) (by omega) (Nat.le_refl _) ?_; intro v' w1 hown hgrow _; obtain ⟨g', cap', rfl, hg'⟩ := ownsRow_new hown; have hf := World.ownsRow.frozenAt hown (n * 2 + 1); have hcc := row_last HN.out hown))
        all_goals
          go_ret
          refine ⟨.slice (some ⟨g', 0, none⟩) (n + 1) cap', rfl, ?_, grown_row (grown_new hgrow hg' _) _⟩
          have h5 := (World.ownsRow.stored hown (n * 2 + 1) (.int .i64 m)).1
          rw [List.nil_append, HS.out] at h5
          rw [HA.out]
          exact row_weak hb (by simpa [HN.out] using h5)
      · have hadd : addM (l' ++ [s]) m = l' ++ [s] ++ [⟨m, m⟩] := by rw [addM_last, if_neg hj]
        have HA := Lib.hid hadd
        have HN := Lib.hid hn
        have HR := Lib.hid hrow
        have hjb : (s.hi == m - 1) = false := by rw [beq_eq_false_iff_ne]; exact hj
        clear hadd hrow hj hlen hcl
        rw [hn]
        clear hn
        go_enter Tryz.func42, Tryz.ntmps42
        go_wp2_with ((at_builtin; refine wpList_append_own _ rfl (.tmp 33) (.tmp 37) 23 rfl base 27 i0 (.agg #[.int .i64 0, .int .i64 0]) 2 16 undSp hi0 hz0 hz1 hz2 rfl (by decide) _ _ _ rfl (World.ownsRow.alloc (row_n HN.out HR.out) _) ⟨w.heap.size, 0, none⟩ 1 1 [.int .i64 m, .int .i64 m] rfl rfl (cell_two_new _ _ _ _) (by simp [Value.oneCell']) (by unfold maxLen; omega) (by omega) (by simp; omega) ?_; intro v' w1 hown hgrow _))
        all_goals
          go_ret
          refine ⟨_, rfl, ?_, grown_pre hgrow⟩
          rw [HA.out]
          exact row_snoc HN.out hown
end Go.Proofs.YtejmmfjabmmihaaGreatDoor
