/- Count of the program: how many minutes of a span are in a set. -/
import Derived.Test.YtejcmdoalhnpeaaGreatDoorRuns
import Derived.Test.YtejcmdoalhnpeaaGreatDoorBox
import Derived.Test.YtejcmdoalhnpeaaGreatDoorAsk
namespace Go.Proofs.YtejcmdoalhnpeaaGreatDoor
open Go.RowKit Go.Shelf

attribute [local go_sem] Oper.semAt_some

theorem spn_ok {S : Mn} {lo hi : Int} (h : spnE S lo hi = 0) : Ok S ∧ 0 ≤ lo ∧ lo ≤ hi ∧ hi ≤ 1048576 := by
  unfold spnE at h
  split at h
  · rename_i h1; exact absurd h h1
  · rename_i h1
    split at h
    · rename_i h2
      have h3 := spB_t h2
      refine ⟨?_, h3⟩
      have := @ask_ok S 0
      refine (this ?_).1
      unfold askE
      rw [if_neg h1, if_pos (by decide)]
    · cases h
def vals {lo hi : Int} (l : List (SpIn lo hi)) : List Sp := l.map (·.1)
theorem vals_snoc {lo hi : Int} (l : List (SpIn lo hi)) (x : SpIn lo hi) : vals (l ++ [x]) = vals l ++ [x.1] := by simp [vals]
theorem vals_len {lo hi : Int} (l : List (SpIn lo hi)) : (vals l).length = l.length := by simp [vals]
theorem vals_run {P : Int → Bool} {lo hi : Int} (h : lo ≤ hi) : vals (runL P lo hi h) = lst P lo (spN lo hi) := runL_map h
theorem sizeL_from {lo hi : Int} (h0 : 0 ≤ lo) (h1 : hi ≤ 1048576) (l : List (SpIn lo hi)) : ∀ z : Int, z ≤ (vals l).foldl (fun o s => o + (s.hi - s.lo + 1)) z ∧ (vals l).foldl (fun o s => o + (s.hi - s.lo + 1)) z ≤ z + l.length * 1048577 := by
  induction l with
  | nil => intro z; simp [vals]
  | cons x l ih =>
    intro z
    have := x.2
    have h2 := ih (z + (x.1.hi - x.1.lo + 1))
    simp only [vals, List.map_cons, List.foldl_cons, List.length_cons] at *
    omega
theorem sizeL_bound {lo hi : Int} (h0 : 0 ≤ lo) (h1 : hi ≤ 1048576) (l : List (SpIn lo hi)) : 0 ≤ sizeL (vals l) ∧ sizeL (vals l) ≤ l.length * 1048577 := by
  have := sizeL_from h0 h1 l 0
  unfold sizeL
  omega
theorem runL_few {P : Int → Bool} {lo hi : Int} (h : lo ≤ hi) (h0 : 0 ≤ lo) (h1 : hi ≤ 1048576) : (runL P lo hi h).length ≤ 1048577 := by
  rw [runL_len]
  have := lst_len_le P lo (spN lo hi)
  unfold spN at *
  omega
/-- what Count returns -/
def cntX (S : Mn) (lo hi : Int) : Int := if spnE S lo hi = 0 then cntP (mem S) lo (spN lo hi) else 0

set_option maxRecDepth 100000 in
set_option maxHeartbeats 2000000 in
theorem Count_any (a b : Value) (S : Mn) (lo hi : Int) (w : World) (hS : MinsAt w a b S) :
    Calls Tryz.prog 21 #[.agg #[a, b], .agg #[.int .i64 lo, .int .i64 hi]] w fun e w' => e = .returned (.tuple #[.int .i64 (cntX S lo hi), .int .i64 (spnE S lo hi)]) ∧ Ext w w' := by
  cases hE : (spnE S lo hi != 0)
  · have h0 : spnE S lo hi = 0 := by simpa using hE
    obtain ⟨hok, b1, b2, b3⟩ := spn_ok h0
    have hN := runL_few (P := mem S) b2 b1 b3
    have H0 := Lib.hid h0
    clear h0
    refine (callsIn_wide (n := 5)).1 ?_
    refine callsIn_of_wp_marks Tryz.func21 rfl trivial ?_ rfl; simp only [Tryz.ntmps21, List.size_toArray, List.length_cons, List.length_nil, Nat.reduceAdd, Nat.reduceSub, Array.replicate_succ, Array.replicate_zero, List.push_toArray, List.append_toArray, List.nil_append, List.cons_append]
    gi_wp2_with fail
    refine ⟨trivial, (callsIn_wide.2 (spanned_any _ _ S _ _ _ (hS.ext (by repeat (first | exact Ext.refl _ | assumption | refine Ext.alloc ?_ _ | refine Ext.drew ?_ | refine Ext.drewN _ ?_ | refine Ext.trans ?_ (by assumption)))))).mono ?_⟩
    rintro e w1 ⟨rfl, hx1⟩
    rw [H0.out]
    have g0 : w1.cell? ⟨w.heap.size, 0, none⟩ = some a := hx1.cell (Ext.cell (by repeat (first | exact Ext.refl _ | assumption | refine Ext.alloc ?_ _ | refine Ext.drew ?_ | refine Ext.drewN _ ?_ | refine Ext.trans ?_ (by assumption))) (cell_at_new w _ _ _ _ _ rfl rfl))
    have g1 : w1.cell? ⟨w.heap.size, 1, none⟩ = some b := hx1.cell (Ext.cell (by repeat (first | exact Ext.refl _ | assumption | refine Ext.alloc ?_ _ | refine Ext.drew ?_ | refine Ext.drewN _ ?_ | refine Ext.trans ?_ (by assumption))) (cell_at_new w _ _ _ _ _ rfl rfl))
    have g2 : w1.cell? ⟨w.heap.size + 1, 0, none⟩ = some (.int .i64 lo) := hx1.cell (cell_at_new _ _ _ _ _ _ (by simp) rfl)
    have g3 : w1.cell? ⟨w.heap.size + 1, 1, none⟩ = some (.int .i64 hi) := hx1.cell (cell_at_new _ _ _ _ _ _ (by simp) rfl)
    have hx2 : Ext w w1 := Ext.trans (by repeat (first | exact Ext.refl _ | assumption | refine Ext.alloc ?_ _ | refine Ext.drew ?_ | refine Ext.drewN _ ?_ | refine Ext.trans ?_ (by assumption))) hx1
    have hzz : w.heap.size + 1 < w1.heap.size := by have := hx1.size; simp at this; omega
    clear hx1
    have k0 : (w1.alloc (.cells #[.int .i64 0] 3)).cell? ⟨w.heap.size, 0, none⟩ = some a := Ext.cell (by repeat (first | exact Ext.refl _ | assumption | refine Ext.alloc ?_ _ | refine Ext.drew ?_ | refine Ext.drewN _ ?_ | refine Ext.trans ?_ (by assumption))) g0
    have k1 : (w1.alloc (.cells #[.int .i64 0] 3)).cell? ⟨w.heap.size, 1, none⟩ = some b := Ext.cell (by repeat (first | exact Ext.refl _ | assumption | refine Ext.alloc ?_ _ | refine Ext.drew ?_ | refine Ext.drewN _ ?_ | refine Ext.trans ?_ (by assumption))) g1
    have k2 : (w1.alloc (.cells #[.int .i64 0] 3)).cell? ⟨w.heap.size + 1, 0, none⟩ = some (.int .i64 lo) := Ext.cell (by repeat (first | exact Ext.refl _ | assumption | refine Ext.alloc ?_ _ | refine Ext.drew ?_ | refine Ext.drewN _ ?_ | refine Ext.trans ?_ (by assumption))) g2
    have k3 : (w1.alloc (.cells #[.int .i64 0] 3)).cell? ⟨w.heap.size + 1, 1, none⟩ = some (.int .i64 hi) := Ext.cell (by repeat (first | exact Ext.refl _ | assumption | refine Ext.alloc ?_ _ | refine Ext.drew ?_ | refine Ext.drewN _ ?_ | refine Ext.trans ?_ (by assumption))) g3
    gi_wp2_with fail
    refine ⟨trivial, (callsIn_wide.2 (runs_any _ _ _ _ _)).mono ?_⟩
    rintro e w2 ⟨rfl, hw2⟩
    obtain ⟨w1', hw1'⟩ : ∃ w1', w1.alloc (.cells #[.int .i64 0] 3) = w1' := ⟨_, rfl⟩
    have hn : Cls w1.heap.size 3 #[.int .i64 0] w1' := by rw [← hw1']; exact Cls.new _ _ _
    have hz1 : w1'.heap.size = w1.heap.size + 1 := by rw [← hw1']; simp
    have hx3 : Ext w1 w1' := by rw [← hw1']; exact (by repeat (first | exact Ext.refl _ | assumption | refine Ext.alloc ?_ _ | refine Ext.drew ?_ | refine Ext.drewN _ ?_ | refine Ext.trans ?_ (by assumption)))
    rw [hw1'] at hw2
    clear hw1'
    have e0 : Cls w1'.heap.size 25 #[a, b] w2 := by rw [← hw2]; exact (Cls.new _ _ _).ext (by repeat (first | exact Ext.refl _ | assumption | refine Ext.alloc ?_ _ | refine Ext.drew ?_ | refine Ext.drewN _ ?_ | refine Ext.trans ?_ (by assumption)))
    have e2 : Cls (w1'.heap.size + 1) 45 #[.int .i64 lo, .int .i64 hi] w2 := by
      rw [← hw2]
      have := Cls.new (w1'.alloc (.cells #[a, b] 25)) 45 #[.int .i64 lo, .int .i64 hi]
      rwa [World.size_alloc] at this
    have hz2 : w2.heap.size = w1'.heap.size + 2 := by rw [← hw2]; simp
    have hx4 : Ext w1' w2 := by rw [← hw2]; exact (by repeat (first | exact Ext.refl _ | assumption | refine Ext.alloc ?_ _ | refine Ext.drew ?_ | refine Ext.drewN _ ?_ | refine Ext.trans ?_ (by assumption)))
    clear hw2
    have hn2 := hn.ext hx4
    have hx5 : Ext w w2 := (hx2.trans hx3).trans hx4
    have HZ1 := Lib.hid hz1
    have HZ2 := Lib.hid hz2
    have hz0 := hx2.size
    rw [hz1] at e0 e2
    clear hz1 hz2 hn
    gi_wp2_with fail
    refine range_box (gf := 81) rfl (enters_of Tryz.func81 (by kernel_rfl) rfl) (n₀ := w.heap.size) (bs := [w1.heap.size + 1, w1.heap.size + 1 + 1]) hx5.size (by have := HZ2.out; have := HZ1.out; simp; omega)
      (runs_stops 4 _ _ (by omega) S hok a b lo hi b2 b1 b3 w w2 hx5 _ _ e0 e2 hS) (fun _ => rfl) 45 (fun x => #[.int .i64 x.1.lo, .int .i64 x.1.hi])
      (fun pre W => (Cls w1.heap.size 3 #[.int .i64 (sizeL (vals pre))] W ∧ Below w.heap.size w W) ∧ w2.heap.size ≤ W.heap.size)
      (fun _ _ _ => False)
      (OwnFrom.and (OwnFrom.and ((Cls.own _ _ (fun pre : List (SpIn lo hi) => #[.int .i64 (sizeL (vals pre))])).from _) (ownFrom_below (Nat.le_refl _) hx5.size)) (ownFrom_size _ _))
      (fun _ _ _ _ _ hs _ _ => hs) ⟨⟨hn2, hx5⟩, Nat.le_refl _⟩
      (fun pre W h => ⟨h.2, fun o => ⟨⟨h.1.1.ext (by repeat (first | exact Ext.refl _ | assumption | refine Ext.alloc ?_ _ | refine Ext.drew ?_ | refine Ext.drewN _ ?_ | refine Ext.trans ?_ (by assumption))), Below.alloc h.1.2 h.1.2.size _⟩, by simp; omega⟩⟩) ?round ?done ?stop
    case round =>
      apply Exists.intro
      constructor
      · intro l x W K B HB hK
        dsimp only [encSp]
        gi_wp2
        rw [HB.out]
        exact hK
      · rintro l pre x B W ⟨⟨hc, hB⟩, hsz⟩ hlen hBB hX
        have hsb := sizeL_bound b1 b3 pre
        have hxp := x.2
        have hsn := sizeL_append (vals pre) x.1
        have c0 : W.cell? ⟨w1.heap.size, 0, none⟩ = some (.int .i64 (sizeL (vals pre))) := hc.cell 0
        have f0 : W.frozen? ⟨w1.heap.size, 0, none⟩ = false := hc.frozen 0
        have c1 : W.cell? ⟨B, 0, none⟩ = some (.int .i64 x.1.lo) := hX.cell 0
        have c2 : W.cell? ⟨B, 1, none⟩ = some (.int .i64 x.1.hi) := hX.cell 1
        have HSN := Lib.hid hsn
        clear hsn
        gi_wp2
        refine ⟨(KeepsOthers.setCell _ _ _).from _, KpB.set _ (p := ⟨w1.heap.size, 0, none⟩) (by simp; omega) (by simp; omega) _, ⟨?_, Below.setCell hB (p := ⟨w1.heap.size, 0, none⟩) (by simp; omega) _⟩, by simpa using hsz⟩
        have h5 := hc.set 0 (.int .i64 (sizeL (vals pre) + (x.1.hi - x.1.lo + 1)))
        rw [vals_snoc, HSN.out]
        exact h5
    case done =>
      rintro D ys W hD rfl ⟨⟨hc, hB⟩, hsz⟩ hK
      have c0 : W.cell? ⟨w1.heap.size, 0, none⟩ = some (.int .i64 (sizeL (vals (runL (mem S) lo hi b2)))) := hc.cell 0
      have hv := vals_run (P := mem S) b2
      have hsl := sizeL_lst (mem S) lo (spN lo hi)
      have HV := Lib.hid hv
      have HSL := Lib.hid hsl
      clear hv hsl
      gi_wp2
      refine ⟨by simp, .inl ⟨_, _, rfl, run_takeDeferred hK, ?_⟩⟩
      refine ⟨_, results_tmp2 rfl _ _ _, ?_, hB.trans (belowK_b (w := w) (Nat.le_refl _) W D _ _ (by have := HZ1.out; have := HZ2.out; omega) hK rfl rfl)⟩
      exact ret2 (vint (by rw [cntX, if_pos H0.out, HV.out, HSL.out])) (vint H0.out.symm)
    case stop =>
      rintro D c pre W _ _ h _
      exact h.elim
  · have h0 : spnE S lo hi ≠ 0 := by simpa using hE
    go_enter Tryz.func21, Tryz.ntmps21
    go_wp2_with fail
    refine (spanned_any a b S _ _ _ (hS.ext (by repeat (first | exact Ext.refl _ | assumption | refine Ext.alloc ?_ _ | refine Ext.drew ?_ | refine Ext.drewN _ ?_ | refine Ext.trans ?_ (by assumption))))).mono ?_
    rintro e w1 ⟨rfl, hx1⟩
    go_wp2_with fail
    go_ret2
    exact ⟨ret2 (vint (by rw [cntX, if_neg h0])) rfl, (by repeat (first | exact Ext.refl _ | assumption | refine Ext.alloc ?_ _ | refine Ext.drew ?_ | refine Ext.drewN _ ?_ | refine Ext.trans ?_ (by assumption)))⟩

end Go.Proofs.YtejcmdoalhnpeaaGreatDoor
