/- uses of the program: whether a payer uses a reach. -/
import Derived.Test.YthopgonbndoidaaVUp
namespace Go.Proofs.Ythopgonbndoidaa
open Go.RowKit Go.Shelf

attribute [local go_sem] Oper.semAt_some

theorem up_boxes {w w1 : World} {a b : Value} {r : Int} (h : (w.alloc (.cells #[a, b] 25)).alloc (.cells #[.int .i64 r] 3) = w1) :
    Cls w.heap.size 25 #[a, b] w1 ∧ Cls (w.heap.size + 1) 3 #[.int .i64 r] w1 ∧ Ext w w1 ∧ w1.heap.size = w.heap.size + 2 := by
  subst h
  exact ⟨(Cls.new _ _ _).ext (by repeat (first | exact Ext.refl _ | assumption | refine Ext.alloc ?_ _ | refine Ext.drew ?_ | refine Ext.drewN _ ?_ | refine Ext.trans ?_ (by assumption))), Cls.newAt _ _ _ (by simp), (by repeat (first | exact Ext.refl _ | assumption | refine Ext.alloc ?_ _ | refine Ext.drew ?_ | refine Ext.drewN _ ?_ | refine Ext.trans ?_ (by assumption))), by simp⟩

def anyK (l : List Int) (k : Int) : Bool := l.any (fun r => r == k)
theorem anyK_snoc (l : List Int) (x k : Int) : anyK (l ++ [x]) k = (anyK l k || x == k) := by simp [anyK]
set_option maxRecDepth 100000 in
set_option maxHeartbeats 2000000 in
theorem uses_any (a b : Value) (T : Tr) (hV : RsV T.rs) (id fr wt k : Int) (w : World) (hT : TrAt w a b T) (h1 : -1 ≤ fr) (h2 : fr < T.rs.length) :
    Calls Try.prog 62 #[.agg #[a, b], .agg #[.int .i64 id, .int .i64 fr, .int .i64 wt], .int .i64 k] w fun e w' => e = .returned (.bool (usB T.rs fr k)) ∧ Ext w w' := by
  obtain ⟨U, hU⟩ : ∃ U, usB T.rs fr k = U := ⟨_, rfl⟩
  have HU := Lib.hid hU
  rw [hU]
  clear hU
  refine (callsIn_wide (n := 5)).1 ?_
  refine callsIn_of_wp_marks Try.func62 rfl trivial ?_ rfl; simp only [Try.ntmps62, List.size_toArray, List.length_cons, List.length_nil, Nat.reduceAdd, Nat.reduceSub, Array.replicate_succ, Array.replicate_zero, List.push_toArray, List.append_toArray, List.nil_append, List.cons_append]
  gi_wp2_with fail
  refine ⟨trivial, (callsIn_wide.2 (up_any a b fr _)).mono ?_⟩
  rintro e w1 ⟨rfl, hw1⟩
  obtain ⟨W0, hW0⟩ : ∃ W0, (((w.alloc (.cells #[a, b] 25)).alloc (.cells #[.int .i64 id, .int .i64 fr, .int .i64 wt] 45)).alloc (.cells #[.int .i64 k] 3)).alloc (.cells #[.bool false] 4) = W0 := ⟨_, rfl⟩
  obtain ⟨_, _, q2, q3, hx0, _⟩ := alloc4 (w := w) (Ext.refl _)
  have hs0 : W0.heap.size = w.heap.size + 4 := by rw [← hW0]; simp
  rw [hW0] at hw1 q2 q3 hx0
  obtain ⟨e0, e1, hx1, hs1⟩ := up_boxes hw1
  rw [hW0]
  rw [hs0] at e0 e1
  clear hW0 hw1
  have hx := hx0.trans hx1
  have HS := Lib.hid (And.intro hs0 hs1)
  have q2' := q2.ext hx1
  have q3' := q3.ext hx1
  clear q2 q3 hs1 hx1
  gi_wp2_with fail
  have hz0 := HS.out.1
  have hz1 := HS.out.2
  have hseq := up_seq (w.heap.size + 4) ((w.heap.size + 4) + 1) T hV a b fr h1 h2 w w1 hx _ _ (by omega) (by omega) e0 e1 hT.r
  have hbs : ∀ b ∈ [(w.heap.size + 4), (w.heap.size + 4) + 1], b < w1.heap.size := by simp; omega
  have hIb : AbidesBox ((w.heap.size + 4) + 1) (fun (pre : List (RIx T.rs.length)) W => ((Cls (w.heap.size + 1 + 1) 3 #[.int .i64 k] W ∧ Cls (w.heap.size + 1 + 1 + 1) 4 #[.bool false] W) ∧ anyK (vals pre) k = false) ∧ Below w.heap.size w W) :=
    (AbidesBox.and (AbidesBox.and (AbidesBox.and (abidesBox_cls _ (fun _ => #[.int .i64 k]) (by omega)) (abidesBox_cls _ (fun _ => #[.bool false]) (by omega))) ⟨fun _ _ _ h => h, fun _ _ _ h => h⟩) (abidesBox_below (by omega) (Nat.le_refl _)))
  clear hz0 hz1
  have hI : OwnFrom w1.heap.size (fun (pre : List (RIx T.rs.length)) W => ((Cls (w.heap.size + 1 + 1) 3 #[.int .i64 k] W ∧ Cls (w.heap.size + 1 + 1 + 1) 4 #[.bool false] W) ∧ anyK (vals pre) k = false) ∧ Below w.heap.size w W) :=
    (OwnFrom.and (OwnFrom.and (OwnFrom.and ((Cls.own _ _ (fun _ => #[.int .i64 k])).from _) ((Cls.own _ _ (fun _ => #[.bool false])).from _)) (ownFrom_pure _ _)) (ownFrom_below (Nat.le_refl _) hx.size))
  have hIx : ∀ c : Code, OwnFrom w1.heap.size (fun (pre : List (RIx T.rs.length)) W => ((Cls (w.heap.size + 1 + 1 + 1) 4 #[.bool true] W ∧ anyK (vals pre) k = true) ∧ Below w.heap.size w W) ∧ c = .ret) := 
    (fun c => OwnFrom.and (OwnFrom.and (OwnFrom.and ((Cls.own _ _ (fun _ => #[.bool true])).from _) (ownFrom_pure _ _)) (ownFrom_below (Nat.le_refl _) hx.size)) (ownFrom_pure _ _))
  have h00 : (fun (pre : List (RIx T.rs.length)) W => ((Cls (w.heap.size + 1 + 1) 3 #[.int .i64 k] W ∧ Cls (w.heap.size + 1 + 1 + 1) 4 #[.bool false] W) ∧ anyK (vals pre) k = false) ∧ Below w.heap.size w W) [] w1 := ⟨⟨⟨q2', q3'⟩, rfl⟩, hx⟩
  refine range_own (gf := 117) (lb := #[.pointer (some ⟨(w.heap.size + 4) + 1, 0, none⟩), .pointer (some ⟨(w.heap.size + 4), 0, none⟩)]) ?hg ?eg (n₀ := w.heap.size) (bs := [(w.heap.size + 4), (w.heap.size + 4) + 1]) (Br := (w.heap.size + 4) + 1) hx.size hbs (by have := HS.out.2; omega)
    hseq ?hps _ _ hI hIx hIb h00 ?round ?done ?stop
  case hg => rfl
  case eg => exact enters_of Try.func117 (by kernel_rfl) rfl
  case hps => exact fun _ => rfl
  case round =>
    apply Exists.intro
    constructor
    · intro l x W K hK
      dsimp only [encR]
      gi_wp2
      exact hK
    · rintro l pre x W ⟨⟨⟨c2, c3⟩, hn⟩, hB⟩ _
      have d2 : W.cell? ⟨w.heap.size + 1 + 1, 0, none⟩ = some (.int .i64 k) := c2.cell 0
      have d3 : W.cell? ⟨w.heap.size + 1 + 1 + 1, 0, none⟩ = some (.bool false) := c3.cell 0
      have f3 := c3.frozen 0
      by_cases hq : x.1 = k
      · have HY : anyK (vals (pre ++ [x])) k = true := by rw [vals_snoc, anyK_snoc, hn]; simp [hq]
        gi_wp2
        exact ⟨(KeepsOthers.setCell _ _ _).from _, ⟨⟨c3.set 0 _, HY⟩, hB.setCell (p := ⟨w.heap.size + 1 + 1 + 1, 0, none⟩) (by simp; omega) _⟩, rfl⟩
      · have HY : anyK (vals (pre ++ [x])) k = false := by rw [vals_snoc, anyK_snoc, hn]; simp [hq]
        gi_wp2
        exact ⟨KeepsFrom.refl _ _, KpB.refl _ _ _, ⟨⟨c2, c3⟩, HY⟩, hB⟩
  case done =>
    rintro D ys W hD rfl ⟨⟨⟨c2, c3⟩, hn⟩, hB⟩ hK
    rw [upS_vals] at hn
    have d3 : W.cell? ⟨w.heap.size + 1 + 1 + 1, 0, none⟩ = some (.bool false) := c3.cell 0
    have f3 := c3.frozen 0
    have HN : U = false := by rw [← HU.out]; exact hn
    clear hn
    gi_wp2
    have hKs := (KeepsOthers.setCell W ⟨w.heap.size + 1 + 1 + 1, 0, none⟩ (.bool false)).same D _ hK rfl
    refine ⟨by simp, .inl ⟨_, _, rfl, run_takeDeferred hKs, ?_⟩⟩
    have r3 := ((c3.set 0 (.bool false)).putObj (.deferred none) hKs rfl).cell 0
    simp only [List.setIfInBounds_toArray, List.set_cons_zero, List.getElem?_toArray, List.getElem?_cons_zero] at r3
    refine ⟨.bool false, by simp [results, Try.f62, go_sem, r3], by first | rfl | rw [HN], ?_⟩
    exact (Below.setCell hB (p := ⟨w.heap.size + 1 + 1 + 1, 0, none⟩) (by simp; omega) _).trans (belowK_b (w := w) (Nat.le_refl _) _ D _ _ (by have := HS.out.2; omega) hKs rfl rfl)
  case stop =>
    rintro D c pre W hD hpre ⟨⟨⟨c3, hn⟩, hB⟩, rfl⟩ hK
    have HN : U = true := by
      rw [← HU.out]
      unfold usB
      unfold anyK at hn
      rw [← upS_vals hV h2, List.any_eq_true] 
      rw [List.any_eq_true] at hn
      obtain ⟨x, hx', hq⟩ := hn
      obtain ⟨t, ht⟩ := hpre
      exact ⟨x, by rw [← ht]; simp only [vals, List.map_append, List.mem_append]; left; exact hx', hq⟩
    gi_wp2
    refine ⟨by simp, .inl ⟨_, _, rfl, run_takeDeferred hK, ?_⟩⟩
    have r3 := (c3.putObj (.deferred none) hK rfl).cell 0
    simp only [List.getElem?_toArray, List.getElem?_cons_zero] at r3
    refine ⟨.bool true, by simp [results, Try.f62, go_sem, r3], by first | rfl | rw [HN], ?_⟩
    exact hB.trans (belowK_b (w := w) (Nat.le_refl _) _ D _ _ (by have := HS.out.2; omega) hK rfl rfl)
end Go.Proofs.Ythopgonbndoidaa
