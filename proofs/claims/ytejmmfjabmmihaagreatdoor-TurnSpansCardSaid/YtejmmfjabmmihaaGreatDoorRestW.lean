/- Rest of the program. -/
import Derived.Test.YtejmmfjabmmihaaGreatDoorRefL
import Derived.BigFrameIn
namespace Go.Proofs.YtejmmfjabmmihaaGreatDoor
open Go.RowKit Go.Shelf Go.Maps
attribute [local go_sem] Oper.semAt_some

theorem rst_range {lo hi : Int} (h : lo ≤ hi) (pre : List (SpIn lo hi)) : lo ≤ (rst lo (vals pre)).2 ∧ (rst lo (vals pre)).2 ≤ hi + 1 := by
  rcases last_cases pre with rfl | ⟨l, x, rfl⟩
  · simp [rst, vals]; omega
  · rw [vals_snoc, rst_snoc]
    have := x.2
    unfold rstS
    simp only
    omega
theorem box_kept {W w3 : World} {o : Obj} {B i : Nat} {v u : Value} (hB : B < W.heap.size) (hne : v.ownBlock ≠ some B) (hg : (W.alloc o).grownBy w3 v.ownBlock) (hc : W.cell? ⟨B, i, none⟩ = some u) : w3.cell? ⟨B, i, none⟩ = some u := by
  rw [← hc]
  exact World.cell?_of_block ((hg.block B (by simp; omega) (fun e => hne e.symm)).trans (Below.heap_alloc W o B hB))
theorem froz_kept {W w3 : World} {o : Obj} {B i : Nat} {v : Value} {u : Bool} (hB : B < W.heap.size) (hne : v.ownBlock ≠ some B) (hg : (W.alloc o).grownBy w3 v.ownBlock) (hc : W.frozen? ⟨B, i, none⟩ = u) : w3.frozen? ⟨B, i, none⟩ = u := by
  rw [← hc]
  exact World.frozen?_of_block ((hg.block B (by simp; omega) (fun e => hne e.symm)).trans (Below.heap_alloc W o B hB))
theorem row_ne {W : World} {base B n size : Nat} {t : TypeId} {v : Value} {xs : List Value} (h : W.ownsRow base t size v n xs) (hB : B < base) : v.ownBlock ≠ some B := fun e => by have := (World.ownsRow.lt h B e).1; omega
theorem rstS_t {R : List Sp × Int} {x : Sp} (h : R.2 < x.lo) : rstS R x = (R.1 ++ [⟨R.2, x.lo - 1⟩], x.hi + 1) := by unfold rstS; rw [if_pos h]
theorem rstS_f {R : List Sp × Int} {x : Sp} (h : ¬ R.2 < x.lo) : rstS R x = (R.1, x.hi + 1) := by unfold rstS; rw [if_neg h]

/-- 'range_box', for a round that grows a row of its own: the loop variable's block is not that row's. -/
theorem range_box2 {α : Type} {P : Program} {g : Operand} {ps : Array Tmp} {assign body : Code} {Q : Exit → Act → World → Prop} {a : Act} {w : World}
    {gf : Nat} {lb : Array Value} (hg : a.eval g = .func (.func gf) #[] lb) (eg : ∀ args w, (callFunc gf args).run P w = .ok (.enter gf args) w)
    {n₀ : Nat} {bs : List Nat} (hn0 : n₀ ≤ w.heap.size) (hbs : ∀ b ∈ bs, b < w.heap.size)
    {encs : α → Array Value} {S Sp : List α → Prop} {N : Nat} (hseq : SeqStopsK Fence.wide 4 P gf lb encs (KpB n₀ bs) S Sp N w)
    (hps : ∀ x, (encs x).size = ps.size) (t : TypeId) (cs : α → Array Value) (Bo : Nat) (to : TypeId)
    (I : List α → World → Prop) (Ix : Code → List α → World → Prop) (hI : OwnFrom w.heap.size I) (hIx : ∀ c, OwnFrom w.heap.size (Ix c)) (h0 : I [] w)
    (hIa : ∀ pre W, I pre W → w.heap.size ≤ W.heap.size ∧ ∀ o, I pre (W.alloc o))
    (hIb : ∀ pre W, I pre W → ∃ v, Cls Bo to #[v] W ∧ ∀ g, v.ownBlock = some g → g < W.heap.size)
    (hr : ∃ tm : α → Nat → Array Value,
      (∀ (l : Nat) (x : α) (W : World) (K : Act → World → Prop) (B : Nat), Hid (W.heap.size = B) → K { tmps := tm x B, defers := [] } (W.alloc (.cells (cs x) t)) →
        assign.wpIn (Fence.wide.inRound l) 3 P (Exit.then K (fun _ _ _ => False)) { tmps := (ps.zip (encs x)).foldl (fun t (p, v) => t.setIfInBounds p v) a.tmps, defers := [] } W) ∧
      (∀ (l : Nat) (pre : List α) (x : α) (B : Nat) (W : World), I pre W → pre.length < N → w.heap.size ≤ B → Cls B t (cs x) W → (∃ v, Cls Bo to #[v] W ∧ v.ownBlock ≠ some B) →
        body.wpIn (Fence.wide.inRound l) 3 P (ownPostG w.heap.size (KpB n₀ bs) I Ix (pre ++ [x]) W) { tmps := tm x B, defers := [] } W))
    (hdone : ∀ (D : Nat) (xs : List α) (W : World), w.heap.size ≤ D → S xs → I xs W → W.heap[D]? = some (.deferred (some [])) → Q .normal { a with defers := { target := .collected D, args := #[] } :: a.defers } W)
    (hstop : ∀ (D : Nat) (c : Code) (pre : List α) (W : World), w.heap.size ≤ D → Sp pre → Ix c pre W → W.heap[D]? = some (.deferred (some [])) → c.wpIn Fence.wide 5 P Q { a with defers := { target := .collected D, args := #[] } :: a.defers } W) :
    (Code.rangeFunc g ps assign body).wpIn Fence.wide 5 P Q a w := by
  obtain ⟨tm, ha, hb⟩ := hr
  refine wpIn_rangeFunc_ownH (w0 := w) rfl (by omega) hg trivial eg hseq (fun h k => KpB.trans h k) (kpB_b hn0 hbs) (Below.refl _ _) hps I Ix hI hIx h0
    (fun x a' W => ∃ B, (w.heap.size ≤ B ∧ a' = { tmps := tm x B, defers := [] }) ∧ Cls B t (cs x) W ∧ ∃ v, Cls Bo to #[v] W ∧ v.ownBlock ≠ some B) (fun x a' _ X Y row hs hg hr => ?_) ?_ ?_ hdone hstop
  · obtain ⟨B, h1, h2, v, h3, h4⟩ := hs
    exact ⟨B, h1, Cls.own B t (fun (_ : Unit) => cs x) () X Y row h2 hg (fun r e => (hr r e).2), v, Cls.own Bo to (fun (_ : Unit) => #[v]) () X Y row h3 hg (fun r e => (hr r e).2), h4⟩
  · intro l pre x W K hi hK
    obtain ⟨hi1, hi2⟩ := hIa _ _ hi
    obtain ⟨v, hv1, hv2⟩ := hIb _ _ hi
    refine ha l x W K W.heap.size (Lib.hid rfl) (hK _ _ ((KeepsOthers.alloc _ _).from _) (KpB.ext ((Ext.refl _).alloc _) (by omega) (fun b h => by have := hbs b h; omega)) (hi2 _) ⟨W.heap.size, ⟨hi1, rfl⟩, Cls.new _ _ _, v, hv1.ext ((Ext.refl _).alloc _), fun e => by have := hv2 _ e; omega⟩)
  · rintro l pre x a' W _ _ hi ⟨B, ⟨h1, rfl⟩, h2, h3⟩ hN
    exact hb l pre x B W hi hN h1 h2 h3

set_option maxRecDepth 100000 in
set_option maxHeartbeats 4000000 in
theorem Rest_any (a b : Value) (S : Mn) (lo hi : Int) (w : World) (hS : MinsAt w a b S) :
    Calls Tryz.prog 13 #[.agg #[a, b], .agg #[.int .i64 lo, .int .i64 hi]] w (ListPost w (restX S lo hi) (restE S lo hi)) := by
  cases hE : (spnE S lo hi != 0)
  · have h0 : spnE S lo hi = 0 := by simpa using hE
    obtain ⟨hok, b1, b2, b3⟩ := spn_ok h0
    have hN := runL_few (P := mem S) b2 b1 b3
    have H0 := Lib.hid h0
    clear h0
    obtain ⟨i0, hi0, hz0, hz1, hz2⟩ := info_parts infoSp
    refine (callsIn_wide (n := 5)).1 ?_
    refine callsIn_of_wp_marks Tryz.func13 rfl trivial ?_ rfl; simp only [Tryz.ntmps13, List.size_toArray, List.length_cons, List.length_nil, Nat.reduceAdd, Nat.reduceSub, Array.replicate_succ, Array.replicate_zero, List.push_toArray, List.append_toArray, List.nil_append, List.cons_append]
    gi_wp2_with fail
    refine ⟨trivial, (callsIn_wide.2 (spanned_any _ _ S _ _ _ (hS.ext (by repeat (first | exact Ext.refl _ | assumption | refine Ext.alloc ?_ _ | refine Ext.drew ?_ | refine Ext.drewN _ ?_ | refine Ext.trans ?_ (by assumption)))))).mono ?_⟩
    rintro e w1 ⟨rfl, hx1⟩
    rw [H0.out]
    obtain ⟨q0, q1, g4, g5, hx2, hzz⟩ := alloc4 hx1
    have g0 : w1.cell? ⟨w.heap.size, 0, none⟩ = some a := q0.cell 0
    have g1 : w1.cell? ⟨w.heap.size, 1, none⟩ = some b := q0.cell 1
    have g2 : w1.cell? ⟨w.heap.size + 1, 0, none⟩ = some (.int .i64 lo) := q1.cell 0
    have g3 : w1.cell? ⟨w.heap.size + 1, 1, none⟩ = some (.int .i64 hi) := q1.cell 1
    clear hx1
    have k0' : (w1.alloc (.cells #[.slice none 0 0] 23)).cell? ⟨w.heap.size + 1, 0, none⟩ = some (.int .i64 lo) := Ext.cell (by repeat (first | exact Ext.refl _ | assumption | refine Ext.alloc ?_ _ | refine Ext.drew ?_ | refine Ext.drewN _ ?_ | refine Ext.trans ?_ (by assumption))) g2
    have k0 : ((w1.alloc (.cells #[.slice none 0 0] 23)).alloc (.cells #[.int .i64 lo] 3)).cell? ⟨w.heap.size, 0, none⟩ = some a := Ext.cell (by repeat (first | exact Ext.refl _ | assumption | refine Ext.alloc ?_ _ | refine Ext.drew ?_ | refine Ext.drewN _ ?_ | refine Ext.trans ?_ (by assumption))) g0
    have k1 : ((w1.alloc (.cells #[.slice none 0 0] 23)).alloc (.cells #[.int .i64 lo] 3)).cell? ⟨w.heap.size, 1, none⟩ = some b := Ext.cell (by repeat (first | exact Ext.refl _ | assumption | refine Ext.alloc ?_ _ | refine Ext.drew ?_ | refine Ext.drewN _ ?_ | refine Ext.trans ?_ (by assumption))) g1
    have k2 : ((w1.alloc (.cells #[.slice none 0 0] 23)).alloc (.cells #[.int .i64 lo] 3)).cell? ⟨w.heap.size + 1, 0, none⟩ = some (.int .i64 lo) := Ext.cell (by repeat (first | exact Ext.refl _ | assumption | refine Ext.alloc ?_ _ | refine Ext.drew ?_ | refine Ext.drewN _ ?_ | refine Ext.trans ?_ (by assumption))) g2
    have k3 : ((w1.alloc (.cells #[.slice none 0 0] 23)).alloc (.cells #[.int .i64 lo] 3)).cell? ⟨w.heap.size + 1, 1, none⟩ = some (.int .i64 hi) := Ext.cell (by repeat (first | exact Ext.refl _ | assumption | refine Ext.alloc ?_ _ | refine Ext.drew ?_ | refine Ext.drewN _ ?_ | refine Ext.trans ?_ (by assumption))) g3
    gi_wp2_with fail
    refine ⟨trivial, (callsIn_wide.2 (runs_any _ _ _ _ _)).mono ?_⟩
    rintro e w2 ⟨rfl, hw2⟩
    obtain ⟨w1', hw1'⟩ : ∃ w1', (w1.alloc (.cells #[.slice none 0 0] 23)).alloc (.cells #[.int .i64 lo] 3) = w1' := ⟨_, rfl⟩
    have hn : Boxed w1' w1.heap.size 23 (.slice none 0 0) := by rw [← hw1']; exact (Boxed.new _ _ _).alloc _
    have hnf : Cls (w1.heap.size + 1) 3 #[.int .i64 lo] w1' := by
      rw [← hw1']
      have := Cls.new (w1.alloc (.cells #[.slice none 0 0] 23)) 3 #[.int .i64 lo]
      rwa [World.size_alloc] at this
    have hz1' : w1'.heap.size = w1.heap.size + 1 + 1 := by rw [← hw1']; simp
    have hx3 : Ext w1 w1' := by rw [← hw1']; exact (by repeat (first | exact Ext.refl _ | assumption | refine Ext.alloc ?_ _ | refine Ext.drew ?_ | refine Ext.drewN _ ?_ | refine Ext.trans ?_ (by assumption)))
    rw [hw1'] at hw2
    clear hw1' k0' k0 k1 k2 k3 g0 g1 g2 g3
    have e0 : Cls w1'.heap.size 25 #[a, b] w2 := by rw [← hw2]; exact (Cls.new _ _ _).ext (by repeat (first | exact Ext.refl _ | assumption | refine Ext.alloc ?_ _ | refine Ext.drew ?_ | refine Ext.drewN _ ?_ | refine Ext.trans ?_ (by assumption)))
    have e2 : Cls (w1'.heap.size + 1) 27 #[.int .i64 lo, .int .i64 hi] w2 := by
      rw [← hw2]
      have := Cls.new (w1'.alloc (.cells #[a, b] 25)) 27 #[.int .i64 lo, .int .i64 hi]
      rwa [World.size_alloc] at this
    have hz2' : w2.heap.size = w1'.heap.size + 2 := by rw [← hw2]; simp
    have hx4 : Ext w1' w2 := by rw [← hw2]; exact (by repeat (first | exact Ext.refl _ | assumption | refine Ext.alloc ?_ _ | refine Ext.drew ?_ | refine Ext.drewN _ ?_ | refine Ext.trans ?_ (by assumption)))
    clear hw2
    rw [hz1'] at e0 e2
    have hx5 : Ext w w2 := (hx2.trans hx3).trans hx4
    have hI0 : ListI w2.heap.size w1.heap.size (w.heap.size + 1 + 1) (w.heap.size + 1 + 1 + 1) [] w2 :=
      ⟨⟨_, (Cls.ext hn hx4), World.ownsRow_nil _ _ _ _, trivial⟩, g4.ext (hx3.trans hx4), g5.ext (hx3.trans hx4)⟩
    have hf0 : Cls (w1.heap.size + 1) 3 #[.int .i64 lo] w2 := hnf.ext hx4
    have hs0 : Cls (w.heap.size + 1) 27 #[.int .i64 lo, .int .i64 hi] w2 := q1.ext (hx3.trans hx4)
    have hz0' := hx2.size
    have hzs : w1.heap.size + 4 = w2.heap.size := by omega
    have HZ := Lib.hid hzs
    clear hz1' hz2' hn hzs g4 g5 hnf q0 q1
    gi_wp2_with fail
    refine range_box2 (gf := 78) rfl (enters_of Tryz.func78 (by kernel_rfl) rfl) (n₀ := w.heap.size) (bs := [w1.heap.size + 1 + 1, w1.heap.size + 1 + 1 + 1]) hx5.size (by have := HZ.out; simp; omega)
      (runs_stops 4 _ _ (by omega) S hok a b lo hi b2 b1 b3 w w2 hx5 _ _ e0 e2 hS) (fun _ => rfl) 27 (fun x => #[.int .i64 x.1.lo, .int .i64 x.1.hi]) w1.heap.size 23
      (fun pre W => (((ListI w2.heap.size w1.heap.size (w.heap.size + 1 + 1) (w.heap.size + 1 + 1 + 1) (rst lo (vals pre)).1 W ∧ (Cls (w1.heap.size + 1) 3 #[.int .i64 (rst lo (vals pre)).2] W ∧ Cls (w.heap.size + 1) 27 #[.int .i64 lo, .int .i64 hi] W)) ∧ Below w.heap.size w W) ∧ w2.heap.size ≤ W.heap.size) ∧ (rst lo (vals pre)).1.length ≤ 2000)
      (fun c pre W => (Cls (w.heap.size + 1 + 1) 23 #[.slice none 0 0] W ∧ Cls (w.heap.size + 1 + 1 + 1) 31 #[.int .i64 2] W) ∧ Below w.heap.size w W ∧ 2000 < (rst lo (vals pre)).1.length ∧ c = .ret)
      (OwnFrom.and (OwnFrom.and (OwnFrom.and (OwnFrom.and ((listI_own _ _ _ _ (fun pre => (rst lo (vals pre)).1)).from _) (OwnFrom.and ((Cls.own _ _ (fun pre => #[.int .i64 (rst lo (vals pre)).2])).from _) ((Cls.own _ _ (fun _ => #[.int .i64 lo, .int .i64 hi])).from _))) (ownFrom_below (Nat.le_refl _) hx5.size)) (ownFrom_size _ _)) (ownFrom_pure _ _))
      (fun c => OwnFrom.and (OwnFrom.and ((Cls.own _ _ (fun _ => #[.slice none 0 0])).from _) ((Cls.own _ _ (fun _ => #[.int .i64 2])).from _)) (OwnFrom.and (ownFrom_below (Nat.le_refl _) hx5.size) (ownFrom_pure _ _)))
      ⟨⟨⟨⟨hI0, hf0, hs0⟩, hx5⟩, Nat.le_refl _⟩, by simp [rst, vals]⟩
      (fun pre W h => ⟨h.1.2, fun o => ⟨⟨⟨⟨h.1.1.1.1.alloc o, h.1.1.1.2.1.ext (by repeat (first | exact Ext.refl _ | assumption | refine Ext.alloc ?_ _ | refine Ext.drew ?_ | refine Ext.drewN _ ?_ | refine Ext.trans ?_ (by assumption))), h.1.1.1.2.2.ext (by repeat (first | exact Ext.refl _ | assumption | refine Ext.alloc ?_ _ | refine Ext.drew ?_ | refine Ext.drewN _ ?_ | refine Ext.trans ?_ (by assumption)))⟩, Below.alloc h.1.1.2 h.1.1.2.size _⟩, by have := h.1.2; simp; omega⟩, h.2⟩⟩)
      (fun pre W h => by obtain ⟨v, h1, h2, _⟩ := h.1.1.1.1.1; exact ⟨v, h1, fun g e => (World.ownsRow.lt h2 g e).2⟩) ?round ?done ?stop
    case round =>
      apply Exists.intro
      constructor
      · intro l x W K B HB hK
        dsimp only [encSp]
        gi_wp2
        rw [HB.out]
        exact hK
      · rintro l pre x B W ⟨⟨⟨⟨⟨⟨v, hv, hrow, _⟩, h4, h5⟩, hfr, hsp⟩, hB⟩, hsz⟩, hlen⟩ _ hBB hX ⟨vz, hbz1, hbz2⟩
        have hrr := rst_range b2 pre
        have hsn : rst lo (vals (pre ++ [x])) = rstS (rst lo (vals pre)) x.1 := by rw [vals_snoc, rst_snoc]
        generalize hR : rst lo (vals pre) = R at *
        have hxr := x.2
        have HSN := Lib.hid hsn
        clear hsn hR
        obtain rfl : vz = v := by
          have e1 := hbz1.cell 0
          have e2 := hv.cell
          rw [e2] at e1
          simpa using e1.symm
        obtain ⟨A, c, rfl⟩ := RowS.form hrow
        have cv := hv.cell
        have fv := hv.frozen
        have c1 : W.cell? ⟨B, 0, none⟩ = some (.int .i64 x.1.lo) := hX.cell 0
        have c2 : W.cell? ⟨B, 1, none⟩ = some (.int .i64 x.1.hi) := hX.cell 1
        have c3 : W.cell? ⟨w1.heap.size + 1, 0, none⟩ = some (.int .i64 R.2) := hfr.cell 0
        have f3 : W.frozen? ⟨w1.heap.size + 1, 0, none⟩ = false := hfr.frozen 0
        have hs1 := hB.size
        have hX' := hX.lt
        have hs2 : w1.heap.size + 4 ≤ w2.heap.size := by have := HZ.out; omega
        have d4 : W.frozen? ⟨w.heap.size + 1 + 1, 0, none⟩ = false := h4.frozen 0
        have d5 : W.frozen? ⟨w.heap.size + 1 + 1 + 1, 0, none⟩ = false := h5.frozen 0
        have d6 : W.cell? ⟨w.heap.size + 1 + 1, 0, none⟩ = some (.slice none 0 0) := h4.cell 0
        have d7 : W.cell? ⟨w.heap.size + 1 + 1 + 1, 0, none⟩ = some (.int .i64 0) := h5.cell 0
        by_cases hlt : R.2 < x.1.lo
        · have hRS := HSN.out
          rw [rstS_t hlt] at hRS
          have HRS := Lib.hid hRS
          clear hRS
          by_cases hful : R.1.length = 2000
          · have hful2 : 2000 ≤ R.1.length := by omega
            have hdec : decide ((2000 : Int) < (R.1.length : Int) + 1) = true := by simp; omega
            clear hful
            gi_wp2_with ((gi_at_builtin; go_must (refine wpListIn_append_own _ rfl _ _ 23 rfl w2.heap.size 27 i0 (.agg #[.int .i64 0, .int .i64 0]) 2 16 undSp hi0 hz0 hz1 hz2 rfl (by decide) _ _ _ rfl (hrow.alloc _) ⟨W.heap.size, 0, none⟩ 1 1 [.int .i64 R.2, .int .i64 (x.1.lo - 1)] rfl rfl (cell_two_new _ _ _ _) (by simp [Value.oneCell']) (by unfold maxLen; omega) (by omega) (by simp; omega) ?_; intro v' w3 hown' hgrow _; obtain ⟨g', cap', rfl⟩ := ownsRow_succ hown'; obtain ⟨hv1, hv2, hr2, hk2, hb2, hb3⟩ := appended2 hv tyNe hrow hsz hown' hgrow; have hcv := hv1.cell; have hfv := hv1.frozen; have e2 : w3.cell? ⟨B, 1, none⟩ = some (.int .i64 x.1.hi) := box_kept hX' hbz2 hgrow c2; have e3 : w3.cell? ⟨w1.heap.size + 1, 0, none⟩ = some (.int .i64 R.2) := box_kept (by omega) (row_ne hrow (by omega)) hgrow c3; have f3' : w3.frozen? ⟨w1.heap.size + 1, 0, none⟩ = false := froz_kept (by omega) (row_ne hrow (by omega)) hgrow f3; have k4 : w3.frozen? ⟨w.heap.size + 1 + 1, 0, none⟩ = false := froz_kept (by omega) (row_ne hrow (by omega)) hgrow d4; have k5 : w3.frozen? ⟨w.heap.size + 1 + 1 + 1, 0, none⟩ = false := froz_kept (by omega) (row_ne hrow (by omega)) hgrow d5; have k6 : w3.cell? ⟨w.heap.size + 1 + 1, 0, none⟩ = some (.slice none 0 0) := box_kept (by omega) (row_ne hrow (by omega)) hgrow d6; have k7 : w3.cell? ⟨w.heap.size + 1 + 1 + 1, 0, none⟩ = some (.int .i64 0) := box_kept (by omega) (row_ne hrow (by omega)) hgrow d7)))
            have hb4 := hb3 w.heap.size (by omega) (by omega)
            have q4 : Cls (w.heap.size + 1 + 1) 23 #[.slice none 0 0] (w3.setCell ⟨w1.heap.size, 0, none⟩ (.slice (some ⟨g', 0, none⟩) (R.1.length + 1) cap')) := (hb2 _ (by omega) (by omega)).trans h4
            have q5 : Cls (w.heap.size + 1 + 1 + 1) 31 #[.int .i64 0] (w3.setCell ⟨w1.heap.size, 0, none⟩ (.slice (some ⟨g', 0, none⟩) (R.1.length + 1) cap')) := (hb2 _ (by omega) (by omega)).trans h5
            refine ⟨(((hk2.trans (KeepsOthers.setCell _ _ _)).trans (KeepsOthers.setCell _ _ _)).trans (KeepsOthers.setCell _ _ _)).from _, ⟨?_, ?_⟩, ?_, by rw [HRS.out]; simp; omega, rfl⟩
            · exact ((q4.other (by omega) 0 _).set 0 (.slice none 0 0)).other (by omega) 0 _
            · exact ((q5.other (by omega) 0 _).other (by omega) 0 _).set 0 (.int .i64 2)
            · exact Below.setCell (Below.setCell (Below.setCell (hB.trans hb4) (p := ⟨w1.heap.size + 1, 0, none⟩) (by simp; omega) _) (p := ⟨w.heap.size + 1 + 1, 0, none⟩) (by simp; omega) _) (p := ⟨w.heap.size + 1 + 1 + 1, 0, none⟩) (by simp; omega) _
          · have hful2 : R.1.length + 1 ≤ 2000 := by omega
            have hdec : decide ((2000 : Int) < (R.1.length : Int) + 1) = false := by simp; omega
            clear hful
            gi_wp2_with ((gi_at_builtin; go_must (refine wpListIn_append_own _ rfl _ _ 23 rfl w2.heap.size 27 i0 (.agg #[.int .i64 0, .int .i64 0]) 2 16 undSp hi0 hz0 hz1 hz2 rfl (by decide) _ _ _ rfl (hrow.alloc _) ⟨W.heap.size, 0, none⟩ 1 1 [.int .i64 R.2, .int .i64 (x.1.lo - 1)] rfl rfl (cell_two_new _ _ _ _) (by simp [Value.oneCell']) (by unfold maxLen; omega) (by omega) (by simp; omega) ?_; intro v' w3 hown' hgrow _; obtain ⟨g', cap', rfl⟩ := ownsRow_succ hown'; obtain ⟨hv1, hv2, hr2, hk2, hb2, hb3⟩ := appended2 hv tyNe hrow hsz hown' hgrow; have hcv := hv1.cell; have hfv := hv1.frozen; have e2 : w3.cell? ⟨B, 1, none⟩ = some (.int .i64 x.1.hi) := box_kept hX' hbz2 hgrow c2; have e3 : w3.cell? ⟨w1.heap.size + 1, 0, none⟩ = some (.int .i64 R.2) := box_kept (by omega) (row_ne hrow (by omega)) hgrow c3; have f3' : w3.frozen? ⟨w1.heap.size + 1, 0, none⟩ = false := froz_kept (by omega) (row_ne hrow (by omega)) hgrow f3; have k4 : w3.frozen? ⟨w.heap.size + 1 + 1, 0, none⟩ = false := froz_kept (by omega) (row_ne hrow (by omega)) hgrow d4; have k5 : w3.frozen? ⟨w.heap.size + 1 + 1 + 1, 0, none⟩ = false := froz_kept (by omega) (row_ne hrow (by omega)) hgrow d5; have k6 : w3.cell? ⟨w.heap.size + 1 + 1, 0, none⟩ = some (.slice none 0 0) := box_kept (by omega) (row_ne hrow (by omega)) hgrow d6; have k7 : w3.cell? ⟨w.heap.size + 1 + 1 + 1, 0, none⟩ = some (.int .i64 0) := box_kept (by omega) (row_ne hrow (by omega)) hgrow d7)))
            have hb4 := hb3 w.heap.size (by omega) (by omega)
            have q4 : Cls (w.heap.size + 1 + 1) 23 #[.slice none 0 0] (w3.setCell ⟨w1.heap.size, 0, none⟩ (.slice (some ⟨g', 0, none⟩) (R.1.length + 1) cap')) := (hb2 _ (by omega) (by omega)).trans h4
            have q5 : Cls (w.heap.size + 1 + 1 + 1) 31 #[.int .i64 0] (w3.setCell ⟨w1.heap.size, 0, none⟩ (.slice (some ⟨g', 0, none⟩) (R.1.length + 1) cap')) := (hb2 _ (by omega) (by omega)).trans h5
            have qf : Cls (w1.heap.size + 1) 3 #[.int .i64 R.2] (w3.setCell ⟨w1.heap.size, 0, none⟩ (.slice (some ⟨g', 0, none⟩) (R.1.length + 1) cap')) := (hb2 _ (by omega) (by omega)).trans hfr
            have qs : Cls (w.heap.size + 1) 27 #[.int .i64 lo, .int .i64 hi] (w3.setCell ⟨w1.heap.size, 0, none⟩ (.slice (some ⟨g', 0, none⟩) (R.1.length + 1) cap')) := (hb2 _ (by omega) (by omega)).trans hsp
            have hbf := Below.setCell hb4 (p := ⟨w1.heap.size + 1, 0, none⟩) (by simp; omega) (.int .i64 (x.1.hi + 1))
            refine ⟨(hk2.trans (KeepsOthers.setCell _ _ _)).from _, ⟨hbf, fun b hb => (Below.heap_setCell _ _ _ _ (by simp at hb ⊢; omega)).trans (hb2 b (by simp at hb; omega) (by simp at hb; omega))⟩, ?_⟩
            dsimp only
            rw [HRS.out]
            refine ⟨⟨⟨⟨⟨⟨_, Cls.other hv2 (by omega) 0 _, ?_, trivial⟩, q4.other (by omega) 0 _, q5.other (by omega) 0 _⟩, qf.set 0 (.int .i64 (x.1.hi + 1)), qs.other (by omega) 0 _⟩, hB.trans hbf⟩, ?_⟩, by simp; omega⟩
            · have := hr2
              rw [List.length_append, List.length_singleton, cellsS_append]
              exact ownsRow_setCell_below this (a := ⟨w1.heap.size + 1, 0, none⟩) (by simp; omega) _
            · exact Nat.le_trans hsz (hk2.trans (KeepsOthers.setCell _ _ _)).size
        · have hRS := HSN.out
          rw [rstS_f hlt] at hRS
          have HRS := Lib.hid hRS
          clear hRS
          have hdec : decide ((2000 : Int) < (R.1.length : Int)) = false := by simp; omega
          gi_wp2
          have hbf := Below.setCell (Below.refl w.heap.size W) (p := ⟨w1.heap.size + 1, 0, none⟩) (by simp; omega) (.int .i64 (x.1.hi + 1))
          refine ⟨(KeepsOthers.setCell _ _ _).from _, ⟨hbf, fun b hb => Below.heap_setCell _ _ _ _ (by simp at hb ⊢; omega)⟩, ?_⟩
          dsimp only
          rw [HRS.out]
          refine ⟨⟨⟨⟨⟨⟨_, Cls.other hv (by omega) 0 _, ?_, trivial⟩, h4.other (by omega) 0 _, h5.other (by omega) 0 _⟩, hfr.set 0 (.int .i64 (x.1.hi + 1)), hsp.other (by omega) 0 _⟩, hB.trans hbf⟩, ?_⟩, hlen⟩
          · exact ownsRow_setCell_below hrow (a := ⟨w1.heap.size + 1, 0, none⟩) (by simp; omega) _
          · exact Nat.le_trans hsz (KeepsOthers.setCell _ _ _).size
    case done =>
      rintro D ys W hD rfl ⟨⟨⟨⟨⟨⟨v, hv, hrow, _⟩, h4, h5⟩, hfr, hsp⟩, hB⟩, hsz⟩, hlen⟩ hK
      have hrr := rst_range b2 (runL (mem S) lo hi b2)
      have hall := rest_all (P := mem S) b2
      rw [← vals_run (P := mem S) b2] at hall
      generalize hR : rst lo (vals (runL (mem S) lo hi b2)) = R at *
      clear hR
      obtain ⟨A, c, rfl⟩ := RowS.form hrow
      have cv := hv.cell
      have fv := hv.frozen
      have c3 : W.cell? ⟨w1.heap.size + 1, 0, none⟩ = some (.int .i64 R.2) := hfr.cell 0
      have c6 : W.cell? ⟨w.heap.size + 1, 1, none⟩ = some (.int .i64 hi) := hsp.cell 1
      have d4 : W.frozen? ⟨w.heap.size + 1 + 1, 0, none⟩ = false := h4.frozen 0
      have d5 : W.frozen? ⟨w.heap.size + 1 + 1 + 1, 0, none⟩ = false := h5.frozen 0
      have d6 : W.cell? ⟨w.heap.size + 1 + 1, 0, none⟩ = some (.slice none 0 0) := h4.cell 0
      have d7 : W.cell? ⟨w.heap.size + 1 + 1 + 1, 0, none⟩ = some (.int .i64 0) := h5.cell 0
      have hs1 := hB.size
      have hs2 : w1.heap.size + 4 ≤ w2.heap.size := by have := HZ.out; omega
      by_cases hlt : R.2 ≤ hi
      · have ht : tailS R.2 hi = [⟨R.2, hi⟩] := by unfold tailS; rw [if_pos hlt]
        rw [ht] at hall
        have HALL := Lib.hid hall
        by_cases hful : R.1.length = 2000
        · have hful2 : 2000 ≤ R.1.length := by omega
          have hdec : decide ((2000 : Int) < (R.1.length : Int) + 1) = true := by simp; omega
          have hlv : 2000 < (lst (fun i => !mem S i) lo (spN lo hi)).length := by rw [hall]; simp; omega
          have HLV := Lib.hid hlv
          clear hful hall ht hlv
          gi_wp2_with ((gi_at_builtin; go_must (refine wpListIn_append_own _ rfl _ _ 23 rfl w2.heap.size 27 i0 (.agg #[.int .i64 0, .int .i64 0]) 2 16 undSp hi0 hz0 hz1 hz2 rfl (by decide) _ _ _ rfl (hrow.alloc _) ⟨W.heap.size, 0, none⟩ 1 1 [.int .i64 R.2, .int .i64 hi] rfl rfl (cell_two_new _ _ _ _) (by simp [Value.oneCell']) (by unfold maxLen; omega) (by omega) (by simp; omega) ?_; intro v' w3 hown' hgrow _; obtain ⟨g', cap', rfl⟩ := ownsRow_succ hown'; obtain ⟨hv1, hv2, hr2, hk2, hb2, hb3⟩ := appended2 hv tyNe hrow hsz hown' hgrow; have hcv := hv1.cell; have hfv := hv1.frozen; have k4 : w3.frozen? ⟨w.heap.size + 1 + 1, 0, none⟩ = false := froz_kept (by omega) (row_ne hrow (by omega)) hgrow d4; have k5 : w3.frozen? ⟨w.heap.size + 1 + 1 + 1, 0, none⟩ = false := froz_kept (by omega) (row_ne hrow (by omega)) hgrow d5; have k6 : w3.cell? ⟨w.heap.size + 1 + 1, 0, none⟩ = some (.slice none 0 0) := box_kept (by omega) (row_ne hrow (by omega)) hgrow d6; have k7 : w3.cell? ⟨w.heap.size + 1 + 1 + 1, 0, none⟩ = some (.int .i64 0) := box_kept (by omega) (row_ne hrow (by omega)) hgrow d7)))
          have hb4 := hb3 w.heap.size (by omega) (by omega)
          have q4 : Cls (w.heap.size + 1 + 1) 23 #[.slice none 0 0] (w3.setCell ⟨w1.heap.size, 0, none⟩ (.slice (some ⟨g', 0, none⟩) (R.1.length + 1) cap')) := (hb2 _ (by omega) (by omega)).trans h4
          have q5 : Cls (w.heap.size + 1 + 1 + 1) 31 #[.int .i64 0] (w3.setCell ⟨w1.heap.size, 0, none⟩ (.slice (some ⟨g', 0, none⟩) (R.1.length + 1) cap')) := (hb2 _ (by omega) (by omega)).trans h5
          have hKs := ((hk2.trans (KeepsOthers.setCell _ ⟨w.heap.size + 1 + 1, 0, none⟩ (.slice none 0 0))).trans (KeepsOthers.setCell _ ⟨w.heap.size + 1 + 1 + 1, 0, none⟩ (.int .i64 2))).same D _ hK rfl
          refine ⟨by simp, .inl ⟨_, _, rfl, run_takeDeferred hKs, ?_⟩⟩
          have r4 := ((q4.set 0 (.slice none 0 0)).other (B' := w.heap.size + 1 + 1 + 1) (by omega) 0 (.int .i64 2)).putObj (.deferred none) hKs rfl
          have r5 := ((q5.other (B' := w.heap.size + 1 + 1) (by omega) 0 (.slice none 0 0)).set 0 (.int .i64 2)).putObj (.deferred none) hKs rfl
          have c4 := r4.cell 0
          have c5 := r5.cell 0
          simp only [List.setIfInBounds_toArray, List.set_cons_zero, List.getElem?_toArray, List.getElem?_cons_zero] at c4 c5
          refine ⟨.tuple #[.slice none 0 0, .int .i64 2], ?_, .slice none 0 0, ?_, ?_, ?_⟩
          · simp [results, Tryz.f13, go_sem, c4, c5]
          · rw [restE, if_pos H0.out, listedE, if_pos HLV.out]
          · rw [restX, if_pos H0.out, listed, if_pos HLV.out]
            exact (rowS_nil 0 _).at_
          · have h1 := Below.setCell (Below.setCell (hB.trans hb4) (p := ⟨w.heap.size + 1 + 1, 0, none⟩) (by simp; omega) (.slice none 0 0)) (p := ⟨w.heap.size + 1 + 1 + 1, 0, none⟩) (by simp; omega) (.int .i64 2)
            exact h1.trans (belowK_b (w := w) (Nat.le_refl _) _ D _ _ (by omega) hKs rfl rfl)
        · have hful2 : R.1.length + 1 ≤ 2000 := by omega
          have hdec : decide ((2000 : Int) < (R.1.length : Int) + 1) = false := by simp; omega
          have hlv : ¬ 2000 < (lst (fun i => !mem S i) lo (spN lo hi)).length := by rw [hall]; simp; omega
          have HLV := Lib.hid hlv
          clear hful hall ht hlv
          gi_wp2_with ((gi_at_builtin; go_must (refine wpListIn_append_own _ rfl _ _ 23 rfl w2.heap.size 27 i0 (.agg #[.int .i64 0, .int .i64 0]) 2 16 undSp hi0 hz0 hz1 hz2 rfl (by decide) _ _ _ rfl (hrow.alloc _) ⟨W.heap.size, 0, none⟩ 1 1 [.int .i64 R.2, .int .i64 hi] rfl rfl (cell_two_new _ _ _ _) (by simp [Value.oneCell']) (by unfold maxLen; omega) (by omega) (by simp; omega) ?_; intro v' w3 hown' hgrow _; obtain ⟨g', cap', rfl⟩ := ownsRow_succ hown'; obtain ⟨hv1, hv2, hr2, hk2, hb2, hb3⟩ := appended2 hv tyNe hrow hsz hown' hgrow; have hcv := hv1.cell; have hfv := hv1.frozen; have k4 : w3.frozen? ⟨w.heap.size + 1 + 1, 0, none⟩ = false := froz_kept (by omega) (row_ne hrow (by omega)) hgrow d4; have k5 : w3.frozen? ⟨w.heap.size + 1 + 1 + 1, 0, none⟩ = false := froz_kept (by omega) (row_ne hrow (by omega)) hgrow d5; have k6 : w3.cell? ⟨w.heap.size + 1 + 1, 0, none⟩ = some (.slice none 0 0) := box_kept (by omega) (row_ne hrow (by omega)) hgrow d6; have k7 : w3.cell? ⟨w.heap.size + 1 + 1 + 1, 0, none⟩ = some (.int .i64 0) := box_kept (by omega) (row_ne hrow (by omega)) hgrow d7)))
          have hb4 := hb3 w.heap.size (by omega) (by omega)
          have q4 : Cls (w.heap.size + 1 + 1) 23 #[.slice none 0 0] (w3.setCell ⟨w1.heap.size, 0, none⟩ (.slice (some ⟨g', 0, none⟩) (R.1.length + 1) cap')) := (hb2 _ (by omega) (by omega)).trans h4
          have q5 : Cls (w.heap.size + 1 + 1 + 1) 31 #[.int .i64 0] (w3.setCell ⟨w1.heap.size, 0, none⟩ (.slice (some ⟨g', 0, none⟩) (R.1.length + 1) cap')) := (hb2 _ (by omega) (by omega)).trans h5
          have hKs := ((hk2.trans (KeepsOthers.setCell _ ⟨w.heap.size + 1 + 1, 0, none⟩ (.slice (some ⟨g', 0, none⟩) (R.1.length + 1) cap'))).trans (KeepsOthers.setCell _ ⟨w.heap.size + 1 + 1 + 1, 0, none⟩ (.int .i64 0))).same D _ hK rfl
          refine ⟨by simp, .inl ⟨_, _, rfl, run_takeDeferred hKs, ?_⟩⟩
          have r4 := ((q4.set 0 (.slice (some ⟨g', 0, none⟩) (R.1.length + 1) cap')).other (B' := w.heap.size + 1 + 1 + 1) (by omega) 0 (.int .i64 0)).putObj (.deferred none) hKs rfl
          have r5 := ((q5.other (B' := w.heap.size + 1 + 1) (by omega) 0 (.slice (some ⟨g', 0, none⟩) (R.1.length + 1) cap')).set 0 (.int .i64 0)).putObj (.deferred none) hKs rfl
          have c4 := r4.cell 0
          have c5 := r5.cell 0
          simp only [List.setIfInBounds_toArray, List.set_cons_zero, List.getElem?_toArray, List.getElem?_cons_zero] at c4 c5
          refine ⟨.tuple #[.slice (some ⟨g', 0, none⟩) (R.1.length + 1) cap', .int .i64 0], ?_, .slice (some ⟨g', 0, none⟩) (R.1.length + 1) cap', ?_, ?_, ?_⟩
          · simp [results, Tryz.f13, go_sem, c4, c5]
          · rw [restE, if_pos H0.out, listedE, if_neg HLV.out]
          · rw [restX, if_pos H0.out, listed, if_neg HLV.out]
            have hr3 := ownsRow_setCell_below (ownsRow_setCell_below hr2 (a := ⟨w.heap.size + 1 + 1, 0, none⟩) (by simp; omega) (.slice (some ⟨g', 0, none⟩) (R.1.length + 1) cap')) (a := ⟨w.heap.size + 1 + 1 + 1, 0, none⟩) (by simp; omega) (.int .i64 0)
            have hr4 := ownsRow_putObj hr3 (.deferred none) hKs rfl
            rw [HALL.out]
            exact RowS.at_ (n₀ := w2.heap.size) (by unfold RowS; rw [List.length_append, List.length_singleton, cellsS_append]; exact hr4)
          · have h1 := Below.setCell (Below.setCell (hB.trans hb4) (p := ⟨w.heap.size + 1 + 1, 0, none⟩) (by simp; omega) (.slice (some ⟨g', 0, none⟩) (R.1.length + 1) cap')) (p := ⟨w.heap.size + 1 + 1 + 1, 0, none⟩) (by simp; omega) (.int .i64 0)
            exact h1.trans (belowK_b (w := w) (Nat.le_refl _) _ D _ _ (by omega) hKs rfl rfl)
      · have ht : tailS R.2 hi = [] := by unfold tailS; rw [if_neg hlt]
        rw [ht, List.append_nil] at hall
        have HALL := Lib.hid hall
        have hdec : decide ((2000 : Int) < (R.1.length : Int)) = false := by simp; omega
        have hlv : ¬ 2000 < (lst (fun i => !mem S i) lo (spN lo hi)).length := by rw [hall]; omega
        have HLV := Lib.hid hlv
        clear hall ht hlv
        gi_wp2
        obtain ⟨V, hV⟩ : ∃ V, Value.slice A R.1.length c = V := ⟨_, rfl⟩
        rw [hV] at hrow ⊢
        clear hV cv hv
        have hKs := ((KeepsOthers.setCell W ⟨w.heap.size + 1 + 1, 0, none⟩ V).trans (KeepsOthers.setCell _ ⟨w.heap.size + 1 + 1 + 1, 0, none⟩ (.int .i64 0))).same D _ hK rfl
        refine ⟨by simp, .inl ⟨_, _, rfl, run_takeDeferred hKs, ?_⟩⟩
        have r4 := ((h4.set 0 (V)).other (B' := w.heap.size + 1 + 1 + 1) (by omega) 0 (.int .i64 0)).putObj (.deferred none) hKs rfl
        have r5 := ((h5.other (B' := w.heap.size + 1 + 1) (by omega) 0 (V)).set 0 (.int .i64 0)).putObj (.deferred none) hKs rfl
        have c4 := r4.cell 0
        have c5 := r5.cell 0
        simp only [List.setIfInBounds_toArray, List.set_cons_zero, List.getElem?_toArray, List.getElem?_cons_zero] at c4 c5
        refine ⟨.tuple #[V, .int .i64 0], ?_, V, ?_, ?_, ?_⟩
        · simp [results, Tryz.f13, go_sem, c4, c5]
        · rw [restE, if_pos H0.out, listedE, if_neg HLV.out]
        · rw [restX, if_pos H0.out, listed, if_neg HLV.out]
          have hr3 := ownsRow_setCell_below (ownsRow_setCell_below hrow (a := ⟨w.heap.size + 1 + 1, 0, none⟩) (by simp; omega) V) (a := ⟨w.heap.size + 1 + 1 + 1, 0, none⟩) (by simp; omega) (.int .i64 0)
          have hr4 := ownsRow_putObj hr3 (.deferred none) hKs rfl
          rw [HALL.out]
          exact RowS.at_ hr4
        · have h1 := Below.setCell (Below.setCell (hB) (p := ⟨w.heap.size + 1 + 1, 0, none⟩) (by simp; omega) (V)) (p := ⟨w.heap.size + 1 + 1 + 1, 0, none⟩) (by simp; omega) (.int .i64 0)
          exact h1.trans (belowK_b (w := w) (Nat.le_refl _) _ D _ _ (by omega) hKs rfl rfl)
    case stop =>
      rintro D c pre W hD hpre ⟨⟨h4, h5⟩, hB, hlen, rfl⟩ hK
      gi_wp2
      refine ⟨by simp, .inl ⟨_, _, rfl, run_takeDeferred hK, ?_⟩⟩
      have r4 := h4.putObj (.deferred none) hK rfl
      have r5 := h5.putObj (.deferred none) hK rfl
      have c4 := r4.cell 0
      have c5 := r5.cell 0
      simp only [List.getElem?_toArray, List.getElem?_cons_zero] at c4 c5
      have hlv : 2000 < (lst (fun i => !mem S i) lo (spN lo hi)).length := by
        rw [rest_all b2, List.length_append]
        obtain ⟨r, hr⟩ := hpre
        have h1 := rst_more lo (vals pre) (vals r)
        have h2 : vals pre ++ vals r = lst (mem S) lo (spN lo hi) := by rw [← vals_run b2, ← hr]; simp [vals]
        rw [h2] at h1
        omega
      refine ⟨.tuple #[.slice none 0 0, .int .i64 2], ?_, .slice none 0 0, ?_, ?_, ?_⟩
      · simp [results, Tryz.f13, go_sem, c4, c5]
      · rw [restE, if_pos H0.out, listedE, if_pos hlv]
      · rw [restX, if_pos H0.out, listed, if_pos hlv]; exact (rowS_nil 0 _).at_
      · exact hB.trans (belowK_b (w := w) (Nat.le_refl _) W D _ _ (by have := HZ.out; omega) hK rfl rfl)
  · have h0 : spnE S lo hi ≠ 0 := by simpa using hE
    go_enter Tryz.func13, Tryz.ntmps13
    go_wp2_with fail
    refine (spanned_any a b S _ _ _ (hS.ext (by repeat (first | exact Ext.refl _ | assumption | refine Ext.alloc ?_ _ | refine Ext.drew ?_ | refine Ext.drewN _ ?_ | refine Ext.trans ?_ (by assumption))))).mono ?_
    rintro e w1 ⟨rfl, hx1⟩
    obtain ⟨_, _, g4, g5, hx2, hzz⟩ := alloc4 hx1
    have d4 : w1.frozen? ⟨w.heap.size + 1 + 1, 0, none⟩ = false := g4.frozen 0
    have d5 : w1.frozen? ⟨w.heap.size + 1 + 1 + 1, 0, none⟩ = false := g5.frozen 0
    have d6 : w1.cell? ⟨w.heap.size + 1 + 1, 0, none⟩ = some (.slice none 0 0) := g4.cell 0
    have d7 : w1.cell? ⟨w.heap.size + 1 + 1 + 1, 0, none⟩ = some (.int .i64 0) := g5.cell 0
    clear hx1
    go_wp2_with fail
    have r4 := (g4.set 0 (.slice none 0 0)).other (B' := w.heap.size + 1 + 1 + 1) (by omega) 0 (.int .i64 (spnE S lo hi))
    have r5 := (g5.other (B' := w.heap.size + 1 + 1) (by omega) 0 (.slice none 0 0)).set 0 (.int .i64 (spnE S lo hi))
    have c4 := r4.cell 0
    have c5 := r5.cell 0
    simp only [List.setIfInBounds_toArray, List.set_cons_zero, List.getElem?_toArray, List.getElem?_cons_zero] at c4 c5
    refine bodyPost_ret (v := .tuple #[.slice none 0 0, .int .i64 (spnE S lo hi)]) ?_ rfl ⟨.slice none 0 0, ?_, ?_, ?_⟩
    · simp [results, Tryz.f13, go_sem, c4, c5]
    · rw [restE, if_neg h0]
    · rw [restX, if_neg h0]; exact (rowS_nil 0 _).at_
    · exact (hx2.setCell (by simp; omega) _).setCell (by simp; omega) _

end Go.Proofs.YtejmmfjabmmihaaGreatDoor
