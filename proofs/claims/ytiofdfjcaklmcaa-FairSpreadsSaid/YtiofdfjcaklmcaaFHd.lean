/- The pool of the example; rows out of literals. What the example's answers are. head of Fair's laws. -/
import Derived.Test.YtiofdfjcaklmcaaFBs
import Derived.Test.YtiofdfjcaklmcaaFPb
import Derived.Test.YtiofdfjcaklmcaaFSpd
import Derived.Test.YtiofdfjcaklmcaaFEnv
import Derived.Test.YtiofdfjcaklmcaaFCkF
import Derived.Test.YtiofdfjcaklmcaaFRSm
namespace Go.Proofs.Ytiofdfjcaklmcaa
open Go.RowKit Go.Shelf

theorem ints_C {W : World} {B : Nat} {t : TypeId} (l : List Int) {cs : Array Value} {n : Nat} (hn : l.length = n) (hcs : cs = (l.map (Value.int .i64)).toArray) (h : Cls B t cs W) : IntsAt W (.slice (some ⟨B, 0, none⟩) n n) l := by
  subst hn hcs
  refine ⟨_, l.length, rfl, Nat.le_refl _, fun i hi => ⟨B, 0, rfl, ?_⟩⟩
  rw [Nat.zero_add, h.cell i]
  simp [hi]
theorem seqK_C {α : Type} {f : α → List Int} {W : World} {B : Nat} {t : TypeId} (l : List α) {k n : Nat} {cs : Array Value} (hn : l.length = n) (hc : ∀ i (hi : i < l.length), ∀ r, r < k → cs[i * k + r]? = some (.int .i64 ((f l[i]).getD r 0))) (h : Cls B t cs W) : SeqK f k W (.slice (some ⟨B, 0, none⟩) n n) l := by
  subst hn
  refine ⟨_, l.length, rfl, Nat.le_refl _, fun i hi => ⟨B, 0, rfl, fun r hr => ?_⟩⟩
  rw [Nat.zero_add, h.cell _]
  exact hc i hi r hr
theorem cls_step {W : World} {n : Nat} (t : TypeId) (cs : Array Value) (h : W.heap.size = n) : Cls n t cs (W.alloc (.cells cs t)) ∧ Ext W (W.alloc (.cells cs t)) ∧ (W.alloc (.cells cs t)).heap.size = n + 1 :=
  ⟨Cls.newAt _ _ _ h.symm, (by repeat (first | exact Ext.refl _ | assumption | refine Ext.alloc ?_ _ | refine Ext.drew ?_ | refine Ext.drewN _ ?_ | refine Ext.trans ?_ (by assumption))), by rw [← h]; simp⟩
def exP : Po := ⟨[⟨1, 9⟩, ⟨2, 9⟩, ⟨3, 1⟩], [⟨11, [1, 2]⟩, ⟨12, [1]⟩, ⟨13, [1, 2]⟩, ⟨14, [2, 3]⟩, ⟨15, [3]⟩]⟩
theorem exP_at {W : World} {B B1 B2 B3 B4 B5 B6 : Nat} {t1 t2 t3 t4 t5 t6 t7 : TypeId} (h1 : Cls B t1 #[.int .i64 1, .int .i64 9, .int .i64 2, .int .i64 9, .int .i64 3, .int .i64 1] W)
    (h2 : Cls B1 t2 #[.int .i64 1, .int .i64 2] W) (h3 : Cls B2 t3 #[.int .i64 1] W) (h4 : Cls B3 t4 #[.int .i64 1, .int .i64 2] W) (h5 : Cls B4 t5 #[.int .i64 2, .int .i64 3] W) (h6 : Cls B5 t6 #[.int .i64 3] W)
    (h7 : Cls B6 t7 #[.int .i64 11, .slice (some ⟨B1, 0, none⟩) 2 2, .int .i64 12, .slice (some ⟨B2, 0, none⟩) 1 1, .int .i64 13, .slice (some ⟨B3, 0, none⟩) 2 2, .int .i64 14, .slice (some ⟨B4, 0, none⟩) 2 2, .int .i64 15, .slice (some ⟨B5, 0, none⟩) 1 1] W) :
    PoAt W (.slice (some ⟨B, 0, none⟩) 3 3) (.slice (some ⟨B6, 0, none⟩) 5 5) exP := by
  refine ⟨seqK_C exP.ts rfl (fun i hi r hr => ?_) h1, ⟨_, 5, rfl, Nat.le_refl _, fun i hi => ?_⟩⟩
  · have hi' : i < 3 := hi
    match i, hi', r, hr with
    | 0, _, 0, _ => rfl
    | 0, _, 1, _ => rfl
    | 1, _, 0, _ => rfl
    | 1, _, 1, _ => rfl
    | 2, _, 0, _ => rfl
    | 2, _, 1, _ => rfl
  · have hi' : i < 5 := hi
    match i, hi' with
    | 0, _ => exact ⟨B6, 0, _, rfl, h7.cell 0, h7.cell 1, ints_C [1, 2] rfl rfl h2⟩
    | 1, _ => exact ⟨B6, 0, _, rfl, h7.cell 2, h7.cell 3, ints_C [1] rfl rfl h3⟩
    | 2, _ => exact ⟨B6, 0, _, rfl, h7.cell 4, h7.cell 5, ints_C [1, 2] rfl rfl h4⟩
    | 3, _ => exact ⟨B6, 0, _, rfl, h7.cell 6, h7.cell 7, ints_C [2, 3] rfl rfl h5⟩
    | 4, _ => exact ⟨B6, 0, _, rfl, h7.cell 8, h7.cell 9, ints_C [3] rfl rfl h6⟩
def ExaPost (w : World) (e : Ending) (w' : World) : Prop := ∃ a b, e = .returned (.agg #[a, b]) ∧ PoAt w' a b exP ∧ Ext w w'
set_option maxRecDepth 100000 in
set_option maxHeartbeats 4000000 in
theorem Example_any (w : World) : Calls Try.prog 71 #[] w (ExaPost w) := by
  go_enter Try.func71, Try.ntmps71
  go_wp2_with fail
  obtain ⟨c0, x0, z0⟩ := cls_step (W := w) 25 #[.slice (some ⟨w.heap.size + 1, 0, none⟩) 3 3, .slice (some ⟨w.heap.size + 1 + 1 + 1 + 1 + 1 + 1 + 1, 0, none⟩) 5 5] rfl
  obtain ⟨c1, x1, z1⟩ := cls_step 45 #[.int .i64 1, .int .i64 9, .int .i64 2, .int .i64 9, .int .i64 3, .int .i64 1] z0
  obtain ⟨c2, x2, z2⟩ := cls_step 3 #[.int .i64 1, .int .i64 2] z1
  obtain ⟨c3, x3, z3⟩ := cls_step 3 #[.int .i64 1] z2
  obtain ⟨c4, x4, z4⟩ := cls_step 3 #[.int .i64 1, .int .i64 2] z3
  obtain ⟨c5, x5, z5⟩ := cls_step 3 #[.int .i64 2, .int .i64 3] z4
  obtain ⟨c6, x6, z6⟩ := cls_step 3 #[.int .i64 3] z5
  obtain ⟨c7, x7, z7⟩ := cls_step 48 #[.int .i64 11, .slice (some ⟨w.heap.size + 1 + 1, 0, none⟩) 2 2, .int .i64 12, .slice (some ⟨w.heap.size + 1 + 1 + 1, 0, none⟩) 1 1, .int .i64 13, .slice (some ⟨w.heap.size + 1 + 1 + 1 + 1, 0, none⟩) 2 2, .int .i64 14, .slice (some ⟨w.heap.size + 1 + 1 + 1 + 1 + 1, 0, none⟩) 2 2, .int .i64 15, .slice (some ⟨w.heap.size + 1 + 1 + 1 + 1 + 1 + 1, 0, none⟩) 1 1] z6
  have y6 := x7
  have y5 := x6.trans y6
  have y4 := x5.trans y5
  have y3 := x4.trans y4
  have y2 := x3.trans y3
  have y1 := x2.trans y2
  have y0 := x1.trans y1
  exact bodyPost_ret (results_cell_row rfl _ _ w.heap.size _ _ _ _ rfl (c0.ext y0) Try.underlying25 rfl (by kernel_rfl)) rfl ⟨_, _, rfl, exP_at (c1.ext y1) (c2.ext y2) (c3.ext y3) (c4.ext y4) (c5.ext y5) (c6.ext y6) c7, x0.trans y0⟩
end Go.Proofs.Ytiofdfjcaklmcaa
namespace Go.Proofs.Ytiofdfjcaklmcaa
/-- a sort that the kernel reckons with -/
def insJ (x : Int) : List Int → List Int
  | [] => [x]
  | y :: l => if x ≤ y then x :: y :: l else y :: insJ x l
def srtJ : List Int → List Int
  | [] => []
  | x :: l => insJ x (srtJ l)
theorem insJ_perm (x : Int) (l : List Int) : (insJ x l).Perm (x :: l) := by
  induction l with
  | nil => exact List.Perm.refl _
  | cons y l ih =>
    unfold insJ
    split
    · exact List.Perm.refl _
    · exact (List.Perm.cons y ih).trans (List.Perm.swap x y l)
theorem insJ_srt (x : Int) (l : List Int) (h : l.Pairwise (· ≤ ·)) : (insJ x l).Pairwise (· ≤ ·) := by
  induction l with
  | nil => simp [insJ]
  | cons y l ih =>
    rw [List.pairwise_cons] at h
    unfold insJ
    split
    · rename_i hxy
      rw [List.pairwise_cons, List.pairwise_cons]
      refine ⟨fun z hz => ?_, h⟩
      rcases List.mem_cons.1 hz with rfl | hz
      · exact hxy
      · have := h.1 z hz; omega
    · rename_i hxy
      rw [List.pairwise_cons]
      refine ⟨fun z hz => ?_, ih h.2⟩
      rcases List.mem_cons.1 ((insJ_perm x l).mem_iff.1 hz) with rfl | hz
      · omega
      · exact h.1 z hz
theorem srtJ_perm (l : List Int) : (srtJ l).Perm l := by
  induction l with
  | nil => exact List.Perm.refl _
  | cons x l ih => exact (insJ_perm x _).trans (List.Perm.cons x ih)
theorem srtJ_srt (l : List Int) : (srtJ l).Pairwise (· ≤ ·) := by
  induction l with
  | nil => exact List.Pairwise.nil
  | cons x l ih => exact insJ_srt x _ ih
theorem ladL_J (P : Po) (g : List Int) : ladL P g = srtJ (cntT P g) :=
  ((ladL_perm P g).trans (srtJ_perm _).symm).eq_of_pairwise (fun a b _ _ h1 h2 => by omega) (ladL_srt P g) (srtJ_srt _)
theorem exE : chkE exP = 0 := by decide +kernel
theorem exLad : ladX exP = [1, 2, 2] := by unfold ladX; rw [ladL_J]; decide +kernel
theorem exCg : cgE exP [1, 1, 1, 2, 3] = 0 := by decide +kernel
theorem exEnv : envX exP [1, 1, 1, 2, 3] = some (11, 2) := by decide +kernel
theorem exSpE : spdE exP 1 = 0 := by decide +kernel
theorem exSpd : spdX exP 1 = (2, 2) := by unfold spdX spO spL spS spT; simp only [ladL_J]; decide +kernel
theorem exSur : surX exP = [(12, 1), (14, 2), (15, 3)] := by unfold surX surL surS whoL couX; simp only [ladL_J]; decide +kernel
theorem exCl1 : cldX exP 15 0 = false := by unfold cldX couX; simp only [ladL_J]; decide +kernel
theorem exCl2 : cldE exP 15 0 = 0 := by decide +kernel
theorem exCl3 : cldX exP 11 1 = true := by unfold cldX couX; simp only [ladL_J]; decide +kernel
theorem exCl4 : cldE exP 11 1 = 0 := by decide +kernel
theorem exCf1 : cfE exP [2, 1, 1, 2, 3] [2, 2, 41] = 0 := by decide +kernel
theorem exCf2 : cfE exP [2, 1, 1, 2, 3] [2, 2, 1] = 8 := by decide +kernel
end Go.Proofs.Ytiofdfjcaklmcaa
namespace Go.Proofs.Ytiofdfjcaklmcaa
open Go.RowKit Go.Shelf

theorem exUs : ∀ s ∈ exP.ss, s.us.length ≤ 1000000 := by decide
set_option maxRecDepth 100000 in
set_option maxHeartbeats 8000000 in
theorem head_any (w : World) : Calls Try.prog 18 #[] w fun e w' => e = .returned (.bool true) ∧ Ext w w' := by
  have KA := fun a b W (h : PoAt W a b exP) => Ladder_any a b exP W h exUs
  have KB := fun a b v W (h : PoAt W a b exP) (hg : IntsAt W v [1, 1, 1, 2, 3]) => Envy_any a b v exP _ W h hg exUs
  have KC := fun a b W (h : PoAt W a b exP) => Spread_any a b exP 1 W h exUs
  have KD := fun a b W (h : PoAt W a b exP) => Surely_any a b exP W h exUs
  have KE := fun a b W (h : PoAt W a b exP) => Could_any a b exP 15 0 W h exUs
  have KF := fun a b W (h : PoAt W a b exP) => Could_any a b exP 11 1 W h exUs
  have KG := fun a b v u W (h : PoAt W a b exP) (hg : IntsAt W v [2, 1, 1, 2, 3]) (hl : IntsAt W u [2, 2, 41]) => CheckFair_any a b v u exP _ _ W h hg hl exUs
  have KH := fun a b v u W (h : PoAt W a b exP) (hg : IntsAt W v [2, 1, 1, 2, 3]) (hl : IntsAt W u [2, 2, 1]) => CheckFair_any a b v u exP _ _ W h hg hl exUs
  simp only [exLad, exE] at KA
  simp only [exEnv, exCg] at KB
  simp only [exSpd, exSpE] at KC
  simp only [exSur, exE] at KD
  simp only [exCl1, exCl2] at KE
  simp only [exCl3, exCl4] at KF
  simp only [exCf1] at KG
  simp only [exCf2] at KH
  have HKA := Lib.hid KA
  have HKB := Lib.hid KB
  have HKC := Lib.hid KC
  have HKD := Lib.hid KD
  have HKE := Lib.hid KE
  have HKF := Lib.hid KF
  have HKG := Lib.hid KG
  have HKH := Lib.hid KH
  clear KA KB KC KD KE KF KG KH
  go_enter Try.func18, Try.ntmps18
  go_wp2_with fail
  refine (Example_any _).mono ?_
  rintro e w1 ⟨a, b, rfl, hP1, hx1⟩
  obtain ⟨aa, ca, rfl, hla⟩ := hP1.t.len
  obtain ⟨ab, cb, rfl, hlb⟩ := hP1.s.len
  obtain ⟨B1, hB1⟩ : ∃ N, w1.heap.size = N := ⟨_, rfl⟩
  obtain ⟨cB1, x2, -⟩ := cls_step (W := w1) 25 #[.slice aa exP.ts.length ca, .slice ab exP.ss.length cb] hB1
  obtain ⟨w2, hw2⟩ : ∃ W, w1.alloc (.cells #[.slice aa exP.ts.length ca, .slice ab exP.ss.length cb] 25) = W := ⟨_, rfl⟩
  rw [hw2] at cB1 x2
  have hx2 := hx1.trans x2
  have hP2 := hP1.ext x2
  have d0 : w2.cell? ⟨B1, 0, none⟩ = some (.slice aa exP.ts.length ca) := cB1.cell 0
  have d1 : w2.cell? ⟨B1, 1, none⟩ = some (.slice ab exP.ss.length cb) := cB1.cell 1
  go_wp2_with fail
  refine (HKA.out _ _ w2 hP2).mono ?_
  rintro e w3 ⟨lv, rfl, hlv, x3⟩
  replace d0 := x3.cell d0
  replace d1 := x3.cell d1
  have hx3 := hx2.trans x3
  have hP3 := hP2.ext x3
  obtain ⟨B2, hB2⟩ : ∃ N, w3.heap.size = N := ⟨_, rfl⟩
  obtain ⟨cB2, x4, -⟩ := cls_step (W := w3) 3 #[.int .i64 1, .int .i64 1, .int .i64 1, .int .i64 2, .int .i64 3] hB2
  obtain ⟨w4, hw4⟩ : ∃ W, w3.alloc (.cells #[.int .i64 1, .int .i64 1, .int .i64 1, .int .i64 2, .int .i64 3] 3) = W := ⟨_, rfl⟩
  rw [hw4] at cB2 x4
  have d0_3 := d0
  have d1_3 := d1
  replace hlv := hlv.ext x4
  replace d0 := x4.cell d0
  replace d1 := x4.cell d1
  have hx4 := hx3.trans x4
  have hP4 := hP3.ext x4
  have g2 := ints_C (n := 5) [1, 1, 1, 2, 3] rfl rfl cB2
  go_wp2_with fail
  refine (HKB.out _ _ _ w4 hP4 g2).mono ?_
  rintro e w5 ⟨rfl, x5⟩
  replace hlv := hlv.ext x5
  replace d0 := x5.cell d0
  replace d1 := x5.cell d1
  have hx5 := hx4.trans x5
  have hP5 := hP4.ext x5
  clear d0_3 d1_3
  obtain ⟨B3, hB3⟩ : ∃ N, w5.heap.size = N := ⟨_, rfl⟩
  obtain ⟨cB3, x6, -⟩ := cls_step (W := w5) 58 #[.int .i64 11, .int .i64 2] hB3
  obtain ⟨w6, hw6⟩ : ∃ W, w5.alloc (.cells #[.int .i64 11, .int .i64 2] 58) = W := ⟨_, rfl⟩
  rw [hw6] at cB3 x6
  have d0_5 := d0
  have d1_5 := d1
  replace hlv := hlv.ext x6
  replace d0 := x6.cell d0
  replace d1 := x6.cell d1
  have hx6 := hx5.trans x6
  have hP6 := hP5.ext x6
  have s0 : w6.cell? ⟨B3, 0, none⟩ = some (.int .i64 11) := cB3.cell 0
  have s1 : w6.cell? ⟨B3, 1, none⟩ = some (.int .i64 2) := cB3.cell 1
  go_wp2_with fail
  refine (HKC.out _ _ w6 hP6).mono ?_
  rintro e w7 ⟨rfl, x7⟩
  replace hlv := hlv.ext x7
  replace d0 := x7.cell d0
  replace d1 := x7.cell d1
  replace s0 := x7.cell s0
  replace s1 := x7.cell s1
  have hx7 := hx6.trans x7
  have hP7 := hP6.ext x7
  clear d0_5 d1_5
  obtain ⟨B4, hB4⟩ : ∃ N, w7.heap.size = N := ⟨_, rfl⟩
  obtain ⟨cB4, x8, -⟩ := cls_step (W := w7) 29 #[.int .i64 2, .int .i64 2] hB4
  obtain ⟨w8, hw8⟩ : ∃ W, w7.alloc (.cells #[.int .i64 2, .int .i64 2] 29) = W := ⟨_, rfl⟩
  rw [hw8] at cB4 x8
  have d0_7 := d0
  have d1_7 := d1
  have s0_7 := s0
  have s1_7 := s1
  replace hlv := hlv.ext x8
  replace d0 := x8.cell d0
  replace d1 := x8.cell d1
  replace s0 := x8.cell s0
  replace s1 := x8.cell s1
  have hx8 := hx7.trans x8
  have hP8 := hP7.ext x8
  have p0 : w8.cell? ⟨B4, 0, none⟩ = some (.int .i64 2) := cB4.cell 0
  have p1 : w8.cell? ⟨B4, 1, none⟩ = some (.int .i64 2) := cB4.cell 1
  go_wp2_with fail
  refine (HKD.out _ _ w8 hP8).mono ?_
  rintro e w9 ⟨sv, rfl, hsv, x9⟩
  replace hlv := hlv.ext x9
  replace d0 := x9.cell d0
  replace d1 := x9.cell d1
  replace s0 := x9.cell s0
  replace s1 := x9.cell s1
  replace p0 := x9.cell p0
  replace p1 := x9.cell p1
  have hx9 := hx8.trans x9
  have hP9 := hP8.ext x9
  clear d0_7 d1_7 s0_7 s1_7
  go_wp2_with fail
  refine (HKE.out _ _ w9 hP9).mono ?_
  rintro e w10 ⟨rfl, x10⟩
  replace hlv := hlv.ext x10
  replace hsv := hsv.ext x10
  replace d0 := x10.cell d0
  replace d1 := x10.cell d1
  replace s0 := x10.cell s0
  replace s1 := x10.cell s1
  replace p0 := x10.cell p0
  replace p1 := x10.cell p1
  have hx10 := hx9.trans x10
  have hP10 := hP9.ext x10
  go_wp2_with fail
  refine (HKF.out _ _ w10 hP10).mono ?_
  rintro e w11 ⟨rfl, x11⟩
  replace hlv := hlv.ext x11
  replace hsv := hsv.ext x11
  replace d0 := x11.cell d0
  replace d1 := x11.cell d1
  replace s0 := x11.cell s0
  replace s1 := x11.cell s1
  replace p0 := x11.cell p0
  replace p1 := x11.cell p1
  have hx11 := hx10.trans x11
  have hP11 := hP10.ext x11
  obtain ⟨L0, hL0⟩ : ∃ N, w11.heap.size = N := ⟨_, rfl⟩
  obtain ⟨cL0, x12, -⟩ := cls_step (W := w11) 3 #[.int .i64 2, .int .i64 1, .int .i64 1, .int .i64 2, .int .i64 3] hL0
  obtain ⟨w12, hw12⟩ : ∃ W, w11.alloc (.cells #[.int .i64 2, .int .i64 1, .int .i64 1, .int .i64 2, .int .i64 3] 3) = W := ⟨_, rfl⟩
  rw [hw12] at cL0 x12
  have d0_11 := d0
  have d1_11 := d1
  have s0_11 := s0
  have s1_11 := s1
  have p0_11 := p0
  have p1_11 := p1
  replace hlv := hlv.ext x12
  replace hsv := hsv.ext x12
  replace d0 := x12.cell d0
  replace d1 := x12.cell d1
  replace s0 := x12.cell s0
  replace s1 := x12.cell s1
  replace p0 := x12.cell p0
  replace p1 := x12.cell p1
  have hx12 := hx11.trans x12
  have hP12 := hP11.ext x12
  have gl0 := ints_C (n := 5) [2, 1, 1, 2, 3] rfl rfl cL0
  obtain ⟨M0, hM0⟩ : ∃ N, w12.heap.size = N := ⟨_, rfl⟩
  obtain ⟨cM0, x13, -⟩ := cls_step (W := w12) 3 #[.int .i64 2, .int .i64 2, .int .i64 41] hM0
  obtain ⟨w13, hw13⟩ : ∃ W, w12.alloc (.cells #[.int .i64 2, .int .i64 2, .int .i64 41] 3) = W := ⟨_, rfl⟩
  rw [hw13] at cM0 x13
  have d0_12 := d0
  have d1_12 := d1
  have s0_12 := s0
  have s1_12 := s1
  have p0_12 := p0
  have p1_12 := p1
  replace hlv := hlv.ext x13
  replace hsv := hsv.ext x13
  replace gl0 := gl0.ext x13
  replace d0 := x13.cell d0
  replace d1 := x13.cell d1
  replace s0 := x13.cell s0
  replace s1 := x13.cell s1
  replace p0 := x13.cell p0
  replace p1 := x13.cell p1
  have hx13 := hx12.trans x13
  have hP13 := hP12.ext x13
  have gm0 := ints_C (n := 3) [2, 2, 41] rfl rfl cM0
  go_wp2_with fail
  refine (HKG.out _ _ _ _ w13 hP13 gl0 gm0).mono ?_
  rintro e w14 ⟨rfl, x14⟩
  replace hlv := hlv.ext x14
  replace hsv := hsv.ext x14
  replace gl0 := gl0.ext x14
  replace d0 := x14.cell d0
  replace d1 := x14.cell d1
  replace s0 := x14.cell s0
  replace s1 := x14.cell s1
  replace p0 := x14.cell p0
  replace p1 := x14.cell p1
  have hx14 := hx13.trans x14
  have hP14 := hP13.ext x14
  clear d0_11 d1_11 s0_11 s1_11 p0_11 p1_11 d0_12 d1_12 s0_12 s1_12 p0_12 p1_12
  obtain ⟨L1, hL1⟩ : ∃ N, w14.heap.size = N := ⟨_, rfl⟩
  obtain ⟨cL1, x15, -⟩ := cls_step (W := w14) 3 #[.int .i64 2, .int .i64 1, .int .i64 1, .int .i64 2, .int .i64 3] hL1
  obtain ⟨w15, hw15⟩ : ∃ W, w14.alloc (.cells #[.int .i64 2, .int .i64 1, .int .i64 1, .int .i64 2, .int .i64 3] 3) = W := ⟨_, rfl⟩
  rw [hw15] at cL1 x15
  have d0_14 := d0
  have d1_14 := d1
  have s0_14 := s0
  have s1_14 := s1
  have p0_14 := p0
  have p1_14 := p1
  replace hlv := hlv.ext x15
  replace hsv := hsv.ext x15
  replace gl0 := gl0.ext x15
  replace d0 := x15.cell d0
  replace d1 := x15.cell d1
  replace s0 := x15.cell s0
  replace s1 := x15.cell s1
  replace p0 := x15.cell p0
  replace p1 := x15.cell p1
  have hx15 := hx14.trans x15
  have hP15 := hP14.ext x15
  have gl1 := ints_C (n := 5) [2, 1, 1, 2, 3] rfl rfl cL1
  obtain ⟨M1, hM1⟩ : ∃ N, w15.heap.size = N := ⟨_, rfl⟩
  obtain ⟨cM1, x16, -⟩ := cls_step (W := w15) 3 #[.int .i64 2, .int .i64 2, .int .i64 1] hM1
  obtain ⟨w16, hw16⟩ : ∃ W, w15.alloc (.cells #[.int .i64 2, .int .i64 2, .int .i64 1] 3) = W := ⟨_, rfl⟩
  rw [hw16] at cM1 x16
  have d0_15 := d0
  have d1_15 := d1
  have s0_15 := s0
  have s1_15 := s1
  have p0_15 := p0
  have p1_15 := p1
  replace hlv := hlv.ext x16
  replace hsv := hsv.ext x16
  replace gl0 := gl0.ext x16
  replace gl1 := gl1.ext x16
  replace d0 := x16.cell d0
  replace d1 := x16.cell d1
  replace s0 := x16.cell s0
  replace s1 := x16.cell s1
  replace p0 := x16.cell p0
  replace p1 := x16.cell p1
  have hx16 := hx15.trans x16
  have hP16 := hP15.ext x16
  have gm1 := ints_C (n := 3) [2, 2, 1] rfl rfl cM1
  go_wp2_with fail
  refine (HKH.out _ _ _ _ w16 hP16 gl1 gm1).mono ?_
  rintro e w17 ⟨rfl, x17⟩
  replace hlv := hlv.ext x17
  replace hsv := hsv.ext x17
  replace gl0 := gl0.ext x17
  replace gl1 := gl1.ext x17
  replace d0 := x17.cell d0
  replace d1 := x17.cell d1
  replace s0 := x17.cell s0
  replace s1 := x17.cell s1
  replace p0 := x17.cell p0
  replace p1 := x17.cell p1
  have hx17 := hx16.trans x17
  have hP17 := hP16.ext x17
  clear d0_14 d1_14 s0_14 s1_14 p0_14 p1_14 d0_15 d1_15 s0_15 s1_15 p0_15 p1_15
  obtain ⟨L3, hL3⟩ : ∃ N, w17.heap.size = N := ⟨_, rfl⟩
  obtain ⟨cL3, x18, -⟩ := cls_step (W := w17) 3 #[.int .i64 1, .int .i64 2, .int .i64 2] hL3
  obtain ⟨w18, hw18⟩ : ∃ W, w17.alloc (.cells #[.int .i64 1, .int .i64 2, .int .i64 2] 3) = W := ⟨_, rfl⟩
  rw [hw18] at cL3 x18
  have d0_17 := d0
  have d1_17 := d1
  have s0_17 := s0
  have s1_17 := s1
  have p0_17 := p0
  have p1_17 := p1
  replace hlv := hlv.ext x18
  replace hsv := hsv.ext x18
  replace gl0 := gl0.ext x18
  replace gl1 := gl1.ext x18
  replace d0 := x18.cell d0
  replace d1 := x18.cell d1
  replace s0 := x18.cell s0
  replace s1 := x18.cell s1
  replace p0 := x18.cell p0
  replace p1 := x18.cell p1
  have hx18 := hx17.trans x18
  have hP18 := hP17.ext x18
  have gl3 := ints_C (n := 3) [1, 2, 2] rfl rfl cL3
  go_wp2_with fail
  refine (refSame_any _ _ _ _ w18 hlv gl3 (by decide)).mono ?_
  rintro e w19 ⟨rfl, x19⟩
  replace hlv := hlv.ext x19
  replace hsv := hsv.ext x19
  replace gl0 := gl0.ext x19
  replace gl1 := gl1.ext x19
  replace d0 := x19.cell d0
  replace d1 := x19.cell d1
  replace s0 := x19.cell s0
  replace s1 := x19.cell s1
  replace p0 := x19.cell p0
  replace p1 := x19.cell p1
  have hx19 := hx18.trans x19
  have hP19 := hP18.ext x19
  clear d0_17 d1_17 s0_17 s1_17 p0_17 p1_17
  obtain ⟨L4, hL4⟩ : ∃ N, w19.heap.size = N := ⟨_, rfl⟩
  obtain ⟨cL4, x20, -⟩ := cls_step (W := w19) 58 #[.int .i64 12, .int .i64 1, .int .i64 14, .int .i64 2, .int .i64 15, .int .i64 3] hL4
  obtain ⟨w20, hw20⟩ : ∃ W, w19.alloc (.cells #[.int .i64 12, .int .i64 1, .int .i64 14, .int .i64 2, .int .i64 15, .int .i64 3] 58) = W := ⟨_, rfl⟩
  rw [hw20] at cL4 x20
  have d0_19 := d0
  have d1_19 := d1
  have s0_19 := s0
  have s1_19 := s1
  have p0_19 := p0
  have p1_19 := p1
  replace hlv := hlv.ext x20
  replace hsv := hsv.ext x20
  replace gl0 := gl0.ext x20
  replace gl1 := gl1.ext x20
  replace d0 := x20.cell d0
  replace d1 := x20.cell d1
  replace s0 := x20.cell s0
  replace s1 := x20.cell s1
  replace p0 := x20.cell p0
  replace p1 := x20.cell p1
  have hx20 := hx19.trans x20
  have hP20 := hP19.ext x20
  have gl4 : SfsAt w20 (.slice (some ⟨L4, 0, none⟩) 3 3) [(12, 1), (14, 2), (15, 3)] := seqK_C _ rfl (fun i hi r hr => by
    have hi' : i < 3 := hi
    match i, hi', r, hr with
    | 0, _, 0, _ => rfl
    | 0, _, 1, _ => rfl
    | 1, _, 0, _ => rfl
    | 1, _, 1, _ => rfl
    | 2, _, 0, _ => rfl
    | 2, _, 1, _ => rfl) cL4
  go_wp2_with fail
  refine (refSameS_any _ _ _ _ w20 hsv gl4 (by decide)).mono ?_
  rintro e w21 ⟨rfl, x21⟩
  replace hlv := hlv.ext x21
  replace hsv := hsv.ext x21
  replace gl0 := gl0.ext x21
  replace gl1 := gl1.ext x21
  replace d0 := x21.cell d0
  replace d1 := x21.cell d1
  replace s0 := x21.cell s0
  replace s1 := x21.cell s1
  replace p0 := x21.cell p0
  replace p1 := x21.cell p1
  have hx21 := hx20.trans x21
  have hP21 := hP20.ext x21
  clear d0_19 d1_19 s0_19 s1_19 p0_19 p1_19
  go_wp2_with fail
  go_ret
  exact ⟨rfl, hx21⟩
end Go.Proofs.Ytiofdfjcaklmcaa
