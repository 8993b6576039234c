/- The chapter's examples: what the functions return there. The laws' own examples: A, B, sanity. -/
import Derived.Test.YtejcmdoalhnpeaaGreatDoorOften
import Derived.Test.YtejcmdoalhnpeaaGreatDoorPer
import Derived.Test.YtejcmdoalhnpeaaGreatDoorPrint
import Derived.Test.YtejcmdoalhnpeaaGreatDoorParse
import Derived.Test.YtejcmdoalhnpeaaGreatDoorSpans
import Derived.Test.YtejcmdoalhnpeaaGreatDoorFirst
namespace Go.Proofs.YtejcmdoalhnpeaaGreatDoor
open Go.RowKit Go.Shelf

def exN : Mn := ⟨[⟨10, 2, 3⟩], []⟩
def exS : Mn := ⟨[⟨10, 2, 3⟩], [⟨4, 6⟩]⟩
def exP : Mn := ⟨[⟨6, 0, 1⟩, ⟨6, 3, 1⟩], []⟩
def exT1 : List UInt8 := [101, 118, 101, 114, 121, 32, 49, 48, 32, 102, 114, 111, 109, 32, 49, 48, 32, 102, 111, 114, 32, 51, 59]
def exT2 : List UInt8 := [98, 101, 116, 119, 101, 101, 110, 32, 53, 48, 32, 97, 110, 100, 32, 52, 59]
theorem v_next : nextX exN 5 = 12 ∧ nextE exN 5 = 0 := by decide +kernel
theorem v_firstN : firstE 10 2 3 15 5 2 = 5 := by decide +kernel
theorem v_apart : aptX 10 2 3 15 5 2 = 5 ∧ aptB 10 2 3 15 5 2 = true ∧ pairE 10 2 3 15 5 2 = 0 := by decide +kernel
theorem v_first : firstX 10 2 3 15 4 2 = 4 ∧ firstE 10 2 3 15 4 2 = 0 := by decide +kernel
theorem v_often : oftX 10 2 3 15 4 2 = 1 ∧ oftL 10 2 3 15 4 2 = 30 ∧ pairE 10 2 3 15 4 2 = 0 := by decide +kernel
theorem v_spans : spansX exS 0 13 = [⟨2, 6⟩, ⟨12, 13⟩] ∧ spansE exS 0 13 = 0 := ⟨by kernel_rfl, by kernel_rfl⟩
theorem v_count : cntX exS 0 13 = 7 ∧ spnE exS 0 13 = 0 := by decide +kernel
theorem v_per : perX exP = 3 ∧ whlE exP = 0 := by decide +kernel
theorem v_print : prtX exS = [101, 118, 101, 114, 121, 32, 49, 48, 32, 102, 114, 111, 109, 32, 50, 32, 102, 111, 114, 32, 51, 59, 10, 98, 101, 116, 119, 101, 101, 110, 32, 52, 32, 97, 110, 100, 32, 54, 59, 10] ∧ chkE exS = 0 := by decide +kernel
theorem v_prs1 : prsE exT1 = 7 ∧ prsA exT1 = 15 := by decide +kernel
theorem v_prs2 : prsE exT2 = 7 ∧ prsA exT2 = 16 := by decide +kernel
theorem v_cha : chaE 10 2 3 15 5 2 10 = 8 := by decide +kernel
end Go.Proofs.YtejcmdoalhnpeaaGreatDoor
namespace Go.Proofs.YtejcmdoalhnpeaaGreatDoor
open Go.RowKit Go.Shelf

set_option maxHeartbeats 1000000 in
theorem A_any (w : World) : Calls Tryz.prog 14 #[] w fun e w' => e = .returned (.agg #[.int .i64 10, .int .i64 2, .int .i64 3]) ∧ Ext w w' := by
  go_enter Tryz.func14, Tryz.ntmps14
  go_wp2_with fail
  have h := Cls.new w 42 #[.int .i64 10, .int .i64 2, .int .i64 3]
  refine bodyPost_ret (results_cell_row rfl _ _ w.heap.size 42 #[.int .i64 10, .int .i64 2, .int .i64 3] (0, 0) _ rfl h Tryz.underlying42 rfl (by kernel_rfl)) rfl ⟨rfl, ?_⟩
  exact (by repeat (first | exact Ext.refl _ | assumption | refine Ext.alloc ?_ _ | refine Ext.drew ?_ | refine Ext.drewN _ ?_ | refine Ext.trans ?_ (by assumption)))
set_option maxHeartbeats 1000000 in
theorem B_any (w : World) : Calls Tryz.prog 17 #[] w fun e w' => e = .returned (.agg #[.int .i64 15, .int .i64 5, .int .i64 2]) ∧ Ext w w' := by
  go_enter Tryz.func17, Tryz.ntmps17
  go_wp2_with fail
  have h := Cls.new w 42 #[.int .i64 15, .int .i64 5, .int .i64 2]
  refine bodyPost_ret (results_cell_row rfl _ _ w.heap.size 42 #[.int .i64 15, .int .i64 5, .int .i64 2] (0, 0) _ rfl h Tryz.underlying42 rfl (by kernel_rfl)) rfl ⟨rfl, ?_⟩
  exact (by repeat (first | exact Ext.refl _ | assumption | refine Ext.alloc ?_ _ | refine Ext.drew ?_ | refine Ext.drewN _ ?_ | refine Ext.trans ?_ (by assumption)))

theorem turnsAt_one (W : World) (p f l : Int) (cap : Nat) (t : TypeId) : TurnsAt (W.alloc (.cells #[.int .i64 p, .int .i64 f, .int .i64 l] t)) (.slice (some ⟨W.heap.size, 0, none⟩) 1 cap) [⟨p, f, l⟩] := by
  refine ⟨_, _, rfl, fun i hi => ?_⟩
  simp only [List.length_singleton] at hi
  obtain rfl : i = 0 := by omega
  exact ⟨_, _, rfl, cell_at_new _ _ _ _ _ _ rfl rfl, cell_at_new _ _ _ _ _ _ rfl rfl, cell_at_new _ _ _ _ _ _ rfl rfl⟩
theorem turnsAt_two (W : World) (p f l q g k : Int) (cap : Nat) (t : TypeId) : TurnsAt (W.alloc (.cells #[.int .i64 p, .int .i64 f, .int .i64 l, .int .i64 q, .int .i64 g, .int .i64 k] t)) (.slice (some ⟨W.heap.size, 0, none⟩) 2 cap) [⟨p, f, l⟩, ⟨q, g, k⟩] := by
  refine ⟨_, _, rfl, fun i hi => ?_⟩
  simp only [List.length_cons, List.length_nil] at hi
  have : i = 0 ∨ i = 1 := by omega
  rcases this with rfl | rfl
  · exact ⟨_, _, rfl, cell_at_new _ _ _ _ _ _ rfl rfl, cell_at_new _ _ _ _ _ _ rfl rfl, cell_at_new _ _ _ _ _ _ rfl rfl⟩
  · exact ⟨_, _, rfl, cell_at_new _ _ _ _ _ _ rfl rfl, cell_at_new _ _ _ _ _ _ rfl rfl, cell_at_new _ _ _ _ _ _ rfl rfl⟩
theorem spansAt_one (W : World) (p f : Int) (cap : Nat) (t : TypeId) : SpansAt (W.alloc (.cells #[.int .i64 p, .int .i64 f] t)) (.slice (some ⟨W.heap.size, 0, none⟩) 1 cap) [⟨p, f⟩] := by
  refine ⟨_, _, rfl, fun i hi => ?_⟩
  simp only [List.length_singleton] at hi
  obtain rfl : i = 0 := by omega
  exact ⟨_, _, rfl, cell_at_new _ _ _ _ _ _ rfl rfl, cell_at_new _ _ _ _ _ _ rfl rfl⟩
theorem spansAt_two' (W : World) (N : Nat) (hN : N = W.heap.size) (p f q g : Int) (cap : Nat) (t : TypeId) : SpansAt (W.alloc (.cells #[.int .i64 p, .int .i64 f, .int .i64 q, .int .i64 g] t)) (.slice (some ⟨N, 0, none⟩) 2 cap) [⟨p, f⟩, ⟨q, g⟩] := by
  subst hN
  refine ⟨_, _, rfl, fun i hi => ?_⟩
  simp only [List.length_cons, List.length_nil] at hi
  have : i = 0 ∨ i = 1 := by omega
  rcases this with rfl | rfl
  · exact ⟨_, _, rfl, cell_at_new _ _ _ _ _ _ rfl rfl, cell_at_new _ _ _ _ _ _ rfl rfl⟩
  · exact ⟨_, _, rfl, cell_at_new _ _ _ _ _ _ rfl rfl, cell_at_new _ _ _ _ _ _ rfl rfl⟩
theorem spansAt_two (W : World) (p f q g : Int) (cap : Nat) (t : TypeId) : SpansAt (W.alloc (.cells #[.int .i64 p, .int .i64 f, .int .i64 q, .int .i64 g] t)) (.slice (some ⟨W.heap.size, 0, none⟩) 2 cap) [⟨p, f⟩, ⟨q, g⟩] := by
  refine ⟨_, _, rfl, fun i hi => ?_⟩
  simp only [List.length_cons, List.length_nil] at hi
  have : i = 0 ∨ i = 1 := by omega
  rcases this with rfl | rfl
  · exact ⟨_, _, rfl, cell_at_new _ _ _ _ _ _ rfl rfl, cell_at_new _ _ _ _ _ _ rfl rfl⟩
  · exact ⟨_, _, rfl, cell_at_new _ _ _ _ _ _ rfl rfl, cell_at_new _ _ _ _ _ _ rfl rfl⟩

set_option maxRecDepth 100000 in
set_option maxHeartbeats 4000000 in
theorem sanity_any (w : World) (hT : Tab w) : Calls Tryz.prog 5 #[] w fun e w' => e = .returned (.bool true) ∧ Ext w w' := by
  go_enter Tryz.func5, Tryz.ntmps5
  go_wp2_with fail
  refine (A_any _).mono ?_
  rintro e w1 ⟨rfl, hx1⟩
  go_wp2_with fail
  obtain ⟨W, hW⟩ : ∃ W, ((w1.alloc (.cells #[.int .i64 10, .int .i64 2, .int .i64 3] 42)).alloc (.cells #[.int .i64 4, .int .i64 6] 45)).alloc (.cells #[.slice (some ⟨w1.heap.size, 0, none⟩) 1 1, .slice (some ⟨w1.heap.size + 1, 0, none⟩) 1 1] 25) = W := ⟨_, rfl⟩
  have hm : MinsAt W (.slice (some ⟨w1.heap.size, 0, none⟩) 1 1) (.slice (some ⟨w1.heap.size + 1, 0, none⟩) 1 1) exS := by
    rw [← hW]
    have h1 := turnsAt_one w1 10 2 3 1 42
    have h2 : SpansAt ((w1.alloc (.cells #[.int .i64 10, .int .i64 2, .int .i64 3] 42)).alloc (.cells #[.int .i64 4, .int .i64 6] 45)) (.slice (some ⟨w1.heap.size + 1, 0, none⟩) 1 1) [⟨4, 6⟩] := by simpa using spansAt_one (w1.alloc (.cells #[.int .i64 10, .int .i64 2, .int .i64 3] 42)) 4 6 1 45
    exact ⟨h1.ext (by repeat (first | exact Ext.refl _ | assumption | refine Ext.alloc ?_ _ | refine Ext.drew ?_ | refine Ext.drewN _ ?_ | refine Ext.trans ?_ (by assumption))), h2.ext (by repeat (first | exact Ext.refl _ | assumption | refine Ext.alloc ?_ _ | refine Ext.drew ?_ | refine Ext.drewN _ ?_ | refine Ext.trans ?_ (by assumption)))⟩
  have c0 : W.cell? ⟨w1.heap.size + 1 + 1, 0, none⟩ = some (.slice (some ⟨w1.heap.size, 0, none⟩) 1 1) := by rw [← hW]; exact cell_at_new _ _ _ _ _ _ (by simp) rfl
  have c1 : W.cell? ⟨w1.heap.size + 1 + 1, 1, none⟩ = some (.slice (some ⟨w1.heap.size + 1, 0, none⟩) 1 1) := by rw [← hW]; exact cell_at_new _ _ _ _ _ _ (by simp) rfl
  have hx : Ext w W := by rw [← hW]; exact (by repeat (first | exact Ext.refl _ | assumption | refine Ext.alloc ?_ _ | refine Ext.drew ?_ | refine Ext.drewN _ ?_ | refine Ext.trans ?_ (by assumption)))
  rw [hW]
  obtain ⟨N, hN⟩ : ∃ N, w1.heap.size = N := ⟨_, rfl⟩
  rw [hN] at c0 c1 hm ⊢
  clear hW hx1 hN
  clear w1
  refine (A_any _).mono ?_
  rintro e w2 ⟨rfl, hy⟩
  replace hx : Ext w w2 := hx.trans (Ext.trans (by repeat (first | exact Ext.refl _ | assumption | refine Ext.alloc ?_ _ | refine Ext.drew ?_ | refine Ext.drewN _ ?_ | refine Ext.trans ?_ (by assumption))) hy)
  replace hm := hm.ext (show Ext W w2 from Ext.trans (by repeat (first | exact Ext.refl _ | assumption | refine Ext.alloc ?_ _ | refine Ext.drew ?_ | refine Ext.drewN _ ?_ | refine Ext.trans ?_ (by assumption))) hy)
  replace c0 := Ext.cell (show Ext W w2 from Ext.trans (by repeat (first | exact Ext.refl _ | assumption | refine Ext.alloc ?_ _ | refine Ext.drew ?_ | refine Ext.drewN _ ?_ | refine Ext.trans ?_ (by assumption))) hy) c0
  replace c1 := Ext.cell (show Ext W w2 from Ext.trans (by repeat (first | exact Ext.refl _ | assumption | refine Ext.alloc ?_ _ | refine Ext.drew ?_ | refine Ext.drewN _ ?_ | refine Ext.trans ?_ (by assumption))) hy) c1
  clear hy
  go_wp2_with fail
  refine (Next_any _ _ exN 5 _ ⟨turnsAt_one _ 10 2 3 1 _, spansAt_nil _⟩).mono ?_
  rw [v_next.1, v_next.2]
  rintro e w3 ⟨rfl, hy⟩
  replace hx : Ext w w3 := hx.trans (Ext.trans (by repeat (first | exact Ext.refl _ | assumption | refine Ext.alloc ?_ _ | refine Ext.drew ?_ | refine Ext.drewN _ ?_ | refine Ext.trans ?_ (by assumption))) hy)
  replace hm := hm.ext (show Ext w2 w3 from Ext.trans (by repeat (first | exact Ext.refl _ | assumption | refine Ext.alloc ?_ _ | refine Ext.drew ?_ | refine Ext.drewN _ ?_ | refine Ext.trans ?_ (by assumption))) hy)
  replace c0 := Ext.cell (show Ext w2 w3 from Ext.trans (by repeat (first | exact Ext.refl _ | assumption | refine Ext.alloc ?_ _ | refine Ext.drew ?_ | refine Ext.drewN _ ?_ | refine Ext.trans ?_ (by assumption))) hy) c0
  replace c1 := Ext.cell (show Ext w2 w3 from Ext.trans (by repeat (first | exact Ext.refl _ | assumption | refine Ext.alloc ?_ _ | refine Ext.drew ?_ | refine Ext.drewN _ ?_ | refine Ext.trans ?_ (by assumption))) hy) c1
  clear hy
  go_wp2_with fail
  refine (A_any _).mono ?_
  rintro e w4 ⟨rfl, hy⟩
  replace hx : Ext w w4 := hx.trans (Ext.trans (by repeat (first | exact Ext.refl _ | assumption | refine Ext.alloc ?_ _ | refine Ext.drew ?_ | refine Ext.drewN _ ?_ | refine Ext.trans ?_ (by assumption))) hy)
  replace hm := hm.ext (show Ext w3 w4 from Ext.trans (by repeat (first | exact Ext.refl _ | assumption | refine Ext.alloc ?_ _ | refine Ext.drew ?_ | refine Ext.drewN _ ?_ | refine Ext.trans ?_ (by assumption))) hy)
  replace c0 := Ext.cell (show Ext w3 w4 from Ext.trans (by repeat (first | exact Ext.refl _ | assumption | refine Ext.alloc ?_ _ | refine Ext.drew ?_ | refine Ext.drewN _ ?_ | refine Ext.trans ?_ (by assumption))) hy) c0
  replace c1 := Ext.cell (show Ext w3 w4 from Ext.trans (by repeat (first | exact Ext.refl _ | assumption | refine Ext.alloc ?_ _ | refine Ext.drew ?_ | refine Ext.drewN _ ?_ | refine Ext.trans ?_ (by assumption))) hy) c1
  clear hy
  go_wp2_with fail
  refine (B_any _).mono ?_
  rintro e w5 ⟨rfl, hy⟩
  replace hx : Ext w w5 := hx.trans (Ext.trans (by repeat (first | exact Ext.refl _ | assumption | refine Ext.alloc ?_ _ | refine Ext.drew ?_ | refine Ext.drewN _ ?_ | refine Ext.trans ?_ (by assumption))) hy)
  replace hm := hm.ext (show Ext w4 w5 from Ext.trans (by repeat (first | exact Ext.refl _ | assumption | refine Ext.alloc ?_ _ | refine Ext.drew ?_ | refine Ext.drewN _ ?_ | refine Ext.trans ?_ (by assumption))) hy)
  replace c0 := Ext.cell (show Ext w4 w5 from Ext.trans (by repeat (first | exact Ext.refl _ | assumption | refine Ext.alloc ?_ _ | refine Ext.drew ?_ | refine Ext.drewN _ ?_ | refine Ext.trans ?_ (by assumption))) hy) c0
  replace c1 := Ext.cell (show Ext w4 w5 from Ext.trans (by repeat (first | exact Ext.refl _ | assumption | refine Ext.alloc ?_ _ | refine Ext.drew ?_ | refine Ext.drewN _ ?_ | refine Ext.trans ?_ (by assumption))) hy) c1
  clear hy
  go_wp2_with fail
  refine (First_any _ _ _ _ _ _ _).mono ?_
  rw [v_firstN]
  rintro e w6 ⟨rfl, hy⟩
  replace hx : Ext w w6 := hx.trans (Ext.trans (by repeat (first | exact Ext.refl _ | assumption | refine Ext.alloc ?_ _ | refine Ext.drew ?_ | refine Ext.drewN _ ?_ | refine Ext.trans ?_ (by assumption))) hy)
  replace hm := hm.ext (show Ext w5 w6 from Ext.trans (by repeat (first | exact Ext.refl _ | assumption | refine Ext.alloc ?_ _ | refine Ext.drew ?_ | refine Ext.drewN _ ?_ | refine Ext.trans ?_ (by assumption))) hy)
  replace c0 := Ext.cell (show Ext w5 w6 from Ext.trans (by repeat (first | exact Ext.refl _ | assumption | refine Ext.alloc ?_ _ | refine Ext.drew ?_ | refine Ext.drewN _ ?_ | refine Ext.trans ?_ (by assumption))) hy) c0
  replace c1 := Ext.cell (show Ext w5 w6 from Ext.trans (by repeat (first | exact Ext.refl _ | assumption | refine Ext.alloc ?_ _ | refine Ext.drew ?_ | refine Ext.drewN _ ?_ | refine Ext.trans ?_ (by assumption))) hy) c1
  clear hy
  go_wp2_with fail
  refine (A_any _).mono ?_
  rintro e w7 ⟨rfl, hy⟩
  replace hx : Ext w w7 := hx.trans (Ext.trans (by repeat (first | exact Ext.refl _ | assumption | refine Ext.alloc ?_ _ | refine Ext.drew ?_ | refine Ext.drewN _ ?_ | refine Ext.trans ?_ (by assumption))) hy)
  replace hm := hm.ext (show Ext w6 w7 from Ext.trans (by repeat (first | exact Ext.refl _ | assumption | refine Ext.alloc ?_ _ | refine Ext.drew ?_ | refine Ext.drewN _ ?_ | refine Ext.trans ?_ (by assumption))) hy)
  replace c0 := Ext.cell (show Ext w6 w7 from Ext.trans (by repeat (first | exact Ext.refl _ | assumption | refine Ext.alloc ?_ _ | refine Ext.drew ?_ | refine Ext.drewN _ ?_ | refine Ext.trans ?_ (by assumption))) hy) c0
  replace c1 := Ext.cell (show Ext w6 w7 from Ext.trans (by repeat (first | exact Ext.refl _ | assumption | refine Ext.alloc ?_ _ | refine Ext.drew ?_ | refine Ext.drewN _ ?_ | refine Ext.trans ?_ (by assumption))) hy) c1
  clear hy
  go_wp2_with fail
  refine (B_any _).mono ?_
  rintro e w8 ⟨rfl, hy⟩
  replace hx : Ext w w8 := hx.trans (Ext.trans (by repeat (first | exact Ext.refl _ | assumption | refine Ext.alloc ?_ _ | refine Ext.drew ?_ | refine Ext.drewN _ ?_ | refine Ext.trans ?_ (by assumption))) hy)
  replace hm := hm.ext (show Ext w7 w8 from Ext.trans (by repeat (first | exact Ext.refl _ | assumption | refine Ext.alloc ?_ _ | refine Ext.drew ?_ | refine Ext.drewN _ ?_ | refine Ext.trans ?_ (by assumption))) hy)
  replace c0 := Ext.cell (show Ext w7 w8 from Ext.trans (by repeat (first | exact Ext.refl _ | assumption | refine Ext.alloc ?_ _ | refine Ext.drew ?_ | refine Ext.drewN _ ?_ | refine Ext.trans ?_ (by assumption))) hy) c0
  replace c1 := Ext.cell (show Ext w7 w8 from Ext.trans (by repeat (first | exact Ext.refl _ | assumption | refine Ext.alloc ?_ _ | refine Ext.drew ?_ | refine Ext.drewN _ ?_ | refine Ext.trans ?_ (by assumption))) hy) c1
  clear hy
  go_wp2_with fail
  refine (Apart_any _ _ _ _ _ _ _).mono ?_
  rw [v_apart.1, v_apart.2.1, v_apart.2.2]
  rintro e w9 ⟨rfl, hy⟩
  replace hx : Ext w w9 := hx.trans (Ext.trans (by repeat (first | exact Ext.refl _ | assumption | refine Ext.alloc ?_ _ | refine Ext.drew ?_ | refine Ext.drewN _ ?_ | refine Ext.trans ?_ (by assumption))) hy)
  replace hm := hm.ext (show Ext w8 w9 from Ext.trans (by repeat (first | exact Ext.refl _ | assumption | refine Ext.alloc ?_ _ | refine Ext.drew ?_ | refine Ext.drewN _ ?_ | refine Ext.trans ?_ (by assumption))) hy)
  replace c0 := Ext.cell (show Ext w8 w9 from Ext.trans (by repeat (first | exact Ext.refl _ | assumption | refine Ext.alloc ?_ _ | refine Ext.drew ?_ | refine Ext.drewN _ ?_ | refine Ext.trans ?_ (by assumption))) hy) c0
  replace c1 := Ext.cell (show Ext w8 w9 from Ext.trans (by repeat (first | exact Ext.refl _ | assumption | refine Ext.alloc ?_ _ | refine Ext.drew ?_ | refine Ext.drewN _ ?_ | refine Ext.trans ?_ (by assumption))) hy) c1
  clear hy
  go_wp2_with fail
  refine (A_any _).mono ?_
  rintro e w10 ⟨rfl, hy⟩
  replace hx : Ext w w10 := hx.trans (Ext.trans (by repeat (first | exact Ext.refl _ | assumption | refine Ext.alloc ?_ _ | refine Ext.drew ?_ | refine Ext.drewN _ ?_ | refine Ext.trans ?_ (by assumption))) hy)
  replace hm := hm.ext (show Ext w9 w10 from Ext.trans (by repeat (first | exact Ext.refl _ | assumption | refine Ext.alloc ?_ _ | refine Ext.drew ?_ | refine Ext.drewN _ ?_ | refine Ext.trans ?_ (by assumption))) hy)
  replace c0 := Ext.cell (show Ext w9 w10 from Ext.trans (by repeat (first | exact Ext.refl _ | assumption | refine Ext.alloc ?_ _ | refine Ext.drew ?_ | refine Ext.drewN _ ?_ | refine Ext.trans ?_ (by assumption))) hy) c0
  replace c1 := Ext.cell (show Ext w9 w10 from Ext.trans (by repeat (first | exact Ext.refl _ | assumption | refine Ext.alloc ?_ _ | refine Ext.drew ?_ | refine Ext.drewN _ ?_ | refine Ext.trans ?_ (by assumption))) hy) c1
  clear hy
  go_wp2_with fail
  refine (First_any _ _ _ _ _ _ _).mono ?_
  rw [v_first.1, v_first.2]
  rintro e w11 ⟨rfl, hy⟩
  replace hx : Ext w w11 := hx.trans (Ext.trans (by repeat (first | exact Ext.refl _ | assumption | refine Ext.alloc ?_ _ | refine Ext.drew ?_ | refine Ext.drewN _ ?_ | refine Ext.trans ?_ (by assumption))) hy)
  replace hm := hm.ext (show Ext w10 w11 from Ext.trans (by repeat (first | exact Ext.refl _ | assumption | refine Ext.alloc ?_ _ | refine Ext.drew ?_ | refine Ext.drewN _ ?_ | refine Ext.trans ?_ (by assumption))) hy)
  replace c0 := Ext.cell (show Ext w10 w11 from Ext.trans (by repeat (first | exact Ext.refl _ | assumption | refine Ext.alloc ?_ _ | refine Ext.drew ?_ | refine Ext.drewN _ ?_ | refine Ext.trans ?_ (by assumption))) hy) c0
  replace c1 := Ext.cell (show Ext w10 w11 from Ext.trans (by repeat (first | exact Ext.refl _ | assumption | refine Ext.alloc ?_ _ | refine Ext.drew ?_ | refine Ext.drewN _ ?_ | refine Ext.trans ?_ (by assumption))) hy) c1
  clear hy
  go_wp2_with fail
  refine (A_any _).mono ?_
  rintro e w12 ⟨rfl, hy⟩
  replace hx : Ext w w12 := hx.trans (Ext.trans (by repeat (first | exact Ext.refl _ | assumption | refine Ext.alloc ?_ _ | refine Ext.drew ?_ | refine Ext.drewN _ ?_ | refine Ext.trans ?_ (by assumption))) hy)
  replace hm := hm.ext (show Ext w11 w12 from Ext.trans (by repeat (first | exact Ext.refl _ | assumption | refine Ext.alloc ?_ _ | refine Ext.drew ?_ | refine Ext.drewN _ ?_ | refine Ext.trans ?_ (by assumption))) hy)
  replace c0 := Ext.cell (show Ext w11 w12 from Ext.trans (by repeat (first | exact Ext.refl _ | assumption | refine Ext.alloc ?_ _ | refine Ext.drew ?_ | refine Ext.drewN _ ?_ | refine Ext.trans ?_ (by assumption))) hy) c0
  replace c1 := Ext.cell (show Ext w11 w12 from Ext.trans (by repeat (first | exact Ext.refl _ | assumption | refine Ext.alloc ?_ _ | refine Ext.drew ?_ | refine Ext.drewN _ ?_ | refine Ext.trans ?_ (by assumption))) hy) c1
  clear hy
  go_wp2_with fail
  refine (Often_any _ _ _ _ _ _ _).mono ?_
  rw [v_often.1, v_often.2.1, v_often.2.2]
  rintro e w13 ⟨rfl, hy⟩
  replace hx : Ext w w13 := hx.trans (Ext.trans (by repeat (first | exact Ext.refl _ | assumption | refine Ext.alloc ?_ _ | refine Ext.drew ?_ | refine Ext.drewN _ ?_ | refine Ext.trans ?_ (by assumption))) hy)
  replace hm := hm.ext (show Ext w12 w13 from Ext.trans (by repeat (first | exact Ext.refl _ | assumption | refine Ext.alloc ?_ _ | refine Ext.drew ?_ | refine Ext.drewN _ ?_ | refine Ext.trans ?_ (by assumption))) hy)
  replace c0 := Ext.cell (show Ext w12 w13 from Ext.trans (by repeat (first | exact Ext.refl _ | assumption | refine Ext.alloc ?_ _ | refine Ext.drew ?_ | refine Ext.drewN _ ?_ | refine Ext.trans ?_ (by assumption))) hy) c0
  replace c1 := Ext.cell (show Ext w12 w13 from Ext.trans (by repeat (first | exact Ext.refl _ | assumption | refine Ext.alloc ?_ _ | refine Ext.drew ?_ | refine Ext.drewN _ ?_ | refine Ext.trans ?_ (by assumption))) hy) c1
  clear hy
  go_wp2_with fail
  refine (Spans_any _ _ exS 0 13 _ (hm.ext (by repeat (first | exact Ext.refl _ | assumption | refine Ext.alloc ?_ _ | refine Ext.drew ?_ | refine Ext.drewN _ ?_ | refine Ext.trans ?_ (by assumption))))).mono ?_
  rw [v_spans.1, v_spans.2]
  rintro e w14 ⟨vs, rfl, hs, hy⟩
  replace hx : Ext w w14 := hx.trans (Ext.trans (by repeat (first | exact Ext.refl _ | assumption | refine Ext.alloc ?_ _ | refine Ext.drew ?_ | refine Ext.drewN _ ?_ | refine Ext.trans ?_ (by assumption))) hy)
  replace hm := hm.ext (show Ext w13 w14 from Ext.trans (by repeat (first | exact Ext.refl _ | assumption | refine Ext.alloc ?_ _ | refine Ext.drew ?_ | refine Ext.drewN _ ?_ | refine Ext.trans ?_ (by assumption))) hy)
  replace c0 := Ext.cell (show Ext w13 w14 from Ext.trans (by repeat (first | exact Ext.refl _ | assumption | refine Ext.alloc ?_ _ | refine Ext.drew ?_ | refine Ext.drewN _ ?_ | refine Ext.trans ?_ (by assumption))) hy) c0
  replace c1 := Ext.cell (show Ext w13 w14 from Ext.trans (by repeat (first | exact Ext.refl _ | assumption | refine Ext.alloc ?_ _ | refine Ext.drew ?_ | refine Ext.drewN _ ?_ | refine Ext.trans ?_ (by assumption))) hy) c1
  clear hy
  go_wp2_with fail
  refine (Count_any _ _ exS 0 13 _ (hm.ext (by repeat (first | exact Ext.refl _ | assumption | refine Ext.alloc ?_ _ | refine Ext.drew ?_ | refine Ext.drewN _ ?_ | refine Ext.trans ?_ (by assumption))))).mono ?_
  rw [v_count.1, v_count.2]
  rintro e w15 ⟨rfl, hy⟩
  replace hx : Ext w w15 := hx.trans (Ext.trans (by repeat (first | exact Ext.refl _ | assumption | refine Ext.alloc ?_ _ | refine Ext.drew ?_ | refine Ext.drewN _ ?_ | refine Ext.trans ?_ (by assumption))) hy)
  replace hm := hm.ext (show Ext w14 w15 from Ext.trans (by repeat (first | exact Ext.refl _ | assumption | refine Ext.alloc ?_ _ | refine Ext.drew ?_ | refine Ext.drewN _ ?_ | refine Ext.trans ?_ (by assumption))) hy)
  replace c0 := Ext.cell (show Ext w14 w15 from Ext.trans (by repeat (first | exact Ext.refl _ | assumption | refine Ext.alloc ?_ _ | refine Ext.drew ?_ | refine Ext.drewN _ ?_ | refine Ext.trans ?_ (by assumption))) hy) c0
  replace c1 := Ext.cell (show Ext w14 w15 from Ext.trans (by repeat (first | exact Ext.refl _ | assumption | refine Ext.alloc ?_ _ | refine Ext.drew ?_ | refine Ext.drewN _ ?_ | refine Ext.trans ?_ (by assumption))) hy) c1
  replace hs := hs.ext (Ext.trans (by repeat (first | exact Ext.refl _ | assumption | refine Ext.alloc ?_ _ | refine Ext.drew ?_ | refine Ext.drewN _ ?_ | refine Ext.trans ?_ (by assumption))) hy)
  clear hy
  go_wp2_with fail
  refine (Period_any _ _ exP _ ⟨turnsAt_two _ 6 0 1 6 3 1 _ _, spansAt_nil _⟩).mono ?_
  rw [v_per.1, v_per.2]
  rintro e w16 ⟨rfl, hy⟩
  replace hx : Ext w w16 := hx.trans (Ext.trans (by repeat (first | exact Ext.refl _ | assumption | refine Ext.alloc ?_ _ | refine Ext.drew ?_ | refine Ext.drewN _ ?_ | refine Ext.trans ?_ (by assumption))) hy)
  replace hm := hm.ext (show Ext w15 w16 from Ext.trans (by repeat (first | exact Ext.refl _ | assumption | refine Ext.alloc ?_ _ | refine Ext.drew ?_ | refine Ext.drewN _ ?_ | refine Ext.trans ?_ (by assumption))) hy)
  replace hs := hs.ext (show Ext w15 w16 from Ext.trans (by repeat (first | exact Ext.refl _ | assumption | refine Ext.alloc ?_ _ | refine Ext.drew ?_ | refine Ext.drewN _ ?_ | refine Ext.trans ?_ (by assumption))) hy)
  replace c0 := Ext.cell (show Ext w15 w16 from Ext.trans (by repeat (first | exact Ext.refl _ | assumption | refine Ext.alloc ?_ _ | refine Ext.drew ?_ | refine Ext.drewN _ ?_ | refine Ext.trans ?_ (by assumption))) hy) c0
  replace c1 := Ext.cell (show Ext w15 w16 from Ext.trans (by repeat (first | exact Ext.refl _ | assumption | refine Ext.alloc ?_ _ | refine Ext.drew ?_ | refine Ext.drewN _ ?_ | refine Ext.trans ?_ (by assumption))) hy) c1
  clear hy
  go_wp2_with fail
  refine (Print_any _ _ exS _ (hm.ext (by repeat (first | exact Ext.refl _ | assumption | refine Ext.alloc ?_ _ | refine Ext.drew ?_ | refine Ext.drewN _ ?_ | refine Ext.trans ?_ (by assumption)))) (hT.ext (hx.trans (by repeat (first | exact Ext.refl _ | assumption | refine Ext.alloc ?_ _ | refine Ext.drew ?_ | refine Ext.drewN _ ?_ | refine Ext.trans ?_ (by assumption)))))).mono ?_
  rw [v_print.1, v_print.2]
  rintro e w17 ⟨rfl, hy⟩
  replace hx : Ext w w17 := hx.trans (Ext.trans (by repeat (first | exact Ext.refl _ | assumption | refine Ext.alloc ?_ _ | refine Ext.drew ?_ | refine Ext.drewN _ ?_ | refine Ext.trans ?_ (by assumption))) hy)
  replace hm := hm.ext (show Ext w16 w17 from Ext.trans (by repeat (first | exact Ext.refl _ | assumption | refine Ext.alloc ?_ _ | refine Ext.drew ?_ | refine Ext.drewN _ ?_ | refine Ext.trans ?_ (by assumption))) hy)
  replace hs := hs.ext (show Ext w16 w17 from Ext.trans (by repeat (first | exact Ext.refl _ | assumption | refine Ext.alloc ?_ _ | refine Ext.drew ?_ | refine Ext.drewN _ ?_ | refine Ext.trans ?_ (by assumption))) hy)
  replace c0 := Ext.cell (show Ext w16 w17 from Ext.trans (by repeat (first | exact Ext.refl _ | assumption | refine Ext.alloc ?_ _ | refine Ext.drew ?_ | refine Ext.drewN _ ?_ | refine Ext.trans ?_ (by assumption))) hy) c0
  replace c1 := Ext.cell (show Ext w16 w17 from Ext.trans (by repeat (first | exact Ext.refl _ | assumption | refine Ext.alloc ?_ _ | refine Ext.drew ?_ | refine Ext.drewN _ ?_ | refine Ext.trans ?_ (by assumption))) hy) c1
  clear hy
  go_wp2_with fail
  refine (Parse_any ⟨exT1.toArray⟩ _ (by decide)).mono ?_
  intro e w18 hpp
  replace hpp : PrsPost exT1 _ e w18 := hpp
  revert hpp
  unfold PrsPost
  rw [v_prs1.1, v_prs1.2]
  rintro ⟨va, vb, rfl, hp, hy⟩
  obtain ⟨na, aa, ca, rfl⟩ : ∃ n ao cp, va = .slice ao n cp := by obtain ⟨ao, cp, h, _⟩ := hp.t; exact ⟨_, _, _, h⟩
  obtain ⟨nb, ab, cb, rfl⟩ : ∃ n ao cp, vb = .slice ao n cp := by obtain ⟨ao, cp, h, _⟩ := hp.s; exact ⟨_, _, _, h⟩
  clear hp
  replace hx : Ext w w18 := hx.trans (Ext.trans (by repeat (first | exact Ext.refl _ | assumption | refine Ext.alloc ?_ _ | refine Ext.drew ?_ | refine Ext.drewN _ ?_ | refine Ext.trans ?_ (by assumption))) hy)
  replace hm := hm.ext (show Ext w17 w18 from Ext.trans (by repeat (first | exact Ext.refl _ | assumption | refine Ext.alloc ?_ _ | refine Ext.drew ?_ | refine Ext.drewN _ ?_ | refine Ext.trans ?_ (by assumption))) hy)
  replace hs := hs.ext (show Ext w17 w18 from Ext.trans (by repeat (first | exact Ext.refl _ | assumption | refine Ext.alloc ?_ _ | refine Ext.drew ?_ | refine Ext.drewN _ ?_ | refine Ext.trans ?_ (by assumption))) hy)
  replace c0 := Ext.cell (show Ext w17 w18 from Ext.trans (by repeat (first | exact Ext.refl _ | assumption | refine Ext.alloc ?_ _ | refine Ext.drew ?_ | refine Ext.drewN _ ?_ | refine Ext.trans ?_ (by assumption))) hy) c0
  replace c1 := Ext.cell (show Ext w17 w18 from Ext.trans (by repeat (first | exact Ext.refl _ | assumption | refine Ext.alloc ?_ _ | refine Ext.drew ?_ | refine Ext.drewN _ ?_ | refine Ext.trans ?_ (by assumption))) hy) c1
  clear hy
  go_wp2_with fail
  refine (Parse_any ⟨exT2.toArray⟩ _ (by decide)).mono ?_
  intro e w19 hpp
  replace hpp : PrsPost exT2 _ e w19 := hpp
  revert hpp
  unfold PrsPost
  rw [v_prs2.1, v_prs2.2]
  rintro ⟨va2, vb2, rfl, hp, hy⟩
  obtain ⟨na2, aa2, ca2, rfl⟩ : ∃ n ao cp, va2 = .slice ao n cp := by obtain ⟨ao, cp, h, _⟩ := hp.t; exact ⟨_, _, _, h⟩
  obtain ⟨nb2, ab2, cb2, rfl⟩ : ∃ n ao cp, vb2 = .slice ao n cp := by obtain ⟨ao, cp, h, _⟩ := hp.s; exact ⟨_, _, _, h⟩
  clear hp
  replace hx : Ext w w19 := hx.trans (Ext.trans (by repeat (first | exact Ext.refl _ | assumption | refine Ext.alloc ?_ _ | refine Ext.drew ?_ | refine Ext.drewN _ ?_ | refine Ext.trans ?_ (by assumption))) hy)
  replace hm := hm.ext (show Ext w18 w19 from Ext.trans (by repeat (first | exact Ext.refl _ | assumption | refine Ext.alloc ?_ _ | refine Ext.drew ?_ | refine Ext.drewN _ ?_ | refine Ext.trans ?_ (by assumption))) hy)
  replace hs := hs.ext (show Ext w18 w19 from Ext.trans (by repeat (first | exact Ext.refl _ | assumption | refine Ext.alloc ?_ _ | refine Ext.drew ?_ | refine Ext.drewN _ ?_ | refine Ext.trans ?_ (by assumption))) hy)
  replace c0 := Ext.cell (show Ext w18 w19 from Ext.trans (by repeat (first | exact Ext.refl _ | assumption | refine Ext.alloc ?_ _ | refine Ext.drew ?_ | refine Ext.drewN _ ?_ | refine Ext.trans ?_ (by assumption))) hy) c0
  replace c1 := Ext.cell (show Ext w18 w19 from Ext.trans (by repeat (first | exact Ext.refl _ | assumption | refine Ext.alloc ?_ _ | refine Ext.drew ?_ | refine Ext.drewN _ ?_ | refine Ext.trans ?_ (by assumption))) hy) c1
  clear hy
  go_wp2_with fail
  refine (SameSpans_any _ _ [⟨2, 6⟩, ⟨12, 13⟩] [⟨2, 6⟩, ⟨12, 13⟩] _ (hs.ext (by repeat (first | exact Ext.refl _ | assumption | refine Ext.alloc ?_ _ | refine Ext.drew ?_ | refine Ext.drewN _ ?_ | refine Ext.trans ?_ (by assumption)))) (spansAt_two' _ _ (by simp) 2 6 12 13 _ _) (by decide) (by decide)).mono ?_
  rw [show spEq [⟨2, 6⟩, ⟨12, 13⟩] [⟨2, 6⟩, ⟨12, 13⟩] = true from (spEq_iff _ _).2 rfl]
  rintro e w20 ⟨rfl, hy⟩
  replace hx : Ext w w20 := hx.trans (Ext.trans (by repeat (first | exact Ext.refl _ | assumption | refine Ext.alloc ?_ _ | refine Ext.drew ?_ | refine Ext.drewN _ ?_ | refine Ext.trans ?_ (by assumption))) hy)
  clear hy
  go_wp2_with fail
  refine (A_any _).mono ?_
  rintro e w21 ⟨rfl, hy⟩
  replace hx : Ext w w21 := hx.trans (Ext.trans (by repeat (first | exact Ext.refl _ | assumption | refine Ext.alloc ?_ _ | refine Ext.drew ?_ | refine Ext.drewN _ ?_ | refine Ext.trans ?_ (by assumption))) hy)
  clear hy
  go_wp2_with fail
  refine (B_any _).mono ?_
  rintro e w22 ⟨rfl, hy⟩
  replace hx : Ext w w22 := hx.trans (Ext.trans (by repeat (first | exact Ext.refl _ | assumption | refine Ext.alloc ?_ _ | refine Ext.drew ?_ | refine Ext.drewN _ ?_ | refine Ext.trans ?_ (by assumption))) hy)
  clear hy
  go_wp2_with fail
  refine (CheckApart_any _ _ _ _ _ _ _ _).mono ?_
  rw [v_cha]
  rintro e w23 ⟨rfl, hy⟩
  replace hx : Ext w w23 := hx.trans (Ext.trans (by repeat (first | exact Ext.refl _ | assumption | refine Ext.alloc ?_ _ | refine Ext.drew ?_ | refine Ext.drewN _ ?_ | refine Ext.trans ?_ (by assumption))) hy)
  clear hy
  go_wp2_with fail
  go_ret
  exact ⟨rfl, hx⟩
end Go.Proofs.YtejcmdoalhnpeaaGreatDoor
