/- slices.SortFunc at the program: what the kit's tool wrote (tools/sortlay.sh). slices.SortFunc at spans, with the comparison that joined hands over. slices.SortFunc on an own row of spans: a permutation, by lo. slices.Grow of the nil slice and slices.Concat of two, at spans and at turns (printed by tools/gen_cat.py). slices.Values, slices.AppendSeq, slices.Collect and slices.SortedFunc at spans. Turns as the keys of a map. joined of the program. Union of the program. -/
import Derived.Shelf.SlGeneric
import Derived.Shelf.SlSortCmp.WholeK
import Derived.Ground.SlsfProg
import Derived.Test.YtejcmdoalhnpeaaGreatDoorProg
import Derived.Test.YtejcmdoalhnpeaaGreatDoorUnR
import Derived.Test.YtejcmdoalhnpeaaGreatDoorShelf
import Derived.Test.YtejcmdoalhnpeaaGreatDoorSpans
import Derived.Test.YtejcmdoalhnpeaaGreatDoorParse
import Derived.Lib.AppendZeros
import Derived.Test.YtejcmdoalhnpeaaGreatDoorMap
import Derived.DeepKeys5
import Derived.BigQuiet
import Derived.Test.YtejcmdoalhnpeaaGreatDoorMeet
import Derived.Test.YtejcmdoalhnpeaaGreatDoorRes
namespace Go.Proofs
open Go.Shelf
def Tryz.sortSp_ren : Go.Shelf.Ren := ⟨fun | 6 => 89 | 15 => 100 | 14 => 99 | 28 => 113 | 29 => 114 | 20 => 105 | 21 => 106 | 22 => 107 | 23 => 108 | 24 => 109 | 25 => 110 | 26 => 111 | 27 => 112 | 46 => 119 | 47 => 120 | 48 => 121 | 49 => 122 | 50 => 123 | 57 => 126 | n => n, fun | 22 => 23 | 24 => 45 | 25 => 113 | 3 => 3 | 39 => 147 | 0 => 0 | 53 => 162 | 55 => 149 | 4 => 4 | 46 => 156 | 45 => 155 | 50 => 129 | 5 => 5 | 9 => 9 | 66 => 166 | 70 => 170 | 76 => 172 | 77 => 173 | n => n, fun | n => n⟩
theorem Tryz.sortSp : Go.Proofs.SlLaysF0.n6 Tryz.prog Tryz.sortSp_ren := {
  mixed := by kernel_rfl
  f6 := ⟨Tryz.f89.name, by decide, Tryz.func89.trans (congrArg some (by kernel_rfl))⟩
  f14 := ⟨Tryz.f99.name, by decide, Tryz.func99.trans (congrArg some (by kernel_rfl))⟩
  f15 := Tryz.func100.trans (congrArg some (by kernel_rfl))
  f20 := ⟨Tryz.f105.name, by decide, Tryz.func105.trans (congrArg some (by kernel_rfl))⟩
  f21 := ⟨Tryz.f106.name, by decide, Tryz.func106.trans (congrArg some (by kernel_rfl))⟩
  f22 := ⟨Tryz.f107.name, by decide, Tryz.func107.trans (congrArg some (by kernel_rfl))⟩
  f23 := ⟨Tryz.f108.name, by decide, Tryz.func108.trans (congrArg some (by kernel_rfl))⟩
  f24 := ⟨Tryz.f109.name, by decide, Tryz.func109.trans (congrArg some (by kernel_rfl))⟩
  f25 := ⟨Tryz.f110.name, by decide, Tryz.func110.trans (congrArg some (by kernel_rfl))⟩
  f26 := ⟨Tryz.f111.name, by decide, Tryz.func111.trans (congrArg some (by kernel_rfl))⟩
  f27 := ⟨Tryz.f112.name, by decide, Tryz.func112.trans (congrArg some (by kernel_rfl))⟩
  f28 := Tryz.func113.trans (congrArg some (by kernel_rfl))
  f29 := Tryz.func114.trans (congrArg some (by kernel_rfl))
  f46 := ⟨Tryz.f119.name, by decide, Tryz.func119.trans (congrArg some (by kernel_rfl))⟩
  f47 := Tryz.func120.trans (congrArg some (by kernel_rfl))
  f48 := Tryz.func121.trans (congrArg some (by kernel_rfl))
  f49 := ⟨Tryz.f122.name, by decide, Tryz.func122.trans (congrArg some (by kernel_rfl))⟩
  f50 := ⟨Tryz.f123.name, by decide, Tryz.func123.trans (congrArg some (by kernel_rfl))⟩
  f57 := ⟨Tryz.f126.name, by decide, Tryz.func126.trans (congrArg some (by kernel_rfl))⟩
  t0 := Tryz.underlying0
  a0 := Tryz.isAgg0
  z0 := Tryz.sizeOf0
  v0 := Tryz.zeroValue0
  t3 := Tryz.underlying3
  a3 := Tryz.isAgg3
  z3 := Tryz.sizeOf3
  v3 := Tryz.zeroValue3
  t4 := Tryz.underlying4
  a4 := Tryz.isAgg4
  z4 := Tryz.sizeOf4
  v4 := Tryz.zeroValue4
  t5 := Tryz.underlying5
  a5 := Tryz.isAgg5
  z5 := Tryz.sizeOf5
  v5 := Tryz.zeroValue5
  t9 := Tryz.underlying9
  a9 := Tryz.isAgg9
  z9 := Tryz.sizeOf9
  v9 := Tryz.zeroValue9
  t22 := Tryz.underlying23
  a22 := Tryz.isAgg23
  z22 := Tryz.sizeOf23
  v22 := Tryz.zeroValue23
  t25 := Tryz.underlying113
  a25 := Tryz.isAgg113
  z25 := Tryz.sizeOf113
  v25 := Tryz.zeroValue113
  t39 := Tryz.underlying147
  a39 := Tryz.isAgg147
  z39 := Tryz.sizeOf147
  v39 := Tryz.zeroValue147
  t45 := Tryz.underlying155
  a45 := Tryz.isAgg155
  z45 := Tryz.sizeOf155
  v45 := Tryz.zeroValue155
  t46 := Tryz.underlying156
  a46 := Tryz.isAgg156
  z46 := Tryz.sizeOf156
  v46 := Tryz.zeroValue156
  t50 := Tryz.underlying129
  a50 := Tryz.isAgg129
  z50 := Tryz.sizeOf129
  v50 := Tryz.zeroValue129
  t53 := Tryz.underlying162
  a53 := Tryz.isAgg162
  z53 := Tryz.sizeOf162
  v53 := Tryz.zeroValue162
  t55 := Tryz.underlying149
  a55 := Tryz.isAgg149
  z55 := Tryz.sizeOf149
  v55 := Tryz.zeroValue149
  t66 := Tryz.underlying166
  a66 := Tryz.isAgg166
  z66 := Tryz.sizeOf166
  v66 := Tryz.zeroValue166
  t70 := Tryz.underlying170
  a70 := Tryz.isAgg170
  z70 := Tryz.sizeOf170
  v70 := Tryz.zeroValue170
  t76 := Tryz.underlying172
  a76 := Tryz.isAgg172
  z76 := Tryz.sizeOf172
  v76 := Tryz.zeroValue172
  t77 := Tryz.underlying173
  a77 := Tryz.isAgg173
  z77 := Tryz.sizeOf173
  v77 := Tryz.zeroValue173 }
end Go.Proofs
namespace Go.Proofs.YtejcmdoalhnpeaaGreatDoor
open Go.RowKit Go.Shelf Go.Lib Go.Sort

theorem isNaN_any (x : Int) (w : World) : Calls Tryz.prog 91 #[.int .i64 x] w fun e w' => e = .returned (.bool false) ∧ w' = w := by
  go_enter Tryz.func91, Tryz.ntmps91
  go_wp2
  go_ret
  exact ⟨by simp, rfl⟩
set_option maxHeartbeats 1000000 in
theorem cmpI_any (x y : Int) (w : World) : Calls Tryz.prog 67 #[.int .i64 x, .int .i64 y] w fun e w' => e = .returned (.int .i64 (Lib.compareInt x y)) ∧ w = w' := by
  go_enter Tryz.func67, Tryz.ntmps67
  go_wp2_with (go_at_call 91; refine (isNaN_any _ _).mono ?_; rintro e w' ⟨rfl, hw⟩; rw [hw])
  all_goals (go_ret; refine ⟨?_, rfl⟩; unfold Lib.compareInt; (repeat' split) <;> first | rfl | (exfalso; omega))
set_option maxHeartbeats 1000000 in
theorem cmpOrI_any (b o cap : Nat) (e1 e2 : Int) (w : World) (c1 : w.cell? ⟨b, o, none⟩ = some (.int .i64 e1)) (c2 : w.cell? ⟨b, o + 1, none⟩ = some (.int .i64 e2)) :
    Calls Tryz.prog 66 #[.slice (some ⟨b, o, none⟩) 2 cap] w fun e w' => e = .returned (.int .i64 (or2 e1 e2)) ∧ w = w' := by
  cases h1 : (e1 != 0)
  · have e1' : e1 = 0 := by simpa using h1
    subst e1'
    cases h2 : (e2 != 0)
    · have e2' : e2 = 0 := by simpa using h2
      subst e2'
      go_enter Tryz.func66, Tryz.ntmps66
      go_wp2
      go_loop [8] (fun i => i = .int .i64 0 ∨ i = .int .i64 1 ∨ i = .int .i64 2) (fun i => 2 - (intOf i).toNat)
      case atStart => exact .inl rfl
      rcases hrel with rfl | rfl | rfl
      · go_wp2
        go_round
        case rel => exact .inr (.inl rfl)
        case measure => simp [intOf]
      · go_wp2
        go_round
        case rel => exact .inr (.inr rfl)
        case measure => simp [intOf]
      · go_wp2
        go_ret
        exact ⟨rfl, rfl⟩
    · go_enter Tryz.func66, Tryz.ntmps66
      go_wp2
      go_loop [8] (fun i => i = .int .i64 0 ∨ i = .int .i64 1) (fun i => 2 - (intOf i).toNat)
      case atStart => exact .inl rfl
      rcases hrel with rfl | rfl
      · go_wp2
        go_round
        case rel => exact .inr rfl
        case measure => simp [intOf]
      · go_wp2
        go_ret
        exact ⟨rfl, rfl⟩
  · go_enter Tryz.func66, Tryz.ntmps66
    go_wp2
    refine wp_loop_once ?_
    go_wp2
    go_ret
    exact ⟨ret_int (by simp at h1; simp [or2, h1]), rfl⟩

/-- nothing but draws and new blocks -/
def GrW (w w' : World) : Prop := ∃ q os', w' = grow (w.drewN q) os'
theorem GrW.refl (w : World) : GrW w w := ⟨0, #[], by rw [grow_empty]; rfl⟩
theorem GrW.alloc {w w' : World} (h : GrW w w') (o : Obj) : GrW w (w'.alloc o) := by
  obtain ⟨q, os, rfl⟩ := h
  exact ⟨q, os ++ #[o], by rw [alloc_eq_grow, grow_grow]⟩
theorem GrW.drewN {w w' : World} (h : GrW w w') (n : Nat) : GrW w (w'.drewN n) := by
  obtain ⟨q, os, rfl⟩ := h
  exact ⟨q + n, os, by simp [grow, World.drewN, Nat.add_assoc]⟩
theorem GrW.drew {w w' : World} (h : GrW w w') : GrW w w'.drew := h.drewN 1

def cfS (x y : Sp) : Int := or2 (Lib.compareInt x.lo y.lo) (Lib.compareInt x.hi y.hi)
def encS (s : Sp) : List Value := [.int .i64 s.lo, .int .i64 s.hi]
theorem ltS (x y : Sp) : ltOf cfS x y = decide (x.lo < y.lo ∨ x.lo = y.lo ∧ x.hi < y.hi) := by
  unfold ltOf cfS or2 Lib.compareInt
  by_cases h1 : x.lo < y.lo <;> by_cases h2 : y.lo < x.lo <;> by_cases h3 : x.hi < y.hi <;> by_cases h4 : y.hi < x.hi <;> simp [h1, h2, h3, h4] <;> omega
theorem swoS : SWO (ltOf cfS) where
  irrefl x := by rw [ltS]; simp
  trans x y z h1 h2 := by rw [ltS] at *; simp at *; omega
  ntrans x y z h1 h2 := by rw [ltS] at *; simp at *; omega

set_option maxHeartbeats 2000000 in
theorem closS (x y : Sp) (W : World) : Calls Tryz.prog 65 #[.agg #[.int .i64 x.lo, .int .i64 x.hi], .agg #[.int .i64 y.lo, .int .i64 y.hi]] W fun e w' => e = .returned (.int .i64 (cfS x y)) ∧ GrW W w' := by
  obtain ⟨a, ha⟩ : ∃ a, x.lo = a := ⟨_, rfl⟩
  obtain ⟨b, hb⟩ : ∃ b, x.hi = b := ⟨_, rfl⟩
  obtain ⟨c, hc⟩ : ∃ c, y.lo = c := ⟨_, rfl⟩
  obtain ⟨d, hd⟩ : ∃ d, y.hi = d := ⟨_, rfl⟩
  have hcf : cfS x y = or2 (Lib.compareInt a c) (Lib.compareInt b d) := by unfold cfS; rw [ha, hb, hc, hd]
  rw [ha, hb, hc, hd, hcf]
  clear hcf ha hb hc hd
  go_enter Tryz.func65, Tryz.ntmps65
  go_wp2
  obtain ⟨W1, hW1⟩ : ∃ W1, (W.alloc (.cells #[.int .i64 a, .int .i64 b] 45)).alloc (.cells #[.int .i64 c, .int .i64 d] 45) = W1 := ⟨_, rfl⟩
  have hg1 : GrW W W1 := by rw [← hW1]; exact ((GrW.refl W).alloc _).alloc _
  have d0 : W1.cell? ⟨W.heap.size, 0, none⟩ = some (.int .i64 a) := by rw [← hW1]; exact Ext.cell (by repeat (first | exact Ext.refl _ | assumption | refine Ext.alloc ?_ _ | refine Ext.drew ?_ | refine Ext.drewN _ ?_ | refine Ext.trans ?_ (by assumption))) (cell_at_new W _ _ _ _ _ rfl rfl)
  have d1 : W1.cell? ⟨W.heap.size, 1, none⟩ = some (.int .i64 b) := by rw [← hW1]; exact Ext.cell (by repeat (first | exact Ext.refl _ | assumption | refine Ext.alloc ?_ _ | refine Ext.drew ?_ | refine Ext.drewN _ ?_ | refine Ext.trans ?_ (by assumption))) (cell_at_new W _ _ _ _ _ rfl rfl)
  have d2 : W1.cell? ⟨W.heap.size + 1, 0, none⟩ = some (.int .i64 c) := by rw [← hW1]; exact cell_at_new _ _ _ _ _ _ (by simp) rfl
  have d3 : W1.cell? ⟨W.heap.size + 1, 1, none⟩ = some (.int .i64 d) := by rw [← hW1]; exact cell_at_new _ _ _ _ _ _ (by simp) rfl
  rw [hW1]
  clear hW1
  generalize Lib.compareInt a c = u at *
  generalize Lib.compareInt b d = v at *
  go_region_held3 (fun W' => W'.cell? ⟨W.heap.size, 0, none⟩ = some (.int .i64 a) ∧ W'.cell? ⟨W.heap.size, 1, none⟩ = some (.int .i64 b) ∧ W'.cell? ⟨W.heap.size + 1, 0, none⟩ = some (.int .i64 c) ∧ W'.cell? ⟨W.heap.size + 1, 1, none⟩ = some (.int .i64 d))
    ((refine ⟨Ext.cell (w := W1) ?_ d0, Ext.cell (w := W1) ?_ d1, Ext.cell (w := W1) ?_ d2, Ext.cell (w := W1) ?_ d3⟩; all_goals exact (by repeat (first | exact Ext.refl _ | assumption | refine Ext.alloc ?_ _ | refine Ext.drew ?_ | refine Ext.drewN _ ?_ | refine Ext.trans ?_ (by assumption)))))
    ((first | (go_at_call 67; refine (cmpI_any _ _ _).mono ?_; rintro e w' ⟨rfl, rfl⟩) | (go_at_call 66; refine (cmpOrI_any _ _ _ _ _ _ (by exact cell_at_new _ _ _ _ _ _ rfl rfl) (by exact cell_at_new _ _ _ _ _ _ rfl rfl)).mono ?_; rintro e w' ⟨rfl, rfl⟩)))
  all_goals (go_wp2; go_ret; refine ⟨rfl, ?_⟩; repeat (first | exact hg1 | refine GrW.alloc ?_ _ | refine GrW.drewN ?_ _ | refine GrW.drew ?_))
end Go.Proofs.YtejcmdoalhnpeaaGreatDoor
namespace Go.Proofs.YtejcmdoalhnpeaaGreatDoor
open Go.RowKit Go.Shelf Go.Lib Go.Sort

set_option maxHeartbeats 1000000 in
theorem insSort_none (p : Option Addr) (cap : Nat) (fv : Value) (w : World) :
    Calls Tryz.prog 105 #[.slice p 0 cap, .int .i64 0, .int .i64 0, fv] w fun e w' => e = .returned (.tuple #[]) ∧ w' = w := by
  go_enter Tryz.func105, Tryz.ntmps105
  go_wp2
  refine wp_loop_rounds 1 ?_
  rw [rounds_succ]
  go_wp2
  go_end0
  exact ⟨rfl, rfl⟩
set_option maxHeartbeats 1000000 in
theorem pdq_none (p : Option Addr) (cap : Nat) (lim : Int) (fv : Value) (w : World) :
    Calls Tryz.prog 99 #[.slice p 0 cap, .int .i64 0, .int .i64 0, .int .i64 lim, fv] w fun e w' => e = .returned (.tuple #[]) ∧ w' = w := by
  go_enter Tryz.func99, Tryz.ntmps99
  go_wp2
  refine wp_loop_rounds 1 ?_
  rw [rounds_succ]
  go_wp2_with (go_at_call 105; refine (insSort_none _ _ _ _).mono ?_; rintro e w' ⟨rfl, rfl⟩)
  (try simp only [Exit.inBlock, Exit.then]); refine bodyPost_ret (results_none rfl _ _ _) rfl ?_
  exact ⟨rfl, rfl⟩
set_option maxHeartbeats 1000000 in
theorem sort_none (p : Option Addr) (cap : Nat) (fv : Value) (w : World) :
    Calls Tryz.prog 89 #[.slice p 0 cap, fv] w fun e w' => e = .returned (.tuple #[]) ∧ w' = w := by
  have hl : ∀ W, Calls Tryz.prog 100 #[.int .u64 0] W fun e w' => e = .returned (.int .i64 (Lib.bitLen 0 : Nat)) ∧ w' = W := fun W => Tryz.bits_Len 0 W (by omega) (by omega)
  go_enter Tryz.func89, Tryz.ntmps89
  go_wp2_with (first | (go_at_call 100; refine (hl _).mono ?_; rintro e w' ⟨rfl, rfl⟩) | (go_at_call 99; refine (pdq_none _ _ _ _ _).mono ?_; rintro e w' ⟨rfl, rfl⟩))
  go_end0
  exact ⟨rfl, rfl⟩

instance : Inhabited Sp := ⟨⟨0, 0⟩⟩
theorem grownBy_sort (w : World) (g n : Nat) (d : Array Sp) (os : Array Obj) : w.grownBy (sortWorldK encS 2 w g 0 n d os) (some g) := by
  refine ⟨rfl, rfl, rfl, ?_, ?_⟩
  · unfold sortWorldK putRowK
    rw [size_grow, size_putRow]
    exact Nat.le_add_right _ _
  · intro k hk hne
    have hne' : g ≠ k := fun h => hne (by rw [h])
    simp only [sortWorldK, putRowK, grow, putRow, mapBlock]
    rw [Array.getElem?_append_left (by simp; exact hk), Array.getElem?_modify]
    simp [hne']
theorem rowS_holds {base g cap : Nat} {l : List Sp} {w : World} (h : RowS base (.slice (some ⟨g, 0, none⟩) l.length cap) l w) (_h0 : 0 < l.length) : HoldsK encS 2 w g 0 l.toArray ∧ g < w.heap.size := by
  have hat := RowS.at_ h
  obtain ⟨_, hf⟩ := h
  rcases hf with ⟨hv, _⟩ | ⟨g', cap', cur, hv, hb, hcur, h4, h5, h6, h7⟩
  · cases hv
  · cases hv
    have hg : g < w.heap.size := by
      by_cases hc : g < w.heap.size
      · exact hc
      · rw [Array.getElem?_eq_none (by omega)] at hcur; cases hcur
    refine ⟨fun j hj => ?_, hg⟩
    rw [size_flatK] at hj
    simp only [List.size_toArray] at hj
    rw [get_flatK _ _ _ _ (by simpa using hj)]
    obtain ⟨ao, cp, e1, hc⟩ := hat
    cases e1
    obtain ⟨b, o, e2, c1, c2⟩ := hc (j / 2) (by omega)
    cases e2
    have hge : l.toArray[j / 2]! = l[j / 2]'(by omega) := by
      rw [getElem!_pos _ _ (by simp; omega)]; simp
    rw [hge]
    refine ⟨?_, by simp [World.frozen?, hcur]⟩
    rcases Nat.mod_two_eq_zero_or_one j with h2 | h2
    · have e3 : 0 + j / 2 * 2 = 0 + j := by omega
      rw [e3] at c1
      rw [c1, h2]; rfl
    · have e3 : 0 + j / 2 * 2 + 1 = 0 + j := by omega
      rw [e3] at c2
      rw [c2, h2]; rfl

set_option maxHeartbeats 1000000 in
theorem sort_any (base : Nat) (v : Value) (l : List Sp) (w : World) (hrow : RowS base v l w) (hn : l.length ≤ 2000000) :
    Calls Tryz.prog 89 #[v, .func (.func 65) #[] #[]] w fun e w' => e = .returned (.tuple #[]) ∧
      ∃ r, l.Perm r ∧ r.Pairwise (fun a b => a.lo ≤ b.lo) ∧ SpansAt w' v r ∧ w.grownBy w' v.ownBlock := by
  by_cases h0 : l.length = 0
  · have hnil := List.eq_nil_of_length_eq_zero h0
    subst hnil
    obtain ⟨A, c, rfl⟩ := hrow.form
    refine (sort_none _ _ _ _).mono ?_
    rintro e w' ⟨rfl, rfl⟩
    exact ⟨rfl, [], .refl _, .nil, hrow.at_, World.grownBy.refl _ _⟩
  · obtain ⟨g, cap, rfl⟩ : ∃ g cap, v = .slice (some ⟨g, 0, none⟩) l.length cap := by
      rcases hrow.2 with ⟨_, h⟩ | ⟨g, cap, cur, rfl, _⟩
      · exact absurd h h0
      · exact ⟨g, cap, rfl⟩
    obtain ⟨hH, hg⟩ := rowS_holds hrow (by omega)
    have eg : ∀ args w, (callFunc 65 args).run Tryz.prog w = .ok (.enter 65 args) w := enters_of Tryz.func65 (by kernel_rfl) rfl
    have hcmp : CmpLays Tryz.prog 65 #[] encS 2 cfS g 0 l.toArray.size w := fun m os dk _ x y => closS x y _
    have hcon := AnyQ.slices_SortFunc Tryz.sortSp 2 Tryz.isAgg45 Tryz.sizeOf45 encS (fun _ => rfl) (fun x v hv => by simp [encS] at hv; rcases hv with rfl | rfl <;> rfl) cfS swoS 65 #[] g 0 cap l.toArray w eg hcmp hH hg (by simp; omega)
    change Calls Tryz.prog 89 _ _ _ at hcon
    refine Calls.mono hcon ?_
    rintro e w' ⟨rfl, d, n, os, ⟨hsz, _, hp⟩, hs, rfl⟩
    simp only [List.size_toArray] at hsz hp hs
    have hHd : HoldsK encS 2 (sortWorldK encS 2 w g 0 n d os) g 0 d := by
      unfold sortWorldK
      exact holdsK_grow encS 2 _ os g 0 d (by unfold putRowK; rw [size_putRow]; exact hg) (holdsK_putRowK encS 2 _ g 0 l.toArray d (holdsK_ahead encS 2 _ _ _ _ _ hH) (by simpa using hsz))
    have hlen : d.toList.length = l.length := by simpa using hsz
    refine ⟨rfl, d.toList, ?_, ?_, ?_, grownBy_sort _ _ _ _ _⟩
    · have e1 : d.extract 0 l.length = d := by rw [← hsz]; simp
      rw [e1] at hp
      have e2 : l.toArray.extract 0 l.length = l.toArray := by simp
      rw [e2] at hp
      exact hp.symm
    · rw [List.pairwise_iff_getElem]
      intro i j hi hj hij
      have h := hs i j (by omega) hij (by rw [← hlen]; exact hj)
      rw [ltS, getElem!_pos d i (by simpa using hi), getElem!_pos d j (by simpa using hj)] at h
      simp only [decide_eq_false_iff_not, not_or] at h
      simp only [Array.getElem_toList]
      omega
    · refine ⟨some ⟨g, 0, none⟩, cap, by rw [hlen], fun i hi => ⟨g, 0, rfl, ?_, ?_⟩⟩
      · have h := (hHd.cell (i := i) (c := 0) (by simpa using hi) (by decide)).1
        rw [getElem!_pos d i (by simpa using hi)] at h
        simpa [encS] using h
      · have h := (hHd.cell (i := i) (c := 1) (by simpa using hi) (by decide)).1
        rw [getElem!_pos d i (by simpa using hi)] at h
        simpa [encS] using h
end Go.Proofs.YtejcmdoalhnpeaaGreatDoor
namespace Go.Proofs.YtejcmdoalhnpeaaGreatDoor
open Go.RowKit Go.Shelf

theorem ext_own {a w w' : World} {base : Nat} {e : TypeId} {size : Nat} {v : Value} {n : Nat} {xs : List Value} (h : Ext a w) (hr : w.ownsRow base e size v n xs) (hb : a.heap.size ≤ base) (hg : w.grownBy w' v.ownBlock) : Ext a w' := by
  refine Below.grown h hg h.size (fun k e => ?_)
  by_cases hc : k < base
  · exact absurd e.symm (own_ge hr hc)
  · omega
theorem zeros_row {w : World} {n : Nat} {e : TypeId} {z : Value} {size : Nat} (base : Nat) (hb : base ≤ w.heap.size) (hzs : z.cells.size = size) (hn : n ≤ maxLen) :
    (w.drew.alloc (.cells (Builtin.zeroCells z.cells n ++ Builtin.zeroCells z.cells (grownCap w n 0 e - n)) e)).ownsRow base e size (.slice (some ⟨w.heap.size, 0, none⟩) 0 (grownCap w n 0 e)) 0 [] := by
  refine ⟨by simp, .inr ⟨w.heap.size, _, Builtin.zeroCells z.cells n ++ Builtin.zeroCells z.cells (grownCap w n 0 e - n), rfl, hb, (by show (w.heap.push _)[w.heap.size]? = _; exact Array.getElem?_push_size), Nat.zero_le _, grownCap_le_maxLen w n 0 e hn, ?_, by simp⟩⟩
  have h1 := grownCap_ge w n 0 e
  rw [Array.size_append, size_zeroCells, size_zeroCells, hzs, ← Nat.add_mul]
  congr 1
  omega
theorem undI : (Tryz.prog).underlying 3 = some (.int .i64) := by kernel_rfl
theorem cellsT_one (l : List Tn) : ∀ u ∈ cellsT l, u.oneCell' = true := by
  intro u hu
  simp only [cellsT, List.mem_flatMap] at hu
  obtain ⟨s, _, hs⟩ := hu
  simp at hs
  rcases hs with rfl | rfl | rfl <;> rfl
theorem append_turns {ops : Array Oper} {rest : List Oper} {o : Oper} {a : Act} {Q : Exit → Act → World → Prop} {w : World} (hgd : o.guard = none) (s x : Operand)
    (ho : o.op = .call { callee := .builtin .append, args := #[s, x], argTypes := #[22, 22] })
    (base : Nat) (v u : Value) (l r : List Tn) (hs : a.eval s = v) (hrow : RowT base v l w) (hx : a.eval x = u) (hu : TurnsAt w u r) (hb : base ≤ w.heap.size) (hl : l.length + r.length ≤ 2000000)
    (h : ∀ v' w', RowT base v' (l ++ r) w' → w.grownBy w' v.ownBlock → wpList Tryz.prog ops Q rest (a.put o.dst v') w') : wpList Tryz.prog ops Q (o :: rest) a w := by
  obtain ⟨i0, hi0, hz0, hz1, hz2⟩ := info_parts infoTn
  obtain ⟨ao, c, rfl, hc⟩ := hu
  refine append_own0 hgd s x 22 ho base 42 i0 (.agg #[.int .i64 0, .int .i64 0, .int .i64 0]) 3 24 undTn hi0 hz0 hz1 hz2 rfl (by decide) v l.length (cellsT l) hs hrow ao r.length c (cellsT r) hx (cellsT_len r) ?_ (cellsT_one r) (by unfold maxLen; omega) (by omega) hb ?_
  · intro hm
    obtain ⟨b, o', rfl, _, _⟩ := hc 0 (by omega)
    refine ⟨⟨b, o', none⟩, rfl, fun j y hj => ?_⟩
    have hjl : j < r.length * 3 := by
      have := (List.getElem?_eq_some_iff.1 hj).1
      rwa [cellsT_len] at this
    obtain ⟨b2, o2, e, k1, k2, k3⟩ := hc (j / 3) (by omega)
    simp only [Option.some.injEq, Addr.mk.injEq, and_true] at e
    obtain ⟨rfl, rfl⟩ := e
    obtain ⟨g1, g2, g3⟩ := cellsT_get r (j / 3) (by omega)
    have ha : Addr.add ⟨b, o', none⟩ j = ⟨b, o' + j, none⟩ := by simp only [Addr.add]; split <;> simp_all
    rw [ha]
    have h3 : j % 3 = 0 ∨ j % 3 = 1 ∨ j % 3 = 2 := by omega
    rcases h3 with h2 | h2 | h2
    · have e2 : j / 3 * 3 = j := by omega
      rw [e2] at k1 g1
      rw [g1] at hj
      rw [k1, Option.some.inj hj]
    · have e2 : j / 3 * 3 + 1 = j := by omega
      rw [Nat.add_assoc, e2] at k2
      rw [e2] at g2
      rw [g2] at hj
      rw [k2, Option.some.inj hj]
    · have e2 : j / 3 * 3 + 2 = j := by omega
      rw [Nat.add_assoc, e2] at k3
      rw [e2] at g3
      rw [g3] at hj
      rw [k3, Option.some.inj hj]
  · intro v' w' h1 h2
    refine h v' w' ?_ h2
    unfold RowT
    rw [List.length_append, cellsT_append]
    exact h1

set_option maxRecDepth 100000 in
set_option maxHeartbeats 1000000 in
theorem growS_any (n : Nat) (w : World) (hn : n ≤ 200000) : Calls Tryz.prog 68 #[.slice none 0 0, .int .i64 n] w fun e w' => ∃ v, e = .returned v ∧ RowS w.heap.size v [] w' ∧ Ext w w' := by
  by_cases h0 : n = 0
  · subst h0
    go_enter Tryz.func68, Tryz.ntmps68
    go_wp2
    go_ret
    exact ⟨_, rfl, World.ownsRow_nil _ _ _ _, Ext.refl _⟩
  · obtain ⟨i0, hi0, hz0, hz1, hz2⟩ := info_parts infoSp
    have hrun := Go.Lib.run_append_nil_zeros w 23 3 23 45 i0 _ .i64 .i64 undSp undI hi0 hz0 n (by omega) (by omega) (by omega) (by rw [hz2]; omega)
    have hrow := zeros_row (w := w) (n := n) (e := 45) (z := .agg #[.int .i64 0, .int .i64 0]) (size := 2) w.heap.size (Nat.le_refl _) rfl (by unfold maxLen; omega)
    obtain ⟨cp, hcp⟩ : ∃ cp, grownCap w n 0 45 = cp := ⟨_, rfl⟩
    obtain ⟨O, hO⟩ : ∃ O, Obj.cells (Builtin.zeroCells (.agg #[.int .i64 0, .int .i64 0] : Value).cells n ++ Builtin.zeroCells (.agg #[.int .i64 0, .int .i64 0] : Value).cells (grownCap w n 0 45 - n)) 45 = O := ⟨_, rfl⟩
    have hge := grownCap_ge w n 0 45
    have hle := grownCap_le_maxLen w n 0 45 (by unfold maxLen; omega)
    unfold maxLen at hle
    rw [hO, hcp] at hrun hrow
    rw [hcp] at hge hle
    have hx : Ext w (w.drew.alloc O) := (by repeat (first | exact Ext.refl _ | assumption | refine Ext.alloc ?_ _ | refine Ext.drew ?_ | refine Ext.drewN _ ?_ | refine Ext.trans ?_ (by assumption)))
    obtain ⟨N, hN⟩ : ∃ N : Int, (n : Int) = N := ⟨_, rfl⟩
    rw [hN] at hrun ⊢
    have hN0 : 0 < N := by omega
    have hN1 : N ≤ 200000 := by omega
    have HRUN := Lib.hid hrun
    have HROW := Lib.hid hrow
    clear hrun hO hcp hN hrow hge
    go_enter Tryz.func68, Tryz.ntmps68
    go_wp2_with (at_builtin; refine Go.Lib.wpList_append_run _ rfl _ _ _ _ rfl _ _ rfl rfl _ _ HRUN.out ?_)
    go_ret
    exact ⟨_, rfl, HROW.out, hx⟩

set_option maxHeartbeats 2000000 in
theorem catS_any (b o cap : Nat) (u v : Value) (l r : List Sp) (w : World) (c1 : w.cell? ⟨b, o, none⟩ = some u) (c2 : w.cell? ⟨b, o + 1, none⟩ = some v) (hl : SpansAt w u l) (hr : SpansAt w v r) (hn : l.length + r.length ≤ 200000) :
    Calls Tryz.prog 30 #[.slice (some ⟨b, o, none⟩) 2 cap] w fun e w' => ∃ x, e = .returned x ∧ RowS w.heap.size x (l ++ r) w' ∧ Ext w w' := by
  obtain ⟨A1, p1, e1⟩ := hl.len
  obtain ⟨A2, p2, e2⟩ := hr.len
  have HL := Lib.hid hl
  have HR := Lib.hid hr
  clear hl hr
  obtain ⟨n, hnn⟩ : ∃ n, l.length = n := ⟨_, rfl⟩
  obtain ⟨m, hmm⟩ : ∃ m, r.length = m := ⟨_, rfl⟩
  have HN := Lib.hid hnn
  have HM := Lib.hid hmm
  rw [hnn] at e1 hn
  rw [hmm] at e2 hn
  subst e1 e2
  clear hnn hmm
  go_enter Tryz.func30, Tryz.ntmps30
  go_wp2
  refine wp_loop_rounds 3 ?_
  rw [rounds_succ]
  go_wp2
  rw [rounds_succ]
  go_wp2
  rw [rounds_succ]
  go_wp2_with fail
  have hg : ∀ N : Int, N = ((n + m : Nat) : Int) → Calls Tryz.prog 68 #[.slice none 0 0, .int .i64 N] w fun e w' => ∃ v, e = .returned v ∧ RowS w.heap.size v [] w' ∧ Ext w w' := fun N h => by rw [h]; exact growS_any _ w (by omega)
  refine (hg _ (by omega)).mono ?_
  rintro e w1 ⟨v1, rfl, hr1, hx1⟩
  have d1 := hx1.cell c1
  have d2 := hx1.cell c2
  go_wp2_with fail
  refine wp_loop_rounds 3 ?_
  rw [rounds_succ]
  go_wp2_with ((at_builtin; refine append_spans rfl _ _ rfl w.heap.size _ _ _ l rfl hr1 rfl (HL.out.ext hx1) hx1.size (by have := HN.out; simp; omega) ?_; intro v2 w2 hr2 hg2))
  have hx2 := ext_own hx1 hr1 (Nat.le_refl _) hg2
  have d3 := hx2.cell c1
  have d4 := hx2.cell c2
  rw [rounds_succ]
  go_wp2_with ((at_builtin; refine append_spans rfl _ _ rfl w.heap.size _ _ _ r rfl hr2 rfl (HR.out.ext hx2) hx2.size (by have := HN.out; have := HM.out; simp; omega) ?_; intro v3 w3 hr3 hg3))
  have hx3 := ext_own hx2 hr2 (Nat.le_refl _) hg3
  rw [rounds_succ]
  go_wp2_with fail
  go_ret
  exact ⟨_, rfl, by simpa using hr3, hx3⟩

set_option maxRecDepth 100000 in
set_option maxHeartbeats 1000000 in
theorem growT_any (n : Nat) (w : World) (hn : n ≤ 200000) : Calls Tryz.prog 62 #[.slice none 0 0, .int .i64 n] w fun e w' => ∃ v, e = .returned v ∧ RowT w.heap.size v [] w' ∧ Ext w w' := by
  by_cases h0 : n = 0
  · subst h0
    go_enter Tryz.func62, Tryz.ntmps62
    go_wp2
    go_ret
    exact ⟨_, rfl, World.ownsRow_nil _ _ _ _, Ext.refl _⟩
  · obtain ⟨i0, hi0, hz0, hz1, hz2⟩ := info_parts infoTn
    have hrun := Go.Lib.run_append_nil_zeros w 22 3 22 42 i0 _ .i64 .i64 undTn undI hi0 hz0 n (by omega) (by omega) (by omega) (by rw [hz2]; omega)
    have hrow := zeros_row (w := w) (n := n) (e := 42) (z := .agg #[.int .i64 0, .int .i64 0, .int .i64 0]) (size := 3) w.heap.size (Nat.le_refl _) rfl (by unfold maxLen; omega)
    obtain ⟨cp, hcp⟩ : ∃ cp, grownCap w n 0 42 = cp := ⟨_, rfl⟩
    obtain ⟨O, hO⟩ : ∃ O, Obj.cells (Builtin.zeroCells (.agg #[.int .i64 0, .int .i64 0, .int .i64 0] : Value).cells n ++ Builtin.zeroCells (.agg #[.int .i64 0, .int .i64 0, .int .i64 0] : Value).cells (grownCap w n 0 42 - n)) 42 = O := ⟨_, rfl⟩
    have hge := grownCap_ge w n 0 42
    have hle := grownCap_le_maxLen w n 0 42 (by unfold maxLen; omega)
    unfold maxLen at hle
    rw [hO, hcp] at hrun hrow
    rw [hcp] at hge hle
    have hx : Ext w (w.drew.alloc O) := (by repeat (first | exact Ext.refl _ | assumption | refine Ext.alloc ?_ _ | refine Ext.drew ?_ | refine Ext.drewN _ ?_ | refine Ext.trans ?_ (by assumption)))
    obtain ⟨N, hN⟩ : ∃ N : Int, (n : Int) = N := ⟨_, rfl⟩
    rw [hN] at hrun ⊢
    have hN0 : 0 < N := by omega
    have hN1 : N ≤ 200000 := by omega
    have HRUN := Lib.hid hrun
    have HROW := Lib.hid hrow
    clear hrun hO hcp hN hrow hge
    go_enter Tryz.func62, Tryz.ntmps62
    go_wp2_with (at_builtin; refine Go.Lib.wpList_append_run _ rfl _ _ _ _ rfl _ _ rfl rfl _ _ HRUN.out ?_)
    go_ret
    exact ⟨_, rfl, HROW.out, hx⟩

set_option maxHeartbeats 2000000 in
theorem catT_any (b o cap : Nat) (u v : Value) (l r : List Tn) (w : World) (c1 : w.cell? ⟨b, o, none⟩ = some u) (c2 : w.cell? ⟨b, o + 1, none⟩ = some v) (hl : TurnsAt w u l) (hr : TurnsAt w v r) (hn : l.length + r.length ≤ 200000) :
    Calls Tryz.prog 28 #[.slice (some ⟨b, o, none⟩) 2 cap] w fun e w' => ∃ x, e = .returned x ∧ RowT w.heap.size x (l ++ r) w' ∧ Ext w w' := by
  obtain ⟨A1, p1, e1⟩ := hl.len
  obtain ⟨A2, p2, e2⟩ := hr.len
  have HL := Lib.hid hl
  have HR := Lib.hid hr
  clear hl hr
  obtain ⟨n, hnn⟩ : ∃ n, l.length = n := ⟨_, rfl⟩
  obtain ⟨m, hmm⟩ : ∃ m, r.length = m := ⟨_, rfl⟩
  have HN := Lib.hid hnn
  have HM := Lib.hid hmm
  rw [hnn] at e1 hn
  rw [hmm] at e2 hn
  subst e1 e2
  clear hnn hmm
  go_enter Tryz.func28, Tryz.ntmps28
  go_wp2
  refine wp_loop_rounds 3 ?_
  rw [rounds_succ]
  go_wp2
  rw [rounds_succ]
  go_wp2
  rw [rounds_succ]
  go_wp2_with fail
  have hg : ∀ N : Int, N = ((n + m : Nat) : Int) → Calls Tryz.prog 62 #[.slice none 0 0, .int .i64 N] w fun e w' => ∃ v, e = .returned v ∧ RowT w.heap.size v [] w' ∧ Ext w w' := fun N h => by rw [h]; exact growT_any _ w (by omega)
  refine (hg _ (by omega)).mono ?_
  rintro e w1 ⟨v1, rfl, hr1, hx1⟩
  have d1 := hx1.cell c1
  have d2 := hx1.cell c2
  go_wp2_with fail
  refine wp_loop_rounds 3 ?_
  rw [rounds_succ]
  go_wp2_with ((at_builtin; refine append_turns rfl _ _ rfl w.heap.size _ _ _ l rfl hr1 rfl (HL.out.ext hx1) hx1.size (by have := HN.out; simp; omega) ?_; intro v2 w2 hr2 hg2))
  have hx2 := ext_own hx1 hr1 (Nat.le_refl _) hg2
  have d3 := hx2.cell c1
  have d4 := hx2.cell c2
  rw [rounds_succ]
  go_wp2_with ((at_builtin; refine append_turns rfl _ _ rfl w.heap.size _ _ _ r rfl hr2 rfl (HR.out.ext hx2) hx2.size (by have := HN.out; have := HM.out; simp; omega) ?_; intro v3 w3 hr3 hg3))
  have hx3 := ext_own hx2 hr2 (Nat.le_refl _) hg3
  rw [rounds_succ]
  go_wp2_with fail
  go_ret
  exact ⟨_, rfl, by simpa using hr3, hx3⟩
end Go.Proofs.YtejcmdoalhnpeaaGreatDoor
namespace Go.Proofs.YtejcmdoalhnpeaaGreatDoor
open Go.RowKit Go.Shelf

section
attribute [local go_sem] Oper.semAt_some
def enc1 (x : Sp) : Array Value := #[.agg #[.int .i64 x.lo, .int .i64 x.hi]]

set_option maxRecDepth 100000 in
set_option maxHeartbeats 2000000 in
theorem vals1_in (l n Bv : Nat) (hn : 1 ≤ n) (L : List Sp) (sv : Value) (w0 w1 : World) (hw1 : Ext w0 w1) (ts : TypeId) (hB : Cls Bv ts #[sv] w1) (hS : SpansAt w0 sv L) (hL : L.length ≤ 200000)
    (J Jx : List Sp → World → Prop)
    (hY : ∀ pre x W, J pre W → pre.length < L.length → YieldAt Fence.wide (n - 1) Tryz.prog l (enc1 x) W fun e W' =>
      (e = .returned (.bool true) ∧ J (pre ++ [x]) W' ∧ KpB w0.heap.size [] W W') ∨ (e = .returned (.bool false) ∧ Jx (pre ++ [x]) W'))
    (W : World) (hW : Ext w1 W) (hJ : AbidesFrom W.heap.size J) (hJ0 : J [] W) :
    CallsIn Fence.wide n Tryz.prog 90 #[.func (.yield l) #[] #[], .pointer (some ⟨Bv, 0, none⟩)] W fun e W' => (∃ v, e = .returned v) ∧
      ((∃ ys, ys = L ∧ J ys W') ∨ (∃ pre, pre <+: L ∧ Jx pre W')) := by
  obtain ⟨A, c, rfl⟩ := hS.len
  have hB' := hB.ext hW
  have g0 : W.cell? ⟨Bv, 0, none⟩ = some (.slice A L.length c) := hB'.cell 0
  have hW0 : Ext w0 W := hw1.trans hW
  refine callsIn_of_wp Tryz.func90 rfl trivial ?_ rfl
  simp only [Tryz.ntmps90, List.size_toArray, List.length_cons, List.length_nil, Nat.reduceAdd, Nat.reduceSub, Array.replicate_succ, Array.replicate_zero, List.push_toArray, List.append_toArray, List.nil_append, List.cons_append]
  gi_wp2_with fail
  gi_loopw [7] (fun i wr => ∃ k : Nat, k ≤ L.length ∧ i = .int .i64 k ∧ Hid (J (L.take k) wr) ∧ Ext w0 wr ∧ W.heap.size ≤ wr.heap.size) (fun i _ => L.length - (intOf i).toNat)
  case atStart => exact ⟨0, Nat.zero_le _, rfl, Lib.hid hJ0, hW0, Nat.le_refl _⟩
  case round =>
    obtain ⟨k, hk, rfl, HJ, hx, hsz⟩ := hrel
    by_cases hlt : k < L.length
    · obtain ⟨b1, o1, rfl, c0, c1⟩ := (hS.ext hx).get k hlt
      have hJs' := hJ _ _ (wr.alloc (.cells #[.int .i64 L[k].lo, .int .i64 L[k].hi] 45)) none HJ.out (grown_none (by repeat (first | exact Ext.refl _ | assumption | refine Ext.alloc ?_ _ | refine Ext.drew ?_ | refine Ext.drewN _ ?_ | refine Ext.trans ?_ (by assumption)))) (by intro r e; cases e)
      obtain ⟨fn, tmps, assign, body, hy, hR⟩ := hY _ L[k] _ hJs' (by rw [List.length_take]; omega)
      simp only [enc1] at hy
      have hkt := take_succ_get L k hlt
      rw [← hkt] at hR
      obtain ⟨lo, hlo⟩ : ∃ lo, L[k].lo = lo := ⟨_, rfl⟩
      obtain ⟨hi, hhi⟩ : ∃ hi, L[k].hi = hi := ⟨_, rfl⟩
      rw [hlo] at c0
      rw [hhi] at c1
      rw [hlo, hhi] at hy hR
      clear hlo hhi hkt hJs'
      gi_wp2_with fail
      refine hR.mono ?_
      rintro e W3 (⟨rfl, hJ3, hk3⟩ | ⟨rfl, hJx3⟩)
      · have hx4 : Ext w0 W3 := Ext.trans' (Ext.alloc hx _) hk3.1
        have hz4 : W.heap.size ≤ W3.heap.size := by have := hk3.1.size; simp at this; omega
        have HJ3 := Lib.hid hJ3
        clear hk3 hJ3
        gi_wp2_with fail
        go_roundw
        case rel => exact ⟨k + 1, by omega, by go_num, HJ3, hx4, hz4⟩
        case measure => simp [intOf]; omega
      · gi_wp2_with fail
        refine bodyPost_ret (results_none rfl _ _ _) rfl ?_
        exact ⟨⟨_, rfl⟩, .inr ⟨_, List.take_prefix _ _, hJx3⟩⟩
    · obtain rfl : k = L.length := by omega
      have hJd := HJ.out
      rw [List.take_length] at hJd
      gi_wp2_with fail
      go_end0
      exact ⟨⟨_, rfl⟩, .inl ⟨_, rfl, hJd⟩⟩
theorem vals_stops (n Bv : Nat) (hn : 1 ≤ n) (L : List Sp) (sv : Value) (w0 w1 : World) (hw1 : Ext w0 w1) (ts : TypeId) (hB : Cls Bv ts #[sv] w1) (hS : SpansAt w0 sv L) (hL : L.length ≤ 200000) :
    SeqStopsK Fence.wide n Tryz.prog 90 #[.pointer (some ⟨Bv, 0, none⟩)] enc1 (KpB w0.heap.size []) (fun ys => ys = L) (fun ys => ys <+: L) L.length w1 :=
  fun l J Jx W hW hJ _ hY hJ0 => vals1_in l n Bv hn L sv w0 w1 hw1 ts hB hS hL J Jx hY W hW hJ hJ0

/-- the state between two rounds of slices.AppendSeq -/
def SeqI (n₀ Bo : Nat) (l : List Sp) (W : World) : Prop := ∃ v, Boxed W Bo 23 v ∧ W.ownsRow n₀ 45 2 v l.length (cellsS l) ∧ True
theorem seqI_own (n₀ Bo : Nat) : Own (fun s W => SeqI n₀ Bo s W) := holdsRow_own n₀ Bo 23 45 2 (fun s : List Sp => s.length) (fun s => cellsS s) (fun _ _ => True)

set_option maxRecDepth 100000 in
set_option maxHeartbeats 2000000 in
theorem appSeq_any (Bv : Nat) (L : List Sp) (sv : Value) (ts : TypeId) (w : World) (hB : Cls Bv ts #[sv] w) (hS : SpansAt w sv L) (hL : L.length ≤ 200000) :
    Calls Tryz.prog 98 #[.slice none 0 0, .func (.func 90) #[] #[.pointer (some ⟨Bv, 0, none⟩)]] w fun e w' => ∃ v, e = .returned v ∧ RowS w.heap.size v L w' ∧ Ext w w' := by
  obtain ⟨i0, hi0, hz0, hz1, hz2⟩ := info_parts infoSp
  refine (callsIn_wide (n := 5)).1 ?_
  refine callsIn_of_wp_marks Tryz.func98 rfl trivial ?_ rfl; simp only [Tryz.ntmps98, List.size_toArray, List.length_cons, List.length_nil, Nat.reduceAdd, Nat.reduceSub, Array.replicate_succ, Array.replicate_zero, List.push_toArray, List.append_toArray, List.nil_append, List.cons_append]
  gi_wp2_with fail
  obtain ⟨w1, hw1⟩ : ∃ w1, w.alloc (.cells #[.slice none 0 0] 23) = w1 := ⟨_, rfl⟩
  have hbx : Boxed w1 w.heap.size 23 (.slice none 0 0) := by rw [← hw1]; exact Boxed.new _ _ _
  have hz1' : w1.heap.size = w.heap.size + 1 := by rw [← hw1]; simp
  have hx1 : Ext w w1 := by rw [← hw1]; exact (by repeat (first | exact Ext.refl _ | assumption | refine Ext.alloc ?_ _ | refine Ext.drew ?_ | refine Ext.drewN _ ?_ | refine Ext.trans ?_ (by assumption)))
  rw [hw1]
  clear hw1
  have hB1 := hB.ext hx1
  have HZ := Lib.hid hz1'
  have hI0 : SeqI w1.heap.size w.heap.size [] w1 := ⟨_, hbx, World.ownsRow_nil _ _ _ _, trivial⟩
  clear hz1'
  refine range_box (gf := 90) rfl (enters_of Tryz.func90 (by kernel_rfl) rfl) (n₀ := w.heap.size) (bs := []) hx1.size (by simp)
    (vals_stops 4 Bv (by omega) L sv w w1 hx1 ts hB1 hS hL) (fun _ => rfl) 45 (fun x => #[.int .i64 x.lo, .int .i64 x.hi])
    (fun pre W => (SeqI w1.heap.size w.heap.size pre W ∧ Below w.heap.size w W) ∧ w1.heap.size ≤ W.heap.size)
    (fun _ _ _ => False)
    (OwnFrom.and (OwnFrom.and ((seqI_own _ _).from _) (ownFrom_below (Nat.le_refl _) hx1.size)) (ownFrom_size _ _))
    (fun _ => ownFrom_pure _ (fun _ => False))
    ⟨⟨hI0, hx1⟩, Nat.le_refl _⟩
    (fun pre W h => ⟨h.2, fun o => ⟨⟨by obtain ⟨⟨⟨v, h1, h2, _⟩, _⟩, _⟩ := h; exact ⟨v, h1.alloc _, h2.alloc _, trivial⟩, Below.alloc h.1.2 h.1.2.size _⟩, by have := h.2; simp; omega⟩⟩) ?round ?done ?stop
  case round =>
    apply Exists.intro
    constructor
    · intro l x W K B HB hK
      dsimp only [enc1]
      gi_wp2
      rw [HB.out]
      exact hK
    · rintro l pre x B W ⟨⟨⟨v, hv, hrow, _⟩, hBl⟩, hsz⟩ hlen hBB hX
      obtain ⟨A, c, rfl⟩ := RowS.form hrow
      have cv := hv.cell
      have fv := hv.frozen
      have c1 : W.cell? ⟨B, 0, none⟩ = some (.int .i64 x.lo) := hX.cell 0
      have c2 : W.cell? ⟨B, 1, none⟩ = some (.int .i64 x.hi) := hX.cell 1
      have hs1 := hBl.size
      have hX' := hX.lt
      gi_wp2_with ((gi_at_builtin; go_must (refine wpListIn_append_own _ rfl _ _ 23 rfl w1.heap.size 45 i0 (.agg #[.int .i64 0, .int .i64 0]) 2 16 undSp hi0 hz0 hz1 hz2 rfl (by decide) _ _ _ rfl (hrow.alloc _) ⟨W.heap.size, 0, none⟩ 1 1 [.int .i64 x.lo, .int .i64 x.hi] rfl rfl (cell_two_new _ _ _ _) (by simp [Value.oneCell']) (by unfold maxLen; omega) (by omega) (by simp; omega) ?_; intro v' w3 hown' hgrow _; obtain ⟨g', cap', rfl⟩ := ownsRow_succ hown'; obtain ⟨hv1, hv2, hr2, hk2, hb2, hb3⟩ := appended2 hv tyNe hrow hsz hown' hgrow; have hcv := hv1.cell; have hfv := hv1.frozen)))
      have hz := HZ.out
      have hb4 := hb3 w.heap.size (by omega) (by omega)
      refine ⟨hk2.from _, ⟨hb4, fun b hb => by simp at hb⟩, ⟨⟨⟨_, hv2, ?_, trivial⟩, hBl.trans hb4⟩, ?_⟩⟩
      · have := hr2
        rw [List.length_append, List.length_singleton, cellsS_append]
        exact this
      · exact Nat.le_trans hsz hk2.size
  case done =>
    rintro D ys W hD rfl ⟨⟨⟨v, hv, hrow, _⟩, hBl⟩, hsz⟩ hK
    have cv := hv.cell
    have hs1 := hBl.size
    obtain ⟨A, c, rfl⟩ := RowS.form hrow
    gi_wp2
    have hz := HZ.out
    have hr3 := ownsRow_putObj hrow (.deferred none) hK rfl
    refine ⟨by simp, .inl ⟨_, _, rfl, run_takeDeferred hK, ?_⟩⟩
    refine ⟨.slice A ys.length c, ?_, ?_⟩
    · simp [results, Tryz.f98, go_sem]
    · refine ⟨_, rfl, hr3.mono (by omega), ?_⟩
      exact hBl.trans (belowK_b (w := w) (Nat.le_refl _) _ D _ _ (by omega) hK rfl rfl)
  case stop =>
    rintro D c pre W hD hpre hF hK
    exact hF.elim
end
end Go.Proofs.YtejcmdoalhnpeaaGreatDoor
namespace Go.Proofs.YtejcmdoalhnpeaaGreatDoor
open Go.RowKit Go.Shelf Go.Maps

def TnK : Type := { t : Tn // (0 ≤ t.p ∧ t.p ≤ 1048576) ∧ (0 ≤ t.f ∧ t.f ≤ 1048576) ∧ (0 ≤ t.l ∧ t.l ≤ 1048576) }
def encTn (t : TnK) : Value := .agg #[.int .i64 t.1.p, .int .i64 t.1.f, .int .i64 t.1.l]
theorem encTn_inj (a b : TnK) (h : encTn a = encTn b) : a = b := by
  obtain ⟨⟨p, f, l⟩, _⟩ := a
  obtain ⟨⟨q, g, m⟩, _⟩ := b
  simp [encTn] at h
  obtain ⟨rfl, rfl, rfl⟩ := h
  rfl
theorem keyTn_law : Keyed Tryz.prog 42 :=
  Keyed.of_law (deep_law_laid (P := Tryz.prog) (m := 5) (by kernel_rfl) (by omega) (k := 42) (by decide +kernel) (by kernel_rfl) (by kernel_rfl))
theorem keyTn_ex (k : TnK) : ∃ l, keyOf Tryz.prog 42 (encTn k) = some l := by
  obtain ⟨⟨p, f, l⟩, ⟨h1, h2⟩, ⟨h3, h4⟩, h5, h6⟩ := k
  simp only at h1 h2 h3 h4 h5 h6
  have hu := Tryz.underlying42
  have hi := Tryz.underlying3
  have hk : (Tryz.prog).keyType 42 = true := by kernel_rfl
  have c3 : (Tryz.prog).cellsOf 42 = 3 := by kernel_rfl
  have c1 : (Tryz.prog).cellsOf 3 = 1 := by kernel_rfl
  have hsz : 1 ≤ (Tryz.prog).types.size := by decide +kernel
  obtain ⟨d, hd⟩ : ∃ d, (Tryz.prog).types.size + 1 = d + 2 := ⟨(Tryz.prog).types.size - 1, by omega⟩
  have wf : ∀ n : Int, 0 ≤ n → n ≤ 1048576 → (Lit.int .i64 n).wf = true := fun n a b => by
    have e1 : IntKind.i64.min = -9223372036854775808 := by decide
    have e2 : IntKind.i64.max = 9223372036854775807 := by decide
    simp [Lit.wf, e1, e2]
    omega
  have w1 := wf p h1 h2
  have w2 := wf f h3 h4
  have w3 := wf l h5 h6
  unfold keyOf
  rw [hu]
  simp only [hk, Bool.true_and, encTn, Value.formed, hu, c3, hd, Value.cells]
  simp [Program.keyLits, hu, hi, c3, c1, w1, w2, w3]
instance : DecidableEq TnK := fun a b => decidable_of_iff (a.1.p = b.1.p ∧ a.1.f = b.1.f ∧ a.1.l = b.1.l) ⟨fun h => by
  obtain ⟨⟨p, f, l⟩, _⟩ := a
  obtain ⟨⟨q, g, m⟩, _⟩ := b
  simp only at h
  obtain ⟨rfl, rfl, rfl⟩ := h
  rfl, fun h => by rw [h]; exact ⟨rfl, rfl, rfl⟩⟩
/-- what the map of the turns seen holds -/
def seenL (o : List TnK) : List (TnK × Value) := o.map (fun t => (t, .bool true))
theorem seen_get (o : List TnK) (k : TnK) : getK (seenL o) k = if k ∈ o then some (.bool true) else none := by
  induction o with
  | nil => simp [seenL, getK]
  | cons a o ih =>
    simp only [seenL, getK, List.map_cons, List.find?_cons] at *
    by_cases h : a = k
    · subst h; simp
    · have h' : ¬ k = a := fun e => h e.symm
      simp only [h, decide_false, List.mem_cons, h', false_or]
      exact ih
theorem seen_upd (o : List TnK) (k : TnK) : updK (seenL o) k (.bool true) = seenL (if k ∈ o then o else o ++ [k]) := by
  unfold updK
  rw [seen_get]
  by_cases h : k ∈ o
  · simp only [h, if_true, Option.isSome_some, seenL, List.map_map]
    refine List.map_congr_left (fun t _ => ?_)
    by_cases e : t = k <;> simp [e]
  · simp [h, seenL]
theorem tnKL : KL Tryz.prog 42 encTn := KL.of_keyed keyTn_law encTn_inj keyTn_ex
end Go.Proofs.YtejcmdoalhnpeaaGreatDoor
namespace Go.Proofs.YtejcmdoalhnpeaaGreatDoor
open Go.RowKit Go.Shelf

set_option maxHeartbeats 400000 in
theorem Values_any (A : Option Addr) (n c : Nat) (w : World) :
    Calls Tryz.prog 64 #[.slice A n c] w fun e w' => e = .returned (.func (.func 90) #[] #[.pointer (some ⟨w.heap.size, 0, none⟩)]) ∧ w.alloc (.cells #[.slice A n c] 23) = w' := by
  go_enter Tryz.func64, Tryz.ntmps64
  go_wp2
  go_ret
  exact ⟨rfl, rfl⟩
set_option maxHeartbeats 400000 in
theorem Collect_any (Bv : Nat) (L : List Sp) (sv : Value) (ts : TypeId) (w : World) (hB : Cls Bv ts #[sv] w) (hS : SpansAt w sv L) (hL : L.length ≤ 200000) :
    Calls Tryz.prog 88 #[.func (.func 90) #[] #[.pointer (some ⟨Bv, 0, none⟩)]] w fun e w' => ∃ v, e = .returned v ∧ RowS w.heap.size v L w' ∧ Ext w w' := by
  go_enter Tryz.func88, Tryz.ntmps88
  go_wp2_with fail
  refine (appSeq_any Bv L sv ts w hB hS hL).mono ?_
  rintro e w' ⟨v, rfl, h1, h2⟩
  go_wp2
  go_ret
  exact ⟨v, rfl, h1, h2⟩
set_option maxHeartbeats 400000 in
theorem SortedFunc_any (Bv : Nat) (L : List Sp) (sv : Value) (ts : TypeId) (w : World) (hB : Cls Bv ts #[sv] w) (hS : SpansAt w sv L) (hL : L.length ≤ 200000) :
    Calls Tryz.prog 63 #[.func (.func 90) #[] #[.pointer (some ⟨Bv, 0, none⟩)], .func (.func 65) #[] #[]] w fun e w' => ∃ v, e = .returned v ∧
      (∃ r, L.Perm r ∧ r.Pairwise (fun a b => a.lo ≤ b.lo) ∧ SpansAt w' v r) ∧ Ext w w' := by
  go_enter Tryz.func63, Tryz.ntmps63
  go_wp2_with fail
  refine (Collect_any Bv L sv ts w hB hS hL).mono ?_
  rintro e w1 ⟨v, rfl, h1, h2⟩
  go_wp2_with fail
  refine (sort_any _ v L w1 h1 (by omega)).mono ?_
  rintro e w2 ⟨rfl, r, p1, p2, p3, p4⟩
  go_wp2
  go_ret
  exact ⟨v, rfl, ⟨r, p1, p2, p3⟩, ext_own h2 h1 (Nat.le_refl _) p4⟩

theorem RowS.setHi {base g cap : Nat} {v : Value} {o : List Sp} {t : Sp} {W : World} (h : RowS base v (o ++ [t]) W) (hv : v = .slice (some ⟨g, 0, none⟩) (o.length + 1) cap) (m : Int) : RowS base v (o ++ [⟨t.lo, m⟩]) (W.setCell ⟨g, o.length * 2 + 1, none⟩ (.int .i64 m)) ∧ base ≤ g := by
  obtain ⟨hl, hf⟩ := h
  rcases hf with ⟨hn, h0⟩ | ⟨g', cap', cur, e, hb, hcur, h4, h5, h6, h7⟩
  · simp at h0
  · rw [hv, List.length_append, List.length_singleton] at e
    cases e
    refine ⟨⟨by rw [cellsS_len], .inr ⟨g, cap, cur.setIfInBounds (o.length * 2 + 1) (.int .i64 m), by rw [hv]; simp, hb, ?_, by simpa using h4, h5, by simpa using h6, ?_⟩⟩, hb⟩
    · simp [World.setCell, Array.getElem?_modify, hcur]
    · rw [List.length_append, List.length_singleton] at h7 ⊢
      rw [Array.toList_setIfInBounds, List.take_set, h7, cellsS_append, cellsS_append, List.set_append_right _ _ (by rw [cellsS_len]; omega), cellsS_len]
      rw [show o.length * 2 + 1 - o.length * 2 = 1 by omega]
      rfl
theorem RowS.form1 {base : Nat} {v : Value} {l : List Sp} {W : World} (h : RowS base v l W) (h0 : 0 < l.length) : ∃ g cap, v = .slice (some ⟨g, 0, none⟩) l.length cap := by
  rcases h.2 with ⟨_, h1⟩ | ⟨g, cap, cur, h1, _⟩
  · omega
  · exact ⟨g, cap, h1⟩
theorem jn_bd {M : Int} (l : List Sp) (hv : ∀ s ∈ l, 0 ≤ s.hi ∧ s.hi ≤ M) : ∀ t ∈ jn l, 0 ≤ t.hi ∧ t.hi ≤ M := by
  induction l using snoc_ind with
  | h0 => simp [jn]
  | h1 l s ih =>
    have i1 := ih (fun t ht => hv t (by simp [ht]))
    have hs := hv s (by simp)
    rw [jn_snoc]
    generalize jn l = o at *
    rcases last_cases o with rfl | ⟨o', t, rfl⟩
    · rw [jnS_nil]; intro t ht; simp at ht; rw [ht]; exact hs
    · have ht := i1 t (by simp)
      rw [jnS_last]
      split
      · intro x hx
        rcases List.mem_append.1 hx with hx | hx
        · exact i1 x (by simp [hx])
        · simp at hx; subst hx; simp only; omega
      · intro x hx
        rcases List.mem_append.1 hx with hx | hx
        · exact i1 x hx
        · simp at hx; subst hx; exact hs
theorem jn_take {l : List Sp} {k : Nat} (h : k < l.length) : jn (l.take (k + 1)) = jnS (jn (l.take k)) l[k] := by rw [take_succ_get l k h, jn_snoc]

set_option maxRecDepth 100000 in
set_option maxHeartbeats 4000000 in
theorem joined_any (v : Value) (L : List Sp) (w : World) (hS : SpansAt w v L) (hL : L.length ≤ 1000) (hV : SpsV L) :
    Calls Tryz.prog 29 #[v] w (JnPost w (unS L)) := by
  obtain ⟨i0, hi0, hz0, hz1, hz2⟩ := info_parts infoSp
  obtain ⟨A, c, rfl⟩ := hS.len
  go_enter Tryz.func29, Tryz.ntmps29
  go_wp2_with fail
  refine (Values_any _ _ _ _).mono ?_
  rintro e w1 ⟨rfl, hw1⟩
  have hB1 : Cls w.heap.size 23 #[.slice A L.length c] w1 := by rw [← hw1]; exact Cls.new _ _ _
  have hx1 : Ext w w1 := by rw [← hw1]; exact (by repeat (first | exact Ext.refl _ | assumption | refine Ext.alloc ?_ _ | refine Ext.drew ?_ | refine Ext.drewN _ ?_ | refine Ext.trans ?_ (by assumption)))
  clear hw1
  go_wp2_with fail
  refine (SortedFunc_any _ L _ _ w1 hB1 (hS.ext hx1) (by omega)).mono ?_
  rintro e w2 ⟨u, rfl, ⟨r, p1, p2, p3⟩, hx2⟩
  have hxw := hx1.trans hx2
  have hun := jn_unS hV p1 p2
  have hr : ∀ s ∈ r, 0 ≤ s.lo ∧ s.lo ≤ s.hi ∧ s.hi ≤ 1048576 := fun s hs => hV s (p1.mem_iff.2 hs)
  have hrl : r.length ≤ 1000 := by rw [← p1.length_eq]; exact hL
  obtain ⟨A2, c2, rfl⟩ := p3.len
  have HUN := Lib.hid hun
  have HR := Lib.hid hr
  have HX := Lib.hid hxw
  clear hun hr hxw hB1 hx1 hx2 p1 p2 hV hS hL
  go_wp2_with fail
  go_loopw [3, 12] (fun v i wr => ∃ k : Nat, k ≤ r.length ∧ i = .int .i64 k ∧ Hid (RowS w2.heap.size v (jn (r.take k)) wr) ∧ Ext w2 wr) (fun _ i _ => r.length - (intOf i).toNat)
  case atStart => exact ⟨0, Nat.zero_le _, rfl, Lib.hid (rowS_nil _ _), Ext.refl _⟩
  case round =>
    obtain ⟨k, hk, rfl, HW, hy⟩ := hrel
    by_cases hlt : k < r.length
    · obtain ⟨b1, o1, rfl, c0, c1⟩ := (p3.ext hy).get k hlt
      have htk := jn_take hlt
      have hjl := jn_len (r.take k)
      rw [List.length_take] at hjl
      have hbd := jn_bd (M := 1048576) (r.take k) (fun s hs => by have := HR.out s (List.mem_of_mem_take hs); omega)
      obtain ⟨s1, s2, s3⟩ := HR.out r[k] (List.getElem_mem hlt)
      obtain ⟨o, ho⟩ : ∃ o, jn (r.take k) = o := ⟨_, rfl⟩
      have hrow := HW.out
      rw [ho] at htk hjl hbd hrow
      obtain ⟨s, hs⟩ : ∃ s, r[k] = s := ⟨_, rfl⟩
      rw [hs] at htk c0 c1 s1 s2 s3
      clear ho hs HW
      obtain ⟨X, hXX⟩ : ∃ X, wr.alloc (.cells #[.int .i64 s.lo, .int .i64 s.hi] 45) = X := ⟨_, rfl⟩
      have hxX : Ext wr X := by rw [← hXX]; exact (by repeat (first | exact Ext.refl _ | assumption | refine Ext.alloc ?_ _ | refine Ext.drew ?_ | refine Ext.drewN _ ?_ | refine Ext.trans ?_ (by assumption)))
      have hBX : Cls wr.heap.size 45 #[.int .i64 s.lo, .int .i64 s.hi] X := by rw [← hXX]; exact Cls.new wr _ _
      have y0 : X.cell? ⟨wr.heap.size, 0, none⟩ = some (.int .i64 s.lo) := hBX.cell 0
      have y1 : X.cell? ⟨wr.heap.size, 1, none⟩ = some (.int .i64 s.hi) := hBX.cell 1
      have hrowX := rowS_ext hrow hxX
      have hyX := hy.trans hxX
      rcases last_cases o with rfl | ⟨o', t, rfl⟩
      · rw [jnS_nil] at htk
        have HTK := Lib.hid htk
        obtain ⟨Ad, cp, hform⟩ := hrow.form
        rw [List.length_nil] at hform
        subst hform
        clear htk hbd hjl
        go_upto_region 7 with fail
        try rw [hXX]
        clear hXX
        go_wp2_with fail
        go_quiet (fail)
        go_wp2_with ((at_builtin; refine wpList_append_own _ rfl _ _ 23 rfl w2.heap.size 45 i0 (.agg #[.int .i64 0, .int .i64 0]) 2 16 undSp hi0 hz0 hz1 hz2 rfl (by decide) _ _ _ rfl (World.ownsRow.alloc hrowX _) ⟨X.heap.size, 0, none⟩ 1 1 [.int .i64 s.lo, .int .i64 s.hi] rfl rfl (cell_two_new _ _ _ _) (by simp [Value.oneCell']) (by unfold maxLen; simp) (by simp) (by have := hyX.size; simp; omega) ?_; intro v' w9 hown hgrow _))
        go_roundw
        case rel => exact ⟨k + 1, by omega, by go_num, Lib.hid (by rw [HTK.out]; exact hown), by refine ext_own ?_ (World.ownsRow.alloc (w := X.drewN _) hrowX _) (Nat.le_refl _) hgrow; exact (by repeat (first | exact Ext.refl _ | assumption | refine Ext.alloc ?_ _ | refine Ext.drew ?_ | refine Ext.drewN _ ?_ | refine Ext.trans ?_ (by assumption)))⟩
        case measure => simp [intOf]; omega
      · obtain ⟨g, cp, hform⟩ := RowS.form1 hrow (by simp)
        rw [List.length_append, List.length_singleton] at hform
        subst hform
        have hset := fun m => RowS.setHi hrowX rfl m
        obtain ⟨b2, o2, e2, d0, d1⟩ := hrowX.at_.get o'.length (by simp)
        simp only [Option.some.injEq, Addr.mk.injEq, and_true] at e2
        obtain ⟨rfl, rfl⟩ := e2
        simp only [List.getElem_append_right (Nat.le_refl _), Nat.sub_self, List.getElem_cons_zero, Nat.zero_add] at d0 d1
        obtain ⟨th0, th1⟩ := hbd t (by simp)
        have hge := hset 0
        have hge2 := hge.2
        rw [jnS_last] at htk
        simp only [List.length_append, List.length_singleton] at hjl
        clear hbd hge d0
        have hrX2 : X.ownsRow w2.heap.size 45 2 (.slice (some ⟨g, 0, none⟩) (o'.length + 1) cp) (o'.length + 1) (cellsS (o' ++ [t])) := by have := hrowX; unfold RowS at this; rw [List.length_append, List.length_singleton] at this; exact this
        have fr1 : X.frozen? ⟨g, o'.length * 2 + 1, none⟩ = false := by
          rcases hrX2.2 with ⟨h, _⟩ | ⟨g', cap, cur, h, _, hcur, _⟩
          · cases h
          · cases h; simp [World.frozen?, hcur]
        obtain ⟨N, hN⟩ : ∃ N, o'.length = N := ⟨_, rfl⟩
        rw [hN] at hset d1 fr1 hjl hrX2 ⊢
        obtain ⟨a, ha⟩ : ∃ a, s.lo = a := ⟨_, rfl⟩
        obtain ⟨c', hc'⟩ : ∃ c', s.hi = c' := ⟨_, rfl⟩
        obtain ⟨b, hb⟩ : ∃ b, t.hi = b := ⟨_, rfl⟩
        rw [ha] at s1 s2 y0 c0 hXX htk
        rw [hc'] at s2 s3 y1 c1 hXX htk
        rw [hb] at th0 th1 d1 htk
        have HN := Lib.hid hN
        have HSET := Lib.hid hset
        have HA := Lib.hid ha
        have HC := Lib.hid hc'
        clear hN ha hc' hb hset hrow
        by_cases hc : a ≤ b + 1
        · rw [if_pos hc] at htk
          have HTK := Lib.hid htk
          clear htk
          go_upto_region 7 with fail
          try rw [hXX]
          clear hXX
          go_wp2_with fail
          go_quiet (fail)
          go_wp2_with fail
          go_region
          go_wp2_with fail
          go_roundw
          case rel => exact ⟨k + 1, by omega, by go_num, Lib.hid (by rw [HTK.out]; exact (HSET.out _).1), by refine Ext.setCell (w := X.drewN (_ + 1)) (p := ⟨g, N * 2 + 1, none⟩) ?_ hge2 _; exact (by repeat (first | exact Ext.refl _ | assumption | refine Ext.alloc ?_ _ | refine Ext.drew ?_ | refine Ext.drewN _ ?_ | refine Ext.trans ?_ (by assumption)))⟩
          case measure => simp [intOf]; omega
        · rw [if_neg hc] at htk
          have HTK := Lib.hid htk
          clear htk
          go_upto_region 7 with fail
          try rw [hXX]
          clear hXX
          go_wp2_with fail
          go_quiet (fail)
          go_wp2_with ((at_builtin; refine wpList_append_own _ rfl _ _ 23 rfl w2.heap.size 45 i0 (.agg #[.int .i64 0, .int .i64 0]) 2 16 undSp hi0 hz0 hz1 hz2 rfl (by decide) _ _ _ rfl (World.ownsRow.alloc hrX2 _) ⟨X.heap.size, 0, none⟩ 1 1 [.int .i64 a, .int .i64 c'] rfl rfl (cell_two_new _ _ _ _) (by simp [Value.oneCell']) (by unfold maxLen; omega) (by omega) (by have := hyX.size; simp; omega) ?_; intro v' w9 hown hgrow _))
          go_roundw
          case rel =>
            have hrow9 : RowS w2.heap.size v' (o' ++ [t] ++ [s]) w9 := by
              have e1 : cellsS [s] = [.int .i64 a, .int .i64 c'] := by simp [cellsS, HA.out, HC.out]
              unfold RowS
              rw [List.length_append, List.length_append, List.length_singleton, List.length_singleton, HN.out, cellsS_append (o' ++ [t]), e1]
              exact hown
            exact ⟨k + 1, by omega, by go_num, Lib.hid (by rw [HTK.out]; exact hrow9), by refine ext_own ?_ (World.ownsRow.alloc (w := X.drewN _) hrX2 _) (Nat.le_refl _) hgrow; exact (by repeat (first | exact Ext.refl _ | assumption | refine Ext.alloc ?_ _ | refine Ext.drew ?_ | refine Ext.drewN _ ?_ | refine Ext.trans ?_ (by assumption)))⟩
          case measure => simp [intOf]; omega
    · obtain rfl : k = r.length := by omega
      have hrow := HW.out
      rw [List.take_length, HUN.out] at hrow
      have HRW := Lib.hid hrow
      clear hrow
      go_wp2_with fail
      go_ret
      exact ⟨_, rfl, World.ownsRow.mono HRW.out HX.out.size, HX.out.trans hy⟩
end Go.Proofs.YtejcmdoalhnpeaaGreatDoor
namespace Go.Proofs.YtejcmdoalhnpeaaGreatDoor
open Go.RowKit Go.Shelf

theorem uni_ret {w W : World} {tmps : Array Value} {va vb : Value} {X : Mn} {E : Int} (h4 : tmps.getD 4 undef = .pointer (some ⟨w.heap.size + 1 + 1, 0, none⟩)) (h5 : tmps.getD 5 undef = .int .i64 E) (hc : Cls (w.heap.size + 1 + 1) 25 #[va, vb] W) (hm : MinsAt W va vb X) (hx : Ext w W) :
    bodyPost Tryz.prog Tryz.f6 (SetPost w X E) .ret { tmps := tmps, defers := [] } W := by
  have c0 : W.cell? ⟨w.heap.size + 1 + 1, 0, none⟩ = some va := hc.cell 0
  have c1 : W.cell? ⟨w.heap.size + 1 + 1, 1, none⟩ = some vb := hc.cell 1
  have h4' : tmps[4]?.getD undef = .pointer (some ⟨w.heap.size + 1 + 1, 0, none⟩) := by simpa using h4
  have h5' : tmps[5]?.getD undef = .int .i64 E := by simpa using h5
  exact bodyPost_ret (v := .tuple #[.agg #[va, vb], .int .i64 E]) (by simp [results, Tryz.f6, go_sem, h4', h5', c0, c1]) rfl ⟨va, vb, rfl, hm, hx⟩

set_option maxRecDepth 100000 in
set_option maxHeartbeats 4000000 in
/-- two sets of which one is not in order -/
theorem Union_err (a b c d : Value) (A B : Mn) (w : World) (hA : MinsAt w a b A) (hB : MinsAt w c d B) (he : or2 (chkE A) (chkE B) ≠ 0) :
    Calls Tryz.prog 6 #[.agg #[a, b], .agg #[c, d]] w (SetPost w (uniX A B) (uniE A B)) := by
  obtain ⟨E, hE⟩ : ∃ E, or2 (chkE A) (chkE B) = E := ⟨_, rfl⟩
  have hu : uniE A B = E := by unfold uniE; rw [if_pos he, hE]
  have hX : uniX A B = ⟨[], []⟩ := by unfold uniX; rw [if_neg (by rw [hu, ← hE]; exact he)]
  rw [hu, hX]
  rw [hE] at he
  have HE := Lib.hid hE
  have hne : (E == 0) = false := by simpa using he
  clear hu hX he
  go_enter Tryz.func6, Tryz.ntmps6
  go_wp2_with fail
  obtain ⟨W1, hW1⟩ : ∃ W1, ((w.alloc (.cells #[a, b] 25)).alloc (.cells #[c, d] 25)).alloc (.cells #[.slice none 0 0, .slice none 0 0] 25) = W1 := ⟨_, rfl⟩
  obtain ⟨q0, q1, q2, hx1⟩ : Cls w.heap.size 25 #[a, b] W1 ∧ Cls (w.heap.size + 1) 25 #[c, d] W1 ∧ Cls (w.heap.size + 1 + 1) 25 #[.slice none 0 0, .slice none 0 0] W1 ∧ Ext w W1 := by
    rw [← hW1]
    exact ⟨(Cls.new w _ _).ext (by repeat (first | exact Ext.refl _ | assumption | refine Ext.alloc ?_ _ | refine Ext.drew ?_ | refine Ext.drewN _ ?_ | refine Ext.trans ?_ (by assumption))), (Cls.newAt (w.alloc (.cells #[a, b] 25)) _ _ (World.size_alloc _ _).symm).ext (by repeat (first | exact Ext.refl _ | assumption | refine Ext.alloc ?_ _ | refine Ext.drew ?_ | refine Ext.drewN _ ?_ | refine Ext.trans ?_ (by assumption))), Cls.newAt ((w.alloc (.cells #[a, b] 25)).alloc (.cells #[c, d] 25)) _ _ (by rw [World.size_alloc, World.size_alloc]), (by repeat (first | exact Ext.refl _ | assumption | refine Ext.alloc ?_ _ | refine Ext.drew ?_ | refine Ext.drewN _ ?_ | refine Ext.trans ?_ (by assumption)))⟩
  have d0 : W1.cell? ⟨w.heap.size, 0, none⟩ = some a := q0.cell 0
  have d1 : W1.cell? ⟨w.heap.size, 1, none⟩ = some b := q0.cell 1
  have d2 : W1.cell? ⟨w.heap.size + 1, 0, none⟩ = some c := q1.cell 0
  have d3 : W1.cell? ⟨w.heap.size + 1, 1, none⟩ = some d := q1.cell 1
  have hA1 := hA.ext hx1
  have hB1 := hB.ext hx1
  have CA := fun W (h : Ext W1 W) => Check_any a b A W (hA1.ext h)
  have CB := fun W (h : Ext W1 W) => Check_any c d B W (hB1.ext h)
  try rw [hW1]
  clear hW1 hE hA hB
  go_region_held3 (fun W' => W'.cell? ⟨w.heap.size, 0, none⟩ = some a ∧ W'.cell? ⟨w.heap.size, 1, none⟩ = some b ∧ W'.cell? ⟨w.heap.size + 1, 0, none⟩ = some c ∧ W'.cell? ⟨w.heap.size + 1, 1, none⟩ = some d ∧ Ext W1 W')
    ((refine ⟨Ext.cell (w := W1) ?_ d0, Ext.cell (w := W1) ?_ d1, Ext.cell (w := W1) ?_ d2, Ext.cell (w := W1) ?_ d3, ?_⟩; all_goals exact (by repeat (first | exact Ext.refl _ | assumption | refine Ext.alloc ?_ _ | refine Ext.drew ?_ | refine Ext.drewN _ ?_ | refine Ext.trans ?_ (by assumption)))))
    ((first | (go_at_call 12; first | ((with_reducible refine (CA _ ?_).mono ?_); (focus (exact (by repeat (first | exact Ext.refl _ | assumption | refine Ext.alloc ?_ _ | refine Ext.drew ?_ | refine Ext.drewN _ ?_ | refine Ext.trans ?_ (by assumption))))); rintro e w' ⟨rfl, hx⟩) | ((with_reducible refine (CB _ ?_).mono ?_); (focus (exact (by repeat (first | exact Ext.refl _ | assumption | refine Ext.alloc ?_ _ | refine Ext.drew ?_ | refine Ext.drewN _ ?_ | refine Ext.trans ?_ (by assumption))))); rintro e w' ⟨rfl, hx⟩)) | (go_at_call 27; refine (cmpOr2_any _ _ _ _ _ _ (by exact cell_at_new _ _ _ _ _ _ rfl rfl) (by exact cell_at_new _ _ _ _ _ _ rfl rfl)).mono ?_; rintro e w' ⟨rfl, rfl⟩)))
  have hx2 : Ext W1 (w'.alloc (.cells #[.int .i64 (chkE A), .int .i64 (chkE B)] 27)) := (by repeat (first | exact Ext.refl _ | assumption | refine Ext.alloc ?_ _ | refine Ext.drew ?_ | refine Ext.drewN _ ?_ | refine Ext.trans ?_ (by assumption)))
  obtain ⟨W2, hW2⟩ : ∃ W2, w'.alloc (.cells #[.int .i64 (chkE A), .int .i64 (chkE B)] 27) = W2 := ⟨_, rfl⟩
  rw [hW2] at hx2 ⊢
  rw [HE.out]
  have q2' := q2.ext hx2
  have hx3 := hx1.trans hx2
  have f0 := q2'.frozen 0
  have f1 := q2'.frozen 1
  have c0 : W2.cell? ⟨w.heap.size + 1 + 1, 0, none⟩ = some (.slice none 0 0) := q2'.cell 0
  have c1 : W2.cell? ⟨w.heap.size + 1 + 1, 1, none⟩ = some (.slice none 0 0) := q2'.cell 1
  clear hW2 hx2 CA CB
  go_wp2_with fail
  refine uni_ret (E := E) ?_ ?_ ((q2'.set 0 (.slice none 0 0)).set 1 (.slice none 0 0)) (mins_nil _) ((hx3.setCell (by show w.heap.size ≤ w.heap.size + 1 + 1; omega) _).setCell (by show w.heap.size ≤ w.heap.size + 1 + 1; omega) _) <;> rfl

/-- the state of the loop over the turns of both -/
structure SQ (w Wc : World) (K M : Nat) (v : Value) (l : List Tn) (o : List TnK) (W : World) : Prop where
  kp : ∀ b, b < Wc.heap.size → b ≠ K → b ≠ M → W.heap[b]? = Wc.heap[b]?
  mn : Cls K 25 #[v, .slice none 0 0] W
  rt : RowT Wc.heap.size v l W
  mp : MapAt encTn W M (seenL o)
  ex : Ext w W
  sz : Wc.heap.size ≤ W.heap.size
  k1 : w.heap.size ≤ K
  k2 : K < M
  k3 : M < Wc.heap.size
theorem SQ.ext {w Wc : World} {K M : Nat} {v : Value} {l : List Tn} {o : List TnK} {W W' : World} (h : SQ w Wc K M v l o W) (x : Ext W W') : SQ w Wc K M v l o W' :=
  ⟨fun b h1 h2 h3 => (Below.block x b (Nat.lt_of_lt_of_le h1 h.sz)).trans (h.kp b h1 h2 h3), h.mn.ext x, rowT_ext h.rt x, h.mp.ext x, h.ex.trans x, Nat.le_trans h.sz x.size, h.k1, h.k2, h.k3⟩
theorem SQ.cell {w Wc : World} {K M : Nat} {v : Value} {l : List Tn} {o : List TnK} {W : World} (h : SQ w Wc K M v l o W) {b i : Nat} {u : Value} (hK : b ≠ K) (hM : b ≠ M) (hc : Wc.cell? ⟨b, i, none⟩ = some u) : W.cell? ⟨b, i, none⟩ = some u :=
  (World.cell?_of_block (h.kp b (cell_lt hc) hK hM)).trans hc
theorem SQ.cls {w Wc : World} {K M : Nat} {v : Value} {l : List Tn} {o : List TnK} {W : World} (h : SQ w Wc K M v l o W) {b : Nat} {t : TypeId} {cs : Array Value} (hK : b ≠ K) (hM : b ≠ M) (hc : Cls b t cs Wc) : Cls b t cs W :=
  (h.kp b hc.lt hK hM).trans hc
theorem SQ.add {w Wc : World} {K M : Nat} {v : Value} {l : List Tn} {o : List TnK} {t : Tn} {W W' : World} {v' : Value} {tmp : Obj} (h : SQ w Wc K M v l o W) (hg : (W.alloc tmp).grownBy W' v.ownBlock) (ho : W'.ownsRow Wc.heap.size 42 3 v' (l.length + 1) (cellsT l ++ [.int .i64 t.p, .int .i64 t.f, .int .i64 t.l])) :
    Cls K 25 #[v, .slice none 0 0] W' ∧ SQ w Wc K M v' (l ++ [t]) o (W'.setCell ⟨K, 0, none⟩ v') := by
  have hk1 := h.k1
  have hk2 := h.k2
  have hk3 := h.k3
  have hsz := h.sz
  have hne : ∀ b, b < Wc.heap.size → some b ≠ v.ownBlock := fun b hb => own_ge h.rt hb
  have hb : ∀ b, b < Wc.heap.size → W'.heap[b]? = W.heap[b]? := fun b hb => (hg.block b (by simp; omega) (hne b hb)).trans (Below.heap_alloc W tmp b (by omega))
  have hm : Cls K 25 #[v, .slice none 0 0] W' := (hb K (by omega)).trans h.mn
  have hx : Ext w W' := (h.ex.alloc tmp).trans' ⟨hg.os, hg.tape, hg.output, hg.size, fun i hi => hg.block i (by simp; omega) (hne i (by omega))⟩
  refine ⟨hm, ⟨fun b h1 h2 h3 => ?_, hm.set 0 v', ?_, ?_, hx.setCell hk1 _, ?_, hk1, hk2, hk3⟩⟩
  · exact (Below.heap_setCell W' ⟨K, 0, none⟩ v' b h2).trans ((hb b h1).trans (h.kp b h1 h2 h3))
  · have h5 : (W'.setCell ⟨K, 0, none⟩ v').ownsRow Wc.heap.size 42 3 v' (l.length + 1) (cellsT l ++ [.int .i64 t.p, .int .i64 t.f, .int .i64 t.l]) := World.ownsRow.kept ho (grownBy_setCell' W' K v') (.inr (own_ge ho (by omega)).symm)
    unfold RowT
    rw [List.length_append, List.length_singleton, cellsT_append]
    exact h5
  · exact (h.mp.same (hb M hk3)).setCell (by show M ≠ K; omega) _
  · have := hg.size; simp [World.setCell] at *; omega
theorem SQ.upd {w Wc : World} {K M : Nat} {v : Value} {l : List Tn} {o : List TnK} {k : TnK} {W W' : World} (h : SQ w Wc K M v l o W) (hm : MapAt encTn W' M (updK (seenL o) k (.bool true))) (hg : W.grownBy W' (some M)) : SQ w Wc K M v l (if k ∈ o then o else o ++ [k]) W' := by
  have hk1 := h.k1
  have hk2 := h.k2
  have hk3 := h.k3
  have hsz := h.sz
  rw [seen_upd] at hm
  exact ⟨fun b h1 h2 h3 => (hg.block b (by omega) (fun e => h3 (Option.some.inj e))).trans (h.kp b h1 h2 h3), h.mn.kept hg (fun e => by have := Option.some.inj e; omega), World.ownsRow.kept h.rt hg (.inr (own_ge h.rt hk3).symm), hm, h.ex.grown hg (by omega), Nat.le_trans hsz hg.size, hk1, hk2, hk3⟩
theorem box_stay {Y W' : World} {o : Obj} {r : Option Nat} {b i K : Nat} {u x : Value} (hg : (Y.alloc o).grownBy W' r) (hne : some b ≠ r) (hK : b ≠ K) (hc : Y.cell? ⟨b, i, none⟩ = some u) : (W'.setCell ⟨K, 0, none⟩ x).cell? ⟨b, i, none⟩ = some u := by
  have hb := cell_lt hc
  refine (World.cell?_of_block ((Below.heap_setCell W' ⟨K, 0, none⟩ x b hK).trans ((hg.block b (by simp only [World.size_alloc]; exact Nat.lt_succ_of_lt hb) hne).trans (Below.heap_alloc Y o b hb)))).trans hc
theorem hasT_vals (o : List TnK) (k : TnK) : hasT (o.map (·.1)) k.1 = decide (k ∈ o) := by
  rw [Bool.eq_iff_iff, decide_eq_true_eq]
  unfold hasT
  rw [List.any_eq_true]
  constructor
  · rintro ⟨t, ht, he⟩
    obtain ⟨u, hu, rfl⟩ := List.mem_map.1 ht
    obtain ⟨⟨p, f, l⟩, hv⟩ := k
    obtain ⟨⟨p', f', l'⟩, hv'⟩ := u
    simp only [Bool.and_eq_true, beq_iff_eq] at he
    obtain ⟨⟨rfl, rfl⟩, rfl⟩ := he
    exact hu
  · intro h
    exact ⟨k.1, List.mem_map.2 ⟨k, h, rfl⟩, by simp⟩
theorem dd_vals {l : List Tn} {j : Nat} (h : j < l.length) {o : List TnK} {k : TnK} (ho : o.map (·.1) = ddT (l.take j)) (hk : l[j] = k.1) : (if k ∈ o then o else o ++ [k]).map (·.1) = ddT (l.take (j + 1)) := by
  rw [dd_take h, ← ho, hk]
  unfold adT
  rw [hasT_vals]
  by_cases hm : k ∈ o <;> simp [hm]
theorem mapTT : (Tryz.prog).underlying 64 = some (.map 42 4) := by kernel_rfl
theorem okT_bd {A B : Mn} (hA : Ok A) (hB : Ok B) : ∀ t ∈ A.ts ++ B.ts, tnB t.p t.f t.l = true := fun t ht => by
  rcases List.mem_append.1 ht with h | h
  · exact hA.t t h
  · exact hB.t t h

set_option maxRecDepth 100000 in
set_option maxHeartbeats 8000000 in
/-- two sets in order -/
theorem Union_main (aa ab ac ad : Option Addr) (ca cb cc cd : Nat) (A B : Mn) (w : World) (hA : MinsAt w (.slice aa A.ts.length ca) (.slice ab A.ss.length cb) A) (hB : MinsAt w (.slice ac B.ts.length cc) (.slice ad B.ss.length cd) B) (hcA : chkE A = 0) (hcB : chkE B = 0) :
    Calls Tryz.prog 6 #[.agg #[.slice aa A.ts.length ca, .slice ab A.ss.length cb], .agg #[.slice ac B.ts.length cc, .slice ad B.ss.length cd]] w (SetPost w (uniX A B) (uniE A B)) := by
  have hkA := Ok.of hcA
  have hkB := Ok.of hcB
  have h0 : or2 (chkE A) (chkE B) = 0 := by unfold or2; rw [if_neg (by omega)]; exact hcB
  have HBIG := Lib.hid (fun h1 => @uni_big A B h0 h1)
  have HOKK := Lib.hid (fun h1 => @uni_ok A B h0 h1)
  have HE := Lib.hid h0
  have hlA := hkA.lt
  have hlB := hkB.lt
  have hsA := hkA.ls
  have hsB := hkB.ls
  have HTB := Lib.hid (okT_bd hkA hkB)
  obtain ⟨i0, hi0, hz0, hz1, hz2⟩ := info_parts infoTn
  have hmk := @run_makeMap Tryz.prog
  clear hcA hcB h0
  go_enter Tryz.func6, Tryz.ntmps6
  go_wp2_with fail
  obtain ⟨W1, hW1⟩ : ∃ W1, ((w.alloc (.cells #[.slice aa A.ts.length ca, .slice ab A.ss.length cb] 25)).alloc (.cells #[.slice ac B.ts.length cc, .slice ad B.ss.length cd] 25)).alloc (.cells #[.slice none 0 0, .slice none 0 0] 25) = W1 := ⟨_, rfl⟩
  obtain ⟨q0, q1, q2, hx1⟩ : Cls w.heap.size 25 #[.slice aa A.ts.length ca, .slice ab A.ss.length cb] W1 ∧ Cls (w.heap.size + 1) 25 #[.slice ac B.ts.length cc, .slice ad B.ss.length cd] W1 ∧ Cls (w.heap.size + 1 + 1) 25 #[.slice none 0 0, .slice none 0 0] W1 ∧ Ext w W1 := by
    rw [← hW1]
    exact ⟨(Cls.new w _ _).ext (by repeat (first | exact Ext.refl _ | assumption | refine Ext.alloc ?_ _ | refine Ext.drew ?_ | refine Ext.drewN _ ?_ | refine Ext.trans ?_ (by assumption))), (Cls.newAt (w.alloc (.cells #[.slice aa A.ts.length ca, .slice ab A.ss.length cb] 25)) _ _ (World.size_alloc _ _).symm).ext (by repeat (first | exact Ext.refl _ | assumption | refine Ext.alloc ?_ _ | refine Ext.drew ?_ | refine Ext.drewN _ ?_ | refine Ext.trans ?_ (by assumption))), Cls.newAt ((w.alloc (.cells #[.slice aa A.ts.length ca, .slice ab A.ss.length cb] 25)).alloc (.cells #[.slice ac B.ts.length cc, .slice ad B.ss.length cd] 25)) _ _ (by rw [World.size_alloc, World.size_alloc]), (by repeat (first | exact Ext.refl _ | assumption | refine Ext.alloc ?_ _ | refine Ext.drew ?_ | refine Ext.drewN _ ?_ | refine Ext.trans ?_ (by assumption)))⟩
  have d0 : W1.cell? ⟨w.heap.size, 0, none⟩ = some (.slice aa A.ts.length ca) := q0.cell 0
  have d1 : W1.cell? ⟨w.heap.size, 1, none⟩ = some (.slice ab A.ss.length cb) := q0.cell 1
  have d2 : W1.cell? ⟨w.heap.size + 1, 0, none⟩ = some (.slice ac B.ts.length cc) := q1.cell 0
  have d3 : W1.cell? ⟨w.heap.size + 1, 1, none⟩ = some (.slice ad B.ss.length cd) := q1.cell 1
  have hA1 := hA.ext hx1
  have hB1 := hB.ext hx1
  have CA := fun W (h : Ext W1 W) => Check_any _ _ A W (hA1.ext h)
  have CB := fun W (h : Ext W1 W) => Check_any _ _ B W (hB1.ext h)
  try rw [hW1]
  clear hW1
  go_region_held3 (fun W' => W'.cell? ⟨w.heap.size, 0, none⟩ = some (.slice aa A.ts.length ca) ∧ W'.cell? ⟨w.heap.size, 1, none⟩ = some (.slice ab A.ss.length cb) ∧ W'.cell? ⟨w.heap.size + 1, 0, none⟩ = some (.slice ac B.ts.length cc) ∧ W'.cell? ⟨w.heap.size + 1, 1, none⟩ = some (.slice ad B.ss.length cd) ∧ Ext W1 W')
    ((refine ⟨Ext.cell (w := W1) ?_ d0, Ext.cell (w := W1) ?_ d1, Ext.cell (w := W1) ?_ d2, Ext.cell (w := W1) ?_ d3, ?_⟩; all_goals exact (by repeat (first | exact Ext.refl _ | assumption | refine Ext.alloc ?_ _ | refine Ext.drew ?_ | refine Ext.drewN _ ?_ | refine Ext.trans ?_ (by assumption)))))
    ((first | (go_at_call 12; first | ((with_reducible refine (CA _ ?_).mono ?_); (focus (exact (by repeat (first | exact Ext.refl _ | assumption | refine Ext.alloc ?_ _ | refine Ext.drew ?_ | refine Ext.drewN _ ?_ | refine Ext.trans ?_ (by assumption))))); rintro e w' ⟨rfl, hx⟩) | ((with_reducible refine (CB _ ?_).mono ?_); (focus (exact (by repeat (first | exact Ext.refl _ | assumption | refine Ext.alloc ?_ _ | refine Ext.drew ?_ | refine Ext.drewN _ ?_ | refine Ext.trans ?_ (by assumption))))); rintro e w' ⟨rfl, hx⟩)) | (go_at_call 27; refine (cmpOr2_any _ _ _ _ _ _ (by exact cell_at_new _ _ _ _ _ _ rfl rfl) (by exact cell_at_new _ _ _ _ _ _ rfl rfl)).mono ?_; rintro e w' ⟨rfl, rfl⟩)))
  have hx2 : Ext W1 (w'.alloc (.cells #[.int .i64 (chkE A), .int .i64 (chkE B)] 27)) := (by repeat (first | exact Ext.refl _ | assumption | refine Ext.alloc ?_ _ | refine Ext.drew ?_ | refine Ext.drewN _ ?_ | refine Ext.trans ?_ (by assumption)))
  obtain ⟨W2, hW2⟩ : ∃ W2, w'.alloc (.cells #[.int .i64 (chkE A), .int .i64 (chkE B)] 27) = W2 := ⟨_, rfl⟩
  rw [hW2] at hx2 ⊢
  rw [HE.out]
  replace q0 := q0.ext hx2
  replace q1 := q1.ext hx2
  replace q2 := q2.ext hx2
  have hx3 := hx1.trans hx2
  have hl2 := hx2.size
  have hz3 := q2.lt
  clear hW2 hx2 CA CB hA1 hB1 d0 d1 d2 d3 hx1
  have e0 : W2.cell? ⟨w.heap.size, 0, none⟩ = some (.slice aa A.ts.length ca) := q0.cell 0
  have e2 : W2.cell? ⟨w.heap.size + 1, 0, none⟩ = some (.slice ac B.ts.length cc) := q1.cell 0
  have e0' : ((W2.alloc (.cells #[.slice none 0 0, .slice none 0 0] 25)).alloc (.map #[] 0)).cell? ⟨w.heap.size, 0, none⟩ = some (.slice aa A.ts.length ca) := Ext.cell (by repeat (first | exact Ext.refl _ | assumption | refine Ext.alloc ?_ _ | refine Ext.drew ?_ | refine Ext.drewN _ ?_ | refine Ext.trans ?_ (by assumption))) e0
  have e2' : ((W2.alloc (.cells #[.slice none 0 0, .slice none 0 0] 25)).alloc (.map #[] 0)).cell? ⟨w.heap.size + 1, 0, none⟩ = some (.slice ac B.ts.length cc) := Ext.cell (by repeat (first | exact Ext.refl _ | assumption | refine Ext.alloc ?_ _ | refine Ext.drew ?_ | refine Ext.drewN _ ?_ | refine Ext.trans ?_ (by assumption))) e2
  obtain ⟨K, hK⟩ : ∃ K, W2.heap.size = K := ⟨_, rfl⟩
  have HK := Lib.hid hK
  clear hK
  go_wp2_with fail
  refine (catT_any _ 0 _ _ _ A.ts B.ts _ (by exact cell_at_new _ _ _ _ _ _ (by simp) rfl) (by exact cell_at_new _ _ _ _ _ _ (by simp) rfl) (hA.t.ext (hx3.trans (by repeat (first | exact Ext.refl _ | assumption | refine Ext.alloc ?_ _ | refine Ext.drew ?_ | refine Ext.drewN _ ?_ | refine Ext.trans ?_ (by assumption))))) (hB.t.ext (hx3.trans (by repeat (first | exact Ext.refl _ | assumption | refine Ext.alloc ?_ _ | refine Ext.drew ?_ | refine Ext.drewN _ ?_ | refine Ext.trans ?_ (by assumption))))) (by omega)).mono ?_
  rintro e Wc ⟨x, rfl, hrx, hxc⟩
  have hKw := HK.out
  have hMp : MapAt encTn ((W2.alloc (.cells #[.slice none 0 0, .slice none 0 0] 25)).alloc (.map #[] 0)) (K + 1) (seenL []) := by
    have h := mapAt_made encTn (W2.alloc (.cells #[.slice none 0 0, .slice none 0 0] 25))
    rw [World.size_alloc, hKw] at h
    exact h
  have hMk : Cls K 25 #[.slice none 0 0, .slice none 0 0] (W2.alloc (.cells #[.slice none 0 0, .slice none 0 0] 25)) := Cls.newAt _ _ _ hKw.symm
  have hxa : Ext W2 Wc := Ext.trans (by repeat (first | exact Ext.refl _ | assumption | refine Ext.alloc ?_ _ | refine Ext.drew ?_ | refine Ext.drewN _ ?_ | refine Ext.trans ?_ (by assumption))) hxc
  have hzc : K + 3 ≤ Wc.heap.size := by have := hxc.size; simp at this; omega
  have hSQ : SQ w Wc K (K + 1) (.slice none 0 0) (([] : List TnK).map (·.1)) [] Wc :=
    ⟨fun _ _ _ _ => rfl, (hMk.ext (by repeat (first | exact Ext.refl _ | assumption | refine Ext.alloc ?_ _ | refine Ext.drew ?_ | refine Ext.drewN _ ?_ | refine Ext.trans ?_ (by assumption)))).ext hxc, World.ownsRow_nil _ _ _ _, (hMp.ext (by repeat (first | exact Ext.refl _ | assumption | refine Ext.alloc ?_ _ | refine Ext.drew ?_ | refine Ext.drewN _ ?_ | refine Ext.trans ?_ (by assumption)))).ext hxc, hx3.trans hxa, Nat.le_refl _, by omega, by omega, by omega⟩
  have hxr : RowT (K + 3) x (A.ts ++ B.ts) Wc := by
    have h := hrx
    simp only [World.size_alloc, hKw] at h
    exact h
  have hq0 := q0.ext hxa
  have hq1 := q1.ext hxa
  have hq2 := q2.ext hxa
  have hll : (A.ts ++ B.ts).length = A.ts.length + B.ts.length := List.length_append
  obtain ⟨Ax, cx, hxf⟩ := hxr.form
  subst hxf
  rw [hKw]
  have HSQ := Lib.hid hSQ
  have HQ := Lib.hid (And.intro hq0 (And.intro hq1 hq2))
  have HXR := Lib.hid hxr
  have HMS := Lib.hid (And.intro hA hB)
  obtain ⟨Ls, hLs⟩ : ∃ Ls, A.ts ++ B.ts = Ls := ⟨_, rfl⟩
  rw [hLs] at hll HXR HBIG HOKK HTB ⊢
  have HLS := Lib.hid hLs
  have hz3K : w.heap.size + 1 + 1 < K := by omega
  clear hLs hSQ hq0 hq1 hq2 hxr hMp hMk hrx hxc hxa q0 q1 q2 e0 e2 e0' e2' hmk hx3 hA hB HK hKw
  go_wp2_with fail
  go_loopw [29] (fun i wr => ∃ (j : Nat) (v : Value) (o : List TnK), j ≤ Ls.length ∧ i = .int .i64 j ∧ Hid (o.map (·.1) = ddT (Ls.take j)) ∧ Hid (SQ w Wc K (K + 1) v (o.map (·.1)) o wr)) (fun i _ => Ls.length - (intOf i).toNat)
  case atStart => exact ⟨0, _, [], Nat.zero_le _, rfl, Lib.hid rfl, HSQ⟩
  case round =>
    obtain ⟨j, v, o, hj, rfl, HO, HR⟩ := hrel
    by_cases hlt : j < Ls.length
    · obtain ⟨bb, oo, hbo, c0, c1, c2⟩ := HXR.out.at_.get j hlt
      have hg : K + 3 ≤ bb := by
        subst hbo
        exact (HXR.out.lt bb rfl).1
      have htn := HTB.out _ (List.getElem_mem hlt)
      obtain ⟨v1, v2, v3, v4, v5, v6⟩ := tnB_t htn
      have hk := HR.out
      replace c0 := hk.cell (by omega) (by omega) c0
      replace c1 := hk.cell (by omega) (by omega) c1
      replace c2 := hk.cell (by omega) (by omega) c2
      have HDV := Lib.hid (fun k hk => @dd_vals Ls j hlt o k HO.out hk)
      obtain ⟨p, hp⟩ : ∃ p, Ls[j].p = p := ⟨_, rfl⟩
      obtain ⟨f, hf⟩ : ∃ f, Ls[j].f = f := ⟨_, rfl⟩
      obtain ⟨m, hm⟩ : ∃ m, Ls[j].l = m := ⟨_, rfl⟩
      have hTX : Ls[j] = ⟨p, f, m⟩ := by rw [← hp, ← hf, ← hm]
      rw [hp] at c0 v1 v2 v4 v6
      rw [hf] at c1 v3 v4
      rw [hm] at c2 v5 v6
      have hbd : (0 ≤ p ∧ p ≤ 1048576) ∧ (0 ≤ f ∧ f ≤ 1048576) ∧ (0 ≤ m ∧ m ≤ 1048576) := by omega
      obtain ⟨kk, hkk⟩ : ∃ kk : TnK, kk = ⟨⟨p, f, m⟩, hbd⟩ := ⟨_, rfl⟩
      have hkv : encTn kk = .agg #[.int .i64 p, .int .i64 f, .int .i64 m] := by rw [hkk]; rfl
      have hk1 : kk.1 = ⟨p, f, m⟩ := by rw [hkk]
      have hdv := HDV.out kk (by rw [hTX, hk1])
      have HDD := Lib.hid hdv
      have HKV := Lib.hid hkv
      have HK1 := Lib.hid hk1
      have hseen := seen_get o kk
      have hol : o.length ≤ j := by
        have h := congrArg List.length HO.out
        rw [List.length_map] at h
        have h2 := ddT_len (Ls.take j)
        rw [List.length_take] at h2
        omega
      clear hp hf hm hTX hkk hdv HDV htn hkv hk1 hbd
      subst hbo
      have x0 : (wr.alloc (.cells #[.int .i64 0, .int .i64 0, .int .i64 0] 42)).cell? _ = _ := Ext.cell (by repeat (first | exact Ext.refl _ | assumption | refine Ext.alloc ?_ _ | refine Ext.drew ?_ | refine Ext.drewN _ ?_ | refine Ext.trans ?_ (by assumption))) c0
      have x1 : (wr.alloc (.cells #[.int .i64 0, .int .i64 0, .int .i64 0] 42)).cell? _ = _ := Ext.cell (by repeat (first | exact Ext.refl _ | assumption | refine Ext.alloc ?_ _ | refine Ext.drew ?_ | refine Ext.drewN _ ?_ | refine Ext.trans ?_ (by assumption))) c1
      have x2 : (wr.alloc (.cells #[.int .i64 0, .int .i64 0, .int .i64 0] 42)).cell? _ = _ := Ext.cell (by repeat (first | exact Ext.refl _ | assumption | refine Ext.alloc ?_ _ | refine Ext.drew ?_ | refine Ext.drewN _ ?_ | refine Ext.trans ?_ (by assumption))) c2
      go_upto_region 9 with fail
      obtain ⟨Y, hY⟩ : ∃ Y, wr.alloc (.cells #[.int .i64 p, .int .i64 f, .int .i64 m] 42) = Y := ⟨_, rfl⟩
      have hxY : Ext wr Y := by rw [← hY]; exact (by repeat (first | exact Ext.refl _ | assumption | refine Ext.alloc ?_ _ | refine Ext.drew ?_ | refine Ext.drewN _ ?_ | refine Ext.trans ?_ (by assumption)))
      have hq := HR.out.ext hxY
      have y0 : Y.cell? ⟨wr.heap.size, 0, none⟩ = some (.int .i64 p) := by rw [← hY]; exact cell_at_new _ _ _ _ _ _ rfl rfl
      have y1 : Y.cell? ⟨wr.heap.size, 1, none⟩ = some (.int .i64 f) := by rw [← hY]; exact cell_at_new _ _ _ _ _ _ rfl rfl
      have y2 : Y.cell? ⟨wr.heap.size, 2, none⟩ = some (.int .i64 m) := by rw [← hY]; exact cell_at_new _ _ _ _ _ _ rfl rfl
      have hM := hq.mp
      rw [hY]
      clear hY x0 x1 x2 c0 c1 c2 hk hxY
      by_cases hin : kk ∈ o
      · rw [if_pos hin] at hseen HDD
        go_wp2_with (first | (refine wpList_lookupMap rfl _ _ false rfl tnKL mapTT rfl hM kk HKV.out.symm (zeroBool _) ?_; rw [hseen]) | (refine wpList_updateMap rfl _ _ _ rfl tnKL mapTT rfl hM kk (.bool true) HKV.out.symm rfl ?_; intro w1 hM1 hg1))
        have hq1 := hq.upd hM1 hg1
        rw [if_pos hin] at hq1
        go_roundw
        case rel => exact ⟨j + 1, _, o, by omega, by go_num, HDD, Lib.hid hq1⟩
        case measure => simp [intOf]; omega
      · rw [if_neg hin] at hseen HDD
        obtain ⟨Ad, cp, hform⟩ := hq.rt.form
        subst hform
        have hsz := hq.sz
        have hk3 := hq.k3
        have hne : some wr.heap.size ≠ (Value.slice Ad (o.map (·.1)).length cp).ownBlock := fun e => by have := (HR.out.rt.lt _ e.symm).2; omega
        have hszr := HR.out.sz
        have hDl : (o.map (·.1)).length ≤ j := by rw [List.length_map]; exact hol
        have hdd : (o ++ [kk]).map (·.1) = o.map (·.1) ++ [⟨p, f, m⟩] := by rw [List.map_append, List.map_cons, List.map_nil, HK1.out]
        rw [hdd] at HDD
        obtain ⟨D, hD⟩ : ∃ D, o.map (·.1) = D := ⟨_, rfl⟩
        rw [hD] at hq hDl HDD hdd hne
        have hrow : Y.ownsRow Wc.heap.size 42 3 (.slice Ad D.length cp) D.length (cellsT D) := hq.rt
        have k0 : Y.cell? ⟨K, 0, none⟩ = some (.slice Ad D.length cp) := hq.mn.cell 0
        have HDQ := Lib.hid hdd
        clear hdd hD hol
        go_wp2_with (first | (refine wpList_lookupMap rfl _ _ false rfl tnKL mapTT rfl hM kk HKV.out.symm (zeroBool _) ?_; rw [hseen]) | (at_builtin; refine wpList_append_own _ rfl _ _ 22 rfl Wc.heap.size 42 i0 (.agg #[.int .i64 0, .int .i64 0, .int .i64 0]) 3 24 undTn hi0 hz0 hz1 hz2 rfl (by decide) _ _ _ rfl (World.ownsRow.alloc hrow _) ⟨Y.heap.size, 0, none⟩ 1 1 [.int .i64 p, .int .i64 f, .int .i64 m] rfl rfl (cell_three_new _ _ _ _ _) (by simp [Value.oneCell']) (by unfold maxLen; omega) (by omega) (by simp; omega) ?_; intro v' w9 hown hgrow _; obtain ⟨g', cap', rfl⟩ := ownsRow_succ hown; obtain ⟨hm9, hq9⟩ := SQ.add (t := ⟨p, f, m⟩) hq hgrow hown; have hm9a := hm9.cell 0; have hm9f := hm9.frozen 0; simp only [List.getElem?_toArray, List.getElem?_cons_zero] at hm9a; have hM9 := hq9.mp; have z0 := box_stay (K := K) (x := .slice (some ⟨g', 0, none⟩) (D.length + 1) cap') hgrow hne (by omega) y0; have z1 := box_stay (K := K) (x := .slice (some ⟨g', 0, none⟩) (D.length + 1) cap') hgrow hne (by omega) y1; have z2 := box_stay (K := K) (x := .slice (some ⟨g', 0, none⟩) (D.length + 1) cap') hgrow hne (by omega) y2) | (refine wpList_updateMap rfl _ _ _ rfl tnKL mapTT rfl hM9 kk (.bool true) HKV.out.symm rfl ?_; intro w1 hM1 hg1))
        have hq1 := hq9.upd hM1 hg1
        rw [if_neg hin] at hq1
        go_roundw
        case rel => exact ⟨j + 1, _, o ++ [kk], by omega, by go_num, by rw [HDQ.out]; exact HDD, by rw [HDQ.out]; exact Lib.hid hq1⟩
        case measure => simp [intOf]; omega
    · obtain rfl : j = Ls.length := by omega
      rw [List.take_length] at HO
      have hk := HR.out
      obtain ⟨Ad, cp, hform⟩ := hk.rt.form
      subst hform
      obtain ⟨D, hD⟩ : ∃ D, o.map (·.1) = D := ⟨_, rfl⟩
      rw [hD] at hk HO
      rw [← HO.out] at HBIG HOKK
      obtain ⟨U, hU⟩ : ∃ U, unS (A.ss ++ B.ss) = U := ⟨_, rfl⟩
      rw [hU] at HBIG HOKK
      have HU := Lib.hid hU
      have hul : U.length ≤ 1048577 := by rw [← hU]; exact lst_len_le _ _ _
      have hdl := ddT_len Ls
      rw [← HO.out] at hdl
      have HKq := Lib.hid hk
      have g0 := hk.cls (by omega) (by omega) HQ.out.1
      have g1 := hk.cls (by omega) (by omega) HQ.out.2.1
      have e1 : wr.cell? ⟨w.heap.size, 1, none⟩ = some (.slice ab A.ss.length cb) := g0.cell 1
      have e3 : wr.cell? ⟨w.heap.size + 1, 1, none⟩ = some (.slice ad B.ss.length cd) := g1.cell 1
      have hsA2 := HMS.out.1.s.ext hk.ex
      have hsB2 := HMS.out.2.s.ext hk.ex
      obtain ⟨nL, hnL⟩ : ∃ nL, Ls.length = nL := ⟨_, rfl⟩
      rw [hnL] at hll hdl ⊢
      have hge : ¬ ((nL : Int) < (A.ts.length : Int) + (B.ts.length : Int)) := by omega
      clear hD hU hnL g0 g1 hk HR
      go_wp2_with fail
      refine (catS_any _ 0 _ _ _ A.ss B.ss _ (by exact cell_at_new _ _ _ _ _ _ rfl rfl) (by exact cell_at_new _ _ _ _ _ _ rfl rfl) (hsA2.ext (by repeat (first | exact Ext.refl _ | assumption | refine Ext.alloc ?_ _ | refine Ext.drew ?_ | refine Ext.drewN _ ?_ | refine Ext.trans ?_ (by assumption)))) (hsB2.ext (by repeat (first | exact Ext.refl _ | assumption | refine Ext.alloc ?_ _ | refine Ext.drew ?_ | refine Ext.drewN _ ?_ | refine Ext.trans ?_ (by assumption)))) (by omega)).mono ?_
      rintro e w3 ⟨y, rfl, hry, hx3⟩
      go_wp2_with fail
      refine (joined_any _ (A.ss ++ B.ss) _ hry.at_ (by rw [List.length_append]; omega) (spsV_of hkA hkB)).mono ?_
      rw [HU.out]
      rintro e w5 ⟨v3, rfl, hr3, hx5⟩
      have hxA : Ext wr w5 := Ext.trans (Ext.trans (by repeat (first | exact Ext.refl _ | assumption | refine Ext.alloc ?_ _ | refine Ext.drew ?_ | refine Ext.drewN _ ?_ | refine Ext.trans ?_ (by assumption))) hx3) hx5
      have hq5 := HKq.out.ext hxA
      obtain ⟨A3, c3, hv3⟩ := hr3.form
      subst hv3
      have hR := hq5.cls (by omega) (by omega) HQ.out.2.2
      have hszA := HKq.out.sz
      have hsz4 : wr.heap.size + 1 ≤ w3.heap.size := by have h := hx3.size; simp only [World.size_alloc] at h; exact h
      have hk1 := hq5.k1
      have hk3 := hq5.k3
      have k0 : w5.cell? ⟨K, 0, none⟩ = some (.slice Ad D.length cp) := hq5.mn.cell 0
      have k1 : w5.cell? ⟨K, 1, none⟩ = some (.slice none 0 0) := hq5.mn.cell 1
      have kf : w5.frozen? ⟨K, 1, none⟩ = false := hq5.mn.frozen 1
      go_upto_region 14 with fail
      obtain ⟨X, hX⟩ : ∃ X, w5.setCell ⟨K, 1, none⟩ (.slice A3 U.length c3) = X := ⟨_, rfl⟩
      have hgX : w5.grownBy X (some K) := by rw [← hX]; exact grown_set (World.grownBy.refl _ _) 1 _
      have hmX : Cls K 25 #[.slice Ad D.length cp, .slice A3 U.length c3] X := by rw [← hX]; exact hq5.mn.set 1 _
      have hRX : Cls (w.heap.size + 1 + 1) 25 #[.slice none 0 0, .slice none 0 0] X := Cls.kept hR hgX (fun e => by have := Option.some.inj e; omega)
      have hrt : RowT Wc.heap.size (.slice Ad D.length cp) D X := World.ownsRow.kept hq5.rt hgX (.inr (own_ge hq5.rt (by omega)).symm)
      have hrs : RowS w3.heap.size (.slice A3 U.length c3) U X := World.ownsRow.kept hr3 hgX (.inr (own_ge hr3 (by omega)).symm)
      have hxX : Ext w X := hq5.ex.grown hgX hk1
      have hWX : Wc.heap.size ≤ X.heap.size := Nat.le_trans hq5.sz hgX.size
      have hsz5 := hx5.size
      have hsw : w.heap.size ≤ w3.heap.size := by omega
      rw [hX]
      clear hX k0 k1 kf hgX hr3 hq5 hxA hx3 hx5 hry hR
      have k0 : X.cell? ⟨K, 0, none⟩ = some (.slice Ad D.length cp) := hmX.cell 0
      have k1 : X.cell? ⟨K, 1, none⟩ = some (.slice A3 U.length c3) := hmX.cell 1
      have g0 : X.cell? ⟨w.heap.size + 1 + 1, 0, none⟩ = some (.slice none 0 0) := hRX.cell 0
      have g1 : X.cell? ⟨w.heap.size + 1 + 1, 1, none⟩ = some (.slice none 0 0) := hRX.cell 1
      have f0 := hRX.frozen 0
      have f1 := hRX.frozen 1
      by_cases hbig : 24 < D.length ∨ 40 < U.length
      · have H1 := Lib.hid (HBIG.out hbig)
        by_cases h24 : 24 < D.length
        · clear hbig
          go_wp2_with fail
          rw [H1.out.1, H1.out.2]
          exact uni_ret rfl rfl ((hRX.set 0 (.slice none 0 0)).set 1 (.slice none 0 0)) (mins_nil _) ((hxX.setCell (by simp; omega) _).setCell (by simp; omega) _)
        · have h40 : 40 < U.length := by omega
          clear hbig
          go_wp2_with fail
          rw [H1.out.1, H1.out.2]
          exact uni_ret rfl rfl ((hRX.set 0 (.slice none 0 0)).set 1 (.slice none 0 0)) (mins_nil _) ((hxX.setCell (by simp; omega) _).setCell (by simp; omega) _)
      · have H1 := Lib.hid (HOKK.out hbig)
        have h24 : ¬ 24 < D.length := by omega
        have h40 : ¬ 40 < U.length := by omega
        clear hbig
        go_wp2_with fail
        rw [H1.out.1, H1.out.2]
        have hgg : X.grownBy ((X.setCell ⟨w.heap.size + 1 + 1, 0, none⟩ (.slice Ad D.length cp)).setCell ⟨w.heap.size + 1 + 1, 1, none⟩ (.slice A3 U.length c3)) (some (w.heap.size + 1 + 1)) := grown_set (grown_set (World.grownBy.refl _ _) 0 _) 1 _
        refine uni_ret rfl rfl ((hRX.set 0 (.slice Ad D.length cp)).set 1 (.slice A3 U.length c3)) ⟨?_, ?_⟩ ((hxX.setCell (by simp; omega) _).setCell (by simp; omega) _)
        · exact RowT.at_ (World.ownsRow.kept hrt hgg (.inr (own_ge hrt (by omega)).symm))
        · exact RowS.at_ (World.ownsRow.kept hrs hgg (.inr (own_ge hrs (by omega)).symm))

theorem Union_any (a b c d : Value) (A B : Mn) (w : World) (hA : MinsAt w a b A) (hB : MinsAt w c d B) :
    Calls Tryz.prog 6 #[.agg #[a, b], .agg #[c, d]] w (SetPost w (uniX A B) (uniE A B)) := by
  by_cases hcA : chkE A = 0
  · by_cases hcB : chkE B = 0
    · obtain ⟨aa, ca, rfl⟩ := hA.t.len
      obtain ⟨ab, cb, rfl⟩ := hA.s.len
      obtain ⟨ac, cc, rfl⟩ := hB.t.len
      obtain ⟨ad, cd, rfl⟩ := hB.s.len
      exact Union_main aa ab ac ad ca cb cc cd A B w hA hB hcA hcB
    · exact Union_err a b c d A B w hA hB (by unfold or2; rw [if_neg (by omega)]; exact hcB)
  · exact Union_err a b c d A B w hA hB (by unfold or2; rw [if_pos hcA]; exact hcA)
end Go.Proofs.YtejcmdoalhnpeaaGreatDoor
