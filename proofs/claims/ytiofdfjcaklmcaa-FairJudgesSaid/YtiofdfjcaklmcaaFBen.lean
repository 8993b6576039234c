/- bent of the laws: a sharing with labels of which something is changed. -/
import Derived.Test.YtiofdfjcaklmcaaFLbs
import Derived.Deep.AppendSrc
namespace Go.Proofs.Ytiofdfjcaklmcaa
open Go.RowKit Go.Shelf

theorem store_rowU {P : Program} {o : Oper} {a : Act} {w : World} {K : Act → World → Prop} {Q : Exit → Act → World → Prop} (ty : TypeId) (x y : Operand) (ho : o.op = .store ty x y)
    (g : Nat) (cells : Array Value) (hx : a.eval x = .pointer (some ⟨g, 0, none⟩)) (hy : a.eval y = .agg cells)
    (t : TypeId) (old : Array Value) (hg : Cls g t old w) (hi : (P.info? ty).map (·.size) = some cells.size)
    (hold : old.size = cells.size) (h1 : cells.all (·.oneCell') = true)
    (h : ∀ w', Cls g t cells w' → w.grownBy w' (some g) → K (a.put o.dst undef) w') : Oper.wp P o a w K Q := by
  refine wp_store_row ty x y ho g cells hx hy t old hg hi hold h1 (h _ ?_ ?_)
  · have := hg
    unfold Cls at this ⊢
    simp [World.setRow, Array.getElem?_modify, this]
  · refine ⟨rfl, rfl, rfl, by simp [World.setRow], fun i hi' hne => ?_⟩
    simp only [World.setRow]
    rw [Array.getElem?_modify, if_neg (fun e => hne (by rw [e]))]
theorem rowI_lt {n₀ : Nat} {v : Value} {l : List Int} {W : World} (h : RowI n₀ v l W) : v.ownBlock ≠ some W.heap.size := by
  intro e
  obtain ⟨cs, hc⟩ := rowI_not h e
  have := hc.lt
  omega
/-- append of a list to the empty literal: a row of its own, and nothing else turns -/
theorem run_append_lit0 (w : World) (ty : TypeId) (base b : Nat) (u : Value) (r : List Int) (hrow : RowI base (.slice (some ⟨b, 0, none⟩) 0 0) [] w) (hu : IntsAt w u r) (hb : base ≤ w.heap.size) (hl : r.length ≤ 2000000) :
    ∃ v' w', (Builtin.append_ #[46, 46] ty #[.slice (some ⟨b, 0, none⟩) 0 0, u]).run Try.prog w = .ok v' w' ∧ RowI base v' r w' ∧ Ext w w' ∧ (r = [] ∨ v'.ownBlock = some w.heap.size) := by
  obtain ⟨i0, hi0, hz0, hz1, hz2⟩ := info_parts infoInt
  have hu' := hu
  obtain ⟨ao, c, rfl, hc⟩ := hu.len
  by_cases hm : r.length = 0
  · have hn : r = [] := List.eq_nil_of_length_eq_zero hm
    subst hn
    have hsrc : Go.Src Try.prog i0.size 46 (.slice ao 0 c) 0 [] w := by
      cases ao with
      | none => exact Go.Src.ofNil w undInt c
      | some ad => exact Go.Src.ofSlice w undInt ad 0 c [] (by simp) (by simp) (by simp)
    exact ⟨_, w, run_append_nothing w 46 46 ty 3 i0 undInt hi0 _ 0 0 (Nat.le_refl _) _ hsrc, hrow, Ext.refl _, .inl rfl⟩
  · obtain ⟨v', w', h1, h2, h3, h4⟩ := run_append_ints w ty base (.slice none 0 0) _ [] r (rowI_nil _ _) hu' hb (by simpa using hl)
    obtain ⟨ad, hao, hcc⟩ := hu'.cells hm
    subst hao
    have hsrc : Go.Src Try.prog i0.size 46 (.slice (some ad) r.length c) r.length (cellsI r) w := Go.Src.ofSlice w undInt ad r.length c (cellsI r) (by rw [cellsI_len, hz1]; omega) hcc (cellsI_one r)
    have hfit : Builtin.nextslicecap (0 + r.length) 0 * i0.bytes ≤ 281474976710656 := growslice_fits (by omega) (by rw [hz2]; omega)
    have e1 := run_append_grow_src (P := Try.prog) w 46 46 ty 3 i0 _ undInt hi0 hz0 (some ⟨b, 0, none⟩) 0 0 [] (run_firstCells_some w.drew _ 0 ⟨b, 0, none⟩ 0 0 [] (by simp) (by simp)) _ r.length (cellsI r) hsrc (by omega) (by omega) hfit
    have e2 := run_append_grow_src (P := Try.prog) w 46 46 ty 3 i0 _ undInt hi0 hz0 none 0 0 [] (run_firstCells_none w.drew _ 0 0 0) _ r.length (cellsI r) hsrc (by omega) (by omega) hfit
    rw [List.nil_append] at h2
    rw [e2] at h1
    simp only [Result.ok.injEq] at h1
    refine ⟨v', w', ?_, h2, ext_own (Ext.refl _) (rowI_nil w.heap.size w) (Nat.le_refl _) h3, .inr ?_⟩
    · rw [e1, h1.1, h1.2]
    · rw [← h1.1]; rfl
theorem ints_nilLen {W : World} {W0 : World} {v : Value} {l : List Int} (h0 : l.length = 0) (h : IntsAt W0 v l) : IntsAt W v l := by
  obtain ⟨ao, c, h1, h2, _⟩ := h
  exact ⟨ao, c, h1, h2, fun i hi => absurd hi (by omega)⟩
theorem ints_tail {W : World} {c : Nat} {l : List Int} {b o : Nat} (h : IntsAt W (.slice (some ⟨b, o, none⟩) l.length c) l) (h0 : 0 < l.length) (hle : l.length ≤ c) : IntsAt W (.slice (some ⟨b, o + 1, none⟩) (l.length - 1) (c - 1)) l.tail := by
  have hl : l.tail.length = l.length - 1 := by simp
  refine ⟨_, _, by rw [hl], by rw [hl]; omega, fun i hi => ?_⟩
  have hi2 : i + 1 < l.length := by omega
  obtain ⟨b', o', he, hc⟩ := h.get (i + 1) hi2
  simp only [Option.some.injEq, Addr.mk.injEq, and_true] at he
  obtain ⟨rfl, rfl⟩ := he
  refine ⟨_, _, rfl, ?_⟩
  rw [show o + 1 + i = o + (i + 1) by omega, hc]
  simp
theorem rowI_setOther {n₀ g j : Nat} {v : Value} {l : List Int} {W : World} (h : RowI n₀ v l W) (hne : v.ownBlock ≠ some g) (u : Value) : RowI n₀ v l (W.setCell ⟨g, j, none⟩ u) := by
  refine ⟨h.1, ?_⟩
  rcases h.2 with h2 | ⟨b, cap, cur, hv, h1, h2, h3⟩
  · exact .inl h2
  · refine .inr ⟨b, cap, cur, hv, h1, ?_, h3⟩
    have hb : b ≠ g := fun e => hne (by rw [hv, ← e]; rfl)
    exact Cls.other (t := 3) h2 hb j u
def BenPost (w : World) (e : Ending) (w' : World) : Prop := ∃ u v G L, e = .returned (.agg #[u, v]) ∧ IntsAt w' u G ∧ IntsAt w' v L ∧ Ext w w'
theorem ben_ret {w W : World} {tmps : Array Value} {u v : Value} {G L : List Int} (h4 : tmps.getD 8 undef = .pointer (some ⟨w.heap.size + 1, 0, none⟩)) (hc : Cls (w.heap.size + 1) 71 #[u, v] W) (hx : Ext w W) (hu : IntsAt W u G) (hv : IntsAt W v L) :
    bodyPost Try.prog Try.f42 (BenPost w) Exit.ret { tmps := tmps, defers := [] } W := by
  have c0 : W.cell? ⟨w.heap.size + 1, 0, none⟩ = some u := hc.cell 0
  have c1 : W.cell? ⟨w.heap.size + 1, 1, none⟩ = some v := hc.cell 1
  have h4' : tmps[8]?.getD undef = .pointer (some ⟨w.heap.size + 1, 0, none⟩) := by simpa using h4
  exact bodyPost_ret (v := .agg #[u, v]) (by simp [results, Try.f42, go_sem, h4', c0, c1]) rfl ⟨u, v, G, L, rfl, hu, hv, hx⟩
set_option maxRecDepth 100000 in
set_option maxHeartbeats 8000000 in
theorem bent_any (gv lv : Value) (g L : List Int) (at_ what n : Int) (w : World) (hg : IntsAt w gv g) (hL : IntsAt w lv L) (hgl : g.length ≤ 1000) (hll : L.length ≤ 1000) (ha : 0 ≤ at_ ∧ at_ ≤ 255) (hw : 0 ≤ what ∧ what ≤ 255) :
    Calls Try.prog 42 #[.agg #[gv, lv], .int .u8 at_, .int .u8 what, .int .i64 n] w (BenPost w) := by
  obtain ⟨ga, gc, rfl, _⟩ := hg.len
  obtain ⟨la, lc, rfl, _⟩ := hL.len
  obtain ⟨r, hr, hr0⟩ : ∃ r : Int, what.tmod 4 = r ∧ (r = 0 ∨ r = 1 ∨ r = 2 ∨ r = 3) := by
    refine ⟨_, rfl, ?_⟩
    rw [Int.tmod_eq_emod_of_nonneg hw.1]
    omega
  have hwr : IntKind.u8.wrap r = r := by rcases hr0 with rfl | rfl | rfl | rfl <;> rfl
  have haw : IntKind.i64.wrap at_ = at_ := IntWalk.i64_in _ (by omega)
  go_enter Try.func42, Try.ntmps42
  obtain ⟨w1, hw1⟩ : ∃ W, (w.alloc (.cells #[.slice ga g.length gc, .slice la L.length lc] 71)).alloc (.cells #[.slice none 0 0, .slice none 0 0] 71) = W := ⟨_, rfl⟩
  have hx1 : Ext w w1 := by rw [← hw1]; exact (by repeat (first | exact Ext.refl _ | assumption | refine Ext.alloc ?_ _ | refine Ext.drew ?_ | refine Ext.drewN _ ?_ | refine Ext.trans ?_ (by assumption)))
  have qb : Cls w.heap.size 71 #[.slice ga g.length gc, .slice la L.length lc] w1 := by rw [← hw1]; exact (Cls.new _ _ _).ext (by repeat (first | exact Ext.refl _ | assumption | refine Ext.alloc ?_ _ | refine Ext.drew ?_ | refine Ext.drewN _ ?_ | refine Ext.trans ?_ (by assumption)))
  have q8 : Cls (w.heap.size + 1) 71 #[.slice none 0 0, .slice none 0 0] w1 := by rw [← hw1]; exact Cls.newAt _ _ _ (by simp)
  have d0 : w1.cell? ⟨w.heap.size, 0, none⟩ = some (.slice ga g.length gc) := qb.cell 0
  have d1 : w1.cell? ⟨w.heap.size, 1, none⟩ = some (.slice la L.length lc) := qb.cell 1
  have hsz : w1.heap.size = w.heap.size + 1 + 1 := by rw [← hw1]; simp
  have HSZ := Lib.hid hsz
  clear hsz qb
  go_upto_region 1 with fail
  clear hw1
  go_cut [9] (fun p W => ∃ (B : Nat) (x y : Value), p = .pointer (some ⟨B, 0, none⟩) ∧ Cls B 71 #[x, y] W ∧ RowI w1.heap.size x g W ∧ RowI w1.heap.size y L W ∧ (L = [] ∨ x.ownBlock ≠ y.ownBlock) ∧ Ext w1 W ∧ w1.heap.size ≤ B)
  case first =>
    refine wp_region_held_drew (S := fun W' => W'.cell? ⟨w.heap.size, 0, none⟩ = some (.slice ga g.length gc) ∧ W'.cell? ⟨w.heap.size, 1, none⟩ = some (.slice la L.length lc) ∧ Ext w1 W') (by kernel_rfl) ?_ (fun hHeld => ?_)
    · exact ⟨d0, d1, Ext.drew (Ext.refl _)⟩
    (refine tkH (i := 1) (v := ?_) rfl ?_ ?_; rotate_left 1; (focus (intro w hSw; (try dsimp only at hSw); go_simp; try (with_reducible rfl))))
    try simp only [Act.put, xA1, xA4]
    (refine tkH (i := 2) (v := ?_) rfl ?_ ?_; rotate_left 1; (focus (intro w hSw; (try dsimp only at hSw); go_simp; try (with_reducible rfl))))
    try simp only [Act.put, xA1, xA2, xA3, xA4, xA5, xA6]
    (refine tkH (i := 5) (v := ?_) rfl ?_ ?_; rotate_left 1; (focus (intro w hSw; (try dsimp only at hSw); go_simp; try (with_reducible rfl))))
    try simp only [Act.put, xA1, xA2, xA3, xA4, xA5, xA6]
    (refine tkH (i := 6) (v := ?_) rfl ?_ ?_; rotate_left 1; (focus (intro w hSw; (try dsimp only at hSw); go_simp; try (with_reducible rfl))))
    try simp only [Act.put, xA1, xA2, xA3, xA4, xA5, xA6]
    refine wpAnyH_from [(0, 10), (3, 13), (4, 14), (7, 17), (8, 18), (9, 9)] (fun j v c w => match j with | 0 => (c 10 = false → ∃ b, v 0 = .slice (some ⟨b, 0, none⟩) 0 0 ∧ RowI w1.heap.size (v 0) [] w) | 3 => (c 10 = false → RowI w1.heap.size (v 3) g w) | 4 => (c 10 = false → ∃ b, v 4 = .slice (some ⟨b, 0, none⟩) 0 0 ∧ RowI w1.heap.size (v 4) [] w) | 7 => (c 10 = false → RowI w1.heap.size (v 7) L w ∧ (L = [] ∨ (v 3).ownBlock ≠ (v 7).ownBlock)) | 8 => (c 10 = false → v 8 = .agg #[v 3, v 7]) | 9 => (∃ B, v 9 = .pointer (some ⟨B, 0, none⟩) ∧ w1.heap.size ≤ B ∧ (c 10 = false → Cls B 71 #[.slice none 0 0, .slice none 0 0] w) ∧ (c 10 = true → ∃ x y, Cls B 71 #[x, y] w ∧ RowI w1.heap.size x g w ∧ RowI w1.heap.size y L w ∧ (L = [] ∨ x.ownBlock ≠ y.ownBlock))) | 10 => (True) | _ => True) (fun W => Ext w1 W) [0, 3, 4, 7, 8, 9, 10] ?_ ?_ ?_ ?_ ?_ ?_ ?_ ?_ ?_ ?_ ?_
    · exact fun W h => ⟨Ext.cell h d0, Ext.cell h d1, h⟩
    · kernel_rfl
    · kernel_rfl
    · rfl
    · kernel_rfl
    · kernel_rfl
    · decide
    · exact Ext.drew (Ext.refl _)
    · refine StepsAll.cons rfl (fun v c W K hK hG hc hd hcl hF => ?_) ?_
      · simp only [putAll, List.setIfInBounds_toArray, List.set_cons_zero, List.set_cons_succ]
        go_simp
        obtain ⟨W', hN⟩ : ∃ X, W.alloc (.cells #[] 3) = X := ⟨_, rfl⟩
        have hz : Ext W W' := by rw [← hN]; exact (by repeat (first | exact Ext.refl _ | assumption | refine Ext.alloc ?_ _ | refine Ext.drew ?_ | refine Ext.drewN _ ?_ | refine Ext.trans ?_ (by assumption)))
        have hr : RowI w1.heap.size (.slice (some ⟨W.heap.size, 0, none⟩) 0 0) [] W' := by rw [← hN]; exact rowI_lit0 W hG.size
        rw [hN]
        refine hK.out (Value.slice (some ⟨W.heap.size, 0, none⟩) 0 0) _ _ (by kernel_rfl) (hG.trans hz) (fun j hj hcj => ?_)
        simp only [List.mem_cons, List.not_mem_nil, or_false] at hj
        rcases hj with rfl | rfl | rfl | rfl | rfl | rfl | rfl
        · show updN c 0 true 10 = false → ∃ b, (Value.slice (some ⟨W.heap.size, 0, none⟩) 0 0) = .slice (some ⟨b, 0, none⟩) 0 0 ∧ RowI w1.heap.size ((Value.slice (some ⟨W.heap.size, 0, none⟩) 0 0)) [] W'
          exact fun _ => ⟨_, rfl, hr⟩
        · have hP : c 10 = false → RowI w1.heap.size (v 3) g W := hF 3 (by simp) (by simpa [updN] using hcj)
          show updN c 0 true 10 = false → RowI w1.heap.size (v 3) g W'
          exact absurd (hcl 3 0 (by kernel_rfl) (by simpa [updN] using hcj)) (by rw [hc]; decide)
        · have hP : c 10 = false → ∃ b, v 4 = .slice (some ⟨b, 0, none⟩) 0 0 ∧ RowI w1.heap.size (v 4) [] W := hF 4 (by simp) (by simpa [updN] using hcj)
          show updN c 0 true 10 = false → ∃ b, v 4 = .slice (some ⟨b, 0, none⟩) 0 0 ∧ RowI w1.heap.size (v 4) [] W'
          exact fun h => (by obtain ⟨b, h1, h2⟩ := (hP (by simpa [updN] using h)); exact ⟨b, h1, rowI_ext h2 hz⟩)
        · have hP : c 10 = false → RowI w1.heap.size (v 7) L W ∧ (L = [] ∨ (v 3).ownBlock ≠ (v 7).ownBlock) := hF 7 (by simp) (by simpa [updN] using hcj)
          show updN c 0 true 10 = false → RowI w1.heap.size (v 7) L W' ∧ (L = [] ∨ (v 3).ownBlock ≠ (v 7).ownBlock)
          exact absurd (hcl 3 0 (by kernel_rfl) (hcl 7 3 (by kernel_rfl) (by simpa [updN] using hcj))) (by rw [hc]; decide)
        · have hP : c 10 = false → v 8 = .agg #[v 3, v 7] := hF 8 (by simp) (by simpa [updN] using hcj)
          show updN c 0 true 10 = false → v 8 = .agg #[v 3, v 7]
          exact absurd (hcl 3 0 (by kernel_rfl) (hcl 8 3 (by kernel_rfl) (by simpa [updN] using hcj))) (by rw [hc]; decide)
        · have hP : ∃ B, v 9 = .pointer (some ⟨B, 0, none⟩) ∧ w1.heap.size ≤ B ∧ (c 10 = false → Cls B 71 #[.slice none 0 0, .slice none 0 0] W) ∧ (c 10 = true → ∃ x y, Cls B 71 #[x, y] W ∧ RowI w1.heap.size x g W ∧ RowI w1.heap.size y L W ∧ (L = [] ∨ x.ownBlock ≠ y.ownBlock)) := hF 9 (by simp) (by simpa [updN] using hcj)
          show ∃ B, v 9 = .pointer (some ⟨B, 0, none⟩) ∧ w1.heap.size ≤ B ∧ (updN c 0 true 10 = false → Cls B 71 #[.slice none 0 0, .slice none 0 0] W') ∧ (updN c 0 true 10 = true → ∃ x y, Cls B 71 #[x, y] W' ∧ RowI w1.heap.size x g W' ∧ RowI w1.heap.size y L W' ∧ (L = [] ∨ x.ownBlock ≠ y.ownBlock))
          exact (by obtain ⟨B, h1, h2, h3, h4⟩ := hP; exact ⟨B, h1, h2, fun h => (h3 (by simpa [updN] using h)).ext hz, fun h => by obtain ⟨x, y, k1, k2, k3, k4⟩ := h4 (by simpa [updN] using h); exact ⟨x, y, k1.ext hz, rowI_ext k2 hz, rowI_ext k3 hz, k4⟩⟩)
        · trivial
      refine StepsAll.cons rfl (fun v c W K hK hG hc hd hcl hF => ?_) ?_
      · simp only [putAll, List.setIfInBounds_toArray, List.set_cons_zero, List.set_cons_succ]
        have h0 : c 10 = false → ∃ b, v 0 = .slice (some ⟨b, 0, none⟩) 0 0 ∧ RowI w1.heap.size (v 0) [] W := hF 0 (by simp) (hd 0 (by kernel_rfl))
        have hc10 : c 10 = false := Bool.eq_false_iff.2 (fun h => absurd (hcl 10 3 (by kernel_rfl) h) (by rw [hc]; decide))
        obtain ⟨b, e0, hr0⟩ := h0 hc10
        have e0' := e0
        rw [e0'] at hr0
        obtain ⟨v8, W', hrun, hr8, hz, ho⟩ := run_append_lit0 W 46 w1.heap.size b _ g hr0 (hg.ext (hx1.trans hG)) hG.size (by omega)
        rw [if_pos (by rfl)]
        refine oper_append _ _ 46 rfl _ _ v8 W' e0' rfl hrun ?_
        refine hK.out v8 _ _ (by kernel_rfl) (hG.trans hz) (fun j hj hcj => ?_)
        simp only [List.mem_cons, List.not_mem_nil, or_false] at hj
        rcases hj with rfl | rfl | rfl | rfl | rfl | rfl | rfl
        · have hP : c 10 = false → ∃ b, v 0 = .slice (some ⟨b, 0, none⟩) 0 0 ∧ RowI w1.heap.size (v 0) [] W := hF 0 (by simp) (by simpa [updN] using hcj)
          show updN c 3 true 10 = false → ∃ b, v 0 = .slice (some ⟨b, 0, none⟩) 0 0 ∧ RowI w1.heap.size (v 0) [] W'
          exact fun h => (by obtain ⟨b, h1, h2⟩ := (hP (by simpa [updN] using h)); exact ⟨b, h1, rowI_ext h2 hz⟩)
        · show updN c 3 true 10 = false → RowI w1.heap.size (v8) g W'
          exact fun _ => hr8
        · have hP : c 10 = false → ∃ b, v 4 = .slice (some ⟨b, 0, none⟩) 0 0 ∧ RowI w1.heap.size (v 4) [] W := hF 4 (by simp) (by simpa [updN] using hcj)
          show updN c 3 true 10 = false → ∃ b, v 4 = .slice (some ⟨b, 0, none⟩) 0 0 ∧ RowI w1.heap.size (v 4) [] W'
          exact fun h => (by obtain ⟨b, h1, h2⟩ := (hP (by simpa [updN] using h)); exact ⟨b, h1, rowI_ext h2 hz⟩)
        · have hP : c 10 = false → RowI w1.heap.size (v 7) L W ∧ (L = [] ∨ (v 3).ownBlock ≠ (v 7).ownBlock) := hF 7 (by simp) (by simpa [updN] using hcj)
          show updN c 3 true 10 = false → RowI w1.heap.size (v 7) L W' ∧ (L = [] ∨ (v8).ownBlock ≠ (v 7).ownBlock)
          exact absurd (hcl 7 3 (by kernel_rfl) (by simpa [updN] using hcj)) (by rw [hc]; decide)
        · have hP : c 10 = false → v 8 = .agg #[v 3, v 7] := hF 8 (by simp) (by simpa [updN] using hcj)
          show updN c 3 true 10 = false → v 8 = .agg #[v8, v 7]
          exact absurd (hcl 8 3 (by kernel_rfl) (by simpa [updN] using hcj)) (by rw [hc]; decide)
        · have hP : ∃ B, v 9 = .pointer (some ⟨B, 0, none⟩) ∧ w1.heap.size ≤ B ∧ (c 10 = false → Cls B 71 #[.slice none 0 0, .slice none 0 0] W) ∧ (c 10 = true → ∃ x y, Cls B 71 #[x, y] W ∧ RowI w1.heap.size x g W ∧ RowI w1.heap.size y L W ∧ (L = [] ∨ x.ownBlock ≠ y.ownBlock)) := hF 9 (by simp) (by simpa [updN] using hcj)
          show ∃ B, v 9 = .pointer (some ⟨B, 0, none⟩) ∧ w1.heap.size ≤ B ∧ (updN c 3 true 10 = false → Cls B 71 #[.slice none 0 0, .slice none 0 0] W') ∧ (updN c 3 true 10 = true → ∃ x y, Cls B 71 #[x, y] W' ∧ RowI w1.heap.size x g W' ∧ RowI w1.heap.size y L W' ∧ (L = [] ∨ x.ownBlock ≠ y.ownBlock))
          exact (by obtain ⟨B, h1, h2, h3, h4⟩ := hP; exact ⟨B, h1, h2, fun h => (h3 (by simpa [updN] using h)).ext hz, fun h => by obtain ⟨x, y, k1, k2, k3, k4⟩ := h4 (by simpa [updN] using h); exact ⟨x, y, k1.ext hz, rowI_ext k2 hz, rowI_ext k3 hz, k4⟩⟩)
        · trivial
      refine StepsAll.cons rfl (fun v c W K hK hG hc hd hcl hF => ?_) ?_
      · simp only [putAll, List.setIfInBounds_toArray, List.set_cons_zero, List.set_cons_succ]
        go_simp
        obtain ⟨W', hN⟩ : ∃ X, W.alloc (.cells #[] 3) = X := ⟨_, rfl⟩
        have hz : Ext W W' := by rw [← hN]; exact (by repeat (first | exact Ext.refl _ | assumption | refine Ext.alloc ?_ _ | refine Ext.drew ?_ | refine Ext.drewN _ ?_ | refine Ext.trans ?_ (by assumption)))
        have hr : RowI w1.heap.size (.slice (some ⟨W.heap.size, 0, none⟩) 0 0) [] W' := by rw [← hN]; exact rowI_lit0 W hG.size
        rw [hN]
        refine hK.out (Value.slice (some ⟨W.heap.size, 0, none⟩) 0 0) _ _ (by kernel_rfl) (hG.trans hz) (fun j hj hcj => ?_)
        simp only [List.mem_cons, List.not_mem_nil, or_false] at hj
        rcases hj with rfl | rfl | rfl | rfl | rfl | rfl | rfl
        · have hP : c 10 = false → ∃ b, v 0 = .slice (some ⟨b, 0, none⟩) 0 0 ∧ RowI w1.heap.size (v 0) [] W := hF 0 (by simp) (by simpa [updN] using hcj)
          show updN c 4 true 10 = false → ∃ b, v 0 = .slice (some ⟨b, 0, none⟩) 0 0 ∧ RowI w1.heap.size (v 0) [] W'
          exact fun h => (by obtain ⟨b, h1, h2⟩ := (hP (by simpa [updN] using h)); exact ⟨b, h1, rowI_ext h2 hz⟩)
        · have hP : c 10 = false → RowI w1.heap.size (v 3) g W := hF 3 (by simp) (by simpa [updN] using hcj)
          show updN c 4 true 10 = false → RowI w1.heap.size (v 3) g W'
          exact fun h => rowI_ext (hP (by simpa [updN] using h)) hz
        · show updN c 4 true 10 = false → ∃ b, (Value.slice (some ⟨W.heap.size, 0, none⟩) 0 0) = .slice (some ⟨b, 0, none⟩) 0 0 ∧ RowI w1.heap.size ((Value.slice (some ⟨W.heap.size, 0, none⟩) 0 0)) [] W'
          exact fun _ => ⟨_, rfl, hr⟩
        · have hP : c 10 = false → RowI w1.heap.size (v 7) L W ∧ (L = [] ∨ (v 3).ownBlock ≠ (v 7).ownBlock) := hF 7 (by simp) (by simpa [updN] using hcj)
          show updN c 4 true 10 = false → RowI w1.heap.size (v 7) L W' ∧ (L = [] ∨ (v 3).ownBlock ≠ (v 7).ownBlock)
          exact absurd (hcl 7 4 (by kernel_rfl) (by simpa [updN] using hcj)) (by rw [hc]; decide)
        · have hP : c 10 = false → v 8 = .agg #[v 3, v 7] := hF 8 (by simp) (by simpa [updN] using hcj)
          show updN c 4 true 10 = false → v 8 = .agg #[v 3, v 7]
          exact absurd (hcl 7 4 (by kernel_rfl) (hcl 8 7 (by kernel_rfl) (by simpa [updN] using hcj))) (by rw [hc]; decide)
        · have hP : ∃ B, v 9 = .pointer (some ⟨B, 0, none⟩) ∧ w1.heap.size ≤ B ∧ (c 10 = false → Cls B 71 #[.slice none 0 0, .slice none 0 0] W) ∧ (c 10 = true → ∃ x y, Cls B 71 #[x, y] W ∧ RowI w1.heap.size x g W ∧ RowI w1.heap.size y L W ∧ (L = [] ∨ x.ownBlock ≠ y.ownBlock)) := hF 9 (by simp) (by simpa [updN] using hcj)
          show ∃ B, v 9 = .pointer (some ⟨B, 0, none⟩) ∧ w1.heap.size ≤ B ∧ (updN c 4 true 10 = false → Cls B 71 #[.slice none 0 0, .slice none 0 0] W') ∧ (updN c 4 true 10 = true → ∃ x y, Cls B 71 #[x, y] W' ∧ RowI w1.heap.size x g W' ∧ RowI w1.heap.size y L W' ∧ (L = [] ∨ x.ownBlock ≠ y.ownBlock))
          exact (by obtain ⟨B, h1, h2, h3, h4⟩ := hP; exact ⟨B, h1, h2, fun h => (h3 (by simpa [updN] using h)).ext hz, fun h => by obtain ⟨x, y, k1, k2, k3, k4⟩ := h4 (by simpa [updN] using h); exact ⟨x, y, k1.ext hz, rowI_ext k2 hz, rowI_ext k3 hz, k4⟩⟩)
        · trivial
      refine StepsAll.cons rfl (fun v c W K hK hG hc hd hcl hF => ?_) ?_
      · simp only [putAll, List.setIfInBounds_toArray, List.set_cons_zero, List.set_cons_succ]
        have h3 : c 10 = false → RowI w1.heap.size (v 3) g W := hF 3 (by simp) (hd 3 (by kernel_rfl))
        have h4 : c 10 = false → ∃ b, v 4 = .slice (some ⟨b, 0, none⟩) 0 0 ∧ RowI w1.heap.size (v 4) [] W := hF 4 (by simp) (hd 4 (by kernel_rfl))
        have hc10 : c 10 = false := Bool.eq_false_iff.2 (fun h => absurd (hcl 10 7 (by kernel_rfl) h) (by rw [hc]; decide))
        obtain ⟨b, e0, hr0⟩ := h4 hc10
        have e0' := e0
        rw [e0'] at hr0
        obtain ⟨v8, W', hrun, hr8, hz, ho⟩ := run_append_lit0 W 46 w1.heap.size b _ L hr0 (hL.ext (hx1.trans hG)) hG.size (by omega)
        rw [if_pos (by rfl)]
        refine oper_append _ _ 46 rfl _ _ v8 W' e0' rfl hrun ?_
        have hr3 := h3 hc10
        refine hK.out v8 _ _ (by kernel_rfl) (hG.trans hz) (fun j hj hcj => ?_)
        simp only [List.mem_cons, List.not_mem_nil, or_false] at hj
        rcases hj with rfl | rfl | rfl | rfl | rfl | rfl | rfl
        · have hP : c 10 = false → ∃ b, v 0 = .slice (some ⟨b, 0, none⟩) 0 0 ∧ RowI w1.heap.size (v 0) [] W := hF 0 (by simp) (by simpa [updN] using hcj)
          show updN c 7 true 10 = false → ∃ b, v 0 = .slice (some ⟨b, 0, none⟩) 0 0 ∧ RowI w1.heap.size (v 0) [] W'
          exact fun h => (by obtain ⟨b, h1, h2⟩ := (hP (by simpa [updN] using h)); exact ⟨b, h1, rowI_ext h2 hz⟩)
        · have hP : c 10 = false → RowI w1.heap.size (v 3) g W := hF 3 (by simp) (by simpa [updN] using hcj)
          show updN c 7 true 10 = false → RowI w1.heap.size (v 3) g W'
          exact fun h => rowI_ext (hP (by simpa [updN] using h)) hz
        · have hP : c 10 = false → ∃ b, v 4 = .slice (some ⟨b, 0, none⟩) 0 0 ∧ RowI w1.heap.size (v 4) [] W := hF 4 (by simp) (by simpa [updN] using hcj)
          show updN c 7 true 10 = false → ∃ b, v 4 = .slice (some ⟨b, 0, none⟩) 0 0 ∧ RowI w1.heap.size (v 4) [] W'
          exact fun h => (by obtain ⟨b, h1, h2⟩ := (hP (by simpa [updN] using h)); exact ⟨b, h1, rowI_ext h2 hz⟩)
        · show updN c 7 true 10 = false → RowI w1.heap.size (v8) L W' ∧ (L = [] ∨ (v 3).ownBlock ≠ (v8).ownBlock)
          exact fun _ => ⟨hr8, ho.imp id (fun e => (by rw [e]; exact rowI_lt hr3))⟩
        · have hP : c 10 = false → v 8 = .agg #[v 3, v 7] := hF 8 (by simp) (by simpa [updN] using hcj)
          show updN c 7 true 10 = false → v 8 = .agg #[v 3, v8]
          exact absurd (hcl 8 7 (by kernel_rfl) (by simpa [updN] using hcj)) (by rw [hc]; decide)
        · have hP : ∃ B, v 9 = .pointer (some ⟨B, 0, none⟩) ∧ w1.heap.size ≤ B ∧ (c 10 = false → Cls B 71 #[.slice none 0 0, .slice none 0 0] W) ∧ (c 10 = true → ∃ x y, Cls B 71 #[x, y] W ∧ RowI w1.heap.size x g W ∧ RowI w1.heap.size y L W ∧ (L = [] ∨ x.ownBlock ≠ y.ownBlock)) := hF 9 (by simp) (by simpa [updN] using hcj)
          show ∃ B, v 9 = .pointer (some ⟨B, 0, none⟩) ∧ w1.heap.size ≤ B ∧ (updN c 7 true 10 = false → Cls B 71 #[.slice none 0 0, .slice none 0 0] W') ∧ (updN c 7 true 10 = true → ∃ x y, Cls B 71 #[x, y] W' ∧ RowI w1.heap.size x g W' ∧ RowI w1.heap.size y L W' ∧ (L = [] ∨ x.ownBlock ≠ y.ownBlock))
          exact (by obtain ⟨B, h1, h2, h3, h4⟩ := hP; exact ⟨B, h1, h2, fun h => (h3 (by simpa [updN] using h)).ext hz, fun h => by obtain ⟨x, y, k1, k2, k3, k4⟩ := h4 (by simpa [updN] using h); exact ⟨x, y, k1.ext hz, rowI_ext k2 hz, rowI_ext k3 hz, k4⟩⟩)
        · trivial
      refine StepsAll.cons rfl (fun v c W K hK hG hc hd hcl hF => ?_) ?_
      · simp only [putAll, List.setIfInBounds_toArray, List.set_cons_zero, List.set_cons_succ]
        have h3 : c 10 = false → RowI w1.heap.size (v 3) g W := hF 3 (by simp) (hd 3 (by kernel_rfl))
        have h7 : c 10 = false → RowI w1.heap.size (v 7) L W ∧ (L = [] ∨ (v 3).ownBlock ≠ (v 7).ownBlock) := hF 7 (by simp) (hd 7 (by kernel_rfl))
        have hc10 : c 10 = false := Bool.eq_false_iff.2 (fun h => absurd (hcl 10 8 (by kernel_rfl) h) (by rw [hc]; decide))
        obtain ⟨A1, c1, e1⟩ := RowI.form (h3 hc10)
        obtain ⟨A2, c2, e2⟩ := RowI.form (h7 hc10).1
        simp only [e1, e2]
        go_simp
        refine hK.out (Value.agg #[.slice A1 g.length c1, .slice A2 L.length c2]) _ _ (by simp [putAll, updN, e1, e2]) (hG) (fun j hj hcj => ?_)
        simp only [List.mem_cons, List.not_mem_nil, or_false] at hj
        rcases hj with rfl | rfl | rfl | rfl | rfl | rfl | rfl
        · have hP : c 10 = false → ∃ b, v 0 = .slice (some ⟨b, 0, none⟩) 0 0 ∧ RowI w1.heap.size (v 0) [] W := hF 0 (by simp) (by simpa [updN] using hcj)
          show updN c 8 true 10 = false → ∃ b, v 0 = .slice (some ⟨b, 0, none⟩) 0 0 ∧ RowI w1.heap.size (v 0) [] W
          exact fun h => hP (by simpa [updN] using h)
        · have hP : c 10 = false → RowI w1.heap.size (v 3) g W := hF 3 (by simp) (by simpa [updN] using hcj)
          show updN c 8 true 10 = false → RowI w1.heap.size (v 3) g W
          exact fun h => hP (by simpa [updN] using h)
        · have hP : c 10 = false → ∃ b, v 4 = .slice (some ⟨b, 0, none⟩) 0 0 ∧ RowI w1.heap.size (v 4) [] W := hF 4 (by simp) (by simpa [updN] using hcj)
          show updN c 8 true 10 = false → ∃ b, v 4 = .slice (some ⟨b, 0, none⟩) 0 0 ∧ RowI w1.heap.size (v 4) [] W
          exact fun h => hP (by simpa [updN] using h)
        · have hP : c 10 = false → RowI w1.heap.size (v 7) L W ∧ (L = [] ∨ (v 3).ownBlock ≠ (v 7).ownBlock) := hF 7 (by simp) (by simpa [updN] using hcj)
          show updN c 8 true 10 = false → RowI w1.heap.size (v 7) L W ∧ (L = [] ∨ (v 3).ownBlock ≠ (v 7).ownBlock)
          exact fun h => hP (by simpa [updN] using h)
        · show updN c 8 true 10 = false → (Value.agg #[.slice A1 g.length c1, .slice A2 L.length c2]) = .agg #[v 3, v 7]
          exact fun _ => (by rw [e1, e2])
        · have hP : ∃ B, v 9 = .pointer (some ⟨B, 0, none⟩) ∧ w1.heap.size ≤ B ∧ (c 10 = false → Cls B 71 #[.slice none 0 0, .slice none 0 0] W) ∧ (c 10 = true → ∃ x y, Cls B 71 #[x, y] W ∧ RowI w1.heap.size x g W ∧ RowI w1.heap.size y L W ∧ (L = [] ∨ x.ownBlock ≠ y.ownBlock)) := hF 9 (by simp) (by simpa [updN] using hcj)
          show ∃ B, v 9 = .pointer (some ⟨B, 0, none⟩) ∧ w1.heap.size ≤ B ∧ (updN c 8 true 10 = false → Cls B 71 #[.slice none 0 0, .slice none 0 0] W) ∧ (updN c 8 true 10 = true → ∃ x y, Cls B 71 #[x, y] W ∧ RowI w1.heap.size x g W ∧ RowI w1.heap.size y L W ∧ (L = [] ∨ x.ownBlock ≠ y.ownBlock))
          exact (by obtain ⟨B, h1, h2, h3, h4⟩ := hP; exact ⟨B, h1, h2, fun h => h3 (by simpa [updN] using h), fun h => h4 (by simpa [updN] using h)⟩)
        · trivial
      refine StepsAll.cons rfl (fun v c W K hK hG hc hd hcl hF => ?_) ?_
      · simp only [putAll, List.setIfInBounds_toArray, List.set_cons_zero, List.set_cons_succ]
        go_simp
        obtain ⟨W', hN⟩ : ∃ X, W.alloc (.cells #[.slice none 0 0, .slice none 0 0] 71) = X := ⟨_, rfl⟩
        have hz : Ext W W' := by rw [← hN]; exact (by repeat (first | exact Ext.refl _ | assumption | refine Ext.alloc ?_ _ | refine Ext.drew ?_ | refine Ext.drewN _ ?_ | refine Ext.trans ?_ (by assumption)))
        have hB : Cls W.heap.size 71 #[.slice none 0 0, .slice none 0 0] W' := by rw [← hN]; exact Cls.new _ _ _
        rw [hN]
        refine hK.out (Value.pointer (some ⟨W.heap.size, 0, none⟩)) _ _ (by kernel_rfl) (hG.trans hz) (fun j hj hcj => ?_)
        simp only [List.mem_cons, List.not_mem_nil, or_false] at hj
        rcases hj with rfl | rfl | rfl | rfl | rfl | rfl | rfl
        · have hP : c 10 = false → ∃ b, v 0 = .slice (some ⟨b, 0, none⟩) 0 0 ∧ RowI w1.heap.size (v 0) [] W := hF 0 (by simp) (by simpa [updN] using hcj)
          show updN c 9 true 10 = false → ∃ b, v 0 = .slice (some ⟨b, 0, none⟩) 0 0 ∧ RowI w1.heap.size (v 0) [] W'
          exact fun h => (by obtain ⟨b, h1, h2⟩ := (hP (by simpa [updN] using h)); exact ⟨b, h1, rowI_ext h2 hz⟩)
        · have hP : c 10 = false → RowI w1.heap.size (v 3) g W := hF 3 (by simp) (by simpa [updN] using hcj)
          show updN c 9 true 10 = false → RowI w1.heap.size (v 3) g W'
          exact fun h => rowI_ext (hP (by simpa [updN] using h)) hz
        · have hP : c 10 = false → ∃ b, v 4 = .slice (some ⟨b, 0, none⟩) 0 0 ∧ RowI w1.heap.size (v 4) [] W := hF 4 (by simp) (by simpa [updN] using hcj)
          show updN c 9 true 10 = false → ∃ b, v 4 = .slice (some ⟨b, 0, none⟩) 0 0 ∧ RowI w1.heap.size (v 4) [] W'
          exact fun h => (by obtain ⟨b, h1, h2⟩ := (hP (by simpa [updN] using h)); exact ⟨b, h1, rowI_ext h2 hz⟩)
        · have hP : c 10 = false → RowI w1.heap.size (v 7) L W ∧ (L = [] ∨ (v 3).ownBlock ≠ (v 7).ownBlock) := hF 7 (by simp) (by simpa [updN] using hcj)
          show updN c 9 true 10 = false → RowI w1.heap.size (v 7) L W' ∧ (L = [] ∨ (v 3).ownBlock ≠ (v 7).ownBlock)
          exact fun h => ⟨rowI_ext (hP (by simpa [updN] using h)).1 hz, (hP (by simpa [updN] using h)).2⟩
        · have hP : c 10 = false → v 8 = .agg #[v 3, v 7] := hF 8 (by simp) (by simpa [updN] using hcj)
          show updN c 9 true 10 = false → v 8 = .agg #[v 3, v 7]
          exact fun h => (hP (by simpa [updN] using h))
        · show ∃ B, (Value.pointer (some ⟨W.heap.size, 0, none⟩)) = .pointer (some ⟨B, 0, none⟩) ∧ w1.heap.size ≤ B ∧ (updN c 9 true 10 = false → Cls B 71 #[.slice none 0 0, .slice none 0 0] W') ∧ (updN c 9 true 10 = true → ∃ x y, Cls B 71 #[x, y] W' ∧ RowI w1.heap.size x g W' ∧ RowI w1.heap.size y L W' ∧ (L = [] ∨ x.ownBlock ≠ y.ownBlock))
          exact ⟨W.heap.size, rfl, hG.size, fun _ => hB, fun h => absurd (hcl 10 9 (by kernel_rfl) (by simpa [updN] using h)) (by rw [hc]; decide)⟩
        · trivial
      refine StepsAll.cons rfl (fun v c W K hK hG hc hd hcl hF => ?_) ?_
      · simp only [putAll, List.setIfInBounds_toArray, List.set_cons_zero, List.set_cons_succ]
        have h3 : c 10 = false → RowI w1.heap.size (v 3) g W := hF 3 (by simp) (hd 3 (by kernel_rfl))
        have h7 : c 10 = false → RowI w1.heap.size (v 7) L W ∧ (L = [] ∨ (v 3).ownBlock ≠ (v 7).ownBlock) := hF 7 (by simp) (hd 7 (by kernel_rfl))
        have h8 : c 10 = false → v 8 = .agg #[v 3, v 7] := hF 8 (by simp) (hd 8 (by kernel_rfl))
        have h9 : ∃ B, v 9 = .pointer (some ⟨B, 0, none⟩) ∧ w1.heap.size ≤ B ∧ (c 10 = false → Cls B 71 #[.slice none 0 0, .slice none 0 0] W) ∧ (c 10 = true → ∃ x y, Cls B 71 #[x, y] W ∧ RowI w1.heap.size x g W ∧ RowI w1.heap.size y L W ∧ (L = [] ∨ x.ownBlock ≠ y.ownBlock)) := hF 9 (by simp) (hd 9 (by kernel_rfl))
        obtain ⟨B, e9, hB0, hB1, _⟩ := h9
        have hcB := hB1 hc
        obtain ⟨A1, c1, e1⟩ := RowI.form (h3 hc)
        obtain ⟨A2, c2, e2⟩ := RowI.form (h7 hc).1
        have e8 := h8 hc
        have r3 := h3 hc
        have r7 := h7 hc
        rw [e1] at e8 r3
        rw [e2] at e8 r7
        rw [e1] at r7
        rw [if_pos (by rfl)]
        refine store_rowU 71 _ _ rfl B #[.slice A1 g.length c1, .slice A2 L.length c2] e9 e8 71 _ hcB (by kernel_rfl) rfl (by simp [Value.oneCell']) (fun W' hC hg => ?_)
        refine hK.out undef _ _ (by kernel_rfl) (hG.grown hg hB0) (fun j hj hcj => ?_)
        simp only [List.mem_cons, List.not_mem_nil, or_false] at hj
        rcases hj with rfl | rfl | rfl | rfl | rfl | rfl | rfl
        · have hP : c 10 = false → ∃ b, v 0 = .slice (some ⟨b, 0, none⟩) 0 0 ∧ RowI w1.heap.size (v 0) [] W := hF 0 (by simp) (by simpa [updN] using hcj)
          show updN c 10 true 10 = false → ∃ b, v 0 = .slice (some ⟨b, 0, none⟩) 0 0 ∧ RowI w1.heap.size (v 0) [] W'
          exact fun h => absurd h (by simp [updN])
        · have hP : c 10 = false → RowI w1.heap.size (v 3) g W := hF 3 (by simp) (by simpa [updN] using hcj)
          show updN c 10 true 10 = false → RowI w1.heap.size (v 3) g W'
          exact fun h => absurd h (by simp [updN])
        · have hP : c 10 = false → ∃ b, v 4 = .slice (some ⟨b, 0, none⟩) 0 0 ∧ RowI w1.heap.size (v 4) [] W := hF 4 (by simp) (by simpa [updN] using hcj)
          show updN c 10 true 10 = false → ∃ b, v 4 = .slice (some ⟨b, 0, none⟩) 0 0 ∧ RowI w1.heap.size (v 4) [] W'
          exact fun h => absurd h (by simp [updN])
        · have hP : c 10 = false → RowI w1.heap.size (v 7) L W ∧ (L = [] ∨ (v 3).ownBlock ≠ (v 7).ownBlock) := hF 7 (by simp) (by simpa [updN] using hcj)
          show updN c 10 true 10 = false → RowI w1.heap.size (v 7) L W' ∧ (L = [] ∨ (v 3).ownBlock ≠ (v 7).ownBlock)
          exact fun h => absurd h (by simp [updN])
        · have hP : c 10 = false → v 8 = .agg #[v 3, v 7] := hF 8 (by simp) (by simpa [updN] using hcj)
          show updN c 10 true 10 = false → v 8 = .agg #[v 3, v 7]
          exact fun h => absurd h (by simp [updN])
        · have hP : ∃ B, v 9 = .pointer (some ⟨B, 0, none⟩) ∧ w1.heap.size ≤ B ∧ (c 10 = false → Cls B 71 #[.slice none 0 0, .slice none 0 0] W) ∧ (c 10 = true → ∃ x y, Cls B 71 #[x, y] W ∧ RowI w1.heap.size x g W ∧ RowI w1.heap.size y L W ∧ (L = [] ∨ x.ownBlock ≠ y.ownBlock)) := hF 9 (by simp) (by simpa [updN] using hcj)
          show ∃ B, v 9 = .pointer (some ⟨B, 0, none⟩) ∧ w1.heap.size ≤ B ∧ (updN c 10 true 10 = false → Cls B 71 #[.slice none 0 0, .slice none 0 0] W') ∧ (updN c 10 true 10 = true → ∃ x y, Cls B 71 #[x, y] W' ∧ RowI w1.heap.size x g W' ∧ RowI w1.heap.size y L W' ∧ (L = [] ∨ x.ownBlock ≠ y.ownBlock))
          exact (by obtain ⟨B', h1, h2, _, _⟩ := hP; have hBB : B = B' := (by rw [e9] at h1; simpa using h1); subst hBB; exact ⟨B, e9, h2, fun h => absurd h (by simp [updN]), fun _ => ⟨_, _, hC, rowI_kept r3 hg (rowI_ne r3 hcB (by decide)), rowI_kept r7.1 hg (rowI_ne r7.1 hcB (by decide)), r7.2⟩⟩)
        · show True
          exact trivial
      exact StepsAll.nil
    rotate_left 1
    · kernel_rfl
    · intro v W hG hF
      have h0 : true = false → ∃ b, v 0 = .slice (some ⟨b, 0, none⟩) 0 0 ∧ RowI w1.heap.size (v 0) [] W := hF 0 (by simp)
      have h3 : true = false → RowI w1.heap.size (v 3) g W := hF 3 (by simp)
      have h4 : true = false → ∃ b, v 4 = .slice (some ⟨b, 0, none⟩) 0 0 ∧ RowI w1.heap.size (v 4) [] W := hF 4 (by simp)
      have h7 : true = false → RowI w1.heap.size (v 7) L W ∧ (L = [] ∨ (v 3).ownBlock ≠ (v 7).ownBlock) := hF 7 (by simp)
      have h8 : true = false → v 8 = .agg #[v 3, v 7] := hF 8 (by simp)
      have h9 : ∃ B, v 9 = .pointer (some ⟨B, 0, none⟩) ∧ w1.heap.size ≤ B ∧ (true = false → Cls B 71 #[.slice none 0 0, .slice none 0 0] W) ∧ (true = true → ∃ x y, Cls B 71 #[x, y] W ∧ RowI w1.heap.size x g W ∧ RowI w1.heap.size y L W ∧ (L = [] ∨ x.ownBlock ≠ y.ownBlock)) := hF 9 (by simp)
      have h10 : True := hF 10 (by simp)
      simp only [putAll, List.setIfInBounds_toArray, List.set_cons_zero, List.set_cons_succ]
      obtain ⟨B, e9, hB0, _, hB⟩ := h9
      obtain ⟨x, y, hBx, hxr, hyr, hne⟩ := hB rfl
      simp only [e9]
      go_wp2_with fail
      go_meet
      case rel => exact ⟨B, x, y, rfl, hBx, hxr, hyr, hne, hG, hB0⟩
  case rest =>
    obtain ⟨B, x, y, rfl, hb, hxr, hyr, hne, hxw, hB0⟩ := hcut
    obtain ⟨xA, xc, rfl⟩ := RowI.form hxr
    obtain ⟨yA, yc, rfl⟩ := RowI.form hyr
    replace q8 := q8.ext hxw
    have hx := hx1.trans hxw
    have b0 : wc.cell? ⟨B, 0, none⟩ = some (.slice xA g.length xc) := hb.cell 0
    have b1 : wc.cell? ⟨B, 1, none⟩ = some (.slice yA L.length yc) := hb.cell 1
    have fb0 := hb.frozen 0
    have fb1 := hb.frozen 1
    have hB8 : w.heap.size + 1 < B := by have := HSZ.out; omega
    clear d0 d1 hxw hx1 hg hL
    have hu0 := RowI.at_ hxr
    have hv0 := RowI.at_ hyr
    by_cases h1 : r = 1 ∧ 0 < g.length
    · obtain ⟨rfl, hgp⟩ := h1
      have hbg : decide ((g.length : Int) > 0) = true := decide_eq_true (by omega)
      obtain ⟨q, hq, hql⟩ : ∃ q : Nat, at_.tmod g.length = q ∧ q < g.length := by
        rw [Int.tmod_eq_emod_of_nonneg ha.1]
        have h1 := Int.emod_nonneg at_ (show (g.length : Int) ≠ 0 by omega)
        have h2 := Int.emod_lt_of_pos at_ (show (0 : Int) < g.length by omega)
        exact ⟨(at_ % g.length).toNat, by omega, by omega⟩
      have hqw : IntKind.i64.wrap (q : Int) = q := IntWalk.i64_in _ (by omega)
      have hn0 : ¬ ((g.length : Int) = 0) := by omega
      have hn0b : ((g.length : Int) == 0) = false := by rw [beq_eq_false_iff_ne]; omega
      have hqg : (q : Int) < g.length := by omega
      have hgn : ¬ g = [] := fun e => by rw [e] at hgp; simp at hgp
      obtain ⟨gx, gxc, gcs, hv, hgx, hgb⟩ := rowI_cls hxr hgp
      simp only [Value.slice.injEq] at hv
      obtain ⟨rfl, _, rfl⟩ := hv
      have cz := (rowI_frz hxr hql).1
      obtain ⟨z, hz⟩ : ∃ z, g[q] = z := ⟨_, rfl⟩
      rw [hz] at cz
      clear hz hbg hgp
      have hbg : decide ((g.length : Int) > 0) = true := decide_eq_true (by omega)
      go_upto_region 3 with fail
      refine wp_region_last (z := 10) (S := fun W' => W'.cell? ⟨B, 0, none⟩ = some (.slice (some ⟨gx, 0, none⟩) g.length xc) ∧ W'.cell? ⟨gx, q, none⟩ = some (.int .i64 z) ∧ Ext wc W') (by kernel_rfl) ?_ (fun hHeld => ?_)
      · exact ⟨b0, cz, Ext.drew (Ext.refl _)⟩
      obtain ⟨V0, hV0⟩ : ∃ V, World.drew wc = V := ⟨_, rfl⟩
      rw [hV0] at hHeld ⊢
      clear hV0
      (refine tkL (i := 0) (v := ?_) rfl ?_ ?_; rotate_left 1; (focus (intro w hSw; (try dsimp only at hSw); go_simp; try (with_reducible rfl))))
      try simp only [Act.put, xA1, xA2, xA4, xA5, xA6]
      (refine tkL (i := 1) (v := ?_) rfl ?_ ?_; rotate_left 1; (focus (intro w hSw; (try dsimp only at hSw); go_simp; try (with_reducible rfl))))
      try simp only [Act.put, xA1, xA2, xA3, xA4, xA5, xA6]
      (refine tkL (i := 2) (v := ?_) rfl ?_ ?_; rotate_left 1; (focus (intro w hSw; (try dsimp only at hSw); go_simp; try (with_reducible rfl))))
      try simp only [Act.put, xA1, xA2, xA3, xA4, xA5, xA6]
      (refine tkL (i := 3) (v := ?_) rfl ?_ ?_; rotate_left 1; (focus (intro w hSw; (try dsimp only at hSw); go_simp; try (with_reducible rfl))))
      try simp only [Act.put, xA1, xA2, xA3, xA4, xA5, xA6]
      (refine tkL (i := 4) (v := ?_) rfl ?_ ?_; rotate_left 1; (focus (intro w hSw; (try dsimp only at hSw); go_simp; try (with_reducible rfl))))
      try simp only [Act.put, xA1, xA2, xA3, xA4, xA5, xA6]
      (refine tkL (i := 5) (v := ?_) rfl ?_ ?_; rotate_left 1; (focus (intro w hSw; (try dsimp only at hSw); go_simp; try (with_reducible rfl))))
      try simp only [Act.put, xA1, xA2, xA3, xA4, xA5, xA6]
      (refine tkL (i := 6) (v := ?_) rfl ?_ ?_; rotate_left 1; (focus (intro w hSw; (try dsimp only at hSw); go_simp; try (with_reducible rfl))))
      try simp only [Act.put, xA1, xA2, xA3, xA4, xA5, xA6]
      (refine tkL (i := 7) (v := ?_) rfl ?_ ?_; rotate_left 1; (focus (intro w hSw; (try dsimp only at hSw); go_simp; try (with_reducible rfl))))
      try simp only [Act.put, xA1, xA2, xA3, xA4, xA5, xA6]
      (refine tkL (i := 8) (v := ?_) rfl ?_ ?_; rotate_left 1; (focus (intro w hSw; (try dsimp only at hSw); go_simp; try (with_reducible rfl))))
      try simp only [Act.put, xA1, xA2, xA3, xA4, xA5, xA6]
      (refine tkL (i := 9) (v := ?_) rfl ?_ ?_; rotate_left 1; (focus (intro w hSw; (try dsimp only at hSw); go_simp; try (with_reducible rfl))))
      try simp only [Act.put, xA1, xA2, xA3, xA4, xA5, xA6]
      refine wpAnyL_one (i := 10) (by kernel_rfl) rfl (fun K hK => ?_)
      have k2 := (hgx.ext hHeld.2.2).frozen q
      have k3 := hHeld.2.1
      go_simp
      refine hK.out _ _ (fun h => absurd rfl h) (fun _ => ?_)
      clear hK K
      try simp only [Act.put, xA1, xA2, xA3, xA4, xA5, xA6]
      refine wpAnyL_done (by kernel_rfl) ?_ _
      have hzz := hHeld.2.2
      obtain ⟨WW, hWW⟩ : ∃ W, V0 = W := ⟨_, rfl⟩
      rw [hWW] at hzz ⊢
      clear hHeld hWW
      have hRx := rowI_set (j := q) (rowI_ext hxr hzz) n
      have hVy : IntsAt (WW.setCell ⟨gx, q, none⟩ (.int .i64 n)) (.slice yA L.length yc) L := by
        rcases hne with e | e
        · exact ints_nilLen (by rw [e]; rfl) (RowI.at_ hyr)
        · exact RowI.at_ (rowI_setOther (rowI_ext hyr hzz) (fun h => e h.symm) _)
      obtain ⟨Y, hY⟩ : ∃ W, WW.setCell ⟨gx, q, none⟩ (.int .i64 n) = W := ⟨_, rfl⟩
      have hBg : B ≠ gx := fun e => by subst e; exact absurd (hb.symm.trans hgx) (by simp)
      have hq8g : w.heap.size + 1 ≠ gx := by have := HSZ.out; omega
      have Q8 : Cls (w.heap.size + 1) 71 #[.slice none 0 0, .slice none 0 0] Y := by rw [← hY]; exact (q8.ext hzz).other hq8g _ _
      have QB : Cls B 71 #[.slice (some ⟨gx, 0, none⟩) g.length xc, .slice yA L.length yc] Y := by rw [← hY]; exact (hb.ext hzz).other hBg _ _
      have hxY : Ext w Y := by rw [← hY]; exact (hx.trans hzz).setCell (by have := HSZ.out; simp; omega) _
      rw [hY] at hRx hVy
      have hu := RowI.at_ hRx
      have k0 := QB.cell 0
      have k1 := QB.cell 1
      clear b0 b1 fb0 fb1 cz hu0 hv0
      have q80 := Q8.cell 0
      have q81 := Q8.cell 1
      have f80 := Q8.frozen 0
      have f81 := Q8.frozen 1
      clear hgl hll
      go_wp2_with fail
      exact ben_ret (G := g.set q n) (L := L) (u := .slice (some ⟨gx, 0, none⟩) g.length xc) (v := .slice yA L.length yc) rfl ((Q8.set 0 _).set 1 _) (((hxY).setCell (by simp) _).setCell (by simp) _) (ints_setC (ints_setC hu Q8 (by simp) (by simp)) (Q8.set 0 _) (by simp) (by simp)) (ints_setC (ints_setC hVy Q8 (by simp) (by simp)) (Q8.set 0 _) (by simp) (by simp))
    by_cases h2 : r = 2 ∧ 0 < L.length
    · obtain ⟨rfl, hgp⟩ := h2
      have hbg : decide ((L.length : Int) > 0) = true := decide_eq_true (by omega)
      obtain ⟨q, hq, hql⟩ : ∃ q : Nat, at_.tmod L.length = q ∧ q < L.length := by
        rw [Int.tmod_eq_emod_of_nonneg ha.1]
        have h1 := Int.emod_nonneg at_ (show (L.length : Int) ≠ 0 by omega)
        have h2 := Int.emod_lt_of_pos at_ (show (0 : Int) < L.length by omega)
        exact ⟨(at_ % L.length).toNat, by omega, by omega⟩
      have hqw : IntKind.i64.wrap (q : Int) = q := IntWalk.i64_in _ (by omega)
      have hn0 : ¬ ((L.length : Int) = 0) := by omega
      have hn0b : ((L.length : Int) == 0) = false := by rw [beq_eq_false_iff_ne]; omega
      have hqg : (q : Int) < L.length := by omega
      have hgn : ¬ L = [] := fun e => by rw [e] at hgp; simp at hgp
      obtain ⟨gy, gyc, gcs, hv, hgy, hgb⟩ := rowI_cls hyr hgp
      simp only [Value.slice.injEq] at hv
      obtain ⟨rfl, _, rfl⟩ := hv
      have cz := (rowI_frz hyr hql).1
      obtain ⟨z, hz⟩ : ∃ z, L[q] = z := ⟨_, rfl⟩
      rw [hz] at cz
      clear hz hgp
      go_upto_region 5 with fail
      refine wp_region_last (z := 13) (S := fun W' => W'.cell? ⟨B, 1, none⟩ = some (.slice (some ⟨gy, 0, none⟩) L.length yc) ∧ W'.cell? ⟨gy, q, none⟩ = some (.int .i64 z) ∧ Ext wc W') (by kernel_rfl) ?_ (fun hHeld => ?_)
      · exact ⟨b1, cz, Ext.drew (Ext.refl _)⟩
      obtain ⟨V0, hV0⟩ : ∃ V, World.drew wc = V := ⟨_, rfl⟩
      rw [hV0] at hHeld ⊢
      clear hV0
      (refine tkL (i := 0) (v := ?_) rfl ?_ ?_; rotate_left 1; (focus (intro w hSw; (try dsimp only at hSw); go_simp; try (with_reducible rfl))))
      try simp only [Act.put, xA1, xA2, xA4, xA5, xA6]
      (refine tkL (i := 1) (v := ?_) rfl ?_ ?_; rotate_left 1; (focus (intro w hSw; (try dsimp only at hSw); go_simp; try (with_reducible rfl))))
      try simp only [Act.put, xA1, xA2, xA3, xA4, xA5, xA6]
      (refine tkL (i := 2) (v := ?_) rfl ?_ ?_; rotate_left 1; (focus (intro w hSw; (try dsimp only at hSw); go_simp; try (with_reducible rfl))))
      try simp only [Act.put, xA1, xA2, xA3, xA4, xA5, xA6]
      (refine tkL (i := 3) (v := ?_) rfl ?_ ?_; rotate_left 1; (focus (intro w hSw; (try dsimp only at hSw); go_simp; try (with_reducible rfl))))
      try simp only [Act.put, xA1, xA2, xA3, xA4, xA5, xA6]
      (refine tkL (i := 4) (v := ?_) rfl ?_ ?_; rotate_left 1; (focus (intro w hSw; (try dsimp only at hSw); go_simp; try (with_reducible rfl))))
      try simp only [Act.put, xA1, xA2, xA3, xA4, xA5, xA6]
      (refine tkL (i := 5) (v := ?_) rfl ?_ ?_; rotate_left 1; (focus (intro w hSw; (try dsimp only at hSw); go_simp; try (with_reducible rfl))))
      try simp only [Act.put, xA1, xA2, xA3, xA4, xA5, xA6]
      (refine tkL (i := 6) (v := ?_) rfl ?_ ?_; rotate_left 1; (focus (intro w hSw; (try dsimp only at hSw); go_simp; try (with_reducible rfl))))
      try simp only [Act.put, xA1, xA2, xA3, xA4, xA5, xA6]
      (refine tkL (i := 7) (v := ?_) rfl ?_ ?_; rotate_left 1; (focus (intro w hSw; (try dsimp only at hSw); go_simp; try (with_reducible rfl))))
      try simp only [Act.put, xA1, xA2, xA3, xA4, xA5, xA6]
      (refine tkL (i := 8) (v := ?_) rfl ?_ ?_; rotate_left 1; (focus (intro w hSw; (try dsimp only at hSw); go_simp; try (with_reducible rfl))))
      try simp only [Act.put, xA1, xA2, xA3, xA4, xA5, xA6]
      (refine tkL (i := 9) (v := ?_) rfl ?_ ?_; rotate_left 1; (focus (intro w hSw; (try dsimp only at hSw); go_simp; try (with_reducible rfl))))
      try simp only [Act.put, xA1, xA2, xA3, xA4, xA5, xA6]
      (refine tkL (i := 10) (v := ?_) rfl ?_ ?_; rotate_left 1; (focus (intro w hSw; (try dsimp only at hSw); go_simp; try (with_reducible rfl))))
      try simp only [Act.put, xA1, xA2, xA3, xA4, xA5, xA6]
      (refine tkL (i := 11) (v := ?_) rfl ?_ ?_; rotate_left 1; (focus (intro w hSw; (try dsimp only at hSw); go_simp; try (with_reducible rfl))))
      try simp only [Act.put, xA1, xA2, xA3, xA4, xA5, xA6]
      (refine tkL (i := 12) (v := ?_) rfl ?_ ?_; rotate_left 1; (focus (intro w hSw; (try dsimp only at hSw); go_simp; try (with_reducible rfl))))
      try simp only [Act.put, xA1, xA2, xA3, xA4, xA5, xA6]
      refine wpAnyL_one (i := 13) (by kernel_rfl) rfl (fun K hK => ?_)
      have k2 := (hgy.ext hHeld.2.2).frozen q
      have k3 := hHeld.2.1
      go_simp
      refine hK.out _ _ (fun h => absurd rfl h) (fun _ => ?_)
      clear hK K
      try simp only [Act.put, xA1, xA2, xA3, xA4, xA5, xA6]
      refine wpAnyL_done (by kernel_rfl) ?_ _
      have hzz := hHeld.2.2
      obtain ⟨WW, hWW⟩ : ∃ W, V0 = W := ⟨_, rfl⟩
      rw [hWW] at hzz ⊢
      clear hHeld hWW
      obtain ⟨nn, hnn⟩ : ∃ x, IntKind.i64.wrap (z + n) = x := ⟨_, rfl⟩
      try rw [hnn]
      clear hnn
      have hRy := rowI_set (j := q) (rowI_ext hyr hzz) nn
      have hVx : IntsAt (WW.setCell ⟨gy, q, none⟩ (.int .i64 nn)) (.slice xA g.length xc) g := by
        rcases hne with e | e
        · exact absurd hql (by rw [e]; simp)
        · exact RowI.at_ (rowI_setOther (rowI_ext hxr hzz) (fun h => e h) _)
      obtain ⟨Y, hY⟩ : ∃ W, WW.setCell ⟨gy, q, none⟩ (.int .i64 nn) = W := ⟨_, rfl⟩
      have hBg : B ≠ gy := fun e => by subst e; exact absurd (hb.symm.trans hgy) (by simp)
      have hq8g : w.heap.size + 1 ≠ gy := by have := HSZ.out; omega
      have Q8 : Cls (w.heap.size + 1) 71 #[.slice none 0 0, .slice none 0 0] Y := by rw [← hY]; exact (q8.ext hzz).other hq8g _ _
      have QB : Cls B 71 #[.slice xA g.length xc, .slice (some ⟨gy, 0, none⟩) L.length yc] Y := by rw [← hY]; exact (hb.ext hzz).other hBg _ _
      have hxY : Ext w Y := by rw [← hY]; exact (hx.trans hzz).setCell (by have := HSZ.out; simp; omega) _
      rw [hY] at hRy hVx
      have hv := RowI.at_ hRy
      have k0 := QB.cell 0
      have k1 := QB.cell 1
      clear b0 b1 fb0 fb1 cz hu0 hv0
      have q80 := Q8.cell 0
      have q81 := Q8.cell 1
      have f80 := Q8.frozen 0
      have f81 := Q8.frozen 1
      clear hgl hll
      go_wp2_with fail
      exact ben_ret (G := g) (L := L.set q nn) (u := .slice xA g.length xc) (v := .slice (some ⟨gy, 0, none⟩) L.length yc) rfl ((Q8.set 0 _).set 1 _) (((hxY).setCell (by simp) _).setCell (by simp) _) (ints_setC (ints_setC hVx Q8 (by simp) (by simp)) (Q8.set 0 _) (by simp) (by simp)) (ints_setC (ints_setC hv Q8 (by simp) (by simp)) (Q8.set 0 _) (by simp) (by simp))
    by_cases h3 : r = 3 ∧ 0 < L.length
    · obtain ⟨rfl, hgp⟩ := h3
      have hbg : decide ((L.length : Int) > 0) = true := decide_eq_true (by omega)
      obtain ⟨bL, oL, rfl, _⟩ := hv0.get 0 hgp
      have h1L : (1 : Int) ≤ L.length := by omega
      have hyc : L.length ≤ yc := by obtain ⟨_, _, h1, h2⟩ := hv0.len; simp only [Value.slice.injEq] at h1; omega
      by_cases hc1 : yc = 1
      · skip
        have hl1 : L.tail.length = 0 := by rw [List.length_tail]; omega
        have hv1 : IntsAt wc (.slice (some ⟨bL, oL, none⟩) 0 0) L.tail := ⟨_, 0, by rw [hl1], by rw [hl1]; omega, fun i hi => absurd hi (by omega)⟩
        subst hc1
        obtain ⟨Y, hY⟩ : ∃ W, wc.setCell ⟨B, 1, none⟩ (.slice (some ⟨bL, oL, none⟩) 0 0) = W := ⟨_, rfl⟩
        have QB : Cls B 71 #[.slice xA g.length xc, .slice (some ⟨bL, oL, none⟩) 0 0] Y := by rw [← hY]; exact hb.set 1 _
        have hnn8 : w.heap.size + 1 ≠ B := by omega
        have Q8 : Cls (w.heap.size + 1) 71 #[.slice none 0 0, .slice none 0 0] Y := by rw [← hY]; exact q8.other hnn8 _ _
        have hxY : Ext w Y := by rw [← hY]; exact hx.setCell (by simp; omega) _
        have hu9 : IntsAt Y (.slice xA g.length xc) g := by rw [← hY]; exact ints_setC hu0 hb (by simp) (by simp)
        have hv9 : IntsAt Y (.slice (some ⟨bL, oL, none⟩) 0 0) L.tail := by rw [← hY]; exact ints_setC hv1 hb (by simp) (by simp)
        have k0 := QB.cell 0
        have k1 := QB.cell 1
        clear hu0 hv0 hv1
        have q80 := Q8.cell 0
        have q81 := Q8.cell 1
        have f80 := Q8.frozen 0
        have f81 := Q8.frozen 1
        clear hgl hll
        go_wp2_with fail
        exact ben_ret (G := g) (L := L.tail) (u := .slice xA g.length xc) (v := .slice (some ⟨bL, oL, none⟩) 0 0) rfl ((Q8.set 0 _).set 1 _) (((hxY).setCell (by simp) _).setCell (by simp) _) (ints_setC (ints_setC hu9 Q8 (by simp) (by simp)) (Q8.set 0 _) (by simp) (by simp)) (ints_setC (ints_setC hv9 Q8 (by simp) (by simp)) (Q8.set 0 _) (by simp) (by simp))
      · skip
        have hv1 := ints_tail hv0 hgp hyc
        have c1 : ¬ yc - 1 = 0 := by omega
        have c2 : ¬ yc ≤ 1 := by omega
        have c3 : 1 < yc := by omega
        have c4 : ¬ (yc - 1 ≤ 0) := by omega
        have c5 : 0 < yc - 1 := by omega
        obtain ⟨Y, hY⟩ : ∃ W, wc.setCell ⟨B, 1, none⟩ (.slice (some ⟨bL, oL + 1, none⟩) (L.length - 1) (yc - 1)) = W := ⟨_, rfl⟩
        have QB : Cls B 71 #[.slice xA g.length xc, .slice (some ⟨bL, oL + 1, none⟩) (L.length - 1) (yc - 1)] Y := by rw [← hY]; exact hb.set 1 _
        have hnn8 : w.heap.size + 1 ≠ B := by omega
        have Q8 : Cls (w.heap.size + 1) 71 #[.slice none 0 0, .slice none 0 0] Y := by rw [← hY]; exact q8.other hnn8 _ _
        have hxY : Ext w Y := by rw [← hY]; exact hx.setCell (by simp; omega) _
        have hu9 : IntsAt Y (.slice xA g.length xc) g := by rw [← hY]; exact ints_setC hu0 hb (by simp) (by simp)
        have hv9 : IntsAt Y (.slice (some ⟨bL, oL + 1, none⟩) (L.length - 1) (yc - 1)) L.tail := by rw [← hY]; exact ints_setC hv1 hb (by simp) (by simp)
        have k0 := QB.cell 0
        have k1 := QB.cell 1
        clear hu0 hv0 hv1
        have q80 := Q8.cell 0
        have q81 := Q8.cell 1
        have f80 := Q8.frozen 0
        have f81 := Q8.frozen 1
        clear hgl hll
        go_wp2_with fail
        exact ben_ret (G := g) (L := L.tail) (u := .slice xA g.length xc) (v := .slice (some ⟨bL, oL + 1, none⟩) (L.length - 1) (yc - 1)) rfl ((Q8.set 0 _).set 1 _) (((hxY).setCell (by simp) _).setCell (by simp) _) (ints_setC (ints_setC hu9 Q8 (by simp) (by simp)) (Q8.set 0 _) (by simp) (by simp)) (ints_setC (ints_setC hv9 Q8 (by simp) (by simp)) (Q8.set 0 _) (by simp) (by simp))
    have hu9 := hu0
    have hv9 := hv0
    clear hu0 hv0
    rcases hr0 with rfl | rfl | rfl | rfl
    · skip
      clear h1 h2 h3
      have q80 := q8.cell 0
      have q81 := q8.cell 1
      have f80 := q8.frozen 0
      have f81 := q8.frozen 1
      clear hgl hll
      go_wp2_with fail
      exact ben_ret (G := g) (L := L) (u := .slice xA g.length xc) (v := .slice yA L.length yc) rfl ((q8.set 0 _).set 1 _) (((hx).setCell (by simp) _).setCell (by simp) _) (ints_setC (ints_setC hu9 q8 (by simp) (by simp)) (q8.set 0 _) (by simp) (by simp)) (ints_setC (ints_setC hv9 q8 (by simp) (by simp)) (q8.set 0 _) (by simp) (by simp))
    · skip
      have hle0 : g.length = 0 := Classical.byContradiction (fun e => h1 ⟨rfl, by omega⟩)
      have hbz : decide ((g.length : Int) > 0) = false := decide_eq_false (by omega)
      have hbz2 : decide (0 < g.length) = false := decide_eq_false (by omega)
      have hbz3 : ¬ (0 < g.length) := by omega
      have hbz4 : decide (0 < (g.length : Int)) = false := decide_eq_false (by omega)
      have hbz5 : ¬ ((g.length : Int) > 0) := by omega
      have HLE := Lib.hid hle0
      clear hle0
      clear h1 h2 h3
      have q80 := q8.cell 0
      have q81 := q8.cell 1
      have f80 := q8.frozen 0
      have f81 := q8.frozen 1
      clear hgl hll
      go_wp2_with fail
      exact ben_ret (G := g) (L := L) (u := .slice xA g.length xc) (v := .slice yA L.length yc) rfl ((q8.set 0 _).set 1 _) (((hx).setCell (by simp) _).setCell (by simp) _) (ints_setC (ints_setC hu9 q8 (by simp) (by simp)) (q8.set 0 _) (by simp) (by simp)) (ints_setC (ints_setC hv9 q8 (by simp) (by simp)) (q8.set 0 _) (by simp) (by simp))
    · skip
      have hle0 : L.length = 0 := Classical.byContradiction (fun e => h2 ⟨rfl, by omega⟩)
      have hbz : decide ((L.length : Int) > 0) = false := decide_eq_false (by omega)
      have hbz2 : decide (0 < L.length) = false := decide_eq_false (by omega)
      have hbz3 : ¬ (0 < L.length) := by omega
      have hbz4 : decide (0 < (L.length : Int)) = false := decide_eq_false (by omega)
      have hbz5 : ¬ ((L.length : Int) > 0) := by omega
      have HLE := Lib.hid hle0
      clear hle0
      clear h1 h2 h3
      have q80 := q8.cell 0
      have q81 := q8.cell 1
      have f80 := q8.frozen 0
      have f81 := q8.frozen 1
      clear hgl hll
      go_wp2_with fail
      exact ben_ret (G := g) (L := L) (u := .slice xA g.length xc) (v := .slice yA L.length yc) rfl ((q8.set 0 _).set 1 _) (((hx).setCell (by simp) _).setCell (by simp) _) (ints_setC (ints_setC hu9 q8 (by simp) (by simp)) (q8.set 0 _) (by simp) (by simp)) (ints_setC (ints_setC hv9 q8 (by simp) (by simp)) (q8.set 0 _) (by simp) (by simp))
    · skip
      have hle0 : L.length = 0 := Classical.byContradiction (fun e => h3 ⟨rfl, by omega⟩)
      have hbz : decide ((L.length : Int) > 0) = false := decide_eq_false (by omega)
      have hbz2 : decide (0 < L.length) = false := decide_eq_false (by omega)
      have hbz3 : ¬ (0 < L.length) := by omega
      have hbz4 : decide (0 < (L.length : Int)) = false := decide_eq_false (by omega)
      have hbz5 : ¬ ((L.length : Int) > 0) := by omega
      have HLE := Lib.hid hle0
      clear hle0
      clear h1 h2 h3
      have q80 := q8.cell 0
      have q81 := q8.cell 1
      have f80 := q8.frozen 0
      have f81 := q8.frozen 1
      clear hgl hll
      go_wp2_with fail
      exact ben_ret (G := g) (L := L) (u := .slice xA g.length xc) (v := .slice yA L.length yc) rfl ((q8.set 0 _).set 1 _) (((hx).setCell (by simp) _).setCell (by simp) _) (ints_setC (ints_setC hu9 q8 (by simp) (by simp)) (q8.set 0 _) (by simp) (by simp)) (ints_setC (ints_setC hv9 q8 (by simp) (by simp)) (q8.set 0 _) (by simp) (by simp))
end Go.Proofs.Ytiofdfjcaklmcaa
