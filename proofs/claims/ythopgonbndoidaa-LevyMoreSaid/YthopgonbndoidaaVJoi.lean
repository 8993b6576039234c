/- Joined of the program and of the specification. -/
import Derived.Test.YthopgonbndoidaaVTre
import Derived.Test.YthopgonbndoidaaVPie
import Derived.Lib.BufferWrite
namespace Go.Proofs.Ythopgonbndoidaa
open Go.RowKit Go.Shelf Go.Lib

def jnT (T : Tr) (p : Py) : Tr := ⟨T.rs, T.ps ++ [p]⟩
def jnE (T : Tr) (p : Py) : Int := if chkE T = 0 then chkE (jnT T p) else chkE T
def jnX (T : Tr) (p : Py) : Tr := if jnE T p = 0 then jnT T p else ⟨[], []⟩
def TrPost (w : World) (T : Tr) (E : Int) (e : Ending) (w' : World) : Prop := ∃ a b, e = .returned (.tuple #[.agg #[a, b], .int .i64 E]) ∧ TrAt w' a b T ∧ Ext w w'
def TrRPost (w : World) (T : Tr) (E : Int) (e : Ending) (w' : World) : Prop := ∃ a b, e = .returned (.agg #[a, b, .int .i64 E]) ∧ TrAt w' a b T ∧ Ext w w'
theorem tr_nil (W : World) : TrAt W (.slice none 0 0) (.slice none 0 0) ⟨[], []⟩ := TrAt.of (SeqK.nil fC 2 W).rcs (SeqK.nil fP 3 W).pys
theorem rowK_cell {α : Type} {e : TypeId} {f : α → List Int} {k n₀ B : Nat} {v : Value} {l : List α} {W : World} (h : RowK e f k n₀ v l W) (hB : B < n₀) (i : Nat) (u : Value) : RowK e f k n₀ v l (W.setCell ⟨B, i, none⟩ u) :=
  RowK.kept h (grownBy_setCell _ _ _ _) (.inr (fun e => by have := (RowK.lt h _ e).1; omega))
theorem tr_cells {n B : Nat} {va vb : Value} {T : Tr} {p : Py} {W : World} (hr : RowC n va T.rs W) (hp : RowP n vb (T.ps ++ [p]) W) (hB : B < n) (x y : Value) : TrAt ((W.setCell ⟨B, 0, none⟩ x).setCell ⟨B, 1, none⟩ y) va vb (jnT T p) :=
  TrAt.of (RowC.at_ (rowK_cell (rowK_cell hr hB 0 x) hB 1 y)) (RowP.at_ (rowK_cell (rowK_cell hp hB 0 x) hB 1 y))
theorem tr_cells3 {n B : Nat} {va vb : Value} {T : Tr} {p : Py} {W : World} (hr : RowC n va T.rs W) (hp : RowP n vb (T.ps ++ [p]) W) (hB : B < n) (x y z : Value) : TrAt (((W.setCell ⟨B, 0, none⟩ x).setCell ⟨B, 1, none⟩ y).setCell ⟨B, 2, none⟩ z) va vb (jnT T p) :=
  TrAt.of (RowC.at_ (rowK_cell (rowK_cell (rowK_cell hr hB 0 x) hB 1 y) hB 2 z)) (RowP.at_ (rowK_cell (rowK_cell (rowK_cell hp hB 0 x) hB 1 y) hB 2 z))
theorem jn_ret {w W : World} {tmps : Array Value} {va vb : Value} {X X' : Tr} {E E' : Int} (h4 : tmps.getD 4 undef = .pointer (some ⟨w.heap.size + 1 + 1, 0, none⟩)) (h5 : tmps.getD 5 undef = .int .i64 E') (hc : Cls (w.heap.size + 1 + 1) 25 #[va, vb] W) (hm : TrAt W va vb X') (hx : Ext w W) (he : E' = E) (hX : X' = X) :
    bodyPost Try.prog Try.f31 (TrPost w X E) Exit.ret { tmps := tmps, defers := [] } W := by
  subst he hX
  have c0 : W.cell? ⟨w.heap.size + 1 + 1, 0, none⟩ = some va := hc.cell 0
  have c1 : W.cell? ⟨w.heap.size + 1 + 1, 1, none⟩ = some vb := hc.cell 1
  have h4' : tmps[4]?.getD undef = .pointer (some ⟨w.heap.size + 1 + 1, 0, none⟩) := by simpa using h4
  have h5' : tmps[5]?.getD undef = .int .i64 E' := by simpa using h5
  exact bodyPost_ret (v := .tuple #[.agg #[va, vb], .int .i64 E']) (by simp [results, Try.f31, go_sem, h4', h5', c0, c1]) rfl ⟨va, vb, rfl, hm, hx⟩

set_option maxRecDepth 100000 in
set_option maxHeartbeats 8000000 in
theorem Joined_any (a b : Value) (T : Tr) (p : Py) (w : World) (hT : TrAt w a b T) (hn : T.rs.length ≤ 1000 ∧ T.ps.length ≤ 1000) :
    Calls Try.prog 31 #[.agg #[a, b], .agg #[.int .i64 p.id, .int .i64 p.reach, .int .i64 p.w]] w (TrPost w (jnX T p) (jnE T p)) := by
  have hE : jnE T p = if chkE T = 0 then chkE (jnT T p) else chkE T := rfl
  have hX : jnX T p = if jnE T p = 0 then jnT T p else ⟨[], []⟩ := rfl
  have KC := fun W (h : Ext w W) => Check_any a b T W (hT.ext h)
  have KD := fun va vb W (h : TrAt W va vb (jnT T p)) => Check_any va vb (jnT T p) W h
  have KR := fun W (h : Ext w W) => cloneC_any a T.rs W (hT.r.ext h) (by omega)
  have KP := fun W (h : Ext w W) => cloneP_any b T.ps W (hT.p.ext h) (by omega)
  have HKR := Lib.hid KR
  have HKP := Lib.hid KP
  clear KR KP
  obtain ⟨C, hC⟩ : ∃ E, chkE T = E := ⟨_, rfl⟩
  obtain ⟨D, hD⟩ : ∃ E, chkE (jnT T p) = E := ⟨_, rfl⟩
  obtain ⟨E, hEE⟩ : ∃ E, jnE T p = E := ⟨_, rfl⟩
  obtain ⟨X, hXX⟩ : ∃ E, jnX T p = E := ⟨_, rfl⟩
  rw [hC, hD, hEE] at hE
  rw [hXX, hEE] at hX
  rw [hC] at KC
  rw [hD] at KD
  rw [hXX, hEE]
  have HE := Lib.hid hE
  have HX := Lib.hid hX
  have HKD := Lib.hid KD
  clear hE hX hC hD hEE hXX KD
  go_enter Try.func31, Try.ntmps31
  go_wp2_with fail
  refine (KC _ (by repeat (first | exact Ext.refl _ | assumption | refine Ext.alloc ?_ _ | refine Ext.drew ?_ | refine Ext.drewN _ ?_ | refine Ext.trans ?_ (by assumption)))).mono ?_
  rintro e w1 ⟨rfl, hx1⟩
  obtain ⟨q0, q1, q2, hx, hk0⟩ := alloc3 hx1
  have d0 : w1.cell? ⟨w.heap.size, 0, none⟩ = some a := q0.cell 0
  have d1 : w1.cell? ⟨w.heap.size, 1, none⟩ = some b := q0.cell 1
  have d2 : w1.cell? ⟨w.heap.size + 1, 0, none⟩ = some (.int .i64 p.id) := q1.cell 0
  have d3 : w1.cell? ⟨w.heap.size + 1, 1, none⟩ = some (.int .i64 p.reach) := q1.cell 1
  have d4 : w1.cell? ⟨w.heap.size + 1, 2, none⟩ = some (.int .i64 p.w) := q1.cell 2
  have HQ := Lib.hid q2
  clear hx1 KC q0 q1 q2
  by_cases h0 : C = 0
  · have hb : (C != 0) = false := by simpa using h0
    have he := HE.out
    rw [if_pos h0] at he
    have HE2 := Lib.hid he
    clear he h0 HE
    go_upto_region 4 with fail
    refine wp_region_held_drew (S := fun W' => W'.cell? ⟨w.heap.size, 0, none⟩ = some a ∧ W'.cell? ⟨w.heap.size, 1, none⟩ = some b ∧ W'.cell? ⟨w.heap.size + 1, 0, none⟩ = some (.int .i64 p.id) ∧ W'.cell? ⟨w.heap.size + 1, 1, none⟩ = some (.int .i64 p.reach) ∧ W'.cell? ⟨w.heap.size + 1, 2, none⟩ = some (.int .i64 p.w) ∧ Ext w1 W') (by kernel_rfl) ?_ (fun hHeld => ?_)
    · exact ⟨d0, d1, d2, d3, d4, Ext.drew (Ext.refl _)⟩
    (refine wpAnyH_take (i := 0) (v := ?_) rfl (by kernel_rfl) (by kernel_rfl) (by kernel_rfl) (fun _ _ _ h => h) (Or.inl ⟨by rfl, ?_⟩) (by assumption) ?_; rotate_left 1; (focus (intro w hSw; (try dsimp only at hSw); go_simp; try (with_reducible rfl))))
    try simp only [Act.put, List.getElem_toArray, List.getElem_cons_zero, List.setIfInBounds_toArray, List.set_cons_zero, List.set_cons_succ]
    (refine wpAnyH_take (i := 1) (v := ?_) rfl (by kernel_rfl) (by kernel_rfl) (by kernel_rfl) (fun _ _ _ h => h) (Or.inl ⟨by rfl, ?_⟩) (by assumption) ?_; rotate_left 1; (focus (intro w hSw; (try dsimp only at hSw); go_simp; try (with_reducible rfl))))
    try simp only [Act.put, List.getElem_toArray, List.getElem_cons_zero, List.getElem_cons_succ, List.setIfInBounds_toArray, List.set_cons_zero, List.set_cons_succ]
    (refine wpAnyH_take (i := 3) (v := ?_) rfl (by kernel_rfl) (by kernel_rfl) (by kernel_rfl) (fun _ _ _ h => h) (Or.inl ⟨by rfl, ?_⟩) (by assumption) ?_; rotate_left 1; (focus (intro w hSw; (try dsimp only at hSw); go_simp; try (with_reducible rfl))))
    try simp only [Act.put, List.getElem_toArray, List.getElem_cons_zero, List.getElem_cons_succ, List.setIfInBounds_toArray, List.set_cons_zero, List.set_cons_succ]
    (refine wpAnyH_take (i := 4) (v := ?_) rfl (by kernel_rfl) (by kernel_rfl) (by kernel_rfl) (fun _ _ _ h => h) (Or.inl ⟨by rfl, ?_⟩) (by assumption) ?_; rotate_left 1; (focus (intro w hSw; (try dsimp only at hSw); go_simp; try (with_reducible rfl))))
    try simp only [Act.put, List.getElem_toArray, List.getElem_cons_zero, List.getElem_cons_succ, List.setIfInBounds_toArray, List.set_cons_zero, List.set_cons_succ]
    (refine wpAnyH_take (i := 6) (v := ?_) rfl (by kernel_rfl) (by kernel_rfl) (by kernel_rfl) (fun _ _ _ h => h) (Or.inl ⟨by rfl, ?_⟩) (by assumption) ?_; rotate_left 1; (focus (intro w hSw; (try dsimp only at hSw); go_simp; try (with_reducible rfl))))
    try simp only [Act.put, List.getElem_toArray, List.getElem_cons_zero, List.getElem_cons_succ, List.setIfInBounds_toArray, List.set_cons_zero, List.set_cons_succ]
    refine wpAnyH_from [(2, 17), (5, 20), (7, 22), (8, 23), (9, 24), (10, 7)] (fun j v c w => match j with | 2 => (RowC w1.heap.size (v 2) T.rs w) | 5 => ((c 8 = false → RowP w1.heap.size (v 5) T.ps w) ∧ ∀ g, (v 5).ownBlock = some g → g < w.heap.size) | 7 => (∃ B, v 7 = .slice (some ⟨B, 0, none⟩) 1 1 ∧ Cls B 45 #[.int .i64 p.id, .int .i64 p.reach, .int .i64 p.w] w ∧ (c 5 = true → (v 5).ownBlock ≠ some B)) | 8 => (RowP w1.heap.size (v 8) (T.ps ++ [p]) w) | 9 => (∃ x y, v 9 = .agg #[x, y] ∧ RowC w1.heap.size x T.rs w ∧ RowP w1.heap.size y (T.ps ++ [p]) w) | 10 => (∃ B, v 10 = .pointer (some ⟨B, 0, none⟩) ∧ w1.heap.size ≤ B ∧ (c 11 = false → Cls B 25 #[.slice none 0 0, .slice none 0 0] w) ∧ (c 11 = true → ∃ x y, Cls B 25 #[x, y] w ∧ RowC w1.heap.size x T.rs w ∧ RowP w1.heap.size y (T.ps ++ [p]) w)) | 11 => (True) | _ => True) (fun W => Ext w1 W) [2, 5, 7, 8, 9, 10, 11] ?_ ?_ ?_ ?_ ?_ ?_ ?_ ?_ ?_ ?_ ?_
    · exact fun W h => ⟨Ext.cell h d0, Ext.cell h d1, Ext.cell h d2, Ext.cell h d3, Ext.cell h d4, h⟩
    · kernel_rfl
    · kernel_rfl
    · rfl
    · kernel_rfl
    · kernel_rfl
    · decide
    · exact Ext.drew (Ext.refl _)
    · refine StepsAll.cons rfl (fun v c W K hK hG hc hd hcl hF => ?_) ?_
      · simp only [putAll, List.setIfInBounds_toArray, List.set_cons_zero, List.set_cons_succ]
        go_simp
        go_at_call 80
        refine (HKR.out _ (hx.trans hG)).mono ?_
        rintro e W' ⟨u, rfl, hu, hz⟩
        refine hK.out u _ _ (by kernel_rfl) (hG.trans hz) (fun j hj hcj => ?_)
        simp only [List.mem_cons, List.not_mem_nil, or_false] at hj
        rcases hj with rfl | rfl | rfl | rfl | rfl | rfl | rfl
        · show RowC w1.heap.size (u) T.rs W'
          exact RowK.base hu hG.size
        · have hP : (c 8 = false → RowP w1.heap.size (v 5) T.ps W) ∧ ∀ g, (v 5).ownBlock = some g → g < W.heap.size := hF 5 (by simp) (by simpa [updN] using hcj)
          show (updN c 2 true 8 = false → RowP w1.heap.size (v 5) T.ps W') ∧ ∀ g, (v 5).ownBlock = some g → g < W'.heap.size
          exact ⟨fun h => (hP.1 (by simpa [updN] using h)).ext hz, fun g hg => Nat.lt_of_lt_of_le (hP.2 g hg) hz.size⟩
        · have hP : ∃ B, v 7 = .slice (some ⟨B, 0, none⟩) 1 1 ∧ Cls B 45 #[.int .i64 p.id, .int .i64 p.reach, .int .i64 p.w] W ∧ (c 5 = true → (v 5).ownBlock ≠ some B) := hF 7 (by simp) (by simpa [updN] using hcj)
          show ∃ B, v 7 = .slice (some ⟨B, 0, none⟩) 1 1 ∧ Cls B 45 #[.int .i64 p.id, .int .i64 p.reach, .int .i64 p.w] W' ∧ (updN c 2 true 5 = true → (v 5).ownBlock ≠ some B)
          exact (by obtain ⟨B, h1, h2, h3⟩ := hP; exact ⟨B, h1, h2.ext hz, fun h => h3 (by simpa [updN] using h)⟩)
        · have hP : RowP w1.heap.size (v 8) (T.ps ++ [p]) W := hF 8 (by simp) (by simpa [updN] using hcj)
          show RowP w1.heap.size (v 8) (T.ps ++ [p]) W'
          exact hP.ext hz
        · have hP : ∃ x y, v 9 = .agg #[x, y] ∧ RowC w1.heap.size x T.rs W ∧ RowP w1.heap.size y (T.ps ++ [p]) W := hF 9 (by simp) (by simpa [updN] using hcj)
          show ∃ x y, v 9 = .agg #[x, y] ∧ RowC w1.heap.size x T.rs W' ∧ RowP w1.heap.size y (T.ps ++ [p]) W'
          exact (by obtain ⟨x, y, h1, h2, h3⟩ := hP; exact ⟨x, y, h1, h2.ext hz, h3.ext hz⟩)
        · have hP : ∃ B, v 10 = .pointer (some ⟨B, 0, none⟩) ∧ w1.heap.size ≤ B ∧ (c 11 = false → Cls B 25 #[.slice none 0 0, .slice none 0 0] W) ∧ (c 11 = true → ∃ x y, Cls B 25 #[x, y] W ∧ RowC w1.heap.size x T.rs W ∧ RowP w1.heap.size y (T.ps ++ [p]) W) := hF 10 (by simp) (by simpa [updN] using hcj)
          show ∃ B, v 10 = .pointer (some ⟨B, 0, none⟩) ∧ w1.heap.size ≤ B ∧ (updN c 2 true 11 = false → Cls B 25 #[.slice none 0 0, .slice none 0 0] W') ∧ (updN c 2 true 11 = true → ∃ x y, Cls B 25 #[x, y] W' ∧ RowC w1.heap.size x T.rs W' ∧ RowP w1.heap.size y (T.ps ++ [p]) W')
          exact (by obtain ⟨B, h1, h2, h3, h4⟩ := hP; exact ⟨B, h1, h2, fun h => (h3 (by simpa [updN] using h)).ext hz, fun h => by obtain ⟨x, y, k1, k2, k3⟩ := h4 (by simpa [updN] using h); exact ⟨x, y, k1.ext hz, k2.ext hz, k3.ext hz⟩⟩)
        · trivial
      refine StepsAll.cons rfl (fun v c W K hK hG hc hd hcl hF => ?_) ?_
      · simp only [putAll, List.setIfInBounds_toArray, List.set_cons_zero, List.set_cons_succ]
        go_simp
        go_at_call 81
        refine (HKP.out _ (hx.trans hG)).mono ?_
        rintro e W' ⟨u, rfl, hu, hz⟩
        refine hK.out u _ _ (by kernel_rfl) (hG.trans hz) (fun j hj hcj => ?_)
        simp only [List.mem_cons, List.not_mem_nil, or_false] at hj
        rcases hj with rfl | rfl | rfl | rfl | rfl | rfl | rfl
        · have hP : RowC w1.heap.size (v 2) T.rs W := hF 2 (by simp) (by simpa [updN] using hcj)
          show RowC w1.heap.size (v 2) T.rs W'
          exact hP.ext hz
        · show (updN c 5 true 8 = false → RowP w1.heap.size (u) T.ps W') ∧ ∀ g, (u).ownBlock = some g → g < W'.heap.size
          exact ⟨fun _ => RowK.base hu hG.size, fun g hg => (RowK.lt hu g hg).2⟩
        · have hP : ∃ B, v 7 = .slice (some ⟨B, 0, none⟩) 1 1 ∧ Cls B 45 #[.int .i64 p.id, .int .i64 p.reach, .int .i64 p.w] W ∧ (c 5 = true → (v 5).ownBlock ≠ some B) := hF 7 (by simp) (by simpa [updN] using hcj)
          show ∃ B, v 7 = .slice (some ⟨B, 0, none⟩) 1 1 ∧ Cls B 45 #[.int .i64 p.id, .int .i64 p.reach, .int .i64 p.w] W' ∧ (updN c 5 true 5 = true → (u).ownBlock ≠ some B)
          exact (by obtain ⟨B, h1, h2, h3⟩ := hP; exact ⟨B, h1, h2.ext hz, fun _ he => by have k1 := RowK.lt hu _ he; have k2 := h2.lt; omega⟩)
        · have hP : RowP w1.heap.size (v 8) (T.ps ++ [p]) W := hF 8 (by simp) (by simpa [updN] using hcj)
          show RowP w1.heap.size (v 8) (T.ps ++ [p]) W'
          exact hP.ext hz
        · have hP : ∃ x y, v 9 = .agg #[x, y] ∧ RowC w1.heap.size x T.rs W ∧ RowP w1.heap.size y (T.ps ++ [p]) W := hF 9 (by simp) (by simpa [updN] using hcj)
          show ∃ x y, v 9 = .agg #[x, y] ∧ RowC w1.heap.size x T.rs W' ∧ RowP w1.heap.size y (T.ps ++ [p]) W'
          exact (by obtain ⟨x, y, h1, h2, h3⟩ := hP; exact ⟨x, y, h1, h2.ext hz, h3.ext hz⟩)
        · have hP : ∃ B, v 10 = .pointer (some ⟨B, 0, none⟩) ∧ w1.heap.size ≤ B ∧ (c 11 = false → Cls B 25 #[.slice none 0 0, .slice none 0 0] W) ∧ (c 11 = true → ∃ x y, Cls B 25 #[x, y] W ∧ RowC w1.heap.size x T.rs W ∧ RowP w1.heap.size y (T.ps ++ [p]) W) := hF 10 (by simp) (by simpa [updN] using hcj)
          show ∃ B, v 10 = .pointer (some ⟨B, 0, none⟩) ∧ w1.heap.size ≤ B ∧ (updN c 5 true 11 = false → Cls B 25 #[.slice none 0 0, .slice none 0 0] W') ∧ (updN c 5 true 11 = true → ∃ x y, Cls B 25 #[x, y] W' ∧ RowC w1.heap.size x T.rs W' ∧ RowP w1.heap.size y (T.ps ++ [p]) W')
          exact (by obtain ⟨B, h1, h2, h3, h4⟩ := hP; exact ⟨B, h1, h2, fun h => (h3 (by simpa [updN] using h)).ext hz, fun h => by obtain ⟨x, y, k1, k2, k3⟩ := h4 (by simpa [updN] using h); exact ⟨x, y, k1.ext hz, k2.ext hz, k3.ext hz⟩⟩)
        · trivial
      refine StepsAll.cons rfl (fun v c W K hK hG hc hd hcl hF => ?_) ?_
      · simp only [putAll, List.setIfInBounds_toArray, List.set_cons_zero, List.set_cons_succ]
        go_simp
        obtain ⟨W', hN⟩ : ∃ X, W.alloc (.cells #[.int .i64 p.id, .int .i64 p.reach, .int .i64 p.w] 45) = X := ⟨_, rfl⟩
        have hz : Ext W W' := by rw [← hN]; exact (by repeat (first | exact Ext.refl _ | assumption | refine Ext.alloc ?_ _ | refine Ext.drew ?_ | refine Ext.drewN _ ?_ | refine Ext.trans ?_ (by assumption)))
        have hB : Cls W.heap.size 45 #[.int .i64 p.id, .int .i64 p.reach, .int .i64 p.w] W' := by rw [← hN]; exact Cls.new _ _ _
        rw [hN]
        refine hK.out (Value.slice (some ⟨W.heap.size, 0, none⟩) 1 1) _ _ (by kernel_rfl) (hG.trans hz) (fun j hj hcj => ?_)
        simp only [List.mem_cons, List.not_mem_nil, or_false] at hj
        rcases hj with rfl | rfl | rfl | rfl | rfl | rfl | rfl
        · have hP : RowC w1.heap.size (v 2) T.rs W := hF 2 (by simp) (by simpa [updN] using hcj)
          show RowC w1.heap.size (v 2) T.rs W'
          exact hP.ext hz
        · have hP : (c 8 = false → RowP w1.heap.size (v 5) T.ps W) ∧ ∀ g, (v 5).ownBlock = some g → g < W.heap.size := hF 5 (by simp) (by simpa [updN] using hcj)
          show (updN c 7 true 8 = false → RowP w1.heap.size (v 5) T.ps W') ∧ ∀ g, (v 5).ownBlock = some g → g < W'.heap.size
          exact ⟨fun h => (hP.1 (by simpa [updN] using h)).ext hz, fun g hg => Nat.lt_of_lt_of_le (hP.2 g hg) hz.size⟩
        · show ∃ B, (Value.slice (some ⟨W.heap.size, 0, none⟩) 1 1) = .slice (some ⟨B, 0, none⟩) 1 1 ∧ Cls B 45 #[.int .i64 p.id, .int .i64 p.reach, .int .i64 p.w] W' ∧ (updN c 7 true 5 = true → (v 5).ownBlock ≠ some B)
          exact ⟨W.heap.size, rfl, hB, fun h he => by have h1 := hF 5 (by simp) (by simpa [updN] using h); exact absurd (h1.2 _ he) (by omega)⟩
        · have hP : RowP w1.heap.size (v 8) (T.ps ++ [p]) W := hF 8 (by simp) (by simpa [updN] using hcj)
          show RowP w1.heap.size (v 8) (T.ps ++ [p]) W'
          exact absurd (hcl 8 7 (by kernel_rfl) (by simpa [updN] using hcj)) (by rw [hc]; decide)
        · have hP : ∃ x y, v 9 = .agg #[x, y] ∧ RowC w1.heap.size x T.rs W ∧ RowP w1.heap.size y (T.ps ++ [p]) W := hF 9 (by simp) (by simpa [updN] using hcj)
          show ∃ x y, v 9 = .agg #[x, y] ∧ RowC w1.heap.size x T.rs W' ∧ RowP w1.heap.size y (T.ps ++ [p]) W'
          exact (by obtain ⟨x, y, h1, h2, h3⟩ := hP; exact ⟨x, y, h1, h2.ext hz, h3.ext hz⟩)
        · have hP : ∃ B, v 10 = .pointer (some ⟨B, 0, none⟩) ∧ w1.heap.size ≤ B ∧ (c 11 = false → Cls B 25 #[.slice none 0 0, .slice none 0 0] W) ∧ (c 11 = true → ∃ x y, Cls B 25 #[x, y] W ∧ RowC w1.heap.size x T.rs W ∧ RowP w1.heap.size y (T.ps ++ [p]) W) := hF 10 (by simp) (by simpa [updN] using hcj)
          show ∃ B, v 10 = .pointer (some ⟨B, 0, none⟩) ∧ w1.heap.size ≤ B ∧ (updN c 7 true 11 = false → Cls B 25 #[.slice none 0 0, .slice none 0 0] W') ∧ (updN c 7 true 11 = true → ∃ x y, Cls B 25 #[x, y] W' ∧ RowC w1.heap.size x T.rs W' ∧ RowP w1.heap.size y (T.ps ++ [p]) W')
          exact (by obtain ⟨B, h1, h2, h3, h4⟩ := hP; exact ⟨B, h1, h2, fun h => (h3 (by simpa [updN] using h)).ext hz, fun h => by obtain ⟨x, y, k1, k2, k3⟩ := h4 (by simpa [updN] using h); exact ⟨x, y, k1.ext hz, k2.ext hz, k3.ext hz⟩⟩)
        · trivial
      refine StepsAll.cons rfl (fun v c W K hK hG hc hd hcl hF => ?_) ?_
      · simp only [putAll, List.setIfInBounds_toArray, List.set_cons_zero, List.set_cons_succ]
        have h5 : (c 8 = false → RowP w1.heap.size (v 5) T.ps W) ∧ ∀ g, (v 5).ownBlock = some g → g < W.heap.size := hF 5 (by simp) (hd 5 (by kernel_rfl))
        have h7 : ∃ B, v 7 = .slice (some ⟨B, 0, none⟩) 1 1 ∧ Cls B 45 #[.int .i64 p.id, .int .i64 p.reach, .int .i64 p.w] W ∧ (c 5 = true → (v 5).ownBlock ≠ some B) := hF 7 (by simp) (hd 7 (by kernel_rfl))
        have hr5 := h5.1 hc
        obtain ⟨B7, e7, h7c, _⟩ := h7
        obtain ⟨v8, W', hrun, hr8, hg, ho⟩ := run_append_pys W 23 w1.heap.size _ _ T.ps [p] hr5 (pys_one h7c) hG.size (by simp; omega)
        rw [if_pos (by rfl)]
        refine oper_append _ _ 23 rfl _ _ v8 W' rfl e7 hrun ?_
        refine hK.out v8 _ _ (by kernel_rfl) (ext_own hG hr5 (Nat.le_refl _) hg) (fun j hj hcj => ?_)
        simp only [List.mem_cons, List.not_mem_nil, or_false] at hj
        rcases hj with rfl | rfl | rfl | rfl | rfl | rfl | rfl
        · have hP : RowC w1.heap.size (v 2) T.rs W := hF 2 (by simp) (by simpa [updN] using hcj)
          show RowC w1.heap.size (v 2) T.rs W'
          exact RowK.kept hP hg (RowK.neRow hP hr5 (by decide))
        · have hP : (c 8 = false → RowP w1.heap.size (v 5) T.ps W) ∧ ∀ g, (v 5).ownBlock = some g → g < W.heap.size := hF 5 (by simp) (by simpa [updN] using hcj)
          show (updN c 8 true 8 = false → RowP w1.heap.size (v 5) T.ps W') ∧ ∀ g, (v 5).ownBlock = some g → g < W'.heap.size
          exact ⟨fun h => absurd h (by simp [updN]), fun g hg' => Nat.lt_of_lt_of_le (hP.2 g hg') hg.size⟩
        · have hP : ∃ B, v 7 = .slice (some ⟨B, 0, none⟩) 1 1 ∧ Cls B 45 #[.int .i64 p.id, .int .i64 p.reach, .int .i64 p.w] W ∧ (c 5 = true → (v 5).ownBlock ≠ some B) := hF 7 (by simp) (by simpa [updN] using hcj)
          show ∃ B, v 7 = .slice (some ⟨B, 0, none⟩) 1 1 ∧ Cls B 45 #[.int .i64 p.id, .int .i64 p.reach, .int .i64 p.w] W' ∧ (updN c 8 true 5 = true → (v 5).ownBlock ≠ some B)
          exact (by obtain ⟨B, h1, h2, h3⟩ := hP; exact ⟨B, h1, h2.kept hg (fun e => h3 (hd 5 (by kernel_rfl)) e.symm), fun h => h3 (by simpa [updN] using h)⟩)
        · show RowP w1.heap.size (v8) (T.ps ++ [p]) W'
          exact hr8
        · have hP : ∃ x y, v 9 = .agg #[x, y] ∧ RowC w1.heap.size x T.rs W ∧ RowP w1.heap.size y (T.ps ++ [p]) W := hF 9 (by simp) (by simpa [updN] using hcj)
          show ∃ x y, v 9 = .agg #[x, y] ∧ RowC w1.heap.size x T.rs W' ∧ RowP w1.heap.size y (T.ps ++ [p]) W'
          exact absurd (hcl 9 8 (by kernel_rfl) (by simpa [updN] using hcj)) (by rw [hc]; decide)
        · have hP : ∃ B, v 10 = .pointer (some ⟨B, 0, none⟩) ∧ w1.heap.size ≤ B ∧ (c 11 = false → Cls B 25 #[.slice none 0 0, .slice none 0 0] W) ∧ (c 11 = true → ∃ x y, Cls B 25 #[x, y] W ∧ RowC w1.heap.size x T.rs W ∧ RowP w1.heap.size y (T.ps ++ [p]) W) := hF 10 (by simp) (by simpa [updN] using hcj)
          show ∃ B, v 10 = .pointer (some ⟨B, 0, none⟩) ∧ w1.heap.size ≤ B ∧ (updN c 8 true 11 = false → Cls B 25 #[.slice none 0 0, .slice none 0 0] W') ∧ (updN c 8 true 11 = true → ∃ x y, Cls B 25 #[x, y] W' ∧ RowC w1.heap.size x T.rs W' ∧ RowP w1.heap.size y (T.ps ++ [p]) W')
          exact (by obtain ⟨B, h1, h2, h3, h4⟩ := hP; exact ⟨B, h1, h2, fun h => (h3 (by simpa [updN] using h)).kept hg (RowK.neCls hr5 (h3 (by simpa [updN] using h)) (by decide)), fun h => absurd (hcl 11 8 (by kernel_rfl) (by simpa [updN] using h)) (by rw [hc]; decide)⟩)
        · trivial
      refine StepsAll.cons rfl (fun v c W K hK hG hc hd hcl hF => ?_) ?_
      · simp only [putAll, List.setIfInBounds_toArray, List.set_cons_zero, List.set_cons_succ]
        have h2 : RowC w1.heap.size (v 2) T.rs W := hF 2 (by simp) (hd 2 (by kernel_rfl))
        have h8 : RowP w1.heap.size (v 8) (T.ps ++ [p]) W := hF 8 (by simp) (hd 8 (by kernel_rfl))
        obtain ⟨A1, c1, e1⟩ := RowK.form h2
        obtain ⟨A2, c2, e2⟩ := RowK.form h8
        simp only [e1, e2]
        go_simp
        refine hK.out (Value.agg #[.slice A1 T.rs.length c1, .slice A2 (T.ps ++ [p]).length c2]) _ _ (by simp [putAll, updN, e1, e2]) (hG) (fun j hj hcj => ?_)
        simp only [List.mem_cons, List.not_mem_nil, or_false] at hj
        rcases hj with rfl | rfl | rfl | rfl | rfl | rfl | rfl
        · have hP : RowC w1.heap.size (v 2) T.rs W := hF 2 (by simp) (by simpa [updN] using hcj)
          show RowC w1.heap.size (v 2) T.rs W
          exact hP
        · have hP : (c 8 = false → RowP w1.heap.size (v 5) T.ps W) ∧ ∀ g, (v 5).ownBlock = some g → g < W.heap.size := hF 5 (by simp) (by simpa [updN] using hcj)
          show (updN c 9 true 8 = false → RowP w1.heap.size (v 5) T.ps W) ∧ ∀ g, (v 5).ownBlock = some g → g < W.heap.size
          exact ⟨fun h => hP.1 (by simpa [updN] using h), hP.2⟩
        · have hP : ∃ B, v 7 = .slice (some ⟨B, 0, none⟩) 1 1 ∧ Cls B 45 #[.int .i64 p.id, .int .i64 p.reach, .int .i64 p.w] W ∧ (c 5 = true → (v 5).ownBlock ≠ some B) := hF 7 (by simp) (by simpa [updN] using hcj)
          show ∃ B, v 7 = .slice (some ⟨B, 0, none⟩) 1 1 ∧ Cls B 45 #[.int .i64 p.id, .int .i64 p.reach, .int .i64 p.w] W ∧ (updN c 9 true 5 = true → (v 5).ownBlock ≠ some B)
          exact (by obtain ⟨B, h1, h2, h3⟩ := hP; exact ⟨B, h1, h2, fun h => h3 (by simpa [updN] using h)⟩)
        · have hP : RowP w1.heap.size (v 8) (T.ps ++ [p]) W := hF 8 (by simp) (by simpa [updN] using hcj)
          show RowP w1.heap.size (v 8) (T.ps ++ [p]) W
          exact hP
        · show ∃ x y, (Value.agg #[.slice A1 T.rs.length c1, .slice A2 (T.ps ++ [p]).length c2]) = .agg #[x, y] ∧ RowC w1.heap.size x T.rs W ∧ RowP w1.heap.size y (T.ps ++ [p]) W
          exact ⟨_, _, rfl, e1 ▸ h2, e2 ▸ h8⟩
        · have hP : ∃ B, v 10 = .pointer (some ⟨B, 0, none⟩) ∧ w1.heap.size ≤ B ∧ (c 11 = false → Cls B 25 #[.slice none 0 0, .slice none 0 0] W) ∧ (c 11 = true → ∃ x y, Cls B 25 #[x, y] W ∧ RowC w1.heap.size x T.rs W ∧ RowP w1.heap.size y (T.ps ++ [p]) W) := hF 10 (by simp) (by simpa [updN] using hcj)
          show ∃ B, v 10 = .pointer (some ⟨B, 0, none⟩) ∧ w1.heap.size ≤ B ∧ (updN c 9 true 11 = false → Cls B 25 #[.slice none 0 0, .slice none 0 0] W) ∧ (updN c 9 true 11 = true → ∃ x y, Cls B 25 #[x, y] W ∧ RowC w1.heap.size x T.rs W ∧ RowP w1.heap.size y (T.ps ++ [p]) W)
          exact (by obtain ⟨B, h1, h2, h3, h4⟩ := hP; exact ⟨B, h1, h2, fun h => h3 (by simpa [updN] using h), fun h => h4 (by simpa [updN] using h)⟩)
        · trivial
      refine StepsAll.cons rfl (fun v c W K hK hG hc hd hcl hF => ?_) ?_
      · simp only [putAll, List.setIfInBounds_toArray, List.set_cons_zero, List.set_cons_succ]
        go_simp
        obtain ⟨W', hN⟩ : ∃ X, W.alloc (.cells #[.slice none 0 0, .slice none 0 0] 25) = X := ⟨_, rfl⟩
        have hz : Ext W W' := by rw [← hN]; exact (by repeat (first | exact Ext.refl _ | assumption | refine Ext.alloc ?_ _ | refine Ext.drew ?_ | refine Ext.drewN _ ?_ | refine Ext.trans ?_ (by assumption)))
        have hB : Cls W.heap.size 25 #[.slice none 0 0, .slice none 0 0] W' := by rw [← hN]; exact Cls.new _ _ _
        rw [hN]
        refine hK.out (Value.pointer (some ⟨W.heap.size, 0, none⟩)) _ _ (by kernel_rfl) (hG.trans hz) (fun j hj hcj => ?_)
        simp only [List.mem_cons, List.not_mem_nil, or_false] at hj
        rcases hj with rfl | rfl | rfl | rfl | rfl | rfl | rfl
        · have hP : RowC w1.heap.size (v 2) T.rs W := hF 2 (by simp) (by simpa [updN] using hcj)
          show RowC w1.heap.size (v 2) T.rs W'
          exact hP.ext hz
        · have hP : (c 8 = false → RowP w1.heap.size (v 5) T.ps W) ∧ ∀ g, (v 5).ownBlock = some g → g < W.heap.size := hF 5 (by simp) (by simpa [updN] using hcj)
          show (updN c 10 true 8 = false → RowP w1.heap.size (v 5) T.ps W') ∧ ∀ g, (v 5).ownBlock = some g → g < W'.heap.size
          exact ⟨fun h => (hP.1 (by simpa [updN] using h)).ext hz, fun g hg => Nat.lt_of_lt_of_le (hP.2 g hg) hz.size⟩
        · have hP : ∃ B, v 7 = .slice (some ⟨B, 0, none⟩) 1 1 ∧ Cls B 45 #[.int .i64 p.id, .int .i64 p.reach, .int .i64 p.w] W ∧ (c 5 = true → (v 5).ownBlock ≠ some B) := hF 7 (by simp) (by simpa [updN] using hcj)
          show ∃ B, v 7 = .slice (some ⟨B, 0, none⟩) 1 1 ∧ Cls B 45 #[.int .i64 p.id, .int .i64 p.reach, .int .i64 p.w] W' ∧ (updN c 10 true 5 = true → (v 5).ownBlock ≠ some B)
          exact (by obtain ⟨B, h1, h2, h3⟩ := hP; exact ⟨B, h1, h2.ext hz, fun h => h3 (by simpa [updN] using h)⟩)
        · have hP : RowP w1.heap.size (v 8) (T.ps ++ [p]) W := hF 8 (by simp) (by simpa [updN] using hcj)
          show RowP w1.heap.size (v 8) (T.ps ++ [p]) W'
          exact hP.ext hz
        · have hP : ∃ x y, v 9 = .agg #[x, y] ∧ RowC w1.heap.size x T.rs W ∧ RowP w1.heap.size y (T.ps ++ [p]) W := hF 9 (by simp) (by simpa [updN] using hcj)
          show ∃ x y, v 9 = .agg #[x, y] ∧ RowC w1.heap.size x T.rs W' ∧ RowP w1.heap.size y (T.ps ++ [p]) W'
          exact (by obtain ⟨x, y, h1, h2, h3⟩ := hP; exact ⟨x, y, h1, h2.ext hz, h3.ext hz⟩)
        · show ∃ B, (Value.pointer (some ⟨W.heap.size, 0, none⟩)) = .pointer (some ⟨B, 0, none⟩) ∧ w1.heap.size ≤ B ∧ (updN c 10 true 11 = false → Cls B 25 #[.slice none 0 0, .slice none 0 0] W') ∧ (updN c 10 true 11 = true → ∃ x y, Cls B 25 #[x, y] W' ∧ RowC w1.heap.size x T.rs W' ∧ RowP w1.heap.size y (T.ps ++ [p]) W')
          exact ⟨W.heap.size, rfl, hG.size, fun _ => hB, fun h => absurd (hcl 11 10 (by kernel_rfl) (by simpa [updN] using h)) (by rw [hc]; decide)⟩
        · trivial
      refine StepsAll.cons rfl (fun v c W K hK hG hc hd hcl hF => ?_) ?_
      · simp only [putAll, List.setIfInBounds_toArray, List.set_cons_zero, List.set_cons_succ]
        have h9 : ∃ x y, v 9 = .agg #[x, y] ∧ RowC w1.heap.size x T.rs W ∧ RowP w1.heap.size y (T.ps ++ [p]) W := hF 9 (by simp) (hd 9 (by kernel_rfl))
        have h10 : ∃ B, v 10 = .pointer (some ⟨B, 0, none⟩) ∧ w1.heap.size ≤ B ∧ (c 11 = false → Cls B 25 #[.slice none 0 0, .slice none 0 0] W) ∧ (c 11 = true → ∃ x y, Cls B 25 #[x, y] W ∧ RowC w1.heap.size x T.rs W ∧ RowP w1.heap.size y (T.ps ++ [p]) W) := hF 10 (by simp) (hd 10 (by kernel_rfl))
        obtain ⟨x, y, e9, hx9, hy9⟩ := h9
        obtain ⟨B, e10, hB0, hB1, _⟩ := h10
        have hcB := hB1 hc
        obtain ⟨Ax, cx, ex⟩ := RowK.form hx9
        obtain ⟨Ay, cy, ey⟩ := RowK.form hy9
        rw [if_pos (by rfl)]
        refine store_rowU 25 _ _ rfl B #[x, y] e10 e9 25 _ hcB (by kernel_rfl) rfl (by subst ex ey; simp [Value.oneCell']) (fun W' hC hg => ?_)
        refine hK.out undef _ _ (by kernel_rfl) (hG.grown hg hB0) (fun j hj hcj => ?_)
        simp only [List.mem_cons, List.not_mem_nil, or_false] at hj
        rcases hj with rfl | rfl | rfl | rfl | rfl | rfl | rfl
        · have hP : RowC w1.heap.size (v 2) T.rs W := hF 2 (by simp) (by simpa [updN] using hcj)
          show RowC w1.heap.size (v 2) T.rs W'
          exact RowK.kept hP hg (.inr (Ne.symm (RowK.neCls hP hcB (by decide))))
        · have hP : (c 8 = false → RowP w1.heap.size (v 5) T.ps W) ∧ ∀ g, (v 5).ownBlock = some g → g < W.heap.size := hF 5 (by simp) (by simpa [updN] using hcj)
          show (updN c 11 true 8 = false → RowP w1.heap.size (v 5) T.ps W') ∧ ∀ g, (v 5).ownBlock = some g → g < W'.heap.size
          exact ⟨fun h => absurd (hd 8 (by kernel_rfl)) (by rw [show c 8 = false by simpa [updN] using h]; decide), fun g hg' => Nat.lt_of_lt_of_le (hP.2 g hg') hg.size⟩
        · have hP : ∃ B, v 7 = .slice (some ⟨B, 0, none⟩) 1 1 ∧ Cls B 45 #[.int .i64 p.id, .int .i64 p.reach, .int .i64 p.w] W ∧ (c 5 = true → (v 5).ownBlock ≠ some B) := hF 7 (by simp) (by simpa [updN] using hcj)
          show ∃ B, v 7 = .slice (some ⟨B, 0, none⟩) 1 1 ∧ Cls B 45 #[.int .i64 p.id, .int .i64 p.reach, .int .i64 p.w] W' ∧ (updN c 11 true 5 = true → (v 5).ownBlock ≠ some B)
          exact (by obtain ⟨B, h1, h2, h3⟩ := hP; exact ⟨B, h1, h2.kept hg (fun e => cls_ne h2 hcB (by decide) (Option.some.inj e)), fun h => h3 (by simpa [updN] using h)⟩)
        · have hP : RowP w1.heap.size (v 8) (T.ps ++ [p]) W := hF 8 (by simp) (by simpa [updN] using hcj)
          show RowP w1.heap.size (v 8) (T.ps ++ [p]) W'
          exact RowK.kept hP hg (.inr (Ne.symm (RowK.neCls hP hcB (by decide))))
        · have hP : ∃ x y, v 9 = .agg #[x, y] ∧ RowC w1.heap.size x T.rs W ∧ RowP w1.heap.size y (T.ps ++ [p]) W := hF 9 (by simp) (by simpa [updN] using hcj)
          show ∃ x y, v 9 = .agg #[x, y] ∧ RowC w1.heap.size x T.rs W' ∧ RowP w1.heap.size y (T.ps ++ [p]) W'
          exact (by obtain ⟨x, y, h1, h2, h3⟩ := hP; exact ⟨x, y, h1, RowK.kept h2 hg (.inr (Ne.symm (RowK.neCls h2 hcB (by decide)))), RowK.kept h3 hg (.inr (Ne.symm (RowK.neCls h3 hcB (by decide))))⟩)
        · have hP : ∃ B, v 10 = .pointer (some ⟨B, 0, none⟩) ∧ w1.heap.size ≤ B ∧ (c 11 = false → Cls B 25 #[.slice none 0 0, .slice none 0 0] W) ∧ (c 11 = true → ∃ x y, Cls B 25 #[x, y] W ∧ RowC w1.heap.size x T.rs W ∧ RowP w1.heap.size y (T.ps ++ [p]) W) := hF 10 (by simp) (by simpa [updN] using hcj)
          show ∃ B, v 10 = .pointer (some ⟨B, 0, none⟩) ∧ w1.heap.size ≤ B ∧ (updN c 11 true 11 = false → Cls B 25 #[.slice none 0 0, .slice none 0 0] W') ∧ (updN c 11 true 11 = true → ∃ x y, Cls B 25 #[x, y] W' ∧ RowC w1.heap.size x T.rs W' ∧ RowP w1.heap.size y (T.ps ++ [p]) W')
          exact (by obtain ⟨B', h1, h2, _, _⟩ := hP; have hBB : B = B' := (by rw [e10] at h1; simpa using h1); subst hBB; exact ⟨B, e10, h2, fun h => absurd h (by simp [updN]), fun _ => ⟨x, y, hC, RowK.kept hx9 hg (.inr (Ne.symm (RowK.neCls hx9 hcB (by decide)))), RowK.kept hy9 hg (.inr (Ne.symm (RowK.neCls hy9 hcB (by decide))))⟩⟩)
        · show True
          exact trivial
      exact StepsAll.nil
    rotate_left 1
    · kernel_rfl
    · intro v W hG hF
      have h2 : RowC w1.heap.size (v 2) T.rs W := hF 2 (by simp)
      have h5 : (true = false → RowP w1.heap.size (v 5) T.ps W) ∧ ∀ g, (v 5).ownBlock = some g → g < W.heap.size := hF 5 (by simp)
      have h7 : ∃ B, v 7 = .slice (some ⟨B, 0, none⟩) 1 1 ∧ Cls B 45 #[.int .i64 p.id, .int .i64 p.reach, .int .i64 p.w] W ∧ (true = true → (v 5).ownBlock ≠ some B) := hF 7 (by simp)
      have h8 : RowP w1.heap.size (v 8) (T.ps ++ [p]) W := hF 8 (by simp)
      have h9 : ∃ x y, v 9 = .agg #[x, y] ∧ RowC w1.heap.size x T.rs W ∧ RowP w1.heap.size y (T.ps ++ [p]) W := hF 9 (by simp)
      have h10 : ∃ B, v 10 = .pointer (some ⟨B, 0, none⟩) ∧ w1.heap.size ≤ B ∧ (true = false → Cls B 25 #[.slice none 0 0, .slice none 0 0] W) ∧ (true = true → ∃ x y, Cls B 25 #[x, y] W ∧ RowC w1.heap.size x T.rs W ∧ RowP w1.heap.size y (T.ps ++ [p]) W) := hF 10 (by simp)
      have h11 : True := hF 11 (by simp)
      simp only [putAll, List.setIfInBounds_toArray, List.set_cons_zero, List.set_cons_succ]
      obtain ⟨B, e10, hB0, _, hB⟩ := h10
      obtain ⟨x, y, hBx, hx9, hy9⟩ := hB rfl
      obtain ⟨Ax, cx, rfl⟩ := RowK.form hx9
      obtain ⟨Ay, cy, rfl⟩ := RowK.form hy9
      obtain ⟨m, hm⟩ : ∃ m, (T.ps ++ [p]).length = m := ⟨_, rfl⟩
      rw [hm] at hBx hy9
      simp only [e10]
      have hTJ : TrAt W _ _ (jnT T p) := TrAt.of hx9.at_ hy9.at_
      clear h2 h5 h7 h8 h9 h11 hF d0 d1 d2 d3 d4 e10 hB hm
      have b0 := hBx.cell 0
      have b1 := hBx.cell 1
      have hxW := hx.trans hG
      have hQ := HQ.out.ext hG
      go_wp2_with fail
      refine (HKD.out _ _ _ hTJ).mono ?_
      rintro e w3 ⟨rfl, hz⟩
      replace hQ := hQ.ext hz
      replace hxW := hxW.trans hz
      replace hx9 := hx9.ext hz
      replace hy9 := hy9.ext hz
      replace hBx := hBx.ext hz
      have b0 := hBx.cell 0
      have b1 := hBx.cell 1
      have f0 := hQ.frozen 0
      have f1 := hQ.frozen 1
      have f2 := hQ.frozen 2
      have g0 := hQ.cell 0
      have g1 := hQ.cell 1
      have g2 := hQ.cell 2
      by_cases hD0 : D = 0
      · have hb : (D != 0) = false := by simpa using hD0
        have he : E = 0 := by rw [HE2.out, hD0]
        have hxx := HX.out
        rw [if_pos he] at hxx
        have HXX := Lib.hid hxx
        have HEE := Lib.hid he
        clear he hxx hD0
        go_wp2_with fail
        have hC : Cls (w.heap.size + 1 + 1) 25 #[.slice Ax T.rs.length cx, .slice Ay m cy] ((w3.setCell ⟨w.heap.size + 1 + 1, 0, none⟩ (.slice Ax T.rs.length cx)).setCell ⟨w.heap.size + 1 + 1, 1, none⟩ (.slice Ay m cy)) := (hQ.set 0 _).set 1 _
        have hx10 : Ext w ((w3.setCell ⟨w.heap.size + 1 + 1, 0, none⟩ (.slice Ax T.rs.length cx)).setCell ⟨w.heap.size + 1 + 1, 1, none⟩ (.slice Ay m cy)) := (hxW.setCell (p := ⟨w.heap.size + 1 + 1, 0, none⟩) (by simp; omega) _).setCell (p := ⟨w.heap.size + 1 + 1, 1, none⟩) (by simp; omega) _
        exact jn_ret (E' := 0) rfl rfl hC (tr_cells hx9 hy9 (by omega) _ _) hx10 (HEE.out.symm) (HXX.out.symm)
      · have hb : (D != 0) = true := by simpa using hD0
        have he : ¬ E = 0 := by rw [HE2.out]; exact hD0
        have hxx := HX.out
        rw [if_neg he] at hxx
        have HXX := Lib.hid hxx
        clear he hxx hD0
        go_wp2_with fail
        have hC : Cls (w.heap.size + 1 + 1) 25 #[.slice none 0 0, .slice none 0 0] ((w3.setCell ⟨w.heap.size + 1 + 1, 0, none⟩ (.slice none 0 0)).setCell ⟨w.heap.size + 1 + 1, 1, none⟩ (.slice none 0 0)) := (hQ.set 0 _).set 1 _
        have hx10 : Ext w ((w3.setCell ⟨w.heap.size + 1 + 1, 0, none⟩ (.slice none 0 0)).setCell ⟨w.heap.size + 1 + 1, 1, none⟩ (.slice none 0 0)) := (hxW.setCell (p := ⟨w.heap.size + 1 + 1, 0, none⟩) (by simp; omega) _).setCell (p := ⟨w.heap.size + 1 + 1, 1, none⟩) (by simp; omega) _
        exact jn_ret (E' := D) rfl rfl hC (tr_nil _) hx10 (HE2.out.symm) (HXX.out.symm)
  · have hb : (C != 0) = true := by simpa using h0
    have he := HE.out
    rw [if_neg h0] at he
    have hxx := HX.out
    rw [if_neg (by rw [he]; exact h0)] at hxx
    have HXX := Lib.hid hxx
    have HEE := Lib.hid he
    clear he hxx h0 HX HE
    have hQ := HQ.out
    have f0 := hQ.frozen 0
    have f1 := hQ.frozen 1
    have f2 := hQ.frozen 2
    have g0 := hQ.cell 0
    have g1 := hQ.cell 1
    have g2 := hQ.cell 2
    clear d0 d1 d2 d3 d4
    go_wp2_with fail
    have hC : Cls (w.heap.size + 1 + 1) 25 #[.slice none 0 0, .slice none 0 0] ((w1.setCell ⟨w.heap.size + 1 + 1, 0, none⟩ (.slice none 0 0)).setCell ⟨w.heap.size + 1 + 1, 1, none⟩ (.slice none 0 0)) := (hQ.set 0 _).set 1 _
    have hx10 : Ext w ((w1.setCell ⟨w.heap.size + 1 + 1, 0, none⟩ (.slice none 0 0)).setCell ⟨w.heap.size + 1 + 1, 1, none⟩ (.slice none 0 0)) := (hx.setCell (p := ⟨w.heap.size + 1 + 1, 0, none⟩) (by simp; omega) _).setCell (p := ⟨w.heap.size + 1 + 1, 1, none⟩) (by simp; omega) _
    exact jn_ret (E' := C) rfl rfl hC (tr_nil _) hx10 (HEE.out.symm) (HXX.out.symm)

set_option maxRecDepth 100000 in
set_option maxHeartbeats 8000000 in
theorem refJoined_any (a b : Value) (T : Tr) (p : Py) (w : World) (hT : TrAt w a b T) (hn : T.rs.length ≤ 1000 ∧ T.ps.length ≤ 1000) :
    Calls Try.prog 32 #[.agg #[a, b], .agg #[.int .i64 p.id, .int .i64 p.reach, .int .i64 p.w]] w (TrRPost w (jnX T p) (jnE T p)) := by
  have hE : jnE T p = if chkE T = 0 then chkE (jnT T p) else chkE T := rfl
  have hX : jnX T p = if jnE T p = 0 then jnT T p else ⟨[], []⟩ := rfl
  have KC := fun W (h : Ext w W) => refCheck_any a b T W (hT.ext h)
  have KD := fun va vb W (h : TrAt W va vb (jnT T p)) => refCheck_any va vb (jnT T p) W h
  obtain ⟨C, hC⟩ : ∃ E, chkE T = E := ⟨_, rfl⟩
  obtain ⟨D, hD⟩ : ∃ E, chkE (jnT T p) = E := ⟨_, rfl⟩
  obtain ⟨E, hEE⟩ : ∃ E, jnE T p = E := ⟨_, rfl⟩
  obtain ⟨X, hXX⟩ : ∃ E, jnX T p = E := ⟨_, rfl⟩
  rw [hC, hD, hEE] at hE
  rw [hXX, hEE] at hX
  rw [hC] at KC
  rw [hD] at KD
  rw [hXX, hEE]
  have HE := Lib.hid hE
  have HX := Lib.hid hX
  have HKD := Lib.hid KD
  clear hE hX hC hD hEE hXX KD
  go_enter Try.func32, Try.ntmps32
  go_wp2_with fail
  refine (KC _ (by repeat (first | exact Ext.refl _ | assumption | refine Ext.alloc ?_ _ | refine Ext.drew ?_ | refine Ext.drewN _ ?_ | refine Ext.trans ?_ (by assumption)))).mono ?_
  rintro e w1 ⟨rfl, hx1⟩
  obtain ⟨q0, q1, q2, hx, hk0⟩ := alloc3 hx1
  have d0 : w1.cell? ⟨w.heap.size, 0, none⟩ = some a := q0.cell 0
  have d1 : w1.cell? ⟨w.heap.size, 1, none⟩ = some b := q0.cell 1
  have d2 : w1.cell? ⟨w.heap.size + 1, 0, none⟩ = some (.int .i64 p.id) := q1.cell 0
  have d3 : w1.cell? ⟨w.heap.size + 1, 1, none⟩ = some (.int .i64 p.reach) := q1.cell 1
  have d4 : w1.cell? ⟨w.heap.size + 1, 2, none⟩ = some (.int .i64 p.w) := q1.cell 2
  have HQ := Lib.hid q2
  clear hx1 KC q0 q1 q2
  by_cases h0 : C = 0
  · have hb : (C != 0) = false := by simpa using h0
    have he := HE.out
    rw [if_pos h0] at he
    have HE2 := Lib.hid he
    clear he h0 HE
    go_upto_region 4 with fail
    refine wp_region_held_drew (S := fun W' => W'.cell? ⟨w.heap.size, 0, none⟩ = some a ∧ W'.cell? ⟨w.heap.size, 1, none⟩ = some b ∧ W'.cell? ⟨w.heap.size + 1, 0, none⟩ = some (.int .i64 p.id) ∧ W'.cell? ⟨w.heap.size + 1, 1, none⟩ = some (.int .i64 p.reach) ∧ W'.cell? ⟨w.heap.size + 1, 2, none⟩ = some (.int .i64 p.w) ∧ Ext w1 W') (by kernel_rfl) ?_ (fun hHeld => ?_)
    · exact ⟨d0, d1, d2, d3, d4, Ext.drew (Ext.refl _)⟩
    (refine wpAnyH_take (i := 1) (v := ?_) rfl (by kernel_rfl) (by kernel_rfl) (by kernel_rfl) (fun _ _ _ h => h) (Or.inl ⟨by rfl, ?_⟩) (by assumption) ?_; rotate_left 1; (focus (intro w hSw; (try dsimp only at hSw); go_simp; try (with_reducible rfl))))
    try simp only [Act.put, List.getElem_toArray, List.setIfInBounds_toArray]
    (refine wpAnyH_take (i := 2) (v := ?_) rfl (by kernel_rfl) (by kernel_rfl) (by kernel_rfl) (fun _ _ _ h => h) (Or.inl ⟨by rfl, ?_⟩) (by assumption) ?_; rotate_left 1; (focus (intro w hSw; (try dsimp only at hSw); go_simp; try (with_reducible rfl))))
    try simp only [Act.put, List.getElem_toArray, List.getElem_cons_zero, List.getElem_cons_succ, List.setIfInBounds_toArray, List.set_cons_zero, List.set_cons_succ]
    (refine wpAnyH_take (i := 5) (v := ?_) rfl (by kernel_rfl) (by kernel_rfl) (by kernel_rfl) (fun _ _ _ h => h) (Or.inl ⟨by rfl, ?_⟩) (by assumption) ?_; rotate_left 1; (focus (intro w hSw; (try dsimp only at hSw); go_simp; try (with_reducible rfl))))
    try simp only [Act.put, List.getElem_toArray, List.getElem_cons_zero, List.getElem_cons_succ, List.setIfInBounds_toArray, List.set_cons_zero, List.set_cons_succ]
    (refine wpAnyH_take (i := 6) (v := ?_) rfl (by kernel_rfl) (by kernel_rfl) (by kernel_rfl) (fun _ _ _ h => h) (Or.inl ⟨by rfl, ?_⟩) (by assumption) ?_; rotate_left 1; (focus (intro w hSw; (try dsimp only at hSw); go_simp; try (with_reducible rfl))))
    try simp only [Act.put, List.getElem_toArray, List.getElem_cons_zero, List.getElem_cons_succ, List.setIfInBounds_toArray, List.set_cons_zero, List.set_cons_succ]
    (refine wpAnyH_take (i := 8) (v := ?_) rfl (by kernel_rfl) (by kernel_rfl) (by kernel_rfl) (fun _ _ _ h => h) (Or.inl ⟨by rfl, ?_⟩) (by assumption) ?_; rotate_left 1; (focus (intro w hSw; (try dsimp only at hSw); go_simp; try (with_reducible rfl))))
    try simp only [Act.put, List.getElem_toArray, List.getElem_cons_zero, List.getElem_cons_succ, List.setIfInBounds_toArray, List.set_cons_zero, List.set_cons_succ]
    refine wpAnyH_from [(0, 14), (3, 17), (4, 18), (7, 21), (9, 23), (10, 24), (11, 25), (12, 6)] (fun j v c w => match j with | 0 => (c 3 = false → RowC w1.heap.size (v 0) [] w) | 3 => (RowC w1.heap.size (v 3) T.rs w) | 4 => ((c 7 = false → RowP w1.heap.size (v 4) [] w) ∧ ∀ g, (v 4).ownBlock = some g → g < w.heap.size) | 7 => ((c 10 = false → RowP w1.heap.size (v 7) T.ps w) ∧ ∀ g, (v 7).ownBlock = some g → g < w.heap.size) | 9 => (∃ B, v 9 = .slice (some ⟨B, 0, none⟩) 1 1 ∧ Cls B 45 #[.int .i64 p.id, .int .i64 p.reach, .int .i64 p.w] w ∧ (c 4 = true → (v 4).ownBlock ≠ some B) ∧ (c 7 = true → (v 7).ownBlock ≠ some B)) | 10 => (RowP w1.heap.size (v 10) (T.ps ++ [p]) w) | 11 => (∃ x y, v 11 = .agg #[x, y] ∧ RowC w1.heap.size x T.rs w ∧ RowP w1.heap.size y (T.ps ++ [p]) w) | 12 => (∃ B, v 12 = .pointer (some ⟨B, 0, none⟩) ∧ w1.heap.size ≤ B ∧ (c 13 = false → Cls B 25 #[.slice none 0 0, .slice none 0 0] w) ∧ (c 13 = true → ∃ x y, Cls B 25 #[x, y] w ∧ RowC w1.heap.size x T.rs w ∧ RowP w1.heap.size y (T.ps ++ [p]) w)) | 13 => (True) | _ => True) (fun W => Ext w1 W) [0, 3, 4, 7, 9, 10, 11, 12, 13] ?_ ?_ ?_ ?_ ?_ ?_ ?_ ?_ ?_ ?_ ?_
    · exact fun W h => ⟨Ext.cell h d0, Ext.cell h d1, Ext.cell h d2, Ext.cell h d3, Ext.cell h d4, h⟩
    · kernel_rfl
    · kernel_rfl
    · rfl
    · kernel_rfl
    · kernel_rfl
    · decide
    · exact Ext.drew (Ext.refl _)
    · refine StepsAll.cons rfl (fun v c W K hK hG hc hd hcl hF => ?_) ?_
      · simp only [putAll, List.setIfInBounds_toArray, List.set_cons_zero, List.set_cons_succ]
        go_simp
        obtain ⟨W', hN⟩ : ∃ X, W.alloc (.cells #[] 78) = X := ⟨_, rfl⟩
        have hz : Ext W W' := by rw [← hN]; exact (by repeat (first | exact Ext.refl _ | assumption | refine Ext.alloc ?_ _ | refine Ext.drew ?_ | refine Ext.drewN _ ?_ | refine Ext.trans ?_ (by assumption)))
        have hr : RowC w1.heap.size (.slice (some ⟨W.heap.size, 0, none⟩) 0 0) [] W' := by rw [← hN]; exact rowC_lit0 W hG.size
        rw [hN]
        refine hK.out (Value.slice (some ⟨W.heap.size, 0, none⟩) 0 0) _ _ (by kernel_rfl) (hG.trans hz) (fun j hj hcj => ?_)
        simp only [List.mem_cons, List.not_mem_nil, or_false] at hj
        rcases hj with rfl | rfl | rfl | rfl | rfl | rfl | rfl | rfl | rfl
        · show updN c 0 true 3 = false → RowC w1.heap.size ((Value.slice (some ⟨W.heap.size, 0, none⟩) 0 0)) [] W'
          exact fun _ => hr
        · have hP : RowC w1.heap.size (v 3) T.rs W := hF 3 (by simp) (by simpa [updN] using hcj)
          show RowC w1.heap.size (v 3) T.rs W'
          exact hP.ext hz
        · have hP : (c 7 = false → RowP w1.heap.size (v 4) [] W) ∧ ∀ g, (v 4).ownBlock = some g → g < W.heap.size := hF 4 (by simp) (by simpa [updN] using hcj)
          show (updN c 0 true 7 = false → RowP w1.heap.size (v 4) [] W') ∧ ∀ g, (v 4).ownBlock = some g → g < W'.heap.size
          exact ⟨fun h => (hP.1 (by simpa [updN] using h)).ext hz, fun g hg => Nat.lt_of_lt_of_le (hP.2 g hg) hz.size⟩
        · have hP : (c 10 = false → RowP w1.heap.size (v 7) T.ps W) ∧ ∀ g, (v 7).ownBlock = some g → g < W.heap.size := hF 7 (by simp) (by simpa [updN] using hcj)
          show (updN c 0 true 10 = false → RowP w1.heap.size (v 7) T.ps W') ∧ ∀ g, (v 7).ownBlock = some g → g < W'.heap.size
          exact ⟨fun h => (hP.1 (by simpa [updN] using h)).ext hz, fun g hg => Nat.lt_of_lt_of_le (hP.2 g hg) hz.size⟩
        · have hP : ∃ B, v 9 = .slice (some ⟨B, 0, none⟩) 1 1 ∧ Cls B 45 #[.int .i64 p.id, .int .i64 p.reach, .int .i64 p.w] W ∧ (c 4 = true → (v 4).ownBlock ≠ some B) ∧ (c 7 = true → (v 7).ownBlock ≠ some B) := hF 9 (by simp) (by simpa [updN] using hcj)
          show ∃ B, v 9 = .slice (some ⟨B, 0, none⟩) 1 1 ∧ Cls B 45 #[.int .i64 p.id, .int .i64 p.reach, .int .i64 p.w] W' ∧ (updN c 0 true 4 = true → (v 4).ownBlock ≠ some B) ∧ (updN c 0 true 7 = true → (v 7).ownBlock ≠ some B)
          exact (by obtain ⟨B, h1, h2, h3, h4⟩ := hP; exact ⟨B, h1, h2.ext hz, fun h => h3 (by simpa [updN] using h), fun h => h4 (by simpa [updN] using h)⟩)
        · have hP : RowP w1.heap.size (v 10) (T.ps ++ [p]) W := hF 10 (by simp) (by simpa [updN] using hcj)
          show RowP w1.heap.size (v 10) (T.ps ++ [p]) W'
          exact hP.ext hz
        · have hP : ∃ x y, v 11 = .agg #[x, y] ∧ RowC w1.heap.size x T.rs W ∧ RowP w1.heap.size y (T.ps ++ [p]) W := hF 11 (by simp) (by simpa [updN] using hcj)
          show ∃ x y, v 11 = .agg #[x, y] ∧ RowC w1.heap.size x T.rs W' ∧ RowP w1.heap.size y (T.ps ++ [p]) W'
          exact (by obtain ⟨x, y, h1, h2, h3⟩ := hP; exact ⟨x, y, h1, h2.ext hz, h3.ext hz⟩)
        · have hP : ∃ B, v 12 = .pointer (some ⟨B, 0, none⟩) ∧ w1.heap.size ≤ B ∧ (c 13 = false → Cls B 25 #[.slice none 0 0, .slice none 0 0] W) ∧ (c 13 = true → ∃ x y, Cls B 25 #[x, y] W ∧ RowC w1.heap.size x T.rs W ∧ RowP w1.heap.size y (T.ps ++ [p]) W) := hF 12 (by simp) (by simpa [updN] using hcj)
          show ∃ B, v 12 = .pointer (some ⟨B, 0, none⟩) ∧ w1.heap.size ≤ B ∧ (updN c 0 true 13 = false → Cls B 25 #[.slice none 0 0, .slice none 0 0] W') ∧ (updN c 0 true 13 = true → ∃ x y, Cls B 25 #[x, y] W' ∧ RowC w1.heap.size x T.rs W' ∧ RowP w1.heap.size y (T.ps ++ [p]) W')
          exact (by obtain ⟨B, h1, h2, h3, h4⟩ := hP; exact ⟨B, h1, h2, fun h => (h3 (by simpa [updN] using h)).ext hz, fun h => by obtain ⟨x, y, k1, k2, k3⟩ := h4 (by simpa [updN] using h); exact ⟨x, y, k1.ext hz, k2.ext hz, k3.ext hz⟩⟩)
        · trivial
      refine StepsAll.cons rfl (fun v c W K hK hG hc hd hcl hF => ?_) ?_
      · simp only [putAll, List.setIfInBounds_toArray, List.set_cons_zero, List.set_cons_succ]
        have h0 : c 3 = false → RowC w1.heap.size (v 0) [] W := hF 0 (by simp) (hd 0 (by kernel_rfl))
        have hr5 := h0 hc
        obtain ⟨v8, W', hrun, hr8, hg, ho⟩ := run_append_rcs W 22 w1.heap.size _ _ [] T.rs hr5 (hT.r.ext (hx.trans hG)) hG.size (by simp; omega)
        rw [List.nil_append] at hr8
        rw [if_pos (by rfl)]
        refine oper_append _ _ 22 rfl _ _ v8 W' rfl rfl hrun ?_
        refine hK.out v8 _ _ (by kernel_rfl) (ext_own hG hr5 (Nat.le_refl _) hg) (fun j hj hcj => ?_)
        simp only [List.mem_cons, List.not_mem_nil, or_false] at hj
        rcases hj with rfl | rfl | rfl | rfl | rfl | rfl | rfl | rfl | rfl
        · have hP : c 3 = false → RowC w1.heap.size (v 0) [] W := hF 0 (by simp) (by simpa [updN] using hcj)
          show updN c 3 true 3 = false → RowC w1.heap.size (v 0) [] W'
          exact fun h => absurd h (by simp [updN])
        · show RowC w1.heap.size (v8) T.rs W'
          exact hr8
        · have hP : (c 7 = false → RowP w1.heap.size (v 4) [] W) ∧ ∀ g, (v 4).ownBlock = some g → g < W.heap.size := hF 4 (by simp) (by simpa [updN] using hcj)
          show (updN c 3 true 7 = false → RowP w1.heap.size (v 4) [] W') ∧ ∀ g, (v 4).ownBlock = some g → g < W'.heap.size
          exact ⟨fun h => RowK.kept (hP.1 (by simpa [updN] using h)) hg (RowK.neRow (hP.1 (by simpa [updN] using h)) hr5 (by decide)), fun g hg' => Nat.lt_of_lt_of_le (hP.2 g hg') hg.size⟩
        · have hP : (c 10 = false → RowP w1.heap.size (v 7) T.ps W) ∧ ∀ g, (v 7).ownBlock = some g → g < W.heap.size := hF 7 (by simp) (by simpa [updN] using hcj)
          show (updN c 3 true 10 = false → RowP w1.heap.size (v 7) T.ps W') ∧ ∀ g, (v 7).ownBlock = some g → g < W'.heap.size
          exact absurd (hcl 7 3 (by kernel_rfl) (by simpa [updN] using hcj)) (by rw [hc]; decide)
        · have hP : ∃ B, v 9 = .slice (some ⟨B, 0, none⟩) 1 1 ∧ Cls B 45 #[.int .i64 p.id, .int .i64 p.reach, .int .i64 p.w] W ∧ (c 4 = true → (v 4).ownBlock ≠ some B) ∧ (c 7 = true → (v 7).ownBlock ≠ some B) := hF 9 (by simp) (by simpa [updN] using hcj)
          show ∃ B, v 9 = .slice (some ⟨B, 0, none⟩) 1 1 ∧ Cls B 45 #[.int .i64 p.id, .int .i64 p.reach, .int .i64 p.w] W' ∧ (updN c 3 true 4 = true → (v 4).ownBlock ≠ some B) ∧ (updN c 3 true 7 = true → (v 7).ownBlock ≠ some B)
          exact (by obtain ⟨B, h1, h2, h3, h4⟩ := hP; exact ⟨B, h1, h2.kept hg (RowK.neCls hr5 h2 (by decide)), fun h => h3 (by simpa [updN] using h), fun h => h4 (by simpa [updN] using h)⟩)
        · have hP : RowP w1.heap.size (v 10) (T.ps ++ [p]) W := hF 10 (by simp) (by simpa [updN] using hcj)
          show RowP w1.heap.size (v 10) (T.ps ++ [p]) W'
          exact absurd (hcl 7 3 (by kernel_rfl) (hcl 10 7 (by kernel_rfl) (by simpa [updN] using hcj))) (by rw [hc]; decide)
        · have hP : ∃ x y, v 11 = .agg #[x, y] ∧ RowC w1.heap.size x T.rs W ∧ RowP w1.heap.size y (T.ps ++ [p]) W := hF 11 (by simp) (by simpa [updN] using hcj)
          show ∃ x y, v 11 = .agg #[x, y] ∧ RowC w1.heap.size x T.rs W' ∧ RowP w1.heap.size y (T.ps ++ [p]) W'
          exact absurd (hcl 11 3 (by kernel_rfl) (by simpa [updN] using hcj)) (by rw [hc]; decide)
        · have hP : ∃ B, v 12 = .pointer (some ⟨B, 0, none⟩) ∧ w1.heap.size ≤ B ∧ (c 13 = false → Cls B 25 #[.slice none 0 0, .slice none 0 0] W) ∧ (c 13 = true → ∃ x y, Cls B 25 #[x, y] W ∧ RowC w1.heap.size x T.rs W ∧ RowP w1.heap.size y (T.ps ++ [p]) W) := hF 12 (by simp) (by simpa [updN] using hcj)
          show ∃ B, v 12 = .pointer (some ⟨B, 0, none⟩) ∧ w1.heap.size ≤ B ∧ (updN c 3 true 13 = false → Cls B 25 #[.slice none 0 0, .slice none 0 0] W') ∧ (updN c 3 true 13 = true → ∃ x y, Cls B 25 #[x, y] W' ∧ RowC w1.heap.size x T.rs W' ∧ RowP w1.heap.size y (T.ps ++ [p]) W')
          exact (by obtain ⟨B, h1, h2, h3, h4⟩ := hP; exact ⟨B, h1, h2, fun h => (h3 (by simpa [updN] using h)).kept hg (RowK.neCls hr5 (h3 (by simpa [updN] using h)) (by decide)), fun h => absurd (hcl 13 3 (by kernel_rfl) (by simpa [updN] using h)) (by rw [hc]; decide)⟩)
        · trivial
      refine StepsAll.cons rfl (fun v c W K hK hG hc hd hcl hF => ?_) ?_
      · simp only [putAll, List.setIfInBounds_toArray, List.set_cons_zero, List.set_cons_succ]
        go_simp
        obtain ⟨W', hN⟩ : ∃ X, W.alloc (.cells #[] 45) = X := ⟨_, rfl⟩
        have hz : Ext W W' := by rw [← hN]; exact (by repeat (first | exact Ext.refl _ | assumption | refine Ext.alloc ?_ _ | refine Ext.drew ?_ | refine Ext.drewN _ ?_ | refine Ext.trans ?_ (by assumption)))
        have hr : RowP w1.heap.size (.slice (some ⟨W.heap.size, 0, none⟩) 0 0) [] W' := by rw [← hN]; exact rowP_lit0 W hG.size
        rw [hN]
        refine hK.out (Value.slice (some ⟨W.heap.size, 0, none⟩) 0 0) _ _ (by kernel_rfl) (hG.trans hz) (fun j hj hcj => ?_)
        simp only [List.mem_cons, List.not_mem_nil, or_false] at hj
        rcases hj with rfl | rfl | rfl | rfl | rfl | rfl | rfl | rfl | rfl
        · have hP : c 3 = false → RowC w1.heap.size (v 0) [] W := hF 0 (by simp) (by simpa [updN] using hcj)
          show updN c 4 true 3 = false → RowC w1.heap.size (v 0) [] W'
          exact fun h => (hP (by simpa [updN] using h)).ext hz
        · have hP : RowC w1.heap.size (v 3) T.rs W := hF 3 (by simp) (by simpa [updN] using hcj)
          show RowC w1.heap.size (v 3) T.rs W'
          exact hP.ext hz
        · show (updN c 4 true 7 = false → RowP w1.heap.size ((Value.slice (some ⟨W.heap.size, 0, none⟩) 0 0)) [] W') ∧ ∀ g, ((Value.slice (some ⟨W.heap.size, 0, none⟩) 0 0)).ownBlock = some g → g < W'.heap.size
          exact ⟨fun _ => hr, fun g hg => (RowK.lt hr g hg).2⟩
        · have hP : (c 10 = false → RowP w1.heap.size (v 7) T.ps W) ∧ ∀ g, (v 7).ownBlock = some g → g < W.heap.size := hF 7 (by simp) (by simpa [updN] using hcj)
          show (updN c 4 true 10 = false → RowP w1.heap.size (v 7) T.ps W') ∧ ∀ g, (v 7).ownBlock = some g → g < W'.heap.size
          exact ⟨fun h => (hP.1 (by simpa [updN] using h)).ext hz, fun g hg => Nat.lt_of_lt_of_le (hP.2 g hg) hz.size⟩
        · have hP : ∃ B, v 9 = .slice (some ⟨B, 0, none⟩) 1 1 ∧ Cls B 45 #[.int .i64 p.id, .int .i64 p.reach, .int .i64 p.w] W ∧ (c 4 = true → (v 4).ownBlock ≠ some B) ∧ (c 7 = true → (v 7).ownBlock ≠ some B) := hF 9 (by simp) (by simpa [updN] using hcj)
          show ∃ B, v 9 = .slice (some ⟨B, 0, none⟩) 1 1 ∧ Cls B 45 #[.int .i64 p.id, .int .i64 p.reach, .int .i64 p.w] W' ∧ (updN c 4 true 4 = true → ((Value.slice (some ⟨W.heap.size, 0, none⟩) 0 0)).ownBlock ≠ some B) ∧ (updN c 4 true 7 = true → (v 7).ownBlock ≠ some B)
          exact (by obtain ⟨B, h1, h2, h3, h4⟩ := hP; exact ⟨B, h1, h2.ext hz, fun _ he => by simp only [Value.ownBlock, Option.some.injEq] at he; have := h2.lt; omega, fun h => absurd (hcl 7 4 (by kernel_rfl) (by simpa [updN] using h)) (by rw [hc]; decide)⟩)
        · have hP : RowP w1.heap.size (v 10) (T.ps ++ [p]) W := hF 10 (by simp) (by simpa [updN] using hcj)
          show RowP w1.heap.size (v 10) (T.ps ++ [p]) W'
          exact hP.ext hz
        · have hP : ∃ x y, v 11 = .agg #[x, y] ∧ RowC w1.heap.size x T.rs W ∧ RowP w1.heap.size y (T.ps ++ [p]) W := hF 11 (by simp) (by simpa [updN] using hcj)
          show ∃ x y, v 11 = .agg #[x, y] ∧ RowC w1.heap.size x T.rs W' ∧ RowP w1.heap.size y (T.ps ++ [p]) W'
          exact (by obtain ⟨x, y, h1, h2, h3⟩ := hP; exact ⟨x, y, h1, h2.ext hz, h3.ext hz⟩)
        · have hP : ∃ B, v 12 = .pointer (some ⟨B, 0, none⟩) ∧ w1.heap.size ≤ B ∧ (c 13 = false → Cls B 25 #[.slice none 0 0, .slice none 0 0] W) ∧ (c 13 = true → ∃ x y, Cls B 25 #[x, y] W ∧ RowC w1.heap.size x T.rs W ∧ RowP w1.heap.size y (T.ps ++ [p]) W) := hF 12 (by simp) (by simpa [updN] using hcj)
          show ∃ B, v 12 = .pointer (some ⟨B, 0, none⟩) ∧ w1.heap.size ≤ B ∧ (updN c 4 true 13 = false → Cls B 25 #[.slice none 0 0, .slice none 0 0] W') ∧ (updN c 4 true 13 = true → ∃ x y, Cls B 25 #[x, y] W' ∧ RowC w1.heap.size x T.rs W' ∧ RowP w1.heap.size y (T.ps ++ [p]) W')
          exact (by obtain ⟨B, h1, h2, h3, h4⟩ := hP; exact ⟨B, h1, h2, fun h => (h3 (by simpa [updN] using h)).ext hz, fun h => by obtain ⟨x, y, k1, k2, k3⟩ := h4 (by simpa [updN] using h); exact ⟨x, y, k1.ext hz, k2.ext hz, k3.ext hz⟩⟩)
        · trivial
      refine StepsAll.cons rfl (fun v c W K hK hG hc hd hcl hF => ?_) ?_
      · simp only [putAll, List.setIfInBounds_toArray, List.set_cons_zero, List.set_cons_succ]
        have h4 : (c 7 = false → RowP w1.heap.size (v 4) [] W) ∧ ∀ g, (v 4).ownBlock = some g → g < W.heap.size := hF 4 (by simp) (hd 4 (by kernel_rfl))
        have hr5 := h4.1 hc
        obtain ⟨v8, W', hrun, hr8, hg, ho⟩ := run_append_pys W 23 w1.heap.size _ _ [] T.ps hr5 (hT.p.ext (hx.trans hG)) hG.size (by simp; omega)
        rw [List.nil_append] at hr8
        rw [if_pos (by rfl)]
        refine oper_append _ _ 23 rfl _ _ v8 W' rfl rfl hrun ?_
        refine hK.out v8 _ _ (by kernel_rfl) (ext_own hG hr5 (Nat.le_refl _) hg) (fun j hj hcj => ?_)
        simp only [List.mem_cons, List.not_mem_nil, or_false] at hj
        rcases hj with rfl | rfl | rfl | rfl | rfl | rfl | rfl | rfl | rfl
        · have hP : c 3 = false → RowC w1.heap.size (v 0) [] W := hF 0 (by simp) (by simpa [updN] using hcj)
          show updN c 7 true 3 = false → RowC w1.heap.size (v 0) [] W'
          exact fun h => absurd (hd 3 (by kernel_rfl)) (by rw [show c 3 = false by simpa [updN] using h]; decide)
        · have hP : RowC w1.heap.size (v 3) T.rs W := hF 3 (by simp) (by simpa [updN] using hcj)
          show RowC w1.heap.size (v 3) T.rs W'
          exact RowK.kept hP hg (RowK.neRow hP hr5 (by decide))
        · have hP : (c 7 = false → RowP w1.heap.size (v 4) [] W) ∧ ∀ g, (v 4).ownBlock = some g → g < W.heap.size := hF 4 (by simp) (by simpa [updN] using hcj)
          show (updN c 7 true 7 = false → RowP w1.heap.size (v 4) [] W') ∧ ∀ g, (v 4).ownBlock = some g → g < W'.heap.size
          exact ⟨fun h => absurd h (by simp [updN]), fun g hg' => Nat.lt_of_lt_of_le (hP.2 g hg') hg.size⟩
        · show (updN c 7 true 10 = false → RowP w1.heap.size (v8) T.ps W') ∧ ∀ g, (v8).ownBlock = some g → g < W'.heap.size
          exact ⟨fun _ => hr8, fun g hg' => (RowK.lt hr8 g hg').2⟩
        · have hP : ∃ B, v 9 = .slice (some ⟨B, 0, none⟩) 1 1 ∧ Cls B 45 #[.int .i64 p.id, .int .i64 p.reach, .int .i64 p.w] W ∧ (c 4 = true → (v 4).ownBlock ≠ some B) ∧ (c 7 = true → (v 7).ownBlock ≠ some B) := hF 9 (by simp) (by simpa [updN] using hcj)
          show ∃ B, v 9 = .slice (some ⟨B, 0, none⟩) 1 1 ∧ Cls B 45 #[.int .i64 p.id, .int .i64 p.reach, .int .i64 p.w] W' ∧ (updN c 7 true 4 = true → (v 4).ownBlock ≠ some B) ∧ (updN c 7 true 7 = true → (v8).ownBlock ≠ some B)
          exact (by obtain ⟨B, h1, h2, h3, h4⟩ := hP; exact ⟨B, h1, h2.kept hg (fun e => h3 (hd 4 (by kernel_rfl)) e.symm), fun h => h3 (by simpa [updN] using h), fun _ he => by rcases ho with ho | ho; exact h3 (hd 4 (by kernel_rfl)) (by rw [← ho]; exact he); have h5 := h2.lt; rw [ho] at he; simp only [Option.some.injEq] at he; omega⟩)
        · have hP : RowP w1.heap.size (v 10) (T.ps ++ [p]) W := hF 10 (by simp) (by simpa [updN] using hcj)
          show RowP w1.heap.size (v 10) (T.ps ++ [p]) W'
          exact absurd (hcl 10 7 (by kernel_rfl) (by simpa [updN] using hcj)) (by rw [hc]; decide)
        · have hP : ∃ x y, v 11 = .agg #[x, y] ∧ RowC w1.heap.size x T.rs W ∧ RowP w1.heap.size y (T.ps ++ [p]) W := hF 11 (by simp) (by simpa [updN] using hcj)
          show ∃ x y, v 11 = .agg #[x, y] ∧ RowC w1.heap.size x T.rs W' ∧ RowP w1.heap.size y (T.ps ++ [p]) W'
          exact absurd (hcl 10 7 (by kernel_rfl) (hcl 11 10 (by kernel_rfl) (by simpa [updN] using hcj))) (by rw [hc]; decide)
        · have hP : ∃ B, v 12 = .pointer (some ⟨B, 0, none⟩) ∧ w1.heap.size ≤ B ∧ (c 13 = false → Cls B 25 #[.slice none 0 0, .slice none 0 0] W) ∧ (c 13 = true → ∃ x y, Cls B 25 #[x, y] W ∧ RowC w1.heap.size x T.rs W ∧ RowP w1.heap.size y (T.ps ++ [p]) W) := hF 12 (by simp) (by simpa [updN] using hcj)
          show ∃ B, v 12 = .pointer (some ⟨B, 0, none⟩) ∧ w1.heap.size ≤ B ∧ (updN c 7 true 13 = false → Cls B 25 #[.slice none 0 0, .slice none 0 0] W') ∧ (updN c 7 true 13 = true → ∃ x y, Cls B 25 #[x, y] W' ∧ RowC w1.heap.size x T.rs W' ∧ RowP w1.heap.size y (T.ps ++ [p]) W')
          exact (by obtain ⟨B, h1, h2, h3, h4⟩ := hP; exact ⟨B, h1, h2, fun h => (h3 (by simpa [updN] using h)).kept hg (RowK.neCls hr5 (h3 (by simpa [updN] using h)) (by decide)), fun h => absurd (hcl 13 7 (by kernel_rfl) (by simpa [updN] using h)) (by rw [hc]; decide)⟩)
        · trivial
      refine StepsAll.cons rfl (fun v c W K hK hG hc hd hcl hF => ?_) ?_
      · simp only [putAll, List.setIfInBounds_toArray, List.set_cons_zero, List.set_cons_succ]
        go_simp
        obtain ⟨W', hN⟩ : ∃ X, W.alloc (.cells #[.int .i64 p.id, .int .i64 p.reach, .int .i64 p.w] 45) = X := ⟨_, rfl⟩
        have hz : Ext W W' := by rw [← hN]; exact (by repeat (first | exact Ext.refl _ | assumption | refine Ext.alloc ?_ _ | refine Ext.drew ?_ | refine Ext.drewN _ ?_ | refine Ext.trans ?_ (by assumption)))
        have hB : Cls W.heap.size 45 #[.int .i64 p.id, .int .i64 p.reach, .int .i64 p.w] W' := by rw [← hN]; exact Cls.new _ _ _
        rw [hN]
        refine hK.out (Value.slice (some ⟨W.heap.size, 0, none⟩) 1 1) _ _ (by kernel_rfl) (hG.trans hz) (fun j hj hcj => ?_)
        simp only [List.mem_cons, List.not_mem_nil, or_false] at hj
        rcases hj with rfl | rfl | rfl | rfl | rfl | rfl | rfl | rfl | rfl
        · have hP : c 3 = false → RowC w1.heap.size (v 0) [] W := hF 0 (by simp) (by simpa [updN] using hcj)
          show updN c 9 true 3 = false → RowC w1.heap.size (v 0) [] W'
          exact fun h => (hP (by simpa [updN] using h)).ext hz
        · have hP : RowC w1.heap.size (v 3) T.rs W := hF 3 (by simp) (by simpa [updN] using hcj)
          show RowC w1.heap.size (v 3) T.rs W'
          exact hP.ext hz
        · have hP : (c 7 = false → RowP w1.heap.size (v 4) [] W) ∧ ∀ g, (v 4).ownBlock = some g → g < W.heap.size := hF 4 (by simp) (by simpa [updN] using hcj)
          show (updN c 9 true 7 = false → RowP w1.heap.size (v 4) [] W') ∧ ∀ g, (v 4).ownBlock = some g → g < W'.heap.size
          exact ⟨fun h => (hP.1 (by simpa [updN] using h)).ext hz, fun g hg => Nat.lt_of_lt_of_le (hP.2 g hg) hz.size⟩
        · have hP : (c 10 = false → RowP w1.heap.size (v 7) T.ps W) ∧ ∀ g, (v 7).ownBlock = some g → g < W.heap.size := hF 7 (by simp) (by simpa [updN] using hcj)
          show (updN c 9 true 10 = false → RowP w1.heap.size (v 7) T.ps W') ∧ ∀ g, (v 7).ownBlock = some g → g < W'.heap.size
          exact ⟨fun h => (hP.1 (by simpa [updN] using h)).ext hz, fun g hg => Nat.lt_of_lt_of_le (hP.2 g hg) hz.size⟩
        · show ∃ B, (Value.slice (some ⟨W.heap.size, 0, none⟩) 1 1) = .slice (some ⟨B, 0, none⟩) 1 1 ∧ Cls B 45 #[.int .i64 p.id, .int .i64 p.reach, .int .i64 p.w] W' ∧ (updN c 9 true 4 = true → (v 4).ownBlock ≠ some B) ∧ (updN c 9 true 7 = true → (v 7).ownBlock ≠ some B)
          exact ⟨W.heap.size, rfl, hB, fun h he => by have h1 := hF 4 (by simp) (by simpa [updN] using h); exact absurd (h1.2 _ he) (by omega), fun h he => by have h1 := hF 7 (by simp) (by simpa [updN] using h); exact absurd (h1.2 _ he) (by omega)⟩
        · have hP : RowP w1.heap.size (v 10) (T.ps ++ [p]) W := hF 10 (by simp) (by simpa [updN] using hcj)
          show RowP w1.heap.size (v 10) (T.ps ++ [p]) W'
          exact absurd (hcl 10 9 (by kernel_rfl) (by simpa [updN] using hcj)) (by rw [hc]; decide)
        · have hP : ∃ x y, v 11 = .agg #[x, y] ∧ RowC w1.heap.size x T.rs W ∧ RowP w1.heap.size y (T.ps ++ [p]) W := hF 11 (by simp) (by simpa [updN] using hcj)
          show ∃ x y, v 11 = .agg #[x, y] ∧ RowC w1.heap.size x T.rs W' ∧ RowP w1.heap.size y (T.ps ++ [p]) W'
          exact (by obtain ⟨x, y, h1, h2, h3⟩ := hP; exact ⟨x, y, h1, h2.ext hz, h3.ext hz⟩)
        · have hP : ∃ B, v 12 = .pointer (some ⟨B, 0, none⟩) ∧ w1.heap.size ≤ B ∧ (c 13 = false → Cls B 25 #[.slice none 0 0, .slice none 0 0] W) ∧ (c 13 = true → ∃ x y, Cls B 25 #[x, y] W ∧ RowC w1.heap.size x T.rs W ∧ RowP w1.heap.size y (T.ps ++ [p]) W) := hF 12 (by simp) (by simpa [updN] using hcj)
          show ∃ B, v 12 = .pointer (some ⟨B, 0, none⟩) ∧ w1.heap.size ≤ B ∧ (updN c 9 true 13 = false → Cls B 25 #[.slice none 0 0, .slice none 0 0] W') ∧ (updN c 9 true 13 = true → ∃ x y, Cls B 25 #[x, y] W' ∧ RowC w1.heap.size x T.rs W' ∧ RowP w1.heap.size y (T.ps ++ [p]) W')
          exact (by obtain ⟨B, h1, h2, h3, h4⟩ := hP; exact ⟨B, h1, h2, fun h => (h3 (by simpa [updN] using h)).ext hz, fun h => by obtain ⟨x, y, k1, k2, k3⟩ := h4 (by simpa [updN] using h); exact ⟨x, y, k1.ext hz, k2.ext hz, k3.ext hz⟩⟩)
        · trivial
      refine StepsAll.cons rfl (fun v c W K hK hG hc hd hcl hF => ?_) ?_
      · simp only [putAll, List.setIfInBounds_toArray, List.set_cons_zero, List.set_cons_succ]
        have h7 : (c 10 = false → RowP w1.heap.size (v 7) T.ps W) ∧ ∀ g, (v 7).ownBlock = some g → g < W.heap.size := hF 7 (by simp) (hd 7 (by kernel_rfl))
        have h9 : ∃ B, v 9 = .slice (some ⟨B, 0, none⟩) 1 1 ∧ Cls B 45 #[.int .i64 p.id, .int .i64 p.reach, .int .i64 p.w] W ∧ (c 4 = true → (v 4).ownBlock ≠ some B) ∧ (c 7 = true → (v 7).ownBlock ≠ some B) := hF 9 (by simp) (hd 9 (by kernel_rfl))
        have hr5 := h7.1 hc
        obtain ⟨B7, e7, h7c, _, _⟩ := h9
        obtain ⟨v8, W', hrun, hr8, hg, ho⟩ := run_append_pys W 23 w1.heap.size _ _ T.ps [p] hr5 (pys_one h7c) hG.size (by simp; omega)
        rw [if_pos (by rfl)]
        refine oper_append _ _ 23 rfl _ _ v8 W' rfl e7 hrun ?_
        refine hK.out v8 _ _ (by kernel_rfl) (ext_own hG hr5 (Nat.le_refl _) hg) (fun j hj hcj => ?_)
        simp only [List.mem_cons, List.not_mem_nil, or_false] at hj
        rcases hj with rfl | rfl | rfl | rfl | rfl | rfl | rfl | rfl | rfl
        · have hP : c 3 = false → RowC w1.heap.size (v 0) [] W := hF 0 (by simp) (by simpa [updN] using hcj)
          show updN c 10 true 3 = false → RowC w1.heap.size (v 0) [] W'
          exact fun h => absurd (hcl 7 3 (by kernel_rfl) (hd 7 (by kernel_rfl))) (by rw [show c 3 = false by simpa [updN] using h]; decide)
        · have hP : RowC w1.heap.size (v 3) T.rs W := hF 3 (by simp) (by simpa [updN] using hcj)
          show RowC w1.heap.size (v 3) T.rs W'
          exact RowK.kept hP hg (RowK.neRow hP hr5 (by decide))
        · have hP : (c 7 = false → RowP w1.heap.size (v 4) [] W) ∧ ∀ g, (v 4).ownBlock = some g → g < W.heap.size := hF 4 (by simp) (by simpa [updN] using hcj)
          show (updN c 10 true 7 = false → RowP w1.heap.size (v 4) [] W') ∧ ∀ g, (v 4).ownBlock = some g → g < W'.heap.size
          exact ⟨fun h => absurd (hd 7 (by kernel_rfl)) (by rw [show c 7 = false by simpa [updN] using h]; decide), fun g hg' => Nat.lt_of_lt_of_le (hP.2 g hg') hg.size⟩
        · have hP : (c 10 = false → RowP w1.heap.size (v 7) T.ps W) ∧ ∀ g, (v 7).ownBlock = some g → g < W.heap.size := hF 7 (by simp) (by simpa [updN] using hcj)
          show (updN c 10 true 10 = false → RowP w1.heap.size (v 7) T.ps W') ∧ ∀ g, (v 7).ownBlock = some g → g < W'.heap.size
          exact ⟨fun h => absurd h (by simp [updN]), fun g hg' => Nat.lt_of_lt_of_le (hP.2 g hg') hg.size⟩
        · have hP : ∃ B, v 9 = .slice (some ⟨B, 0, none⟩) 1 1 ∧ Cls B 45 #[.int .i64 p.id, .int .i64 p.reach, .int .i64 p.w] W ∧ (c 4 = true → (v 4).ownBlock ≠ some B) ∧ (c 7 = true → (v 7).ownBlock ≠ some B) := hF 9 (by simp) (by simpa [updN] using hcj)
          show ∃ B, v 9 = .slice (some ⟨B, 0, none⟩) 1 1 ∧ Cls B 45 #[.int .i64 p.id, .int .i64 p.reach, .int .i64 p.w] W' ∧ (updN c 10 true 4 = true → (v 4).ownBlock ≠ some B) ∧ (updN c 10 true 7 = true → (v 7).ownBlock ≠ some B)
          exact (by obtain ⟨B, h1, h2, h3, h4⟩ := hP; exact ⟨B, h1, h2.kept hg (fun e => h4 (hd 7 (by kernel_rfl)) e.symm), fun h => h3 (by simpa [updN] using h), fun h => h4 (by simpa [updN] using h)⟩)
        · show RowP w1.heap.size (v8) (T.ps ++ [p]) W'
          exact hr8
        · have hP : ∃ x y, v 11 = .agg #[x, y] ∧ RowC w1.heap.size x T.rs W ∧ RowP w1.heap.size y (T.ps ++ [p]) W := hF 11 (by simp) (by simpa [updN] using hcj)
          show ∃ x y, v 11 = .agg #[x, y] ∧ RowC w1.heap.size x T.rs W' ∧ RowP w1.heap.size y (T.ps ++ [p]) W'
          exact absurd (hcl 11 10 (by kernel_rfl) (by simpa [updN] using hcj)) (by rw [hc]; decide)
        · have hP : ∃ B, v 12 = .pointer (some ⟨B, 0, none⟩) ∧ w1.heap.size ≤ B ∧ (c 13 = false → Cls B 25 #[.slice none 0 0, .slice none 0 0] W) ∧ (c 13 = true → ∃ x y, Cls B 25 #[x, y] W ∧ RowC w1.heap.size x T.rs W ∧ RowP w1.heap.size y (T.ps ++ [p]) W) := hF 12 (by simp) (by simpa [updN] using hcj)
          show ∃ B, v 12 = .pointer (some ⟨B, 0, none⟩) ∧ w1.heap.size ≤ B ∧ (updN c 10 true 13 = false → Cls B 25 #[.slice none 0 0, .slice none 0 0] W') ∧ (updN c 10 true 13 = true → ∃ x y, Cls B 25 #[x, y] W' ∧ RowC w1.heap.size x T.rs W' ∧ RowP w1.heap.size y (T.ps ++ [p]) W')
          exact (by obtain ⟨B, h1, h2, h3, h4⟩ := hP; exact ⟨B, h1, h2, fun h => (h3 (by simpa [updN] using h)).kept hg (RowK.neCls hr5 (h3 (by simpa [updN] using h)) (by decide)), fun h => absurd (hcl 13 10 (by kernel_rfl) (by simpa [updN] using h)) (by rw [hc]; decide)⟩)
        · trivial
      refine StepsAll.cons rfl (fun v c W K hK hG hc hd hcl hF => ?_) ?_
      · simp only [putAll, List.setIfInBounds_toArray, List.set_cons_zero, List.set_cons_succ]
        have h3 : RowC w1.heap.size (v 3) T.rs W := hF 3 (by simp) (hd 3 (by kernel_rfl))
        have h10 : RowP w1.heap.size (v 10) (T.ps ++ [p]) W := hF 10 (by simp) (hd 10 (by kernel_rfl))
        obtain ⟨A1, c1, e1⟩ := RowK.form h3
        obtain ⟨A2, c2, e2⟩ := RowK.form h10
        simp only [e1, e2]
        go_simp
        refine hK.out (Value.agg #[.slice A1 T.rs.length c1, .slice A2 (T.ps ++ [p]).length c2]) _ _ (by simp [putAll, updN, e1, e2]) (hG) (fun j hj hcj => ?_)
        simp only [List.mem_cons, List.not_mem_nil, or_false] at hj
        rcases hj with rfl | rfl | rfl | rfl | rfl | rfl | rfl | rfl | rfl
        · have hP : c 3 = false → RowC w1.heap.size (v 0) [] W := hF 0 (by simp) (by simpa [updN] using hcj)
          show updN c 11 true 3 = false → RowC w1.heap.size (v 0) [] W
          exact fun h => hP (by simpa [updN] using h)
        · have hP : RowC w1.heap.size (v 3) T.rs W := hF 3 (by simp) (by simpa [updN] using hcj)
          show RowC w1.heap.size (v 3) T.rs W
          exact hP
        · have hP : (c 7 = false → RowP w1.heap.size (v 4) [] W) ∧ ∀ g, (v 4).ownBlock = some g → g < W.heap.size := hF 4 (by simp) (by simpa [updN] using hcj)
          show (updN c 11 true 7 = false → RowP w1.heap.size (v 4) [] W) ∧ ∀ g, (v 4).ownBlock = some g → g < W.heap.size
          exact ⟨fun h => hP.1 (by simpa [updN] using h), hP.2⟩
        · have hP : (c 10 = false → RowP w1.heap.size (v 7) T.ps W) ∧ ∀ g, (v 7).ownBlock = some g → g < W.heap.size := hF 7 (by simp) (by simpa [updN] using hcj)
          show (updN c 11 true 10 = false → RowP w1.heap.size (v 7) T.ps W) ∧ ∀ g, (v 7).ownBlock = some g → g < W.heap.size
          exact ⟨fun h => hP.1 (by simpa [updN] using h), hP.2⟩
        · have hP : ∃ B, v 9 = .slice (some ⟨B, 0, none⟩) 1 1 ∧ Cls B 45 #[.int .i64 p.id, .int .i64 p.reach, .int .i64 p.w] W ∧ (c 4 = true → (v 4).ownBlock ≠ some B) ∧ (c 7 = true → (v 7).ownBlock ≠ some B) := hF 9 (by simp) (by simpa [updN] using hcj)
          show ∃ B, v 9 = .slice (some ⟨B, 0, none⟩) 1 1 ∧ Cls B 45 #[.int .i64 p.id, .int .i64 p.reach, .int .i64 p.w] W ∧ (updN c 11 true 4 = true → (v 4).ownBlock ≠ some B) ∧ (updN c 11 true 7 = true → (v 7).ownBlock ≠ some B)
          exact (by obtain ⟨B, h1, h2, h3, h4⟩ := hP; exact ⟨B, h1, h2, fun h => h3 (by simpa [updN] using h), fun h => h4 (by simpa [updN] using h)⟩)
        · have hP : RowP w1.heap.size (v 10) (T.ps ++ [p]) W := hF 10 (by simp) (by simpa [updN] using hcj)
          show RowP w1.heap.size (v 10) (T.ps ++ [p]) W
          exact hP
        · show ∃ x y, (Value.agg #[.slice A1 T.rs.length c1, .slice A2 (T.ps ++ [p]).length c2]) = .agg #[x, y] ∧ RowC w1.heap.size x T.rs W ∧ RowP w1.heap.size y (T.ps ++ [p]) W
          exact ⟨_, _, rfl, e1 ▸ h3, e2 ▸ h10⟩
        · have hP : ∃ B, v 12 = .pointer (some ⟨B, 0, none⟩) ∧ w1.heap.size ≤ B ∧ (c 13 = false → Cls B 25 #[.slice none 0 0, .slice none 0 0] W) ∧ (c 13 = true → ∃ x y, Cls B 25 #[x, y] W ∧ RowC w1.heap.size x T.rs W ∧ RowP w1.heap.size y (T.ps ++ [p]) W) := hF 12 (by simp) (by simpa [updN] using hcj)
          show ∃ B, v 12 = .pointer (some ⟨B, 0, none⟩) ∧ w1.heap.size ≤ B ∧ (updN c 11 true 13 = false → Cls B 25 #[.slice none 0 0, .slice none 0 0] W) ∧ (updN c 11 true 13 = true → ∃ x y, Cls B 25 #[x, y] W ∧ RowC w1.heap.size x T.rs W ∧ RowP w1.heap.size y (T.ps ++ [p]) W)
          exact (by obtain ⟨B, h1, h2, h3, h4⟩ := hP; exact ⟨B, h1, h2, fun h => h3 (by simpa [updN] using h), fun h => h4 (by simpa [updN] using h)⟩)
        · trivial
      refine StepsAll.cons rfl (fun v c W K hK hG hc hd hcl hF => ?_) ?_
      · simp only [putAll, List.setIfInBounds_toArray, List.set_cons_zero, List.set_cons_succ]
        go_simp
        obtain ⟨W', hN⟩ : ∃ X, W.alloc (.cells #[.slice none 0 0, .slice none 0 0] 25) = X := ⟨_, rfl⟩
        have hz : Ext W W' := by rw [← hN]; exact (by repeat (first | exact Ext.refl _ | assumption | refine Ext.alloc ?_ _ | refine Ext.drew ?_ | refine Ext.drewN _ ?_ | refine Ext.trans ?_ (by assumption)))
        have hB : Cls W.heap.size 25 #[.slice none 0 0, .slice none 0 0] W' := by rw [← hN]; exact Cls.new _ _ _
        rw [hN]
        refine hK.out (Value.pointer (some ⟨W.heap.size, 0, none⟩)) _ _ (by kernel_rfl) (hG.trans hz) (fun j hj hcj => ?_)
        simp only [List.mem_cons, List.not_mem_nil, or_false] at hj
        rcases hj with rfl | rfl | rfl | rfl | rfl | rfl | rfl | rfl | rfl
        · have hP : c 3 = false → RowC w1.heap.size (v 0) [] W := hF 0 (by simp) (by simpa [updN] using hcj)
          show updN c 12 true 3 = false → RowC w1.heap.size (v 0) [] W'
          exact fun h => (hP (by simpa [updN] using h)).ext hz
        · have hP : RowC w1.heap.size (v 3) T.rs W := hF 3 (by simp) (by simpa [updN] using hcj)
          show RowC w1.heap.size (v 3) T.rs W'
          exact hP.ext hz
        · have hP : (c 7 = false → RowP w1.heap.size (v 4) [] W) ∧ ∀ g, (v 4).ownBlock = some g → g < W.heap.size := hF 4 (by simp) (by simpa [updN] using hcj)
          show (updN c 12 true 7 = false → RowP w1.heap.size (v 4) [] W') ∧ ∀ g, (v 4).ownBlock = some g → g < W'.heap.size
          exact ⟨fun h => (hP.1 (by simpa [updN] using h)).ext hz, fun g hg => Nat.lt_of_lt_of_le (hP.2 g hg) hz.size⟩
        · have hP : (c 10 = false → RowP w1.heap.size (v 7) T.ps W) ∧ ∀ g, (v 7).ownBlock = some g → g < W.heap.size := hF 7 (by simp) (by simpa [updN] using hcj)
          show (updN c 12 true 10 = false → RowP w1.heap.size (v 7) T.ps W') ∧ ∀ g, (v 7).ownBlock = some g → g < W'.heap.size
          exact ⟨fun h => (hP.1 (by simpa [updN] using h)).ext hz, fun g hg => Nat.lt_of_lt_of_le (hP.2 g hg) hz.size⟩
        · have hP : ∃ B, v 9 = .slice (some ⟨B, 0, none⟩) 1 1 ∧ Cls B 45 #[.int .i64 p.id, .int .i64 p.reach, .int .i64 p.w] W ∧ (c 4 = true → (v 4).ownBlock ≠ some B) ∧ (c 7 = true → (v 7).ownBlock ≠ some B) := hF 9 (by simp) (by simpa [updN] using hcj)
          show ∃ B, v 9 = .slice (some ⟨B, 0, none⟩) 1 1 ∧ Cls B 45 #[.int .i64 p.id, .int .i64 p.reach, .int .i64 p.w] W' ∧ (updN c 12 true 4 = true → (v 4).ownBlock ≠ some B) ∧ (updN c 12 true 7 = true → (v 7).ownBlock ≠ some B)
          exact (by obtain ⟨B, h1, h2, h3, h4⟩ := hP; exact ⟨B, h1, h2.ext hz, fun h => h3 (by simpa [updN] using h), fun h => h4 (by simpa [updN] using h)⟩)
        · have hP : RowP w1.heap.size (v 10) (T.ps ++ [p]) W := hF 10 (by simp) (by simpa [updN] using hcj)
          show RowP w1.heap.size (v 10) (T.ps ++ [p]) W'
          exact hP.ext hz
        · have hP : ∃ x y, v 11 = .agg #[x, y] ∧ RowC w1.heap.size x T.rs W ∧ RowP w1.heap.size y (T.ps ++ [p]) W := hF 11 (by simp) (by simpa [updN] using hcj)
          show ∃ x y, v 11 = .agg #[x, y] ∧ RowC w1.heap.size x T.rs W' ∧ RowP w1.heap.size y (T.ps ++ [p]) W'
          exact (by obtain ⟨x, y, h1, h2, h3⟩ := hP; exact ⟨x, y, h1, h2.ext hz, h3.ext hz⟩)
        · show ∃ B, (Value.pointer (some ⟨W.heap.size, 0, none⟩)) = .pointer (some ⟨B, 0, none⟩) ∧ w1.heap.size ≤ B ∧ (updN c 12 true 13 = false → Cls B 25 #[.slice none 0 0, .slice none 0 0] W') ∧ (updN c 12 true 13 = true → ∃ x y, Cls B 25 #[x, y] W' ∧ RowC w1.heap.size x T.rs W' ∧ RowP w1.heap.size y (T.ps ++ [p]) W')
          exact ⟨W.heap.size, rfl, hG.size, fun _ => hB, fun h => absurd (hcl 13 12 (by kernel_rfl) (by simpa [updN] using h)) (by rw [hc]; decide)⟩
        · trivial
      refine StepsAll.cons rfl (fun v c W K hK hG hc hd hcl hF => ?_) ?_
      · simp only [putAll, List.setIfInBounds_toArray, List.set_cons_zero, List.set_cons_succ]
        have h11 : ∃ x y, v 11 = .agg #[x, y] ∧ RowC w1.heap.size x T.rs W ∧ RowP w1.heap.size y (T.ps ++ [p]) W := hF 11 (by simp) (hd 11 (by kernel_rfl))
        have h12 : ∃ B, v 12 = .pointer (some ⟨B, 0, none⟩) ∧ w1.heap.size ≤ B ∧ (c 13 = false → Cls B 25 #[.slice none 0 0, .slice none 0 0] W) ∧ (c 13 = true → ∃ x y, Cls B 25 #[x, y] W ∧ RowC w1.heap.size x T.rs W ∧ RowP w1.heap.size y (T.ps ++ [p]) W) := hF 12 (by simp) (hd 12 (by kernel_rfl))
        obtain ⟨x, y, e9, hx9, hy9⟩ := h11
        obtain ⟨B, e10, hB0, hB1, _⟩ := h12
        have hcB := hB1 hc
        obtain ⟨Ax, cx, ex⟩ := RowK.form hx9
        obtain ⟨Ay, cy, ey⟩ := RowK.form hy9
        rw [if_pos (by rfl)]
        refine store_rowU 25 _ _ rfl B #[x, y] e10 e9 25 _ hcB (by kernel_rfl) rfl (by subst ex ey; simp [Value.oneCell']) (fun W' hC hg => ?_)
        refine hK.out undef _ _ (by kernel_rfl) (hG.grown hg hB0) (fun j hj hcj => ?_)
        simp only [List.mem_cons, List.not_mem_nil, or_false] at hj
        rcases hj with rfl | rfl | rfl | rfl | rfl | rfl | rfl | rfl | rfl
        · have hP : c 3 = false → RowC w1.heap.size (v 0) [] W := hF 0 (by simp) (by simpa [updN] using hcj)
          show updN c 13 true 3 = false → RowC w1.heap.size (v 0) [] W'
          exact fun h => absurd (hd 3 (by kernel_rfl)) (by rw [show c 3 = false by simpa [updN] using h]; decide)
        · have hP : RowC w1.heap.size (v 3) T.rs W := hF 3 (by simp) (by simpa [updN] using hcj)
          show RowC w1.heap.size (v 3) T.rs W'
          exact RowK.kept hP hg (.inr (Ne.symm (RowK.neCls hP hcB (by decide))))
        · have hP : (c 7 = false → RowP w1.heap.size (v 4) [] W) ∧ ∀ g, (v 4).ownBlock = some g → g < W.heap.size := hF 4 (by simp) (by simpa [updN] using hcj)
          show (updN c 13 true 7 = false → RowP w1.heap.size (v 4) [] W') ∧ ∀ g, (v 4).ownBlock = some g → g < W'.heap.size
          exact ⟨fun h => absurd (hd 7 (by kernel_rfl)) (by rw [show c 7 = false by simpa [updN] using h]; decide), fun g hg' => Nat.lt_of_lt_of_le (hP.2 g hg') hg.size⟩
        · have hP : (c 10 = false → RowP w1.heap.size (v 7) T.ps W) ∧ ∀ g, (v 7).ownBlock = some g → g < W.heap.size := hF 7 (by simp) (by simpa [updN] using hcj)
          show (updN c 13 true 10 = false → RowP w1.heap.size (v 7) T.ps W') ∧ ∀ g, (v 7).ownBlock = some g → g < W'.heap.size
          exact ⟨fun h => absurd (hd 10 (by kernel_rfl)) (by rw [show c 10 = false by simpa [updN] using h]; decide), fun g hg' => Nat.lt_of_lt_of_le (hP.2 g hg') hg.size⟩
        · have hP : ∃ B, v 9 = .slice (some ⟨B, 0, none⟩) 1 1 ∧ Cls B 45 #[.int .i64 p.id, .int .i64 p.reach, .int .i64 p.w] W ∧ (c 4 = true → (v 4).ownBlock ≠ some B) ∧ (c 7 = true → (v 7).ownBlock ≠ some B) := hF 9 (by simp) (by simpa [updN] using hcj)
          show ∃ B, v 9 = .slice (some ⟨B, 0, none⟩) 1 1 ∧ Cls B 45 #[.int .i64 p.id, .int .i64 p.reach, .int .i64 p.w] W' ∧ (updN c 13 true 4 = true → (v 4).ownBlock ≠ some B) ∧ (updN c 13 true 7 = true → (v 7).ownBlock ≠ some B)
          exact (by obtain ⟨B', h1, h2, h3, h4⟩ := hP; exact ⟨B', h1, h2.kept hg (fun e => cls_ne h2 hcB (by decide) (Option.some.inj e)), fun h => h3 (by simpa [updN] using h), fun h => h4 (by simpa [updN] using h)⟩)
        · have hP : RowP w1.heap.size (v 10) (T.ps ++ [p]) W := hF 10 (by simp) (by simpa [updN] using hcj)
          show RowP w1.heap.size (v 10) (T.ps ++ [p]) W'
          exact RowK.kept hP hg (.inr (Ne.symm (RowK.neCls hP hcB (by decide))))
        · have hP : ∃ x y, v 11 = .agg #[x, y] ∧ RowC w1.heap.size x T.rs W ∧ RowP w1.heap.size y (T.ps ++ [p]) W := hF 11 (by simp) (by simpa [updN] using hcj)
          show ∃ x y, v 11 = .agg #[x, y] ∧ RowC w1.heap.size x T.rs W' ∧ RowP w1.heap.size y (T.ps ++ [p]) W'
          exact (by obtain ⟨x, y, h1, h2, h3⟩ := hP; exact ⟨x, y, h1, RowK.kept h2 hg (.inr (Ne.symm (RowK.neCls h2 hcB (by decide)))), RowK.kept h3 hg (.inr (Ne.symm (RowK.neCls h3 hcB (by decide))))⟩)
        · have hP : ∃ B, v 12 = .pointer (some ⟨B, 0, none⟩) ∧ w1.heap.size ≤ B ∧ (c 13 = false → Cls B 25 #[.slice none 0 0, .slice none 0 0] W) ∧ (c 13 = true → ∃ x y, Cls B 25 #[x, y] W ∧ RowC w1.heap.size x T.rs W ∧ RowP w1.heap.size y (T.ps ++ [p]) W) := hF 12 (by simp) (by simpa [updN] using hcj)
          show ∃ B, v 12 = .pointer (some ⟨B, 0, none⟩) ∧ w1.heap.size ≤ B ∧ (updN c 13 true 13 = false → Cls B 25 #[.slice none 0 0, .slice none 0 0] W') ∧ (updN c 13 true 13 = true → ∃ x y, Cls B 25 #[x, y] W' ∧ RowC w1.heap.size x T.rs W' ∧ RowP w1.heap.size y (T.ps ++ [p]) W')
          exact (by obtain ⟨B', h1, h2, _, _⟩ := hP; have hBB : B = B' := (by rw [e10] at h1; simpa using h1); subst hBB; exact ⟨B, e10, h2, fun h => absurd h (by simp [updN]), fun _ => ⟨x, y, hC, RowK.kept hx9 hg (.inr (Ne.symm (RowK.neCls hx9 hcB (by decide)))), RowK.kept hy9 hg (.inr (Ne.symm (RowK.neCls hy9 hcB (by decide))))⟩⟩)
        · show True
          exact trivial
      exact StepsAll.nil
    rotate_left 1
    · kernel_rfl
    · intro v W hG hF
      have h0 : true = false → RowC w1.heap.size (v 0) [] W := hF 0 (by simp)
      have h3 : RowC w1.heap.size (v 3) T.rs W := hF 3 (by simp)
      have h4 : (true = false → RowP w1.heap.size (v 4) [] W) ∧ ∀ g, (v 4).ownBlock = some g → g < W.heap.size := hF 4 (by simp)
      have h7 : (true = false → RowP w1.heap.size (v 7) T.ps W) ∧ ∀ g, (v 7).ownBlock = some g → g < W.heap.size := hF 7 (by simp)
      have h9 : ∃ B, v 9 = .slice (some ⟨B, 0, none⟩) 1 1 ∧ Cls B 45 #[.int .i64 p.id, .int .i64 p.reach, .int .i64 p.w] W ∧ (true = true → (v 4).ownBlock ≠ some B) ∧ (true = true → (v 7).ownBlock ≠ some B) := hF 9 (by simp)
      have h10 : RowP w1.heap.size (v 10) (T.ps ++ [p]) W := hF 10 (by simp)
      have h11 : ∃ x y, v 11 = .agg #[x, y] ∧ RowC w1.heap.size x T.rs W ∧ RowP w1.heap.size y (T.ps ++ [p]) W := hF 11 (by simp)
      have h12 : ∃ B, v 12 = .pointer (some ⟨B, 0, none⟩) ∧ w1.heap.size ≤ B ∧ (true = false → Cls B 25 #[.slice none 0 0, .slice none 0 0] W) ∧ (true = true → ∃ x y, Cls B 25 #[x, y] W ∧ RowC w1.heap.size x T.rs W ∧ RowP w1.heap.size y (T.ps ++ [p]) W) := hF 12 (by simp)
      have h13 : True := hF 13 (by simp)
      simp only [putAll, List.setIfInBounds_toArray, List.set_cons_zero, List.set_cons_succ]
      obtain ⟨B, e10, hB0, _, hB⟩ := h12
      obtain ⟨x, y, hBx, hx9, hy9⟩ := hB rfl
      obtain ⟨Ax, cx, rfl⟩ := RowK.form hx9
      obtain ⟨Ay, cy, rfl⟩ := RowK.form hy9
      obtain ⟨m, hm⟩ : ∃ m, (T.ps ++ [p]).length = m := ⟨_, rfl⟩
      rw [hm] at hBx hy9
      simp only [e10]
      have hTJ : TrAt W _ _ (jnT T p) := TrAt.of hx9.at_ hy9.at_
      clear h0 h3 h4 h7 h9 h10 h11 h13 hF d0 d1 d2 d3 d4 e10 hB hm
      have b0 := hBx.cell 0
      have b1 := hBx.cell 1
      have hxW := hx.trans hG
      have hQ := HQ.out.ext hG
      go_wp2_with fail
      refine (HKD.out _ _ _ hTJ).mono ?_
      rintro e w3 ⟨rfl, hz⟩
      replace hQ := hQ.ext hz
      replace hxW := hxW.trans hz
      replace hx9 := hx9.ext hz
      replace hy9 := hy9.ext hz
      replace hBx := hBx.ext hz
      have b0 := hBx.cell 0
      have b1 := hBx.cell 1
      have f0 := hQ.frozen 0
      have f1 := hQ.frozen 1
      have f2 := hQ.frozen 2
      have g0 := hQ.cell 0
      have g1 := hQ.cell 1
      have g2 := hQ.cell 2
      by_cases hD0 : D = 0
      · have hb : (D != 0) = false := by simpa using hD0
        have he : E = 0 := by rw [HE2.out, hD0]
        have hxx := HX.out
        rw [if_pos he] at hxx
        have HXX := Lib.hid hxx
        have HEE := Lib.hid he
        clear he hxx hD0
        go_wp2_with fail
        have hC : Cls (w.heap.size + 1 + 1) 63 #[.slice Ax T.rs.length cx, .slice Ay m cy, .int .i64 (0)] (((w3.setCell ⟨w.heap.size + 1 + 1, 0, none⟩ (.slice Ax T.rs.length cx)).setCell ⟨w.heap.size + 1 + 1, 1, none⟩ (.slice Ay m cy)).setCell ⟨w.heap.size + 1 + 1, 2, none⟩ (.int .i64 (0))) := ((hQ.set 0 _).set 1 _).set 2 _
        have hx10 : Ext w (((w3.setCell ⟨w.heap.size + 1 + 1, 0, none⟩ (.slice Ax T.rs.length cx)).setCell ⟨w.heap.size + 1 + 1, 1, none⟩ (.slice Ay m cy)).setCell ⟨w.heap.size + 1 + 1, 2, none⟩ (.int .i64 (0))) := ((hxW.setCell (p := ⟨w.heap.size + 1 + 1, 0, none⟩) (by simp; omega) _).setCell (p := ⟨w.heap.size + 1 + 1, 1, none⟩) (by simp; omega) _).setCell (p := ⟨w.heap.size + 1 + 1, 2, none⟩) (by simp; omega) _
        exact bodyPost_ret (results_cell_row rfl _ _ (w.heap.size + 1 + 1) _ _ _ _ rfl hC Try.underlying63 rfl (by kernel_rfl)) rfl ⟨.slice Ax T.rs.length cx, .slice Ay m cy, by rw [HEE.out], by rw [HXX.out]; exact tr_cells3 hx9 hy9 (by omega) _ _ _, hx10⟩
      · have hb : (D != 0) = true := by simpa using hD0
        have he : ¬ E = 0 := by rw [HE2.out]; exact hD0
        have hxx := HX.out
        rw [if_neg he] at hxx
        have HXX := Lib.hid hxx
        clear he hxx hD0
        go_wp2_with fail
        have hC : Cls (w.heap.size + 1 + 1) 63 #[.slice none 0 0, .slice none 0 0, .int .i64 (D)] (((w3.setCell ⟨w.heap.size + 1 + 1, 0, none⟩ (.slice none 0 0)).setCell ⟨w.heap.size + 1 + 1, 1, none⟩ (.slice none 0 0)).setCell ⟨w.heap.size + 1 + 1, 2, none⟩ (.int .i64 (D))) := ((hQ.set 0 _).set 1 _).set 2 _
        have hx10 : Ext w (((w3.setCell ⟨w.heap.size + 1 + 1, 0, none⟩ (.slice none 0 0)).setCell ⟨w.heap.size + 1 + 1, 1, none⟩ (.slice none 0 0)).setCell ⟨w.heap.size + 1 + 1, 2, none⟩ (.int .i64 (D))) := ((hxW.setCell (p := ⟨w.heap.size + 1 + 1, 0, none⟩) (by simp; omega) _).setCell (p := ⟨w.heap.size + 1 + 1, 1, none⟩) (by simp; omega) _).setCell (p := ⟨w.heap.size + 1 + 1, 2, none⟩) (by simp; omega) _
        exact bodyPost_ret (results_cell_row rfl _ _ (w.heap.size + 1 + 1) _ _ _ _ rfl hC Try.underlying63 rfl (by kernel_rfl)) rfl ⟨.slice none 0 0, .slice none 0 0, by rw [HE2.out], by rw [HXX.out]; exact tr_nil _, hx10⟩
  · have hb : (C != 0) = true := by simpa using h0
    have he := HE.out
    rw [if_neg h0] at he
    have hxx := HX.out
    rw [if_neg (by rw [he]; exact h0)] at hxx
    have HXX := Lib.hid hxx
    have HEE := Lib.hid he
    clear he hxx h0 HX HE
    have hQ := HQ.out
    have f0 := hQ.frozen 0
    have f1 := hQ.frozen 1
    have f2 := hQ.frozen 2
    have g0 := hQ.cell 0
    have g1 := hQ.cell 1
    have g2 := hQ.cell 2
    clear d0 d1 d2 d3 d4
    go_wp2_with fail
    have hC : Cls (w.heap.size + 1 + 1) 63 #[.slice none 0 0, .slice none 0 0, .int .i64 (C)] (((w1.setCell ⟨w.heap.size + 1 + 1, 0, none⟩ (.slice none 0 0)).setCell ⟨w.heap.size + 1 + 1, 1, none⟩ (.slice none 0 0)).setCell ⟨w.heap.size + 1 + 1, 2, none⟩ (.int .i64 (C))) := ((hQ.set 0 _).set 1 _).set 2 _
    have hx10 : Ext w (((w1.setCell ⟨w.heap.size + 1 + 1, 0, none⟩ (.slice none 0 0)).setCell ⟨w.heap.size + 1 + 1, 1, none⟩ (.slice none 0 0)).setCell ⟨w.heap.size + 1 + 1, 2, none⟩ (.int .i64 (C))) := ((hx.setCell (p := ⟨w.heap.size + 1 + 1, 0, none⟩) (by simp; omega) _).setCell (p := ⟨w.heap.size + 1 + 1, 1, none⟩) (by simp; omega) _).setCell (p := ⟨w.heap.size + 1 + 1, 2, none⟩) (by simp; omega) _
    exact bodyPost_ret (results_cell_row rfl _ _ (w.heap.size + 1 + 1) _ _ _ _ rfl hC Try.underlying63 rfl (by kernel_rfl)) rfl ⟨.slice none 0 0, .slice none 0 0, by rw [HEE.out], by rw [HXX.out]; exact tr_nil _, hx10⟩

end Go.Proofs.Ythopgonbndoidaa
