/- LevyWeights: true whatever the tree and the payer. -/
import Derived.Test.YthopgonbndoidaaVHas
import Derived.Test.YthopgonbndoidaaVWeP
import Derived.Test.YthopgonbndoidaaVTre
namespace Go.Proofs.Ythopgonbndoidaa
open Go.RowKit Go.Shelf

theorem shares_ok (a b : Value) (T : Tr) (h0 : chkE T = 0) (W : World) (hT : TrAt W a b T) : Calls Try.prog 15 #[.agg #[a, b]] W (RasPost W ((shN T).map ratM) 0) := by
  have hok := Ok.of h0
  have := Shares_any a b T W hT ⟨by have := hok.lr; omega, by have := hok.lp; omega⟩
  unfold shaX at this
  rw [if_pos h0, h0, shL_map] at this
  exact this
theorem w_le {T : Tr} (hok : Ok T) {p : Py} (hp : p ∈ T.ps) : p.w ≤ 24 := by
  have h := (hok.pv p hp).2.1
  obtain ⟨r, hr⟩ : ∃ r : Nat, p.reach = r := ⟨p.reach.toNat, by omega⟩
  have := pay_facts hok hp (r := p.reach) (by rw [hr, upL_step hok.rv (by omega)]; simp)
  omega
theorem mul_rng {y d M N : Int} (h0 : 0 ≤ y) (h1 : y ≤ M) (h2 : 0 ≤ d) (h3 : d ≤ N) : 0 ≤ y * d ∧ y * d ≤ M * N :=
  ⟨Int.mul_nonneg h0 h2, Int.le_trans (Int.mul_le_mul_of_nonneg_right h1 h2) (Int.mul_le_mul_of_nonneg_left h3 (by omega))⟩
theorem cellsP_set : ∀ (l : List Py) (n : Nat) (h : n < l.length) (c : Int), cellsK fP (l.set n ⟨l[n].id, l[n].reach, c⟩) = (cellsK fP l).set (n * 3 + 2) (.int .i64 c)
  | [], n, h, _ => by simp at h
  | x :: l, 0, _, c => rfl
  | x :: l, n + 1, h, c => by
    have ih := cellsP_set l n (by simpa using h) c
    have e : ∀ y : Py, ∀ l : List Py, cellsK fP (y :: l) = Value.int .i64 y.id :: Value.int .i64 y.reach :: Value.int .i64 y.w :: cellsK fP l := fun _ _ => rfl
    rw [List.set_cons_succ, e, e, List.getElem_cons_succ, ih, show (n + 1) * 3 + 2 = n * 3 + 2 + 1 + 1 + 1 by omega, List.set_cons_succ, List.set_cons_succ, List.set_cons_succ]
theorem rowP_w {n₀ g cap n : Nat} {l : List Py} {W : World} (h : RowP n₀ (.slice (some ⟨g, 0, none⟩) l.length cap) l W) (hn : n < l.length) (c : Int) :
    RowP n₀ (.slice (some ⟨g, 0, none⟩) l.length cap) (l.set n ⟨l[n].id, l[n].reach, c⟩) (W.setCell ⟨g, n * 3 + 2, none⟩ (.int .i64 c)) := by
  have h1 := (World.ownsRow.stored h (n * 3 + 2) (.int .i64 c)).1
  unfold RowP RowK
  rw [List.length_set, cellsP_set l n hn]
  exact h1
set_option maxRecDepth 100000 in
set_option maxHeartbeats 16000000 in
theorem LevyWeights_any (a b : Value) (T : Tr) (z id cut : Int) (w : World) (hT : TrAt w a b T) (hz0 : 0 ≤ z ∧ z ≤ 255) (hc0 : 0 ≤ cut ∧ cut ≤ 255) :
    Calls Try.prog 5 #[.agg #[a, b], .int .u8 z, .int .i64 id, .int .u8 cut] w fun e w' => e = .returned (.bool true) ∧ Ext w w' := by
  obtain ⟨aa, ca, rfl, hla⟩ := hT.r.len
  obtain ⟨ab, cb, rfl, hlb⟩ := hT.p.len
  have K1 := fun W (h : Ext w W) => few_any _ _ T W (hT.ext h)
  have san : ∀ W1 : World, Ext w W1 → Calls Try.prog 14 #[] W1 fun e w' => e = .returned (.bool true) ∧ Ext w w' := fun W1 h => (sanity_any W1).mono fun e W' ⟨he, hz⟩ => ⟨he, h.trans hz⟩
  have KC := fun W (h : Ext w W) => Check_any _ _ T W (hT.ext h)
  obtain ⟨C, hC⟩ : ∃ C, chkE T = C := ⟨_, rfl⟩
  rw [hC] at KC
  have HCC := Lib.hid hC
  have HC := Lib.hid KC
  clear KC hC
  go_enter Try.func5, Try.ntmps5
  go_wp2_with fail
  refine (K1 _ (by repeat (first | exact Ext.refl _ | assumption | refine Ext.alloc ?_ _ | refine Ext.drew ?_ | refine Ext.drewN _ ?_ | refine Ext.trans ?_ (by assumption)))).mono ?_
  rintro e w1 ⟨F, rfl, hF, hx1⟩
  obtain ⟨q0, hx, hk0⟩ := alloc1 hx1
  have d0 : w1.cell? ⟨w.heap.size, 0, none⟩ = some (.slice aa T.rs.length ca) := q0.cell 0
  have d1 : w1.cell? ⟨w.heap.size, 1, none⟩ = some (.slice ab T.ps.length cb) := q0.cell 1
  have HF := Lib.hid hF
  clear hx1 K1 hF q0
  cases F with
  | false =>
    go_wp2_with fail
    refine (san _ hx).mono ?_
    rintro e w99 ⟨rfl, hz⟩
    go_wp2_with fail
    go_ret
    exact ⟨rfl, hz⟩
  | true =>
    have hmk := HF.out rfl
    have HM := Lib.hid hmk
    clear hmk
    by_cases hr0 : T.ps.length = 0
    · have hb : ((T.ps.length : Int) == 0) = true := by rw [hr0]; rfl
      clear hr0
      go_wp2_with fail
      refine (san _ hx).mono ?_
      rintro e w99 ⟨rfl, hz⟩
      go_wp2_with fail
      go_ret
      exact ⟨rfl, hz⟩
    have hb : ((T.ps.length : Int) == 0) = false := by rw [beq_eq_false_iff_ne]; omega
    have hb2 : ¬ ((T.ps.length : Int) = 0) := by omega
    go_wp2_with fail
    refine (HC.out _ hx).mono ?_
    rintro e w2 ⟨rfl, hz⟩
    have hx2 := hx.trans hz
    replace d0 := hz.cell d0
    replace d1 := hz.cell d1
    clear hz hx
    by_cases h0 : C = 0
    rotate_left 1
    · have hc : (C != 0) = true := by simpa using h0
      clear h0
      go_wp2_with fail
      refine (san _ hx2).mono ?_
      rintro e w99 ⟨rfl, hz⟩
      go_wp2_with fail
      go_ret
      exact ⟨rfl, hz⟩
    subst h0
    have hok := Ok.of HCC.out
    have hpl := hok.lp
    have hrl := hok.lr
    have HOK := Lib.hid hok
    obtain ⟨k, hk, hkm⟩ : ∃ i : Nat, i < T.ps.length ∧ z.tmod (T.ps.length : Int) = i := by
      have h1 := Int.emod_nonneg z hb2
      have h2 := Int.emod_lt_of_pos z (show (0 : Int) < (T.ps.length : Int) by omega)
      exact ⟨(z % (T.ps.length : Int)).toNat, by omega, by rw [Int.tmod_eq_emod_of_nonneg hz0.1]; omega⟩
    have hzw : IntKind.i64.wrap z = z := IntWalk.i64_in _ (by omega)
    have hkw : IntKind.i64.wrap (k : Int) = k := IntWalk.i64_in _ (by omega)
    have hki : (k : Int) < (T.ps.length : Int) := by omega
    have hwl := w_le hok (List.getElem_mem hk)
    have hgd := ps_get hk
    obtain ⟨wq, hwq⟩ : ∃ x, T.ps[k].w = x := ⟨_, rfl⟩
    rw [hwq] at hwl
    obtain ⟨bb, oo, rfl, p0, p1, p2⟩ := (hT.p.ext hx2).get k hk
    rw [hwq] at p2
    clear HC hok
    by_cases hw2 : wq < 2
    · have hlt : decide (wq < 2) = true := decide_eq_true hw2
      clear p0 p1
      go_wp2_with fail
      refine (san _ hx2).mono ?_
      rintro e w99 ⟨rfl, hz⟩
      go_wp2_with fail
      go_ret
      exact ⟨rfl, hz⟩
    have hlt : decide (wq < 2) = false := decide_eq_false hw2
    obtain ⟨q, hq0, hqd, hqm⟩ : ∃ q : Int, 0 ≤ q ∧ q < wq - 1 ∧ cut.tmod (wq - 1) = q := by
      have h1 := Int.emod_nonneg cut (show wq - 1 ≠ 0 by omega)
      have h2 := Int.emod_lt_of_pos cut (show (0 : Int) < wq - 1 by omega)
      exact ⟨cut % (wq - 1), h1, h2, Int.tmod_eq_emod_of_nonneg hc0.1⟩
    have hcw : IntKind.i64.wrap cut = cut := IntWalk.i64_in _ (by omega)
    have hw1 : IntKind.i64.wrap (wq - 1) = wq - 1 := IntWalk.i64_in _ (by omega)
    have hn1 : ¬ (wq - 1 = 0) := by omega
    have hn1b : (wq - 1 == 0) = false := by rw [beq_eq_false_iff_ne]; omega
    have hqw : IntKind.i64.wrap q = q := IntWalk.i64_in _ (by omega)
    obtain ⟨n, hn⟩ : ∃ n, 1 + q = n := ⟨_, rfl⟩
    have hnw : IntKind.i64.wrap (1 + q) = n := by rw [← hn]; exact IntWalk.i64_in _ (by omega)
    have hnb : 1 ≤ n ∧ n < wq := by omega
    have HNB := Lib.hid hnb
    clear hn hnb
    go_upto_region 8 with fail
    refine wp_region_held_drew (S := fun W' => W'.cell? ⟨w.heap.size, 0, none⟩ = some (.slice aa T.rs.length ca) ∧ W'.cell? ⟨w.heap.size, 1, none⟩ = some (.slice (some ⟨bb, oo, none⟩) T.ps.length cb) ∧ Ext w2 W') (by kernel_rfl) ?_ (fun hHeld => ?_)
    · exact ⟨d0, d1, Ext.drew (Ext.refl _)⟩
    (refine wpAnyH_take (i := 0) (v := ?_) rfl (by kernel_rfl) (by kernel_rfl) (by kernel_rfl) (fun _ _ _ h => h) (Or.inl ⟨by rfl, ?_⟩) (by assumption) ?_; rotate_left 1; (focus (intro w hSw; (try dsimp only at hSw); go_simp; try (with_reducible rfl))))
    try simp only [Act.put, List.getElem_toArray, List.getElem_cons_zero, List.setIfInBounds_toArray, List.set_cons_zero, List.set_cons_succ]
    (refine wpAnyH_take (i := 1) (v := ?_) rfl (by kernel_rfl) (by kernel_rfl) (by kernel_rfl) (fun _ _ _ h => h) (Or.inl ⟨by rfl, ?_⟩) (by assumption) ?_; rotate_left 1; (focus (intro w hSw; (try dsimp only at hSw); go_simp; try (with_reducible rfl))))
    try simp only [Act.put, List.getElem_toArray, List.getElem_cons_zero, List.getElem_cons_succ, List.setIfInBounds_toArray, List.set_cons_zero, List.set_cons_succ]
    (refine wpAnyH_take (i := 3) (v := ?_) rfl (by kernel_rfl) (by kernel_rfl) (by kernel_rfl) (fun _ _ _ h => h) (Or.inl ⟨by rfl, ?_⟩) (by assumption) ?_; rotate_left 1; (focus (intro w hSw; (try dsimp only at hSw); go_simp; try (with_reducible rfl))))
    try simp only [Act.put, List.getElem_toArray, List.getElem_cons_zero, List.getElem_cons_succ, List.setIfInBounds_toArray, List.set_cons_zero, List.set_cons_succ]
    (refine wpAnyH_take (i := 4) (v := ?_) rfl (by kernel_rfl) (by kernel_rfl) (by kernel_rfl) (fun _ _ _ h => h) (Or.inl ⟨by rfl, ?_⟩) (by assumption) ?_; rotate_left 1; (focus (intro w hSw; (try dsimp only at hSw); go_simp; try (with_reducible rfl))))
    try simp only [Act.put, List.getElem_toArray, List.getElem_cons_zero, List.getElem_cons_succ, List.setIfInBounds_toArray, List.set_cons_zero, List.set_cons_succ]
    refine wpAnyH_from [(2, 62), (5, 65), (6, 66), (7, 12)] (fun j v c w => match j with | 2 => (c 5 = false → RowP w2.heap.size (v 2) [] w) | 5 => (RowP w2.heap.size (v 5) T.ps w) | 6 => (∃ x, v 6 = .agg #[.slice aa T.rs.length ca, x] ∧ RowP w2.heap.size x T.ps w) | 7 => (∃ B, v 7 = .pointer (some ⟨B, 0, none⟩) ∧ w2.heap.size ≤ B ∧ (c 8 = false → Cls B 25 #[.slice none 0 0, .slice none 0 0] w) ∧ (c 8 = true → ∃ x, Cls B 25 #[.slice aa T.rs.length ca, x] w ∧ RowP w2.heap.size x T.ps w)) | 8 => (True) | _ => True) (fun W => Ext w2 W) [2, 5, 6, 7, 8] ?_ ?_ ?_ ?_ ?_ ?_ ?_ ?_ ?_ ?_ ?_
    · exact fun W h => ⟨Ext.cell h d0, Ext.cell h d1, h⟩
    · kernel_rfl
    · kernel_rfl
    · rfl
    · kernel_rfl
    · kernel_rfl
    · decide
    · exact Ext.drew (Ext.refl _)
    · refine StepsAll.cons rfl (fun v c W K hK hG hc hd hcl hF => ?_) ?_
      · simp only [putAll, List.setIfInBounds_toArray, List.set_cons_zero, List.set_cons_succ]
        go_simp
        obtain ⟨W', hN⟩ : ∃ X, W.alloc (.cells #[] 45) = X := ⟨_, rfl⟩
        have hz : Ext W W' := by rw [← hN]; exact (by repeat (first | exact Ext.refl _ | assumption | refine Ext.alloc ?_ _ | refine Ext.drew ?_ | refine Ext.drewN _ ?_ | refine Ext.trans ?_ (by assumption)))
        have hr : RowP w2.heap.size (.slice (some ⟨W.heap.size, 0, none⟩) 0 0) [] W' := by rw [← hN]; exact rowP_lit0 W hG.size
        rw [hN]
        refine hK.out (Value.slice (some ⟨W.heap.size, 0, none⟩) 0 0) _ _ (by kernel_rfl) (hG.trans hz) (fun j hj hcj => ?_)
        simp only [List.mem_cons, List.not_mem_nil, or_false] at hj
        rcases hj with rfl | rfl | rfl | rfl | rfl
        · show updN c 2 true 5 = false → RowP w2.heap.size ((Value.slice (some ⟨W.heap.size, 0, none⟩) 0 0)) [] W'
          exact fun _ => hr
        · have hP : RowP w2.heap.size (v 5) T.ps W := hF 5 (by simp) (by simpa [updN] using hcj)
          show RowP w2.heap.size (v 5) T.ps W'
          exact hP.ext hz
        · have hP : ∃ x, v 6 = .agg #[.slice aa T.rs.length ca, x] ∧ RowP w2.heap.size x T.ps W := hF 6 (by simp) (by simpa [updN] using hcj)
          show ∃ x, v 6 = .agg #[.slice aa T.rs.length ca, x] ∧ RowP w2.heap.size x T.ps W'
          exact (by obtain ⟨x, h1, h2⟩ := hP; exact ⟨x, h1, h2.ext hz⟩)
        · have hP : ∃ B, v 7 = .pointer (some ⟨B, 0, none⟩) ∧ w2.heap.size ≤ B ∧ (c 8 = false → Cls B 25 #[.slice none 0 0, .slice none 0 0] W) ∧ (c 8 = true → ∃ x, Cls B 25 #[.slice aa T.rs.length ca, x] W ∧ RowP w2.heap.size x T.ps W) := hF 7 (by simp) (by simpa [updN] using hcj)
          show ∃ B, v 7 = .pointer (some ⟨B, 0, none⟩) ∧ w2.heap.size ≤ B ∧ (updN c 2 true 8 = false → Cls B 25 #[.slice none 0 0, .slice none 0 0] W') ∧ (updN c 2 true 8 = true → ∃ x, Cls B 25 #[.slice aa T.rs.length ca, x] W' ∧ RowP w2.heap.size x T.ps W')
          exact (by obtain ⟨B, h1, h2, h3, h4⟩ := hP; exact ⟨B, h1, h2, fun h => (h3 (by simpa [updN] using h)).ext hz, fun h => by obtain ⟨x, k1, k2⟩ := h4 (by simpa [updN] using h); exact ⟨x, k1.ext hz, k2.ext hz⟩⟩)
        · trivial
      refine StepsAll.cons rfl (fun v c W K hK hG hc hd hcl hF => ?_) ?_
      · simp only [putAll, List.setIfInBounds_toArray, List.set_cons_zero, List.set_cons_succ]
        have h2 : c 5 = false → RowP w2.heap.size (v 2) [] W := hF 2 (by simp) (hd 2 (by kernel_rfl))
        have hr5 := h2 hc
        obtain ⟨v8, W', hrun, hr8, hg, ho⟩ := run_append_pys W 23 w2.heap.size _ _ [] T.ps hr5 (hT.p.ext (hx2.trans hG)) hG.size (by simp; omega)
        rw [List.nil_append] at hr8
        rw [if_pos (by rfl)]
        refine oper_append _ _ 23 rfl _ _ v8 W' rfl rfl hrun ?_
        refine hK.out v8 _ _ (by kernel_rfl) (ext_own hG hr5 (Nat.le_refl _) hg) (fun j hj hcj => ?_)
        simp only [List.mem_cons, List.not_mem_nil, or_false] at hj
        rcases hj with rfl | rfl | rfl | rfl | rfl
        · have hP : c 5 = false → RowP w2.heap.size (v 2) [] W := hF 2 (by simp) (by simpa [updN] using hcj)
          show updN c 5 true 5 = false → RowP w2.heap.size (v 2) [] W'
          exact fun h => absurd h (by simp [updN])
        · show RowP w2.heap.size (v8) T.ps W'
          exact hr8
        · have hP : ∃ x, v 6 = .agg #[.slice aa T.rs.length ca, x] ∧ RowP w2.heap.size x T.ps W := hF 6 (by simp) (by simpa [updN] using hcj)
          show ∃ x, v 6 = .agg #[.slice aa T.rs.length ca, x] ∧ RowP w2.heap.size x T.ps W'
          exact absurd (hcl 6 5 (by kernel_rfl) (by simpa [updN] using hcj)) (by rw [hc]; decide)
        · have hP : ∃ B, v 7 = .pointer (some ⟨B, 0, none⟩) ∧ w2.heap.size ≤ B ∧ (c 8 = false → Cls B 25 #[.slice none 0 0, .slice none 0 0] W) ∧ (c 8 = true → ∃ x, Cls B 25 #[.slice aa T.rs.length ca, x] W ∧ RowP w2.heap.size x T.ps W) := hF 7 (by simp) (by simpa [updN] using hcj)
          show ∃ B, v 7 = .pointer (some ⟨B, 0, none⟩) ∧ w2.heap.size ≤ B ∧ (updN c 5 true 8 = false → Cls B 25 #[.slice none 0 0, .slice none 0 0] W') ∧ (updN c 5 true 8 = true → ∃ x, Cls B 25 #[.slice aa T.rs.length ca, x] W' ∧ RowP w2.heap.size x T.ps W')
          exact (by obtain ⟨B, h1, h2, h3, h4⟩ := hP; exact ⟨B, h1, h2, fun h => (h3 (by simpa [updN] using h)).kept hg (RowK.neCls hr5 (h3 (by simpa [updN] using h)) (by decide)), fun h => absurd (hcl 8 5 (by kernel_rfl) (by simpa [updN] using h)) (by rw [hc]; decide)⟩)
        · trivial
      refine StepsAll.cons rfl (fun v c W K hK hG hc hd hcl hF => ?_) ?_
      · simp only [putAll, List.setIfInBounds_toArray, List.set_cons_zero, List.set_cons_succ]
        have h5 : RowP w2.heap.size (v 5) T.ps W := hF 5 (by simp) (hd 5 (by kernel_rfl))
        obtain ⟨A1, c1, e1⟩ := RowK.form h5
        simp only [e1]
        go_simp
        refine hK.out (Value.agg #[.slice aa T.rs.length ca, .slice A1 T.ps.length c1]) _ _ (by simp [putAll, updN, e1]) (hG) (fun j hj hcj => ?_)
        simp only [List.mem_cons, List.not_mem_nil, or_false] at hj
        rcases hj with rfl | rfl | rfl | rfl | rfl
        · have hP : c 5 = false → RowP w2.heap.size (v 2) [] W := hF 2 (by simp) (by simpa [updN] using hcj)
          show updN c 6 true 5 = false → RowP w2.heap.size (v 2) [] W
          exact fun h => hP (by simpa [updN] using h)
        · have hP : RowP w2.heap.size (v 5) T.ps W := hF 5 (by simp) (by simpa [updN] using hcj)
          show RowP w2.heap.size (v 5) T.ps W
          exact hP
        · show ∃ x, (Value.agg #[.slice aa T.rs.length ca, .slice A1 T.ps.length c1]) = .agg #[.slice aa T.rs.length ca, x] ∧ RowP w2.heap.size x T.ps W
          exact ⟨_, rfl, e1 ▸ h5⟩
        · have hP : ∃ B, v 7 = .pointer (some ⟨B, 0, none⟩) ∧ w2.heap.size ≤ B ∧ (c 8 = false → Cls B 25 #[.slice none 0 0, .slice none 0 0] W) ∧ (c 8 = true → ∃ x, Cls B 25 #[.slice aa T.rs.length ca, x] W ∧ RowP w2.heap.size x T.ps W) := hF 7 (by simp) (by simpa [updN] using hcj)
          show ∃ B, v 7 = .pointer (some ⟨B, 0, none⟩) ∧ w2.heap.size ≤ B ∧ (updN c 6 true 8 = false → Cls B 25 #[.slice none 0 0, .slice none 0 0] W) ∧ (updN c 6 true 8 = true → ∃ x, Cls B 25 #[.slice aa T.rs.length ca, x] W ∧ RowP w2.heap.size x T.ps W)
          exact (by obtain ⟨B, h1, h2, h3, h4⟩ := hP; exact ⟨B, h1, h2, fun h => h3 (by simpa [updN] using h), fun h => h4 (by simpa [updN] using h)⟩)
        · trivial
      refine StepsAll.cons rfl (fun v c W K hK hG hc hd hcl hF => ?_) ?_
      · simp only [putAll, List.setIfInBounds_toArray, List.set_cons_zero, List.set_cons_succ]
        go_simp
        obtain ⟨W', hN⟩ : ∃ X, W.alloc (.cells #[.slice none 0 0, .slice none 0 0] 25) = X := ⟨_, rfl⟩
        have hz : Ext W W' := by rw [← hN]; exact (by repeat (first | exact Ext.refl _ | assumption | refine Ext.alloc ?_ _ | refine Ext.drew ?_ | refine Ext.drewN _ ?_ | refine Ext.trans ?_ (by assumption)))
        have hB : Cls W.heap.size 25 #[.slice none 0 0, .slice none 0 0] W' := by rw [← hN]; exact Cls.new _ _ _
        rw [hN]
        refine hK.out (Value.pointer (some ⟨W.heap.size, 0, none⟩)) _ _ (by kernel_rfl) (hG.trans hz) (fun j hj hcj => ?_)
        simp only [List.mem_cons, List.not_mem_nil, or_false] at hj
        rcases hj with rfl | rfl | rfl | rfl | rfl
        · have hP : c 5 = false → RowP w2.heap.size (v 2) [] W := hF 2 (by simp) (by simpa [updN] using hcj)
          show updN c 7 true 5 = false → RowP w2.heap.size (v 2) [] W'
          exact fun h => (hP (by simpa [updN] using h)).ext hz
        · have hP : RowP w2.heap.size (v 5) T.ps W := hF 5 (by simp) (by simpa [updN] using hcj)
          show RowP w2.heap.size (v 5) T.ps W'
          exact hP.ext hz
        · have hP : ∃ x, v 6 = .agg #[.slice aa T.rs.length ca, x] ∧ RowP w2.heap.size x T.ps W := hF 6 (by simp) (by simpa [updN] using hcj)
          show ∃ x, v 6 = .agg #[.slice aa T.rs.length ca, x] ∧ RowP w2.heap.size x T.ps W'
          exact (by obtain ⟨x, h1, h2⟩ := hP; exact ⟨x, h1, h2.ext hz⟩)
        · show ∃ B, (Value.pointer (some ⟨W.heap.size, 0, none⟩)) = .pointer (some ⟨B, 0, none⟩) ∧ w2.heap.size ≤ B ∧ (updN c 7 true 8 = false → Cls B 25 #[.slice none 0 0, .slice none 0 0] W') ∧ (updN c 7 true 8 = true → ∃ x, Cls B 25 #[.slice aa T.rs.length ca, x] W' ∧ RowP w2.heap.size x T.ps W')
          exact ⟨W.heap.size, rfl, hG.size, fun _ => hB, fun h => absurd (hcl 8 7 (by kernel_rfl) (by simpa [updN] using h)) (by rw [hc]; decide)⟩
        · trivial
      refine StepsAll.cons rfl (fun v c W K hK hG hc hd hcl hF => ?_) ?_
      · simp only [putAll, List.setIfInBounds_toArray, List.set_cons_zero, List.set_cons_succ]
        have h6 : ∃ x, v 6 = .agg #[.slice aa T.rs.length ca, x] ∧ RowP w2.heap.size x T.ps W := hF 6 (by simp) (hd 6 (by kernel_rfl))
        have h7 : ∃ B, v 7 = .pointer (some ⟨B, 0, none⟩) ∧ w2.heap.size ≤ B ∧ (c 8 = false → Cls B 25 #[.slice none 0 0, .slice none 0 0] W) ∧ (c 8 = true → ∃ x, Cls B 25 #[.slice aa T.rs.length ca, x] W ∧ RowP w2.heap.size x T.ps W) := hF 7 (by simp) (hd 7 (by kernel_rfl))
        obtain ⟨x, e9, hx9⟩ := h6
        obtain ⟨B, e10, hB0, hB1, _⟩ := h7
        have hcB := hB1 hc
        obtain ⟨Ax, cx, ex⟩ := RowK.form hx9
        rw [if_pos (by rfl)]
        refine store_rowU 25 _ _ rfl B #[.slice aa T.rs.length ca, x] e10 e9 25 _ hcB (by kernel_rfl) rfl (by subst ex; simp [Value.oneCell']) (fun W' hC hg => ?_)
        refine hK.out undef _ _ (by kernel_rfl) (hG.grown hg hB0) (fun j hj hcj => ?_)
        simp only [List.mem_cons, List.not_mem_nil, or_false] at hj
        rcases hj with rfl | rfl | rfl | rfl | rfl
        · have hP : c 5 = false → RowP w2.heap.size (v 2) [] W := hF 2 (by simp) (by simpa [updN] using hcj)
          show updN c 8 true 5 = false → RowP w2.heap.size (v 2) [] W'
          exact fun h => absurd (hd 5 (by kernel_rfl)) (by rw [show c 5 = false by simpa [updN] using h]; decide)
        · have hP : RowP w2.heap.size (v 5) T.ps W := hF 5 (by simp) (by simpa [updN] using hcj)
          show RowP w2.heap.size (v 5) T.ps W'
          exact RowK.kept hP hg (.inr (Ne.symm (RowK.neCls hP hcB (by decide))))
        · have hP : ∃ x, v 6 = .agg #[.slice aa T.rs.length ca, x] ∧ RowP w2.heap.size x T.ps W := hF 6 (by simp) (by simpa [updN] using hcj)
          show ∃ x, v 6 = .agg #[.slice aa T.rs.length ca, x] ∧ RowP w2.heap.size x T.ps W'
          exact (by obtain ⟨x, h1, h2⟩ := hP; exact ⟨x, h1, RowK.kept h2 hg (.inr (Ne.symm (RowK.neCls h2 hcB (by decide))))⟩)
        · have hP : ∃ B, v 7 = .pointer (some ⟨B, 0, none⟩) ∧ w2.heap.size ≤ B ∧ (c 8 = false → Cls B 25 #[.slice none 0 0, .slice none 0 0] W) ∧ (c 8 = true → ∃ x, Cls B 25 #[.slice aa T.rs.length ca, x] W ∧ RowP w2.heap.size x T.ps W) := hF 7 (by simp) (by simpa [updN] using hcj)
          show ∃ B, v 7 = .pointer (some ⟨B, 0, none⟩) ∧ w2.heap.size ≤ B ∧ (updN c 8 true 8 = false → Cls B 25 #[.slice none 0 0, .slice none 0 0] W') ∧ (updN c 8 true 8 = true → ∃ x, Cls B 25 #[.slice aa T.rs.length ca, x] W' ∧ RowP w2.heap.size x T.ps W')
          exact (by obtain ⟨B', h1, h2, _, _⟩ := hP; have hBB : B = B' := (by rw [e10] at h1; simpa using h1); subst hBB; exact ⟨B, e10, h2, fun h => absurd h (by simp [updN]), fun _ => ⟨x, hC, RowK.kept hx9 hg (.inr (Ne.symm (RowK.neCls hx9 hcB (by decide))))⟩⟩)
        · show True
          exact trivial
      exact StepsAll.nil
    rotate_left 1
    · kernel_rfl
    · intro v W hG hF
      have h2 : true = false → RowP w2.heap.size (v 2) [] W := hF 2 (by simp)
      have h5 : RowP w2.heap.size (v 5) T.ps W := hF 5 (by simp)
      have h6 : ∃ x, v 6 = .agg #[.slice aa T.rs.length ca, x] ∧ RowP w2.heap.size x T.ps W := hF 6 (by simp)
      have h7 : ∃ B, v 7 = .pointer (some ⟨B, 0, none⟩) ∧ w2.heap.size ≤ B ∧ (true = false → Cls B 25 #[.slice none 0 0, .slice none 0 0] W) ∧ (true = true → ∃ x, Cls B 25 #[.slice aa T.rs.length ca, x] W ∧ RowP w2.heap.size x T.ps W) := hF 7 (by simp)
      have h8 : True := hF 8 (by simp)
      simp only [putAll, List.setIfInBounds_toArray, List.set_cons_zero, List.set_cons_succ]
      obtain ⟨B, e10, hB0, _, hB⟩ := h7
      obtain ⟨x, hBx, hx9⟩ := hB rfl
      simp only [e10]
      clear h2 h5 h6 h8 hF hB e10
      have hxW := hx2.trans hG
      obtain ⟨Ax, cx, rfl⟩ := RowK.form hx9
      obtain ⟨g, rfl, hg0, hg1⟩ : ∃ g, Ax = some ⟨g, 0, none⟩ ∧ w2.heap.size ≤ g ∧ g < W.heap.size := by
        rcases hx9.2 with ⟨h, h1⟩ | ⟨g, cap, cur, h, h1, h2, _⟩
        · omega
        · simp only [Value.slice.injEq] at h
          exact ⟨g, h.1, h1, (Array.getElem?_eq_some_iff.1 h2).1⟩
      have b1 := hBx.cell 1
      obtain ⟨bg, og, hbo, _, _, hx2⟩ := (RowP.at_ hx9).get k hk
      simp only [Option.some.injEq, Addr.mk.injEq, and_true] at hbo
      obtain ⟨rfl, rfl⟩ := hbo
      have hfz : W.frozen? ⟨g, k * 3 + 2, none⟩ = false := by
        rcases hx9.2 with ⟨h, h1⟩ | ⟨g', cap, cur, h, h1, h2, _⟩
        · omega
        · simp only [Value.slice.injEq, Option.some.injEq, Addr.mk.injEq, and_true] at h
          obtain ⟨rfl, _⟩ := h
          exact Cls.frozen (t := 45) (cs := cur) h2 _
      rw [Nat.zero_add] at hx2
      have hBg : B ≠ g := by
        intro e; subst e
        have hno := RowK.neCls hx9 hBx (by decide)
        exact hno rfl
      have hrow := rowP_w hx9 hk n
      have hqB := hBx.other (B' := g) hBg (k * 3 + 2) (.int .i64 n)
      have hxs : Ext w2 (W.setCell ⟨g, k * 3 + 2, none⟩ (.int .i64 n)) := hG.setCell (p := ⟨g, k * 3 + 2, none⟩) (by simp; omega) _
      have HRow := Lib.hid hrow
      clear hrow hG hx9 hBx hxW
      go_upto_region 10 with fail
      obtain ⟨w5, hw5⟩ : ∃ V, W.setCell ⟨g, k * 3 + 2, none⟩ (.int .i64 n) = V := ⟨_, rfl⟩
      have hrow := HRow.out
      rw [hw5] at hqB hxs hrow
      rw [hw5]
      clear hw5 HRow hx2 b1 hfz
      have D0 := Lib.hid d0
      have D1 := Lib.hid d1
      have P1 := Lib.hid p1
      replace d0 := hxs.cell d0
      replace d1 := hxs.cell d1
      replace p1 := hxs.cell p1
      replace p2 := hxs.cell p2
      have b1 := hqB.cell 1
      obtain ⟨ps2, hps2⟩ : ∃ l, T.ps.set k ⟨T.ps[k].id, T.ps[k].reach, n⟩ = l := ⟨_, rfl⟩
      have hp2l : ps2.length = T.ps.length := by rw [← hps2, List.length_set]
      have HPS := Lib.hid hps2
      rw [hps2] at hrow
      clear hps2
      obtain ⟨rr, hrr⟩ : ∃ x, T.ps[k].reach = x := ⟨_, rfl⟩
      rw [hrr] at p1
      have HRR := Lib.hid hrr
      clear hrr
      have hnb := HNB.out
      have hww : IntKind.i64.wrap (wq - n) = wq - n := IntWalk.i64_in _ (by omega)
      have hge5 := hxs.size
      refine wp_region_last (z := 16) (S := fun W' => W'.cell? ⟨B, 1, none⟩ = some (.slice (some ⟨g, 0, none⟩) T.ps.length cx) ∧ W'.cell? ⟨w.heap.size, 1, none⟩ = some (.slice (some ⟨bb, oo, none⟩) T.ps.length cb) ∧ W'.cell? ⟨bb, oo + k * 3 + 1, none⟩ = some (.int .i64 rr) ∧ Ext w2 W') (by kernel_rfl) ?_ (fun hHeld => ?_)
      · exact ⟨b1, d1, p1, hxs.drew⟩
      (refine wpAnyL_take (i := 0) (v := ?_) rfl (by kernel_rfl) (by kernel_rfl) (by kernel_rfl) (by kernel_rfl) (fun _ _ _ h => h) (Or.inl ⟨by rfl, ?_⟩) (by assumption) ?_; rotate_left 1; (focus (intro w hSw; (try dsimp only at hSw); go_simp; try (with_reducible rfl))))
      try simp only [Act.put, List.getElem_toArray, List.getElem_cons_zero, List.setIfInBounds_toArray, List.set_cons_zero, List.set_cons_succ]
      (refine wpAnyL_take (i := 1) (v := ?_) rfl (by kernel_rfl) (by kernel_rfl) (by kernel_rfl) (by kernel_rfl) (fun _ _ _ h => h) (Or.inl ⟨by rfl, ?_⟩) (by assumption) ?_; rotate_left 1; (focus (intro w hSw; (try dsimp only at hSw); go_simp; try (with_reducible rfl))))
      try simp only [Act.put, List.getElem_toArray, List.getElem_cons_zero, List.getElem_cons_succ, List.setIfInBounds_toArray, List.set_cons_zero, List.set_cons_succ]
      (refine wpAnyL_take (i := 2) (v := ?_) rfl (by kernel_rfl) (by kernel_rfl) (by kernel_rfl) (by kernel_rfl) (fun _ _ _ h => h) (Or.inl ⟨by rfl, ?_⟩) (by assumption) ?_; rotate_left 1; (focus (intro w hSw; (try dsimp only at hSw); go_simp; try (with_reducible rfl))))
      try simp only [Act.put, List.getElem_toArray, List.getElem_cons_zero, List.getElem_cons_succ, List.setIfInBounds_toArray, List.set_cons_zero, List.set_cons_succ]
      (refine wpAnyL_take (i := 3) (v := ?_) rfl (by kernel_rfl) (by kernel_rfl) (by kernel_rfl) (by kernel_rfl) (fun _ _ _ h => h) (Or.inl ⟨by rfl, ?_⟩) (by assumption) ?_; rotate_left 1; (focus (intro w hSw; (try dsimp only at hSw); go_simp; try (with_reducible rfl))))
      try simp only [Act.put, List.getElem_toArray, List.getElem_cons_zero, List.getElem_cons_succ, List.setIfInBounds_toArray, List.set_cons_zero, List.set_cons_succ]
      (refine wpAnyL_take (i := 4) (v := ?_) rfl (by kernel_rfl) (by kernel_rfl) (by kernel_rfl) (by kernel_rfl) (fun _ _ _ h => h) (Or.inl ⟨by rfl, ?_⟩) (by assumption) ?_; rotate_left 1; (focus (intro w hSw; (try dsimp only at hSw); go_simp; try (with_reducible rfl))))
      try simp only [Act.put, List.getElem_toArray, List.getElem_cons_zero, List.getElem_cons_succ, List.setIfInBounds_toArray, List.set_cons_zero, List.set_cons_succ]
      (refine wpAnyL_take (i := 5) (v := ?_) rfl (by kernel_rfl) (by kernel_rfl) (by kernel_rfl) (by kernel_rfl) (fun _ _ _ h => h) (Or.inl ⟨by rfl, ?_⟩) (by assumption) ?_; rotate_left 1; (focus (intro w hSw; (try dsimp only at hSw); go_simp; try (with_reducible rfl))))
      try simp only [Act.put, List.getElem_toArray, List.getElem_cons_zero, List.getElem_cons_succ, List.setIfInBounds_toArray, List.set_cons_zero, List.set_cons_succ]
      (refine wpAnyL_take (i := 6) (v := ?_) rfl (by kernel_rfl) (by kernel_rfl) (by kernel_rfl) (by kernel_rfl) (fun _ _ _ h => h) (Or.inl ⟨by rfl, ?_⟩) (by assumption) ?_; rotate_left 1; (focus (intro w hSw; (try dsimp only at hSw); go_simp; try (with_reducible rfl))))
      try simp only [Act.put, List.getElem_toArray, List.getElem_cons_zero, List.getElem_cons_succ, List.setIfInBounds_toArray, List.set_cons_zero, List.set_cons_succ]
      (refine wpAnyL_take (i := 7) (v := ?_) rfl (by kernel_rfl) (by kernel_rfl) (by kernel_rfl) (by kernel_rfl) (fun _ _ _ h => h) (Or.inl ⟨by rfl, ?_⟩) (by assumption) ?_; rotate_left 1; (focus (intro w hSw; (try dsimp only at hSw); go_simp; try (with_reducible rfl))))
      try simp only [Act.put, List.getElem_toArray, List.getElem_cons_zero, List.getElem_cons_succ, List.setIfInBounds_toArray, List.set_cons_zero, List.set_cons_succ]
      (refine wpAnyL_take (i := 8) (v := ?_) rfl (by kernel_rfl) (by kernel_rfl) (by kernel_rfl) (by kernel_rfl) (fun _ _ _ h => h) (Or.inl ⟨by rfl, ?_⟩) (by assumption) ?_; rotate_left 1; (focus (intro w hSw; (try dsimp only at hSw); go_simp; try (with_reducible rfl))))
      try simp only [Act.put, List.getElem_toArray, List.getElem_cons_zero, List.getElem_cons_succ, List.setIfInBounds_toArray, List.set_cons_zero, List.set_cons_succ]
      (refine wpAnyL_take (i := 9) (v := ?_) rfl (by kernel_rfl) (by kernel_rfl) (by kernel_rfl) (by kernel_rfl) (fun _ _ _ h => h) (Or.inl ⟨by rfl, ?_⟩) (by assumption) ?_; rotate_left 1; (focus (intro w hSw; (try dsimp only at hSw); go_simp; try (with_reducible rfl))))
      try simp only [Act.put, List.getElem_toArray, List.getElem_cons_zero, List.getElem_cons_succ, List.setIfInBounds_toArray, List.set_cons_zero, List.set_cons_succ]
      (refine wpAnyL_take (i := 10) (v := ?_) rfl (by kernel_rfl) (by kernel_rfl) (by kernel_rfl) (by kernel_rfl) (fun _ _ _ h => h) (Or.inl ⟨by rfl, ?_⟩) (by assumption) ?_; rotate_left 1; (focus (intro w hSw; (try dsimp only at hSw); go_simp; try (with_reducible rfl))))
      try simp only [Act.put, List.getElem_toArray, List.getElem_cons_zero, List.getElem_cons_succ, List.setIfInBounds_toArray, List.set_cons_zero, List.set_cons_succ]
      (refine wpAnyL_take (i := 11) (v := ?_) rfl (by kernel_rfl) (by kernel_rfl) (by kernel_rfl) (by kernel_rfl) (fun _ _ _ h => h) (Or.inl ⟨by rfl, ?_⟩) (by assumption) ?_; rotate_left 1; (focus (intro w hSw; (try dsimp only at hSw); go_simp; try (with_reducible rfl))))
      try simp only [Act.put, List.getElem_toArray, List.getElem_cons_zero, List.getElem_cons_succ, List.setIfInBounds_toArray, List.set_cons_zero, List.set_cons_succ]
      (refine wpAnyL_take (i := 12) (v := ?_) rfl (by kernel_rfl) (by kernel_rfl) (by kernel_rfl) (by kernel_rfl) (fun _ _ _ h => h) (Or.inl ⟨by rfl, ?_⟩) (by assumption) ?_; rotate_left 1; (focus (intro w hSw; (try dsimp only at hSw); go_simp; try (with_reducible rfl))))
      try simp only [Act.put, List.getElem_toArray, List.getElem_cons_zero, List.getElem_cons_succ, List.setIfInBounds_toArray, List.set_cons_zero, List.set_cons_succ]
      refine wpAnyL_one (i := 13) (by kernel_rfl) rfl (fun K hK => ?_)
      obtain ⟨V0, hV0⟩ : ∃ V, w5.drew = V := ⟨_, rfl⟩
      have hzV : Ext w5 V0 := by rw [← hV0]; exact Ext.drew (Ext.refl _)
      rw [hV0] at hHeld ⊢
      clear hV0
      go_simp
      obtain ⟨NB, hNB⟩ : ∃ N, V0.heap.size = N := ⟨_, rfl⟩
      obtain ⟨V1, hN⟩ : ∃ X, V0.alloc (.cells #[.int .i64 id, .int .i64 rr, .int .i64 (wq - n)] 45) = X := ⟨_, rfl⟩
      have hz : Ext V0 V1 := by rw [← hN]; exact (by repeat (first | exact Ext.refl _ | assumption | refine Ext.alloc ?_ _ | refine Ext.drew ?_ | refine Ext.drewN _ ?_ | refine Ext.trans ?_ (by assumption)))
      have hA : Cls NB 45 #[.int .i64 id, .int .i64 rr, .int .i64 (wq - n)] V1 := by rw [← hN]; exact Cls.newAt _ _ _ hNB.symm
      rw [hN, hNB]
      refine hK.out _ _ (fun _ => ?_) (fun hHeld => ?_)
      · exact ⟨Ext.cell hz hHeld.1, Ext.cell hz hHeld.2.1, Ext.cell hz hHeld.2.2.1, hHeld.2.2.2.trans hz⟩
      replace hHeld := hHeld (by decide)
      clear hK K
      replace hzV := hzV.trans hz
      clear hz hN
      try simp only [Act.put, List.getElem_toArray, List.getElem_cons_zero, List.getElem_cons_succ, List.setIfInBounds_toArray, List.set_cons_zero, List.set_cons_succ]
      refine wpAnyL_one (i := 14) (by kernel_rfl) rfl (fun K hK => ?_)
      have hR1 := RowP.ext hrow hzV
      have hpo := pys_one (p := ⟨id, rr, wq - n⟩) hA
      obtain ⟨v8, V2, hrun, hr8, hg8, _⟩ := run_append_pys V1 23 w2.heap.size _ _ ps2 [⟨id, rr, wq - n⟩] hR1 hpo (Nat.le_trans hge5 hzV.size) (by rw [hp2l]; simp; omega)
      have hB2 := (hqB.ext hzV).kept hg8 (fun e => hBg (Option.some.inj e))
      have hgw : ∀ j, j < w2.heap.size → some j ≠ (Value.slice (some ⟨g, 0, none⟩) T.ps.length cx).ownBlock := fun j hj e => by have := (RowK.lt hR1 _ e.symm).1; omega
      have hx5 : Ext w2 V2 := ext_own hHeld.2.2.2 hR1 (Nat.le_refl _) hg8
      rw [if_pos (by rfl)]
      refine oper_append _ _ 23 rfl _ _ v8 V2 rfl rfl hrun ?_
      refine hK.out _ _ (fun _ => ?_) (fun hHeld => ?_)
      · exact ⟨hB2.cell 1, hx5.cell D1.out, (by have h9 := hx5.cell P1.out; rw [HRR.out] at h9; exact h9), hx5⟩
      replace hHeld := hHeld (by decide)
      clear hK K
      clear hrun hg8 hgw
      try simp only [Act.put, List.getElem_toArray, List.getElem_cons_zero, List.getElem_cons_succ, List.setIfInBounds_toArray, List.set_cons_zero, List.set_cons_succ]
      (refine wpAnyL_take (i := 15) (v := ?_) rfl (by kernel_rfl) (by kernel_rfl) (by kernel_rfl) (by kernel_rfl) (fun _ _ _ h => h) (Or.inl ⟨by rfl, ?_⟩) (by assumption) ?_; rotate_left 1; (focus (intro w hSw; (try dsimp only at hSw); go_simp; try (with_reducible rfl))))
      try simp only [Act.put, List.getElem_toArray, List.getElem_cons_zero, List.getElem_cons_succ, List.setIfInBounds_toArray, List.set_cons_zero, List.set_cons_succ]
      refine wpAnyL_one (i := 16) (by kernel_rfl) rfl (fun K hK => ?_)
      have b1 := hB2.cell 1
      have f1 := hB2.frozen 1
      obtain ⟨A8, c8, rfl⟩ := RowK.form hr8
      have hl8 : (ps2 ++ [(⟨id, rr, wq - n⟩ : Py)]).length = T.ps.length + 1 := by rw [List.length_append, hp2l]; rfl
      rw [hl8] at hr8 ⊢
      clear hl8
      go_simp
      refine hK.out _ _ (fun h => absurd rfl h) (fun _ => ?_)
      clear hK K
      try simp only [Act.put, List.getElem_toArray, List.getElem_cons_zero, List.getElem_cons_succ, List.setIfInBounds_toArray, List.set_cons_zero, List.set_cons_succ]
      refine wpAnyL_done (by kernel_rfl) ?_ _
      obtain ⟨w6, hw6⟩ : ∃ V, V2.setCell ⟨B, 1, none⟩ (.slice A8 (T.ps.length + 1) c8) = V := ⟨_, rfl⟩
      have hB6 := hB2.set 1 (.slice A8 (T.ps.length + 1) c8)
      have hr6 : RowP w2.heap.size _ (ps2 ++ [(⟨id, rr, wq - n⟩ : Py)]) (V2.setCell ⟨B, 1, none⟩ (.slice A8 (T.ps.length + 1) c8)) := World.ownsRow.kept hr8 (grown_set V2 B 1 _) (by have := RowK.neCls hr8 hB2 (by decide); exact .inr (fun e => this e.symm))
      have hx6 : Ext w2 (V2.setCell ⟨B, 1, none⟩ (.slice A8 (T.ps.length + 1) c8)) := hx5.setCell (p := ⟨B, 1, none⟩) (by simp; omega) _
      rw [hw6] at hB6 hr6 hx6
      rw [hw6]
      clear hw6 hHeld b1 hB2 hr8 hx5 hqB hxs hrow d0 d1 p1 p2
      have d0 := hx6.cell D0.out
      have d1 := hx6.cell D1.out
      have b0 : w6.cell? ⟨B, 0, none⟩ = some (.slice aa T.rs.length ca) := hB6.cell 0
      have b1 : w6.cell? ⟨B, 1, none⟩ = some (.slice A8 (T.ps.length + 1) c8) := hB6.cell 1
      have hxc := hx2.trans hx6
      have hups : ps2 ++ [(⟨id, rr, wq - n⟩ : Py)] = (weT T k n id).ps := by
        have hwqq : (T.ps.getD k ⟨0, 0, 0⟩).w = wq := by rw [hgd]; exact hwq
        show _ = T.ps.set k _ ++ [_]
        rw [hwqq, hgd, ← HPS.out, ← HRR.out]
      rw [hups] at hr6
      have hTU : TrAt w6 (.slice aa T.rs.length ca) _ (weT T k n id) := TrAt.of (hT.r.ext hxc) (RowP.at_ hr6)
      have hUl : (weT T k n id).ps.length = T.ps.length + 1 := weT_len T k n id
      have hof := fun (hok2 : Ok (weT T k n id)) i (hi : i < T.ps.length) (hik : i ≠ k) => we_other HOK.out hk hok2 hi hik
      have hpa := fun (hok2 : Ok (weT T k n id)) => we_parts HOK.out hk hok2
      have hwg : wgI T k = wq := by unfold wgI; rw [hgd]; exact hwq
      rw [hwg] at hpa
      obtain ⟨U, hU⟩ : ∃ U, (weT T k n id) = U := ⟨_, rfl⟩
      rw [hU] at hTU hUl hof hpa
      have HOF := Lib.hid hof
      have HPA := Lib.hid hpa
      have HUL := Lib.hid hUl
      clear hU hof hpa hups hr6 hB6 HPS HRR hp2l D0 D1 P1 hgd hwq hwg hUl
      obtain ⟨C2, hC2⟩ : ∃ C, chkE U = C := ⟨_, rfl⟩
      have KC2 := Check_any _ _ U w6 hTU
      rw [hC2] at KC2
      have HC2 := Lib.hid hC2
      have HK2 := Lib.hid KC2
      clear hC2 KC2
      go_wp2_with fail
      refine (HK2.out).mono ?_
      rintro e w7 ⟨rfl, hz⟩
      have hx7 := hxc.trans hz
      replace d0 := hz.cell d0
      replace d1 := hz.cell d1
      replace b0 := hz.cell b0
      replace b1 := hz.cell b1
      replace hTU := hTU.ext hz
      clear hz hxc
      by_cases h0 : C2 = 0
      rotate_left 1
      · have hc : (C2 != 0) = true := by simpa using h0
        clear h0 hTU
        go_wp2_with fail
        refine (san _ hx7).mono ?_
        rintro e w99 ⟨rfl, hz⟩
        go_wp2_with fail
        go_ret
        exact ⟨rfl, hz⟩
      subst h0
      have hok2 := Ok.of HC2.out
      obtain ⟨hpa1, hpa2⟩ := HPA.out hok2
      have hof := HOF.out hok2
      have hok := HOK.out
      obtain ⟨S, hS⟩ : ∃ l, shN T = l := ⟨_, rfl⟩
      obtain ⟨S2, hS2⟩ : ∃ l, shN U = l := ⟨_, rfl⟩
      have hsl : S.length = T.ps.length := by rw [← hS]; exact shN_len T
      have hs2l : S2.length = T.ps.length + 1 := by rw [← hS2, shN_len]; exact HUL.out
      have hsb : ∀ x ∈ S, 0 ≤ x ∧ x ≤ 8421473853112320 := by rw [← hS]; exact shN_bd hok
      have hs2b : ∀ x ∈ S2, 0 ≤ x ∧ x ≤ 8421473853112320 := by rw [← hS2]; exact shN_bd hok2
      have hso : ∀ i, i < T.ps.length → i ≠ k → S2.getD i 0 = S.getD i 0 := fun i hi hik => by rw [← hS, ← hS2, shN_at hi, shN_at (by rw [HUL.out]; omega)]; exact hof i hi hik
      have e1 : shI T k = S.getD k 0 := by rw [← hS, shN_at hk]
      have e2 : shI U k = S2.getD k 0 := by rw [← hS2, shN_at (by rw [HUL.out]; omega)]
      have e3 : shI U T.ps.length = S2.getD T.ps.length 0 := by rw [← hS2, shN_at (by rw [HUL.out]; omega)]
      rw [e1, e2, e3] at hpa1
      rw [e2, e3] at hpa2
      have KS1 := fun W (h : Ext w W) => shares_ok _ _ T HCC.out W (hT.ext h)
      have KS2 := fun a' b' W (h : TrAt W a' b' U) => shares_ok a' b' U HC2.out W h
      rw [hS] at KS1
      rw [hS2] at KS2
      have HS1 := Lib.hid KS1
      have HS2 := Lib.hid KS2
      have Hsl := Lib.hid hsl
      have Hs2l := Lib.hid hs2l
      have Hsb := Lib.hid hsb
      have Hs2b := Lib.hid hs2b
      have Hso := Lib.hid hso
      have Hp1 := Lib.hid hpa1
      have Hp2 := Lib.hid hpa2
      clear KS1 KS2 hsl hs2l hsb hs2b hso hpa1 hpa2 e1 e2 e3 hof hS hS2 hok hok2 HOF HPA HK2 HOK
      go_wp2_with fail
      refine (HS1.out _ hx7).mono ?_
      rintro e w8 ⟨u8, rfl, hu8, hz⟩
      have hx8 := hx7.trans hz
      replace d0 := hz.cell d0
      replace d1 := hz.cell d1
      replace b0 := hz.cell b0
      replace b1 := hz.cell b1
      replace hTU := hTU.ext hz
      clear hz hx7
      obtain ⟨A8, c8, rfl, _⟩ := hu8.len
      rw [show (S.map ratM).length = T.ps.length by rw [List.length_map, Hsl.out]] at hu8 ⊢
      go_wp2_with fail
      refine (HS2.out _ _ _ hTU).mono ?_
      rintro e w9 ⟨u9, rfl, hu9, hz⟩
      have hx9 := hx8.trans hz
      replace d0 := hz.cell d0
      replace d1 := hz.cell d1
      replace b0 := hz.cell b0
      replace b1 := hz.cell b1
      replace hTU := hTU.ext hz
      replace hu8 := hu8.ext hz
      clear hz hx8
      obtain ⟨A9, c9, rfl, _⟩ := hu9.len
      rw [show (S2.map ratM).length = T.ps.length + 1 by rw [List.length_map, Hs2l.out]] at hu9 ⊢
      clear hTU
      obtain ⟨n1, hn1⟩ : ∃ n, T.ps.length + 1 = n := ⟨_, rfl⟩
      rw [hn1] at hu9 b1 ⊢
      have HN1 := Lib.hid hn1
      clear hn1
      have hd1 : ((T.ps.length : Int) != (T.ps.length : Int)) = false := by simp
      have hd3 : ((n1 : Int) != (n1 : Int)) = false := by simp
      go_upto_region 18 with fail
      clear b0 b1 d0 d1 hd1 hd3
      go_loopw [17] (fun i wr => ∃ j : Nat, j ≤ T.ps.length ∧ i = .int .i64 j ∧ Ext w9 wr) (fun i _ => T.ps.length - (intOf i).toNat)
      case atStart => exact ⟨0, Nat.zero_le _, rfl, Ext.refl _⟩
      case round =>
        obtain ⟨j, hj, rfl, hxr⟩ := hrel
        replace hu8 := hu8.ext hxr
        replace hu9 := hu9.ext hxr
        replace hx9 := hx9.trans hxr
        by_cases hlj : j < T.ps.length
        · have hk1 : j < S.length := by rw [Hsl.out]; exact hlj
          have hk2 : j < S2.length := by rw [Hs2l.out]; omega
          have hbd1 := Hsb.out _ (List.getElem_mem hk1)
          have hbd2 := Hs2b.out _ (List.getElem_mem hk2)
          have hji : (j : Int) < (T.ps.length : Int) := by omega
          have hji2 : (j : Int) < (n1 : Int) := by have := HN1.out; omega
          obtain ⟨b1, o1, hb1, c0, c1⟩ := hu8.get j (by rw [List.length_map]; exact hk1)
          rw [List.getElem_map] at c0 c1
          have KP1 := fun W => parts_any S[j] hbd1.1 hbd1.2 W
          obtain ⟨x, hx1⟩ : ∃ x, S[j] = x := ⟨_, rfl⟩
          rw [hx1] at KP1 c0 c1 hbd1
          have KQ1 : ∀ W, Calls Try.prog 20 #[.agg #[.int .i64 (ratM x).n, .int .i64 (ratM x).d]] W fun e w' => e = .returned (.tuple #[.int .i64 x, .bool true]) ∧ Ext W w' := KP1
          obtain ⟨rn1, hrn1⟩ : ∃ r, (ratM x).n = r := ⟨_, rfl⟩
          obtain ⟨rd1, hrd1⟩ : ∃ r, (ratM x).d = r := ⟨_, rfl⟩
          rw [hrn1, hrd1] at KQ1
          rw [hrn1] at c0
          rw [hrd1] at c1
          have HQ1 := Lib.hid KQ1
          clear KP1 KQ1 hrn1 hrd1
          obtain ⟨b2, o2, hb2, e0, e1⟩ := hu9.get j (by rw [List.length_map]; exact hk2)
          rw [List.getElem_map] at e0 e1
          have KP2 := fun W => parts_any S2[j] hbd2.1 hbd2.2 W
          obtain ⟨y, hx2⟩ : ∃ x, S2[j] = x := ⟨_, rfl⟩
          rw [hx2] at KP2 e0 e1 hbd2
          have KQ2 : ∀ W, Calls Try.prog 20 #[.agg #[.int .i64 (ratM y).n, .int .i64 (ratM y).d]] W fun e w' => e = .returned (.tuple #[.int .i64 y, .bool true]) ∧ Ext W w' := KP2
          obtain ⟨rn2, hrn2⟩ : ∃ r, (ratM y).n = r := ⟨_, rfl⟩
          obtain ⟨rd2, hrd2⟩ : ∃ r, (ratM y).d = r := ⟨_, rfl⟩
          rw [hrn2, hrd2] at KQ2
          rw [hrn2] at e0
          rw [hrd2] at e1
          have HQ2 := Lib.hid KQ2
          clear KP2 KQ2 hrn2 hrd2
          subst hb1
          subst hb2
          by_cases hjk : j = k
          · subst hjk
            have hke : ((j : Int) != (j : Int)) = false := by simp
            have hk3 : T.ps.length < S2.length := by rw [Hs2l.out]; omega
            have hbd3 := Hs2b.out _ (List.getElem_mem hk3)
            have hli2 : (T.ps.length : Int) < (n1 : Int) := by have := HN1.out; omega
            have hp1 := Hp1.out
            have hp2 := Hp2.out
            rw [getD_at hk1, getD_at hk2, getD_at hk3, hx1, hx2] at hp1
            rw [getD_at hk2, getD_at hk3, hx2] at hp2
            obtain ⟨b3, o3, hb3, g0, g1⟩ := hu9.get T.ps.length (by rw [List.length_map]; exact hk3)
            simp only [Option.some.injEq, Addr.mk.injEq, and_true] at hb3
            obtain ⟨rfl, rfl⟩ := hb3
            rw [List.getElem_map] at g0 g1
            have KP3 := fun W => parts_any S2[T.ps.length] hbd3.1 hbd3.2 W
            obtain ⟨zz, hx3⟩ : ∃ x, S2[T.ps.length] = x := ⟨_, rfl⟩
            rw [hx3] at KP3 g0 g1 hp1 hp2 hbd3
            have KQ3 : ∀ W, Calls Try.prog 20 #[.agg #[.int .i64 (ratM zz).n, .int .i64 (ratM zz).d]] W fun e w' => e = .returned (.tuple #[.int .i64 zz, .bool true]) ∧ Ext W w' := KP3
            obtain ⟨rn3, hrn3⟩ : ∃ r, (ratM zz).n = r := ⟨_, rfl⟩
            obtain ⟨rd3, hrd3⟩ : ∃ r, (ratM zz).d = r := ⟨_, rfl⟩
            rw [hrn3, hrd3] at KQ3
            rw [hrn3] at g0
            rw [hrd3] at g1
            have HQ3 := Lib.hid KQ3
            clear KP3 KQ3 hrn3 hrd3
            have hm1 := mul_rng hbd2.1 hbd2.2 (show 0 ≤ wq - n by omega) (show wq - n ≤ 24 by omega)
            have hs1 : IntKind.i64.wrap (y + zz) = x := by rw [hp1]; exact IntWalk.i64_in _ (by omega)
            have hs2 : IntKind.i64.wrap (y * (wq - n)) = zz * n := by rw [← hp2]; exact IntWalk.i64_in _ (by omega)
            have hs3 : IntKind.i64.wrap (zz * n) = zz * n := by rw [← hp2]; exact IntWalk.i64_in _ (by omega)
            have he1 : (x != x) = false := by simp
            have he2 : (zz * n != zz * n) = false := by simp
            clear hp1 hp2 hm1 hx1 hx2 hx3
            have hxs : Ext wr wr := Ext.refl _
            go_wp2_with fail
            refine (HQ1.out _).mono ?_
            rintro e w41 ⟨rfl, hz⟩
            have hx41 := hxs.trans hz
            replace c0 := hz.cell c0
            replace c1 := hz.cell c1
            replace e0 := hz.cell e0
            replace e1 := hz.cell e1
            replace g0 := hz.cell g0
            replace g1 := hz.cell g1
            clear hz hxs
            go_wp2_with fail
            refine (HQ2.out _).mono ?_
            rintro e w42 ⟨rfl, hz⟩
            have hx42 := hx41.trans hz
            replace c0 := hz.cell c0
            replace c1 := hz.cell c1
            replace e0 := hz.cell e0
            replace e1 := hz.cell e1
            replace g0 := hz.cell g0
            replace g1 := hz.cell g1
            clear hz hx41
            go_wp2_with fail
            refine (HQ3.out _).mono ?_
            rintro e w43 ⟨rfl, hz⟩
            have hx43 := hx42.trans hz
            replace c0 := hz.cell c0
            replace c1 := hz.cell c1
            replace e0 := hz.cell e0
            replace e1 := hz.cell e1
            replace g0 := hz.cell g0
            replace g1 := hz.cell g1
            clear hz hx42
            have hxe := hxr.trans hx43
            go_wp2_with fail
            go_roundw
            case rel => exact ⟨j + 1, by omega, by go_num, hxe⟩
            case measure => simp [intOf]; omega
          · have hke : ((j : Int) != (k : Int)) = true := by simp; omega
            have hxy := Hso.out j hlj hjk
            rw [getD_at hk1, getD_at hk2, hx1, hx2] at hxy
            subst hxy
            have he1 : (y != y) = false := by simp
            clear hx1 hx2
            have hxs : Ext wr wr := Ext.refl _
            go_wp2_with fail
            refine (HQ1.out _).mono ?_
            rintro e w41 ⟨rfl, hz⟩
            have hx41 := hxs.trans hz
            replace c0 := hz.cell c0
            replace c1 := hz.cell c1
            replace e0 := hz.cell e0
            replace e1 := hz.cell e1
            clear hz hxs
            go_wp2_with fail
            refine (HQ2.out _).mono ?_
            rintro e w42 ⟨rfl, hz⟩
            have hx42 := hx41.trans hz
            replace c0 := hz.cell c0
            replace c1 := hz.cell c1
            replace e0 := hz.cell e0
            replace e1 := hz.cell e1
            clear hz hx41
            have hxe := hxr.trans hx42
            go_wp2_with fail
            go_roundw
            case rel => exact ⟨j + 1, by omega, by go_num, hxe⟩
            case measure => simp [intOf]; omega
        · obtain rfl : j = T.ps.length := by omega
          clear hu8 hu9
          go_wp2_with fail
          refine (san _ hx9).mono ?_
          rintro e w99 ⟨rfl, hz⟩
          go_wp2_with fail
          go_ret
          exact ⟨rfl, hz⟩
end Go.Proofs.Ythopgonbndoidaa
namespace Go.Proofs.Ythopgonbndoidaa.levyWeights
open Go.ChangeShapes Go.WideShapes Go.ChangeAt Go.RowKit Go.Deep Go.Joins

noncomputable def wArgs : Array Value := #[.agg #[.slice none 0 0, .slice none 0 0], .int .u8 0, .int .i64 0, .int .u8 0]
noncomputable def laidWorld (os : Os) : World := World.holding Try.prog os ⟨#[], #[], []⟩

set_option maxRecDepth 100000 in
theorem contract (H : Type) (enc : TypeId × Value → H) (W : World) (base : Nat) (args : Array Value) (ds gs : List (DataW H)) (before : List MemPlace)
    (hval : ∀ (j : Nat) t v, Try.f5.params[j]? = some t → args[j]? = some v → Value.okWide Try.prog W .any base t v)
    (hW : DataW.Whole enc Try.prog Try.f5.params.toList Rows.levyWeightsSpec.vars false W args.toList ds gs before) :
    Calls Try.prog 5 args W fun e W' => ∃ v, e = .returned v ∧ Rows.levyWeightsSpec.post enc Try.prog Try.f5 false true false false W args v W' := by
  have hW' := hW
  obtain ⟨p, q, hA, hV, rfl, hfz, hnd⟩ := hW
  rw [show Try.f5.params = #[25, 5, 3, 5] from rfl] at hA hval
  obtain ⟨v0, vs0, d0, ds0, p0, q0, hargs, rfl, rfl, h0, r0⟩ := trodAll_cons hA
  obtain ⟨v1, vs1, d1, ds1, p1, q1, rfl, rfl, rfl, h1, r1⟩ := trodAll_cons r0
  obtain ⟨v2, vs2, d2, ds2, p2, q2, rfl, rfl, rfl, h2, r2⟩ := trodAll_cons r1
  obtain ⟨v3, vs3, d3, ds3, p3, q3, rfl, rfl, rfl, h3, r3⟩ := trodAll_cons r2
  obtain ⟨rfl, rfl, rfl⟩ := trodAll_nil r3
  obtain rfl : args = #[v0, v1, v2, v3] := by cases args; simp_all
  obtain ⟨rfl, rfl⟩ := trodVars_none hV
  obtain ⟨a0, b0, T0, rfl, hT0⟩ := open_tree (hval 0 25 v0 rfl rfl) h0
  obtain ⟨x1, rfl, _, _, hf1⟩ := open_int Try.underlying5 (hval 1 5 v1 rfl rfl) h1
  obtain ⟨x2, rfl, _, _, hf2⟩ := open_int Try.underlying3 (hval 2 3 v2 rfl rfl) h2
  obtain ⟨x3, rfl, _, _, hf3⟩ := open_int Try.underlying5 (hval 3 5 v3 rfl rfl) h3
  refine (LevyWeights_any _ _ T0 x1 x2 x3 W hT0 (wf_u8 hf1) (wf_u8 hf3)).mono fun e W' ⟨he, hg⟩ => ?_
  subst he
  refine ⟨_, rfl, post_true hW' rfl rfl ⟨rfl, rfl, rfl⟩ ?_ hg⟩
  rw [show Try.f5.params = #[25, 5, 3, 5] from rfl]
  intro t ht
  simp only [List.mem_cons, List.not_mem_nil, or_false] at ht
  rcases ht with rfl | rfl | rfl | rfl <;> exact ⟨by kernel_rfl, of_decide_eq_true (by kernel_rfl)⟩

set_option maxRecDepth 100000 in
theorem laid_met (os : Os) : laidMet Try.prog Rows.levyWeightsRow.laid ((laidWorld os).forCall (fun _ _ => 0) ⟨#[], wArgs, []⟩).memory :=
  laidMet_of_run' 8 (by kernel_rfl) (by kernel_rfl)
set_option maxRecDepth 100000 in
theorem reads (os : Os) {H : Type} (enc : TypeId × Value → H) : ∃ x places, DataW.whole enc Try.prog ((laidWorld os).forCall (fun _ _ => 0) ⟨#[], wArgs, []⟩).memory Try.f5.params.toList Rows.levyWeightsSpec.vars false wArgs.toList 8 = some (x, [], places) :=
  ⟨[.agg [.nil, .nil], .lit (.int .u8 0), .lit (.int .i64 0), .lit (.int .u8 0)], [], by kernel_rfl⟩

set_option maxRecDepth 100000 in
theorem lifted (os : Os) (started : os.Started) (H : Type) (enc : TypeId × Value → H) (F : Stop.Interp) :
    ReturnsInHanded {} Try.checked os 5 .any ((OpenSpec.ofChange Rows.levyWeightsSpec).preRow enc Try.prog Try.f5 Rows.levyWeightsRow.domain false Rows.levyWeightsRow.laid) (((OpenSpec.ofChange Rows.levyWeightsSpec).at F).post enc Try.prog Try.f5 false true false false) := by
  obtain ⟨x, places, hx⟩ := reads os enc
  refine returnsInHanded_of_row (C := Try.checked) (s := OpenSpec.ofChange Rows.levyWeightsSpec) own started (by kernel_rfl) Try.func5
    (witness_row_at (enc := enc) (C := Try.checked) false (laidWorld os) wArgs rfl (by kernel_rfl) (by kernel_rfl) (by kernel_rfl)
      (OpenSpec.preRow_of_cond 8 hx (by kernel_rfl) (fun k hk => by cases hk) (by kernel_rfl) (laid_met os))) ?_
  intro W base args ds gs before hval hW _ _ _ hL _ _
  exact contract H enc W base args ds gs before hval hW

set_option maxRecDepth 100000 in
theorem said : Rows.LevyWeightsSaid :=
  OpenClaim.holds_of_cond 5 Try.f5 rfl rfl rfl rfl rfl rfl rfl ⟨rfl, rfl, rfl, rfl, rfl⟩ rfl rfl rfl rfl rfl (by kernel_rfl) Try.func5 (by kernel_rfl)
    (of_decide_eq_true (by kernel_rfl)) (by unfold Func.isWrapper; first | (rw [if_pos (by decide +kernel)]; kernel_rfl) | (rw [if_neg (by decide +kernel)]; exact ⟨rfl, rfl⟩))
    (fun os started H enc _ F => by rw [OpenClaim.pre_eq_preRow]; exact lifted os started H enc F)
end Go.Proofs.Ythopgonbndoidaa.levyWeights

