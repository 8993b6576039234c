/- Changed of the specification. -/
import Derived.Test.YthopgonbndoidaaVJoi
import Derived.Test.YthopgonbndoidaaVRSs
import Derived.Test.YthopgonbndoidaaVChg
namespace Go.Proofs.Ythopgonbndoidaa
open Go.RowKit Go.Shelf Go.Lib

/-- a tree with another cost of a reach -/
def chT (T : Tr) (n : Nat) (c : Int) : Tr := ⟨T.rs.set n ⟨abv T.rs n, c⟩, T.ps⟩
theorem abv_set (rs : List Rc) (n : Nat) (c r : Int) : abv (rs.set n ⟨abv rs n, c⟩) r = abv rs r := by
  have e : ∀ (l : List Rc) (r : Int), abv l r = ((l[r.toNat]?).map (·.above)).getD (-1) := fun l r => by
    unfold abv; cases l[r.toNat]? <;> rfl
  rw [e, e rs r, List.getElem?_set]
  by_cases h : n = r.toNat
  · subst h
    rw [if_pos rfl]
    by_cases hl : r.toNat < rs.length
    · rw [if_pos hl, e, Int.toNat_natCast]
      simp [hl]
    · rw [if_neg hl, List.getElem?_eq_none (by omega)]
  · rw [if_neg h]
theorem upF_set (rs : List Rc) (n : Nat) (c : Int) : ∀ (k : Nat) (r : Int), upF (rs.set n ⟨abv rs n, c⟩) k r = upF rs k r
  | 0, _ => rfl
  | k + 1, r => by rw [upF, upF, abv_set, upF_set rs n c k]
theorem usB_set (rs : List Rc) (n : Nat) (c fr k : Int) : usB (rs.set n ⟨abv rs n, c⟩) fr k = usB rs fr k := by
  unfold usB upL; rw [upF_set]
theorem wtA_set (rs : List Rc) (n : Nat) (c : Int) (l : List Py) : wtA (rs.set n ⟨abv rs n, c⟩) l = wtA rs l := by
  induction l using snoc_ind with
  | h0 => rfl
  | h1 l p ih =>
    rw [wtA_snoc, wtA_snoc, ih]
    funext r
    unfold wtS
    rw [usB_set]
theorem cst_set (rs : List Rc) {n : Nat} (hn : n < rs.length) (c : Int) (k : Nat) : cst (rs.set n ⟨abv rs n, c⟩) k = if k = n then c else cst rs k := by
  unfold cst
  rw [List.getElem?_set]
  by_cases h : n = k
  · subst h; simp [hn]
  · rw [if_neg h, if_neg (fun e => h e.symm)]
theorem ok_set {T : Tr} (hok : Ok T) {n : Nat} (hn : n < T.rs.length) {c : Int} (hc : 0 ≤ c ∧ c ≤ 65536) : Ok (chT T n c) := by
  refine ⟨by simp [chT]; exact hok.lr, hok.lp, ⟨fun i hi => ?_⟩, fun p hp => ?_, hok.nd, hok.sw⟩
  · have hi' : i < T.rs.length := by simpa [chT] using hi
    have hv := hok.rv.v i hi'
    have hg := abv_get (rs := T.rs) hn
    have hvn := hok.rv.v n hn
    simp only [chT, List.getElem_set]
    split
    · rename_i e; subst e; simp only; rw [hg]; omega
    · exact hv
  · have := hok.pv p hp
    simpa [chT] using this
theorem chg_diff {T : Tr} (hok : Ok T) {n : Nat} (hn : n < T.rs.length) {c : Int} (hc : 0 ≤ c ∧ c ≤ 65536) {p : Py} (hp : p ∈ T.ps) : ratM (shX (chT T n c) p - shX T p) = chgR T n c p := by
  rw [shX_sum (ok_set hok hn hc) (p := p) hp, shX_sum hok hp]
  have hlen : (chT T n c).rs.length = T.rs.length := by simp [chT]
  rw [hlen]
  have hd : sumR T.rs.length (rpX (chT T n c) p) = sumR T.rs.length (rpX T p) + (if usB T.rs p.reach n = true then pcX T (c - cst T.rs n) p.w n else 0) := by
    rw [← sumR_one hn]
    refine sumR_congr (fun k _ => ?_)
    unfold rpX pcX
    simp only [chT, usB_set, wtA_set, cst_set _ hn]
    by_cases h : k = n
    · subst h
      rw [if_pos rfl, if_pos rfl]
      by_cases hu : usB T.rs p.reach k = true
      · rw [if_pos hu, if_pos hu, if_pos hu, Int.sub_mul, Int.sub_mul]; omega
      · rw [if_neg hu, if_neg hu, if_neg hu]; rfl
    · rw [if_neg h, if_neg h]
  rw [hd]
  unfold chgR
  by_cases hu : usB T.rs p.reach n = true
  · rw [if_pos hu, if_pos hu]
    obtain ⟨_, h2, h3, _⟩ := pay_facts hok hp (r := (n : Int)) (usB_t.1 hu)
    simp only [Int.toNat_natCast] at h2 h3 ⊢
    rw [pc_ratM T _ _ (by omega) h3]
    congr 1
    omega
  · rw [if_neg hu, if_neg hu, ← ratM_zero]
    congr 1
    omega
theorem cellsC_set : ∀ (l : List Rc) (n : Nat) (h : n < l.length) (c : Int), cellsK fC (l.set n ⟨l[n].above, c⟩) = (cellsK fC l).set (n * 2 + 1) (.int .i64 c)
  | [], n, h, _ => by simp at h
  | x :: l, 0, _, c => rfl
  | x :: l, n + 1, h, c => by
    have ih := cellsC_set l n (by simpa using h) c
    have e : ∀ y : Rc, ∀ l : List Rc, cellsK fC (y :: l) = Value.int .i64 y.above :: Value.int .i64 y.cost :: cellsK fC l := fun _ _ => rfl
    rw [List.set_cons_succ, e, e, List.getElem_cons_succ, ih, show (n + 1) * 2 + 1 = n * 2 + 1 + 1 + 1 by omega, List.set_cons_succ, List.set_cons_succ]
theorem rowC_cost {n₀ g cap n : Nat} {l : List Rc} {W : World} (h : RowC n₀ (.slice (some ⟨g, 0, none⟩) l.length cap) l W) (hn : n < l.length) (c : Int) :
    RowC n₀ (.slice (some ⟨g, 0, none⟩) l.length cap) (l.set n ⟨abv l n, c⟩) (W.setCell ⟨g, n * 2 + 1, none⟩ (.int .i64 c)) := by
  have h1 := (World.ownsRow.stored h (n * 2 + 1) (.int .i64 c)).1
  unfold RowC RowK
  rw [List.length_set, abv_get hn, cellsC_set l n hn]
  exact h1
theorem chgX_eq {T : Tr} {n : Nat} {c : Int} (hok : Ok T) (hn : n < T.rs.length) (hc : 0 ≤ c ∧ c ≤ 65536) (k : Nat) : (T.ps.take k).map (fun p => ratM (shX (chT T n c) p - shX T p)) = chgL T n c (T.ps.take k) := by
  unfold chgL
  exact List.map_congr_left (fun p hp => chg_diff hok hn hc (List.mem_of_mem_take hp))

theorem row_neOwn {α : Type} {e e' : TypeId} {f : α → List Int} {k n₀ n' k' m' : Nat} {v v' : Value} {l : List α} {xs : List Value} {W : World} (h : RowK e f k n₀ v l W) (h' : W.ownsRow n' e' k' v' m' xs) (hne : e ≠ e') : v.ownBlock = none ∨ v.ownBlock ≠ v'.ownBlock := by
  rcases h.2 with ⟨rfl, _⟩ | ⟨g, cap, cur, rfl, _, h1, _⟩
  · exact .inl rfl
  · rcases h'.2 with ⟨rfl, _⟩ | ⟨g', cap', cur', rfl, _, h2, _⟩
    · exact .inr (by simp [Value.ownBlock])
    · refine .inr (fun he => hne ?_)
      simp only [Value.ownBlock, Option.some.injEq] at he
      subst he
      have := Option.some.inj (h1.symm.trans h2)
      simp only [Obj.cells.injEq] at this
      exact this.2.1
set_option maxRecDepth 100000 in
set_option maxHeartbeats 16000000 in
theorem refChanged_any (a b : Value) (T : Tr) (n c : Int) (w : World) (hT : TrAt w a b T) :
    Calls Try.prog 30 #[.agg #[a, b], .int .i64 n, .int .i64 c] w (IxrPost w (chgX T n c) (chgE T n c)) := by
  have hR : reaE T n = if chkE T = 0 then (if inB n 0 ((T.rs.length : Int) - 1) = true then 0 else 5) else chkE T := rfl
  have hE : chgE T n c = if reaE T n = 0 then (if inB c 0 65536 = true then 0 else 1) else reaE T n := rfl
  have hX : chgX T n c = if chgE T n c = 0 then chgL T n c T.ps else [] := rfl
  have hok := @Ok.of T
  have KC := fun W (hx : Ext w W) => refCheck_any a b T W (hT.ext hx)
  obtain ⟨aa, ca, rfl, hla⟩ := hT.r.len
  obtain ⟨ab, cb, rfl, hlb⟩ := hT.p.len
  obtain ⟨C, hCC⟩ : ∃ E, chkE T = E := ⟨_, rfl⟩
  obtain ⟨R, hRR⟩ : ∃ E, reaE T n = E := ⟨_, rfl⟩
  obtain ⟨E, hEE⟩ : ∃ E, chgE T n c = E := ⟨_, rfl⟩
  obtain ⟨X, hXX⟩ : ∃ E, chgX T n c = E := ⟨_, rfl⟩
  rw [hCC] at hok KC
  rw [hCC, hRR] at hR
  rw [hRR, hEE] at hE
  rw [hEE, hXX] at hX
  rw [hEE, hXX]
  have HX := Lib.hid hX
  have HR := Lib.hid hR
  have HE := Lib.hid hE
  have HOK := Lib.hid hok
  clear hCC hRR hEE hXX hX hR hE hok
  go_enter Try.func30, Try.ntmps30
  go_wp2_with fail
  refine (KC _ (by repeat (first | exact Ext.refl _ | assumption | refine Ext.alloc ?_ _ | refine Ext.drew ?_ | refine Ext.drewN _ ?_ | refine Ext.trans ?_ (by assumption)))).mono ?_
  rintro e w1 ⟨rfl, hx1⟩
  obtain ⟨q0, q1, hx, hk0⟩ := alloc2 hx1
  have d0 : w1.cell? ⟨w.heap.size, 0, none⟩ = some (.slice aa T.rs.length ca) := q0.cell 0
  have d1 : w1.cell? ⟨w.heap.size, 1, none⟩ = some (.slice ab T.ps.length cb) := q0.cell 1
  have f0 := q1.frozen 0
  have f1 := q1.frozen 1
  have c0 := q1.cell 0
  have c1 := q1.cell 1
  clear hx1 KC
  -- an error
  have err : ∀ (e : Int) (he : E = e), e ≠ 0 → X = [] := fun e he h0 => by
    rw [HX.out, if_neg (by rw [he]; exact h0)]
  have HERR := Lib.hid err
  clear err
  by_cases h0 : C = 0
  · have hb : (C != 0) = false := by simpa using h0
    have hr := HR.out
    rw [if_pos h0] at hr
    have hok := HOK.out h0
    have HK := Lib.hid hok
    clear h0 hok
    by_cases hn0 : n < 0
    · have g0 : decide (n < 0) = true := decide_eq_true hn0
      have hi : inB n 0 ((T.rs.length : Int) - 1) = false := by simp [inB]; omega
      rw [hi] at hr; rw [if_neg (by decide)] at hr
      have he := HE.out
      rw [if_neg (by rw [hr]; decide), hr] at he
      have HE2 := Lib.hid he
      have HX2 := Lib.hid (HERR.out 5 he (by decide))
      clear hr he hi hn0
      go_wp2_with fail
      have hC := (q1.set 0 (.slice none 0 0)).set 1 (.int .i64 5)
      exact bodyPost_ret (results_cell_row rfl _ _ (w.heap.size + 1) _ _ _ _ rfl hC Try.underlying58 rfl (by kernel_rfl)) rfl ⟨_, by rw [HE2.out]; rfl, by rw [HX2.out]; exact rasAt_nil _, ixr_ext _ hx (by omega) _ _⟩
    · by_cases hn1 : n ≥ T.rs.length
      · have g0 : decide (n < 0) = false := decide_eq_false hn0
        have g1 : decide (n ≥ (T.rs.length : Int)) = true := decide_eq_true hn1
        have hi : inB n 0 ((T.rs.length : Int) - 1) = false := by simp [inB]; omega
        rw [hi] at hr; rw [if_neg (by decide)] at hr
        have he := HE.out
        rw [if_neg (by rw [hr]; decide), hr] at he
        have HE2 := Lib.hid he
        have HX2 := Lib.hid (HERR.out 5 he (by decide))
        clear hr he hi hn0 hn1
        go_wp2_with fail
        have hC := (q1.set 0 (.slice none 0 0)).set 1 (.int .i64 5)
        exact bodyPost_ret (results_cell_row rfl _ _ (w.heap.size + 1) _ _ _ _ rfl hC Try.underlying58 rfl (by kernel_rfl)) rfl ⟨_, by rw [HE2.out]; rfl, by rw [HX2.out]; exact rasAt_nil _, ixr_ext _ hx (by omega) _ _⟩
      · have g0 : decide (n < 0) = false := decide_eq_false hn0
        have g1 : decide (n ≥ (T.rs.length : Int)) = false := decide_eq_false hn1
        have hi : inB n 0 ((T.rs.length : Int) - 1) = true := by simp [inB]; omega
        rw [if_pos hi] at hr
        have he := HE.out
        rw [if_pos hr] at he
        obtain ⟨I, hI⟩ : ∃ I, inB c 0 65536 = I := ⟨_, rfl⟩
        rw [hI] at he
        have HI := Lib.hid hI
        obtain ⟨i, rfl⟩ : ∃ i : Nat, n = i := ⟨n.toNat, by omega⟩
        have hin : i < T.rs.length := by omega
        have g2 : decide (T.rs.length ≤ i) = false := decide_eq_false (by omega)
        clear hr hi hn0 hn1 hI
        cases I with
        | false =>
          rw [if_neg (by decide)] at he
          have HE2 := Lib.hid he
          have HX2 := Lib.hid (HERR.out 1 he (by decide))
          clear he
          go_wp2_with (go_at_call 77; refine (refWithin_any _ _ _ _).mono ?_; rw [HI.out]; rintro e w2 ⟨rfl, rfl⟩)
          have hC := (q1.set 0 (.slice none 0 0)).set 1 (.int .i64 1)
          exact bodyPost_ret (results_cell_row rfl _ _ (w.heap.size + 1) _ _ _ _ rfl hC Try.underlying58 rfl (by kernel_rfl)) rfl ⟨_, by rw [HE2.out]; rfl, by rw [HX2.out]; exact rasAt_nil _, ixr_ext _ hx (by omega) _ _⟩
        | true =>
          rw [if_pos rfl] at he
          have hxx := HX.out
          rw [if_pos he] at hxx
          have HE2 := Lib.hid he
          have HX2 := Lib.hid hxx
          have hlr := HK.out.lr
          clear he hxx c0 c1 f0 f1
          go_upto_region 9 with (go_at_call 77; refine (refWithin_any _ _ _ _).mono ?_; rw [HI.out]; rintro e w2 ⟨rfl, rfl⟩)
          refine wp_region_held_drew (S := fun W' => W'.cell? ⟨w.heap.size, 0, none⟩ = some (.slice aa T.rs.length ca) ∧ W'.cell? ⟨w.heap.size, 1, none⟩ = some (.slice ab T.ps.length cb) ∧ Ext w1 W') (by kernel_rfl) ?_ (fun hHeld => ?_)
          · exact ⟨d0, d1, Ext.drew (Ext.refl _)⟩
          (refine wpAnyH_take (i := 1) (v := ?_) rfl (by kernel_rfl) (by kernel_rfl) (by kernel_rfl) (fun _ _ _ h => h) (Or.inl ⟨by rfl, ?_⟩) (by assumption) ?_; rotate_left 1; (focus (intro w hSw; (try dsimp only at hSw); go_simp; try (with_reducible rfl))))
          try simp only [Act.put, List.getElem_toArray, List.setIfInBounds_toArray]
          (refine wpAnyH_take (i := 2) (v := ?_) rfl (by kernel_rfl) (by kernel_rfl) (by kernel_rfl) (fun _ _ _ h => h) (Or.inl ⟨by rfl, ?_⟩) (by assumption) ?_; rotate_left 1; (focus (intro w hSw; (try dsimp only at hSw); go_simp; try (with_reducible rfl))))
          try simp only [Act.put, List.getElem_toArray, List.getElem_cons_zero, List.getElem_cons_succ, List.setIfInBounds_toArray, List.set_cons_zero, List.set_cons_succ]
          (refine wpAnyH_take (i := 4) (v := ?_) rfl (by kernel_rfl) (by kernel_rfl) (by kernel_rfl) (fun _ _ _ h => h) (Or.inl ⟨by rfl, ?_⟩) (by assumption) ?_; rotate_left 1; (focus (intro w hSw; (try dsimp only at hSw); go_simp; try (with_reducible rfl))))
          try simp only [Act.put, List.getElem_toArray, List.getElem_cons_zero, List.getElem_cons_succ, List.setIfInBounds_toArray, List.set_cons_zero, List.set_cons_succ]
          (refine wpAnyH_take (i := 5) (v := ?_) rfl (by kernel_rfl) (by kernel_rfl) (by kernel_rfl) (fun _ _ _ h => h) (Or.inl ⟨by rfl, ?_⟩) (by assumption) ?_; rotate_left 1; (focus (intro w hSw; (try dsimp only at hSw); go_simp; try (with_reducible rfl))))
          try simp only [Act.put, List.getElem_toArray, List.getElem_cons_zero, List.getElem_cons_succ, List.setIfInBounds_toArray, List.set_cons_zero, List.set_cons_succ]
          refine wpAnyH_from [(0, 33), (3, 36), (6, 39), (7, 9)] (fun j v c w => match j with | 0 => (c 3 = false → RowC w1.heap.size (v 0) [] w) | 3 => (RowC w1.heap.size (v 3) T.rs w) | 6 => (∃ x, v 6 = .agg #[x, .slice ab T.ps.length cb] ∧ RowC w1.heap.size x T.rs w) | 7 => (∃ B, v 7 = .pointer (some ⟨B, 0, none⟩) ∧ w1.heap.size ≤ B ∧ (c 8 = false → Cls B 25 #[.slice none 0 0, .slice none 0 0] w) ∧ (c 8 = true → ∃ x, Cls B 25 #[x, .slice ab T.ps.length cb] w ∧ RowC w1.heap.size x T.rs w)) | 8 => (True) | _ => True) (fun W => Ext w1 W) [0, 3, 6, 7, 8] ?_ ?_ ?_ ?_ ?_ ?_ ?_ ?_ ?_ ?_ ?_
          · exact fun W h => ⟨Ext.cell h d0, Ext.cell h d1, h⟩
          · kernel_rfl
          · kernel_rfl
          · rfl
          · kernel_rfl
          · kernel_rfl
          · decide
          · exact Ext.drew (Ext.refl _)
          · refine StepsAll.cons rfl (fun v c W K hK hG hc hd hcl hF => ?_) ?_
            · simp only [putAll, List.setIfInBounds_toArray, List.set_cons_zero, List.set_cons_succ]
              go_simp
              obtain ⟨W', hN⟩ : ∃ X, W.alloc (.cells #[] 78) = X := ⟨_, rfl⟩
              have hz : Ext W W' := by rw [← hN]; exact (by repeat (first | exact Ext.refl _ | assumption | refine Ext.alloc ?_ _ | refine Ext.drew ?_ | refine Ext.drewN _ ?_ | refine Ext.trans ?_ (by assumption)))
              have hr : RowC w1.heap.size (.slice (some ⟨W.heap.size, 0, none⟩) 0 0) [] W' := by rw [← hN]; exact rowC_lit0 W hG.size
              rw [hN]
              refine hK.out (Value.slice (some ⟨W.heap.size, 0, none⟩) 0 0) _ _ (by kernel_rfl) (hG.trans hz) (fun j hj hcj => ?_)
              simp only [List.mem_cons, List.not_mem_nil, or_false] at hj
              rcases hj with rfl | rfl | rfl | rfl | rfl
              · show updN c 0 true 3 = false → RowC w1.heap.size ((Value.slice (some ⟨W.heap.size, 0, none⟩) 0 0)) [] W'
                exact fun _ => hr
              · have hP : RowC w1.heap.size (v 3) T.rs W := hF 3 (by simp) (by simpa [updN] using hcj)
                show RowC w1.heap.size (v 3) T.rs W'
                exact hP.ext hz
              · have hP : ∃ x, v 6 = .agg #[x, .slice ab T.ps.length cb] ∧ RowC w1.heap.size x T.rs W := hF 6 (by simp) (by simpa [updN] using hcj)
                show ∃ x, v 6 = .agg #[x, .slice ab T.ps.length cb] ∧ RowC w1.heap.size x T.rs W'
                exact (by obtain ⟨x, h1, h2⟩ := hP; exact ⟨x, h1, h2.ext hz⟩)
              · have hP : ∃ B, v 7 = .pointer (some ⟨B, 0, none⟩) ∧ w1.heap.size ≤ B ∧ (c 8 = false → Cls B 25 #[.slice none 0 0, .slice none 0 0] W) ∧ (c 8 = true → ∃ x, Cls B 25 #[x, .slice ab T.ps.length cb] W ∧ RowC w1.heap.size x T.rs W) := hF 7 (by simp) (by simpa [updN] using hcj)
                show ∃ B, v 7 = .pointer (some ⟨B, 0, none⟩) ∧ w1.heap.size ≤ B ∧ (updN c 0 true 8 = false → Cls B 25 #[.slice none 0 0, .slice none 0 0] W') ∧ (updN c 0 true 8 = true → ∃ x, Cls B 25 #[x, .slice ab T.ps.length cb] W' ∧ RowC w1.heap.size x T.rs W')
                exact (by obtain ⟨B, h1, h2, h3, h4⟩ := hP; exact ⟨B, h1, h2, fun h => (h3 (by simpa [updN] using h)).ext hz, fun h => by obtain ⟨x, k1, k2⟩ := h4 (by simpa [updN] using h); exact ⟨x, k1.ext hz, k2.ext hz⟩⟩)
              · trivial
            refine StepsAll.cons rfl (fun v c W K hK hG hc hd hcl hF => ?_) ?_
            · simp only [putAll, List.setIfInBounds_toArray, List.set_cons_zero, List.set_cons_succ]
              have h0 : c 3 = false → RowC w1.heap.size (v 0) [] W := hF 0 (by simp) (hd 0 (by kernel_rfl))
              have hr5 := h0 hc
              obtain ⟨v8, W', hrun, hr8, hg, ho⟩ := run_append_rcs W 22 w1.heap.size _ _ [] T.rs hr5 (hT.r.ext (hx.trans hG)) hG.size (by simp; omega)
              rw [List.nil_append] at hr8
              rw [if_pos (by rfl)]
              refine oper_append _ _ 22 rfl _ _ v8 W' rfl rfl hrun ?_
              refine hK.out v8 _ _ (by kernel_rfl) (ext_own hG hr5 (Nat.le_refl _) hg) (fun j hj hcj => ?_)
              simp only [List.mem_cons, List.not_mem_nil, or_false] at hj
              rcases hj with rfl | rfl | rfl | rfl | rfl
              · have hP : c 3 = false → RowC w1.heap.size (v 0) [] W := hF 0 (by simp) (by simpa [updN] using hcj)
                show updN c 3 true 3 = false → RowC w1.heap.size (v 0) [] W'
                exact fun h => absurd h (by simp [updN])
              · show RowC w1.heap.size (v8) T.rs W'
                exact hr8
              · have hP : ∃ x, v 6 = .agg #[x, .slice ab T.ps.length cb] ∧ RowC w1.heap.size x T.rs W := hF 6 (by simp) (by simpa [updN] using hcj)
                show ∃ x, v 6 = .agg #[x, .slice ab T.ps.length cb] ∧ RowC w1.heap.size x T.rs W'
                exact absurd (hcl 6 3 (by kernel_rfl) (by simpa [updN] using hcj)) (by rw [hc]; decide)
              · have hP : ∃ B, v 7 = .pointer (some ⟨B, 0, none⟩) ∧ w1.heap.size ≤ B ∧ (c 8 = false → Cls B 25 #[.slice none 0 0, .slice none 0 0] W) ∧ (c 8 = true → ∃ x, Cls B 25 #[x, .slice ab T.ps.length cb] W ∧ RowC w1.heap.size x T.rs W) := hF 7 (by simp) (by simpa [updN] using hcj)
                show ∃ B, v 7 = .pointer (some ⟨B, 0, none⟩) ∧ w1.heap.size ≤ B ∧ (updN c 3 true 8 = false → Cls B 25 #[.slice none 0 0, .slice none 0 0] W') ∧ (updN c 3 true 8 = true → ∃ x, Cls B 25 #[x, .slice ab T.ps.length cb] W' ∧ RowC w1.heap.size x T.rs W')
                exact (by obtain ⟨B, h1, h2, h3, h4⟩ := hP; exact ⟨B, h1, h2, fun h => (h3 (by simpa [updN] using h)).kept hg (RowK.neCls hr5 (h3 (by simpa [updN] using h)) (by decide)), fun h => absurd (hcl 8 3 (by kernel_rfl) (by simpa [updN] using h)) (by rw [hc]; decide)⟩)
              · trivial
            refine StepsAll.cons rfl (fun v c W K hK hG hc hd hcl hF => ?_) ?_
            · simp only [putAll, List.setIfInBounds_toArray, List.set_cons_zero, List.set_cons_succ]
              have h3 : RowC w1.heap.size (v 3) T.rs W := hF 3 (by simp) (hd 3 (by kernel_rfl))
              obtain ⟨A1, c1, e1⟩ := RowK.form h3
              simp only [e1]
              go_simp
              refine hK.out (Value.agg #[.slice A1 T.rs.length c1, .slice ab T.ps.length cb]) _ _ (by simp [putAll, updN, e1]) (hG) (fun j hj hcj => ?_)
              simp only [List.mem_cons, List.not_mem_nil, or_false] at hj
              rcases hj with rfl | rfl | rfl | rfl | rfl
              · have hP : c 3 = false → RowC w1.heap.size (v 0) [] W := hF 0 (by simp) (by simpa [updN] using hcj)
                show updN c 6 true 3 = false → RowC w1.heap.size (v 0) [] W
                exact fun h => hP (by simpa [updN] using h)
              · have hP : RowC w1.heap.size (v 3) T.rs W := hF 3 (by simp) (by simpa [updN] using hcj)
                show RowC w1.heap.size (v 3) T.rs W
                exact hP
              · show ∃ x, (Value.agg #[.slice A1 T.rs.length c1, .slice ab T.ps.length cb]) = .agg #[x, .slice ab T.ps.length cb] ∧ RowC w1.heap.size x T.rs W
                exact ⟨_, rfl, e1 ▸ h3⟩
              · have hP : ∃ B, v 7 = .pointer (some ⟨B, 0, none⟩) ∧ w1.heap.size ≤ B ∧ (c 8 = false → Cls B 25 #[.slice none 0 0, .slice none 0 0] W) ∧ (c 8 = true → ∃ x, Cls B 25 #[x, .slice ab T.ps.length cb] W ∧ RowC w1.heap.size x T.rs W) := hF 7 (by simp) (by simpa [updN] using hcj)
                show ∃ B, v 7 = .pointer (some ⟨B, 0, none⟩) ∧ w1.heap.size ≤ B ∧ (updN c 6 true 8 = false → Cls B 25 #[.slice none 0 0, .slice none 0 0] W) ∧ (updN c 6 true 8 = true → ∃ x, Cls B 25 #[x, .slice ab T.ps.length cb] W ∧ RowC w1.heap.size x T.rs W)
                exact (by obtain ⟨B, h1, h2, h3, h4⟩ := hP; exact ⟨B, h1, h2, fun h => h3 (by simpa [updN] using h), fun h => h4 (by simpa [updN] using h)⟩)
              · trivial
            refine StepsAll.cons rfl (fun v c W K hK hG hc hd hcl hF => ?_) ?_
            · simp only [putAll, List.setIfInBounds_toArray, List.set_cons_zero, List.set_cons_succ]
              go_simp
              obtain ⟨W', hN⟩ : ∃ X, W.alloc (.cells #[.slice none 0 0, .slice none 0 0] 25) = X := ⟨_, rfl⟩
              have hz : Ext W W' := by rw [← hN]; exact (by repeat (first | exact Ext.refl _ | assumption | refine Ext.alloc ?_ _ | refine Ext.drew ?_ | refine Ext.drewN _ ?_ | refine Ext.trans ?_ (by assumption)))
              have hB : Cls W.heap.size 25 #[.slice none 0 0, .slice none 0 0] W' := by rw [← hN]; exact Cls.new _ _ _
              rw [hN]
              refine hK.out (Value.pointer (some ⟨W.heap.size, 0, none⟩)) _ _ (by kernel_rfl) (hG.trans hz) (fun j hj hcj => ?_)
              simp only [List.mem_cons, List.not_mem_nil, or_false] at hj
              rcases hj with rfl | rfl | rfl | rfl | rfl
              · have hP : c 3 = false → RowC w1.heap.size (v 0) [] W := hF 0 (by simp) (by simpa [updN] using hcj)
                show updN c 7 true 3 = false → RowC w1.heap.size (v 0) [] W'
                exact fun h => (hP (by simpa [updN] using h)).ext hz
              · have hP : RowC w1.heap.size (v 3) T.rs W := hF 3 (by simp) (by simpa [updN] using hcj)
                show RowC w1.heap.size (v 3) T.rs W'
                exact hP.ext hz
              · have hP : ∃ x, v 6 = .agg #[x, .slice ab T.ps.length cb] ∧ RowC w1.heap.size x T.rs W := hF 6 (by simp) (by simpa [updN] using hcj)
                show ∃ x, v 6 = .agg #[x, .slice ab T.ps.length cb] ∧ RowC w1.heap.size x T.rs W'
                exact (by obtain ⟨x, h1, h2⟩ := hP; exact ⟨x, h1, h2.ext hz⟩)
              · show ∃ B, (Value.pointer (some ⟨W.heap.size, 0, none⟩)) = .pointer (some ⟨B, 0, none⟩) ∧ w1.heap.size ≤ B ∧ (updN c 7 true 8 = false → Cls B 25 #[.slice none 0 0, .slice none 0 0] W') ∧ (updN c 7 true 8 = true → ∃ x, Cls B 25 #[x, .slice ab T.ps.length cb] W' ∧ RowC w1.heap.size x T.rs W')
                exact ⟨W.heap.size, rfl, hG.size, fun _ => hB, fun h => absurd (hcl 8 7 (by kernel_rfl) (by simpa [updN] using h)) (by rw [hc]; decide)⟩
              · trivial
            refine StepsAll.cons rfl (fun v c W K hK hG hc hd hcl hF => ?_) ?_
            · simp only [putAll, List.setIfInBounds_toArray, List.set_cons_zero, List.set_cons_succ]
              have h6 : ∃ x, v 6 = .agg #[x, .slice ab T.ps.length cb] ∧ RowC w1.heap.size x T.rs W := hF 6 (by simp) (hd 6 (by kernel_rfl))
              have h7 : ∃ B, v 7 = .pointer (some ⟨B, 0, none⟩) ∧ w1.heap.size ≤ B ∧ (c 8 = false → Cls B 25 #[.slice none 0 0, .slice none 0 0] W) ∧ (c 8 = true → ∃ x, Cls B 25 #[x, .slice ab T.ps.length cb] W ∧ RowC w1.heap.size x T.rs W) := hF 7 (by simp) (hd 7 (by kernel_rfl))
              obtain ⟨x, e9, hx9⟩ := h6
              obtain ⟨B, e10, hB0, hB1, _⟩ := h7
              have hcB := hB1 hc
              obtain ⟨Ax, cx, ex⟩ := RowK.form hx9
              rw [if_pos (by rfl)]
              refine store_rowU 25 _ _ rfl B #[x, .slice ab T.ps.length cb] e10 e9 25 _ hcB (by kernel_rfl) rfl (by subst ex; simp [Value.oneCell']) (fun W' hC hg => ?_)
              refine hK.out undef _ _ (by kernel_rfl) (hG.grown hg hB0) (fun j hj hcj => ?_)
              simp only [List.mem_cons, List.not_mem_nil, or_false] at hj
              rcases hj with rfl | rfl | rfl | rfl | rfl
              · have hP : c 3 = false → RowC w1.heap.size (v 0) [] W := hF 0 (by simp) (by simpa [updN] using hcj)
                show updN c 8 true 3 = false → RowC w1.heap.size (v 0) [] W'
                exact fun h => absurd (hd 3 (by kernel_rfl)) (by rw [show c 3 = false by simpa [updN] using h]; decide)
              · have hP : RowC w1.heap.size (v 3) T.rs W := hF 3 (by simp) (by simpa [updN] using hcj)
                show RowC w1.heap.size (v 3) T.rs W'
                exact RowK.kept hP hg (.inr (Ne.symm (RowK.neCls hP hcB (by decide))))
              · have hP : ∃ x, v 6 = .agg #[x, .slice ab T.ps.length cb] ∧ RowC w1.heap.size x T.rs W := hF 6 (by simp) (by simpa [updN] using hcj)
                show ∃ x, v 6 = .agg #[x, .slice ab T.ps.length cb] ∧ RowC w1.heap.size x T.rs W'
                exact (by obtain ⟨x, h1, h2⟩ := hP; exact ⟨x, h1, RowK.kept h2 hg (.inr (Ne.symm (RowK.neCls h2 hcB (by decide))))⟩)
              · have hP : ∃ B, v 7 = .pointer (some ⟨B, 0, none⟩) ∧ w1.heap.size ≤ B ∧ (c 8 = false → Cls B 25 #[.slice none 0 0, .slice none 0 0] W) ∧ (c 8 = true → ∃ x, Cls B 25 #[x, .slice ab T.ps.length cb] W ∧ RowC w1.heap.size x T.rs W) := hF 7 (by simp) (by simpa [updN] using hcj)
                show ∃ B, v 7 = .pointer (some ⟨B, 0, none⟩) ∧ w1.heap.size ≤ B ∧ (updN c 8 true 8 = false → Cls B 25 #[.slice none 0 0, .slice none 0 0] W') ∧ (updN c 8 true 8 = true → ∃ x, Cls B 25 #[x, .slice ab T.ps.length cb] W' ∧ RowC w1.heap.size x T.rs W')
                exact (by obtain ⟨B', h1, h2, _, _⟩ := hP; have hBB : B = B' := (by rw [e10] at h1; simpa using h1); subst hBB; exact ⟨B, e10, h2, fun h => absurd h (by simp [updN]), fun _ => ⟨x, hC, RowK.kept hx9 hg (.inr (Ne.symm (RowK.neCls hx9 hcB (by decide))))⟩⟩)
              · show True
                exact trivial
            exact StepsAll.nil
          rotate_left 1
          · kernel_rfl
          · intro v W hG hF
            have h0 : true = false → RowC w1.heap.size (v 0) [] W := hF 0 (by simp)
            have h3 : RowC w1.heap.size (v 3) T.rs W := hF 3 (by simp)
            have h6 : ∃ x, v 6 = .agg #[x, .slice ab T.ps.length cb] ∧ RowC w1.heap.size x T.rs W := hF 6 (by simp)
            have h7 : ∃ B, v 7 = .pointer (some ⟨B, 0, none⟩) ∧ w1.heap.size ≤ B ∧ (true = false → Cls B 25 #[.slice none 0 0, .slice none 0 0] W) ∧ (true = true → ∃ x, Cls B 25 #[x, .slice ab T.ps.length cb] W ∧ RowC w1.heap.size x T.rs W) := hF 7 (by simp)
            have h8 : True := hF 8 (by simp)
            simp only [putAll, List.setIfInBounds_toArray, List.set_cons_zero, List.set_cons_succ]
            obtain ⟨B, e10, hB0, _, hB⟩ := h7
            obtain ⟨x, hBx, hx9⟩ := hB rfl
            simp only [e10]
            clear h0 h3 h6 h8 hF hB e10
            have hok := HK.out
            have hcb := inB_t HI.out
            have hlp := hok.lp
            have hxW := hx.trans hG
            have q0 := q0.ext hG
            have q1 := q1.ext hG
            obtain ⟨Ax, cx, rfl⟩ := RowK.form hx9
            have hfm := RowK.form hx9
            obtain ⟨g, rfl, hg0, hg1⟩ : ∃ g, Ax = some ⟨g, 0, none⟩ ∧ w1.heap.size ≤ g ∧ g < W.heap.size := by
              rcases hx9.2 with ⟨h, h1⟩ | ⟨g, cap, cur, h, h1, h2, _⟩
              · omega
              · simp only [Value.slice.injEq] at h
                exact ⟨g, h.1, h1, (Array.getElem?_eq_some_iff.1 h2).1⟩
            have b0 := hBx.cell 0
            have b1 := hBx.cell 1
            obtain ⟨bg, og, hbo, hx0, hx1⟩ := (RowC.at_ hx9).get i hin
            simp only [Option.some.injEq, Addr.mk.injEq, and_true] at hbo
            obtain ⟨rfl, rfl⟩ := hbo
            have hfz : W.frozen? ⟨g, i * 2 + 1, none⟩ = false := by
              rcases hx9.2 with ⟨h, h1⟩ | ⟨g', cap, cur, h, h1, h2, _⟩
              · omega
              · simp only [Value.slice.injEq, Option.some.injEq, Addr.mk.injEq, and_true] at h
                obtain ⟨rfl, _⟩ := h
                exact Cls.frozen (t := 78) (cs := cur) h2 _
            rw [Nat.zero_add] at hx0 hx1
            have hBg : B ≠ g := by
              intro e; subst e
              have hno := RowK.neCls hx9 hBx (by decide)
              exact hno rfl
            have hini : (i : Int) < T.rs.length := by omega
            have hrow := rowC_cost hx9 hin c
            have hq0 := q0.other (B' := g) (by omega) (i * 2 + 1) (.int .i64 c)
            have hq1 := q1.other (B' := g) (by omega) (i * 2 + 1) (.int .i64 c)
            have hqB := hBx.other (B' := g) hBg (i * 2 + 1) (.int .i64 c)
            have hxs : Ext w (W.setCell ⟨g, i * 2 + 1, none⟩ (.int .i64 c)) := hxW.setCell (p := ⟨g, i * 2 + 1, none⟩) (by simp; omega) _
            have hwB := hqB.lt
            have HRow := Lib.hid hrow
            clear hfm hrow hG hx9 hBx hx0 q0 q1
            go_upto_region 11 with fail
            obtain ⟨w3, hw3⟩ : ∃ V, W.setCell ⟨g, i * 2 + 1, none⟩ (.int .i64 c) = V := ⟨_, rfl⟩
            have HRow2 : Hid (RowC w1.heap.size (.slice (some ⟨g, 0, none⟩) T.rs.length cx) (T.rs.set i ⟨abv T.rs i, c⟩) w3) := Lib.hid (by rw [← hw3]; exact HRow.out)
            rw [hw3] at hq0 hq1 hqB hxs hwB
            rw [hw3]
            clear hw3 HRow hx1 b0 b1 hfz d0 d1
            have hok2 := ok_set hok hin hcb
            have hlen2 : (T.rs.set i ⟨abv T.rs i, c⟩).length = T.rs.length := by simp
            go_wp2_with fail
            go_loopw [10, 11] (fun v i' wr => ∃ k : Nat, k ≤ T.ps.length ∧ i' = .int .i64 k ∧ Hid (RowR w3.heap.size v ((T.ps.take k).map (fun p => ratM (shX (chT T i c) p - shX T p))) wr) ∧ Cls w.heap.size 25 #[.slice aa T.rs.length ca, .slice ab T.ps.length cb] wr ∧ Cls (w.heap.size + 1) 58 #[.slice none 0 0, .int .i64 0] wr ∧ Cls B 25 #[.slice (some ⟨g, 0, none⟩) T.rs.length cx, .slice ab T.ps.length cb] wr ∧ Hid (RowC w1.heap.size (.slice (some ⟨g, 0, none⟩) T.rs.length cx) (T.rs.set i ⟨abv T.rs i, c⟩) wr) ∧ Ext w wr ∧ w3.heap.size ≤ wr.heap.size) (fun _ i' _ => T.ps.length - (intOf i').toNat)
            case atStart => exact ⟨0, Nat.zero_le _, rfl, Lib.hid (rowR_nil _ _), hq0, hq1, hqB, HRow2, hxs, Nat.le_refl _⟩
            case round =>
              clear hq0 hq1 hqB HRow2 hxs
              obtain ⟨k, hk3, rfl, HR, q0, q1, qB, HC, hx, hsz⟩ := hrel
              have hR := HR.out
              have hC := HC.out
              have d0 : wr.cell? ⟨w.heap.size, 0, none⟩ = some (.slice aa T.rs.length ca) := q0.cell 0
              have d1 : wr.cell? ⟨w.heap.size, 1, none⟩ = some (.slice ab T.ps.length cb) := q0.cell 1
              have b0 : wr.cell? ⟨B, 0, none⟩ = some (.slice (some ⟨g, 0, none⟩) T.rs.length cx) := qB.cell 0
              have b1 : wr.cell? ⟨B, 1, none⟩ = some (.slice ab T.ps.length cb) := qB.cell 1
              by_cases hlt : k < T.ps.length
              · have hki : (k : Int) < T.ps.length := by omega
                have hst : (T.ps.take (k + 1)).map (fun p => ratM (shX (chT T i c) p - shX T p)) = (T.ps.take k).map (fun p => ratM (shX (chT T i c) p - shX T p)) ++ [ratM (shX (chT T i c) T.ps[k] - shX T T.ps[k])] := by
                  rw [take_succ_get T.ps k hlt, List.map_append]; rfl
                have hLl : ((T.ps.take k).map (fun p => ratM (shX (chT T i c) p - shX T p))).length = k := by simp; omega
                have hm : T.ps[k] ∈ T.ps := List.getElem_mem hlt
                have hs0 := shX_bd hok hm
                have hs1 := shX_bd hok2 (p := T.ps[k]) hm
                have hTC : TrAt wr (.slice (some ⟨g, 0, none⟩) T.rs.length cx) (.slice ab T.ps.length cb) (chT T i c) := TrAt.of (by have := RowC.at_ hC; exact this) (hT.p.ext hx)
                have KS0 : Hid (∀ W, Ext wr W → _) := Lib.hid (fun W (h : Ext wr W) => refShare_any _ _ T hok k hlt W (hT.ext (hx.trans h)))
                have KS1 : Hid (∀ W, Ext wr W → _) := Lib.hid (fun W (h : Ext wr W) => refShare_any _ _ (chT T i c) hok2 k hlt W (hTC.ext h))
                have hps : (chT T i c).ps[k] = T.ps[k] := rfl
                rw [hps] at KS1
                obtain ⟨x1, hx1⟩ : ∃ x, shX (chT T i c) T.ps[k] = x := ⟨_, rfl⟩
                obtain ⟨x0, hx0⟩ : ∃ x, shX T T.ps[k] = x := ⟨_, rfl⟩
                rw [hx1] at KS1 hs1
                rw [hx0] at KS0 hs0
                rw [hx1, hx0] at hst
                have hw1 : IntKind.i64.wrap (x1 - x0) = x1 - x0 := IntWalk.i64_in _ (by omega)
                have KR := fun W => refRatio_any (x1 - x0) 5354228880 W (by omega) (by omega) (by decide) (by decide)
                obtain ⟨r, hr⟩ : ∃ r, ratF (x1 - x0) 5354228880 = r := ⟨_, rfl⟩
                have hr2 : ratM (x1 - x0) = r := hr
                rw [hr] at KR
                rw [hr2] at hst
                obtain ⟨L, hL⟩ : ∃ L, (T.ps.take k).map (fun p => ratM (shX (chT T i c) p - shX T p)) = L := ⟨_, rfl⟩
                rw [hL] at hst hLl hR
                have HS := Lib.hid hst
                obtain ⟨oA, oc, rfl⟩ := hR.form
                rw [hLl] at hR ⊢
                have hwr := q1.lt
                clear hL hst hr hr2 hx1 hx0 hs0 hs1 HR hTC hm hps HC
                go_upto_region 15 with fail
                refine wp_region_held_drew (S := fun W' => W'.cell? ⟨w.heap.size, 0, none⟩ = some (.slice aa T.rs.length ca) ∧ W'.cell? ⟨w.heap.size, 1, none⟩ = some (.slice ab T.ps.length cb) ∧ W'.cell? ⟨B, 0, none⟩ = some (.slice (some ⟨g, 0, none⟩) T.rs.length cx) ∧ W'.cell? ⟨B, 1, none⟩ = some (.slice ab T.ps.length cb) ∧ Ext w W') (by kernel_rfl) ?_ (fun hHeld => ?_)
                · exact ⟨d0, d1, b0, b1, hx.drew⟩
                (refine wpAnyH_take (i := 0) (v := ?_) rfl (by kernel_rfl) (by kernel_rfl) (by kernel_rfl) (fun _ _ _ h => h) (Or.inl ⟨by rfl, ?_⟩) (by assumption) ?_; rotate_left 1; (focus (intro w hSw; (try dsimp only at hSw); go_simp; try (with_reducible rfl))))
                try simp only [Act.put, List.getElem_toArray, List.getElem_cons_zero, List.setIfInBounds_toArray, List.set_cons_zero, List.set_cons_succ]
                (refine wpAnyH_take (i := 1) (v := ?_) rfl (by kernel_rfl) (by kernel_rfl) (by kernel_rfl) (fun _ _ _ h => h) (Or.inl ⟨by rfl, ?_⟩) (by assumption) ?_; rotate_left 1; (focus (intro w hSw; (try dsimp only at hSw); go_simp; try (with_reducible rfl))))
                try simp only [Act.put, List.getElem_toArray, List.getElem_cons_zero, List.getElem_cons_succ, List.setIfInBounds_toArray, List.set_cons_zero, List.set_cons_succ]
                (refine wpAnyH_take (i := 2) (v := ?_) rfl (by kernel_rfl) (by kernel_rfl) (by kernel_rfl) (fun _ _ _ h => h) (Or.inl ⟨by rfl, ?_⟩) (by assumption) ?_; rotate_left 1; (focus (intro w hSw; (try dsimp only at hSw); go_simp; try (with_reducible rfl))))
                try simp only [Act.put, List.getElem_toArray, List.getElem_cons_zero, List.getElem_cons_succ, List.setIfInBounds_toArray, List.set_cons_zero, List.set_cons_succ]
                (refine wpAnyH_take (i := 4) (v := ?_) rfl (by kernel_rfl) (by kernel_rfl) (by kernel_rfl) (fun _ _ _ h => h) (Or.inl ⟨by rfl, ?_⟩) (by assumption) ?_; rotate_left 1; (focus (intro w hSw; (try dsimp only at hSw); go_simp; try (with_reducible rfl))))
                try simp only [Act.put, List.getElem_toArray, List.getElem_cons_zero, List.getElem_cons_succ, List.setIfInBounds_toArray, List.set_cons_zero, List.set_cons_succ]
                (refine wpAnyH_take (i := 5) (v := ?_) rfl (by kernel_rfl) (by kernel_rfl) (by kernel_rfl) (fun _ _ _ h => h) (Or.inl ⟨by rfl, ?_⟩) (by assumption) ?_; rotate_left 1; (focus (intro w hSw; (try dsimp only at hSw); go_simp; try (with_reducible rfl))))
                try simp only [Act.put, List.getElem_toArray, List.getElem_cons_zero, List.getElem_cons_succ, List.setIfInBounds_toArray, List.set_cons_zero, List.set_cons_succ]
                refine wpAnyH_ready (rs := [3]) (by kernel_rfl) (by simp) ?_
                refine AllReadyH.cons rfl (fun K hK => ?_) AllReadyH.nil
                obtain ⟨V0, hV0⟩ : ∃ V, wr.drew = V := ⟨_, rfl⟩
                have hzV : Ext wr V0 := by rw [← hV0]; exact Ext.drew (Ext.refl _)
                rw [hV0] at hHeld ⊢
                go_simp
                go_at_call 79; refine (KS1.out _ hzV).mono ?_; rintro e V1 ⟨rfl, hz⟩
                refine hK.out _ _ ?_ (fun hHeld => ?_)
                · exact ⟨Ext.cell hz hHeld.1, Ext.cell hz hHeld.2.1, Ext.cell hz hHeld.2.2.1, Ext.cell hz hHeld.2.2.2.1, hHeld.2.2.2.2.trans hz⟩
                clear hK K
                replace hzV := hzV.trans hz
                clear hz hV0
                try simp only [Act.put, List.getElem_toArray, List.getElem_cons_zero, List.getElem_cons_succ, List.setIfInBounds_toArray, List.set_cons_zero, List.set_cons_succ]
                refine wpAnyH_ready (rs := [6]) (by kernel_rfl) (by simp) ?_
                refine AllReadyH.cons rfl (fun K hK => ?_) AllReadyH.nil
                go_simp
                go_at_call 79; refine (KS0.out _ hzV).mono ?_; rintro e V2 ⟨rfl, hz⟩
                refine hK.out _ _ ?_ (fun hHeld => ?_)
                · exact ⟨Ext.cell hz hHeld.1, Ext.cell hz hHeld.2.1, Ext.cell hz hHeld.2.2.1, Ext.cell hz hHeld.2.2.2.1, hHeld.2.2.2.2.trans hz⟩
                clear hK K
                replace hzV := hzV.trans hz
                clear hz
                try simp only [Act.put, List.getElem_toArray, List.getElem_cons_zero, List.getElem_cons_succ, List.setIfInBounds_toArray, List.set_cons_zero, List.set_cons_succ]
                (refine wpAnyH_take (i := 7) (v := ?_) rfl (by kernel_rfl) (by kernel_rfl) (by kernel_rfl) (fun _ _ _ h => h) (Or.inl ⟨by rfl, ?_⟩) (by assumption) ?_; rotate_left 1; (focus (intro w hSw; (try dsimp only at hSw); go_simp; try (with_reducible rfl))))
                try simp only [Act.put, List.getElem_toArray, List.getElem_cons_zero, List.getElem_cons_succ, List.setIfInBounds_toArray, List.set_cons_zero, List.set_cons_succ]
                refine wpAnyH_ready (rs := [8]) (by kernel_rfl) (by simp) ?_
                refine AllReadyH.cons rfl (fun K hK => ?_) AllReadyH.nil
                go_simp
                go_at_call 78; refine (KR _).mono ?_; rintro e V3 ⟨rfl, hz⟩
                refine hK.out _ _ ?_ (fun hHeld => ?_)
                · exact ⟨Ext.cell hz hHeld.1, Ext.cell hz hHeld.2.1, Ext.cell hz hHeld.2.2.1, Ext.cell hz hHeld.2.2.2.1, hHeld.2.2.2.2.trans hz⟩
                clear hK K
                replace hzV := hzV.trans hz
                clear hz
                try simp only [Act.put, List.getElem_toArray, List.getElem_cons_zero, List.getElem_cons_succ, List.setIfInBounds_toArray, List.set_cons_zero, List.set_cons_succ]
                refine wpAnyH_ready (rs := [9]) (by kernel_rfl) (by simp) ?_
                refine AllReadyH.cons rfl (fun K hK => ?_) AllReadyH.nil
                go_simp
                obtain ⟨NB, hNB⟩ : ∃ N, V3.heap.size = N := ⟨_, rfl⟩
                obtain ⟨V4, hN⟩ : ∃ X, V3.alloc (.cells #[.int .i64 r.n, .int .i64 r.d] 42) = X := ⟨_, rfl⟩
                have hz : Ext V3 V4 := by rw [← hN]; exact (by repeat (first | exact Ext.refl _ | assumption | refine Ext.alloc ?_ _ | refine Ext.drew ?_ | refine Ext.drewN _ ?_ | refine Ext.trans ?_ (by assumption)))
                have hct := cell_two V3 (.int .i64 r.n) (.int .i64 r.d) 42
                rw [hN, hNB] at hct
                rw [hN, hNB]
                refine hK.out _ _ ?_ (fun hHeld => ?_)
                · exact ⟨Ext.cell hz hHeld.1, Ext.cell hz hHeld.2.1, Ext.cell hz hHeld.2.2.1, Ext.cell hz hHeld.2.2.2.1, hHeld.2.2.2.2.trans hz⟩
                clear hK K
                replace hzV := hzV.trans hz
                clear hz hN
                try simp only [Act.put, List.getElem_toArray, List.getElem_cons_zero, List.getElem_cons_succ, List.setIfInBounds_toArray, List.set_cons_zero, List.set_cons_succ]
                refine wpAnyH_ready (rs := [10]) (by kernel_rfl) (by simp) ?_
                refine AllReadyH.cons rfl (fun K hK => ?_) AllReadyH.nil
                have hR4 := rowR_ext hR hzV
                obtain ⟨v1, V5, hrun, hr5, hg5⟩ := run_append_rat V4 28 w3.heap.size _ ⟨NB, 0, none⟩ 1 L r hR4 hct (Nat.le_trans hsz hzV.size) (by omega)
                have hne : ∀ j, j < w3.heap.size → some j ≠ (Value.slice oA k oc).ownBlock := fun j hj e => by have := (hR4.lt _ e.symm).1; omega
                have q05 := (q0.ext hzV).kept hg5 (hne _ (by omega))
                have q15 := (q1.ext hzV).kept hg5 (hne _ (by omega))
                have qB5 := (qB.ext hzV).kept hg5 (hne _ (by omega))
                have hC5 := RowK.kept (RowK.ext hC hzV) hg5 (row_neOwn (RowK.ext hC hzV) hR4 (by decide))
                have hx5 : Ext w V5 := ext_own (hx.trans hzV) hR4 (by omega) hg5
                have hsz5 : w3.heap.size ≤ V5.heap.size := Nat.le_trans (Nat.le_trans hsz hzV.size) hg5.size
                rw [if_pos (by rfl)]
                refine oper_append _ _ 28 rfl _ _ v1 V5 rfl rfl hrun ?_
                refine hK.out _ _ ?_ (fun hHeld => ?_)
                · exact ⟨q05.cell 0, q05.cell 1, qB5.cell 0, qB5.cell 1, hx5⟩
                clear hK K
                clear hrun hg5 hne hct
                try simp only [Act.put, List.getElem_toArray, List.getElem_cons_zero, List.getElem_cons_succ, List.setIfInBounds_toArray, List.set_cons_zero, List.set_cons_succ]
                (refine wpAnyH_take (i := 11) (v := ?_) rfl (by kernel_rfl) (by kernel_rfl) (by kernel_rfl) (fun _ _ _ h => h) (Or.inl ⟨by rfl, ?_⟩) (by assumption) ?_; rotate_left 1; (focus (intro w hSw; (try dsimp only at hSw); go_simp; try (with_reducible rfl))))
                try simp only [Act.put, List.getElem_toArray, List.getElem_cons_zero, List.getElem_cons_succ, List.setIfInBounds_toArray, List.set_cons_zero, List.set_cons_succ]
                refine wpAnyH_done (by kernel_rfl) ?_ _
                go_wp2_with fail
                go_roundw
                case rel => exact ⟨k + 1, by omega, by go_num, Lib.hid (by rw [HS.out]; exact hr5), q05, q15, qB5, Lib.hid hC5, hx5, hsz5⟩
                case measure => simp [intOf]; omega
              · obtain rfl : k = T.ps.length := by omega
                have f0 := q1.frozen 0
                have f1 := q1.frozen 1
                have c0 := q1.cell 0
                have c1 := q1.cell 1
                rw [chgX_eq hok hin hcb, List.take_length, ← HX2.out] at hR
                obtain ⟨av, cv, rfl⟩ := hR.form
                clear HR
                go_wp2_with fail
                have hC := (q1.set 0 (.slice av X.length cv)).set 1 (.int .i64 0)
                exact bodyPost_ret (results_cell_row rfl _ _ (w.heap.size + 1) _ _ _ _ rfl hC Try.underlying58 rfl (by kernel_rfl)) rfl ⟨_, by rw [HE2.out]; rfl, (rowR_cells hR (by omega) _ _).at_, ixr_ext _ hx (by omega) _ _⟩
  · have hb : (C != 0) = true := by simpa using h0
    have hr := HR.out
    rw [if_neg h0] at hr
    have he := HE.out
    rw [if_neg (by rw [hr]; exact h0), hr] at he
    have HE2 := Lib.hid he
    have HX2 := Lib.hid (HERR.out C he h0)
    clear hr he h0
    go_wp2_with fail
    have hC := (q1.set 0 (.slice none 0 0)).set 1 (.int .i64 C)
    exact bodyPost_ret (results_cell_row rfl _ _ (w.heap.size + 1) _ _ _ _ rfl hC Try.underlying58 rfl (by kernel_rfl)) rfl ⟨_, by rw [HE2.out]; rfl, by rw [HX2.out]; exact rasAt_nil _, ixr_ext _ hx (by omega) _ _⟩
end Go.Proofs.Ythopgonbndoidaa

