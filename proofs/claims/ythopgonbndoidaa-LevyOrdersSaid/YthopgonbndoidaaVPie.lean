/- Pieces of the program. -/
import Derived.Test.YthopgonbndoidaaVBtw
import Derived.Test.YthopgonbndoidaaVMst
import Derived.StillTailTactics
import Derived.Deep.DeepCutAuto
import Derived.Deep.RegionHeld3
namespace Go.Proofs.Ythopgonbndoidaa
open Go.RowKit Go.Shelf

theorem store_rowU {P : Program} {o : Oper} {a : Act} {w : World} {K : Act → World → Prop} {Q : Exit → Act → World → Prop} (ty : TypeId) (x y : Operand) (ho : o.op = .store ty x y)
    (g : Nat) (cells : Array Value) (hx : a.eval x = .pointer (some ⟨g, 0, none⟩)) (hy : a.eval y = .agg cells)
    (t : TypeId) (old : Array Value) (hg : Cls g t old w) (hi : (P.info? ty).map (·.size) = some cells.size)
    (hold : old.size = cells.size) (h1 : cells.all (·.oneCell') = true)
    (h : ∀ w', Cls g t cells w' → w.grownBy w' (some g) → K (a.put o.dst undef) w') : Oper.wp P o a w K Q := by
  refine wp_store_row ty x y ho g cells hx hy t old hg hi hold h1 (h _ ?_ ?_)
  · have := hg
    unfold Cls at this ⊢
    simp [World.setRow, Array.getElem?_modify, this]
  · refine ⟨rfl, rfl, rfl, by simp [World.setRow], fun i hi' hne => ?_⟩
    simp only [World.setRow]
    rw [Array.getElem?_modify, if_neg (fun e => hne (by rw [e]))]

theorem oper_append {P : Program} {o : Oper} {a : Act} {w : World} {K : Act → World → Prop} {Q : Exit → Act → World → Prop} (s x : Operand) (t : TypeId)
    (ho : o.op = .call { callee := .builtin .append, args := #[s, x], argTypes := #[t, t] }) (v u v' : Value) (w' : World) (hs : a.eval s = v) (hx : a.eval x = u)
    (hr : (Builtin.append_ #[t, t] o.type #[v, u]).run P w = .ok v' w') (h : K (a.put o.dst v') w') : Oper.wp P o a w K Q := by
  unfold Oper.wp execOp
  simp only [ho, resolve, invoke, builtin, Sem.run_bind, Sem.run_pure, Result.andThen_ok, List.map_toArray, List.map_cons, List.map_nil, hs, hx, hr]
  exact h
theorem run_append_rat (w : World) (ty : TypeId) (base : Nat) (v : Value) (ad : Addr) (c : Nat) (l : List Ra) (r : Ra) (hrow : RowR base v l w) (hc : ∀ j u, [Value.int .i64 r.n, Value.int .i64 r.d][j]? = some u → w.cell? (ad.add j) = some u)
    (hb : base ≤ w.heap.size) (hl : l.length ≤ 2000000) :
    ∃ v' w', (Builtin.append_ #[28, 28] ty #[v, .slice (some ad) 1 c]).run Try.prog w = .ok v' w' ∧ RowR base v' (l ++ [r]) w' ∧ w.grownBy w' v.ownBlock := by
  obtain ⟨i0, hi0, hz0, hz1, hz2⟩ := info_parts infoRa
  obtain ⟨v', w', h1, h2, h3, _⟩ := run_append_own (P := Try.prog) w base 28 ty 42 i0 (.agg #[.int .i64 0, .int .i64 0]) 2 16 undRa hi0 hz0 hz1 hz2 rfl (by decide) v l.length (cellsR l) hrow ad 1 c [.int .i64 r.n, .int .i64 r.d] rfl hc (by simp [Value.oneCell']) (by unfold maxLen; omega) (by omega) hb
  exact ⟨v', w', h1, rowR_add h2, h3⟩
def pieR (T : Tr) (p : Py) (k : Nat) : Ra := if usB T.rs p.reach k = true then ratF (cst T.rs k * p.w) (wtA T.rs T.ps k) else ⟨0, 1⟩
def pieL (T : Tr) (p : Py) (k : Nat) : List Ra := (List.range k).map (pieR T p)
theorem pieL_succ (T : Tr) (p : Py) (k : Nat) : pieL T p (k + 1) = pieL T p k ++ [pieR T p k] := by simp [pieL, List.range_succ]
def pyAt (T : Tr) (i : Int) : Py := T.ps.getD i.toNat ⟨0, 0, 0⟩
def pieX (T : Tr) (id : Int) : List Ra := if sngE T id = 0 then pieL T (pyAt T (fnd T.ps id)) T.rs.length else []
theorem fnd_lt {l : List Py} {id : Int} (h : 0 ≤ fnd l id) : fnd l id < l.length := by
  rcases fndF_lo (id := id) (l := l) (i := 0) with h1 | h1
  · unfold fnd at h; omega
  · unfold fnd; omega

set_option maxRecDepth 100000 in
set_option maxHeartbeats 8000000 in
theorem Pieces_any (a b : Value) (T : Tr) (id : Int) (w : World) (hT : TrAt w a b T) (hn : T.ps.length ≤ 1000) :
    Calls Try.prog 21 #[.agg #[a, b], .int .i64 id] w (RasPost w (pieX T id) (sngE T id)) := by
  have hX : pieX T id = if sngE T id = 0 then pieL T (pyAt T (fnd T.ps id)) T.rs.length else [] := rfl
  have hE : sngE T id = if chkE T = 0 then (if fnd T.ps id < 0 then 5 else 0) else chkE T := rfl
  have hok := @Ok.of T
  obtain ⟨E, hEE⟩ : ∃ E, chkE T = E := ⟨_, rfl⟩
  obtain ⟨F, hFF⟩ : ∃ F, sngE T id = F := ⟨_, rfl⟩
  obtain ⟨X, hXX⟩ : ∃ X, pieX T id = X := ⟨_, rfl⟩
  obtain ⟨I, hII⟩ : ∃ X, fnd T.ps id = X := ⟨_, rfl⟩
  have HE0 := Lib.hid hEE
  have hlt0 := @fnd_lt T.ps id
  rw [hEE] at hok hE
  rw [hFF] at hX hE ⊢
  rw [hXX] at hX ⊢
  rw [hII] at hX hE hlt0
  have HI := Lib.hid hII
  have HX := Lib.hid hX
  have HE := Lib.hid hE
  clear hEE hFF hXX hII hX hE
  go_enter Try.func21, Try.ntmps21
  go_wp2_with fail
  refine (Check_any _ _ T _ (hT.ext (by repeat (first | exact Ext.refl _ | assumption | refine Ext.alloc ?_ _ | refine Ext.drew ?_ | refine Ext.drewN _ ?_ | refine Ext.trans ?_ (by assumption))))).mono ?_
  rw [HE0.out]
  rintro e w1 ⟨rfl, hx1⟩
  obtain ⟨q0, hx, hk0⟩ := alloc1 hx1
  have d0 : w1.cell? ⟨w.heap.size, 0, none⟩ = some a := q0.cell 0
  have d1 : w1.cell? ⟨w.heap.size, 1, none⟩ = some b := q0.cell 1
  clear hx1
  by_cases h0 : E = 0
  · have hb : (E != 0) = false := by simpa using h0
    have hok := hok h0
    have hE2 := HE.out
    rw [if_pos h0] at hE2
    have HE2 := Lib.hid hE2
    clear h0 hE2
    go_wp2_with fail
    refine (find_any b T.ps id _ ((hT.ext hx).p) hn).mono ?_
    rw [HI.out]
    rintro e w2 ⟨rfl, hy⟩
    replace q0 := q0.ext hy
    replace hx := hx.trans hy
    replace d0 := hy.cell d0
    replace d1 := hy.cell d1
    clear hy
    by_cases hi0 : I < 0
    · have hE3 := HE2.out
      rw [if_pos hi0] at hE3
      have hX3 := HX.out
      rw [if_neg (by rw [hE3]; decide)] at hX3
      have HE3 := Lib.hid hE3
      have HX3 := Lib.hid hX3
      clear hE3 hX3
      go_wp2_with fail
      go_ret2
      exact ⟨_, ret2 rfl (by rw [HE3.out]; rfl), by rw [HX3.out]; exact rasAt_nil _, hx⟩
    · have hE3 := HE2.out
      rw [if_neg hi0] at hE3
      have hX3 := HX.out
      rw [if_pos hE3] at hX3
      have HE3 := Lib.hid hE3
      have hlt := hlt0 (by omega)
      obtain ⟨i, rfl⟩ : ∃ i : Nat, I = i := ⟨I.toNat, by omega⟩
      have hil : i < T.ps.length := by omega
      have hpy : pyAt T i = T.ps[i] := by simp [pyAt, List.getD_eq_getElem?_getD, hil]
      rw [hpy] at hX3
      obtain ⟨ar, cr, rfl, hlr⟩ := hT.r.len
      obtain ⟨ap, cp, rfl, hlp⟩ := hT.p.len
      obtain ⟨bp, op, rfl, c0, c1, c2⟩ := ((hT.ext hx).p).get i hil
      have hmem : T.ps[i] ∈ T.ps := List.getElem_mem hil
      have hid : T.ps[i] = ⟨T.ps[i].id, T.ps[i].reach, T.ps[i].w⟩ := rfl
      obtain ⟨x, hxx⟩ : ∃ x, T.ps[i].id = x := ⟨_, rfl⟩
      obtain ⟨y, hyy⟩ : ∃ x, T.ps[i].reach = x := ⟨_, rfl⟩
      obtain ⟨z, hzz⟩ : ∃ x, T.ps[i].w = x := ⟨_, rfl⟩
      rw [hxx] at c0 hid
      rw [hyy] at c1 hid
      rw [hzz] at c2 hid
      rw [hid] at hmem hX3
      have HX3 := Lib.hid hX3
      have KW := fun W (h : Ext w2 W) => weights_any _ _ T hok W (hT.ext (hx.trans h))
      have hf : ∃ f, wtA T.rs T.ps = f := ⟨_, rfl⟩
      obtain ⟨f, hf⟩ := hf
      rw [hf] at KW
      have HF := Lib.hid hf
      have hpv := hok.pv _ hmem
      have hi00 : (i : Int) < (T.ps.length : Int) := by omega
      clear hE3 hX3 hid hxx hyy hzz hf hpy hlt hlt0
      go_upto_region 7 with fail
      go_cut [8, 9] (fun u v W => ∃ B8 B9, u = .pointer (some ⟨B8, 0, none⟩) ∧ v = .pointer (some ⟨B9, 0, none⟩) ∧ Cls w.heap.size 25 #[.slice ar T.rs.length cr, .slice (some ⟨bp, op, none⟩) T.ps.length cp] W ∧ Cls B8 45 #[.int .i64 x, .int .i64 y, .int .i64 z] W ∧ Cls B9 107 (arr f) W ∧ Ext w W)
      case first =>
        have SX : ∀ W', Ext w2 W' → (fun W' => (W'.cell? ⟨w.heap.size, 0, none⟩ = some (.slice ar T.rs.length cr) ∧ W'.cell? ⟨w.heap.size, 1, none⟩ = some (.slice (some ⟨bp, op, none⟩) T.ps.length cp)) ∧ ((W'.cell? ⟨bp, op + i * 3, none⟩ = some (.int .i64 x) ∧ W'.cell? ⟨bp, op + i * 3 + 1, none⟩ = some (.int .i64 y)) ∧ W'.cell? ⟨bp, op + i * 3 + 2, none⟩ = some (.int .i64 z)) ∧ Ext w2 W') W' := fun W' h => ⟨⟨h.cell d0, h.cell d1⟩, ⟨⟨h.cell c0, h.cell c1⟩, h.cell c2⟩, h⟩
        have HSX := Lib.hid SX
        clear SX
        refine wp_region_held_drew (S := fun W' => (W'.cell? ⟨w.heap.size, 0, none⟩ = some (.slice ar T.rs.length cr) ∧ W'.cell? ⟨w.heap.size, 1, none⟩ = some (.slice (some ⟨bp, op, none⟩) T.ps.length cp)) ∧ ((W'.cell? ⟨bp, op + i * 3, none⟩ = some (.int .i64 x) ∧ W'.cell? ⟨bp, op + i * 3 + 1, none⟩ = some (.int .i64 y)) ∧ W'.cell? ⟨bp, op + i * 3 + 2, none⟩ = some (.int .i64 z)) ∧ Ext w2 W') (by kernel_rfl) ?_ (fun hHeld => ?_)
        · exact HSX.out _ (Ext.drew (Ext.refl _))
        (refine wpAnyH_take (i := 0) (v := ?_) rfl (by kernel_rfl) (by kernel_rfl) (by kernel_rfl) (fun _ _ _ h => h) (Or.inl ⟨by rfl, ?_⟩) (by assumption) ?_; rotate_left 1; (focus (intro w hSw; (try dsimp only at hSw); go_simp; try (with_reducible rfl))))
        try simp only [Act.put, List.getElem_toArray, List.getElem_cons_zero, List.setIfInBounds_toArray, List.set_cons_zero, List.set_cons_succ]
        (refine wpAnyH_take (i := 1) (v := ?_) rfl (by kernel_rfl) (by kernel_rfl) (by kernel_rfl) (fun _ _ _ h => h) (Or.inl ⟨by rfl, ?_⟩) (by assumption) ?_; rotate_left 1; (focus (intro w hSw; (try dsimp only at hSw); go_simp; try (with_reducible rfl))))
        try simp only [Act.put, List.getElem_toArray, List.getElem_cons_zero, List.getElem_cons_succ, List.setIfInBounds_toArray, List.set_cons_zero, List.set_cons_succ]
        (refine wpAnyH_take (i := 2) (v := ?_) rfl (by kernel_rfl) (by kernel_rfl) (by kernel_rfl) (fun _ _ _ h => h) (Or.inl ⟨by rfl, ?_⟩) (by assumption) ?_; rotate_left 1; (focus (intro w hSw; (try dsimp only at hSw); go_simp; try (with_reducible rfl))))
        try simp only [Act.put, List.getElem_toArray, List.getElem_cons_zero, List.getElem_cons_succ, List.setIfInBounds_toArray, List.set_cons_zero, List.set_cons_succ]
        (refine wpAnyH_take (i := 3) (v := ?_) rfl (by kernel_rfl) (by kernel_rfl) (by kernel_rfl) (fun _ _ _ h => h) (Or.inl ⟨by rfl, ?_⟩) (by assumption) ?_; rotate_left 1; (focus (intro w hSw; (try dsimp only at hSw); go_simp; try (with_reducible rfl))))
        try simp only [Act.put, List.getElem_toArray, List.getElem_cons_zero, List.getElem_cons_succ, List.setIfInBounds_toArray, List.set_cons_zero, List.set_cons_succ]
        (refine wpAnyH_take (i := 4) (v := ?_) rfl (by kernel_rfl) (by kernel_rfl) (by kernel_rfl) (fun _ _ _ h => h) (Or.inl ⟨by rfl, ?_⟩) (by assumption) ?_; rotate_left 1; (focus (intro w hSw; (try dsimp only at hSw); go_simp; try (with_reducible rfl))))
        try simp only [Act.put, List.getElem_toArray, List.getElem_cons_zero, List.getElem_cons_succ, List.setIfInBounds_toArray, List.set_cons_zero, List.set_cons_succ]
        (refine wpAnyH_take (i := 5) (v := ?_) rfl (by kernel_rfl) (by kernel_rfl) (by kernel_rfl) (fun _ _ _ h => h) (Or.inl ⟨by rfl, ?_⟩) (by assumption) ?_; rotate_left 1; (focus (intro w hSw; (try dsimp only at hSw); go_simp; try (with_reducible rfl))))
        try simp only [Act.put, List.getElem_toArray, List.getElem_cons_zero, List.getElem_cons_succ, List.setIfInBounds_toArray, List.set_cons_zero, List.set_cons_succ]
        obtain ⟨V, hV⟩ : ∃ V, w2.drew = V := ⟨_, rfl⟩
        rw [hV] at hHeld ⊢
        clear hV
        refine wpAnyH_ready (rs := [6, 7, 8]) (by kernel_rfl) (by simp) ?_
        refine AllReadyH.cons rfl (fun K hK => ?_) ?_
        · go_simp
          go_at_call 61; refine (KW _ hHeld.2.2).mono ?_; rintro e V1 ⟨rfl, hz⟩
          refine hK.out _ _ ?_ (fun hHeld => ?_)
          · exact HSX.out _ (hHeld.2.2.trans hz)
          clear hK K hz
          try simp only [Act.put, List.getElem_toArray, List.getElem_cons_zero, List.getElem_cons_succ, List.setIfInBounds_toArray, List.set_cons_zero, List.set_cons_succ]
          refine wpAnyH_ready (rs := [7, 8]) (by kernel_rfl) (by simp) ?_
          refine AllReadyH.cons rfl (fun K hK => ?_) ?_
          · go_simp
            obtain ⟨BP, hBP⟩ : ∃ B, V1.heap.size = B := ⟨_, rfl⟩
            obtain ⟨V2, hN⟩ : ∃ V', V1.alloc (.cells #[.int .i64 0, .int .i64 0, .int .i64 0] 45) = V' := ⟨_, rfl⟩
            have hz : Ext V1 V2 := by rw [← hN]; exact (by repeat (first | exact Ext.refl _ | assumption | refine Ext.alloc ?_ _ | refine Ext.drew ?_ | refine Ext.drewN _ ?_ | refine Ext.trans ?_ (by assumption)))
            have fP : Cls BP 45 #[.int .i64 0, .int .i64 0, .int .i64 0] V2 := by rw [← hN]; exact Cls.newAt _ _ _ hBP.symm
            try rw [hBP]
            try rw [hN]
            have hltP : BP < V2.heap.size := fP.lt
            have hgeP : w2.heap.size ≤ BP := by rw [← hBP]; exact hHeld.2.2.size
            clear hN hBP
            refine hK.out _ _ ?_ (fun hHeld => ?_)
            · exact HSX.out _ (hHeld.2.2.trans hz)
            clear hK K hz
            try simp only [Act.put, List.getElem_toArray, List.getElem_cons_zero, List.getElem_cons_succ, List.setIfInBounds_toArray, List.set_cons_zero, List.set_cons_succ]
            refine wpAnyH_ready (rs := [8]) (by kernel_rfl) (by simp) ?_
            refine AllReadyH.cons rfl (fun K hK => ?_) ?_
            · go_simp
              try rw [← arr_zero]
              obtain ⟨BA, hBA⟩ : ∃ B, V2.heap.size = B := ⟨_, rfl⟩
              obtain ⟨V3, hN⟩ : ∃ V', V2.alloc (.cells (arr (fun _ => 0)) 107) = V' := ⟨_, rfl⟩
              have hz : Ext V2 V3 := by rw [← hN]; exact (by repeat (first | exact Ext.refl _ | assumption | refine Ext.alloc ?_ _ | refine Ext.drew ?_ | refine Ext.drewN _ ?_ | refine Ext.trans ?_ (by assumption)))
              have fA : Cls BA 107 (arr (fun _ => 0)) V3 := by rw [← hN]; exact Cls.newAt _ _ _ hBA.symm
              try rw [hBA]
              try rw [hN]
              have fP := fP.ext hz
              have hltA : BA < V3.heap.size := fA.lt
              have hne : BP ≠ BA := by omega
              have hgeA : w2.heap.size ≤ BA := by rw [← hBA]; exact hHeld.2.2.size
              clear hN hBA
              refine hK.out _ _ ?_ (fun hHeld => ?_)
              · exact HSX.out _ (hHeld.2.2.trans hz)
              clear hK K hz
              try simp only [Act.put, List.getElem_toArray, List.getElem_cons_zero, List.getElem_cons_succ, List.setIfInBounds_toArray, List.set_cons_zero, List.set_cons_succ]
              refine wpAnyH_ready (rs := [9]) (by kernel_rfl) (by simp) ?_
              refine AllReadyH.cons rfl (fun K hK => ?_) AllReadyH.nil
              have g0 := fP.frozen 0
              have g1 := fP.frozen 1
              have g2 := fP.frozen 2
              have p0 : V3.cell? ⟨BP, 0, none⟩ = some (.int .i64 0) := fP.cell 0
              have p1 : V3.cell? ⟨BP, 1, none⟩ = some (.int .i64 0) := fP.cell 1
              have p2 : V3.cell? ⟨BP, 2, none⟩ = some (.int .i64 0) := fP.cell 2
              go_simp
              clear g0 g1 g2 p0 p1 p2
              have z9 : Ext w2 (((V3.setCell ⟨BP, 0, none⟩ (.int .i64 x)).setCell ⟨BP, 1, none⟩ (.int .i64 y)).setCell ⟨BP, 2, none⟩ (.int .i64 z)) := ((hHeld.2.2.setCell (p := ⟨BP, 0, none⟩) hgeP _).setCell (p := ⟨BP, 1, none⟩) hgeP _).setCell (p := ⟨BP, 2, none⟩) hgeP _
              have y9 : Cls BP 45 #[.int .i64 x, .int .i64 y, .int .i64 z] (((V3.setCell ⟨BP, 0, none⟩ (.int .i64 x)).setCell ⟨BP, 1, none⟩ (.int .i64 y)).setCell ⟨BP, 2, none⟩ (.int .i64 z)) := ((fP.set 0 (.int .i64 x)).set 1 (.int .i64 y)).set 2 (.int .i64 z)
              have a9 : Cls BA 107 (arr (fun _ => 0)) (((V3.setCell ⟨BP, 0, none⟩ (.int .i64 x)).setCell ⟨BP, 1, none⟩ (.int .i64 y)).setCell ⟨BP, 2, none⟩ (.int .i64 z)) := ((fA.other (by omega) 0 _).other (by omega) 1 _).other (by omega) 2 _
              obtain ⟨V9, hV9⟩ : ∃ V, (((V3.setCell ⟨BP, 0, none⟩ (.int .i64 x)).setCell ⟨BP, 1, none⟩ (.int .i64 y)).setCell ⟨BP, 2, none⟩ (.int .i64 z)) = V := ⟨_, rfl⟩
              rw [hV9] at z9 y9 a9 ⊢
              clear hV9
              refine hK.out _ _ ?_ (fun hHeld => ?_)
              · exact HSX.out _ z9
              clear hK K
              try simp only [Act.put, List.getElem_toArray, List.getElem_cons_zero, List.getElem_cons_succ, List.setIfInBounds_toArray, List.set_cons_zero, List.set_cons_succ]
              refine wpAnyH_ready (rs := [10]) (by kernel_rfl) (by simp) ?_
              refine AllReadyH.cons rfl (fun K hK => ?_) AllReadyH.nil
              rw [if_pos (by rfl)]
              refine store_rowU _ _ _ rfl BA (arr f) rfl rfl _ _ a9 (by rw [arr_size]; kernel_rfl) (by rw [arr_size, arr_size]) (arr_one _) (fun V10 a10 hg => ?_)
              have z10 := z9.grown hg (by omega)
              refine hK.out _ _ ?_ (fun hHeld => ?_)
              · exact HSX.out _ z10
              clear hK K
              try simp only [Act.put, List.getElem_toArray, List.getElem_cons_zero, List.getElem_cons_succ]
              refine wpAnyH_done (by kernel_rfl) ?_ _
              go_wp2
              go_meet
              case rel => exact ⟨BP, BA, rfl, rfl, q0.ext z10, y9.kept hg (by intro e; injection e with e; omega), a10, hx.trans z10⟩
            exact AllReadyH.nil
          refine AllReadyH.cons rfl (fun K hK => ?_) ?_
          · go_simp
            try rw [← arr_zero]
            obtain ⟨BA, hBA⟩ : ∃ B, V1.heap.size = B := ⟨_, rfl⟩
            obtain ⟨V2, hN⟩ : ∃ V', V1.alloc (.cells (arr (fun _ => 0)) 107) = V' := ⟨_, rfl⟩
            have hz : Ext V1 V2 := by rw [← hN]; exact (by repeat (first | exact Ext.refl _ | assumption | refine Ext.alloc ?_ _ | refine Ext.drew ?_ | refine Ext.drewN _ ?_ | refine Ext.trans ?_ (by assumption)))
            have fA : Cls BA 107 (arr (fun _ => 0)) V2 := by rw [← hN]; exact Cls.newAt _ _ _ hBA.symm
            try rw [hBA]
            try rw [hN]
            have hltA : BA < V2.heap.size := fA.lt
            have hgeA : w2.heap.size ≤ BA := by rw [← hBA]; exact hHeld.2.2.size
            clear hN hBA
            refine hK.out _ _ ?_ (fun hHeld => ?_)
            · exact HSX.out _ (hHeld.2.2.trans hz)
            clear hK K hz
            try simp only [Act.put, List.getElem_toArray, List.getElem_cons_zero, List.getElem_cons_succ, List.setIfInBounds_toArray, List.set_cons_zero, List.set_cons_succ]
            refine wpAnyH_ready (rs := [7]) (by kernel_rfl) (by simp) ?_
            refine AllReadyH.cons rfl (fun K hK => ?_) ?_
            · go_simp
              obtain ⟨BP, hBP⟩ : ∃ B, V2.heap.size = B := ⟨_, rfl⟩
              obtain ⟨V3, hN⟩ : ∃ V', V2.alloc (.cells #[.int .i64 0, .int .i64 0, .int .i64 0] 45) = V' := ⟨_, rfl⟩
              have hz : Ext V2 V3 := by rw [← hN]; exact (by repeat (first | exact Ext.refl _ | assumption | refine Ext.alloc ?_ _ | refine Ext.drew ?_ | refine Ext.drewN _ ?_ | refine Ext.trans ?_ (by assumption)))
              have fP : Cls BP 45 #[.int .i64 0, .int .i64 0, .int .i64 0] V3 := by rw [← hN]; exact Cls.newAt _ _ _ hBP.symm
              try rw [hBP]
              try rw [hN]
              have fA := fA.ext hz
              have hltP : BP < V3.heap.size := fP.lt
              have hne : BA ≠ BP := by omega
              have hgeP : w2.heap.size ≤ BP := by rw [← hBP]; exact hHeld.2.2.size
              clear hN hBP
              refine hK.out _ _ ?_ (fun hHeld => ?_)
              · exact HSX.out _ (hHeld.2.2.trans hz)
              clear hK K hz
              try simp only [Act.put, List.getElem_toArray, List.getElem_cons_zero, List.getElem_cons_succ, List.setIfInBounds_toArray, List.set_cons_zero, List.set_cons_succ]
              refine wpAnyH_ready (rs := [9]) (by kernel_rfl) (by simp) ?_
              refine AllReadyH.cons rfl (fun K hK => ?_) AllReadyH.nil
              have g0 := fP.frozen 0
              have g1 := fP.frozen 1
              have g2 := fP.frozen 2
              have p0 : V3.cell? ⟨BP, 0, none⟩ = some (.int .i64 0) := fP.cell 0
              have p1 : V3.cell? ⟨BP, 1, none⟩ = some (.int .i64 0) := fP.cell 1
              have p2 : V3.cell? ⟨BP, 2, none⟩ = some (.int .i64 0) := fP.cell 2
              go_simp
              clear g0 g1 g2 p0 p1 p2
              have z9 : Ext w2 (((V3.setCell ⟨BP, 0, none⟩ (.int .i64 x)).setCell ⟨BP, 1, none⟩ (.int .i64 y)).setCell ⟨BP, 2, none⟩ (.int .i64 z)) := ((hHeld.2.2.setCell (p := ⟨BP, 0, none⟩) hgeP _).setCell (p := ⟨BP, 1, none⟩) hgeP _).setCell (p := ⟨BP, 2, none⟩) hgeP _
              have y9 : Cls BP 45 #[.int .i64 x, .int .i64 y, .int .i64 z] (((V3.setCell ⟨BP, 0, none⟩ (.int .i64 x)).setCell ⟨BP, 1, none⟩ (.int .i64 y)).setCell ⟨BP, 2, none⟩ (.int .i64 z)) := ((fP.set 0 (.int .i64 x)).set 1 (.int .i64 y)).set 2 (.int .i64 z)
              have a9 : Cls BA 107 (arr (fun _ => 0)) (((V3.setCell ⟨BP, 0, none⟩ (.int .i64 x)).setCell ⟨BP, 1, none⟩ (.int .i64 y)).setCell ⟨BP, 2, none⟩ (.int .i64 z)) := ((fA.other (by omega) 0 _).other (by omega) 1 _).other (by omega) 2 _
              obtain ⟨V9, hV9⟩ : ∃ V, (((V3.setCell ⟨BP, 0, none⟩ (.int .i64 x)).setCell ⟨BP, 1, none⟩ (.int .i64 y)).setCell ⟨BP, 2, none⟩ (.int .i64 z)) = V := ⟨_, rfl⟩
              rw [hV9] at z9 y9 a9 ⊢
              clear hV9
              refine hK.out _ _ ?_ (fun hHeld => ?_)
              · exact HSX.out _ z9
              clear hK K
              try simp only [Act.put, List.getElem_toArray, List.getElem_cons_zero, List.getElem_cons_succ, List.setIfInBounds_toArray, List.set_cons_zero, List.set_cons_succ]
              refine wpAnyH_ready (rs := [10]) (by kernel_rfl) (by simp) ?_
              refine AllReadyH.cons rfl (fun K hK => ?_) AllReadyH.nil
              rw [if_pos (by rfl)]
              refine store_rowU _ _ _ rfl BA (arr f) rfl rfl _ _ a9 (by rw [arr_size]; kernel_rfl) (by rw [arr_size, arr_size]) (arr_one _) (fun V10 a10 hg => ?_)
              have z10 := z9.grown hg (by omega)
              refine hK.out _ _ ?_ (fun hHeld => ?_)
              · exact HSX.out _ z10
              clear hK K
              try simp only [Act.put, List.getElem_toArray, List.getElem_cons_zero, List.getElem_cons_succ]
              refine wpAnyH_done (by kernel_rfl) ?_ _
              go_wp2
              go_meet
              case rel => exact ⟨BP, BA, rfl, rfl, q0.ext z10, y9.kept hg (by intro e; injection e with e; omega), a10, hx.trans z10⟩
            exact AllReadyH.nil
          exact AllReadyH.nil
        refine AllReadyH.cons rfl (fun K hK => ?_) ?_
        · go_simp
          obtain ⟨BP, hBP⟩ : ∃ B, V.heap.size = B := ⟨_, rfl⟩
          obtain ⟨V1, hN⟩ : ∃ V', V.alloc (.cells #[.int .i64 0, .int .i64 0, .int .i64 0] 45) = V' := ⟨_, rfl⟩
          have hz : Ext V V1 := by rw [← hN]; exact (by repeat (first | exact Ext.refl _ | assumption | refine Ext.alloc ?_ _ | refine Ext.drew ?_ | refine Ext.drewN _ ?_ | refine Ext.trans ?_ (by assumption)))
          have fP : Cls BP 45 #[.int .i64 0, .int .i64 0, .int .i64 0] V1 := by rw [← hN]; exact Cls.newAt _ _ _ hBP.symm
          try rw [hBP]
          try rw [hN]
          have hltP : BP < V1.heap.size := fP.lt
          have hgeP : w2.heap.size ≤ BP := by rw [← hBP]; exact hHeld.2.2.size
          clear hN hBP
          refine hK.out _ _ ?_ (fun hHeld => ?_)
          · exact HSX.out _ (hHeld.2.2.trans hz)
          clear hK K hz
          try simp only [Act.put, List.getElem_toArray, List.getElem_cons_zero, List.getElem_cons_succ, List.setIfInBounds_toArray, List.set_cons_zero, List.set_cons_succ]
          refine wpAnyH_ready (rs := [6, 8]) (by kernel_rfl) (by simp) ?_
          refine AllReadyH.cons rfl (fun K hK => ?_) ?_
          · go_simp
            go_at_call 61; refine (KW _ hHeld.2.2).mono ?_; rintro e V2 ⟨rfl, hz⟩
            refine hK.out _ _ ?_ (fun hHeld => ?_)
            · exact HSX.out _ (hHeld.2.2.trans hz)
            have fP := fP.ext hz
            have hltP := fP.lt
            clear hK K hz
            try simp only [Act.put, List.getElem_toArray, List.getElem_cons_zero, List.getElem_cons_succ, List.setIfInBounds_toArray, List.set_cons_zero, List.set_cons_succ]
            refine wpAnyH_ready (rs := [8]) (by kernel_rfl) (by simp) ?_
            refine AllReadyH.cons rfl (fun K hK => ?_) ?_
            · go_simp
              try rw [← arr_zero]
              obtain ⟨BA, hBA⟩ : ∃ B, V2.heap.size = B := ⟨_, rfl⟩
              obtain ⟨V3, hN⟩ : ∃ V', V2.alloc (.cells (arr (fun _ => 0)) 107) = V' := ⟨_, rfl⟩
              have hz : Ext V2 V3 := by rw [← hN]; exact (by repeat (first | exact Ext.refl _ | assumption | refine Ext.alloc ?_ _ | refine Ext.drew ?_ | refine Ext.drewN _ ?_ | refine Ext.trans ?_ (by assumption)))
              have fA : Cls BA 107 (arr (fun _ => 0)) V3 := by rw [← hN]; exact Cls.newAt _ _ _ hBA.symm
              try rw [hBA]
              try rw [hN]
              have fP := fP.ext hz
              have hltA : BA < V3.heap.size := fA.lt
              have hne : BP ≠ BA := by omega
              have hgeA : w2.heap.size ≤ BA := by rw [← hBA]; exact hHeld.2.2.size
              clear hN hBA
              refine hK.out _ _ ?_ (fun hHeld => ?_)
              · exact HSX.out _ (hHeld.2.2.trans hz)
              clear hK K hz
              try simp only [Act.put, List.getElem_toArray, List.getElem_cons_zero, List.getElem_cons_succ, List.setIfInBounds_toArray, List.set_cons_zero, List.set_cons_succ]
              refine wpAnyH_ready (rs := [9]) (by kernel_rfl) (by simp) ?_
              refine AllReadyH.cons rfl (fun K hK => ?_) AllReadyH.nil
              have g0 := fP.frozen 0
              have g1 := fP.frozen 1
              have g2 := fP.frozen 2
              have p0 : V3.cell? ⟨BP, 0, none⟩ = some (.int .i64 0) := fP.cell 0
              have p1 : V3.cell? ⟨BP, 1, none⟩ = some (.int .i64 0) := fP.cell 1
              have p2 : V3.cell? ⟨BP, 2, none⟩ = some (.int .i64 0) := fP.cell 2
              go_simp
              clear g0 g1 g2 p0 p1 p2
              have z9 : Ext w2 (((V3.setCell ⟨BP, 0, none⟩ (.int .i64 x)).setCell ⟨BP, 1, none⟩ (.int .i64 y)).setCell ⟨BP, 2, none⟩ (.int .i64 z)) := ((hHeld.2.2.setCell (p := ⟨BP, 0, none⟩) hgeP _).setCell (p := ⟨BP, 1, none⟩) hgeP _).setCell (p := ⟨BP, 2, none⟩) hgeP _
              have y9 : Cls BP 45 #[.int .i64 x, .int .i64 y, .int .i64 z] (((V3.setCell ⟨BP, 0, none⟩ (.int .i64 x)).setCell ⟨BP, 1, none⟩ (.int .i64 y)).setCell ⟨BP, 2, none⟩ (.int .i64 z)) := ((fP.set 0 (.int .i64 x)).set 1 (.int .i64 y)).set 2 (.int .i64 z)
              have a9 : Cls BA 107 (arr (fun _ => 0)) (((V3.setCell ⟨BP, 0, none⟩ (.int .i64 x)).setCell ⟨BP, 1, none⟩ (.int .i64 y)).setCell ⟨BP, 2, none⟩ (.int .i64 z)) := ((fA.other (by omega) 0 _).other (by omega) 1 _).other (by omega) 2 _
              obtain ⟨V9, hV9⟩ : ∃ V, (((V3.setCell ⟨BP, 0, none⟩ (.int .i64 x)).setCell ⟨BP, 1, none⟩ (.int .i64 y)).setCell ⟨BP, 2, none⟩ (.int .i64 z)) = V := ⟨_, rfl⟩
              rw [hV9] at z9 y9 a9 ⊢
              clear hV9
              refine hK.out _ _ ?_ (fun hHeld => ?_)
              · exact HSX.out _ z9
              clear hK K
              try simp only [Act.put, List.getElem_toArray, List.getElem_cons_zero, List.getElem_cons_succ, List.setIfInBounds_toArray, List.set_cons_zero, List.set_cons_succ]
              refine wpAnyH_ready (rs := [10]) (by kernel_rfl) (by simp) ?_
              refine AllReadyH.cons rfl (fun K hK => ?_) AllReadyH.nil
              rw [if_pos (by rfl)]
              refine store_rowU _ _ _ rfl BA (arr f) rfl rfl _ _ a9 (by rw [arr_size]; kernel_rfl) (by rw [arr_size, arr_size]) (arr_one _) (fun V10 a10 hg => ?_)
              have z10 := z9.grown hg (by omega)
              refine hK.out _ _ ?_ (fun hHeld => ?_)
              · exact HSX.out _ z10
              clear hK K
              try simp only [Act.put, List.getElem_toArray, List.getElem_cons_zero, List.getElem_cons_succ]
              refine wpAnyH_done (by kernel_rfl) ?_ _
              go_wp2
              go_meet
              case rel => exact ⟨BP, BA, rfl, rfl, q0.ext z10, y9.kept hg (by intro e; injection e with e; omega), a10, hx.trans z10⟩
            exact AllReadyH.nil
          refine AllReadyH.cons rfl (fun K hK => ?_) ?_
          · go_simp
            try rw [← arr_zero]
            obtain ⟨BA, hBA⟩ : ∃ B, V1.heap.size = B := ⟨_, rfl⟩
            obtain ⟨V2, hN⟩ : ∃ V', V1.alloc (.cells (arr (fun _ => 0)) 107) = V' := ⟨_, rfl⟩
            have hz : Ext V1 V2 := by rw [← hN]; exact (by repeat (first | exact Ext.refl _ | assumption | refine Ext.alloc ?_ _ | refine Ext.drew ?_ | refine Ext.drewN _ ?_ | refine Ext.trans ?_ (by assumption)))
            have fA : Cls BA 107 (arr (fun _ => 0)) V2 := by rw [← hN]; exact Cls.newAt _ _ _ hBA.symm
            try rw [hBA]
            try rw [hN]
            have fP := fP.ext hz
            have hltA : BA < V2.heap.size := fA.lt
            have hne : BP ≠ BA := by omega
            have hgeA : w2.heap.size ≤ BA := by rw [← hBA]; exact hHeld.2.2.size
            clear hN hBA
            refine hK.out _ _ ?_ (fun hHeld => ?_)
            · exact HSX.out _ (hHeld.2.2.trans hz)
            clear hK K hz
            try simp only [Act.put, List.getElem_toArray, List.getElem_cons_zero, List.getElem_cons_succ, List.setIfInBounds_toArray, List.set_cons_zero, List.set_cons_succ]
            refine wpAnyH_ready (rs := [6]) (by kernel_rfl) (by simp) ?_
            refine AllReadyH.cons rfl (fun K hK => ?_) ?_
            · go_simp
              go_at_call 61; refine (KW _ hHeld.2.2).mono ?_; rintro e V3 ⟨rfl, hz⟩
              refine hK.out _ _ ?_ (fun hHeld => ?_)
              · exact HSX.out _ (hHeld.2.2.trans hz)
              have fP := fP.ext hz
              have hltP := fP.lt
              have fA := fA.ext hz
              have hltA := fA.lt
              clear hK K hz
              try simp only [Act.put, List.getElem_toArray, List.getElem_cons_zero, List.getElem_cons_succ, List.setIfInBounds_toArray, List.set_cons_zero, List.set_cons_succ]
              refine wpAnyH_ready (rs := [9]) (by kernel_rfl) (by simp) ?_
              refine AllReadyH.cons rfl (fun K hK => ?_) AllReadyH.nil
              have g0 := fP.frozen 0
              have g1 := fP.frozen 1
              have g2 := fP.frozen 2
              have p0 : V3.cell? ⟨BP, 0, none⟩ = some (.int .i64 0) := fP.cell 0
              have p1 : V3.cell? ⟨BP, 1, none⟩ = some (.int .i64 0) := fP.cell 1
              have p2 : V3.cell? ⟨BP, 2, none⟩ = some (.int .i64 0) := fP.cell 2
              go_simp
              clear g0 g1 g2 p0 p1 p2
              have z9 : Ext w2 (((V3.setCell ⟨BP, 0, none⟩ (.int .i64 x)).setCell ⟨BP, 1, none⟩ (.int .i64 y)).setCell ⟨BP, 2, none⟩ (.int .i64 z)) := ((hHeld.2.2.setCell (p := ⟨BP, 0, none⟩) hgeP _).setCell (p := ⟨BP, 1, none⟩) hgeP _).setCell (p := ⟨BP, 2, none⟩) hgeP _
              have y9 : Cls BP 45 #[.int .i64 x, .int .i64 y, .int .i64 z] (((V3.setCell ⟨BP, 0, none⟩ (.int .i64 x)).setCell ⟨BP, 1, none⟩ (.int .i64 y)).setCell ⟨BP, 2, none⟩ (.int .i64 z)) := ((fP.set 0 (.int .i64 x)).set 1 (.int .i64 y)).set 2 (.int .i64 z)
              have a9 : Cls BA 107 (arr (fun _ => 0)) (((V3.setCell ⟨BP, 0, none⟩ (.int .i64 x)).setCell ⟨BP, 1, none⟩ (.int .i64 y)).setCell ⟨BP, 2, none⟩ (.int .i64 z)) := ((fA.other (by omega) 0 _).other (by omega) 1 _).other (by omega) 2 _
              obtain ⟨V9, hV9⟩ : ∃ V, (((V3.setCell ⟨BP, 0, none⟩ (.int .i64 x)).setCell ⟨BP, 1, none⟩ (.int .i64 y)).setCell ⟨BP, 2, none⟩ (.int .i64 z)) = V := ⟨_, rfl⟩
              rw [hV9] at z9 y9 a9 ⊢
              clear hV9
              refine hK.out _ _ ?_ (fun hHeld => ?_)
              · exact HSX.out _ z9
              clear hK K
              try simp only [Act.put, List.getElem_toArray, List.getElem_cons_zero, List.getElem_cons_succ, List.setIfInBounds_toArray, List.set_cons_zero, List.set_cons_succ]
              refine wpAnyH_ready (rs := [10]) (by kernel_rfl) (by simp) ?_
              refine AllReadyH.cons rfl (fun K hK => ?_) AllReadyH.nil
              rw [if_pos (by rfl)]
              refine store_rowU _ _ _ rfl BA (arr f) rfl rfl _ _ a9 (by rw [arr_size]; kernel_rfl) (by rw [arr_size, arr_size]) (arr_one _) (fun V10 a10 hg => ?_)
              have z10 := z9.grown hg (by omega)
              refine hK.out _ _ ?_ (fun hHeld => ?_)
              · exact HSX.out _ z10
              clear hK K
              try simp only [Act.put, List.getElem_toArray, List.getElem_cons_zero, List.getElem_cons_succ]
              refine wpAnyH_done (by kernel_rfl) ?_ _
              go_wp2
              go_meet
              case rel => exact ⟨BP, BA, rfl, rfl, q0.ext z10, y9.kept hg (by intro e; injection e with e; omega), a10, hx.trans z10⟩
            exact AllReadyH.nil
          exact AllReadyH.nil
        refine AllReadyH.cons rfl (fun K hK => ?_) ?_
        · go_simp
          try rw [← arr_zero]
          obtain ⟨BA, hBA⟩ : ∃ B, V.heap.size = B := ⟨_, rfl⟩
          obtain ⟨V1, hN⟩ : ∃ V', V.alloc (.cells (arr (fun _ => 0)) 107) = V' := ⟨_, rfl⟩
          have hz : Ext V V1 := by rw [← hN]; exact (by repeat (first | exact Ext.refl _ | assumption | refine Ext.alloc ?_ _ | refine Ext.drew ?_ | refine Ext.drewN _ ?_ | refine Ext.trans ?_ (by assumption)))
          have fA : Cls BA 107 (arr (fun _ => 0)) V1 := by rw [← hN]; exact Cls.newAt _ _ _ hBA.symm
          try rw [hBA]
          try rw [hN]
          have hltA : BA < V1.heap.size := fA.lt
          have hgeA : w2.heap.size ≤ BA := by rw [← hBA]; exact hHeld.2.2.size
          clear hN hBA
          refine hK.out _ _ ?_ (fun hHeld => ?_)
          · exact HSX.out _ (hHeld.2.2.trans hz)
          clear hK K hz
          try simp only [Act.put, List.getElem_toArray, List.getElem_cons_zero, List.getElem_cons_succ, List.setIfInBounds_toArray, List.set_cons_zero, List.set_cons_succ]
          refine wpAnyH_ready (rs := [6, 7]) (by kernel_rfl) (by simp) ?_
          refine AllReadyH.cons rfl (fun K hK => ?_) ?_
          · go_simp
            go_at_call 61; refine (KW _ hHeld.2.2).mono ?_; rintro e V2 ⟨rfl, hz⟩
            refine hK.out _ _ ?_ (fun hHeld => ?_)
            · exact HSX.out _ (hHeld.2.2.trans hz)
            have fA := fA.ext hz
            have hltA := fA.lt
            clear hK K hz
            try simp only [Act.put, List.getElem_toArray, List.getElem_cons_zero, List.getElem_cons_succ, List.setIfInBounds_toArray, List.set_cons_zero, List.set_cons_succ]
            refine wpAnyH_ready (rs := [7]) (by kernel_rfl) (by simp) ?_
            refine AllReadyH.cons rfl (fun K hK => ?_) ?_
            · go_simp
              obtain ⟨BP, hBP⟩ : ∃ B, V2.heap.size = B := ⟨_, rfl⟩
              obtain ⟨V3, hN⟩ : ∃ V', V2.alloc (.cells #[.int .i64 0, .int .i64 0, .int .i64 0] 45) = V' := ⟨_, rfl⟩
              have hz : Ext V2 V3 := by rw [← hN]; exact (by repeat (first | exact Ext.refl _ | assumption | refine Ext.alloc ?_ _ | refine Ext.drew ?_ | refine Ext.drewN _ ?_ | refine Ext.trans ?_ (by assumption)))
              have fP : Cls BP 45 #[.int .i64 0, .int .i64 0, .int .i64 0] V3 := by rw [← hN]; exact Cls.newAt _ _ _ hBP.symm
              try rw [hBP]
              try rw [hN]
              have fA := fA.ext hz
              have hltP : BP < V3.heap.size := fP.lt
              have hne : BA ≠ BP := by omega
              have hgeP : w2.heap.size ≤ BP := by rw [← hBP]; exact hHeld.2.2.size
              clear hN hBP
              refine hK.out _ _ ?_ (fun hHeld => ?_)
              · exact HSX.out _ (hHeld.2.2.trans hz)
              clear hK K hz
              try simp only [Act.put, List.getElem_toArray, List.getElem_cons_zero, List.getElem_cons_succ, List.setIfInBounds_toArray, List.set_cons_zero, List.set_cons_succ]
              refine wpAnyH_ready (rs := [9]) (by kernel_rfl) (by simp) ?_
              refine AllReadyH.cons rfl (fun K hK => ?_) AllReadyH.nil
              have g0 := fP.frozen 0
              have g1 := fP.frozen 1
              have g2 := fP.frozen 2
              have p0 : V3.cell? ⟨BP, 0, none⟩ = some (.int .i64 0) := fP.cell 0
              have p1 : V3.cell? ⟨BP, 1, none⟩ = some (.int .i64 0) := fP.cell 1
              have p2 : V3.cell? ⟨BP, 2, none⟩ = some (.int .i64 0) := fP.cell 2
              go_simp
              clear g0 g1 g2 p0 p1 p2
              have z9 : Ext w2 (((V3.setCell ⟨BP, 0, none⟩ (.int .i64 x)).setCell ⟨BP, 1, none⟩ (.int .i64 y)).setCell ⟨BP, 2, none⟩ (.int .i64 z)) := ((hHeld.2.2.setCell (p := ⟨BP, 0, none⟩) hgeP _).setCell (p := ⟨BP, 1, none⟩) hgeP _).setCell (p := ⟨BP, 2, none⟩) hgeP _
              have y9 : Cls BP 45 #[.int .i64 x, .int .i64 y, .int .i64 z] (((V3.setCell ⟨BP, 0, none⟩ (.int .i64 x)).setCell ⟨BP, 1, none⟩ (.int .i64 y)).setCell ⟨BP, 2, none⟩ (.int .i64 z)) := ((fP.set 0 (.int .i64 x)).set 1 (.int .i64 y)).set 2 (.int .i64 z)
              have a9 : Cls BA 107 (arr (fun _ => 0)) (((V3.setCell ⟨BP, 0, none⟩ (.int .i64 x)).setCell ⟨BP, 1, none⟩ (.int .i64 y)).setCell ⟨BP, 2, none⟩ (.int .i64 z)) := ((fA.other (by omega) 0 _).other (by omega) 1 _).other (by omega) 2 _
              obtain ⟨V9, hV9⟩ : ∃ V, (((V3.setCell ⟨BP, 0, none⟩ (.int .i64 x)).setCell ⟨BP, 1, none⟩ (.int .i64 y)).setCell ⟨BP, 2, none⟩ (.int .i64 z)) = V := ⟨_, rfl⟩
              rw [hV9] at z9 y9 a9 ⊢
              clear hV9
              refine hK.out _ _ ?_ (fun hHeld => ?_)
              · exact HSX.out _ z9
              clear hK K
              try simp only [Act.put, List.getElem_toArray, List.getElem_cons_zero, List.getElem_cons_succ, List.setIfInBounds_toArray, List.set_cons_zero, List.set_cons_succ]
              refine wpAnyH_ready (rs := [10]) (by kernel_rfl) (by simp) ?_
              refine AllReadyH.cons rfl (fun K hK => ?_) AllReadyH.nil
              rw [if_pos (by rfl)]
              refine store_rowU _ _ _ rfl BA (arr f) rfl rfl _ _ a9 (by rw [arr_size]; kernel_rfl) (by rw [arr_size, arr_size]) (arr_one _) (fun V10 a10 hg => ?_)
              have z10 := z9.grown hg (by omega)
              refine hK.out _ _ ?_ (fun hHeld => ?_)
              · exact HSX.out _ z10
              clear hK K
              try simp only [Act.put, List.getElem_toArray, List.getElem_cons_zero, List.getElem_cons_succ]
              refine wpAnyH_done (by kernel_rfl) ?_ _
              go_wp2
              go_meet
              case rel => exact ⟨BP, BA, rfl, rfl, q0.ext z10, y9.kept hg (by intro e; injection e with e; omega), a10, hx.trans z10⟩
            exact AllReadyH.nil
          refine AllReadyH.cons rfl (fun K hK => ?_) ?_
          · go_simp
            obtain ⟨BP, hBP⟩ : ∃ B, V1.heap.size = B := ⟨_, rfl⟩
            obtain ⟨V2, hN⟩ : ∃ V', V1.alloc (.cells #[.int .i64 0, .int .i64 0, .int .i64 0] 45) = V' := ⟨_, rfl⟩
            have hz : Ext V1 V2 := by rw [← hN]; exact (by repeat (first | exact Ext.refl _ | assumption | refine Ext.alloc ?_ _ | refine Ext.drew ?_ | refine Ext.drewN _ ?_ | refine Ext.trans ?_ (by assumption)))
            have fP : Cls BP 45 #[.int .i64 0, .int .i64 0, .int .i64 0] V2 := by rw [← hN]; exact Cls.newAt _ _ _ hBP.symm
            try rw [hBP]
            try rw [hN]
            have fA := fA.ext hz
            have hltP : BP < V2.heap.size := fP.lt
            have hne : BA ≠ BP := by omega
            have hgeP : w2.heap.size ≤ BP := by rw [← hBP]; exact hHeld.2.2.size
            clear hN hBP
            refine hK.out _ _ ?_ (fun hHeld => ?_)
            · exact HSX.out _ (hHeld.2.2.trans hz)
            clear hK K hz
            try simp only [Act.put, List.getElem_toArray, List.getElem_cons_zero, List.getElem_cons_succ, List.setIfInBounds_toArray, List.set_cons_zero, List.set_cons_succ]
            refine wpAnyH_ready (rs := [6]) (by kernel_rfl) (by simp) ?_
            refine AllReadyH.cons rfl (fun K hK => ?_) ?_
            · go_simp
              go_at_call 61; refine (KW _ hHeld.2.2).mono ?_; rintro e V3 ⟨rfl, hz⟩
              refine hK.out _ _ ?_ (fun hHeld => ?_)
              · exact HSX.out _ (hHeld.2.2.trans hz)
              have fA := fA.ext hz
              have hltA := fA.lt
              have fP := fP.ext hz
              have hltP := fP.lt
              clear hK K hz
              try simp only [Act.put, List.getElem_toArray, List.getElem_cons_zero, List.getElem_cons_succ, List.setIfInBounds_toArray, List.set_cons_zero, List.set_cons_succ]
              refine wpAnyH_ready (rs := [9]) (by kernel_rfl) (by simp) ?_
              refine AllReadyH.cons rfl (fun K hK => ?_) AllReadyH.nil
              have g0 := fP.frozen 0
              have g1 := fP.frozen 1
              have g2 := fP.frozen 2
              have p0 : V3.cell? ⟨BP, 0, none⟩ = some (.int .i64 0) := fP.cell 0
              have p1 : V3.cell? ⟨BP, 1, none⟩ = some (.int .i64 0) := fP.cell 1
              have p2 : V3.cell? ⟨BP, 2, none⟩ = some (.int .i64 0) := fP.cell 2
              go_simp
              clear g0 g1 g2 p0 p1 p2
              have z9 : Ext w2 (((V3.setCell ⟨BP, 0, none⟩ (.int .i64 x)).setCell ⟨BP, 1, none⟩ (.int .i64 y)).setCell ⟨BP, 2, none⟩ (.int .i64 z)) := ((hHeld.2.2.setCell (p := ⟨BP, 0, none⟩) hgeP _).setCell (p := ⟨BP, 1, none⟩) hgeP _).setCell (p := ⟨BP, 2, none⟩) hgeP _
              have y9 : Cls BP 45 #[.int .i64 x, .int .i64 y, .int .i64 z] (((V3.setCell ⟨BP, 0, none⟩ (.int .i64 x)).setCell ⟨BP, 1, none⟩ (.int .i64 y)).setCell ⟨BP, 2, none⟩ (.int .i64 z)) := ((fP.set 0 (.int .i64 x)).set 1 (.int .i64 y)).set 2 (.int .i64 z)
              have a9 : Cls BA 107 (arr (fun _ => 0)) (((V3.setCell ⟨BP, 0, none⟩ (.int .i64 x)).setCell ⟨BP, 1, none⟩ (.int .i64 y)).setCell ⟨BP, 2, none⟩ (.int .i64 z)) := ((fA.other (by omega) 0 _).other (by omega) 1 _).other (by omega) 2 _
              obtain ⟨V9, hV9⟩ : ∃ V, (((V3.setCell ⟨BP, 0, none⟩ (.int .i64 x)).setCell ⟨BP, 1, none⟩ (.int .i64 y)).setCell ⟨BP, 2, none⟩ (.int .i64 z)) = V := ⟨_, rfl⟩
              rw [hV9] at z9 y9 a9 ⊢
              clear hV9
              refine hK.out _ _ ?_ (fun hHeld => ?_)
              · exact HSX.out _ z9
              clear hK K
              try simp only [Act.put, List.getElem_toArray, List.getElem_cons_zero, List.getElem_cons_succ, List.setIfInBounds_toArray, List.set_cons_zero, List.set_cons_succ]
              refine wpAnyH_ready (rs := [10]) (by kernel_rfl) (by simp) ?_
              refine AllReadyH.cons rfl (fun K hK => ?_) AllReadyH.nil
              rw [if_pos (by rfl)]
              refine store_rowU _ _ _ rfl BA (arr f) rfl rfl _ _ a9 (by rw [arr_size]; kernel_rfl) (by rw [arr_size, arr_size]) (arr_one _) (fun V10 a10 hg => ?_)
              have z10 := z9.grown hg (by omega)
              refine hK.out _ _ ?_ (fun hHeld => ?_)
              · exact HSX.out _ z10
              clear hK K
              try simp only [Act.put, List.getElem_toArray, List.getElem_cons_zero, List.getElem_cons_succ]
              refine wpAnyH_done (by kernel_rfl) ?_ _
              go_wp2
              go_meet
              case rel => exact ⟨BP, BA, rfl, rfl, q0.ext z10, y9.kept hg (by intro e; injection e with e; omega), a10, hx.trans z10⟩
            exact AllReadyH.nil
          exact AllReadyH.nil
        exact AllReadyH.nil
      case rest =>
        obtain ⟨B8, B9, rfl, rfl, t0, p0, a0, hx3⟩ := hcut
        have s0 := t0.lt
        have s8 := p0.lt
        have s9 := a0.lt
        obtain ⟨i0, hi0, hz0, hz1, hz2⟩ := info_parts infoRa
        have d0 : wc.cell? ⟨w.heap.size, 0, none⟩ = some (.slice ar T.rs.length cr) := t0.cell 0
        have H00 := Lib.hid t0
        have H01 := Lib.hid p0
        have H02 := Lib.hid a0
        have H03 := Lib.hid hx3
        have hlr := hok.lr
        clear t0 p0 a0 hx3 KW c0 c1 c2 hx q0 d1
        go_wp2_with fail
        clear d0
        go_loopw [10, 34] (fun o k wr => ∃ j : Nat, j ≤ T.rs.length ∧ k = .int .i64 j ∧ Hid (RowR wc.heap.size o (pieL T ⟨x, y, z⟩ j) wr) ∧ Cls w.heap.size 25 #[.slice ar T.rs.length cr, .slice (some ⟨bp, op, none⟩) T.ps.length cp] wr ∧ Cls B8 45 #[.int .i64 x, .int .i64 y, .int .i64 z] wr ∧ Cls B9 107 (arr f) wr ∧ Ext w wr ∧ wc.heap.size ≤ wr.heap.size) (fun _ k _ => T.rs.length - (intOf k).toNat)
        case atStart => exact ⟨0, Nat.zero_le _, rfl, Lib.hid (rowR_nil _ _), H00.out, H01.out, H02.out, H03.out, Nat.le_refl _⟩
        case round =>
          clear H00 H01 H02 H03
          obtain ⟨j, hj, rfl, HR, t0, p0, a0, hx, hsz⟩ := hrel
          by_cases hlt : j < T.rs.length
          · obtain ⟨br, o9, rfl, k0, k1⟩ := ((hT.ext hx).r).get j hlt
            have hpl := pieL_succ T ⟨x, y, z⟩ j
            have hll : (pieL T ⟨x, y, z⟩ j).length = j := by simp [pieL]
            obtain ⟨l, hl⟩ : ∃ l, pieL T ⟨x, y, z⟩ j = l := ⟨_, rfl⟩
            rw [hl] at hpl HR hll
            have hpr : pieR T ⟨x, y, z⟩ j = if usB T.rs y j = true then ratF (cst T.rs j * z) (f j) else ⟨0, 1⟩ := by rw [← HF.out]; rfl
            obtain ⟨u, hu⟩ : ∃ u, usB T.rs y j = u := ⟨_, rfl⟩
            have hpf := fun h : u = true => pay_facts hok hmem (usB_t.1 (hu.trans h))
            simp only [Int.toNat_natCast] at hpf
            rw [HF.out] at hpf
            have hab := (hok.rv.v j hlt)
            rw [← abv_get hlt, ← cst_get hlt] at hab
            rw [← abv_get hlt] at k0
            rw [← cst_get hlt] at k1
            obtain ⟨av, hav⟩ : ∃ a, abv T.rs j = a := ⟨_, rfl⟩
            obtain ⟨c, hc⟩ : ∃ a, cst T.rs j = a := ⟨_, rfl⟩
            obtain ⟨fj, hfj⟩ : ∃ a, f j = a := ⟨_, rfl⟩
            rw [hav] at k0 hab
            rw [hc] at k1 hab hpf hpr
            rw [hu] at hpr
            have g9 : wr.cell? ⟨B9, j, none⟩ = some (.int .i64 fj) := by rw [← hfj]; exact arr_cell a0 (by omega)
            rw [hfj] at hpf hpr
            have hpv := hok.pv _ hmem
            have KU := fun W (h : Ext w W) => uses_any _ _ T hok.rv x y z (j : Int) W (hT.ext h) (by have := hpv.2.1.1; omega) hpv.2.1.2
            rw [hu] at KU
            obtain ⟨R, hR⟩ : ∃ R, pieR T ⟨x, y, z⟩ j = R := ⟨_, rfl⟩
            rw [hR] at hpr hpl
            have hrow := HR.out
            unfold RowR at hrow
            rw [hll] at hrow
            obtain ⟨A, sc, hform⟩ := HR.out.form
            rw [hll] at hform
            subst hform
            have HPL := Lib.hid hpl
            have HLL := Lib.hid hll
            have hz24 : z ≤ 24 ∨ u = false := by
              cases u with
              | false => exact .inr rfl
              | true => have := hpf rfl; exact .inl (by omega)
            have KP := fun (h : u = true) W => piece_any x y z c fj W (by omega) (by omega) (by have := hpf h; omega) (by have := hpf h; omega) (by have := hpf h; omega) (by have := hpf h; omega)
            have hj24 : (j : Int) < 24 := by omega
            have hrowlt := World.ownsRow.lt hrow
            obtain ⟨N, hN⟩ : ∃ N, wr.heap.size = N := ⟨_, rfl⟩
            obtain ⟨Y, hY⟩ : ∃ Y, wr.alloc (.cells #[.int .i64 av, .int .i64 c] 78) = Y := ⟨_, rfl⟩
            have hxY : Ext wr Y := by rw [← hY]; exact (by repeat (first | exact Ext.refl _ | assumption | refine Ext.alloc ?_ _ | refine Ext.drew ?_ | refine Ext.drewN _ ?_ | refine Ext.trans ?_ (by assumption)))
            have bY : Cls N 78 #[.int .i64 av, .int .i64 c] Y := by rw [← hY]; exact Cls.newAt _ _ _ hN.symm
            rw [hN] at hsz hrowlt
            have hrowN : some N ≠ (Value.slice A j sc).ownBlock := fun e => by have := (hrowlt N e.symm).2; omega
            have HKP := Lib.hid KP
            have HKU := Lib.hid KU
            have tY := t0.ext hxY
            have pY := p0.ext hxY
            have aY := a0.ext hxY
            have e0 : Y.cell? ⟨w.heap.size, 0, none⟩ = some (.slice (some ⟨br, o9, none⟩) T.rs.length cr) := tY.cell 0
            have e1 : Y.cell? ⟨w.heap.size, 1, none⟩ = some (.slice (some ⟨bp, op, none⟩) T.ps.length cp) := tY.cell 1
            have p00 : Y.cell? ⟨B8, 0, none⟩ = some (.int .i64 x) := pY.cell 0
            have p01 : Y.cell? ⟨B8, 1, none⟩ = some (.int .i64 y) := pY.cell 1
            have p02 : Y.cell? ⟨B8, 2, none⟩ = some (.int .i64 z) := pY.cell 2
            clear hpl hll hl hu hav hc hfj hR KP KU hpf hz24 hab hpv HR
            go_wp2_with fail
            refine (HKU.out _ (hx.trans hxY)).mono ?_
            rintro e w6 ⟨rfl, hz⟩
            clear hY
            replace p00 := hz.cell p00
            replace p01 := hz.cell p01
            replace p02 := hz.cell p02
            have k2 : w6.cell? ⟨N, 1, none⟩ = some (.int .i64 c) := hz.cell (bY.cell 1)
            have k3 : w6.cell? ⟨B9, j, none⟩ = some (.int .i64 fj) := hz.cell (hxY.cell g9)
            have hy6 := hxY.trans hz
            have hrow6 : w6.ownsRow wc.heap.size 42 2 (.slice A j sc) j (cellsR l) := World.ownsRow.kept hrow (grown_none hy6) (by cases (Value.slice A j sc).ownBlock <;> simp)
            have t6 := t0.ext hy6
            have q6 := p0.ext hy6
            have a6 := a0.ext hy6
            have hx6 := hx.trans hy6
            have hs6 : wc.heap.size ≤ w6.heap.size := by have := hy6.size; omega
            clear hz hxY hrow e0 e1 tY pY aY bY t0 p0 a0 hx k0 k1 g9 hy6
            cases u
            · rw [if_neg (by decide)] at hpr
              have hpl := HPL.out
              rw [hpr] at hpl
              have HPL2 := Lib.hid hpl
              clear hpl hpr p00 p01 p02 k2 k3
              go_wp2_with ((at_builtin; refine wpList_append_own _ rfl _ _ 28 rfl wc.heap.size 42 i0 (.agg #[.int .i64 0, .int .i64 0]) 2 16 undRa hi0 hz0 hz1 hz2 rfl (by decide) _ _ _ rfl (World.ownsRow.alloc hrow6 _) ⟨w6.heap.size, 0, none⟩ 1 1 [.int .i64 0, .int .i64 1] rfl rfl (cell_two _ _ _ _) (by simp [Value.oneCell']) (by unfold maxLen; omega) (by omega) (by simp; omega) ?_; intro v' w9 hown hgrow _))
              have hg9 := grown_pre hgrow
              have hr9 : RowR wc.heap.size v' (pieL T ⟨x, y, z⟩ (j + 1)) w9 := by
                rw [HPL2.out]
                exact rowR_add (r := ⟨0, 1⟩) (by rw [HLL.out]; exact hown)
              go_roundw
              case rel => exact ⟨j + 1, by omega, by go_num, Lib.hid hr9, t6.kept hg9 (own_ge hrow6 (by omega)), q6.kept hg9 (own_ge hrow6 (by omega)), a6.kept hg9 (own_ge hrow6 (by omega)), ext_own hx6 hrow6 (by omega) hg9, Nat.le_trans hs6 hg9.size⟩
              case measure => simp [intOf]; omega
            · rw [if_pos rfl] at hpr
              have KP := HKP.out rfl
              rw [← hpr] at KP
              unfold raV at KP
              have HK := Lib.hid KP
              have hmx : (Try.prog).follows .mixedOrders = true := by kernel_rfl
              clear hpr KP
              go_upto_region 13 with fail
              refine wp_region_held_drew (S := fun W' => ((W'.cell? ⟨B8, 0, none⟩ = some (.int .i64 x) ∧ W'.cell? ⟨B8, 1, none⟩ = some (.int .i64 y)) ∧ W'.cell? ⟨B8, 2, none⟩ = some (.int .i64 z)) ∧ W'.cell? ⟨N, 1, none⟩ = some (.int .i64 c) ∧ W'.cell? ⟨B9, j, none⟩ = some (.int .i64 fj)) (by kernel_rfl) ?_ (fun hHeld => ?_)
              · exact ⟨⟨⟨p00, p01⟩, p02⟩, k2, k3⟩
              (refine wpAnyH_take (i := 0) (v := ?_) rfl (by kernel_rfl) (by kernel_rfl) (by kernel_rfl) (fun _ _ _ h => h) (Or.inl ⟨by rfl, ?_⟩) (by assumption) ?_; rotate_left 1; (focus (intro w hSw; (try dsimp only at hSw); go_simp; try (with_reducible rfl))))
              try simp only [Act.put, List.getElem_toArray, List.getElem_cons_zero, List.setIfInBounds_toArray, List.set_cons_zero, List.set_cons_succ]
              (refine wpAnyH_take (i := 1) (v := ?_) rfl (by kernel_rfl) (by kernel_rfl) (by kernel_rfl) (fun _ _ _ h => h) (Or.inl ⟨by rfl, ?_⟩) (by assumption) ?_; rotate_left 1; (focus (intro w hSw; (try dsimp only at hSw); go_simp; try (with_reducible rfl))))
              try simp only [Act.put, List.getElem_toArray, List.getElem_cons_zero, List.getElem_cons_succ, List.setIfInBounds_toArray, List.set_cons_zero, List.set_cons_succ]
              (refine wpAnyH_take (i := 2) (v := ?_) rfl (by kernel_rfl) (by kernel_rfl) (by kernel_rfl) (fun _ _ _ h => h) (Or.inl ⟨by rfl, ?_⟩) (by assumption) ?_; rotate_left 1; (focus (intro w hSw; (try dsimp only at hSw); go_simp; try (with_reducible rfl))))
              try simp only [Act.put, List.getElem_toArray, List.getElem_cons_zero, List.getElem_cons_succ, List.setIfInBounds_toArray, List.set_cons_zero, List.set_cons_succ]
              (refine wpAnyH_take (i := 3) (v := ?_) rfl (by kernel_rfl) (by kernel_rfl) (by kernel_rfl) (fun _ _ _ h => h) (Or.inl ⟨by rfl, ?_⟩) (by assumption) ?_; rotate_left 1; (focus (intro w hSw; (try dsimp only at hSw); go_simp; try (with_reducible rfl))))
              try simp only [Act.put, List.getElem_toArray, List.getElem_cons_zero, List.getElem_cons_succ, List.setIfInBounds_toArray, List.set_cons_zero, List.set_cons_succ]
              (refine wpAnyH_take (i := 4) (v := ?_) rfl (by kernel_rfl) (by kernel_rfl) (by kernel_rfl) (fun _ _ _ h => h) (Or.inl ⟨by rfl, ?_⟩) (by assumption) ?_; rotate_left 1; (focus (intro w hSw; (try dsimp only at hSw); go_simp; try (with_reducible rfl))))
              try simp only [Act.put, List.getElem_toArray, List.getElem_cons_zero, List.getElem_cons_succ, List.setIfInBounds_toArray, List.set_cons_zero, List.set_cons_succ]
              (refine wpAnyH_take (i := 5) (v := ?_) rfl (by kernel_rfl) (by kernel_rfl) (by kernel_rfl) (fun _ _ _ h => h) (Or.inl ⟨by rfl, ?_⟩) (by assumption) ?_; rotate_left 1; (focus (intro w hSw; (try dsimp only at hSw); go_simp; try (with_reducible rfl))))
              try simp only [Act.put, List.getElem_toArray, List.getElem_cons_zero, List.getElem_cons_succ, List.setIfInBounds_toArray, List.set_cons_zero, List.set_cons_succ]
              (refine wpAnyH_take (i := 6) (v := ?_) rfl (by kernel_rfl) (by kernel_rfl) (by kernel_rfl) (fun _ _ _ h => h) (Or.inl ⟨by rfl, ?_⟩) (by assumption) ?_; rotate_left 1; (focus (intro w hSw; (try dsimp only at hSw); go_simp; try (with_reducible rfl))))
              try simp only [Act.put, List.getElem_toArray, List.getElem_cons_zero, List.getElem_cons_succ, List.setIfInBounds_toArray, List.set_cons_zero, List.set_cons_succ]
              obtain ⟨V, hV⟩ : ∃ V, w6.drew = V := ⟨_, rfl⟩
              have hyV : Ext w6 V := by rw [← hV]; exact (by repeat (first | exact Ext.refl _ | assumption | refine Ext.alloc ?_ _ | refine Ext.drew ?_ | refine Ext.drewN _ ?_ | refine Ext.trans ?_ (by assumption)))
              rw [hV] at hHeld ⊢
              clear hV p00 p01 p02 k2 k3
              refine wpAnyH_ready (rs := [7]) (by kernel_rfl) (by simp) ?_
              refine AllReadyH.cons rfl (fun K hK => ?_) AllReadyH.nil
              go_simp
              go_at_call 63; refine (HK.out _).mono ?_; rintro e w7 ⟨rfl, hz⟩
              refine hK.out _ _ ?_ (fun hHeld => ?_)
              · exact ⟨⟨⟨hz.cell hHeld.1.1.1, hz.cell hHeld.1.1.2⟩, hz.cell hHeld.1.2⟩, hz.cell hHeld.2.1, hz.cell hHeld.2.2⟩
              clear hK K
              try simp only [Act.put, List.getElem_toArray, List.getElem_cons_zero, List.getElem_cons_succ, List.setIfInBounds_toArray, List.set_cons_zero, List.set_cons_succ]
              have hy7 := hyV.trans hz
              have hrow7 : RowR wc.heap.size (.slice A j sc) l w7 := by
                have h := World.ownsRow.kept hrow6 (grown_none hy7) (by cases (Value.slice A j sc).ownBlock <;> simp)
                unfold RowR
                rw [HLL.out]
                exact h
              have hs7 : wc.heap.size ≤ w7.heap.size := by have := hy7.size; omega
              refine wpAnyH_ready (rs := [8]) (by kernel_rfl) (by simp) ?_
              refine AllReadyH.cons rfl (fun K hK => ?_) AllReadyH.nil
              go_simp
              have hal : Ext w7 (w7.alloc (.cells #[.int .i64 R.n, .int .i64 R.d] 42)) := (by repeat (first | exact Ext.refl _ | assumption | refine Ext.alloc ?_ _ | refine Ext.drew ?_ | refine Ext.drewN _ ?_ | refine Ext.trans ?_ (by assumption)))
              refine hK.out _ _ ?_ (fun hHeld => ?_)
              · exact ⟨⟨⟨hal.cell hHeld.1.1.1, hal.cell hHeld.1.1.2⟩, hal.cell hHeld.1.2⟩, hal.cell hHeld.2.1, hal.cell hHeld.2.2⟩
              clear hK K
              try simp only [Act.put, List.getElem_toArray, List.getElem_cons_zero, List.getElem_cons_succ, List.setIfInBounds_toArray, List.set_cons_zero, List.set_cons_succ]
              refine wpAnyH_ready (rs := [9]) (by kernel_rfl) (by simp) ?_
              refine AllReadyH.cons rfl (fun K hK => ?_) AllReadyH.nil
              rw [if_pos (by rfl)]
              obtain ⟨v', w9, hrun, hr9, hg9⟩ := run_append_rat (w7.alloc (.cells #[.int .i64 R.n, .int .i64 R.d] 42)) 28 wc.heap.size (.slice A j sc) ⟨w7.heap.size, 0, none⟩ 1 l R (rowR_ext hrow7 hal) (cell_two _ _ _ _) (by simp; omega) (by have := HLL.out; omega)
              refine oper_append _ _ 28 rfl _ _ v' w9 rfl rfl hrun ?_
              have hg := grown_pre hg9
              have hne8 : some B8 ≠ (Value.slice A j sc).ownBlock := own_ge hrow7 (by omega)
              have hne9 : some B9 ≠ (Value.slice A j sc).ownBlock := own_ge hrow7 (by omega)
              have hneN : some N ≠ (Value.slice A j sc).ownBlock := hrowN
              refine hK.out _ _ ?_ (fun hHeld => ?_)
              · exact ⟨⟨⟨hg9.cell (hHeld.1.1.1 ) hne8, hg9.cell (hHeld.1.1.2 ) hne8⟩, hg9.cell (hHeld.1.2 ) hne8⟩, hg9.cell (hHeld.2.1 ) hneN, hg9.cell (hHeld.2.2 ) hne9⟩
              clear hK K
              try simp only [Act.put, List.getElem_toArray, List.getElem_cons_zero, List.getElem_cons_succ, List.setIfInBounds_toArray, List.set_cons_zero, List.set_cons_succ]
              (refine wpAnyH_take (i := 10) (v := ?_) rfl (by kernel_rfl) (by kernel_rfl) (by kernel_rfl) (fun _ _ _ h => h) (Or.inl ⟨by rfl, ?_⟩) (by assumption) ?_; rotate_left 1; (focus (intro w hSw; (try dsimp only at hSw); go_simp; try (with_reducible rfl))))
              try simp only [Act.put, List.getElem_toArray, List.getElem_cons_zero, List.getElem_cons_succ, List.setIfInBounds_toArray, List.set_cons_zero, List.set_cons_succ]
              refine wpAnyH_done (by kernel_rfl) ?_ _
              clear hHeld
              go_wp2
              rw [← HPL.out] at hr9
              go_roundw
              case rel => exact ⟨j + 1, by omega, by go_num, Lib.hid hr9, (t6.ext hy7).kept hg (own_ge hrow7 (by omega)), (q6.ext hy7).kept hg hne8, (a6.ext hy7).kept hg hne9, ext_own (hx6.trans hy7) hrow7 (by omega) hg, Nat.le_trans hs7 hg.size⟩
              case measure => simp [intOf]; omega
          · obtain rfl : j = T.rs.length := by omega
            have hr := HR.out.at_
            rw [← HX3.out] at hr
            have hx9 := hx
            clear t0 p0 a0 hx HR
            go_wp2_with fail
            go_ret2
            exact ⟨_, ret2 rfl (by rw [HE3.out]; rfl), hr, hx9⟩
  · have hb : (E != 0) = true := by simpa using h0
    have hE2 := HE.out
    rw [if_neg h0] at hE2
    have hX3 := HX.out
    rw [if_neg (by rw [hE2]; exact h0)] at hX3
    have HE2 := Lib.hid hE2
    have HX3 := Lib.hid hX3
    clear h0 hE2 hX3
    go_wp2_with fail
    go_ret2
    exact ⟨_, ret2 rfl (by rw [HE2.out]; rfl), by rw [HX3.out]; exact rasAt_nil _, hx⟩
end Go.Proofs.Ythopgonbndoidaa

