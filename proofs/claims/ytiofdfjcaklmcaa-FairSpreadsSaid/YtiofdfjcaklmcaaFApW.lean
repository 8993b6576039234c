/- apply of the program: what is given behind shifts; settled, fairest, Ladder. -/
import Derived.Test.YtiofdfjcaklmcaaFChW
namespace Go.Proofs.Ytiofdfjcaklmcaa
open Go.RowKit Go.Shelf

theorem rowI_cls {n₀ : Nat} {v : Value} {l : List Int} {W : World} (h : RowI n₀ v l W) (h0 : 0 < l.length) : ∃ g c cs, v = .slice (some ⟨g, 0, none⟩) l.length c ∧ Cls g 3 cs W ∧ n₀ ≤ g := by
  rcases h.2 with ⟨rfl, h1⟩ | ⟨g, cap, cur, rfl, h1, h2, _⟩
  · omega
  · exact ⟨g, cap, cur, rfl, h2, h1⟩
theorem oper_makeI {o : Oper} {a : Act} {w : World} {K : Act → World → Prop} {Q : Exit → Act → World → Prop} (l c : Operand) (hop : o.op = Op.makeSlice 46 l c)
    (kl kc : IntKind) (m : Nat) (hl : a.eval l = .int kl m) (hc : a.eval c = .int kc m) (hm : m ≤ 1000000)
    (hK : ∀ w', RowI w.heap.size (.slice (some ⟨w.heap.size, 0, none⟩) m m) (List.replicate m 0) w' → Ext w w' → K (a.put o.dst (.slice (some ⟨w.heap.size, 0, none⟩) m m)) w') : Oper.wp Try.prog o a w K Q := by
  obtain ⟨i0, hi0, hz0, hz1, hz2⟩ := info_parts infoInt
  obtain ⟨w', hrun, r1, r2⟩ := run_make_full (P := Try.prog) w w.heap.size 46 3 i0 (.int .i64 0) 1 undInt hi0 hz0 hz1 kl kc m (by rw [hz2]; omega) (by unfold maxLen; omega) (Nat.le_refl _)
  unfold Oper.wp execOp
  simp only [hop, hl, hc, hrun, Sem.run_bind, Sem.run_pure, Result.andThen_ok]
  have e : (madeCells (Value.int .i64 0).cells (m * 1)).toList = cellsI (List.replicate m 0) := by
    rw [Nat.mul_one]
    show (madeCells #[Value.int .i64 0] m).toList = _
    rw [toList_madeCells_one]
    simp [cellsI]
  rw [e] at r1
  exact hK _ (by unfold RowI; simpa using r1) (Below.grown (Below.refl _ _) r2 (Nat.le_refl _) (fun k e => by cases e))
theorem wpList_makeI {ops : Array Oper} {rest : List Oper} {o : Oper} {a : Act} {w : World} {Q : Exit → Act → World → Prop} (hg : o.guard = none) (l c : Operand) (hop : o.op = Op.makeSlice 46 l c)
    (kl kc : IntKind) (m : Nat) (hl : a.eval l = .int kl m) (hc : a.eval c = .int kc m) (hm : m ≤ 1000000)
    (hK : ∀ w', RowI w.heap.size (.slice (some ⟨w.heap.size, 0, none⟩) m m) (List.replicate m 0) w' → Ext w w' → wpList Try.prog ops Q rest (a.put o.dst (.slice (some ⟨w.heap.size, 0, none⟩) m m)) w') : wpList Try.prog ops Q (o :: rest) a w := by
  refine wpList_plain hg fun K hKK => ?_
  exact oper_makeI l c hop kl kc m hl hc hm (fun w' h1 h2 => hKK _ _ (hK w' h1 h2))
theorem appW_snoc (g : List Int) (l : List (Nat × Int)) (m : Nat × Int) : appW g (l ++ [m]) = (appW g l).set m.1 m.2 := by simp [appW]
theorem appW_take {g : List Int} {l : List (Nat × Int)} {k : Nat} (h : k < l.length) : appW g (l.take (k + 1)) = (appW g (l.take k)).set l[k].1 l[k].2 := by
  rw [take_succ_get l k h, appW_snoc]
theorem shW_get (P : Po) (l : List (Nat × Int)) (k : Nat) (h : k < (shW P l).length) (h' : k < l.length) : (shW P l)[k] = (sid P l[k].1, l[k].2) := by simp [shW]
theorem sl_sid {P : Po} (hok : OkP P) {i : Nat} (h : i < P.ss.length) : slI P (sid P i) = i := by rw [sid_at h]; exact sl_at hok h
set_option maxRecDepth 100000 in
set_option maxHeartbeats 8000000 in
theorem apply_any (a b v lv : Value) (P : Po) (g : List Int) (l : List (Nat × Int)) (hok : OkP P) (hgl : g.length ≤ 100000) (hll : l.length ≤ 100000) (hix : ∀ m ∈ l, m.1 < g.length ∧ m.1 < P.ss.length) (w : World) (hT : PoAt w a b P) (hg : IntsAt w v g) (hl : SfsAt w lv (shW P l)) :
    Calls Try.prog 78 #[.agg #[a, b], v, lv] w fun e w' => ∃ u, e = .returned u ∧ RowI w.heap.size u (appW g l) w' ∧ Ext w w' := by
  have hls := hok.ls
  obtain ⟨aa, ca, rfl, hla⟩ := hT.t.len
  obtain ⟨ab, cb, rfl, hlb⟩ := hT.s.len
  obtain ⟨al, cl, rfl, hlc⟩ := hl.len
  rw [shW_len] at hl hlc ⊢
  have KCL := fun W (x : Ext w W) => cloneI_any v g W (hg.ext x) (by omega)
  have KSL := fun (x : Int) W (h : Ext w W) => sl_any (.slice aa P.ts.length ca) _ P x W (hT.s.ext h) (by omega)
  have HKCL := Lib.hid KCL
  have HKSL := Lib.hid KSL
  clear KCL KSL
  go_enter Try.func78, Try.ntmps78
  go_wp2_with fail
  refine (HKCL.out _ (by repeat (first | exact Ext.refl _ | assumption | refine Ext.alloc ?_ _ | refine Ext.drew ?_ | refine Ext.drewN _ ?_ | refine Ext.trans ?_ (by assumption)))).mono ?_
  rintro e w1 ⟨u, rfl, hr, hx1⟩
  obtain ⟨q1, hx, hk0⟩ := alloc1 hx1
  obtain ⟨uA, uc, hu⟩ := hr.form
  subst hu
  have hr1 : RowI (w.heap.size + 1) (.slice uA g.length uc) (appW g (l.take 0)) w1 := rowI_base hr (by simp)
  clear hr hx1
  go_wp2_with fail
  go_loopw [14] (fun i wr => ∃ k : Nat, k ≤ l.length ∧ i = .int .i64 k ∧ Hid (RowI (w.heap.size + 1) (.slice uA g.length uc) (appW g (l.take k)) wr) ∧ Cls w.heap.size 25 #[.slice aa P.ts.length ca, .slice ab P.ss.length cb] wr ∧ Ext w wr) (fun i _ => l.length - (intOf i).toNat)
  case atStart => exact ⟨0, Nat.zero_le _, rfl, Lib.hid hr1, q1, hx⟩
  case round =>
    clear hr1 q1 hx hk0
    obtain ⟨k, hk, rfl, HR, q, hx⟩ := hrel
    by_cases hlk : k < l.length
    · have hlk2 : k < (shW P l).length := by rw [shW_len]; exact hlk
      obtain ⟨bb, oo, hal, c0, c1⟩ := (hl.ext hx).get k hlk2
      rw [shW_get P l k hlk2 hlk] at c0 c1
      obtain ⟨hi1, hi2⟩ := hix _ (List.getElem_mem hlk)
      have hst := appW_take (g := g) hlk
      have hsi := sl_sid hok hi2
      obtain ⟨m, hm⟩ : ∃ m, l[k] = m := ⟨_, rfl⟩
      rw [hm] at hi1 hi2 hst hsi c0 c1
      obtain ⟨i, u⟩ := m
      dsimp only at hi1 hi2 hst hsi c0 c1
      have KT := fun W (h : Ext w W) => HKSL.out (sid P i) W h
      simp only [hsi] at KT
      obtain ⟨s, hs⟩ : ∃ s, sid P i = s := ⟨_, rfl⟩
      simp only [hs] at KT
      rw [hs] at c0
      have HKT := Lib.hid KT
      obtain ⟨L, hL⟩ : ∃ L, appW g (l.take k) = L := ⟨_, rfl⟩
      have hLl : L.length = g.length := by rw [← hL]; exact appW_len _ _
      rw [hL] at HR hst
      have HST := Lib.hid hst
      obtain ⟨gb, gc, gcs, hv, hgc, hgb⟩ := rowI_cls HR.out (by omega)
      rw [hLl] at hv
      simp only [Value.slice.injEq] at hv
      obtain ⟨rfl, _, rfl⟩ := hv
      have hiL : i < L.length := by omega
      obtain ⟨b9, o9, he9, g9⟩ := HR.out.at_.get i hiL
      obtain ⟨z9, hz9⟩ : ∃ z, L[i] = z := ⟨_, rfl⟩
      rw [hz9] at g9
      clear hz9 hiL
      simp only [Option.some.injEq, Addr.mk.injEq, and_true] at he9
      obtain ⟨rfl, rfl⟩ := he9
      obtain ⟨PB, hPB⟩ : ∃ PB, wr.heap.size = PB := ⟨_, rfl⟩
      obtain ⟨Y, hY⟩ : ∃ Y, wr.alloc (.cells #[.int .i64 s, .int .i64 u] 58) = Y := ⟨_, rfl⟩
      have hxY : Ext wr Y := by rw [← hY]; exact (by repeat (first | exact Ext.refl _ | assumption | refine Ext.alloc ?_ _ | refine Ext.drew ?_ | refine Ext.drewN _ ?_ | refine Ext.trans ?_ (by assumption)))
      have hbY : Cls PB 58 #[.int .i64 s, .int .i64 u] Y := by rw [← hY]; exact Cls.newAt _ _ _ hPB.symm
      have e0 : Y.cell? ⟨PB, 0, none⟩ = some (.int .i64 s) := hbY.cell 0
      have e1 : Y.cell? ⟨PB, 1, none⟩ = some (.int .i64 u) := hbY.cell 1
      have qY := q.ext hxY
      have f0 : Y.cell? ⟨w.heap.size, 0, none⟩ = some (.slice aa P.ts.length ca) := qY.cell 0
      have f1 : Y.cell? ⟨w.heap.size, 1, none⟩ = some (.slice ab P.ss.length cb) := qY.cell 1
      have hx' := hx.trans hxY
      have HRY := Lib.hid (rowI_ext HR.out hxY)
      have hcY := hgc.ext hxY
      replace g9 := hxY.cell g9
      rw [Nat.zero_add] at g9
      have hLi : i < g.length := hi1
      have hii : (i : Int) < g.length := by omega
      have HLL := Lib.hid hLl
      subst hal
      clear hst hsi hs hm hL KT HR q hx hxY hbY hgc hLl
      go_upto_region 5 with fail
      refine wp_region_last (z := 8) (S := fun W' => W'.cell? ⟨PB, 0, none⟩ = some (.int .i64 s) ∧ W'.cell? ⟨PB, 1, none⟩ = some (.int .i64 u) ∧ W'.cell? ⟨w.heap.size, 0, none⟩ = some (.slice aa P.ts.length ca) ∧ W'.cell? ⟨w.heap.size, 1, none⟩ = some (.slice ab P.ss.length cb) ∧ W'.cell? ⟨gb, i, none⟩ = some (.int .i64 z9) ∧ Ext Y W') (by kernel_rfl) ?_ (fun hHeld => ?_)
      · exact ⟨e0, e1, f0, f1, g9, Ext.drew (Ext.refl _)⟩
      obtain ⟨V0, hV0⟩ : ∃ V, World.drew Y = V := ⟨_, rfl⟩
      rw [hV0] at hHeld ⊢
      clear hV0
      (refine tkL (i := 0) (v := ?_) rfl ?_ ?_; rotate_left 1; (focus (intro w hSw; (try dsimp only at hSw); go_simp; try (with_reducible rfl))))
      try simp only [Act.put, xA1, xA2, xA4, xA5, xA6]
      (refine tkL (i := 1) (v := ?_) rfl ?_ ?_; rotate_left 1; (focus (intro w hSw; (try dsimp only at hSw); go_simp; try (with_reducible rfl))))
      try simp only [Act.put, xA1, xA2, xA3, xA4, xA5, xA6]
      (refine tkL (i := 2) (v := ?_) rfl ?_ ?_; rotate_left 1; (focus (intro w hSw; (try dsimp only at hSw); go_simp; try (with_reducible rfl))))
      try simp only [Act.put, xA1, xA2, xA3, xA4, xA5, xA6]
      (refine tkL (i := 3) (v := ?_) rfl ?_ ?_; rotate_left 1; (focus (intro w hSw; (try dsimp only at hSw); go_simp; try (with_reducible rfl))))
      try simp only [Act.put, xA1, xA2, xA3, xA4, xA5, xA6]
      (refine tkL (i := 5) (v := ?_) rfl ?_ ?_; rotate_left 1; (focus (intro w hSw; (try dsimp only at hSw); go_simp; try (with_reducible rfl))))
      try simp only [Act.put, xA1, xA2, xA3, xA4, xA5, xA6]
      (refine tkL (i := 6) (v := ?_) rfl ?_ ?_; rotate_left 1; (focus (intro w hSw; (try dsimp only at hSw); go_simp; try (with_reducible rfl))))
      try simp only [Act.put, xA1, xA2, xA3, xA4, xA5, xA6]
      refine wpAnyL_one (i := 4) (by kernel_rfl) rfl (fun K hK => ?_)
      go_simp
      go_at_call 84; refine (HKT.out V0 (hx'.trans hHeld.2.2.2.2.2)).mono ?_; rintro e V1 ⟨rfl, hz⟩
      refine hK.out _ _ (fun _ => ?_) (fun hHeld => ?_)
      · exact ⟨Ext.cell hz hHeld.1, Ext.cell hz hHeld.2.1, Ext.cell hz hHeld.2.2.1, Ext.cell hz hHeld.2.2.2.1, Ext.cell hz hHeld.2.2.2.2.1, hHeld.2.2.2.2.2.trans hz⟩
      replace hHeld := hHeld (by decide)
      clear hK K
      clear hz
      try simp only [Act.put, xA1, xA2, xA3, xA4, xA5, xA6]
      (refine tkL (i := 7) (v := ?_) rfl ?_ ?_; rotate_left 1; (focus (intro w hSw; (try dsimp only at hSw); go_simp; try (with_reducible rfl))))
      try simp only [Act.put, xA1, xA2, xA3, xA4, xA5, xA6]
      refine wpAnyL_one (i := 8) (by kernel_rfl) rfl (fun K hK => ?_)
      have k2 := (hcY.ext hHeld.2.2.2.2.2).frozen i
      have k3 := hHeld.2.2.2.2.1
      go_simp
      refine hK.out _ _ (fun h => absurd rfl h) (fun _ => ?_)
      clear hK K
      try simp only [Act.put, xA1, xA2, xA3, xA4, xA5, xA6]
      refine wpAnyL_done (by kernel_rfl) ?_ _
      have hzz := hHeld.2.2.2.2.2
      have hR2 := rowI_ext HRY.out hHeld.2.2.2.2.2
      have hq2 := qY.ext hHeld.2.2.2.2.2
      have hx2 := hx'.trans hHeld.2.2.2.2.2
      go_wp2_with fail
      go_roundw
      case rel =>
        refine ⟨k + 1, by omega, by go_num, Lib.hid ?_, hq2.other (by omega) _ _, hx2.setCell (by simp; omega) _⟩
        rw [HST.out]
        rw [← HLL.out] at hR2 ⊢
        exact rowI_set hR2 u
      case measure => simp [intOf]; omega
    · obtain rfl : k = l.length := by omega
      have hR := HR.out
      rw [List.take_length] at hR
      have HRR := Lib.hid hR
      clear HR hR
      go_wp2_with fail
      go_ret
      exact ⟨_, rfl, rowI_base HRR.out (by omega), hx⟩

set_option maxRecDepth 100000 in
set_option maxHeartbeats 8000000 in
theorem settled_any (a b v : Value) (P : Po) (g : List Int) (hok : OkP P) (hS : ShrV P g) (w : World) (hT : PoAt w a b P) (hg : IntsAt w v g) :
    Calls Try.prog 117 #[.agg #[a, b], v] w fun e w' => ∃ u, e = .returned u ∧ IntsAt w' u (setL P g) ∧ Ext w w' := by
  obtain ⟨aa, ca, rfl, hla⟩ := hT.t.len
  obtain ⟨ab, cb, rfl, hlb⟩ := hT.s.len
  obtain ⟨ag, cg, rfl, hlc⟩ := hg.len
  obtain ⟨R, hR⟩ : ∃ R, setL P g = R := ⟨_, rfl⟩
  have HR := Lib.hid hR
  rw [hR]
  clear hR
  have KCH := fun (v : Value) (h : List Int) (hh : ShrV P h) W (x : Ext w W) (hv : IntsAt W v h) => chain_any _ _ v P h hok hh.len W (hT.ext x) hv
  have KAP := fun (v lv : Value) (h : List Int) (hh : ShrV P h) W (x : Ext w W) (hv : IntsAt W v h) (hl : SfsAt W lv (shW P (chnL P h))) => apply_any _ _ v lv P h (chnL P h) hok (by have := hh.le hok; omega) (by have := chn_len hok hh.len; omega) (chn_ix hh.len) W (hT.ext x) hv hl
  have HKCH := Lib.hid KCH
  have HKAP := Lib.hid KAP
  clear KCH KAP
  go_enter Try.func117, Try.ntmps117
  have q0 := Cls.new w 25 #[.slice aa P.ts.length ca, .slice ab P.ss.length cb]
  have hx0 : Ext w (w.alloc (.cells #[.slice aa P.ts.length ca, .slice ab P.ss.length cb] 25)) := (by repeat (first | exact Ext.refl _ | assumption | refine Ext.alloc ?_ _ | refine Ext.drew ?_ | refine Ext.drewN _ ?_ | refine Ext.trans ?_ (by assumption)))
  have hg0 := hg.ext hx0
  go_upto_region 1 with fail
  go_loopg [1] ((potZ P g).toNat + 1) (fun gg v wr => ∃ (h : List Int) (A : Option Addr) (c : Nat), v = .slice A h.length c ∧ Hid (ShrV P h) ∧ Hid (setL P h = R) ∧ Hid (potZ P h < gg) ∧ IntsAt wr v h ∧ Cls w.heap.size 25 #[.slice aa P.ts.length ca, .slice ab P.ss.length cb] wr ∧ Ext w wr)
  case atStart => exact ⟨g, _, _, rfl, Lib.hid hS, HR, Lib.hid (by omega), hg0, q0, hx0⟩
  case round =>
    clear q0 hx0 hg0
    obtain ⟨h, A, c, rfl, HS, HT2, HP, hI, q, hx⟩ := hrel
    have d0 : wr.cell? ⟨w.heap.size, 0, none⟩ = some (.slice aa P.ts.length ca) := q.cell 0
    have d1 : wr.cell? ⟨w.heap.size, 1, none⟩ = some (.slice ab P.ss.length cb) := q.cell 1
    have hend := fun e => setL_end (P := P) (g := h) e
    have hstp := fun e => setL_step hok.pv HS.out (g := h) e
    have hpot := fun e => chn_ok hok.pv HS.out (g := h) e
    have hnn := potZ_nn P h
    have KC := HKCH.out _ h HS.out _ hx hI
    have KA := fun lv W (x : Ext wr W) (hl : SfsAt W lv (shW P (chnL P h))) => HKAP.out _ lv h HS.out W (hx.trans x) (hI.ext x) hl
    have hsl := shW_len P (chnL P h)
    obtain ⟨L, hL⟩ : ∃ L, chnL P h = L := ⟨_, rfl⟩
    rw [hL] at hend hstp hpot KC hsl
    simp only [hL] at KA
    have HEN := Lib.hid hend
    have HSTP := Lib.hid hstp
    have HPO := Lib.hid hpot
    have HKC := Lib.hid KC
    have HKA := Lib.hid KA
    clear hend hstp hpot KC KA hL
    go_wp2_with fail
    refine HKC.out.mono ?_
    rintro e w2 ⟨u, rfl, hu, hz⟩
    have q2 := q.ext hz
    have hx2 := hx.trans hz
    replace d0 := hz.cell d0
    replace d1 := hz.cell d1
    obtain ⟨uA, uc, hue⟩ := hu.form
    rw [hsl] at hue
    subst hue
    have hIz := hI.ext hz
    by_cases hLe : L = []
    · have hb : decide (0 < L.length) = false := by rw [hLe]; rfl
      rw [hb]
      have hR2 := HEN.out hLe
      rw [HT2.out] at hR2
      have HR2 := Lib.hid hR2
      clear hLe hR2
      go_wp2_with fail
      go_ret
      exact ⟨_, rfl, by rw [HR2.out]; exact hIz, hx2⟩
    · have hb : decide (0 < L.length) = true := decide_eq_true (by cases L with
        | nil => exact absurd rfl hLe
        | cons x l => simp)
      rw [hb]
      have HL := Lib.hid hLe
      clear hLe
      go_wp2_with fail
      refine (HKA.out _ w2 hz hu.at_).mono ?_
      rintro e w3 ⟨v3, rfl, hr3, hz3⟩
      obtain ⟨vA, vc, hve⟩ := hr3.form
      subst hve
      have h1 := HPO.out HL.out
      have h2 := HSTP.out HL.out
      have H1 := Lib.hid h1
      have H2 := Lib.hid h2
      have q3 := q2.ext hz3
      have hx3 := hx2.trans hz3
      have hP := HP.out
      clear h1 h2
      go_wp2_with fail
      go_roundg (potZ P h).toNat
      case rel => exact ⟨appW h L, _, _, rfl, Lib.hid H1.out.1, Lib.hid (by rw [← H2.out]; exact HT2.out), Lib.hid (by have := H1.out.2; omega), hr3.at_, q3, hx3⟩
      case measure => omega
set_option maxRecDepth 100000 in
set_option maxHeartbeats 8000000 in
theorem fairest_any (a b : Value) (P : Po) (hok : OkP P) (w : World) (hT : PoAt w a b P) :
    Calls Try.prog 73 #[.agg #[a, b]] w fun e w' => ∃ u, e = .returned u ∧ IntsAt w' u (faiG P) ∧ Ext w w' := by
  have hls := hok.ls
  obtain ⟨ab, cb, rfl, hlb⟩ := hT.s.len
  have hzl : (zerL P).length = P.ss.length := by simp [zerL]
  have KS := fun (v : Value) W (x : Ext w W) (hv : IntsAt W v (zerL P)) => settled_any _ _ v P (zerL P) hok (zer_V hok.pv) W (hT.ext x) hv
  have HKS := Lib.hid KS
  clear KS
  have hx0 : Ext w (w.alloc (.cells #[a, .slice ab P.ss.length cb] 25)) := (by repeat (first | exact Ext.refl _ | assumption | refine Ext.alloc ?_ _ | refine Ext.drew ?_ | refine Ext.drewN _ ?_ | refine Ext.trans ?_ (by assumption)))
  have q0 := Cls.new w 25 #[a, .slice ab P.ss.length cb]
  go_enter Try.func73, Try.ntmps73
  go_upto_region 1 with fail
  obtain ⟨Y, hY⟩ : ∃ Y, w.alloc (.cells #[a, .slice ab P.ss.length cb] 25) = Y := ⟨_, rfl⟩
  rw [hY] at hx0 q0
  try rw [hY]
  have f0 : Y.cell? ⟨w.heap.size, 0, none⟩ = some a := q0.cell 0
  have f1 : Y.cell? ⟨w.heap.size, 1, none⟩ = some (.slice ab P.ss.length cb) := q0.cell 1
  clear hY
  refine wp_region_held_drew (S := fun W' => W'.cell? ⟨w.heap.size, 0, none⟩ = some a ∧ W'.cell? ⟨w.heap.size, 1, none⟩ = some (.slice ab P.ss.length cb) ∧ Ext Y W') (by kernel_rfl) ?_ (fun hHeld => ?_)
  · exact ⟨f0, f1, Ext.drew (Ext.refl _)⟩
  obtain ⟨V0, hV0⟩ : ∃ V, World.drew Y = V := ⟨_, rfl⟩
  rw [hV0] at hHeld ⊢
  clear hV0
  (refine tkH (i := 0) (v := ?_) rfl ?_ ?_; rotate_left 1; (focus (intro w hSw; (try dsimp only at hSw); go_simp; try (with_reducible rfl))))
  try simp only [Act.put, xA1, xA2, xA4, xA5, xA6]
  (refine tkH (i := 1) (v := ?_) rfl ?_ ?_; rotate_left 1; (focus (intro w hSw; (try dsimp only at hSw); go_simp; try (with_reducible rfl))))
  try simp only [Act.put, xA1, xA2, xA3, xA4, xA5, xA6]
  (refine tkH (i := 2) (v := ?_) rfl ?_ ?_; rotate_left 1; (focus (intro w hSw; (try dsimp only at hSw); go_simp; try (with_reducible rfl))))
  try simp only [Act.put, xA1, xA2, xA3, xA4, xA5, xA6]
  (refine tkH (i := 3) (v := ?_) rfl ?_ ?_; rotate_left 1; (focus (intro w hSw; (try dsimp only at hSw); go_simp; try (with_reducible rfl))))
  try simp only [Act.put, xA1, xA2, xA3, xA4, xA5, xA6]
  refine wpAnyH_ready (rs := [4]) (by kernel_rfl) (by simp) ?_
  refine AllReadyH.cons rfl (fun K hK => ?_) AllReadyH.nil
  rw [if_pos (by rfl)]
  refine oper_makeI _ _ rfl .i64 .i64 P.ss.length rfl rfl (by omega) (fun V1 hmr hz => ?_)
  have hzr : IntsAt V1 (.slice (some ⟨V0.heap.size, 0, none⟩) P.ss.length P.ss.length) (zerL P) := by have h := hmr.at_; exact h
  refine hK.out _ _ ?_ (fun hHeld => ?_)
  · exact ⟨Ext.cell hz hHeld.1, Ext.cell hz hHeld.2.1, hHeld.2.2.trans hz⟩
  clear hK K
  clear hz hmr
  try simp only [Act.put, xA1, xA2, xA3, xA4, xA5, xA6]
  refine wpAnyH_ready (rs := [5]) (by kernel_rfl) (by simp) ?_
  refine AllReadyH.cons rfl (fun K hK => ?_) AllReadyH.nil
  go_simp
  go_at_call 117; refine (HKS.out _ V1 (hx0.trans hHeld.2.2) hzr).mono ?_; rintro e V2 ⟨u, rfl, hu, hz⟩
  refine hK.out _ _ ?_ (fun hHeld => ?_)
  · exact ⟨Ext.cell hz hHeld.1, Ext.cell hz hHeld.2.1, hHeld.2.2.trans hz⟩
  clear hK K
  clear hz
  try simp only [Act.put, xA1, xA2, xA3, xA4, xA5, xA6]
  (refine tkH (i := 6) (v := ?_) rfl ?_ ?_; rotate_left 1; (focus (intro w hSw; (try dsimp only at hSw); go_simp; try (with_reducible rfl))))
  try simp only [Act.put, xA1, xA2, xA3, xA4, xA5, xA6]
  refine wpAnyH_done (by kernel_rfl) ?_ _
  have hxe := hHeld.2.2
  go_wp2_with fail
  go_ret
  exact ⟨_, rfl, hu, hx0.trans hxe⟩
end Go.Proofs.Ytiofdfjcaklmcaa
