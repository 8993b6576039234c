/- share of the program: what a payer pays. -/
import Derived.Test.YthopgonbndoidaaVShP
import Derived.Test.YthopgonbndoidaaVRnd
namespace Go.Proofs.Ythopgonbndoidaa
open Go.RowKit Go.Shelf

theorem ratM_zero : ratM 0 = ⟨0, 1⟩ := by
  have h1 : (ratM 0).n = 0 := by decide +kernel
  have h2 : (ratM 0).d = 1 := by decide +kernel
  show (⟨(ratM 0).n, (ratM 0).d⟩ : Ra) = _
  rw [h1, h2]
attribute [local go_sem] Oper.semAt_some

set_option maxRecDepth 100000 in
set_option maxHeartbeats 4000000 in
theorem share_any (a b : Value) (T : Tr) (hok : Ok T) (x y z : Int) (hp : (⟨x, y, z⟩ : Py) ∈ T.ps) (w : World) (hT : TrAt w a b T) :
    Calls Try.prog 100 #[.agg #[a, b], .agg #[.int .i64 x, .int .i64 y, .int .i64 z]] w fun e w' => e = .returned (raV (ratM (shX T ⟨x, y, z⟩))) ∧ Ext w w' := by
  obtain ⟨U, hU⟩ : ∃ U, ratM (shX T ⟨x, y, z⟩) = U := ⟨_, rfl⟩
  have HU := Lib.hid hU
  rw [hU]
  clear hU
  have hv := hok.pv _ hp
  have hy1 : y < T.rs.length := hv.2.1.2
  have hy0 : -1 ≤ y := by have := hv.2.1.1; simp only at this; omega
  have HP := Lib.hid hp
  have HW := Lib.hid (fun W (h : Ext w W) => weights_any a b T hok W (hT.ext h))
  clear hv hp
  obtain ⟨f, hf⟩ : ∃ f, wtA T.rs T.ps = f := ⟨_, rfl⟩
  have HF := Lib.hid hf
  rw [hf] at HW
  clear hf
  obtain ⟨aa, ca, rfl, hla⟩ := hT.r.len
  have hlr := hok.lr
  refine (callsIn_wide (n := 5)).1 ?_
  refine callsIn_of_wp_marks Try.func100 rfl trivial ?_ rfl; simp only [Try.ntmps100, List.size_toArray, List.length_cons, List.length_nil, Nat.reduceAdd, Nat.reduceSub, Array.replicate_succ, Array.replicate_zero, List.push_toArray, List.append_toArray, List.nil_append, List.cons_append]
  gi_wp2_with fail
  refine ⟨trivial, (callsIn_wide.2 (HW.out _ (by repeat (first | exact Ext.refl _ | assumption | refine Ext.alloc ?_ _ | refine Ext.drew ?_ | refine Ext.drewN _ ?_ | refine Ext.trans ?_ (by assumption))))).mono ?_⟩
  rintro e w1 ⟨rfl, hz⟩
  obtain ⟨q0, q1, q2, hx1, hs1⟩ := alloc3 hz
  clear hz
  obtain ⟨A, hA⟩ : ∃ A, w1.heap.size = A := ⟨_, rfl⟩
  obtain ⟨Y, hY⟩ : ∃ Y, w1.alloc (.cells (arr (fun _ => 0)) 107) = Y := ⟨_, rfl⟩
  have hxY : Ext w1 Y := by rw [← hY]; exact (by repeat (first | exact Ext.refl _ | assumption | refine Ext.alloc ?_ _ | refine Ext.drew ?_ | refine Ext.drewN _ ?_ | refine Ext.trans ?_ (by assumption)))
  have hbY : Cls A 107 (arr (fun _ => 0)) Y := by rw [← hY]; exact Cls.newAt _ _ _ hA.symm
  have hsY : Y.heap.size = A + 1 := by rw [← hY, World.size_alloc, hA]
  rw [arr_zero] at hY
  have q0Y := q0.ext hxY
  have q1Y := q1.ext hxY
  have q2Y := q2.ext hxY
  gi_wp2_with (refine wpListIn_store_row rfl _ _ _ rfl _ (arr f) rfl rfl _ _ hbY (by rw [arr_size]; kernel_rfl) (by rw [arr_size, arr_size]) (arr_one _) ?_; intro w5 hC5 hg5
               have z0 := q0Y.kept hg5 (by intro e; injection e with e; omega)
               have z1 := q1Y.kept hg5 (by intro e; injection e with e; omega)
               have d0 : (w5.alloc (.cells #[.int .i64 0, .int .i64 1] 42)).cell? ⟨w.heap.size, 0, none⟩ = some (.slice aa T.rs.length ca) := Ext.cell (by repeat (first | exact Ext.refl _ | assumption | refine Ext.alloc ?_ _ | refine Ext.drew ?_ | refine Ext.drewN _ ?_ | refine Ext.trans ?_ (by assumption))) (z0.cell 0)
               have d1 : (w5.alloc (.cells #[.int .i64 0, .int .i64 1] 42)).cell? ⟨w.heap.size, 1, none⟩ = some b := Ext.cell (by repeat (first | exact Ext.refl _ | assumption | refine Ext.alloc ?_ _ | refine Ext.drew ?_ | refine Ext.drewN _ ?_ | refine Ext.trans ?_ (by assumption))) (z0.cell 1)
               have d2 : (w5.alloc (.cells #[.int .i64 0, .int .i64 1] 42)).cell? ⟨w.heap.size + 1, 1, none⟩ = some (.int .i64 y) := Ext.cell (by repeat (first | exact Ext.refl _ | assumption | refine Ext.alloc ?_ _ | refine Ext.drew ?_ | refine Ext.drewN _ ?_ | refine Ext.trans ?_ (by assumption))) (z1.cell 1))
  clear d0 d1 d2
  refine ⟨trivial, (callsIn_wide.2 (up_any _ _ y _)).mono ?_⟩
  rintro e w3 ⟨rfl, hw3⟩
  obtain ⟨O, hO⟩ : ∃ O, w5.heap.size = O := ⟨_, rfl⟩
  obtain ⟨Z, hZ⟩ : ∃ Z, w5.alloc (.cells #[.int .i64 0, .int .i64 1] 42) = Z := ⟨_, rfl⟩
  have hxZ : Ext w5 Z := by rw [← hZ]; exact (by repeat (first | exact Ext.refl _ | assumption | refine Ext.alloc ?_ _ | refine Ext.drew ?_ | refine Ext.drewN _ ?_ | refine Ext.trans ?_ (by assumption)))
  have hbZ : Cls O 42 #[.int .i64 0, .int .i64 1] Z := by rw [← hZ]; exact Cls.newAt _ _ _ hO.symm
  have hsZ : Z.heap.size = O + 1 := by rw [← hZ, World.size_alloc, hO]
  rw [hZ] at hw3
  obtain ⟨p0, p1, hx3, hs3⟩ := up_boxes hw3
  rw [hsZ] at p0 p1 hs3
  have z2 := q2Y.kept hg5 (by intro e; injection e with e; omega)
  have hx0 : Ext w w3 := (((hx1.trans hxY).grown hg5 (by omega)).trans hxZ).trans hx3
  have hAO : A + 1 ≤ O := by have := hg5.size; omega
  have t0 := (z0.ext hxZ).ext hx3
  have t1 := (z1.ext hxZ).ext hx3
  have t2 := (z2.ext hxZ).ext hx3
  have tA := (hC5.ext hxZ).ext hx3
  have tO := hbZ.ext hx3
  try rw [hO]
  clear hw3 hZ hxZ hx3 hY hxY hbY hsY hg5 q0 q1 q2 q0Y q1Y q2Y z0 z1 z2 hC5 hbZ hsZ hx1
  gi_wp2_with fail
  have hseq := up_seq (O + 1) (O + 1 + 1) T hok.rv _ _ y hy0 hy1 w w3 hx0 _ _ (by omega) (by omega) p0 p1 hT.r
  have hbs : ∀ b ∈ [O + 1, O + 1 + 1], b < w3.heap.size := by simp; omega
  have hfacts : ∀ (pre : List (RIx T.rs.length)) (xr : RIx T.rs.length), pre ++ [xr] <+: upS hok.rv hy1 → (1 ≤ z ∧ z ≤ f xr.1.toNat) ∧ f xr.1.toNat ≤ 24 ∧ (0 ≤ cst T.rs xr.1.toNat ∧ cst T.rs xr.1.toNat ≤ 65536) ∧
      (0 ≤ shF T z (vals pre) ∧ shF T z (vals pre) ≤ 8421473853112320) ∧ (0 ≤ pcX T (cst T.rs xr.1.toNat) z xr.1.toNat ∧ pcX T (cst T.rs xr.1.toNat) z xr.1.toNat ≤ 350894743879680) ∧ ratF (cst T.rs xr.1.toNat * z) (f xr.1.toNat) = ratM (pcX T (cst T.rs xr.1.toNat) z xr.1.toNat) := by
    intro pre xr hpr
    have hmem : ∀ q ∈ pre ++ [xr], q.1 ∈ upL T.rs y := by
      intro q hq
      rw [← upS_vals hok.rv hy1]
      exact List.mem_map.2 ⟨q, hpr.subset hq, rfl⟩
    have hpf := fun q hq => pay_facts hok HP.out (r := q) hq
    have g := hpf xr.1 (hmem xr (by simp))
    have hlen := hpr.length_le
    rw [List.length_append, List.length_singleton] at hlen
    have hl2 : (upS hok.rv hy1).length ≤ 24 := by
      rw [← vals_len, upS_vals]
      have := upL_len hok.rv T.rs.length y (by omega) hy1
      have := hok.lr
      omega
    have hbd : ∀ q ∈ pre ++ [xr], 0 ≤ pcX T (cst T.rs q.1.toNat) z q.1.toNat ∧ pcX T (cst T.rs q.1.toNat) z q.1.toNat ≤ 350894743879680 := fun q hq => by
      have g := hpf q.1 (hmem q hq)
      exact pcX_bd g.2.2.2 g.2.1.1 g.2.1.2 g.2.2.1
    have hs := shF_bd (T := T) (w := z) (l := vals pre) (fun r hr => by
      obtain ⟨q, hq, rfl⟩ := List.mem_map.1 hr
      exact hbd q (by simp [hq]))
    rw [vals_len] at hs
    have hff := HF.out
    rw [hff] at g
    refine ⟨g.2.1, g.2.2.1, g.2.2.2, ⟨hs.1, by omega⟩, hbd xr (by simp), ?_⟩
    rw [← hff]
    rw [← hff] at g
    exact pc_ratM T _ _ (by have := g.2.1; simp only at this; omega) g.2.2.1
  have HFA := Lib.hid hfacts
  have hend : shF T z (upL T.rs y) = shX T ⟨x, y, z⟩ := rfl
  have HE := Lib.hid hend
  clear hfacts hend
  have hIb : AbidesBox (O + 1 + 1) (fun (pre : List (RIx T.rs.length)) W => ((Cls w.heap.size 25 #[.slice aa T.rs.length ca, b] W ∧ Cls (w.heap.size + 1) 45 #[.int .i64 x, .int .i64 y, .int .i64 z] W) ∧ (Cls (w.heap.size + 1 + 1) 42 #[.int .i64 0, .int .i64 0] W ∧ Cls A 107 (arr f) W)) ∧ (Cls O 42 #[.int .i64 (ratM (shF T z (vals pre))).n, .int .i64 (ratM (shF T z (vals pre))).d] W ∧ Below w.heap.size w W ∧ w3.heap.size ≤ W.heap.size)) :=
    (((abidesBox_cls _ (fun _ => #[.slice aa T.rs.length ca, b]) (by omega)).and (abidesBox_cls _ (fun _ => #[.int .i64 x, .int .i64 y, .int .i64 z]) (by omega))).and ((abidesBox_cls _ (fun _ => #[.int .i64 0, .int .i64 0]) (by omega)).and (abidesBox_cls _ (fun _ => arr f) (by omega)))).and ((abidesBox_cls _ (fun pre => #[.int .i64 (ratM (shF T z (vals pre))).n, .int .i64 (ratM (shF T z (vals pre))).d]) (by omega)).and ((abidesBox_below (by omega) (Nat.le_refl _)).and (abidesBox_size _)))
  have hI : OwnFrom w3.heap.size (fun (pre : List (RIx T.rs.length)) W => ((Cls w.heap.size 25 #[.slice aa T.rs.length ca, b] W ∧ Cls (w.heap.size + 1) 45 #[.int .i64 x, .int .i64 y, .int .i64 z] W) ∧ (Cls (w.heap.size + 1 + 1) 42 #[.int .i64 0, .int .i64 0] W ∧ Cls A 107 (arr f) W)) ∧ (Cls O 42 #[.int .i64 (ratM (shF T z (vals pre))).n, .int .i64 (ratM (shF T z (vals pre))).d] W ∧ Below w.heap.size w W ∧ w3.heap.size ≤ W.heap.size)) :=
    OwnFrom.and (OwnFrom.and (OwnFrom.and ((Cls.own _ _ (fun _ => #[.slice aa T.rs.length ca, b])).from _) ((Cls.own _ _ (fun _ => #[.int .i64 x, .int .i64 y, .int .i64 z])).from _)) (OwnFrom.and ((Cls.own _ _ (fun _ => #[.int .i64 0, .int .i64 0])).from _) ((Cls.own _ _ (fun _ => arr f)).from _))) (OwnFrom.and ((Cls.own _ _ (fun pre => #[.int .i64 (ratM (shF T z (vals pre))).n, .int .i64 (ratM (shF T z (vals pre))).d])).from _) (OwnFrom.and (ownFrom_below (Nat.le_refl _) hx0.size) (ownFrom_size _ _)))
  have hIx : ∀ c : Code, OwnFrom w3.heap.size (fun (_ : List (RIx T.rs.length)) (_ : World) => False) := fun c => fun _ _ _ _ hs _ _ => hs
  have h00 : (fun (pre : List (RIx T.rs.length)) W => ((Cls w.heap.size 25 #[.slice aa T.rs.length ca, b] W ∧ Cls (w.heap.size + 1) 45 #[.int .i64 x, .int .i64 y, .int .i64 z] W) ∧ (Cls (w.heap.size + 1 + 1) 42 #[.int .i64 0, .int .i64 0] W ∧ Cls A 107 (arr f) W)) ∧ (Cls O 42 #[.int .i64 (ratM (shF T z (vals pre))).n, .int .i64 (ratM (shF T z (vals pre))).d] W ∧ Below w.heap.size w W ∧ w3.heap.size ≤ W.heap.size)) [] w3 := ⟨⟨⟨t0, t1⟩, t2, tA⟩, (by show Cls O _ #[.int .i64 (ratM 0).n, .int .i64 (ratM 0).d] w3; rw [ratM_zero]; exact tO), hx0, Nat.le_refl _⟩
  have hn3 : w.heap.size ≤ w3.heap.size := by omega
  refine range_own (gf := 117) (lb := #[.pointer (some ⟨O + 1 + 1, 0, none⟩), .pointer (some ⟨O + 1, 0, none⟩)]) ?hg ?eg (n₀ := w.heap.size) (bs := [O + 1, O + 1 + 1]) (Br := O + 1 + 1) hn3 hbs (by omega)
    hseq ?hps _ _ hI hIx hIb h00 ?round ?done ?stop
  case hg => rfl
  case eg => exact enters_of Try.func117 (by kernel_rfl) rfl
  case hps => exact fun _ => rfl
  case round =>
    apply Exists.intro
    constructor
    · intro l x W K hK
      dsimp only [encR]
      gi_wp2
      exact hK
    · rintro l pre xr W ⟨⟨⟨i0, i1⟩, i2, iA⟩, iO, i5, i6⟩ hpl
      obtain ⟨⟨hf1, hf2⟩, hf3, hf4, hf5, hf6, hf7⟩ := HFA.out pre xr hpl
      have hpiece := fun W => piece_any x y z (cst T.rs xr.1.toNat) (f xr.1.toNat) W (by omega) (by omega) hf1 (by omega) (by omega) hf3
      have hadd := fun W => add_any (shF T z (vals pre)) (pcX T (cst T.rs xr.1.toNat) z xr.1.toNat) W (by omega) (by omega)
      have hsn := shF_snoc T z (vals pre) xr.1
      rw [hf7] at hpiece
      rw [← hsn, ← vals_snoc] at hadd
      obtain ⟨r1, hr1⟩ : ∃ r, ratM (shF T z (vals pre)) = r := ⟨_, rfl⟩
      obtain ⟨r2, hr2⟩ : ∃ r, ratM (pcX T (cst T.rs xr.1.toNat) z xr.1.toNat) = r := ⟨_, rfl⟩
      obtain ⟨r3, hr3⟩ : ∃ r, ratM (shF T z (vals (pre ++ [xr]))) = r := ⟨_, rfl⟩
      rw [hr1] at iO hadd
      rw [hr2] at hpiece hadd
      rw [hr3] at hadd
      unfold raV at hpiece hadd
      obtain ⟨xv, hxv0, hxv1⟩ := xr
      obtain ⟨i, rfl⟩ : ∃ i : Nat, xv = i := ⟨xv.toNat, by omega⟩
      have hin : i < T.rs.length := by omega
      obtain ⟨bb, oo, rfl, c0, c1⟩ := (hT.r.ext i5).get i hin
      rw [← cst_get hin] at c1
      simp only [Int.toNat_natCast] at hpiece hf1 hf2 hf3 hf4
      have hi24 : (i : Int) < 24 := by omega
      have hin24 : i < 24 := by omega
      have gA := arr_cell iA hin24
      have g0 : W.cell? ⟨w.heap.size, 0, none⟩ = some (.slice (some ⟨bb, oo, none⟩) T.rs.length ca) := i0.cell 0
      have g10 : W.cell? ⟨w.heap.size + 1, 0, none⟩ = some (.int .i64 x) := i1.cell 0
      have g11 : W.cell? ⟨w.heap.size + 1, 1, none⟩ = some (.int .i64 y) := i1.cell 1
      have g12 : W.cell? ⟨w.heap.size + 1, 2, none⟩ = some (.int .i64 z) := i1.cell 2
      have gO0 : W.cell? ⟨O, 0, none⟩ = some (.int .i64 r1.n) := iO.cell 0
      have gO1 : W.cell? ⟨O, 1, none⟩ = some (.int .i64 r1.d) := iO.cell 1
      have gF0 := iO.frozen 0
      have gF1 := iO.frozen 1
      obtain ⟨cc, hcc⟩ : ∃ cc, cst T.rs i = cc := ⟨_, rfl⟩
      obtain ⟨fi, hfi⟩ : ∃ fi, f i = fi := ⟨_, rfl⟩
      rw [hcc] at c1 hpiece
      rw [hfi] at gA hpiece
      have HR1 := Lib.hid hr1
      have HR3 := Lib.hid hr3
      have HHX := Lib.hid hxv0
      clear hf1 hf2 hf3 hf4 hf5 hf6 hf7 hsn hr1 hr2 hr3 hcc hfi hpl c0
      have hdr : Ext W W.drew := Ext.drew (Ext.refl W)
      have hmx : (Try.prog).follows .mixedOrders = true := by kernel_rfl
      gi_wp2
      refine wpIn_round_last (z := 13) (S := fun W' => W'.cell? ⟨w.heap.size, 0, none⟩ = some (.slice (some ⟨bb, oo, none⟩) T.rs.length ca) ∧ W'.cell? ⟨w.heap.size + 1, 0, none⟩ = some (.int .i64 x) ∧ W'.cell? ⟨w.heap.size + 1, 1, none⟩ = some (.int .i64 y) ∧ W'.cell? ⟨w.heap.size + 1, 2, none⟩ = some (.int .i64 z) ∧ W'.cell? ⟨bb, oo + i * 2 + 1, none⟩ = some (.int .i64 cc) ∧ W'.cell? ⟨A, i, none⟩ = some (.int .i64 fi) ∧ W'.cell? ⟨O, 0, none⟩ = some (.int .i64 r1.n) ∧ W'.cell? ⟨O, 1, none⟩ = some (.int .i64 r1.d) ∧ Ext W W') (by kernel_rfl) (by kernel_rfl) (by rintro ⟨_, _, h⟩; exact h) ?_ (fun hHeld => ?_)
      · exact ⟨g0, g10, g11, g12, c1, gA, gO0, gO1, Ext.drew (Ext.refl _)⟩
      (refine wpAnyL_take (i := 0) (v := ?_) rfl (by kernel_rfl) (by kernel_rfl) (by kernel_rfl) (by kernel_rfl) (fun _ _ _ h => h) (Or.inl ⟨by rfl, ?_⟩) (by assumption) ?_; rotate_left 1; (focus (intro w hSw; (try dsimp only at hSw); go_simp; try (with_reducible rfl))))
      try simp only [Act.put, List.getElem_toArray, List.getElem_cons_zero, List.setIfInBounds_toArray, List.set_cons_zero, List.set_cons_succ]
      (refine wpAnyL_take (i := 1) (v := ?_) rfl (by kernel_rfl) (by kernel_rfl) (by kernel_rfl) (by kernel_rfl) (fun _ _ _ h => h) (Or.inl ⟨by rfl, ?_⟩) (by assumption) ?_; rotate_left 1; (focus (intro w hSw; (try dsimp only at hSw); go_simp; try (with_reducible rfl))))
      try simp only [Act.put, List.getElem_toArray, List.getElem_cons_zero, List.getElem_cons_succ, List.setIfInBounds_toArray, List.set_cons_zero, List.set_cons_succ]
      (refine wpAnyL_take (i := 2) (v := ?_) rfl (by kernel_rfl) (by kernel_rfl) (by kernel_rfl) (by kernel_rfl) (fun _ _ _ h => h) (Or.inl ⟨by rfl, ?_⟩) (by assumption) ?_; rotate_left 1; (focus (intro w hSw; (try dsimp only at hSw); go_simp; try (with_reducible rfl))))
      try simp only [Act.put, List.getElem_toArray, List.getElem_cons_zero, List.getElem_cons_succ, List.setIfInBounds_toArray, List.set_cons_zero, List.set_cons_succ]
      (refine wpAnyL_take (i := 3) (v := ?_) rfl (by kernel_rfl) (by kernel_rfl) (by kernel_rfl) (by kernel_rfl) (fun _ _ _ h => h) (Or.inl ⟨by rfl, ?_⟩) (by assumption) ?_; rotate_left 1; (focus (intro w hSw; (try dsimp only at hSw); go_simp; try (with_reducible rfl))))
      try simp only [Act.put, List.getElem_toArray, List.getElem_cons_zero, List.getElem_cons_succ, List.setIfInBounds_toArray, List.set_cons_zero, List.set_cons_succ]
      (refine wpAnyL_take (i := 4) (v := ?_) rfl (by kernel_rfl) (by kernel_rfl) (by kernel_rfl) (by kernel_rfl) (fun _ _ _ h => h) (Or.inl ⟨by rfl, ?_⟩) (by assumption) ?_; rotate_left 1; (focus (intro w hSw; (try dsimp only at hSw); go_simp; try (with_reducible rfl))))
      try simp only [Act.put, List.getElem_toArray, List.getElem_cons_zero, List.getElem_cons_succ, List.setIfInBounds_toArray, List.set_cons_zero, List.set_cons_succ]
      (refine wpAnyL_take (i := 5) (v := ?_) rfl (by kernel_rfl) (by kernel_rfl) (by kernel_rfl) (by kernel_rfl) (fun _ _ _ h => h) (Or.inl ⟨by rfl, ?_⟩) (by assumption) ?_; rotate_left 1; (focus (intro w hSw; (try dsimp only at hSw); go_simp; try (with_reducible rfl))))
      try simp only [Act.put, List.getElem_toArray, List.getElem_cons_zero, List.getElem_cons_succ, List.setIfInBounds_toArray, List.set_cons_zero, List.set_cons_succ]
      (refine wpAnyL_take (i := 6) (v := ?_) rfl (by kernel_rfl) (by kernel_rfl) (by kernel_rfl) (by kernel_rfl) (fun _ _ _ h => h) (Or.inl ⟨by rfl, ?_⟩) (by assumption) ?_; rotate_left 1; (focus (intro w hSw; (try dsimp only at hSw); go_simp; try (with_reducible rfl))))
      try simp only [Act.put, List.getElem_toArray, List.getElem_cons_zero, List.getElem_cons_succ, List.setIfInBounds_toArray, List.set_cons_zero, List.set_cons_succ]
      (refine wpAnyL_take (i := 7) (v := ?_) rfl (by kernel_rfl) (by kernel_rfl) (by kernel_rfl) (by kernel_rfl) (fun _ _ _ h => h) (Or.inl ⟨by rfl, ?_⟩) (by assumption) ?_; rotate_left 1; (focus (intro w hSw; (try dsimp only at hSw); go_simp; try (with_reducible rfl))))
      try simp only [Act.put, List.getElem_toArray, List.getElem_cons_zero, List.getElem_cons_succ, List.setIfInBounds_toArray, List.set_cons_zero, List.set_cons_succ]
      (refine wpAnyL_take (i := 8) (v := ?_) rfl (by kernel_rfl) (by kernel_rfl) (by kernel_rfl) (by kernel_rfl) (fun _ _ _ h => h) (Or.inl ⟨by rfl, ?_⟩) (by assumption) ?_; rotate_left 1; (focus (intro w hSw; (try dsimp only at hSw); go_simp; try (with_reducible rfl))))
      try simp only [Act.put, List.getElem_toArray, List.getElem_cons_zero, List.getElem_cons_succ, List.setIfInBounds_toArray, List.set_cons_zero, List.set_cons_succ]
      (refine wpAnyL_take (i := 9) (v := ?_) rfl (by kernel_rfl) (by kernel_rfl) (by kernel_rfl) (by kernel_rfl) (fun _ _ _ h => h) (Or.inl ⟨by rfl, ?_⟩) (by assumption) ?_; rotate_left 1; (focus (intro w hSw; (try dsimp only at hSw); go_simp; try (with_reducible rfl))))
      try simp only [Act.put, List.getElem_toArray, List.getElem_cons_zero, List.getElem_cons_succ, List.setIfInBounds_toArray, List.set_cons_zero, List.set_cons_succ]
      (refine wpAnyL_take (i := 10) (v := ?_) rfl (by kernel_rfl) (by kernel_rfl) (by kernel_rfl) (by kernel_rfl) (fun _ _ _ h => h) (Or.inl ⟨by rfl, ?_⟩) (by assumption) ?_; rotate_left 1; (focus (intro w hSw; (try dsimp only at hSw); go_simp; try (with_reducible rfl))))
      try simp only [Act.put, List.getElem_toArray, List.getElem_cons_zero, List.getElem_cons_succ, List.setIfInBounds_toArray, List.set_cons_zero, List.set_cons_succ]
      refine wpAnyL_one (i := 11) (by kernel_rfl) rfl (fun K hK => ?_)
      go_simp
      go_at_call 63; refine (hpiece _).mono ?_; rintro e w4 ⟨rfl, hz⟩
      refine hK.out _ _ (fun _ => ?_) (fun hHeld => ?_)
      · obtain ⟨s1, s2, s3, s4, s5, s6, s7, s8, s9⟩ := hHeld; exact ⟨hz.cell s1, hz.cell s2, hz.cell s3, hz.cell s4, hz.cell s5, hz.cell s6, hz.cell s7, hz.cell s8, s9.trans hz⟩
      replace hHeld := hHeld (by decide)
      clear hK K
      try simp only [Act.put, List.getElem_toArray, List.getElem_cons_zero, List.getElem_cons_succ, List.setIfInBounds_toArray, List.set_cons_zero, List.set_cons_succ]
      refine wpAnyL_one (i := 12) (by kernel_rfl) rfl (fun K hK => ?_)
      go_simp
      go_at_call 120; refine (hadd _).mono ?_; rintro e w6 ⟨rfl, hz⟩
      refine hK.out _ _ (fun _ => ?_) (fun hHeld => ?_)
      · obtain ⟨s1, s2, s3, s4, s5, s6, s7, s8, s9⟩ := hHeld; exact ⟨hz.cell s1, hz.cell s2, hz.cell s3, hz.cell s4, hz.cell s5, hz.cell s6, hz.cell s7, hz.cell s8, s9.trans hz⟩
      replace hHeld := hHeld (by decide)
      clear hK K
      try simp only [Act.put, List.getElem_toArray, List.getElem_cons_zero, List.getElem_cons_succ, List.setIfInBounds_toArray, List.set_cons_zero, List.set_cons_succ]
      refine wpAnyL_one (i := 13) (by kernel_rfl) rfl (fun K hK => ?_)
      have k2 := (iO.ext hHeld.2.2.2.2.2.2.2.2).frozen 0; have k3 := (iO.ext hHeld.2.2.2.2.2.2.2.2).frozen 1; have k4 := hHeld.2.2.2.2.2.2.1; have k5 := hHeld.2.2.2.2.2.2.2.1
      go_simp
      refine hK.out _ _ (fun h => absurd rfl h) (fun _ => ?_)
      clear hK K
      try simp only [Act.put, List.getElem_toArray, List.getElem_cons_zero, List.getElem_cons_succ, List.setIfInBounds_toArray, List.set_cons_zero, List.set_cons_succ]
      refine wpAnyL_done (by kernel_rfl) ?_ _
      obtain ⟨_, _, _, _, _, _, _, _, hx6⟩ := hHeld
      have hKO : KeepsOthers W ((w6.setCell ⟨O, 0, none⟩ (.int .i64 r3.n)).setCell ⟨O, 1, none⟩ (.int .i64 r3.d)) := (ext_keeps hx6).trans ((KeepsOthers.setCell _ _ _).trans (KeepsOthers.setCell _ _ _))
      have hob : ∀ b ∈ [O + 1, O + 1 + 1], b < W.heap.size := fun b hb => Nat.lt_of_lt_of_le (hbs b hb) i6
      refine ⟨hKO.from _, KpB.trans (KpB.ext hx6 (by omega) hob) (KpB.trans (KpB.set _ (p := ⟨O, 0, none⟩) (by simp; omega) (by simp; omega) _) (KpB.set _ (p := ⟨O, 1, none⟩) (by simp; omega) (by simp; omega) _)), ⟨⟨((i0.ext hx6).other (by omega) 0 _).other (by omega) 1 _, ((i1.ext hx6).other (by omega) 0 _).other (by omega) 1 _⟩, ((i2.ext hx6).other (by omega) 0 _).other (by omega) 1 _, ((iA.ext hx6).other (by omega) 0 _).other (by omega) 1 _⟩, ?_, ((i5.trans (Below.mono hx6 (by omega))).setCell (p := ⟨O, 0, none⟩) (by simp; omega) _).setCell (p := ⟨O, 1, none⟩) (by simp; omega) _, Nat.le_trans i6 hKO.size⟩
      show Cls O _ #[.int .i64 (ratM (shF T z (vals (pre ++ [_])))).n, .int .i64 (ratM (shF T z (vals (pre ++ [_])))).d] _
      rw [HR3.out]
      exact ((iO.ext hx6).set 0 (.int .i64 r3.n)).set 1 (.int .i64 r3.d)
  case done =>
    rintro D xs W5 hD rfl ⟨⟨⟨i0, i1⟩, i2, iA⟩, iO, i5, i6⟩ hK
    rw [upS_vals, HE.out, HU.out] at iO
    have m0 : W5.cell? ⟨w.heap.size + 1 + 1, 0, none⟩ = some (.int .i64 0) := i2.cell 0
    have m1 : W5.cell? ⟨w.heap.size + 1 + 1, 1, none⟩ = some (.int .i64 0) := i2.cell 1
    have m2 := i2.frozen 0
    have m3 := i2.frozen 1
    have m4 : W5.cell? ⟨O, 0, none⟩ = some (.int .i64 U.n) := iO.cell 0
    have m5 : W5.cell? ⟨O, 1, none⟩ = some (.int .i64 U.d) := iO.cell 1
    gi_wp2
    have hKs := ((KeepsOthers.setCell W5 ⟨w.heap.size + 1 + 1, 0, none⟩ (.int .i64 U.n)).trans (KeepsOthers.setCell _ ⟨w.heap.size + 1 + 1, 1, none⟩ (.int .i64 U.d))).same D _ hK rfl
    refine ⟨by simp, .inl ⟨_, _, rfl, run_takeDeferred hKs, ?_⟩⟩
    have hC := ((i2.set 0 (.int .i64 U.n)).set 1 (.int .i64 U.d)).putObj (.deferred none) hKs rfl
    exact ⟨_, results_cell_row rfl _ _ (w.heap.size + 1 + 1) _ _ _ _ rfl hC Try.underlying42 rfl (by kernel_rfl), rfl, ((i5.setCell (p := ⟨w.heap.size + 1 + 1, 0, none⟩) (by simp; omega) _).setCell (p := ⟨w.heap.size + 1 + 1, 1, none⟩) (by simp; omega) _).trans (belowK_b (w := w) (Nat.le_refl _) _ D _ _ (by omega) hKs rfl rfl)⟩
  case stop =>
    rintro D c pre W5 _ _ h _
    exact h.elim
end Go.Proofs.Ythopgonbndoidaa
