/- share of the program: what a payer pays. Rows of fractions; shares and Shares of the program. -/
import Derived.Test.YthopgonbndoidaaVWt
import Derived.Test.YthopgonbndoidaaVBase
import Derived.Test.YthopgonbndoidaaVChk
import Derived.Laws.OwnMore
import Derived.OwnWalkIn
import Derived.Maps.AppendAt
import Derived.Deep.DeepMust
namespace Go.Proofs.Ythopgonbndoidaa
open Go.RowKit Go.Shelf

theorem ratM_zero : ratM 0 = ⟨0, 1⟩ := by
  have h1 : (ratM 0).n = 0 := by decide +kernel
  have h2 : (ratM 0).d = 1 := by decide +kernel
  show (⟨(ratM 0).n, (ratM 0).d⟩ : Ra) = _
  rw [h1, h2]
attribute [local go_sem] Oper.semAt_some

set_option maxRecDepth 100000 in
set_option maxHeartbeats 4000000 in
theorem share_any (a b : Value) (T : Tr) (hok : Ok T) (x y z : Int) (hp : (⟨x, y, z⟩ : Py) ∈ T.ps) (w : World) (hT : TrAt w a b T) :
    Calls Try.prog 100 #[.agg #[a, b], .agg #[.int .i64 x, .int .i64 y, .int .i64 z]] w fun e w' => e = .returned (raV (ratM (shX T ⟨x, y, z⟩))) ∧ Ext w w' := by
  obtain ⟨U, hU⟩ : ∃ U, ratM (shX T ⟨x, y, z⟩) = U := ⟨_, rfl⟩
  have HU := Lib.hid hU
  rw [hU]
  clear hU
  have hv := hok.pv _ hp
  have hy1 : y < T.rs.length := hv.2.1.2
  have hy0 : -1 ≤ y := by have := hv.2.1.1; simp only at this; omega
  have HP := Lib.hid hp
  have HW := Lib.hid (fun W (h : Ext w W) => weights_any a b T hok W (hT.ext h))
  clear hv hp
  obtain ⟨f, hf⟩ : ∃ f, wtA T.rs T.ps = f := ⟨_, rfl⟩
  have HF := Lib.hid hf
  rw [hf] at HW
  clear hf
  obtain ⟨aa, ca, rfl, hla⟩ := hT.r.len
  have hlr := hok.lr
  refine (callsIn_wide (n := 5)).1 ?_
  refine callsIn_of_wp_marks Try.func100 rfl trivial ?_ rfl; simp only [Try.ntmps100, List.size_toArray, List.length_cons, List.length_nil, Nat.reduceAdd, Nat.reduceSub, Array.replicate_succ, Array.replicate_zero, List.push_toArray, List.append_toArray, List.nil_append, List.cons_append]
  gi_wp2_with fail
  refine ⟨trivial, (callsIn_wide.2 (HW.out _ (by repeat (first | exact Ext.refl _ | assumption | refine Ext.alloc ?_ _ | refine Ext.drew ?_ | refine Ext.drewN _ ?_ | refine Ext.trans ?_ (by assumption))))).mono ?_⟩
  rintro e w1 ⟨rfl, hz⟩
  obtain ⟨q0, q1, q2, hx1, hs1⟩ := alloc3 hz
  clear hz
  obtain ⟨A, hA⟩ : ∃ A, w1.heap.size = A := ⟨_, rfl⟩
  obtain ⟨Y, hY⟩ : ∃ Y, w1.alloc (.cells (arr (fun _ => 0)) 107) = Y := ⟨_, rfl⟩
  have hxY : Ext w1 Y := by rw [← hY]; exact (by repeat (first | exact Ext.refl _ | assumption | refine Ext.alloc ?_ _ | refine Ext.drew ?_ | refine Ext.drewN _ ?_ | refine Ext.trans ?_ (by assumption)))
  have hbY : Cls A 107 (arr (fun _ => 0)) Y := by rw [← hY]; exact Cls.newAt _ _ _ hA.symm
  have hsY : Y.heap.size = A + 1 := by rw [← hY, World.size_alloc, hA]
  rw [arr_zero] at hY
  have q0Y := q0.ext hxY
  have q1Y := q1.ext hxY
  have q2Y := q2.ext hxY
  gi_wp2_with (refine wpListIn_store_row rfl _ _ _ rfl _ (arr f) rfl rfl _ _ hbY (by rw [arr_size]; kernel_rfl) (by rw [arr_size, arr_size]) (arr_one _) ?_; intro w5 hC5 hg5
               have z0 := q0Y.kept hg5 (by intro e; injection e with e; omega)
               have z1 := q1Y.kept hg5 (by intro e; injection e with e; omega)
               have d0 : (w5.alloc (.cells #[.int .i64 0, .int .i64 1] 42)).cell? ⟨w.heap.size, 0, none⟩ = some (.slice aa T.rs.length ca) := Ext.cell (by repeat (first | exact Ext.refl _ | assumption | refine Ext.alloc ?_ _ | refine Ext.drew ?_ | refine Ext.drewN _ ?_ | refine Ext.trans ?_ (by assumption))) (z0.cell 0)
               have d1 : (w5.alloc (.cells #[.int .i64 0, .int .i64 1] 42)).cell? ⟨w.heap.size, 1, none⟩ = some b := Ext.cell (by repeat (first | exact Ext.refl _ | assumption | refine Ext.alloc ?_ _ | refine Ext.drew ?_ | refine Ext.drewN _ ?_ | refine Ext.trans ?_ (by assumption))) (z0.cell 1)
               have d2 : (w5.alloc (.cells #[.int .i64 0, .int .i64 1] 42)).cell? ⟨w.heap.size + 1, 1, none⟩ = some (.int .i64 y) := Ext.cell (by repeat (first | exact Ext.refl _ | assumption | refine Ext.alloc ?_ _ | refine Ext.drew ?_ | refine Ext.drewN _ ?_ | refine Ext.trans ?_ (by assumption))) (z1.cell 1))
  clear d0 d1 d2
  refine ⟨trivial, (callsIn_wide.2 (up_any _ _ y _)).mono ?_⟩
  rintro e w3 ⟨rfl, hw3⟩
  obtain ⟨O, hO⟩ : ∃ O, w5.heap.size = O := ⟨_, rfl⟩
  obtain ⟨Z, hZ⟩ : ∃ Z, w5.alloc (.cells #[.int .i64 0, .int .i64 1] 42) = Z := ⟨_, rfl⟩
  have hxZ : Ext w5 Z := by rw [← hZ]; exact (by repeat (first | exact Ext.refl _ | assumption | refine Ext.alloc ?_ _ | refine Ext.drew ?_ | refine Ext.drewN _ ?_ | refine Ext.trans ?_ (by assumption)))
  have hbZ : Cls O 42 #[.int .i64 0, .int .i64 1] Z := by rw [← hZ]; exact Cls.newAt _ _ _ hO.symm
  have hsZ : Z.heap.size = O + 1 := by rw [← hZ, World.size_alloc, hO]
  rw [hZ] at hw3
  obtain ⟨p0, p1, hx3, hs3⟩ := up_boxes hw3
  rw [hsZ] at p0 p1 hs3
  have z2 := q2Y.kept hg5 (by intro e; injection e with e; omega)
  have hx0 : Ext w w3 := (((hx1.trans hxY).grown hg5 (by omega)).trans hxZ).trans hx3
  have hAO : A + 1 ≤ O := by have := hg5.size; omega
  have t0 := (z0.ext hxZ).ext hx3
  have t1 := (z1.ext hxZ).ext hx3
  have t2 := (z2.ext hxZ).ext hx3
  have tA := (hC5.ext hxZ).ext hx3
  have tO := hbZ.ext hx3
  try rw [hO]
  clear hw3 hZ hxZ hx3 hY hxY hbY hsY hg5 q0 q1 q2 q0Y q1Y q2Y z0 z1 z2 hC5 hbZ hsZ hx1
  gi_wp2_with fail
  have hseq := up_seq (O + 1) (O + 1 + 1) T hok.rv _ _ y hy0 hy1 w w3 hx0 _ _ (by omega) (by omega) p0 p1 hT.r
  have hbs : ∀ b ∈ [O + 1, O + 1 + 1], b < w3.heap.size := by simp; omega
  have hfacts : ∀ (pre : List (RIx T.rs.length)) (xr : RIx T.rs.length), pre ++ [xr] <+: upS hok.rv hy1 → (1 ≤ z ∧ z ≤ f xr.1.toNat) ∧ f xr.1.toNat ≤ 24 ∧ (0 ≤ cst T.rs xr.1.toNat ∧ cst T.rs xr.1.toNat ≤ 65536) ∧
      (0 ≤ shF T z (vals pre) ∧ shF T z (vals pre) ≤ 8421473853112320) ∧ (0 ≤ pcX T (cst T.rs xr.1.toNat) z xr.1.toNat ∧ pcX T (cst T.rs xr.1.toNat) z xr.1.toNat ≤ 350894743879680) ∧ ratF (cst T.rs xr.1.toNat * z) (f xr.1.toNat) = ratM (pcX T (cst T.rs xr.1.toNat) z xr.1.toNat) := by
    intro pre xr hpr
    have hmem : ∀ q ∈ pre ++ [xr], q.1 ∈ upL T.rs y := by
      intro q hq
      rw [← upS_vals hok.rv hy1]
      exact List.mem_map.2 ⟨q, hpr.subset hq, rfl⟩
    have hpf := fun q hq => pay_facts hok HP.out (r := q) hq
    have g := hpf xr.1 (hmem xr (by simp))
    have hlen := hpr.length_le
    rw [List.length_append, List.length_singleton] at hlen
    have hl2 : (upS hok.rv hy1).length ≤ 24 := by
      rw [← vals_len, upS_vals]
      have := upL_len hok.rv T.rs.length y (by omega) hy1
      have := hok.lr
      omega
    have hbd : ∀ q ∈ pre ++ [xr], 0 ≤ pcX T (cst T.rs q.1.toNat) z q.1.toNat ∧ pcX T (cst T.rs q.1.toNat) z q.1.toNat ≤ 350894743879680 := fun q hq => by
      have g := hpf q.1 (hmem q hq)
      exact pcX_bd g.2.2.2 g.2.1.1 g.2.1.2 g.2.2.1
    have hs := shF_bd (T := T) (w := z) (l := vals pre) (fun r hr => by
      obtain ⟨q, hq, rfl⟩ := List.mem_map.1 hr
      exact hbd q (by simp [hq]))
    rw [vals_len] at hs
    have hff := HF.out
    rw [hff] at g
    refine ⟨g.2.1, g.2.2.1, g.2.2.2, ⟨hs.1, by omega⟩, hbd xr (by simp), ?_⟩
    rw [← hff]
    rw [← hff] at g
    exact pc_ratM T _ _ (by have := g.2.1; simp only at this; omega) g.2.2.1
  have HFA := Lib.hid hfacts
  have hend : shF T z (upL T.rs y) = shX T ⟨x, y, z⟩ := rfl
  have HE := Lib.hid hend
  clear hfacts hend
  have hIb : AbidesBox (O + 1 + 1) (fun (pre : List (RIx T.rs.length)) W => ((Cls w.heap.size 25 #[.slice aa T.rs.length ca, b] W ∧ Cls (w.heap.size + 1) 45 #[.int .i64 x, .int .i64 y, .int .i64 z] W) ∧ (Cls (w.heap.size + 1 + 1) 42 #[.int .i64 0, .int .i64 0] W ∧ Cls A 107 (arr f) W)) ∧ (Cls O 42 #[.int .i64 (ratM (shF T z (vals pre))).n, .int .i64 (ratM (shF T z (vals pre))).d] W ∧ Below w.heap.size w W ∧ w3.heap.size ≤ W.heap.size)) :=
    (((abidesBox_cls _ (fun _ => #[.slice aa T.rs.length ca, b]) (by omega)).and (abidesBox_cls _ (fun _ => #[.int .i64 x, .int .i64 y, .int .i64 z]) (by omega))).and ((abidesBox_cls _ (fun _ => #[.int .i64 0, .int .i64 0]) (by omega)).and (abidesBox_cls _ (fun _ => arr f) (by omega)))).and ((abidesBox_cls _ (fun pre => #[.int .i64 (ratM (shF T z (vals pre))).n, .int .i64 (ratM (shF T z (vals pre))).d]) (by omega)).and ((abidesBox_below (by omega) (Nat.le_refl _)).and (abidesBox_size _)))
  have hI : OwnFrom w3.heap.size (fun (pre : List (RIx T.rs.length)) W => ((Cls w.heap.size 25 #[.slice aa T.rs.length ca, b] W ∧ Cls (w.heap.size + 1) 45 #[.int .i64 x, .int .i64 y, .int .i64 z] W) ∧ (Cls (w.heap.size + 1 + 1) 42 #[.int .i64 0, .int .i64 0] W ∧ Cls A 107 (arr f) W)) ∧ (Cls O 42 #[.int .i64 (ratM (shF T z (vals pre))).n, .int .i64 (ratM (shF T z (vals pre))).d] W ∧ Below w.heap.size w W ∧ w3.heap.size ≤ W.heap.size)) :=
    OwnFrom.and (OwnFrom.and (OwnFrom.and ((Cls.own _ _ (fun _ => #[.slice aa T.rs.length ca, b])).from _) ((Cls.own _ _ (fun _ => #[.int .i64 x, .int .i64 y, .int .i64 z])).from _)) (OwnFrom.and ((Cls.own _ _ (fun _ => #[.int .i64 0, .int .i64 0])).from _) ((Cls.own _ _ (fun _ => arr f)).from _))) (OwnFrom.and ((Cls.own _ _ (fun pre => #[.int .i64 (ratM (shF T z (vals pre))).n, .int .i64 (ratM (shF T z (vals pre))).d])).from _) (OwnFrom.and (ownFrom_below (Nat.le_refl _) hx0.size) (ownFrom_size _ _)))
  have hIx : ∀ c : Code, OwnFrom w3.heap.size (fun (_ : List (RIx T.rs.length)) (_ : World) => False) := fun c => fun _ _ _ _ hs _ _ => hs
  have h00 : (fun (pre : List (RIx T.rs.length)) W => ((Cls w.heap.size 25 #[.slice aa T.rs.length ca, b] W ∧ Cls (w.heap.size + 1) 45 #[.int .i64 x, .int .i64 y, .int .i64 z] W) ∧ (Cls (w.heap.size + 1 + 1) 42 #[.int .i64 0, .int .i64 0] W ∧ Cls A 107 (arr f) W)) ∧ (Cls O 42 #[.int .i64 (ratM (shF T z (vals pre))).n, .int .i64 (ratM (shF T z (vals pre))).d] W ∧ Below w.heap.size w W ∧ w3.heap.size ≤ W.heap.size)) [] w3 := ⟨⟨⟨t0, t1⟩, t2, tA⟩, (by show Cls O _ #[.int .i64 (ratM 0).n, .int .i64 (ratM 0).d] w3; rw [ratM_zero]; exact tO), hx0, Nat.le_refl _⟩
  have hn3 : w.heap.size ≤ w3.heap.size := by omega
  refine range_own (gf := 117) (lb := #[.pointer (some ⟨O + 1 + 1, 0, none⟩), .pointer (some ⟨O + 1, 0, none⟩)]) ?hg ?eg (n₀ := w.heap.size) (bs := [O + 1, O + 1 + 1]) (Br := O + 1 + 1) hn3 hbs (by omega)
    hseq ?hps _ _ hI hIx hIb h00 ?round ?done ?stop
  case hg => rfl
  case eg => exact enters_of Try.func117 (by kernel_rfl) rfl
  case hps => exact fun _ => rfl
  case round =>
    apply Exists.intro
    constructor
    · intro l x W K hK
      dsimp only [encR]
      gi_wp2
      exact hK
    · rintro l pre xr W ⟨⟨⟨i0, i1⟩, i2, iA⟩, iO, i5, i6⟩ hpl
      obtain ⟨⟨hf1, hf2⟩, hf3, hf4, hf5, hf6, hf7⟩ := HFA.out pre xr hpl
      have hpiece := fun W => piece_any x y z (cst T.rs xr.1.toNat) (f xr.1.toNat) W (by omega) (by omega) hf1 (by omega) (by omega) hf3
      have hadd := fun W => add_any (shF T z (vals pre)) (pcX T (cst T.rs xr.1.toNat) z xr.1.toNat) W (by omega) (by omega)
      have hsn := shF_snoc T z (vals pre) xr.1
      rw [hf7] at hpiece
      rw [← hsn, ← vals_snoc] at hadd
      obtain ⟨r1, hr1⟩ : ∃ r, ratM (shF T z (vals pre)) = r := ⟨_, rfl⟩
      obtain ⟨r2, hr2⟩ : ∃ r, ratM (pcX T (cst T.rs xr.1.toNat) z xr.1.toNat) = r := ⟨_, rfl⟩
      obtain ⟨r3, hr3⟩ : ∃ r, ratM (shF T z (vals (pre ++ [xr]))) = r := ⟨_, rfl⟩
      rw [hr1] at iO hadd
      rw [hr2] at hpiece hadd
      rw [hr3] at hadd
      unfold raV at hpiece hadd
      obtain ⟨xv, hxv0, hxv1⟩ := xr
      obtain ⟨i, rfl⟩ : ∃ i : Nat, xv = i := ⟨xv.toNat, by omega⟩
      have hin : i < T.rs.length := by omega
      obtain ⟨bb, oo, rfl, c0, c1⟩ := (hT.r.ext i5).get i hin
      rw [← cst_get hin] at c1
      simp only [Int.toNat_natCast] at hpiece hf1 hf2 hf3 hf4
      have hi24 : (i : Int) < 24 := by omega
      have hin24 : i < 24 := by omega
      have gA := arr_cell iA hin24
      have g0 : W.cell? ⟨w.heap.size, 0, none⟩ = some (.slice (some ⟨bb, oo, none⟩) T.rs.length ca) := i0.cell 0
      have g10 : W.cell? ⟨w.heap.size + 1, 0, none⟩ = some (.int .i64 x) := i1.cell 0
      have g11 : W.cell? ⟨w.heap.size + 1, 1, none⟩ = some (.int .i64 y) := i1.cell 1
      have g12 : W.cell? ⟨w.heap.size + 1, 2, none⟩ = some (.int .i64 z) := i1.cell 2
      have gO0 : W.cell? ⟨O, 0, none⟩ = some (.int .i64 r1.n) := iO.cell 0
      have gO1 : W.cell? ⟨O, 1, none⟩ = some (.int .i64 r1.d) := iO.cell 1
      have gF0 := iO.frozen 0
      have gF1 := iO.frozen 1
      obtain ⟨cc, hcc⟩ : ∃ cc, cst T.rs i = cc := ⟨_, rfl⟩
      obtain ⟨fi, hfi⟩ : ∃ fi, f i = fi := ⟨_, rfl⟩
      rw [hcc] at c1 hpiece
      rw [hfi] at gA hpiece
      have HR1 := Lib.hid hr1
      have HR3 := Lib.hid hr3
      have HHX := Lib.hid hxv0
      clear hf1 hf2 hf3 hf4 hf5 hf6 hf7 hsn hr1 hr2 hr3 hcc hfi hpl c0
      have hdr : Ext W W.drew := Ext.drew (Ext.refl W)
      have hmx : (Try.prog).follows .mixedOrders = true := by kernel_rfl
      gi_wp2
      refine wpIn_round_last (z := 13) (S := fun W' => W'.cell? ⟨w.heap.size, 0, none⟩ = some (.slice (some ⟨bb, oo, none⟩) T.rs.length ca) ∧ W'.cell? ⟨w.heap.size + 1, 0, none⟩ = some (.int .i64 x) ∧ W'.cell? ⟨w.heap.size + 1, 1, none⟩ = some (.int .i64 y) ∧ W'.cell? ⟨w.heap.size + 1, 2, none⟩ = some (.int .i64 z) ∧ W'.cell? ⟨bb, oo + i * 2 + 1, none⟩ = some (.int .i64 cc) ∧ W'.cell? ⟨A, i, none⟩ = some (.int .i64 fi) ∧ W'.cell? ⟨O, 0, none⟩ = some (.int .i64 r1.n) ∧ W'.cell? ⟨O, 1, none⟩ = some (.int .i64 r1.d) ∧ Ext W W') (by kernel_rfl) (by kernel_rfl) (by rintro ⟨_, _, h⟩; exact h) ?_ (fun hHeld => ?_)
      · exact ⟨g0, g10, g11, g12, c1, gA, gO0, gO1, Ext.drew (Ext.refl _)⟩
      (refine wpAnyL_take (i := 0) (v := ?_) rfl (by kernel_rfl) (by kernel_rfl) (by kernel_rfl) (by kernel_rfl) (fun _ _ _ h => h) (Or.inl ⟨by rfl, ?_⟩) (by assumption) ?_; rotate_left 1; (focus (intro w hSw; (try dsimp only at hSw); go_simp; try (with_reducible rfl))))
      try simp only [Act.put, List.getElem_toArray, List.getElem_cons_zero, List.setIfInBounds_toArray, List.set_cons_zero, List.set_cons_succ]
      (refine wpAnyL_take (i := 1) (v := ?_) rfl (by kernel_rfl) (by kernel_rfl) (by kernel_rfl) (by kernel_rfl) (fun _ _ _ h => h) (Or.inl ⟨by rfl, ?_⟩) (by assumption) ?_; rotate_left 1; (focus (intro w hSw; (try dsimp only at hSw); go_simp; try (with_reducible rfl))))
      try simp only [Act.put, List.getElem_toArray, List.getElem_cons_zero, List.getElem_cons_succ, List.setIfInBounds_toArray, List.set_cons_zero, List.set_cons_succ]
      (refine wpAnyL_take (i := 2) (v := ?_) rfl (by kernel_rfl) (by kernel_rfl) (by kernel_rfl) (by kernel_rfl) (fun _ _ _ h => h) (Or.inl ⟨by rfl, ?_⟩) (by assumption) ?_; rotate_left 1; (focus (intro w hSw; (try dsimp only at hSw); go_simp; try (with_reducible rfl))))
      try simp only [Act.put, List.getElem_toArray, List.getElem_cons_zero, List.getElem_cons_succ, List.setIfInBounds_toArray, List.set_cons_zero, List.set_cons_succ]
      (refine wpAnyL_take (i := 3) (v := ?_) rfl (by kernel_rfl) (by kernel_rfl) (by kernel_rfl) (by kernel_rfl) (fun _ _ _ h => h) (Or.inl ⟨by rfl, ?_⟩) (by assumption) ?_; rotate_left 1; (focus (intro w hSw; (try dsimp only at hSw); go_simp; try (with_reducible rfl))))
      try simp only [Act.put, List.getElem_toArray, List.getElem_cons_zero, List.getElem_cons_succ, List.setIfInBounds_toArray, List.set_cons_zero, List.set_cons_succ]
      (refine wpAnyL_take (i := 4) (v := ?_) rfl (by kernel_rfl) (by kernel_rfl) (by kernel_rfl) (by kernel_rfl) (fun _ _ _ h => h) (Or.inl ⟨by rfl, ?_⟩) (by assumption) ?_; rotate_left 1; (focus (intro w hSw; (try dsimp only at hSw); go_simp; try (with_reducible rfl))))
      try simp only [Act.put, List.getElem_toArray, List.getElem_cons_zero, List.getElem_cons_succ, List.setIfInBounds_toArray, List.set_cons_zero, List.set_cons_succ]
      (refine wpAnyL_take (i := 5) (v := ?_) rfl (by kernel_rfl) (by kernel_rfl) (by kernel_rfl) (by kernel_rfl) (fun _ _ _ h => h) (Or.inl ⟨by rfl, ?_⟩) (by assumption) ?_; rotate_left 1; (focus (intro w hSw; (try dsimp only at hSw); go_simp; try (with_reducible rfl))))
      try simp only [Act.put, List.getElem_toArray, List.getElem_cons_zero, List.getElem_cons_succ, List.setIfInBounds_toArray, List.set_cons_zero, List.set_cons_succ]
      (refine wpAnyL_take (i := 6) (v := ?_) rfl (by kernel_rfl) (by kernel_rfl) (by kernel_rfl) (by kernel_rfl) (fun _ _ _ h => h) (Or.inl ⟨by rfl, ?_⟩) (by assumption) ?_; rotate_left 1; (focus (intro w hSw; (try dsimp only at hSw); go_simp; try (with_reducible rfl))))
      try simp only [Act.put, List.getElem_toArray, List.getElem_cons_zero, List.getElem_cons_succ, List.setIfInBounds_toArray, List.set_cons_zero, List.set_cons_succ]
      (refine wpAnyL_take (i := 7) (v := ?_) rfl (by kernel_rfl) (by kernel_rfl) (by kernel_rfl) (by kernel_rfl) (fun _ _ _ h => h) (Or.inl ⟨by rfl, ?_⟩) (by assumption) ?_; rotate_left 1; (focus (intro w hSw; (try dsimp only at hSw); go_simp; try (with_reducible rfl))))
      try simp only [Act.put, List.getElem_toArray, List.getElem_cons_zero, List.getElem_cons_succ, List.setIfInBounds_toArray, List.set_cons_zero, List.set_cons_succ]
      (refine wpAnyL_take (i := 8) (v := ?_) rfl (by kernel_rfl) (by kernel_rfl) (by kernel_rfl) (by kernel_rfl) (fun _ _ _ h => h) (Or.inl ⟨by rfl, ?_⟩) (by assumption) ?_; rotate_left 1; (focus (intro w hSw; (try dsimp only at hSw); go_simp; try (with_reducible rfl))))
      try simp only [Act.put, List.getElem_toArray, List.getElem_cons_zero, List.getElem_cons_succ, List.setIfInBounds_toArray, List.set_cons_zero, List.set_cons_succ]
      (refine wpAnyL_take (i := 9) (v := ?_) rfl (by kernel_rfl) (by kernel_rfl) (by kernel_rfl) (by kernel_rfl) (fun _ _ _ h => h) (Or.inl ⟨by rfl, ?_⟩) (by assumption) ?_; rotate_left 1; (focus (intro w hSw; (try dsimp only at hSw); go_simp; try (with_reducible rfl))))
      try simp only [Act.put, List.getElem_toArray, List.getElem_cons_zero, List.getElem_cons_succ, List.setIfInBounds_toArray, List.set_cons_zero, List.set_cons_succ]
      (refine wpAnyL_take (i := 10) (v := ?_) rfl (by kernel_rfl) (by kernel_rfl) (by kernel_rfl) (by kernel_rfl) (fun _ _ _ h => h) (Or.inl ⟨by rfl, ?_⟩) (by assumption) ?_; rotate_left 1; (focus (intro w hSw; (try dsimp only at hSw); go_simp; try (with_reducible rfl))))
      try simp only [Act.put, List.getElem_toArray, List.getElem_cons_zero, List.getElem_cons_succ, List.setIfInBounds_toArray, List.set_cons_zero, List.set_cons_succ]
      refine wpAnyL_one (i := 11) (by kernel_rfl) rfl (fun K hK => ?_)
      go_simp
      go_at_call 63; refine (hpiece _).mono ?_; rintro e w4 ⟨rfl, hz⟩
      refine hK.out _ _ (fun _ => ?_) (fun hHeld => ?_)
      · obtain ⟨s1, s2, s3, s4, s5, s6, s7, s8, s9⟩ := hHeld; exact ⟨hz.cell s1, hz.cell s2, hz.cell s3, hz.cell s4, hz.cell s5, hz.cell s6, hz.cell s7, hz.cell s8, s9.trans hz⟩
      replace hHeld := hHeld (by decide)
      clear hK K
      try simp only [Act.put, List.getElem_toArray, List.getElem_cons_zero, List.getElem_cons_succ, List.setIfInBounds_toArray, List.set_cons_zero, List.set_cons_succ]
      refine wpAnyL_one (i := 12) (by kernel_rfl) rfl (fun K hK => ?_)
      go_simp
      go_at_call 120; refine (hadd _).mono ?_; rintro e w6 ⟨rfl, hz⟩
      refine hK.out _ _ (fun _ => ?_) (fun hHeld => ?_)
      · obtain ⟨s1, s2, s3, s4, s5, s6, s7, s8, s9⟩ := hHeld; exact ⟨hz.cell s1, hz.cell s2, hz.cell s3, hz.cell s4, hz.cell s5, hz.cell s6, hz.cell s7, hz.cell s8, s9.trans hz⟩
      replace hHeld := hHeld (by decide)
      clear hK K
      try simp only [Act.put, List.getElem_toArray, List.getElem_cons_zero, List.getElem_cons_succ, List.setIfInBounds_toArray, List.set_cons_zero, List.set_cons_succ]
      refine wpAnyL_one (i := 13) (by kernel_rfl) rfl (fun K hK => ?_)
      have k2 := (iO.ext hHeld.2.2.2.2.2.2.2.2).frozen 0; have k3 := (iO.ext hHeld.2.2.2.2.2.2.2.2).frozen 1; have k4 := hHeld.2.2.2.2.2.2.1; have k5 := hHeld.2.2.2.2.2.2.2.1
      go_simp
      refine hK.out _ _ (fun h => absurd rfl h) (fun _ => ?_)
      clear hK K
      try simp only [Act.put, List.getElem_toArray, List.getElem_cons_zero, List.getElem_cons_succ, List.setIfInBounds_toArray, List.set_cons_zero, List.set_cons_succ]
      refine wpAnyL_done (by kernel_rfl) ?_ _
      obtain ⟨_, _, _, _, _, _, _, _, hx6⟩ := hHeld
      have hKO : KeepsOthers W ((w6.setCell ⟨O, 0, none⟩ (.int .i64 r3.n)).setCell ⟨O, 1, none⟩ (.int .i64 r3.d)) := (ext_keeps hx6).trans ((KeepsOthers.setCell _ _ _).trans (KeepsOthers.setCell _ _ _))
      have hob : ∀ b ∈ [O + 1, O + 1 + 1], b < W.heap.size := fun b hb => Nat.lt_of_lt_of_le (hbs b hb) i6
      refine ⟨hKO.from _, KpB.trans (KpB.ext hx6 (by omega) hob) (KpB.trans (KpB.set _ (p := ⟨O, 0, none⟩) (by simp; omega) (by simp; omega) _) (KpB.set _ (p := ⟨O, 1, none⟩) (by simp; omega) (by simp; omega) _)), ⟨⟨((i0.ext hx6).other (by omega) 0 _).other (by omega) 1 _, ((i1.ext hx6).other (by omega) 0 _).other (by omega) 1 _⟩, ((i2.ext hx6).other (by omega) 0 _).other (by omega) 1 _, ((iA.ext hx6).other (by omega) 0 _).other (by omega) 1 _⟩, ?_, ((i5.trans (Below.mono hx6 (by omega))).setCell (p := ⟨O, 0, none⟩) (by simp; omega) _).setCell (p := ⟨O, 1, none⟩) (by simp; omega) _, Nat.le_trans i6 hKO.size⟩
      show Cls O _ #[.int .i64 (ratM (shF T z (vals (pre ++ [_])))).n, .int .i64 (ratM (shF T z (vals (pre ++ [_])))).d] _
      rw [HR3.out]
      exact ((iO.ext hx6).set 0 (.int .i64 r3.n)).set 1 (.int .i64 r3.d)
  case done =>
    rintro D xs W5 hD rfl ⟨⟨⟨i0, i1⟩, i2, iA⟩, iO, i5, i6⟩ hK
    rw [upS_vals, HE.out, HU.out] at iO
    have m0 : W5.cell? ⟨w.heap.size + 1 + 1, 0, none⟩ = some (.int .i64 0) := i2.cell 0
    have m1 : W5.cell? ⟨w.heap.size + 1 + 1, 1, none⟩ = some (.int .i64 0) := i2.cell 1
    have m2 := i2.frozen 0
    have m3 := i2.frozen 1
    have m4 : W5.cell? ⟨O, 0, none⟩ = some (.int .i64 U.n) := iO.cell 0
    have m5 : W5.cell? ⟨O, 1, none⟩ = some (.int .i64 U.d) := iO.cell 1
    gi_wp2
    have hKs := ((KeepsOthers.setCell W5 ⟨w.heap.size + 1 + 1, 0, none⟩ (.int .i64 U.n)).trans (KeepsOthers.setCell _ ⟨w.heap.size + 1 + 1, 1, none⟩ (.int .i64 U.d))).same D _ hK rfl
    refine ⟨by simp, .inl ⟨_, _, rfl, run_takeDeferred hKs, ?_⟩⟩
    have hC := ((i2.set 0 (.int .i64 U.n)).set 1 (.int .i64 U.d)).putObj (.deferred none) hKs rfl
    exact ⟨_, results_cell_row rfl _ _ (w.heap.size + 1 + 1) _ _ _ _ rfl hC Try.underlying42 rfl (by kernel_rfl), rfl, ((i5.setCell (p := ⟨w.heap.size + 1 + 1, 0, none⟩) (by simp; omega) _).setCell (p := ⟨w.heap.size + 1 + 1, 1, none⟩) (by simp; omega) _).trans (belowK_b (w := w) (Nat.le_refl _) _ D _ _ (by omega) hKs rfl rfl)⟩
  case stop =>
    rintro D c pre W5 _ _ h _
    exact h.elim
end Go.Proofs.Ythopgonbndoidaa
namespace Go.Proofs.Ythopgonbndoidaa
open Go.RowKit Go.Shelf

def cellsR (l : List Ra) : List Value := l.flatMap (fun r => [Value.int .i64 r.n, Value.int .i64 r.d])
theorem cellsR_len (l : List Ra) : (cellsR l).length = l.length * 2 := by
  induction l with
  | nil => rfl
  | cons s l ih => simp [cellsR] at *; omega
theorem cellsR_append (l r : List Ra) : cellsR (l ++ r) = cellsR l ++ cellsR r := by simp [cellsR]
theorem cellsR_get (l : List Ra) (i : Nat) (h : i < l.length) : (cellsR l)[i * 2]? = some (.int .i64 l[i].n) ∧ (cellsR l)[i * 2 + 1]? = some (.int .i64 l[i].d) := by
  induction l generalizing i with
  | nil => simp at h
  | cons s l ih =>
    cases i with
    | zero => simp [cellsR]
    | succ i =>
      have := ih i (by simpa using h)
      simp only [cellsR, List.flatMap_cons] at *
      rw [show (i + 1) * 2 = i * 2 + 1 + 1 from by omega]
      simpa using this
theorem infoRa : (Try.prog.info? 42).map (fun i => (i.zero, i.size, i.bytes)) = some (some (.agg #[.int .i64 0, .int .i64 0]), 2, 16) := by kernel_rfl
theorem undRa : (Try.prog).underlying 28 = some (.slice 42) := by kernel_rfl
/-- a slice that reads as fractions -/
def RasAt (w : World) (v : Value) (l : List Ra) : Prop :=
  ∃ ao cap, v = .slice ao l.length cap ∧ l.length ≤ cap ∧ ∀ i (h : i < l.length), ∃ b o, ao = some ⟨b, o, none⟩ ∧
    w.cell? ⟨b, o + i * 2, none⟩ = some (.int .i64 l[i].n) ∧ w.cell? ⟨b, o + i * 2 + 1, none⟩ = some (.int .i64 l[i].d)
theorem RasAt.ext {w w' : World} {v : Value} {l : List Ra} (h : RasAt w v l) (x : Ext w w') : RasAt w' v l := by
  obtain ⟨ao, cap, hv, hle, hc⟩ := h
  refine ⟨ao, cap, hv, hle, fun i hi => ?_⟩
  obtain ⟨b, o, h0, h1, h2⟩ := hc i hi
  exact ⟨b, o, h0, x.cell h1, x.cell h2⟩
/-- a slice of the call's own that holds fractions -/
def RowR (n₀ : Nat) (v : Value) (l : List Ra) (W : World) : Prop := W.ownsRow n₀ 42 2 v l.length (cellsR l)
theorem RowR.form {n₀ : Nat} {v : Value} {l : List Ra} {W : World} (h : RowR n₀ v l W) : ∃ A c, v = .slice A l.length c := by
  rcases h.2 with ⟨rfl, h0⟩ | ⟨g, cap, cur, rfl, _⟩
  · exact ⟨none, 0, by rw [h0]⟩
  · exact ⟨_, _, rfl⟩
theorem RowR.at_ {n₀ : Nat} {v : Value} {l : List Ra} {W : World} (h : RowR n₀ v l W) : RasAt W v l := by
  rcases h.2 with ⟨rfl, h0⟩ | ⟨g, cap, cur, rfl, h1, h2, h3, h4, h5, h6⟩
  · exact ⟨none, 0, by rw [h0], by omega, fun i hi => by omega⟩
  · refine ⟨_, _, rfl, by omega, fun i hi => ⟨g, 0, rfl, ?_⟩⟩
    have hc := World.ownsRow.cellAt (g := g) (cap := cap) h
    obtain ⟨k1, k2⟩ := cellsR_get l i hi
    rw [Nat.zero_add]
    exact ⟨(hc (i * 2) (by omega)).trans k1, (hc (i * 2 + 1) (by omega)).trans k2⟩
theorem rowR_nil (n₀ : Nat) (W : World) : RowR n₀ (.slice none 0 0) [] W := World.ownsRow_nil _ _ _ _
theorem rowR_ext {n₀ : Nat} {v : Value} {l : List Ra} {W W' : World} (h : RowR n₀ v l W) (x : Ext W W') : RowR n₀ v l W' :=
  World.ownsRow.kept h (grown_none x) (by cases v.ownBlock <;> simp)
theorem rowR_add {base : Nat} {W : World} {v : Value} {l : List Ra} {r : Ra} (h : W.ownsRow base 42 2 v (l.length + 1) (cellsR l ++ [.int .i64 r.n, .int .i64 r.d])) : RowR base v (l ++ [r]) W := by
  unfold RowR
  rw [List.length_append, List.length_singleton, cellsR_append]; exact h
theorem cell_two (w : World) (x y : Value) (t : TypeId) : ∀ j u, [x, y][j]? = some u → (w.alloc (.cells #[x, y] t)).cell? ((⟨w.heap.size, 0, none⟩ : Addr).add j) = some u := by
  intro j u hj
  match j, hj with
  | 0, hj => simp at hj; subst hj; simp [Addr.add]
  | 1, hj => simp at hj; subst hj; simp [Addr.add]
def shL (T : Tr) (l : List Py) : List Ra := l.map (fun p => ratM (shX T p))
theorem shL_snoc (T : Tr) (l : List Py) (p : Py) : shL T (l ++ [p]) = shL T l ++ [ratM (shX T p)] := by simp [shL]

set_option maxRecDepth 100000 in
set_option maxHeartbeats 4000000 in
theorem shares_any (a b : Value) (T : Tr) (hok : Ok T) (w : World) (hT : TrAt w a b T) :
    Calls Try.prog 55 #[.agg #[a, b]] w fun e w' => ∃ v, e = .returned v ∧ RasAt w' v (shL T T.ps) ∧ Ext w w' := by
  obtain ⟨i0, hi0, hz0, hz1, hz2⟩ := info_parts infoRa
  obtain ⟨aa, ca, rfl, hla⟩ := hT.p.len
  have hlp := hok.lp
  obtain ⟨L, hL⟩ : ∃ L, shL T T.ps = L := ⟨_, rfl⟩
  have HL := Lib.hid hL
  rw [hL]
  clear hL
  go_enter Try.func55, Try.ntmps55
  go_wp2_with fail
  have q0 : Cls w.heap.size 25 #[a, .slice aa T.ps.length ca] (w.alloc (.cells #[a, .slice aa T.ps.length ca] 25)) := Cls.new _ _ _
  obtain ⟨W1, hW1⟩ : ∃ W1, w.alloc (.cells #[a, .slice aa T.ps.length ca] 25) = W1 := ⟨_, rfl⟩
  have hx1 : Ext w W1 := by rw [← hW1]; exact (by repeat (first | exact Ext.refl _ | assumption | refine Ext.alloc ?_ _ | refine Ext.drew ?_ | refine Ext.drewN _ ?_ | refine Ext.trans ?_ (by assumption)))
  rw [hW1] at q0
  have hs1 := q0.lt
  try rw [hW1]
  clear hW1
  go_loopw [3, 9] (fun o i wr => ∃ k : Nat, k ≤ T.ps.length ∧ i = .int .i64 k ∧ Hid (RowR (w.heap.size + 1) o (shL T (T.ps.take k)) wr) ∧ Cls w.heap.size 25 #[a, .slice aa T.ps.length ca] wr ∧ Ext w wr) (fun _ i _ => T.ps.length - (intOf i).toNat)
  case atStart => exact ⟨0, Nat.zero_le _, rfl, Lib.hid (rowR_nil _ _), q0, hx1⟩
  case round =>
    clear q0 hx1 hs1
    obtain ⟨k, hk, rfl, HR, q0, hx⟩ := hrel
    by_cases hlt : k < T.ps.length
    · obtain ⟨bb, oo, rfl, c0, c1, c2⟩ := (hT.p.ext hx).get k hlt
      have hmem : (⟨T.ps[k].id, T.ps[k].reach, T.ps[k].w⟩ : Py) ∈ T.ps := List.getElem_mem hlt
      have hsn : shL T (T.ps.take (k + 1)) = shL T (T.ps.take k) ++ [ratM (shX T ⟨T.ps[k].id, T.ps[k].reach, T.ps[k].w⟩)] := by rw [take_succ_get T.ps k hlt, shL_snoc]
      obtain ⟨x, hxx⟩ : ∃ x, T.ps[k].id = x := ⟨_, rfl⟩
      obtain ⟨y, hyy⟩ : ∃ x, T.ps[k].reach = x := ⟨_, rfl⟩
      obtain ⟨z, hzz⟩ : ∃ x, T.ps[k].w = x := ⟨_, rfl⟩
      rw [hxx] at c0 hmem hsn
      rw [hyy] at c1 hmem hsn
      rw [hzz] at c2 hmem hsn
      clear hxx hyy hzz
      have hll : (shL T (T.ps.take k)).length = k := by simp [shL]; omega
      obtain ⟨l, hl⟩ : ∃ l, shL T (T.ps.take k) = l := ⟨_, rfl⟩
      rw [hl] at HR hsn hll
      have hrow := HR.out
      obtain ⟨A, c, rfl⟩ := hrow.form
      have K := fun W (h : Ext w W) => share_any a (.slice (some ⟨bb, oo, none⟩) T.ps.length ca) T hok x y z hmem W (hT.ext h)
      obtain ⟨r, hr⟩ : ∃ r, ratM (shX T ⟨x, y, z⟩) = r := ⟨_, rfl⟩
      rw [hr] at K hsn
      unfold raV at K
      have HSN := Lib.hid hsn
      have HK := Lib.hid K
      have d0 : wr.cell? ⟨w.heap.size, 0, none⟩ = some a := q0.cell 0
      have d1 : wr.cell? ⟨w.heap.size, 1, none⟩ = some (.slice (some ⟨bb, oo, none⟩) T.ps.length ca) := q0.cell 1
      have e0 : (wr.alloc (.cells #[.int .i64 x, .int .i64 y, .int .i64 z] 45)).cell? ⟨w.heap.size, 0, none⟩ = _ := Ext.cell (by repeat (first | exact Ext.refl _ | assumption | refine Ext.alloc ?_ _ | refine Ext.drew ?_ | refine Ext.drewN _ ?_ | refine Ext.trans ?_ (by assumption))) d0
      have e1 : (wr.alloc (.cells #[.int .i64 x, .int .i64 y, .int .i64 z] 45)).cell? ⟨w.heap.size, 1, none⟩ = _ := Ext.cell (by repeat (first | exact Ext.refl _ | assumption | refine Ext.alloc ?_ _ | refine Ext.drew ?_ | refine Ext.drewN _ ?_ | refine Ext.trans ?_ (by assumption))) d1
      rw [hll]
      have HLL := Lib.hid hll
      have hsz := q0.lt
      clear hl hsn hr hmem hrow hll K
      go_wp2_with fail
      refine (HK.out _ (hx.trans (by repeat (first | exact Ext.refl _ | assumption | refine Ext.alloc ?_ _ | refine Ext.drew ?_ | refine Ext.drewN _ ?_ | refine Ext.trans ?_ (by assumption))))).mono ?_
      rintro e w3 ⟨rfl, hz⟩
      have hx3 : Ext wr w3 := Ext.trans (by repeat (first | exact Ext.refl _ | assumption | refine Ext.alloc ?_ _ | refine Ext.drew ?_ | refine Ext.drewN _ ?_ | refine Ext.trans ?_ (by assumption))) hz
      have hrow3 : w3.ownsRow (w.heap.size + 1) 42 2 (.slice A k c) k (cellsR l) := by
        have h := rowR_ext HR.out hx3
        unfold RowR at h
        rw [HLL.out] at h
        exact h
      have q3 := q0.ext hx3
      have hs3 := q3.lt
      replace hx := hx.trans hx3
      have HX := Lib.hid hx
      clear hz hx3 d0 d1 e0 e1 HR q0 hx
      go_wp2_with ((at_builtin; refine wpList_append_own _ rfl _ _ 28 rfl (w.heap.size + 1) 42 i0 (.agg #[.int .i64 0, .int .i64 0]) 2 16 undRa hi0 hz0 hz1 hz2 rfl (by decide) _ _ _ rfl (World.ownsRow.alloc hrow3 _) ⟨w3.heap.size, 0, none⟩ 1 1 [.int .i64 r.n, .int .i64 r.d] rfl rfl (cell_two _ _ _ _) (by simp [Value.oneCell']) (by unfold maxLen; omega) (by omega) (by simp; omega) ?_; intro v' w9 hown hgrow _))
      have hg9 := grown_pre hgrow
      have q9 := q3.kept hg9 (own_ge hrow3 (Nat.lt_succ_self _))
      have hx9 := ext_own HX.out hrow3 (Nat.le_succ _) hg9
      have hr9 : RowR (w.heap.size + 1) v' (shL T (T.ps.take (k + 1))) w9 := by
        rw [HSN.out]
        exact rowR_add (by rw [HLL.out]; exact hown)
      go_roundw
      case rel => exact ⟨k + 1, by omega, by go_num, Lib.hid hr9, q9, hx9⟩
      case measure => simp [intOf]; omega
    · obtain rfl : k = T.ps.length := by omega
      have hr := HR.out
      rw [List.take_length, HL.out] at hr
      have hat := hr.at_
      clear HR hr
      go_wp2
      go_ret
      exact ⟨_, rfl, hat, hx⟩

/-- what Shares returns -/
def shaX (T : Tr) : List Ra := if chkE T = 0 then shL T T.ps else []
def RasPost (w : World) (l : List Ra) (E : Int) (e : Ending) (w' : World) : Prop := ∃ v, e = .returned (.tuple #[v, .int .i64 E]) ∧ RasAt w' v l ∧ Ext w w'
theorem rasAt_nil (w : World) : RasAt w (.slice none 0 0) [] := ⟨none, 0, rfl, by simp, fun i hi => by simp at hi⟩
set_option maxRecDepth 100000 in
set_option maxHeartbeats 4000000 in
theorem Shares_any (a b : Value) (T : Tr) (w : World) (hT : TrAt w a b T) (_hn : T.rs.length ≤ 1000 ∧ T.ps.length ≤ 1000) :
    Calls Try.prog 15 #[.agg #[a, b]] w (RasPost w (shaX T) (chkE T)) := by
  obtain ⟨E, hE⟩ : ∃ E, chkE T = E := ⟨_, rfl⟩
  have hok : E = 0 → Ok T := fun h => Ok.of (hE.trans h)
  have hX : shaX T = if E = 0 then shL T T.ps else [] := by rw [← hE]; rfl
  obtain ⟨X, hXX⟩ : ∃ X, shaX T = X := ⟨_, rfl⟩
  rw [hE, hXX]
  rw [hXX] at hX
  have HE := Lib.hid hE
  have HX := Lib.hid hX
  have HOK := Lib.hid hok
  clear hE hX hXX hok
  go_enter Try.func15, Try.ntmps15
  go_wp2_with fail
  refine (Check_any a b T _ (hT.ext (by repeat (first | exact Ext.refl _ | assumption | refine Ext.alloc ?_ _ | refine Ext.drew ?_ | refine Ext.drewN _ ?_ | refine Ext.trans ?_ (by assumption))))).mono ?_
  rw [HE.out]
  rintro e w1 ⟨rfl, hx1⟩
  obtain ⟨q0, hx, hzz⟩ := alloc1 hx1
  have d0 : w1.cell? ⟨w.heap.size, 0, none⟩ = some a := q0.cell 0
  have d1 : w1.cell? ⟨w.heap.size, 1, none⟩ = some b := q0.cell 1
  clear hx1
  by_cases h0 : E = 0
  · have hx2 := HX.out
    rw [if_pos h0] at hx2
    have HX2 := Lib.hid hx2
    have hk := HOK.out h0
    have hb : (E != 0) = false := by simpa using h0
    have HE0 := Lib.hid h0
    clear hx2 h0
    go_wp2_with fail
    refine (shares_any a b T hk _ (hT.ext hx)).mono ?_
    rintro e w3 ⟨v, rfl, hv, hy⟩
    go_wp2_with fail
    go_ret2
    exact ⟨_, ret2 rfl (by rw [HE0.out]; rfl), by rw [HX2.out]; exact hv, hx.trans hy⟩
  · have hb : (E != 0) = true := by simpa using h0
    have hx2 := HX.out
    rw [if_neg h0] at hx2
    have HX2 := Lib.hid hx2
    clear hx2 h0
    go_wp2_with fail
    go_ret2
    exact ⟨_, rfl, by rw [HX2.out]; exact rasAt_nil _, hx⟩
end Go.Proofs.Ythopgonbndoidaa
