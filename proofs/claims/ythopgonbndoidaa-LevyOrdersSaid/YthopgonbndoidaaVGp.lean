/- group of the program: the fewest payers who pay too much by the most. -/
import Derived.Test.YthopgonbndoidaaVFai
import Derived.Test.YthopgonbndoidaaVRow
import Derived.WalkMore
namespace Go.Proofs.Ythopgonbndoidaa
open Go.RowKit Go.Shelf

attribute [local go_sem] Oper.semAt_some

/-- a reach on the way has nothing left over -/
def zrB (o : Nat → Int) (l : List Int) : Bool := l.any (fun r => o r.toNat == 0)
theorem zrB_snoc (o : Nat → Int) (l : List Int) (x : Int) : zrB o (l ++ [x]) = (zrB o l || (o x.toNat == 0)) := by simp [zrB]
def onB (T : Tr) (o : Nat → Int) (q : Py × Int) : Bool := !(q.2 == 0) && !(zrB o (upL T.rs q.1.reach))
def gpL (T : Tr) (o : Nat → Int) (z : List (Py × Int)) : List Int := (z.filter (onB T o)).map (·.1.id)
theorem gpL_snoc (T : Tr) (o : Nat → Int) (z : List (Py × Int)) (q : Py × Int) : gpL T o (z ++ [q]) = if onB T o q = true then gpL T o z ++ [q.1.id] else gpL T o z := by
  unfold gpL
  rw [List.filter_append, List.map_append]
  by_cases h : onB T o q = true
  · rw [if_pos h]; simp [h]
  · rw [if_neg h]; simp [h]
def gpX (T : Tr) (l : List Int) : List Int := srtI (gpL T (objX T l) (T.ps.zip l))
theorem gpL_len (T : Tr) (o : Nat → Int) (z : List (Py × Int)) : (gpL T o z).length ≤ z.length := by
  unfold gpL
  rw [List.length_map]
  exact List.length_filter_le _ _

theorem rowI_mark {n₀ n : Nat} {v : Value} {l : List Int} {Ds : List Nat} {W : World} (h : RowI n₀ v l W) (m : MarksAt n Ds W) : ∀ D ∈ Ds, some D ≠ v.ownBlock := by
  intro D hD e
  rcases h.2 with ⟨rfl, _⟩ | ⟨g, cap, cur, rfl, _, h2, _⟩
  · cases e
  · have h3 := (m.at_ D hD).2
    rw [Option.some.inj e, h2] at h3
    cases h3
theorem rowI_sweep {n₀ D : Nat} {v : Value} {l : List Int} {W : World} (h : RowI n₀ v l W) {o : Obj} (hK : W.heap[D]? = some (.deferred (some []))) : RowI n₀ v l (W.putObj D o) := by
  refine rowI_kept h (grownBy_putObj' W D o) ?_
  rcases h.2 with ⟨rfl, _⟩ | ⟨g, cap, cur, rfl, _, h2, _⟩
  · exact .inl rfl
  · refine .inr fun e => ?_
    rw [← Option.some.inj e, h2] at hK
    cases hK
theorem wpIn_scope {n : Nat} {P : Program} {c : Code} {Q : Exit → Act → World → Prop} {a : Act} {w : World} (h : c.wpIn Fence.wide n P (Exit.noGoto Q) a w) : (Code.scope c).wpIn Fence.wide n P Q a w := wpIn_wide.2 (wp_scope_straight (wpIn_wide.1 h))
theorem wpIn_label {n : Nat} {P : Program} {l : Nat} {Q : Exit → Act → World → Prop} {a : Act} {w : World} (h : Q .normal a w) : (Code.label l).wpIn Fence.wide n P Q a w := wpIn_wide.2 (wp_label h)
structure GL (w W : World) (K : Nat) (cs : Array Value) (o : Nat → Int) (Ds : List Nat) (v : Value) (l : List Int) : Prop where
  bx : Cls w.heap.size 114 cs W
  ba : Cls K 107 (arr o) W
  ro : RowI (K + 1) v l W
  mr : MarksAt w.heap.size Ds W
  ex : Ext w W
  kl : w.heap.size < K ∧ K < W.heap.size
theorem GL.ext {w W W' : World} {K : Nat} {cs : Array Value} {o : Nat → Int} {Ds : List Nat} {v : Value} {l : List Int} (h : GL w W K cs o Ds v l) (x : Ext W W') : GL w W' K cs o Ds v l :=
  ⟨h.bx.ext x, h.ba.ext x, rowI_ext h.ro x, h.mr.ext x, h.ex.trans x, h.kl.1, Nat.lt_of_lt_of_le h.kl.2 x.size⟩

set_option maxRecDepth 100000 in
set_option maxHeartbeats 8000000 in
theorem groupP_any (a b v : Value) (T : Tr) (hok : Ok T) (l : List Int) (w : World) (hT : TrAt w a b T) (hl : IntsAt w v l) (hlen : l.length = T.ps.length) (hb : ∀ n ∈ l, 0 ≤ n ∧ n ≤ 1073741824) :
    Calls Try.prog 83 #[.agg #[a, b, v]] w fun e w' => ∃ u, e = .returned u ∧ RowI w.heap.size u (gpX T l) w' ∧ Ext w w' := by
  have KO := fun W (h : Ext w W) => objects_any a b v T hok l W (hT.ext h) (hl.ext h) hlen hb
  obtain ⟨GX, hGX⟩ : ∃ GX, gpX T l = GX := ⟨_, rfl⟩
  have HGX := Lib.hid hGX
  rw [hGX]
  obtain ⟨o, ho⟩ : ∃ o, objX T l = o := ⟨_, rfl⟩
  rw [ho] at KO
  have HO := Lib.hid ho
  clear hGX ho
  obtain ⟨ar, cr, rfl, hlr⟩ := hT.r.len
  obtain ⟨ab, cb, rfl, hlb⟩ := hT.p.len
  obtain ⟨av, cv, rfl, hlv⟩ := hl.len
  rw [hlen] at KO ⊢
  have hlp := hok.lp
  have hlrs := hok.lr
  have HLEN := Lib.hid hlen
  have HB := Lib.hid hb
  refine (callsIn_wide (n := 5)).1 ?_
  refine callsIn_of_wp_marks Try.func83 rfl trivial ?_ rfl; simp only [Try.ntmps83, List.size_toArray, List.length_cons, List.length_nil, Nat.reduceAdd, Nat.reduceSub, Array.replicate_succ, Array.replicate_zero, List.push_toArray, List.append_toArray, List.nil_append, List.cons_append]
  gi_wp2_with fail
  refine wpIn_scope ?_
  gi_wp2_with fail
  refine ⟨trivial, (callsIn_wide.2 (KO _ (by repeat (first | exact Ext.refl _ | assumption | refine Ext.alloc ?_ _ | refine Ext.drew ?_ | refine Ext.drewN _ ?_ | refine Ext.trans ?_ (by assumption))))).mono ?_⟩
  rintro e w1 ⟨rfl, hx1⟩
  obtain ⟨q0, hx, hk0⟩ := alloc1 hx1
  obtain ⟨K, hK⟩ : ∃ K, w1.heap.size = K := ⟨_, rfl⟩
  have hk1 : w.heap.size < K := by omega
  obtain ⟨Y, hY⟩ : ∃ Y, w1.alloc (.cells (arr (fun _ => 0)) 107) = Y := ⟨_, rfl⟩
  have hxY : Ext w1 Y := by rw [← hY]; exact (by repeat (first | exact Ext.refl _ | assumption | refine Ext.alloc ?_ _ | refine Ext.drew ?_ | refine Ext.drewN _ ?_ | refine Ext.trans ?_ (by assumption)))
  have KB : Cls K 107 (arr (fun _ => 0)) Y := by rw [← hY]; exact Cls.newAt _ _ _ hK.symm
  have q0Y := q0.ext hxY
  have hxw := hx.trans hxY
  have hsY : Y.heap.size = K + 1 := by rw [← hY, World.size_alloc, hK]
  rw [arr_zero] at hY
  try rw [hY]
  try rw [hK]
  clear hx1 KO hx hk0 hxY q0
  gi_wp2_with (refine wpListIn_store_row rfl _ _ _ rfl _ (arr o) rfl rfl _ _ KB (by rw [arr_size]; kernel_rfl) (by rw [arr_size, arr_size]) (arr_one _) ?_; intro w5 hC5 hg5; have z0 := q0Y.kept hg5 (by intro e; injection e with e; omega); have d0 : w5.cell? ⟨w.heap.size, 0, none⟩ = _ := z0.cell 0; have d1 : w5.cell? ⟨w.heap.size, 1, none⟩ = _ := z0.cell 1)
  refine wpIn_label ?_
  gi_wp2_with fail
  have hx5 : Ext w w5 := hxw.grown hg5 (by omega)
  have hs5 : K < w5.heap.size := hC5.lt
  clear d0 d1 hY KB q0Y hxw hg5 hsY hK
  refine wpIn_loopg (fun g a W => ∃ (j : Nat) (Ds : List Nat) (ov : Value) (u5 u6 u7 u8 u9 u10 u11 u15 u16 u17 u18 u19 u20 u21 u22 u23 u24 u25 u26 u27 u28 u29 u30 u31 u32 u33 u34 u35 u36 u37 u38 u39 u40 u41 u42 u43 : Value), a = { tmps := #[.agg #[.slice ar T.rs.length cr, .slice ab T.ps.length cb, .slice av T.ps.length cv], .pointer (some ⟨w.heap.size, 0, none⟩), .slice none 0 0, .pointer (some ⟨K, 0, none⟩), ov, u5, u6, u7, u8, u9, u10, u11, .slice ab T.ps.length cb, .int .i64 T.ps.length, .int .i64 j, u15, u16, u17, u18, u19, u20, u21, u22, u23, u24, u25, u26, u27, u28, u29, u30, u31, u32, u33, u34, u35, u36, u37, u38, u39, u40, u41, u42, u43], defers := marksOf Ds } ∧ j ≤ T.ps.length ∧ g = T.ps.length - j ∧ Hid (GL w W K #[.slice ar T.rs.length cr, .slice ab T.ps.length cb, .slice av T.ps.length cv] o Ds ov (gpL T o ((T.ps.zip l).take j)))) T.ps.length ?_ ?_
  · exact ⟨0, [], _, _, _, _, _, _, _, _, _, _, _, _, _, _, _, _, _, _, _, _, _, _, _, _, _, _, _, _, _, _, _, _, _, _, _, _, _, rfl, Nat.zero_le _, rfl, Lib.hid ⟨z0, hC5, rowI_nil _ _, marks_nil _ _, hx5, hk1, hs5⟩⟩
  · clear z0 hC5 hx5 hs5
    rintro g a W ⟨j, Ds, ov, u5, u6, u7, u8, u9, u10, u11, u15, u16, u17, u18, u19, u20, u21, u22, u23, u24, u25, u26, u27, u28, u29, u30, u31, u32, u33, u34, u35, u36, u37, u38, u39, u40, u41, u42, u43, rfl, hj, rfl, HA⟩
    have hA := HA.out
    by_cases hlt : j < T.ps.length
    · have hlt2 : j < l.length := by have := HLEN.out; omega
      obtain ⟨bb, oo, rfl, c0, c1, c2⟩ := (hT.p.ext hA.ex).get j hlt
      have hl' := hl
      rw [HLEN.out] at hl'
      obtain ⟨bp, op, rfl, cp⟩ := (hl.ext hA.ex).get j hlt2
      have hpv := hok.pv _ (List.getElem_mem hlt)
      have hzl : j < (T.ps.zip l).length := by simp; omega
      have hzg : (T.ps.zip l)[j] = (T.ps[j], l[j]) := by simp
      have hsn := gpL_snoc T o ((T.ps.zip l).take j) (T.ps[j], l[j])
      rw [← hzg, ← take_succ_get _ j hzl, hzg] at hsn
      have hLl : (gpL T o ((T.ps.zip l).take j)).length ≤ 24 := Nat.le_trans (gpL_len _ _ _) (by simp; omega)
      have hid : T.ps[j] = ⟨T.ps[j].id, T.ps[j].reach, T.ps[j].w⟩ := rfl
      obtain ⟨x, hxx⟩ : ∃ x, T.ps[j].id = x := ⟨_, rfl⟩
      obtain ⟨y, hyy⟩ : ∃ y, T.ps[j].reach = y := ⟨_, rfl⟩
      obtain ⟨z, hzz⟩ : ∃ z, T.ps[j].w = z := ⟨_, rfl⟩
      obtain ⟨n, hn⟩ : ∃ n, l[j] = n := ⟨_, rfl⟩
      obtain ⟨L, hL⟩ : ∃ L, gpL T o ((T.ps.zip l).take j) = L := ⟨_, rfl⟩
      rw [hxx] at c0 hid
      rw [hyy] at c1 hid hpv
      rw [hzz] at c2 hid hpv
      rw [hn] at cp hsn
      rw [hid] at hsn
      rw [hL] at hsn hA hLl
      have hy1 : y < T.rs.length := hpv.2.1.2
      have hy0 : -1 ≤ y := by have := hpv.2.1.1; omega
      have HSN := Lib.hid hsn
      clear hxx hyy hzz hn hL hid hpv hsn hzl hzg hl' HA
      obtain ⟨PB, hPB⟩ : ∃ PB, W.heap.size = PB := ⟨_, rfl⟩
      obtain ⟨Y, hY⟩ : ∃ Y, W.alloc (.cells #[.int .i64 x, .int .i64 y, .int .i64 z] 45) = Y := ⟨_, rfl⟩
      have hxY : Ext W Y := by rw [← hY]; exact (by repeat (first | exact Ext.refl _ | assumption | refine Ext.alloc ?_ _ | refine Ext.drew ?_ | refine Ext.drewN _ ?_ | refine Ext.trans ?_ (by assumption)))
      have hbY : Cls PB 45 #[.int .i64 x, .int .i64 y, .int .i64 z] Y := by rw [← hY]; exact Cls.newAt _ _ _ hPB.symm
      have hsY : Y.heap.size = PB + 1 := by rw [← hY, World.size_alloc, hPB]
      have hAY := hA.ext hxY
      have d2 : Y.cell? ⟨w.heap.size, 2, none⟩ = some (.slice (some ⟨bp, op, none⟩) T.ps.length cv) := hAY.bx.cell 2
      have e0 := hxY.cell cp
      have d0 : Y.cell? ⟨w.heap.size, 0, none⟩ = _ := hAY.bx.cell 0
      have d1 : Y.cell? ⟨w.heap.size, 1, none⟩ = _ := hAY.bx.cell 1
      have b1 : Y.cell? ⟨PB, 1, none⟩ = some (.int .i64 y) := hbY.cell 1
      have hkl := hA.kl
      rw [hPB] at hkl
      by_cases hn0 : n = 0
      · have hs2 := HSN.out
        have hon : onB T o (⟨x, y, z⟩, n) = false := by unfold onB; simp [hn0]
        rw [hon, if_neg (by decide)] at hs2
        have HS2 := Lib.hid hs2
        clear hs2 hon b1 d0 d1
        subst hn0
        gi_wp2
        exact ⟨T.ps.length - (j + 1), by omega, j + 1, Ds, ov, ⟨⟨rfl, by omega⟩, rfl⟩, by omega, rfl, Lib.hid (by rw [HS2.out]; exact hAY)⟩
      · gi_wp2_with fail
        refine ⟨trivial, (callsIn_wide.2 (up_any _ _ y _)).mono ?_⟩
        rintro e w3 ⟨rfl, hw3⟩
        obtain ⟨p0, p1, hx3, hs3⟩ := up_boxes hw3
        rw [hsY] at p0 p1 hs3
        have hA3 := hAY.ext hx3
        have hb3 := hbY.ext hx3
        have hrl := hA.ro.lt
        rw [hPB] at hrl
        have hro3 := hA3.ro
        try rw [hsY]
        clear hw3 hY hxY hx3 d0 d1 d2 b1 e0 hAY hbY c0 c1 c2 cp hsY
        gi_wp2_with fail
        have hseq := up_seq (PB + 1) (PB + 1 + 1) T hok.rv _ _ y hy0 hy1 w w3 hA3.ex _ _ (by omega) (by omega) p0 p1 hT.r
        have hbs : ∀ b ∈ [PB + 1, PB + 1 + 1], b < w3.heap.size := by simp; omega
        have hIb : AbidesBox (PB + 1 + 1) (fun (pre : List (RIx T.rs.length)) W => (Cls w.heap.size 114 #[.slice ar T.rs.length cr, .slice (some ⟨bb, oo, none⟩) T.ps.length cb, .slice (some ⟨bp, op, none⟩) T.ps.length cv] W ∧ Cls K 107 (arr o) W) ∧ (RowI (K + 1) ov L W ∧ Cls PB 45 #[.int .i64 x, .int .i64 y, .int .i64 z] W) ∧ MarksAt w.heap.size Ds W ∧ Below w.heap.size w W ∧ w3.heap.size ≤ W.heap.size ∧ zrB o (vals pre) = false) :=
          ((abidesBox_cls _ (fun _ => #[.slice ar T.rs.length cr, .slice (some ⟨bb, oo, none⟩) T.ps.length cb, .slice (some ⟨bp, op, none⟩) T.ps.length cv]) (by omega)).and (abidesBox_cls _ (fun _ => arr o) (by omega))).and (((rowI_abide (fun g hg => by have := (hrl g hg).2; omega)).and (abidesBox_cls _ (fun _ => #[.int .i64 x, .int .i64 y, .int .i64 z]) (by omega))).and (marks_abide.and ((abidesBox_below (by omega) (Nat.le_refl _)).and ((abidesBox_size _).and ⟨fun _ _ _ h => h, fun _ _ _ h => h⟩))))
        have hI : OwnFrom w3.heap.size (fun (pre : List (RIx T.rs.length)) W => (Cls w.heap.size 114 #[.slice ar T.rs.length cr, .slice (some ⟨bb, oo, none⟩) T.ps.length cb, .slice (some ⟨bp, op, none⟩) T.ps.length cv] W ∧ Cls K 107 (arr o) W) ∧ (RowI (K + 1) ov L W ∧ Cls PB 45 #[.int .i64 x, .int .i64 y, .int .i64 z] W) ∧ MarksAt w.heap.size Ds W ∧ Below w.heap.size w W ∧ w3.heap.size ≤ W.heap.size ∧ zrB o (vals pre) = false) :=
          OwnFrom.and (OwnFrom.and ((Cls.own _ _ (fun _ => #[.slice ar T.rs.length cr, .slice (some ⟨bb, oo, none⟩) T.ps.length cb, .slice (some ⟨bp, op, none⟩) T.ps.length cv])).from _) ((Cls.own _ _ (fun _ => arr o)).from _)) (OwnFrom.and (OwnFrom.and (rowI_own (fun g hg => by have := (hrl g hg).2; omega)) ((Cls.own _ _ (fun _ => #[.int .i64 x, .int .i64 y, .int .i64 z])).from _)) (OwnFrom.and (marks_own (fun D hD => hA3.mr.lt D hD)) (OwnFrom.and (ownFrom_below (Nat.le_refl _) hA3.ex.size) (OwnFrom.and (ownFrom_size _ _) (ownFrom_pure _ _)))))
        have hIx : ∀ c : Code, OwnFrom w3.heap.size (fun (pre : List (RIx T.rs.length)) W => ((Cls w.heap.size 114 #[.slice ar T.rs.length cr, .slice (some ⟨bb, oo, none⟩) T.ps.length cb, .slice (some ⟨bp, op, none⟩) T.ps.length cv] W ∧ Cls K 107 (arr o) W) ∧ (RowI (K + 1) ov L W ∧ Cls PB 45 #[.int .i64 x, .int .i64 y, .int .i64 z] W) ∧ MarksAt w.heap.size Ds W ∧ Below w.heap.size w W ∧ w3.heap.size ≤ W.heap.size ∧ zrB o (vals pre) = true) ∧ c = .exit 1) := fun c =>
          OwnFrom.and (OwnFrom.and (OwnFrom.and ((Cls.own _ _ (fun _ => #[.slice ar T.rs.length cr, .slice (some ⟨bb, oo, none⟩) T.ps.length cb, .slice (some ⟨bp, op, none⟩) T.ps.length cv])).from _) ((Cls.own _ _ (fun _ => arr o)).from _)) (OwnFrom.and (OwnFrom.and (rowI_own (fun g hg => by have := (hrl g hg).2; omega)) ((Cls.own _ _ (fun _ => #[.int .i64 x, .int .i64 y, .int .i64 z])).from _)) (OwnFrom.and (marks_own (fun D hD => hA3.mr.lt D hD)) (OwnFrom.and (ownFrom_below (Nat.le_refl _) hA3.ex.size) (OwnFrom.and (ownFrom_size _ _) (ownFrom_pure _ _)))))) (ownFrom_pure _ _)
        have h00 : (fun (pre : List (RIx T.rs.length)) W => (Cls w.heap.size 114 #[.slice ar T.rs.length cr, .slice (some ⟨bb, oo, none⟩) T.ps.length cb, .slice (some ⟨bp, op, none⟩) T.ps.length cv] W ∧ Cls K 107 (arr o) W) ∧ (RowI (K + 1) ov L W ∧ Cls PB 45 #[.int .i64 x, .int .i64 y, .int .i64 z] W) ∧ MarksAt w.heap.size Ds W ∧ Below w.heap.size w W ∧ w3.heap.size ≤ W.heap.size ∧ zrB o (vals pre) = false) [] w3 := ⟨⟨hA3.bx, hA3.ba⟩, ⟨hro3, hb3⟩, hA3.mr, hA3.ex, Nat.le_refl _, rfl⟩
        have hw3 : w.heap.size ≤ w3.heap.size := by omega
        refine range_own (gf := 117) (lb := #[.pointer (some ⟨PB + 1 + 1, 0, none⟩), .pointer (some ⟨PB + 1, 0, none⟩)]) ?hg ?eg (n₀ := w.heap.size) (bs := [PB + 1, PB + 1 + 1]) (Br := PB + 1 + 1) hw3 hbs (by omega)
          hseq ?hps _ _ hI hIx hIb h00 ?round ?done ?stop
        case hg => rfl
        case eg => exact enters_of Try.func117 (by kernel_rfl) rfl
        case hps => exact fun _ => rfl
        case round =>
          apply Exists.intro
          constructor
          · intro l x W K hK
            dsimp only [encR]
            gi_wp2
            exact hK
          · rintro l pre xr W ⟨⟨i0, i1⟩, ⟨i2, i3⟩, i4, i5, i6, i7⟩ hpl0
            obtain ⟨xv, hxv0, hxv1⟩ := xr
            obtain ⟨i, rfl⟩ : ∃ i : Nat, xv = i := ⟨xv.toNat, by omega⟩
            have hi24 : (i : Int) < 24 := by omega
            have hin : i < 24 := by omega
            have g1 := arr_cell i1 hin
            have hz := zrB_snoc o (vals pre) (i : Int)
            rw [i7, Bool.false_or, Int.toNat_natCast] at hz
            have hv2 : vals (pre ++ [⟨(i : Int), hxv0, hxv1⟩]) = vals pre ++ [(i : Int)] := vals_snoc _ _
            obtain ⟨oi, hoi⟩ : ∃ oi, o i = oi := ⟨_, rfl⟩
            rw [hoi] at g1 hz
            rw [← hv2] at hz
            by_cases ho0 : oi = 0
            · have hz1 : zrB o (vals (pre ++ [⟨(i : Int), hxv0, hxv1⟩])) = true := by rw [hz]; simp [ho0]
              have HZ := Lib.hid hz1
              subst ho0
              clear hz hz1 hv2 hoi hpl0
              gi_wp2
              exact ⟨KeepsFrom.refl _ _, ⟨⟨i0, i1⟩, ⟨i2, i3⟩, i4, i5, by omega, HZ.out⟩, rfl⟩
            · have hz1 : zrB o (vals (pre ++ [⟨(i : Int), hxv0, hxv1⟩])) = false := by rw [hz]; simp [ho0]
              have HZ := Lib.hid hz1
              clear hz hz1 hv2 hoi hpl0
              gi_wp2
              exact ⟨KeepsFrom.refl _ _, KpB.refl _ _ _, ⟨i0, i1⟩, ⟨i2, i3⟩, i4, i5, by omega, HZ.out⟩
        case done =>
          rintro D xs W5 hD rfl ⟨⟨i0, i1⟩, ⟨i2, i3⟩, i4, i5, i6, i7⟩ hK
          rw [upS_vals] at i7
          have hon : onB T o (⟨x, y, z⟩, n) = true := by unfold onB; simp [hn0, i7]
          have hs2 := HSN.out
          rw [hon, if_pos rfl] at hs2
          have HS2 := Lib.hid hs2
          obtain ⟨oA, oc, rfl⟩ := i2.form
          have d3 : W5.cell? ⟨PB, 0, none⟩ = some (.int .i64 x) := i3.cell 0
          have mc := MarksAt.cons hA3.mr i4 (by omega) (by omega) hK
          have HM := Lib.hid mc
          clear hs2 hon i7 mc
          gi_wp2_with ((gi_at_builtin; refine appendIn_ints rfl _ _ rfl (K + 1) _ _ L [x] rfl (rowI_ext i2 (by repeat (first | exact Ext.refl _ | assumption | refine Ext.alloc ?_ _ | refine Ext.drew ?_ | refine Ext.drewN _ ?_ | refine Ext.trans ?_ (by assumption)))) rfl (ints_one _ _ _) (by simp; omega) (by simp; omega) ?_; intro v' w9 hrow9 hg9 _))
          have hg : W5.grownBy w9 (Value.slice oA L.length oc).ownBlock := grown_pre hg9
          clear hg9
          go_simp
          refine ⟨T.ps.length - (j + 1), by omega, j + 1, D :: Ds, v', ⟨⟨rfl, by omega⟩, rfl⟩, by omega, rfl, Lib.hid (by
            rw [HS2.out]
            exact ⟨i0.kept hg (own_ge i2 (by omega)), i1.kept hg (own_ge i2 (by omega)), hrow9, HM.out.grown hg (rowI_mark i2 HM.out), ext_own i5 i2 (by omega) hg, hk1, by have := hg.size; omega⟩)⟩
        case stop =>
          rintro D c pre W5 hD hpre ⟨⟨⟨i0, i1⟩, ⟨i2, i3⟩, i4, i5, i6, i7⟩, rfl⟩ hK
          have hzt : zrB o (upL T.rs y) = true := by
            obtain ⟨t, ht⟩ := hpre
            rw [← upS_vals hok.rv hy1, ← ht]
            unfold zrB at i7 ⊢
            simp only [vals, List.map_append, List.any_append]
            unfold vals at i7
            rw [i7, Bool.true_or]
          have hon : onB T o (⟨x, y, z⟩, n) = false := by unfold onB; simp [hzt]
          have hs2 := HSN.out
          rw [hon, if_neg (by decide)] at hs2
          have HS2 := Lib.hid hs2
          have HM := Lib.hid (MarksAt.cons hA3.mr i4 (by omega) (by omega) hK)
          clear hs2 hon i7 hzt
          gi_wp2
          exact ⟨T.ps.length - (j + 1), by omega, j + 1, D :: Ds, ov, ⟨⟨rfl, by omega⟩, rfl⟩, by omega, rfl, Lib.hid (by rw [HS2.out]; exact ⟨i0, i1, i2, HM.out, i5, hk1, by omega⟩)⟩
    · obtain rfl : j = T.ps.length := by omega
      rw [List.take_of_length_le (by simp; omega)] at hA
      have hgx : srtI (gpL T o (T.ps.zip l)) = GX := by rw [← HGX.out, ← HO.out]; rfl
      have hLl : (gpL T o (T.ps.zip l)).length ≤ 24 := Nat.le_trans (gpL_len _ _ _) (by simp; omega)
      obtain ⟨L, hL⟩ : ∃ L, gpL T o (T.ps.zip l) = L := ⟨_, rfl⟩
      rw [hL] at hA hgx hLl
      have HGX2 := Lib.hid hgx
      have hrl := hA.ro.lt
      clear hL hgx HA
      gi_wp2_with fail
      refine ⟨trivial, (callsIn_wide.2 (sort_any (K + 1) ov L W hA.ro (by omega))).mono ?_⟩
      rintro e w7 ⟨rfl, hr7, hg7⟩
      rw [HGX2.out] at hr7
      gi_wp2_with fail
      show LeavesInM Fence.wide 5 Try.prog Try.f83 _ _ (marksOf Ds) .returning w7
      refine leaves_marks (n₀ := w.heap.size) (X := fun W => RowI (K + 1) ov GX W ∧ Below w.heap.size w W) (fun W D hD hK hX => ⟨rowI_sweep hX.1 hK, hX.2.trans (belowK_b (w := w) (Nat.le_refl _) _ D _ _ hD hK rfl rfl)⟩) (fun W hW => ?_) Ds w7 (hA.mr.grown hg7 (rowI_mark hA.ro hA.mr)) ⟨hr7, ext_own hA.ex hA.ro (by omega) hg7⟩
      exact ⟨_, by simp [results, Try.f83, go_sem], ov, rfl, rowI_base hW.1 (by omega), hW.2⟩
end Go.Proofs.Ythopgonbndoidaa
