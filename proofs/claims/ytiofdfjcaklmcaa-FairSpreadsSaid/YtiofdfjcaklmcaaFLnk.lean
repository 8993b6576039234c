/- linked of the program: whether shifts are a chain. -/
import Derived.Test.YtiofdfjcaklmcaaFShK
namespace Go.Proofs.Ytiofdfjcaklmcaa
open Go.RowKit Go.Shelf Go.Maps

theorem rowI_map {n₀ : Nat} {v : Value} {l : List Int} {W : World} {M : Nat} {κ : Type} {enc : κ → Value} {ml : List (κ × Value)} (h : RowI n₀ v l W) (hM : MapAt enc W M ml) : v.ownBlock = none ∨ v.ownBlock ≠ some M := by
  cases hq : v.ownBlock with
  | none => exact .inl rfl
  | some r =>
    refine .inr fun e => ?_
    obtain ⟨cs', h2⟩ := rowI_not h (hq.trans e)
    obtain ⟨es, ck, h3, _⟩ := hM
    exact not_cls h3 rfl _ h2
set_option maxRecDepth 100000 in
set_option maxHeartbeats 16000000 in
theorem linked_any (a b v lv : Value) (P : Po) (g : List Int) (l : List (Int × Int)) (hok : OkP P) (hS : ShrV P g) (hll : l.length ≤ 1000) (w : World) (hT : PoAt w a b P) (hg : IntsAt w v g) (hl : SfsAt w lv l) :
    Calls Try.prog 89 #[.agg #[a, b], v, lv] w fun e w' => e = .returned (.bool (lnkB P g l)) ∧ Ext w w' := by
  have hls := hok.ls
  have hlt := hok.lt
  have hg40 := hS.le hok
  have HGL := Lib.hid hS.len
  have HUS := Lib.hid hS.us
  have HUL := Lib.hid hok.ul
  obtain ⟨aa, ca, rfl, hla⟩ := hT.t.len
  obtain ⟨ab, cb, rfl, hlb⟩ := hT.s.len
  obtain ⟨ag, cg, rfl, hlg⟩ := hg.len
  obtain ⟨al, cl, rfl, hlc⟩ := hl.len
  have hR : lnkB P g l = if l.length = 0 then false else lnkG P g 0 0 0 [] l := rfl
  obtain ⟨R, hRR⟩ : ∃ R, lnkB P g l = R := ⟨_, rfl⟩
  rw [hRR] at hR ⊢
  have HR := Lib.hid hR
  have KCN := fun W (x : Ext w W) => counts_any _ (.slice ab P.ss.length cb) _ P g W (hT.t.ext x) (hg.ext x) (by omega) (by omega)
  have KSL := fun (s : Int) W (x : Ext w W) => sl_any (.slice aa P.ts.length ca) _ P s W (hT.s.ext x) (by omega)
  have KTN := fun (s : Int) W (x : Ext w W) => tn_any _ (.slice ab P.ss.length cb) P s W (hT.t.ext x) (by omega)
  have KRM := fun (k : Nat) (hk : k < P.ts.length) (n : Int) W (h : Ext w W) => room_any _ (.slice ab P.ss.length cb) P k n W (hT.t.ext h) hk
  have HKCN := Lib.hid KCN
  have HKSL := Lib.hid KSL
  have HKTN := Lib.hid KTN
  have HKRM := Lib.hid KRM
  have hcn := fun x => cntI_nn g x
  have HCN := Lib.hid hcn
  have hmk := @run_makeMap Try.prog
  clear hR hRR KCN KSL KTN KRM hcn
  go_enter Try.func89, Try.ntmps89
  by_cases h0 : l.length = 0
  · have h2 := HR.out
    rw [if_pos h0] at h2
    have H2 := Lib.hid h2
    have hb0 : ((l.length : Int) == 0) = true := by simp [h0]
    clear h2 HR
    go_wp2_with fail
    go_ret
    exact ⟨ret_bool H2.out.symm, (by repeat (first | exact Ext.refl _ | assumption | refine Ext.alloc ?_ _ | refine Ext.drew ?_ | refine Ext.drewN _ ?_ | refine Ext.trans ?_ (by assumption)))⟩
  · have h2 := HR.out
    rw [if_neg h0] at h2
    have H2 := Lib.hid h2
    have hb0 : ((l.length : Int) == 0) = false := by rw [beq_eq_false_iff_ne]; omega
    have hb1 : ¬ ((l.length : Int) = 0) := by omega
    have hlp : 0 < l.length := by omega
    clear h2 HR h0
    go_wp2_with fail
    refine (HKCN.out _ (by repeat (first | exact Ext.refl _ | assumption | refine Ext.alloc ?_ _ | refine Ext.drew ?_ | refine Ext.drewN _ ?_ | refine Ext.trans ?_ (by assumption)))).mono ?_
    rintro e w1 ⟨nv, rfl, hn1, hx1⟩
    obtain ⟨q1, hx, hk0⟩ := alloc1 hx1
    obtain ⟨nA, nc, hnv⟩ := hn1.form
    subst hnv
    have hM0 := mapAt_made encSh w1
    obtain ⟨M, hMe⟩ : ∃ M, w1.heap.size = M := ⟨_, rfl⟩
    obtain ⟨W2, hW2⟩ : ∃ W, w1.alloc (.map #[] 0) = W := ⟨_, rfl⟩
    have hx2 : Ext w1 W2 := by rw [← hW2]; exact (by repeat (first | exact Ext.refl _ | assumption | refine Ext.alloc ?_ _ | refine Ext.drew ?_ | refine Ext.drewN _ ?_ | refine Ext.trans ?_ (by assumption)))
    rw [hW2, hMe] at hM0
    have hM0' : MapAt encSh W2 M (seenL []) := hM0
    have hwM : w.heap.size < M := by rw [← hMe]; exact hk0
    have q2 := q1.ext hx2
    have hxx := hx.trans hx2
    have hN := cntT_len P g
    have hNg := cntT_get P g
    have hn2 := rowI_base (rowI_ext hn1 hx2) (show w.heap.size ≤ _ by simp)
    obtain ⟨C, hC⟩ : ∃ C, cntT P g = C := ⟨_, rfl⟩
    rw [hC] at hN hNg hn2
    have HN := Lib.hid hN
    have HNG := Lib.hid hNg
    have HN2 := Lib.hid hn2
    have hst0 : lnkG P g 0 0 0 (([] : List ShK).map (·.1)) (l.drop 0) = R := H2.out.symm
    have HST0 := Lib.hid hst0
    try rw [hC]
    clear hx1 hk0 hn1 q1 hx hM0 hN hNg hC hn2 hst0 H2
    go_wp2_with fail
    go_loopw [24, 9, 10] (fun i sv av wr => ∃ (k : Nat) (so at_ : Int) (o : List ShK), k ≤ l.length ∧ i = .int .i64 k ∧ sv = .int .i64 so ∧ av = .int .i64 at_ ∧ Hid (lnkG P g k so at_ (o.map (·.1)) (l.drop k) = R) ∧ MapAt encSh wr M (seenL o) ∧ Cls w.heap.size 25 #[.slice aa P.ts.length ca, .slice ab P.ss.length cb] wr ∧ Hid (RowI w.heap.size (.slice nA C.length nc) C wr) ∧ Ext w wr ∧ Hid (so = 0 ∨ ∃ t ∈ P.ts, t.id = so) ∧ Hid (0 < k → ∃ t ∈ P.ts, t.id = at_)) (fun i _ _ _ => l.length - (intOf i).toNat)
    case atStart => exact ⟨0, 0, 0, [], Nat.zero_le _, rfl, rfl, rfl, HST0, hM0', q2, HN2, hxx, Lib.hid (.inl rfl), Lib.hid (fun h => by omega)⟩
    case round =>
      clear hM0' q2 HN2 hxx HST0 hMe hW2 hx2 hmk
      obtain ⟨k, so, a_, o, hk, rfl, rfl, rfl, HST, hM, q, HNR, hx, HSO, HAT⟩ := hrel
      have d0 : wr.cell? ⟨w.heap.size, 0, none⟩ = some (.slice aa P.ts.length ca) := q.cell 0
      have d1 : wr.cell? ⟨w.heap.size, 1, none⟩ = some (.slice ab P.ss.length cb) := q.cell 1
      by_cases hlk : k < l.length
      · obtain ⟨bl, ol, hal, c0, c1⟩ := (hl.ext hx).get k hlk
        subst hal
        have hst := lnk_step (P := P) (g := g) (so := so) (a := a_) (se := o.map (·.1)) hlk
        rw [HST.out] at hst
        obtain ⟨s, hs⟩ : ∃ s, l[k].1 = s := ⟨_, rfl⟩
        obtain ⟨u, hu⟩ : ∃ s, l[k].2 = s := ⟨_, rfl⟩
        rw [hs, hu] at hst
        rw [hs] at c0
        rw [hu] at c1
        have husl := fun h1 h2 => us_slot hok (s := s) (u := u) h1 h2
        have KS := HKSL.out s
        have hgs : gAt P g s = g.getD (slI P s).toNat 0 := rfl
        have hsr : slI P s = -1 ∨ (((0 : Nat) : Int) ≤ slI P s ∧ slI P s < ((0 : Nat) : Int) + P.ss.length) := ixF_lo
        obtain ⟨S, hSS⟩ : ∃ S, slI P s = S := ⟨_, rfl⟩
        simp only [hSS] at KS husl hsr
        rw [hSS] at hst hgs
        obtain ⟨US, hUS⟩ : ∃ US, usOf P S.toNat = US := ⟨_, rfl⟩
        obtain ⟨ct, hct⟩ : ∃ c, US.contains u = c := ⟨_, rfl⟩
        simp only [hUS, hct] at husl
        rw [hUS, hct] at hst
        obtain ⟨gv, hgv⟩ : ∃ gv, gAt P g s = gv := ⟨_, rfl⟩
        rw [hgv] at hst hgs
        have HST2 := Lib.hid hst
        have HUSL := Lib.hid husl
        have HKS := Lib.hid KS
        have HGS := Lib.hid hgs
        have HUSS := Lib.hid hUS
        have HCT := Lib.hid hct
        obtain ⟨MB, hMB⟩ : ∃ PB, wr.heap.size = PB := ⟨_, rfl⟩
        obtain ⟨Y, hY⟩ : ∃ Y, wr.alloc (.cells #[.int .i64 s, .int .i64 u] 58) = Y := ⟨_, rfl⟩
        have hxY : Ext wr Y := by rw [← hY]; exact (by repeat (first | exact Ext.refl _ | assumption | refine Ext.alloc ?_ _ | refine Ext.drew ?_ | refine Ext.drewN _ ?_ | refine Ext.trans ?_ (by assumption)))
        have hbY : Cls MB 58 #[.int .i64 s, .int .i64 u] Y := by rw [← hY]; exact Cls.newAt _ _ _ hMB.symm
        have e0 : Y.cell? ⟨MB, 0, none⟩ = some (.int .i64 s) := hbY.cell 0
        replace d0 := hxY.cell d0
        replace d1 := hxY.cell d1
        have hMBM : M < MB := by rw [← hMB]; exact hM.lt
        clear hst husl KS hgs hSS hUS hct hgv hs hu HST
        go_wp2_with fail
        refine (HKS.out _ (hx.trans hxY)).mono ?_
        rintro e w4 ⟨rfl, hz⟩
        have hx4 := (hx.trans hxY).trans hz
        have hb4 := hbY.ext hz
        have hM4 := (hM.ext hxY).ext hz
        have q4 := (q.ext hxY).ext hz
        have HNR4 := Lib.hid (rowI_ext (rowI_ext HNR.out hxY) hz)
        have e0 : w4.cell? ⟨MB, 0, none⟩ = some (.int .i64 s) := hb4.cell 0
        have e1 : w4.cell? ⟨MB, 1, none⟩ = some (.int .i64 u) := hb4.cell 1
        replace d0 := hz.cell d0
        replace d1 := hz.cell d1
        clear hz hbY hxY hM q HNR hx HKS c0 c1 hY hMB
        by_cases hS0 : S < 0
        · have h2 := HST2.out
          rw [if_pos hS0] at h2
          have H2 := Lib.hid h2
          clear h2
          go_upto_region 10 with fail
          refine wp_region_held_drew (S := fun W' => W'.cell? ⟨w.heap.size, 0, none⟩ = some (.slice aa P.ts.length ca) ∧ W'.cell? ⟨w.heap.size, 1, none⟩ = some (.slice ab P.ss.length cb) ∧ W'.cell? ⟨MB, 0, none⟩ = some (.int .i64 s) ∧ W'.cell? ⟨MB, 1, none⟩ = some (.int .i64 u) ∧ Ext w4 W') (by kernel_rfl) ?_ (fun hHeld => ?_)
          · exact ⟨d0, d1, e0, e1, Ext.drew (Ext.refl _)⟩
          obtain ⟨V0, hV0⟩ : ∃ V, World.drew w4 = V := ⟨_, rfl⟩
          rw [hV0] at hHeld ⊢
          clear hV0
          (refine tkH (i := 0) (v := ?_) rfl ?_ ?_; rotate_left 1; (focus (intro w hSw; (try dsimp only at hSw); go_simp; try (with_reducible rfl))))
          try simp only [Act.put, xA1, xA2, xA4, xA5, xA6]
          (refine tkH (i := 1) (v := ?_) rfl ?_ ?_; rotate_left 1; (focus (intro w hSw; (try dsimp only at hSw); go_simp; try (with_reducible rfl))))
          try simp only [Act.put, xA1, xA2, xA3, xA4, xA5, xA6]
          (refine tkH (i := 2) (v := ?_) rfl ?_ ?_; rotate_left 1; (focus (intro w hSw; (try dsimp only at hSw); go_simp; try (with_reducible rfl))))
          try simp only [Act.put, xA1, xA2, xA3, xA4, xA5, xA6]
          (refine skH (i := 3) rfl ?_)
          try simp only [Act.put, xA1, xA2, xA3, xA4, xA5, xA6]
          (refine skH (i := 4) rfl ?_)
          try simp only [Act.put, xA1, xA2, xA3, xA4, xA5, xA6]
          (refine skH (i := 5) rfl ?_)
          try simp only [Act.put, xA1, xA2, xA3, xA4, xA5, xA6]
          (refine skH (i := 6) rfl ?_)
          try simp only [Act.put, xA1, xA2, xA3, xA4, xA5, xA6]
          (refine skH (i := 7) rfl ?_)
          try simp only [Act.put, xA1, xA2, xA3, xA4, xA5, xA6]
          (refine skH (i := 8) rfl ?_)
          try simp only [Act.put, xA1, xA2, xA3, xA4, xA5, xA6]
          (refine skH (i := 9) rfl ?_)
          try simp only [Act.put, xA1, xA2, xA3, xA4, xA5, xA6]
          (refine skH (i := 10) rfl ?_)
          try simp only [Act.put, xA1, xA2, xA3, xA4, xA5, xA6]
          (refine skH (i := 11) rfl ?_)
          try simp only [Act.put, xA1, xA2, xA3, xA4, xA5, xA6]
          (refine skH (i := 12) rfl ?_)
          try simp only [Act.put, xA1, xA2, xA3, xA4, xA5, xA6]
          (refine tkH (i := 13) (v := ?_) rfl ?_ ?_; rotate_left 1; (focus (intro w hSw; (try dsimp only at hSw); go_simp; try (with_reducible rfl))))
          try simp only [Act.put, xA1, xA2, xA3, xA4, xA5, xA6]
          (refine tkH (i := 14) (v := ?_) rfl ?_ ?_; rotate_left 1; (focus (intro w hSw; (try dsimp only at hSw); go_simp; try (with_reducible rfl))))
          try simp only [Act.put, xA1, xA2, xA3, xA4, xA5, xA6]
          (refine skH (i := 15) rfl ?_)
          try simp only [Act.put, xA1, xA2, xA3, xA4, xA5, xA6]
          (refine skH (i := 16) rfl ?_)
          try simp only [Act.put, xA1, xA2, xA3, xA4, xA5, xA6]
          (refine skH (i := 17) rfl ?_)
          try simp only [Act.put, xA1, xA2, xA3, xA4, xA5, xA6]
          (refine skH (i := 18) rfl ?_)
          try simp only [Act.put, xA1, xA2, xA3, xA4, xA5, xA6]
          (refine skH (i := 19) rfl ?_)
          try simp only [Act.put, xA1, xA2, xA3, xA4, xA5, xA6]
          (refine skH (i := 20) rfl ?_)
          try simp only [Act.put, xA1, xA2, xA3, xA4, xA5, xA6]
          (refine skH (i := 21) rfl ?_)
          try simp only [Act.put, xA1, xA2, xA3, xA4, xA5, xA6]
          (refine tkH (i := 22) (v := ?_) rfl ?_ ?_; rotate_left 1; (focus (intro w hSw; (try dsimp only at hSw); go_simp; try (with_reducible rfl))))
          try simp only [Act.put, xA1, xA2, xA3, xA4, xA5, xA6]
          (refine tkH (i := 23) (v := ?_) rfl ?_ ?_; rotate_left 1; (focus (intro w hSw; (try dsimp only at hSw); go_simp; try (with_reducible rfl))))
          try simp only [Act.put, xA1, xA2, xA3, xA4, xA5, xA6]
          (refine skH (i := 24) rfl ?_)
          try simp only [Act.put, xA1, xA2, xA3, xA4, xA5, xA6]
          (refine skH (i := 25) rfl ?_)
          try simp only [Act.put, xA1, xA2, xA3, xA4, xA5, xA6]
          (refine skH (i := 26) rfl ?_)
          try simp only [Act.put, xA1, xA2, xA3, xA4, xA5, xA6]
          (refine skH (i := 27) rfl ?_)
          try simp only [Act.put, xA1, xA2, xA3, xA4, xA5, xA6]
          (refine skH (i := 28) rfl ?_)
          try simp only [Act.put, xA1, xA2, xA3, xA4, xA5, xA6]
          (refine skH (i := 29) rfl ?_)
          try simp only [Act.put, xA1, xA2, xA3, xA4, xA5, xA6]
          (refine skH (i := 30) rfl ?_)
          try simp only [Act.put, xA1, xA2, xA3, xA4, xA5, xA6]
          (refine skH (i := 31) rfl ?_)
          try simp only [Act.put, xA1, xA2, xA3, xA4, xA5, xA6]
          (refine skH (i := 32) rfl ?_)
          try simp only [Act.put, xA1, xA2, xA3, xA4, xA5, xA6]
          (refine skH (i := 33) rfl ?_)
          try simp only [Act.put, xA1, xA2, xA3, xA4, xA5, xA6]
          (refine tkH (i := 34) (v := ?_) rfl ?_ ?_; rotate_left 1; (focus (intro w hSw; (try dsimp only at hSw); go_simp; try (with_reducible rfl))))
          try simp only [Act.put, xA1, xA2, xA3, xA4, xA5, xA6]
          refine wpAnyH_done (by kernel_rfl) ?_ _
          have hzz := hHeld.2.2.2.2
          go_wp2_with fail
          go_ret
          exact ⟨ret_bool H2.out.symm, hx4.trans hzz⟩
        · have h3 := HST2.out
          rw [if_neg hS0] at h3
          have H3 := Lib.hid h3
          clear h3
          obtain ⟨i, rfl⟩ : ∃ i : Nat, S = i := ⟨S.toNat, by omega⟩
          have hi : i < P.ss.length := by omega
          have hig : i < g.length := by have := HGL.out; omega
          have hu0 := HUSS.out
          rw [Int.toNat_natCast, usOf_at hi] at hu0
          have hgs := HGS.out
          rw [Int.toNat_natCast] at hgs
          have hgi : g[i] = gv := by rw [hgs]; simp [hig]
          obtain ⟨b2, o2, ua, uc, hab, _, s1, hucl, hU⟩ := (hT.s.ext hx4).get i hi
          obtain ⟨bg, og, hag, cg0⟩ := (hg.ext hx4).get i hig
          have hul := HUL.out _ (List.getElem_mem hi)
          have hgu := HUS.out i hig hi
          have hsid : P.ss[i].id = s → 1 ≤ s ∧ s ≤ 1099511627776 := fun e => by rw [← e]; exact hok.si _ (List.getElem_mem hi)
          have husx := hok.us _ (List.getElem_mem hi)
          rw [hu0] at s1 hucl hU hul hgu husx
          rw [hgi] at cg0 hgu
          have KCT : ∀ W, Ext w4 W → Calls Try.prog 125 #[.slice ua US.length uc, .int .i64 u] W fun e w' => e = .returned (.bool ct) ∧ Ext W w' := fun W x => (contains_any _ US u W (hU.ext x) (by omega)).mono (fun e W' h => ⟨by rw [h.1, HCT.out], h.2 ▸ Ext.refl _⟩)
          have HKCT := Lib.hid KCT
          have HGU := Lib.hid hgu
          have HSID := Lib.hid hsid
          have HUSX := Lib.hid husx
          have hii : (i : Int) < P.ss.length := by omega
          have hiig : (i : Int) < g.length := by omega
          subst hab
          subst hag
          clear KCT hu0 hgs hgi hgu hsid hU husx
          cases ct
          · have h2 := H3.out
            rw [if_pos rfl] at h2
            have H2 := Lib.hid h2
            clear h2
            go_upto_region 10 with fail
            refine wp_region_held_drew (S := fun W' => W'.cell? ⟨w.heap.size, 0, none⟩ = some (.slice aa P.ts.length ca) ∧ W'.cell? ⟨w.heap.size, 1, none⟩ = some (.slice (some ⟨b2, o2, none⟩) P.ss.length cb) ∧ W'.cell? ⟨MB, 0, none⟩ = some (.int .i64 s) ∧ W'.cell? ⟨MB, 1, none⟩ = some (.int .i64 u) ∧ W'.cell? ⟨b2, o2 + i * 2 + 1, none⟩ = some (.slice ua US.length uc) ∧ W'.cell? ⟨bg, og + i, none⟩ = some (.int .i64 gv) ∧ Ext w4 W') (by kernel_rfl) ?_ (fun hHeld => ?_)
            · exact ⟨d0, d1, e0, e1, s1, cg0, Ext.drew (Ext.refl _)⟩
            obtain ⟨V0, hV0⟩ : ∃ V, World.drew w4 = V := ⟨_, rfl⟩
            rw [hV0] at hHeld ⊢
            clear hV0
            (refine tkH (i := 0) (v := ?_) rfl ?_ ?_; rotate_left 1; (focus (intro w hSw; (try dsimp only at hSw); go_simp; try (with_reducible rfl))))
            try simp only [Act.put, xA1, xA2, xA4, xA5, xA6]
            (refine tkH (i := 1) (v := ?_) rfl ?_ ?_; rotate_left 1; (focus (intro w hSw; (try dsimp only at hSw); go_simp; try (with_reducible rfl))))
            try simp only [Act.put, xA1, xA2, xA3, xA4, xA5, xA6]
            (refine tkH (i := 2) (v := ?_) rfl ?_ ?_; rotate_left 1; (focus (intro w hSw; (try dsimp only at hSw); go_simp; try (with_reducible rfl))))
            try simp only [Act.put, xA1, xA2, xA3, xA4, xA5, xA6]
            (refine tkH (i := 3) (v := ?_) rfl ?_ ?_; rotate_left 1; (focus (intro w hSw; (try dsimp only at hSw); go_simp; try (with_reducible rfl))))
            try simp only [Act.put, xA1, xA2, xA3, xA4, xA5, xA6]
            (refine tkH (i := 4) (v := ?_) rfl ?_ ?_; rotate_left 1; (focus (intro w hSw; (try dsimp only at hSw); go_simp; try (with_reducible rfl))))
            try simp only [Act.put, xA1, xA2, xA3, xA4, xA5, xA6]
            (refine tkH (i := 5) (v := ?_) rfl ?_ ?_; rotate_left 1; (focus (intro w hSw; (try dsimp only at hSw); go_simp; try (with_reducible rfl))))
            try simp only [Act.put, xA1, xA2, xA3, xA4, xA5, xA6]
            (refine tkH (i := 6) (v := ?_) rfl ?_ ?_; rotate_left 1; (focus (intro w hSw; (try dsimp only at hSw); go_simp; try (with_reducible rfl))))
            try simp only [Act.put, xA1, xA2, xA3, xA4, xA5, xA6]
            (refine tkH (i := 7) (v := ?_) rfl ?_ ?_; rotate_left 1; (focus (intro w hSw; (try dsimp only at hSw); go_simp; try (with_reducible rfl))))
            try simp only [Act.put, xA1, xA2, xA3, xA4, xA5, xA6]
            (refine tkH (i := 8) (v := ?_) rfl ?_ ?_; rotate_left 1; (focus (intro w hSw; (try dsimp only at hSw); go_simp; try (with_reducible rfl))))
            try simp only [Act.put, xA1, xA2, xA3, xA4, xA5, xA6]
            (refine tkH (i := 9) (v := ?_) rfl ?_ ?_; rotate_left 1; (focus (intro w hSw; (try dsimp only at hSw); go_simp; try (with_reducible rfl))))
            try simp only [Act.put, xA1, xA2, xA3, xA4, xA5, xA6]
            (refine tkH (i := 10) (v := ?_) rfl ?_ ?_; rotate_left 1; (focus (intro w hSw; (try dsimp only at hSw); go_simp; try (with_reducible rfl))))
            try simp only [Act.put, xA1, xA2, xA3, xA4, xA5, xA6]
            refine wpAnyH_ready (rs := [11]) (by kernel_rfl) (by simp) ?_
            refine AllReadyH.cons rfl (fun K hK => ?_) AllReadyH.nil
            go_simp
            go_at_call 125; refine (HKCT.out V0 hHeld.2.2.2.2.2.2).mono ?_; rintro e V1 ⟨rfl, hz⟩
            refine hK.out _ _ ?_ (fun hHeld => ?_)
            · exact ⟨Ext.cell hz hHeld.1, Ext.cell hz hHeld.2.1, Ext.cell hz hHeld.2.2.1, Ext.cell hz hHeld.2.2.2.1, Ext.cell hz hHeld.2.2.2.2.1, Ext.cell hz hHeld.2.2.2.2.2.1, hHeld.2.2.2.2.2.2.trans hz⟩
            clear hK K
            clear hz
            try simp only [Act.put, xA1, xA2, xA3, xA4, xA5, xA6]
            (refine tkH (i := 12) (v := ?_) rfl ?_ ?_; rotate_left 1; (focus (intro w hSw; (try dsimp only at hSw); go_simp; try (with_reducible rfl))))
            try simp only [Act.put, xA1, xA2, xA3, xA4, xA5, xA6]
            (refine tkH (i := 13) (v := ?_) rfl ?_ ?_; rotate_left 1; (focus (intro w hSw; (try dsimp only at hSw); go_simp; try (with_reducible rfl))))
            try simp only [Act.put, xA1, xA2, xA3, xA4, xA5, xA6]
            (refine tkH (i := 14) (v := ?_) rfl ?_ ?_; rotate_left 1; (focus (intro w hSw; (try dsimp only at hSw); go_simp; try (with_reducible rfl))))
            try simp only [Act.put, xA1, xA2, xA3, xA4, xA5, xA6]
            (refine skH (i := 15) rfl ?_)
            try simp only [Act.put, xA1, xA2, xA3, xA4, xA5, xA6]
            (refine skH (i := 16) rfl ?_)
            try simp only [Act.put, xA1, xA2, xA3, xA4, xA5, xA6]
            (refine skH (i := 17) rfl ?_)
            try simp only [Act.put, xA1, xA2, xA3, xA4, xA5, xA6]
            (refine skH (i := 18) rfl ?_)
            try simp only [Act.put, xA1, xA2, xA3, xA4, xA5, xA6]
            (refine skH (i := 19) rfl ?_)
            try simp only [Act.put, xA1, xA2, xA3, xA4, xA5, xA6]
            (refine skH (i := 20) rfl ?_)
            try simp only [Act.put, xA1, xA2, xA3, xA4, xA5, xA6]
            (refine skH (i := 21) rfl ?_)
            try simp only [Act.put, xA1, xA2, xA3, xA4, xA5, xA6]
            (refine tkH (i := 22) (v := ?_) rfl ?_ ?_; rotate_left 1; (focus (intro w hSw; (try dsimp only at hSw); go_simp; try (with_reducible rfl))))
            try simp only [Act.put, xA1, xA2, xA3, xA4, xA5, xA6]
            (refine tkH (i := 23) (v := ?_) rfl ?_ ?_; rotate_left 1; (focus (intro w hSw; (try dsimp only at hSw); go_simp; try (with_reducible rfl))))
            try simp only [Act.put, xA1, xA2, xA3, xA4, xA5, xA6]
            (refine skH (i := 24) rfl ?_)
            try simp only [Act.put, xA1, xA2, xA3, xA4, xA5, xA6]
            (refine skH (i := 25) rfl ?_)
            try simp only [Act.put, xA1, xA2, xA3, xA4, xA5, xA6]
            (refine skH (i := 26) rfl ?_)
            try simp only [Act.put, xA1, xA2, xA3, xA4, xA5, xA6]
            (refine skH (i := 27) rfl ?_)
            try simp only [Act.put, xA1, xA2, xA3, xA4, xA5, xA6]
            (refine skH (i := 28) rfl ?_)
            try simp only [Act.put, xA1, xA2, xA3, xA4, xA5, xA6]
            (refine skH (i := 29) rfl ?_)
            try simp only [Act.put, xA1, xA2, xA3, xA4, xA5, xA6]
            (refine skH (i := 30) rfl ?_)
            try simp only [Act.put, xA1, xA2, xA3, xA4, xA5, xA6]
            (refine skH (i := 31) rfl ?_)
            try simp only [Act.put, xA1, xA2, xA3, xA4, xA5, xA6]
            (refine skH (i := 32) rfl ?_)
            try simp only [Act.put, xA1, xA2, xA3, xA4, xA5, xA6]
            (refine skH (i := 33) rfl ?_)
            try simp only [Act.put, xA1, xA2, xA3, xA4, xA5, xA6]
            (refine tkH (i := 34) (v := ?_) rfl ?_ ?_; rotate_left 1; (focus (intro w hSw; (try dsimp only at hSw); go_simp; try (with_reducible rfl))))
            try simp only [Act.put, xA1, xA2, xA3, xA4, xA5, xA6]
            refine wpAnyH_done (by kernel_rfl) ?_ _
            have hzz := hHeld.2.2.2.2.2.2
            go_wp2_with fail
            go_ret
            exact ⟨ret_bool H2.out.symm, hx4.trans hzz⟩
          · have h4 := H3.out
            rw [if_neg (by decide)] at h4
            have H4 := Lib.hid h4
            obtain ⟨i', hi', hi2, hsid, humem, hux, hte⟩ := HUSL.out (by omega) rfl
            have hsid2 : P.ss[i].id = s := by
              have e : i' = i := by omega
              subst e
              exact hsid
            have hsb := HSID.out hsid2
            have HTE := Lib.hid hte
            clear h4 hi2 hsid humem hte hsid2 hux
            by_cases hgu : gv = u
            · have h2 := H4.out
              rw [if_pos hgu] at h2
              have H2 := Lib.hid h2
              have hgb : (gv == u) = true := by simp [hgu]
              clear h2 hgu
              go_upto_region 10 with fail
              refine wp_region_held_drew (S := fun W' => W'.cell? ⟨w.heap.size, 0, none⟩ = some (.slice aa P.ts.length ca) ∧ W'.cell? ⟨w.heap.size, 1, none⟩ = some (.slice (some ⟨b2, o2, none⟩) P.ss.length cb) ∧ W'.cell? ⟨MB, 0, none⟩ = some (.int .i64 s) ∧ W'.cell? ⟨MB, 1, none⟩ = some (.int .i64 u) ∧ W'.cell? ⟨b2, o2 + i * 2 + 1, none⟩ = some (.slice ua US.length uc) ∧ W'.cell? ⟨bg, og + i, none⟩ = some (.int .i64 gv) ∧ Ext w4 W') (by kernel_rfl) ?_ (fun hHeld => ?_)
              · exact ⟨d0, d1, e0, e1, s1, cg0, Ext.drew (Ext.refl _)⟩
              obtain ⟨V0, hV0⟩ : ∃ V, World.drew w4 = V := ⟨_, rfl⟩
              rw [hV0] at hHeld ⊢
              clear hV0
              (refine tkH (i := 0) (v := ?_) rfl ?_ ?_; rotate_left 1; (focus (intro w hSw; (try dsimp only at hSw); go_simp; try (with_reducible rfl))))
              try simp only [Act.put, xA1, xA2, xA4, xA5, xA6]
              (refine tkH (i := 1) (v := ?_) rfl ?_ ?_; rotate_left 1; (focus (intro w hSw; (try dsimp only at hSw); go_simp; try (with_reducible rfl))))
              try simp only [Act.put, xA1, xA2, xA3, xA4, xA5, xA6]
              (refine tkH (i := 2) (v := ?_) rfl ?_ ?_; rotate_left 1; (focus (intro w hSw; (try dsimp only at hSw); go_simp; try (with_reducible rfl))))
              try simp only [Act.put, xA1, xA2, xA3, xA4, xA5, xA6]
              (refine tkH (i := 3) (v := ?_) rfl ?_ ?_; rotate_left 1; (focus (intro w hSw; (try dsimp only at hSw); go_simp; try (with_reducible rfl))))
              try simp only [Act.put, xA1, xA2, xA3, xA4, xA5, xA6]
              (refine tkH (i := 4) (v := ?_) rfl ?_ ?_; rotate_left 1; (focus (intro w hSw; (try dsimp only at hSw); go_simp; try (with_reducible rfl))))
              try simp only [Act.put, xA1, xA2, xA3, xA4, xA5, xA6]
              (refine tkH (i := 5) (v := ?_) rfl ?_ ?_; rotate_left 1; (focus (intro w hSw; (try dsimp only at hSw); go_simp; try (with_reducible rfl))))
              try simp only [Act.put, xA1, xA2, xA3, xA4, xA5, xA6]
              (refine tkH (i := 6) (v := ?_) rfl ?_ ?_; rotate_left 1; (focus (intro w hSw; (try dsimp only at hSw); go_simp; try (with_reducible rfl))))
              try simp only [Act.put, xA1, xA2, xA3, xA4, xA5, xA6]
              (refine tkH (i := 7) (v := ?_) rfl ?_ ?_; rotate_left 1; (focus (intro w hSw; (try dsimp only at hSw); go_simp; try (with_reducible rfl))))
              try simp only [Act.put, xA1, xA2, xA3, xA4, xA5, xA6]
              (refine tkH (i := 8) (v := ?_) rfl ?_ ?_; rotate_left 1; (focus (intro w hSw; (try dsimp only at hSw); go_simp; try (with_reducible rfl))))
              try simp only [Act.put, xA1, xA2, xA3, xA4, xA5, xA6]
              (refine tkH (i := 9) (v := ?_) rfl ?_ ?_; rotate_left 1; (focus (intro w hSw; (try dsimp only at hSw); go_simp; try (with_reducible rfl))))
              try simp only [Act.put, xA1, xA2, xA3, xA4, xA5, xA6]
              (refine tkH (i := 10) (v := ?_) rfl ?_ ?_; rotate_left 1; (focus (intro w hSw; (try dsimp only at hSw); go_simp; try (with_reducible rfl))))
              try simp only [Act.put, xA1, xA2, xA3, xA4, xA5, xA6]
              refine wpAnyH_ready (rs := [11]) (by kernel_rfl) (by simp) ?_
              refine AllReadyH.cons rfl (fun K hK => ?_) AllReadyH.nil
              go_simp
              go_at_call 125; refine (HKCT.out V0 hHeld.2.2.2.2.2.2).mono ?_; rintro e V1 ⟨rfl, hz⟩
              refine hK.out _ _ ?_ (fun hHeld => ?_)
              · exact ⟨Ext.cell hz hHeld.1, Ext.cell hz hHeld.2.1, Ext.cell hz hHeld.2.2.1, Ext.cell hz hHeld.2.2.2.1, Ext.cell hz hHeld.2.2.2.2.1, Ext.cell hz hHeld.2.2.2.2.2.1, hHeld.2.2.2.2.2.2.trans hz⟩
              clear hK K
              clear hz
              try simp only [Act.put, xA1, xA2, xA3, xA4, xA5, xA6]
              (refine tkH (i := 12) (v := ?_) rfl ?_ ?_; rotate_left 1; (focus (intro w hSw; (try dsimp only at hSw); go_simp; try (with_reducible rfl))))
              try simp only [Act.put, xA1, xA2, xA3, xA4, xA5, xA6]
              (refine tkH (i := 13) (v := ?_) rfl ?_ ?_; rotate_left 1; (focus (intro w hSw; (try dsimp only at hSw); go_simp; try (with_reducible rfl))))
              try simp only [Act.put, xA1, xA2, xA3, xA4, xA5, xA6]
              (refine tkH (i := 14) (v := ?_) rfl ?_ ?_; rotate_left 1; (focus (intro w hSw; (try dsimp only at hSw); go_simp; try (with_reducible rfl))))
              try simp only [Act.put, xA1, xA2, xA3, xA4, xA5, xA6]
              (refine tkH (i := 15) (v := ?_) rfl ?_ ?_; rotate_left 1; (focus (intro w hSw; (try dsimp only at hSw); go_simp; try (with_reducible rfl))))
              try simp only [Act.put, xA1, xA2, xA3, xA4, xA5, xA6]
              (refine tkH (i := 16) (v := ?_) rfl ?_ ?_; rotate_left 1; (focus (intro w hSw; (try dsimp only at hSw); go_simp; try (with_reducible rfl))))
              try simp only [Act.put, xA1, xA2, xA3, xA4, xA5, xA6]
              (refine tkH (i := 17) (v := ?_) rfl ?_ ?_; rotate_left 1; (focus (intro w hSw; (try dsimp only at hSw); go_simp; try (with_reducible rfl))))
              try simp only [Act.put, xA1, xA2, xA3, xA4, xA5, xA6]
              (refine tkH (i := 18) (v := ?_) rfl ?_ ?_; rotate_left 1; (focus (intro w hSw; (try dsimp only at hSw); go_simp; try (with_reducible rfl))))
              try simp only [Act.put, xA1, xA2, xA3, xA4, xA5, xA6]
              (refine tkH (i := 19) (v := ?_) rfl ?_ ?_; rotate_left 1; (focus (intro w hSw; (try dsimp only at hSw); go_simp; try (with_reducible rfl))))
              try simp only [Act.put, xA1, xA2, xA3, xA4, xA5, xA6]
              (refine tkH (i := 20) (v := ?_) rfl ?_ ?_; rotate_left 1; (focus (intro w hSw; (try dsimp only at hSw); go_simp; try (with_reducible rfl))))
              try simp only [Act.put, xA1, xA2, xA3, xA4, xA5, xA6]
              (refine tkH (i := 21) (v := ?_) rfl ?_ ?_; rotate_left 1; (focus (intro w hSw; (try dsimp only at hSw); go_simp; try (with_reducible rfl))))
              try simp only [Act.put, xA1, xA2, xA3, xA4, xA5, xA6]
              (refine tkH (i := 22) (v := ?_) rfl ?_ ?_; rotate_left 1; (focus (intro w hSw; (try dsimp only at hSw); go_simp; try (with_reducible rfl))))
              try simp only [Act.put, xA1, xA2, xA3, xA4, xA5, xA6]
              (refine tkH (i := 23) (v := ?_) rfl ?_ ?_; rotate_left 1; (focus (intro w hSw; (try dsimp only at hSw); go_simp; try (with_reducible rfl))))
              try simp only [Act.put, xA1, xA2, xA3, xA4, xA5, xA6]
              (refine skH (i := 24) rfl ?_)
              try simp only [Act.put, xA1, xA2, xA3, xA4, xA5, xA6]
              (refine skH (i := 25) rfl ?_)
              try simp only [Act.put, xA1, xA2, xA3, xA4, xA5, xA6]
              (refine skH (i := 26) rfl ?_)
              try simp only [Act.put, xA1, xA2, xA3, xA4, xA5, xA6]
              (refine skH (i := 27) rfl ?_)
              try simp only [Act.put, xA1, xA2, xA3, xA4, xA5, xA6]
              (refine skH (i := 28) rfl ?_)
              try simp only [Act.put, xA1, xA2, xA3, xA4, xA5, xA6]
              (refine skH (i := 29) rfl ?_)
              try simp only [Act.put, xA1, xA2, xA3, xA4, xA5, xA6]
              (refine skH (i := 30) rfl ?_)
              try simp only [Act.put, xA1, xA2, xA3, xA4, xA5, xA6]
              (refine skH (i := 31) rfl ?_)
              try simp only [Act.put, xA1, xA2, xA3, xA4, xA5, xA6]
              (refine skH (i := 32) rfl ?_)
              try simp only [Act.put, xA1, xA2, xA3, xA4, xA5, xA6]
              (refine skH (i := 33) rfl ?_)
              try simp only [Act.put, xA1, xA2, xA3, xA4, xA5, xA6]
              (refine tkH (i := 34) (v := ?_) rfl ?_ ?_; rotate_left 1; (focus (intro w hSw; (try dsimp only at hSw); go_simp; try (with_reducible rfl))))
              try simp only [Act.put, xA1, xA2, xA3, xA4, xA5, xA6]
              refine wpAnyH_done (by kernel_rfl) ?_ _
              have hzz := hHeld.2.2.2.2.2.2
              go_wp2_with fail
              go_ret
              exact ⟨ret_bool H2.out.symm, hx4.trans hzz⟩
            · have h5 := H4.out
              rw [if_neg hgu] at h5
              have H5 := Lib.hid h5
              have hgb : (gv == u) = false := by simp [hgu]
              clear h5 hgu
              by_cases hk0 : 0 < k
              · have hk0i : (k : Int) > 0 := by omega
                have hkb : ((k : Int) == 0) = false := by rw [beq_eq_false_iff_ne]; omega
                have hkn : ¬ ((k : Int) = 0) := by omega
                by_cases hga : gv = a_
                · have h6 := H5.out
                  have e0' : (if k = 0 then gv else so) = so := if_neg (by omega)
                  rw [if_neg (by rintro ⟨_, h⟩; exact h hga), e0'] at h6
                  have H6 := Lib.hid h6
                  have hgab : (gv != a_) = false := by simp [hga]
                  have HSO2 := HSO
                  clear h6 hga e0'
                  go_upto_region 10 with fail
                  refine wp_region_held_drew (S := fun W' => W'.cell? ⟨w.heap.size, 0, none⟩ = some (.slice aa P.ts.length ca) ∧ W'.cell? ⟨w.heap.size, 1, none⟩ = some (.slice (some ⟨b2, o2, none⟩) P.ss.length cb) ∧ W'.cell? ⟨MB, 0, none⟩ = some (.int .i64 s) ∧ W'.cell? ⟨MB, 1, none⟩ = some (.int .i64 u) ∧ W'.cell? ⟨b2, o2 + i * 2 + 1, none⟩ = some (.slice ua US.length uc) ∧ W'.cell? ⟨bg, og + i, none⟩ = some (.int .i64 gv) ∧ Ext w4 W') (by kernel_rfl) ?_ (fun hHeld => ?_)
                  · exact ⟨d0, d1, e0, e1, s1, cg0, Ext.drew (Ext.refl _)⟩
                  obtain ⟨V0, hV0⟩ : ∃ V, World.drew w4 = V := ⟨_, rfl⟩
                  rw [hV0] at hHeld ⊢
                  clear hV0
                  (refine tkH (i := 0) (v := ?_) rfl ?_ ?_; rotate_left 1; (focus (intro w hSw; (try dsimp only at hSw); go_simp; try (with_reducible rfl))))
                  try simp only [Act.put, xA1, xA2, xA4, xA5, xA6]
                  (refine tkH (i := 1) (v := ?_) rfl ?_ ?_; rotate_left 1; (focus (intro w hSw; (try dsimp only at hSw); go_simp; try (with_reducible rfl))))
                  try simp only [Act.put, xA1, xA2, xA3, xA4, xA5, xA6]
                  (refine tkH (i := 2) (v := ?_) rfl ?_ ?_; rotate_left 1; (focus (intro w hSw; (try dsimp only at hSw); go_simp; try (with_reducible rfl))))
                  try simp only [Act.put, xA1, xA2, xA3, xA4, xA5, xA6]
                  (refine tkH (i := 3) (v := ?_) rfl ?_ ?_; rotate_left 1; (focus (intro w hSw; (try dsimp only at hSw); go_simp; try (with_reducible rfl))))
                  try simp only [Act.put, xA1, xA2, xA3, xA4, xA5, xA6]
                  (refine tkH (i := 4) (v := ?_) rfl ?_ ?_; rotate_left 1; (focus (intro w hSw; (try dsimp only at hSw); go_simp; try (with_reducible rfl))))
                  try simp only [Act.put, xA1, xA2, xA3, xA4, xA5, xA6]
                  (refine tkH (i := 5) (v := ?_) rfl ?_ ?_; rotate_left 1; (focus (intro w hSw; (try dsimp only at hSw); go_simp; try (with_reducible rfl))))
                  try simp only [Act.put, xA1, xA2, xA3, xA4, xA5, xA6]
                  (refine tkH (i := 6) (v := ?_) rfl ?_ ?_; rotate_left 1; (focus (intro w hSw; (try dsimp only at hSw); go_simp; try (with_reducible rfl))))
                  try simp only [Act.put, xA1, xA2, xA3, xA4, xA5, xA6]
                  (refine tkH (i := 7) (v := ?_) rfl ?_ ?_; rotate_left 1; (focus (intro w hSw; (try dsimp only at hSw); go_simp; try (with_reducible rfl))))
                  try simp only [Act.put, xA1, xA2, xA3, xA4, xA5, xA6]
                  (refine tkH (i := 8) (v := ?_) rfl ?_ ?_; rotate_left 1; (focus (intro w hSw; (try dsimp only at hSw); go_simp; try (with_reducible rfl))))
                  try simp only [Act.put, xA1, xA2, xA3, xA4, xA5, xA6]
                  (refine tkH (i := 9) (v := ?_) rfl ?_ ?_; rotate_left 1; (focus (intro w hSw; (try dsimp only at hSw); go_simp; try (with_reducible rfl))))
                  try simp only [Act.put, xA1, xA2, xA3, xA4, xA5, xA6]
                  (refine tkH (i := 10) (v := ?_) rfl ?_ ?_; rotate_left 1; (focus (intro w hSw; (try dsimp only at hSw); go_simp; try (with_reducible rfl))))
                  try simp only [Act.put, xA1, xA2, xA3, xA4, xA5, xA6]
                  refine wpAnyH_ready (rs := [11]) (by kernel_rfl) (by simp) ?_
                  refine AllReadyH.cons rfl (fun K hK => ?_) AllReadyH.nil
                  go_simp
                  go_at_call 125; refine (HKCT.out V0 hHeld.2.2.2.2.2.2).mono ?_; rintro e V1 ⟨rfl, hz⟩
                  refine hK.out _ _ ?_ (fun hHeld => ?_)
                  · exact ⟨Ext.cell hz hHeld.1, Ext.cell hz hHeld.2.1, Ext.cell hz hHeld.2.2.1, Ext.cell hz hHeld.2.2.2.1, Ext.cell hz hHeld.2.2.2.2.1, Ext.cell hz hHeld.2.2.2.2.2.1, hHeld.2.2.2.2.2.2.trans hz⟩
                  clear hK K
                  clear hz
                  try simp only [Act.put, xA1, xA2, xA3, xA4, xA5, xA6]
                  (refine tkH (i := 12) (v := ?_) rfl ?_ ?_; rotate_left 1; (focus (intro w hSw; (try dsimp only at hSw); go_simp; try (with_reducible rfl))))
                  try simp only [Act.put, xA1, xA2, xA3, xA4, xA5, xA6]
                  (refine tkH (i := 13) (v := ?_) rfl ?_ ?_; rotate_left 1; (focus (intro w hSw; (try dsimp only at hSw); go_simp; try (with_reducible rfl))))
                  try simp only [Act.put, xA1, xA2, xA3, xA4, xA5, xA6]
                  (refine tkH (i := 14) (v := ?_) rfl ?_ ?_; rotate_left 1; (focus (intro w hSw; (try dsimp only at hSw); go_simp; try (with_reducible rfl))))
                  try simp only [Act.put, xA1, xA2, xA3, xA4, xA5, xA6]
                  (refine tkH (i := 15) (v := ?_) rfl ?_ ?_; rotate_left 1; (focus (intro w hSw; (try dsimp only at hSw); go_simp; try (with_reducible rfl))))
                  try simp only [Act.put, xA1, xA2, xA3, xA4, xA5, xA6]
                  (refine tkH (i := 16) (v := ?_) rfl ?_ ?_; rotate_left 1; (focus (intro w hSw; (try dsimp only at hSw); go_simp; try (with_reducible rfl))))
                  try simp only [Act.put, xA1, xA2, xA3, xA4, xA5, xA6]
                  (refine tkH (i := 17) (v := ?_) rfl ?_ ?_; rotate_left 1; (focus (intro w hSw; (try dsimp only at hSw); go_simp; try (with_reducible rfl))))
                  try simp only [Act.put, xA1, xA2, xA3, xA4, xA5, xA6]
                  (refine tkH (i := 18) (v := ?_) rfl ?_ ?_; rotate_left 1; (focus (intro w hSw; (try dsimp only at hSw); go_simp; try (with_reducible rfl))))
                  try simp only [Act.put, xA1, xA2, xA3, xA4, xA5, xA6]
                  (refine tkH (i := 19) (v := ?_) rfl ?_ ?_; rotate_left 1; (focus (intro w hSw; (try dsimp only at hSw); go_simp; try (with_reducible rfl))))
                  try simp only [Act.put, xA1, xA2, xA3, xA4, xA5, xA6]
                  (refine tkH (i := 20) (v := ?_) rfl ?_ ?_; rotate_left 1; (focus (intro w hSw; (try dsimp only at hSw); go_simp; try (with_reducible rfl))))
                  try simp only [Act.put, xA1, xA2, xA3, xA4, xA5, xA6]
                  (refine tkH (i := 21) (v := ?_) rfl ?_ ?_; rotate_left 1; (focus (intro w hSw; (try dsimp only at hSw); go_simp; try (with_reducible rfl))))
                  try simp only [Act.put, xA1, xA2, xA3, xA4, xA5, xA6]
                  (refine tkH (i := 22) (v := ?_) rfl ?_ ?_; rotate_left 1; (focus (intro w hSw; (try dsimp only at hSw); go_simp; try (with_reducible rfl))))
                  try simp only [Act.put, xA1, xA2, xA3, xA4, xA5, xA6]
                  (refine tkH (i := 23) (v := ?_) rfl ?_ ?_; rotate_left 1; (focus (intro w hSw; (try dsimp only at hSw); go_simp; try (with_reducible rfl))))
                  try simp only [Act.put, xA1, xA2, xA3, xA4, xA5, xA6]
                  (refine tkH (i := 24) (v := ?_) rfl ?_ ?_; rotate_left 1; (focus (intro w hSw; (try dsimp only at hSw); go_simp; try (with_reducible rfl))))
                  try simp only [Act.put, xA1, xA2, xA3, xA4, xA5, xA6]
                  (refine tkH (i := 25) (v := ?_) rfl ?_ ?_; rotate_left 1; (focus (intro w hSw; (try dsimp only at hSw); go_simp; try (with_reducible rfl))))
                  try simp only [Act.put, xA1, xA2, xA3, xA4, xA5, xA6]
                  (refine tkH (i := 26) (v := ?_) rfl ?_ ?_; rotate_left 1; (focus (intro w hSw; (try dsimp only at hSw); go_simp; try (with_reducible rfl))))
                  try simp only [Act.put, xA1, xA2, xA3, xA4, xA5, xA6]
                  (refine tkH (i := 27) (v := ?_) rfl ?_ ?_; rotate_left 1; (focus (intro w hSw; (try dsimp only at hSw); go_simp; try (with_reducible rfl))))
                  try simp only [Act.put, xA1, xA2, xA3, xA4, xA5, xA6]
                  (refine tkH (i := 28) (v := ?_) rfl ?_ ?_; rotate_left 1; (focus (intro w hSw; (try dsimp only at hSw); go_simp; try (with_reducible rfl))))
                  try simp only [Act.put, xA1, xA2, xA3, xA4, xA5, xA6]
                  (refine tkH (i := 29) (v := ?_) rfl ?_ ?_; rotate_left 1; (focus (intro w hSw; (try dsimp only at hSw); go_simp; try (with_reducible rfl))))
                  try simp only [Act.put, xA1, xA2, xA3, xA4, xA5, xA6]
                  (refine tkH (i := 30) (v := ?_) rfl ?_ ?_; rotate_left 1; (focus (intro w hSw; (try dsimp only at hSw); go_simp; try (with_reducible rfl))))
                  try simp only [Act.put, xA1, xA2, xA3, xA4, xA5, xA6]
                  (refine tkH (i := 31) (v := ?_) rfl ?_ ?_; rotate_left 1; (focus (intro w hSw; (try dsimp only at hSw); go_simp; try (with_reducible rfl))))
                  try simp only [Act.put, xA1, xA2, xA3, xA4, xA5, xA6]
                  (refine tkH (i := 32) (v := ?_) rfl ?_ ?_; rotate_left 1; (focus (intro w hSw; (try dsimp only at hSw); go_simp; try (with_reducible rfl))))
                  try simp only [Act.put, xA1, xA2, xA3, xA4, xA5, xA6]
                  (refine tkH (i := 33) (v := ?_) rfl ?_ ?_; rotate_left 1; (focus (intro w hSw; (try dsimp only at hSw); go_simp; try (with_reducible rfl))))
                  try simp only [Act.put, xA1, xA2, xA3, xA4, xA5, xA6]
                  (refine tkH (i := 34) (v := ?_) rfl ?_ ?_; rotate_left 1; (focus (intro w hSw; (try dsimp only at hSw); go_simp; try (with_reducible rfl))))
                  try simp only [Act.put, xA1, xA2, xA3, xA4, xA5, xA6]
                  refine wpAnyH_done (by kernel_rfl) ?_ _
                  have hzz := hHeld.2.2.2.2.2.2
                  obtain ⟨w6, hw6⟩ : ∃ W, V1 = W := ⟨_, rfl⟩
                  rw [hw6] at hzz ⊢
                  have hx6 := hx4.trans hzz
                  have q6 := q4.ext hzz
                  have hM6 := hM4.ext hzz
                  have HNR6 := Lib.hid (rowI_ext HNR4.out hzz)
                  have e0 := hzz.cell e0
                  have e1 := hzz.cell e1
                  have cg0 := hzz.cell cg0
                  have hb6 := hb4.ext hzz
                  obtain ⟨tu, htu, htid⟩ := HTE.out
                  have hub := (hok.ti tu htu).1
                  rw [htid] at hub
                  obtain ⟨k1, hk1⟩ : ∃ k1 : ShK, k1.1 = (s, 0) := ⟨⟨(s, 0), by omega, by omega⟩, rfl⟩
                  obtain ⟨k2, hk2⟩ : ∃ k2 : ShK, k2.1 = (0, u) := ⟨⟨(0, u), by omega, by omega⟩, rfl⟩
                  have he1 : Value.agg #[.int .i64 s, .int .i64 0] = encSh k1 := by unfold encSh; rw [hk1]
                  have he2 : Value.agg #[.int .i64 0, .int .i64 u] = encSh k2 := by unfold encSh; rw [hk2]
                  have HE1 := Lib.hid he1
                  have HE2 := Lib.hid he2
                  have HK1 := Lib.hid hk1
                  have HK2 := Lib.hid hk2
                  have HTE2 : Hid (0 < (k + 1) → ∃ t ∈ P.ts, t.id = u) := Lib.hid (fun _ => HTE.out)
                  clear hw6 hHeld hzz hM4 q4 HNR4 hb4 he1 he2 hk1 hk2 d0 d1 s1 htid htu hx4
                  by_cases hus : u = so
                  · have h2 := H6.out
                    rw [if_pos hus] at h2
                    have H2 := Lib.hid h2
                    have hub2 : (u == so) = true := by simp [hus]
                    clear h2 hus
                    go_wp2_with fail
                    go_ret
                    exact ⟨ret_bool H2.out.symm, hx6⟩
                  · have h7 := H6.out
                    rw [if_neg hus] at h7
                    have hub2 : (u == so) = false := by simp [hus]
                    clear hus
                    by_cases hm1 : (s, (0 : Int)) ∈ o.map (·.1)
                    · have h2 := h7
                      rw [if_pos hm1] at h2
                      have H2 := Lib.hid h2
                      have HI1 : Hid (inO o k1.1 = true) := Lib.hid (by rw [HK1.out]; exact decide_eq_true hm1)
                      clear h2 h7 hm1
                      go_wp2_with (first | (refine lookupSh (by rfl) _ _ rfl rfl hM6 k1 HE1.out ?_; rw [HI1.out]))
                      go_ret
                      exact ⟨ret_bool H2.out.symm, hx6⟩
                    · rw [if_neg hm1] at h7
                      have HI1 : Hid (inO o k1.1 = false) := Lib.hid (by rw [HK1.out]; exact decide_eq_false hm1)
                      by_cases hm2 : ((0 : Int), u) ∈ o.map (·.1)
                      · have h2 := h7
                        rw [if_pos hm2] at h2
                        have H2 := Lib.hid h2
                        have HI2 : Hid (inO o k2.1 = true) := Lib.hid (by rw [HK2.out]; exact decide_eq_true hm2)
                        clear h2 h7 hm1 hm2
                        go_wp2_with (first | (refine lookupSh (by rfl) _ _ rfl rfl hM6 k1 HE1.out ?_; rw [HI1.out]) | (refine lookupSh (by rfl) _ _ rfl rfl hM6 k2 HE2.out ?_; rw [HI2.out]))
                        go_ret
                        exact ⟨ret_bool H2.out.symm, hx6⟩
                      · rw [if_neg hm2] at h7
                        have H7 := Lib.hid h7
                        have HI2 : Hid (inO o k2.1 = false) := Lib.hid (by rw [HK2.out]; exact decide_eq_false hm2)
                        have HO1 : Hid (k1 ∉ o) := Lib.hid (fun h => hm1 (by rw [← HK1.out]; exact List.mem_map_of_mem h))
                        have HO2 : Hid (k2 ∉ o ++ [k1]) := Lib.hid (fun h => by
                          rcases List.mem_append.1 h with h | h
                          · exact hm2 (by rw [← HK2.out]; exact List.mem_map_of_mem h)
                          · have := congrArg Subtype.val (List.mem_singleton.1 h)
                            rw [HK1.out, HK2.out] at this
                            have := (Prod.mk.inj this).1
                            omega)
                        clear h7 hm1 hm2
                        go_upto_region 16 with (first | (refine lookupSh (by rfl) _ _ rfl rfl hM6 k1 HE1.out ?_; rw [HI1.out]) | (refine lookupSh (by rfl) _ _ rfl rfl hM6 k2 HE2.out ?_; rw [HI2.out]))
                        refine wp_region_held_drew (S := fun W' => W'.cell? ⟨MB, 0, none⟩ = some (.int .i64 s) ∧ W'.cell? ⟨MB, 1, none⟩ = some (.int .i64 u) ∧ Ext w W') (by kernel_rfl) ?_ (fun hHeld => ?_)
                        · exact ⟨e0, e1, Ext.drew hx6⟩
                        obtain ⟨V0, hV0⟩ : ∃ V, World.drew w6 = V := ⟨_, rfl⟩
                        rw [hV0] at hHeld ⊢
                        have hV0x : Ext w6 V0 := by rw [← hV0]; exact Ext.drew (Ext.refl _)
                        clear hV0
                        (refine tkH (i := 0) (v := ?_) rfl ?_ ?_; rotate_left 1; (focus (intro w hSw; (try dsimp only at hSw); go_simp; try (with_reducible rfl))))
                        try simp only [Act.put, xA1, xA2, xA4, xA5, xA6]
                        (refine tkH (i := 1) (v := ?_) rfl ?_ ?_; rotate_left 1; (focus (intro w hSw; (try dsimp only at hSw); go_simp; try (with_reducible rfl))))
                        try simp only [Act.put, xA1, xA2, xA3, xA4, xA5, xA6]
                        (refine tkH (i := 2) (v := ?_) rfl ?_ ?_; rotate_left 1; (focus (intro w hSw; (try dsimp only at hSw); go_simp; try (with_reducible rfl))))
                        try simp only [Act.put, xA1, xA2, xA3, xA4, xA5, xA6]
                        (refine tkH (i := 3) (v := ?_) rfl ?_ ?_; rotate_left 1; (focus (intro w hSw; (try dsimp only at hSw); go_simp; try (with_reducible rfl))))
                        try simp only [Act.put, xA1, xA2, xA3, xA4, xA5, xA6]
                        (refine tkH (i := 4) (v := ?_) rfl ?_ ?_; rotate_left 1; (focus (intro w hSw; (try dsimp only at hSw); go_simp; try (with_reducible rfl))))
                        try simp only [Act.put, xA1, xA2, xA3, xA4, xA5, xA6]
                        (refine tkH (i := 5) (v := ?_) rfl ?_ ?_; rotate_left 1; (focus (intro w hSw; (try dsimp only at hSw); go_simp; try (with_reducible rfl))))
                        try simp only [Act.put, xA1, xA2, xA3, xA4, xA5, xA6]
                        (refine tkH (i := 6) (v := ?_) rfl ?_ ?_; rotate_left 1; (focus (intro w hSw; (try dsimp only at hSw); go_simp; try (with_reducible rfl))))
                        try simp only [Act.put, xA1, xA2, xA3, xA4, xA5, xA6]
                        (refine tkH (i := 7) (v := ?_) rfl ?_ ?_; rotate_left 1; (focus (intro w hSw; (try dsimp only at hSw); go_simp; try (with_reducible rfl))))
                        try simp only [Act.put, xA1, xA2, xA3, xA4, xA5, xA6]
                        refine wpAnyH_ready (rs := [8]) (by kernel_rfl) (by simp) ?_
                        refine AllReadyH.cons rfl (fun K hK => ?_) AllReadyH.nil
                        rw [if_pos (by rfl)]
                        obtain ⟨V1, hrun, hM8, hg8⟩ := run_updateMap shKL mapSh (hM6.ext hV0x) k1 (.bool true)
                        refine oper_update _ _ _ _ rfl _ _ _ V1 rfl HE1.out rfl hrun ?_
                        refine hK.out _ _ ?_ (fun hHeld => ?_)
                        · exact ⟨grown_cell hg8 (by simp; omega) hHeld.1, grown_cell hg8 (by simp; omega) hHeld.2.1, hHeld.2.2.grown hg8 (by omega)⟩
                        clear hK K
                        clear hrun
                        have hM8' := hM8
                        rw [seen_upd o k1 HO1.out] at hM8'
                        try simp only [Act.put, xA1, xA2, xA3]
                        refine wpAnyH_ready (rs := [9]) (by kernel_rfl) (by simp) ?_
                        refine AllReadyH.cons rfl (fun K hK => ?_) AllReadyH.nil
                        rw [if_pos (by rfl)]
                        obtain ⟨V2, hrun, hM9, hg9⟩ := run_updateMap shKL mapSh hM8' k2 (.bool true)
                        refine oper_update _ _ _ _ rfl _ _ _ V2 rfl HE2.out rfl hrun ?_
                        refine hK.out _ _ ?_ (fun hHeld => ?_)
                        · exact ⟨grown_cell hg9 (by simp; omega) hHeld.1, grown_cell hg9 (by simp; omega) hHeld.2.1, hHeld.2.2.grown hg9 (by omega)⟩
                        clear hK K
                        clear hrun
                        have hM9' := hM9
                        rw [seen_upd _ k2 HO2.out] at hM9'
                        try simp only [Act.put, xA1, xA2, xA3]
                        refine wpAnyH_done (by kernel_rfl) ?_ _
                        have q9 := ((q6.ext hV0x).kept hg8 (fun e => by have := Option.some.inj e; omega)).kept hg9 (fun e => by have := Option.some.inj e; omega)
                        have hnr0 := rowI_ext HNR6.out hV0x
                        have hnr8 := rowI_kept hnr0 hg8 (rowI_map hnr0 (hM6.ext hV0x))
                        have hnr9 := rowI_kept hnr8 hg9 (rowI_map hnr8 hM8')
                        have HNR9 := Lib.hid hnr9
                        have e9 := hHeld.2.1
                        have hx9 := hHeld.2.2
                        clear hnr0 hnr8 hnr9 hM8 hM8' hM9 hg8 hg9 hHeld
                        go_wp2_with fail
                        go_roundw
                        case rel => exact ⟨(k + 1), so, u, o ++ [k1] ++ [k2], by omega, by go_num, rfl, rfl, Lib.hid (by rw [List.map_append, List.map_append]; simp only [List.map_cons, List.map_nil, List.append_assoc, List.cons_append, List.nil_append]; rw [HK1.out, HK2.out]; exact H7.out.symm), hM9', q9, HNR9, hx9, HSO2, HTE2⟩
                        case measure => simp [intOf]; omega
                · have h2 := H5.out
                  rw [if_pos ⟨hk0, hga⟩] at h2
                  have H2 := Lib.hid h2
                  have hgab : (gv != a_) = true := by simp [hga]
                  clear h2 hga
                  go_upto_region 10 with fail
                  refine wp_region_held_drew (S := fun W' => W'.cell? ⟨w.heap.size, 0, none⟩ = some (.slice aa P.ts.length ca) ∧ W'.cell? ⟨w.heap.size, 1, none⟩ = some (.slice (some ⟨b2, o2, none⟩) P.ss.length cb) ∧ W'.cell? ⟨MB, 0, none⟩ = some (.int .i64 s) ∧ W'.cell? ⟨MB, 1, none⟩ = some (.int .i64 u) ∧ W'.cell? ⟨b2, o2 + i * 2 + 1, none⟩ = some (.slice ua US.length uc) ∧ W'.cell? ⟨bg, og + i, none⟩ = some (.int .i64 gv) ∧ Ext w4 W') (by kernel_rfl) ?_ (fun hHeld => ?_)
                  · exact ⟨d0, d1, e0, e1, s1, cg0, Ext.drew (Ext.refl _)⟩
                  obtain ⟨V0, hV0⟩ : ∃ V, World.drew w4 = V := ⟨_, rfl⟩
                  rw [hV0] at hHeld ⊢
                  clear hV0
                  (refine tkH (i := 0) (v := ?_) rfl ?_ ?_; rotate_left 1; (focus (intro w hSw; (try dsimp only at hSw); go_simp; try (with_reducible rfl))))
                  try simp only [Act.put, xA1, xA2, xA4, xA5, xA6]
                  (refine tkH (i := 1) (v := ?_) rfl ?_ ?_; rotate_left 1; (focus (intro w hSw; (try dsimp only at hSw); go_simp; try (with_reducible rfl))))
                  try simp only [Act.put, xA1, xA2, xA3, xA4, xA5, xA6]
                  (refine tkH (i := 2) (v := ?_) rfl ?_ ?_; rotate_left 1; (focus (intro w hSw; (try dsimp only at hSw); go_simp; try (with_reducible rfl))))
                  try simp only [Act.put, xA1, xA2, xA3, xA4, xA5, xA6]
                  (refine tkH (i := 3) (v := ?_) rfl ?_ ?_; rotate_left 1; (focus (intro w hSw; (try dsimp only at hSw); go_simp; try (with_reducible rfl))))
                  try simp only [Act.put, xA1, xA2, xA3, xA4, xA5, xA6]
                  (refine tkH (i := 4) (v := ?_) rfl ?_ ?_; rotate_left 1; (focus (intro w hSw; (try dsimp only at hSw); go_simp; try (with_reducible rfl))))
                  try simp only [Act.put, xA1, xA2, xA3, xA4, xA5, xA6]
                  (refine tkH (i := 5) (v := ?_) rfl ?_ ?_; rotate_left 1; (focus (intro w hSw; (try dsimp only at hSw); go_simp; try (with_reducible rfl))))
                  try simp only [Act.put, xA1, xA2, xA3, xA4, xA5, xA6]
                  (refine tkH (i := 6) (v := ?_) rfl ?_ ?_; rotate_left 1; (focus (intro w hSw; (try dsimp only at hSw); go_simp; try (with_reducible rfl))))
                  try simp only [Act.put, xA1, xA2, xA3, xA4, xA5, xA6]
                  (refine tkH (i := 7) (v := ?_) rfl ?_ ?_; rotate_left 1; (focus (intro w hSw; (try dsimp only at hSw); go_simp; try (with_reducible rfl))))
                  try simp only [Act.put, xA1, xA2, xA3, xA4, xA5, xA6]
                  (refine tkH (i := 8) (v := ?_) rfl ?_ ?_; rotate_left 1; (focus (intro w hSw; (try dsimp only at hSw); go_simp; try (with_reducible rfl))))
                  try simp only [Act.put, xA1, xA2, xA3, xA4, xA5, xA6]
                  (refine tkH (i := 9) (v := ?_) rfl ?_ ?_; rotate_left 1; (focus (intro w hSw; (try dsimp only at hSw); go_simp; try (with_reducible rfl))))
                  try simp only [Act.put, xA1, xA2, xA3, xA4, xA5, xA6]
                  (refine tkH (i := 10) (v := ?_) rfl ?_ ?_; rotate_left 1; (focus (intro w hSw; (try dsimp only at hSw); go_simp; try (with_reducible rfl))))
                  try simp only [Act.put, xA1, xA2, xA3, xA4, xA5, xA6]
                  refine wpAnyH_ready (rs := [11]) (by kernel_rfl) (by simp) ?_
                  refine AllReadyH.cons rfl (fun K hK => ?_) AllReadyH.nil
                  go_simp
                  go_at_call 125; refine (HKCT.out V0 hHeld.2.2.2.2.2.2).mono ?_; rintro e V1 ⟨rfl, hz⟩
                  refine hK.out _ _ ?_ (fun hHeld => ?_)
                  · exact ⟨Ext.cell hz hHeld.1, Ext.cell hz hHeld.2.1, Ext.cell hz hHeld.2.2.1, Ext.cell hz hHeld.2.2.2.1, Ext.cell hz hHeld.2.2.2.2.1, Ext.cell hz hHeld.2.2.2.2.2.1, hHeld.2.2.2.2.2.2.trans hz⟩
                  clear hK K
                  clear hz
                  try simp only [Act.put, xA1, xA2, xA3, xA4, xA5, xA6]
                  (refine tkH (i := 12) (v := ?_) rfl ?_ ?_; rotate_left 1; (focus (intro w hSw; (try dsimp only at hSw); go_simp; try (with_reducible rfl))))
                  try simp only [Act.put, xA1, xA2, xA3, xA4, xA5, xA6]
                  (refine tkH (i := 13) (v := ?_) rfl ?_ ?_; rotate_left 1; (focus (intro w hSw; (try dsimp only at hSw); go_simp; try (with_reducible rfl))))
                  try simp only [Act.put, xA1, xA2, xA3, xA4, xA5, xA6]
                  (refine tkH (i := 14) (v := ?_) rfl ?_ ?_; rotate_left 1; (focus (intro w hSw; (try dsimp only at hSw); go_simp; try (with_reducible rfl))))
                  try simp only [Act.put, xA1, xA2, xA3, xA4, xA5, xA6]
                  (refine tkH (i := 15) (v := ?_) rfl ?_ ?_; rotate_left 1; (focus (intro w hSw; (try dsimp only at hSw); go_simp; try (with_reducible rfl))))
                  try simp only [Act.put, xA1, xA2, xA3, xA4, xA5, xA6]
                  (refine tkH (i := 16) (v := ?_) rfl ?_ ?_; rotate_left 1; (focus (intro w hSw; (try dsimp only at hSw); go_simp; try (with_reducible rfl))))
                  try simp only [Act.put, xA1, xA2, xA3, xA4, xA5, xA6]
                  (refine tkH (i := 17) (v := ?_) rfl ?_ ?_; rotate_left 1; (focus (intro w hSw; (try dsimp only at hSw); go_simp; try (with_reducible rfl))))
                  try simp only [Act.put, xA1, xA2, xA3, xA4, xA5, xA6]
                  (refine tkH (i := 18) (v := ?_) rfl ?_ ?_; rotate_left 1; (focus (intro w hSw; (try dsimp only at hSw); go_simp; try (with_reducible rfl))))
                  try simp only [Act.put, xA1, xA2, xA3, xA4, xA5, xA6]
                  (refine tkH (i := 19) (v := ?_) rfl ?_ ?_; rotate_left 1; (focus (intro w hSw; (try dsimp only at hSw); go_simp; try (with_reducible rfl))))
                  try simp only [Act.put, xA1, xA2, xA3, xA4, xA5, xA6]
                  (refine tkH (i := 20) (v := ?_) rfl ?_ ?_; rotate_left 1; (focus (intro w hSw; (try dsimp only at hSw); go_simp; try (with_reducible rfl))))
                  try simp only [Act.put, xA1, xA2, xA3, xA4, xA5, xA6]
                  (refine tkH (i := 21) (v := ?_) rfl ?_ ?_; rotate_left 1; (focus (intro w hSw; (try dsimp only at hSw); go_simp; try (with_reducible rfl))))
                  try simp only [Act.put, xA1, xA2, xA3, xA4, xA5, xA6]
                  (refine tkH (i := 22) (v := ?_) rfl ?_ ?_; rotate_left 1; (focus (intro w hSw; (try dsimp only at hSw); go_simp; try (with_reducible rfl))))
                  try simp only [Act.put, xA1, xA2, xA3, xA4, xA5, xA6]
                  (refine tkH (i := 23) (v := ?_) rfl ?_ ?_; rotate_left 1; (focus (intro w hSw; (try dsimp only at hSw); go_simp; try (with_reducible rfl))))
                  try simp only [Act.put, xA1, xA2, xA3, xA4, xA5, xA6]
                  (refine tkH (i := 24) (v := ?_) rfl ?_ ?_; rotate_left 1; (focus (intro w hSw; (try dsimp only at hSw); go_simp; try (with_reducible rfl))))
                  try simp only [Act.put, xA1, xA2, xA3, xA4, xA5, xA6]
                  (refine tkH (i := 25) (v := ?_) rfl ?_ ?_; rotate_left 1; (focus (intro w hSw; (try dsimp only at hSw); go_simp; try (with_reducible rfl))))
                  try simp only [Act.put, xA1, xA2, xA3, xA4, xA5, xA6]
                  (refine tkH (i := 26) (v := ?_) rfl ?_ ?_; rotate_left 1; (focus (intro w hSw; (try dsimp only at hSw); go_simp; try (with_reducible rfl))))
                  try simp only [Act.put, xA1, xA2, xA3, xA4, xA5, xA6]
                  (refine tkH (i := 27) (v := ?_) rfl ?_ ?_; rotate_left 1; (focus (intro w hSw; (try dsimp only at hSw); go_simp; try (with_reducible rfl))))
                  try simp only [Act.put, xA1, xA2, xA3, xA4, xA5, xA6]
                  (refine tkH (i := 28) (v := ?_) rfl ?_ ?_; rotate_left 1; (focus (intro w hSw; (try dsimp only at hSw); go_simp; try (with_reducible rfl))))
                  try simp only [Act.put, xA1, xA2, xA3, xA4, xA5, xA6]
                  (refine tkH (i := 29) (v := ?_) rfl ?_ ?_; rotate_left 1; (focus (intro w hSw; (try dsimp only at hSw); go_simp; try (with_reducible rfl))))
                  try simp only [Act.put, xA1, xA2, xA3, xA4, xA5, xA6]
                  (refine tkH (i := 30) (v := ?_) rfl ?_ ?_; rotate_left 1; (focus (intro w hSw; (try dsimp only at hSw); go_simp; try (with_reducible rfl))))
                  try simp only [Act.put, xA1, xA2, xA3, xA4, xA5, xA6]
                  (refine tkH (i := 31) (v := ?_) rfl ?_ ?_; rotate_left 1; (focus (intro w hSw; (try dsimp only at hSw); go_simp; try (with_reducible rfl))))
                  try simp only [Act.put, xA1, xA2, xA3, xA4, xA5, xA6]
                  (refine tkH (i := 32) (v := ?_) rfl ?_ ?_; rotate_left 1; (focus (intro w hSw; (try dsimp only at hSw); go_simp; try (with_reducible rfl))))
                  try simp only [Act.put, xA1, xA2, xA3, xA4, xA5, xA6]
                  (refine tkH (i := 33) (v := ?_) rfl ?_ ?_; rotate_left 1; (focus (intro w hSw; (try dsimp only at hSw); go_simp; try (with_reducible rfl))))
                  try simp only [Act.put, xA1, xA2, xA3, xA4, xA5, xA6]
                  (refine tkH (i := 34) (v := ?_) rfl ?_ ?_; rotate_left 1; (focus (intro w hSw; (try dsimp only at hSw); go_simp; try (with_reducible rfl))))
                  try simp only [Act.put, xA1, xA2, xA3, xA4, xA5, xA6]
                  refine wpAnyH_done (by kernel_rfl) ?_ _
                  have hzz := hHeld.2.2.2.2.2.2
                  go_wp2_with fail
                  go_ret
                  exact ⟨ret_bool H2.out.symm, hx4.trans hzz⟩
              · obtain rfl : k = 0 := by omega
                have h6 := H5.out
                have e0' : (if (0 : Nat) = 0 then gv else so) = gv := if_pos rfl
                rw [if_neg (by rintro ⟨h, _⟩; omega), e0'] at h6
                have H6 := Lib.hid h6
                have hk0i : ¬ (((0 : Nat) : Int) > 0) := by omega
                have hkb : (((0 : Nat) : Int) == 0) = true := by decide
                have HSO2 : Hid (gv = 0 ∨ ∃ t ∈ P.ts, t.id = gv) := Lib.hid (by
                  rcases HGU.out with h | h
                  · exact .inl h
                  · exact .inr (HUSX.out _ h))
                clear h6 e0'
                go_upto_region 10 with fail
                refine wp_region_held_drew (S := fun W' => W'.cell? ⟨w.heap.size, 0, none⟩ = some (.slice aa P.ts.length ca) ∧ W'.cell? ⟨w.heap.size, 1, none⟩ = some (.slice (some ⟨b2, o2, none⟩) P.ss.length cb) ∧ W'.cell? ⟨MB, 0, none⟩ = some (.int .i64 s) ∧ W'.cell? ⟨MB, 1, none⟩ = some (.int .i64 u) ∧ W'.cell? ⟨b2, o2 + i * 2 + 1, none⟩ = some (.slice ua US.length uc) ∧ W'.cell? ⟨bg, og + i, none⟩ = some (.int .i64 gv) ∧ Ext w4 W') (by kernel_rfl) ?_ (fun hHeld => ?_)
                · exact ⟨d0, d1, e0, e1, s1, cg0, Ext.drew (Ext.refl _)⟩
                obtain ⟨V0, hV0⟩ : ∃ V, World.drew w4 = V := ⟨_, rfl⟩
                rw [hV0] at hHeld ⊢
                clear hV0
                (refine tkH (i := 0) (v := ?_) rfl ?_ ?_; rotate_left 1; (focus (intro w hSw; (try dsimp only at hSw); go_simp; try (with_reducible rfl))))
                try simp only [Act.put, xA1, xA2, xA4, xA5, xA6]
                (refine tkH (i := 1) (v := ?_) rfl ?_ ?_; rotate_left 1; (focus (intro w hSw; (try dsimp only at hSw); go_simp; try (with_reducible rfl))))
                try simp only [Act.put, xA1, xA2, xA3, xA4, xA5, xA6]
                (refine tkH (i := 2) (v := ?_) rfl ?_ ?_; rotate_left 1; (focus (intro w hSw; (try dsimp only at hSw); go_simp; try (with_reducible rfl))))
                try simp only [Act.put, xA1, xA2, xA3, xA4, xA5, xA6]
                (refine tkH (i := 3) (v := ?_) rfl ?_ ?_; rotate_left 1; (focus (intro w hSw; (try dsimp only at hSw); go_simp; try (with_reducible rfl))))
                try simp only [Act.put, xA1, xA2, xA3, xA4, xA5, xA6]
                (refine tkH (i := 4) (v := ?_) rfl ?_ ?_; rotate_left 1; (focus (intro w hSw; (try dsimp only at hSw); go_simp; try (with_reducible rfl))))
                try simp only [Act.put, xA1, xA2, xA3, xA4, xA5, xA6]
                (refine tkH (i := 5) (v := ?_) rfl ?_ ?_; rotate_left 1; (focus (intro w hSw; (try dsimp only at hSw); go_simp; try (with_reducible rfl))))
                try simp only [Act.put, xA1, xA2, xA3, xA4, xA5, xA6]
                (refine tkH (i := 6) (v := ?_) rfl ?_ ?_; rotate_left 1; (focus (intro w hSw; (try dsimp only at hSw); go_simp; try (with_reducible rfl))))
                try simp only [Act.put, xA1, xA2, xA3, xA4, xA5, xA6]
                (refine tkH (i := 7) (v := ?_) rfl ?_ ?_; rotate_left 1; (focus (intro w hSw; (try dsimp only at hSw); go_simp; try (with_reducible rfl))))
                try simp only [Act.put, xA1, xA2, xA3, xA4, xA5, xA6]
                (refine tkH (i := 8) (v := ?_) rfl ?_ ?_; rotate_left 1; (focus (intro w hSw; (try dsimp only at hSw); go_simp; try (with_reducible rfl))))
                try simp only [Act.put, xA1, xA2, xA3, xA4, xA5, xA6]
                (refine tkH (i := 9) (v := ?_) rfl ?_ ?_; rotate_left 1; (focus (intro w hSw; (try dsimp only at hSw); go_simp; try (with_reducible rfl))))
                try simp only [Act.put, xA1, xA2, xA3, xA4, xA5, xA6]
                (refine tkH (i := 10) (v := ?_) rfl ?_ ?_; rotate_left 1; (focus (intro w hSw; (try dsimp only at hSw); go_simp; try (with_reducible rfl))))
                try simp only [Act.put, xA1, xA2, xA3, xA4, xA5, xA6]
                refine wpAnyH_ready (rs := [11]) (by kernel_rfl) (by simp) ?_
                refine AllReadyH.cons rfl (fun K hK => ?_) AllReadyH.nil
                go_simp
                go_at_call 125; refine (HKCT.out V0 hHeld.2.2.2.2.2.2).mono ?_; rintro e V1 ⟨rfl, hz⟩
                refine hK.out _ _ ?_ (fun hHeld => ?_)
                · exact ⟨Ext.cell hz hHeld.1, Ext.cell hz hHeld.2.1, Ext.cell hz hHeld.2.2.1, Ext.cell hz hHeld.2.2.2.1, Ext.cell hz hHeld.2.2.2.2.1, Ext.cell hz hHeld.2.2.2.2.2.1, hHeld.2.2.2.2.2.2.trans hz⟩
                clear hK K
                clear hz
                try simp only [Act.put, xA1, xA2, xA3, xA4, xA5, xA6]
                (refine tkH (i := 12) (v := ?_) rfl ?_ ?_; rotate_left 1; (focus (intro w hSw; (try dsimp only at hSw); go_simp; try (with_reducible rfl))))
                try simp only [Act.put, xA1, xA2, xA3, xA4, xA5, xA6]
                (refine tkH (i := 13) (v := ?_) rfl ?_ ?_; rotate_left 1; (focus (intro w hSw; (try dsimp only at hSw); go_simp; try (with_reducible rfl))))
                try simp only [Act.put, xA1, xA2, xA3, xA4, xA5, xA6]
                (refine tkH (i := 14) (v := ?_) rfl ?_ ?_; rotate_left 1; (focus (intro w hSw; (try dsimp only at hSw); go_simp; try (with_reducible rfl))))
                try simp only [Act.put, xA1, xA2, xA3, xA4, xA5, xA6]
                (refine tkH (i := 15) (v := ?_) rfl ?_ ?_; rotate_left 1; (focus (intro w hSw; (try dsimp only at hSw); go_simp; try (with_reducible rfl))))
                try simp only [Act.put, xA1, xA2, xA3, xA4, xA5, xA6]
                (refine tkH (i := 16) (v := ?_) rfl ?_ ?_; rotate_left 1; (focus (intro w hSw; (try dsimp only at hSw); go_simp; try (with_reducible rfl))))
                try simp only [Act.put, xA1, xA2, xA3, xA4, xA5, xA6]
                (refine tkH (i := 17) (v := ?_) rfl ?_ ?_; rotate_left 1; (focus (intro w hSw; (try dsimp only at hSw); go_simp; try (with_reducible rfl))))
                try simp only [Act.put, xA1, xA2, xA3, xA4, xA5, xA6]
                (refine tkH (i := 18) (v := ?_) rfl ?_ ?_; rotate_left 1; (focus (intro w hSw; (try dsimp only at hSw); go_simp; try (with_reducible rfl))))
                try simp only [Act.put, xA1, xA2, xA3, xA4, xA5, xA6]
                (refine tkH (i := 19) (v := ?_) rfl ?_ ?_; rotate_left 1; (focus (intro w hSw; (try dsimp only at hSw); go_simp; try (with_reducible rfl))))
                try simp only [Act.put, xA1, xA2, xA3, xA4, xA5, xA6]
                (refine tkH (i := 20) (v := ?_) rfl ?_ ?_; rotate_left 1; (focus (intro w hSw; (try dsimp only at hSw); go_simp; try (with_reducible rfl))))
                try simp only [Act.put, xA1, xA2, xA3, xA4, xA5, xA6]
                (refine tkH (i := 21) (v := ?_) rfl ?_ ?_; rotate_left 1; (focus (intro w hSw; (try dsimp only at hSw); go_simp; try (with_reducible rfl))))
                try simp only [Act.put, xA1, xA2, xA3, xA4, xA5, xA6]
                (refine tkH (i := 22) (v := ?_) rfl ?_ ?_; rotate_left 1; (focus (intro w hSw; (try dsimp only at hSw); go_simp; try (with_reducible rfl))))
                try simp only [Act.put, xA1, xA2, xA3, xA4, xA5, xA6]
                (refine tkH (i := 23) (v := ?_) rfl ?_ ?_; rotate_left 1; (focus (intro w hSw; (try dsimp only at hSw); go_simp; try (with_reducible rfl))))
                try simp only [Act.put, xA1, xA2, xA3, xA4, xA5, xA6]
                (refine tkH (i := 24) (v := ?_) rfl ?_ ?_; rotate_left 1; (focus (intro w hSw; (try dsimp only at hSw); go_simp; try (with_reducible rfl))))
                try simp only [Act.put, xA1, xA2, xA3, xA4, xA5, xA6]
                (refine tkH (i := 25) (v := ?_) rfl ?_ ?_; rotate_left 1; (focus (intro w hSw; (try dsimp only at hSw); go_simp; try (with_reducible rfl))))
                try simp only [Act.put, xA1, xA2, xA3, xA4, xA5, xA6]
                (refine tkH (i := 26) (v := ?_) rfl ?_ ?_; rotate_left 1; (focus (intro w hSw; (try dsimp only at hSw); go_simp; try (with_reducible rfl))))
                try simp only [Act.put, xA1, xA2, xA3, xA4, xA5, xA6]
                (refine skH (i := 27) rfl ?_)
                try simp only [Act.put, xA1, xA2, xA3, xA4, xA5, xA6]
                (refine skH (i := 28) rfl ?_)
                try simp only [Act.put, xA1, xA2, xA3, xA4, xA5, xA6]
                (refine skH (i := 29) rfl ?_)
                try simp only [Act.put, xA1, xA2, xA3, xA4, xA5, xA6]
                (refine skH (i := 30) rfl ?_)
                try simp only [Act.put, xA1, xA2, xA3, xA4, xA5, xA6]
                (refine skH (i := 31) rfl ?_)
                try simp only [Act.put, xA1, xA2, xA3, xA4, xA5, xA6]
                (refine skH (i := 32) rfl ?_)
                try simp only [Act.put, xA1, xA2, xA3, xA4, xA5, xA6]
                (refine tkH (i := 33) (v := ?_) rfl ?_ ?_; rotate_left 1; (focus (intro w hSw; (try dsimp only at hSw); go_simp; try (with_reducible rfl))))
                try simp only [Act.put, xA1, xA2, xA3, xA4, xA5, xA6]
                (refine tkH (i := 34) (v := ?_) rfl ?_ ?_; rotate_left 1; (focus (intro w hSw; (try dsimp only at hSw); go_simp; try (with_reducible rfl))))
                try simp only [Act.put, xA1, xA2, xA3, xA4, xA5, xA6]
                refine wpAnyH_done (by kernel_rfl) ?_ _
                have hzz := hHeld.2.2.2.2.2.2
                obtain ⟨w6, hw6⟩ : ∃ W, V1 = W := ⟨_, rfl⟩
                rw [hw6] at hzz ⊢
                have hx6 := hx4.trans hzz
                have q6 := q4.ext hzz
                have hM6 := hM4.ext hzz
                have HNR6 := Lib.hid (rowI_ext HNR4.out hzz)
                have e0 := hzz.cell e0
                have e1 := hzz.cell e1
                have cg0 := hzz.cell cg0
                have hb6 := hb4.ext hzz
                obtain ⟨tu, htu, htid⟩ := HTE.out
                have hub := (hok.ti tu htu).1
                rw [htid] at hub
                obtain ⟨k1, hk1⟩ : ∃ k1 : ShK, k1.1 = (s, 0) := ⟨⟨(s, 0), by omega, by omega⟩, rfl⟩
                obtain ⟨k2, hk2⟩ : ∃ k2 : ShK, k2.1 = (0, u) := ⟨⟨(0, u), by omega, by omega⟩, rfl⟩
                have he1 : Value.agg #[.int .i64 s, .int .i64 0] = encSh k1 := by unfold encSh; rw [hk1]
                have he2 : Value.agg #[.int .i64 0, .int .i64 u] = encSh k2 := by unfold encSh; rw [hk2]
                have HE1 := Lib.hid he1
                have HE2 := Lib.hid he2
                have HK1 := Lib.hid hk1
                have HK2 := Lib.hid hk2
                have HTE2 : Hid (0 < (0 + 1) → ∃ t ∈ P.ts, t.id = u) := Lib.hid (fun _ => HTE.out)
                clear hw6 hHeld hzz hM4 q4 HNR4 hb4 he1 he2 hk1 hk2 d0 d1 s1 htid htu hx4
                by_cases hus : u = gv
                · have h2 := H6.out
                  rw [if_pos hus] at h2
                  have H2 := Lib.hid h2
                  have hub2 : (u == gv) = true := by simp [hus]
                  clear h2 hus
                  go_wp2_with fail
                  go_ret
                  exact ⟨ret_bool H2.out.symm, hx6⟩
                · have h7 := H6.out
                  rw [if_neg hus] at h7
                  have hub2 : (u == gv) = false := by simp [hus]
                  clear hus
                  by_cases hm1 : (s, (0 : Int)) ∈ o.map (·.1)
                  · have h2 := h7
                    rw [if_pos hm1] at h2
                    have H2 := Lib.hid h2
                    have HI1 : Hid (inO o k1.1 = true) := Lib.hid (by rw [HK1.out]; exact decide_eq_true hm1)
                    clear h2 h7 hm1
                    go_wp2_with (first | (refine lookupSh (by rfl) _ _ rfl rfl hM6 k1 HE1.out ?_; rw [HI1.out]))
                    go_ret
                    exact ⟨ret_bool H2.out.symm, hx6⟩
                  · rw [if_neg hm1] at h7
                    have HI1 : Hid (inO o k1.1 = false) := Lib.hid (by rw [HK1.out]; exact decide_eq_false hm1)
                    by_cases hm2 : ((0 : Int), u) ∈ o.map (·.1)
                    · have h2 := h7
                      rw [if_pos hm2] at h2
                      have H2 := Lib.hid h2
                      have HI2 : Hid (inO o k2.1 = true) := Lib.hid (by rw [HK2.out]; exact decide_eq_true hm2)
                      clear h2 h7 hm1 hm2
                      go_wp2_with (first | (refine lookupSh (by rfl) _ _ rfl rfl hM6 k1 HE1.out ?_; rw [HI1.out]) | (refine lookupSh (by rfl) _ _ rfl rfl hM6 k2 HE2.out ?_; rw [HI2.out]))
                      go_ret
                      exact ⟨ret_bool H2.out.symm, hx6⟩
                    · rw [if_neg hm2] at h7
                      have H7 := Lib.hid h7
                      have HI2 : Hid (inO o k2.1 = false) := Lib.hid (by rw [HK2.out]; exact decide_eq_false hm2)
                      have HO1 : Hid (k1 ∉ o) := Lib.hid (fun h => hm1 (by rw [← HK1.out]; exact List.mem_map_of_mem h))
                      have HO2 : Hid (k2 ∉ o ++ [k1]) := Lib.hid (fun h => by
                        rcases List.mem_append.1 h with h | h
                        · exact hm2 (by rw [← HK2.out]; exact List.mem_map_of_mem h)
                        · have := congrArg Subtype.val (List.mem_singleton.1 h)
                          rw [HK1.out, HK2.out] at this
                          have := (Prod.mk.inj this).1
                          omega)
                      clear h7 hm1 hm2
                      go_upto_region 16 with (first | (refine lookupSh (by rfl) _ _ rfl rfl hM6 k1 HE1.out ?_; rw [HI1.out]) | (refine lookupSh (by rfl) _ _ rfl rfl hM6 k2 HE2.out ?_; rw [HI2.out]))
                      refine wp_region_held_drew (S := fun W' => W'.cell? ⟨MB, 0, none⟩ = some (.int .i64 s) ∧ W'.cell? ⟨MB, 1, none⟩ = some (.int .i64 u) ∧ Ext w W') (by kernel_rfl) ?_ (fun hHeld => ?_)
                      · exact ⟨e0, e1, Ext.drew hx6⟩
                      obtain ⟨V0, hV0⟩ : ∃ V, World.drew w6 = V := ⟨_, rfl⟩
                      rw [hV0] at hHeld ⊢
                      have hV0x : Ext w6 V0 := by rw [← hV0]; exact Ext.drew (Ext.refl _)
                      clear hV0
                      (refine tkH (i := 0) (v := ?_) rfl ?_ ?_; rotate_left 1; (focus (intro w hSw; (try dsimp only at hSw); go_simp; try (with_reducible rfl))))
                      try simp only [Act.put, xA1, xA2, xA4, xA5, xA6]
                      (refine tkH (i := 1) (v := ?_) rfl ?_ ?_; rotate_left 1; (focus (intro w hSw; (try dsimp only at hSw); go_simp; try (with_reducible rfl))))
                      try simp only [Act.put, xA1, xA2, xA3, xA4, xA5, xA6]
                      (refine tkH (i := 2) (v := ?_) rfl ?_ ?_; rotate_left 1; (focus (intro w hSw; (try dsimp only at hSw); go_simp; try (with_reducible rfl))))
                      try simp only [Act.put, xA1, xA2, xA3, xA4, xA5, xA6]
                      (refine tkH (i := 3) (v := ?_) rfl ?_ ?_; rotate_left 1; (focus (intro w hSw; (try dsimp only at hSw); go_simp; try (with_reducible rfl))))
                      try simp only [Act.put, xA1, xA2, xA3, xA4, xA5, xA6]
                      (refine tkH (i := 4) (v := ?_) rfl ?_ ?_; rotate_left 1; (focus (intro w hSw; (try dsimp only at hSw); go_simp; try (with_reducible rfl))))
                      try simp only [Act.put, xA1, xA2, xA3, xA4, xA5, xA6]
                      (refine tkH (i := 5) (v := ?_) rfl ?_ ?_; rotate_left 1; (focus (intro w hSw; (try dsimp only at hSw); go_simp; try (with_reducible rfl))))
                      try simp only [Act.put, xA1, xA2, xA3, xA4, xA5, xA6]
                      (refine tkH (i := 6) (v := ?_) rfl ?_ ?_; rotate_left 1; (focus (intro w hSw; (try dsimp only at hSw); go_simp; try (with_reducible rfl))))
                      try simp only [Act.put, xA1, xA2, xA3, xA4, xA5, xA6]
                      (refine tkH (i := 7) (v := ?_) rfl ?_ ?_; rotate_left 1; (focus (intro w hSw; (try dsimp only at hSw); go_simp; try (with_reducible rfl))))
                      try simp only [Act.put, xA1, xA2, xA3, xA4, xA5, xA6]
                      refine wpAnyH_ready (rs := [8]) (by kernel_rfl) (by simp) ?_
                      refine AllReadyH.cons rfl (fun K hK => ?_) AllReadyH.nil
                      rw [if_pos (by rfl)]
                      obtain ⟨V1, hrun, hM8, hg8⟩ := run_updateMap shKL mapSh (hM6.ext hV0x) k1 (.bool true)
                      refine oper_update _ _ _ _ rfl _ _ _ V1 rfl HE1.out rfl hrun ?_
                      refine hK.out _ _ ?_ (fun hHeld => ?_)
                      · exact ⟨grown_cell hg8 (by simp; omega) hHeld.1, grown_cell hg8 (by simp; omega) hHeld.2.1, hHeld.2.2.grown hg8 (by omega)⟩
                      clear hK K
                      clear hrun
                      have hM8' := hM8
                      rw [seen_upd o k1 HO1.out] at hM8'
                      try simp only [Act.put, xA1, xA2, xA3]
                      refine wpAnyH_ready (rs := [9]) (by kernel_rfl) (by simp) ?_
                      refine AllReadyH.cons rfl (fun K hK => ?_) AllReadyH.nil
                      rw [if_pos (by rfl)]
                      obtain ⟨V2, hrun, hM9, hg9⟩ := run_updateMap shKL mapSh hM8' k2 (.bool true)
                      refine oper_update _ _ _ _ rfl _ _ _ V2 rfl HE2.out rfl hrun ?_
                      refine hK.out _ _ ?_ (fun hHeld => ?_)
                      · exact ⟨grown_cell hg9 (by simp; omega) hHeld.1, grown_cell hg9 (by simp; omega) hHeld.2.1, hHeld.2.2.grown hg9 (by omega)⟩
                      clear hK K
                      clear hrun
                      have hM9' := hM9
                      rw [seen_upd _ k2 HO2.out] at hM9'
                      try simp only [Act.put, xA1, xA2, xA3]
                      refine wpAnyH_done (by kernel_rfl) ?_ _
                      have q9 := ((q6.ext hV0x).kept hg8 (fun e => by have := Option.some.inj e; omega)).kept hg9 (fun e => by have := Option.some.inj e; omega)
                      have hnr0 := rowI_ext HNR6.out hV0x
                      have hnr8 := rowI_kept hnr0 hg8 (rowI_map hnr0 (hM6.ext hV0x))
                      have hnr9 := rowI_kept hnr8 hg9 (rowI_map hnr8 hM8')
                      have HNR9 := Lib.hid hnr9
                      have e9 := hHeld.2.1
                      have hx9 := hHeld.2.2
                      clear hnr0 hnr8 hnr9 hM8 hM8' hM9 hg8 hg9 hHeld
                      go_wp2_with fail
                      go_roundw
                      case rel => exact ⟨(0 + 1), gv, u, o ++ [k1] ++ [k2], by omega, by go_num, rfl, rfl, Lib.hid (by rw [List.map_append, List.map_append]; simp only [List.map_cons, List.map_nil, List.append_assoc, List.cons_append, List.nil_append]; rw [HK1.out, HK2.out]; exact H7.out.symm), hM9', q9, HNR9, hx9, HSO2, HTE2⟩
                      case measure => simp [intOf]; omega
      · obtain rfl : k = l.length := by omega
        have hend := lnk_end (P := P) (g := g) (so := so) (a := a_) (se := o.map (·.1)) (l := l)
        rw [HST.out] at hend
        obtain ⟨kk, hkk, hti, hmo, hid⟩ := most_at hok (HAT.out hlp)
        have hkc : kk < C.length := by rw [HN.out]; exact hkk
        obtain ⟨nb, no, hne, cn⟩ := HNR.out.at_.get kk hkc
        rw [HNG.out kk hkc hkk, hid] at cn
        subst hne
        have hendE : endG P g so a_ = (decide (cntI g a_ < mostOf P a_) && (decide (so = 0) || decide (cntI g a_ + 2 ≤ cntI g so))) := rfl
        rw [hendE, hmo] at hend
        have hcb := HCN.out a_
        have hcs := HCN.out so
        have KT := HKTN.out a_
        simp only [hti] at KT
        obtain ⟨n, hn⟩ : ∃ n, cntI g a_ = n := ⟨_, rfl⟩
        obtain ⟨m, hm⟩ : ∃ n, cntI g so = n := ⟨_, rfl⟩
        have KR := fun W (h : Ext w W) => HKRM.out kk hkk n W h
        obtain ⟨y, hy⟩ : ∃ n, P.ts[kk].most = n := ⟨_, rfl⟩
        rw [hn] at hend cn hcb
        rw [hm] at hend hcs
        rw [hy] at hend
        simp only [hy] at KR
        have HEND := Lib.hid hend
        have HKT := Lib.hid KT
        have HM := Lib.hid hm
        have hwr : IntKind.i64.wrap (n + 2) = n + 2 := IntWalk.i64_in _ (by omega)
        have hkki : (kk : Int) < C.length := by omega
        clear hend hendE hmo hti hid KT hn hm hy HST
        go_wp2_with fail
        refine (HKT.out _ hx).mono ?_
        rintro e w5 ⟨rfl, hz⟩
        have hx5 := hx.trans hz
        have HN5 := Lib.hid (rowI_ext HNR.out hz)
        replace d0 := hz.cell d0
        replace d1 := hz.cell d1
        replace cn := hz.cell cn
        clear hz hM q HNR hx HKT
        by_cases hny : n < y
        · simp only [decide_eq_true hny] at KR
          have HKR := Lib.hid KR
          have he := HEND.out
          rw [decide_eq_true hny, Bool.true_and] at he
          clear KR hny
          by_cases hs0 : so = 0
          · rw [decide_eq_true hs0, Bool.true_or] at he
            have HE := Lib.hid he
            have hsb : (so == 0) = true := by simp [hs0]
            clear he hs0
            go_upto_region 20 with fail
            refine wp_region_held_drew (S := fun W' => W'.cell? ⟨w.heap.size, 0, none⟩ = some (.slice aa P.ts.length ca) ∧ W'.cell? ⟨w.heap.size, 1, none⟩ = some (.slice ab P.ss.length cb) ∧ W'.cell? ⟨nb, no + kk, none⟩ = some (.int .i64 n) ∧ Ext w5 W') (by kernel_rfl) ?_ (fun hHeld => ?_)
            · exact ⟨d0, d1, cn, Ext.drew (Ext.refl _)⟩
            obtain ⟨V0, hV0⟩ : ∃ V, World.drew w5 = V := ⟨_, rfl⟩
            rw [hV0] at hHeld ⊢
            clear hV0
            (refine tkH (i := 0) (v := ?_) rfl ?_ ?_; rotate_left 1; (focus (intro w hSw; (try dsimp only at hSw); go_simp; try (with_reducible rfl))))
            try simp only [Act.put, xA1, xA2, xA4, xA5, xA6]
            (refine tkH (i := 1) (v := ?_) rfl ?_ ?_; rotate_left 1; (focus (intro w hSw; (try dsimp only at hSw); go_simp; try (with_reducible rfl))))
            try simp only [Act.put, xA1, xA2, xA3, xA4, xA5, xA6]
            (refine tkH (i := 2) (v := ?_) rfl ?_ ?_; rotate_left 1; (focus (intro w hSw; (try dsimp only at hSw); go_simp; try (with_reducible rfl))))
            try simp only [Act.put, xA1, xA2, xA3, xA4, xA5, xA6]
            (refine tkH (i := 3) (v := ?_) rfl ?_ ?_; rotate_left 1; (focus (intro w hSw; (try dsimp only at hSw); go_simp; try (with_reducible rfl))))
            try simp only [Act.put, xA1, xA2, xA3, xA4, xA5, xA6]
            (refine tkH (i := 4) (v := ?_) rfl ?_ ?_; rotate_left 1; (focus (intro w hSw; (try dsimp only at hSw); go_simp; try (with_reducible rfl))))
            try simp only [Act.put, xA1, xA2, xA3, xA4, xA5, xA6]
            (refine tkH (i := 5) (v := ?_) rfl ?_ ?_; rotate_left 1; (focus (intro w hSw; (try dsimp only at hSw); go_simp; try (with_reducible rfl))))
            try simp only [Act.put, xA1, xA2, xA3, xA4, xA5, xA6]
            refine wpAnyH_ready (rs := [6]) (by kernel_rfl) (by simp) ?_
            refine AllReadyH.cons rfl (fun K hK => ?_) AllReadyH.nil
            go_simp
            go_at_call 77; refine (HKR.out V0 (hx5.trans hHeld.2.2.2)).mono ?_; rintro e V1 ⟨rfl, hz⟩
            refine hK.out _ _ ?_ (fun hHeld => ?_)
            · exact ⟨Ext.cell hz hHeld.1, Ext.cell hz hHeld.2.1, Ext.cell hz hHeld.2.2.1, hHeld.2.2.2.trans hz⟩
            clear hK K
            clear hz
            try simp only [Act.put, xA1, xA2, xA3, xA4, xA5, xA6]
            (refine tkH (i := 7) (v := ?_) rfl ?_ ?_; rotate_left 1; (focus (intro w hSw; (try dsimp only at hSw); go_simp; try (with_reducible rfl))))
            try simp only [Act.put, xA1, xA2, xA3, xA4, xA5, xA6]
            (refine tkH (i := 8) (v := ?_) rfl ?_ ?_; rotate_left 1; (focus (intro w hSw; (try dsimp only at hSw); go_simp; try (with_reducible rfl))))
            try simp only [Act.put, xA1, xA2, xA3, xA4, xA5, xA6]
            (refine tkH (i := 9) (v := ?_) rfl ?_ ?_; rotate_left 1; (focus (intro w hSw; (try dsimp only at hSw); go_simp; try (with_reducible rfl))))
            try simp only [Act.put, xA1, xA2, xA3, xA4, xA5, xA6]
            (refine tkH (i := 10) (v := ?_) rfl ?_ ?_; rotate_left 1; (focus (intro w hSw; (try dsimp only at hSw); go_simp; try (with_reducible rfl))))
            try simp only [Act.put, xA1, xA2, xA3, xA4, xA5, xA6]
            (refine skH (i := 11) rfl ?_)
            try simp only [Act.put, xA1, xA2, xA3, xA4, xA5, xA6]
            (refine skH (i := 12) rfl ?_)
            try simp only [Act.put, xA1, xA2, xA3, xA4, xA5, xA6]
            (refine skH (i := 13) rfl ?_)
            try simp only [Act.put, xA1, xA2, xA3, xA4, xA5, xA6]
            (refine skH (i := 14) rfl ?_)
            try simp only [Act.put, xA1, xA2, xA3, xA4, xA5, xA6]
            (refine skH (i := 15) rfl ?_)
            try simp only [Act.put, xA1, xA2, xA3, xA4, xA5, xA6]
            (refine skH (i := 16) rfl ?_)
            try simp only [Act.put, xA1, xA2, xA3, xA4, xA5, xA6]
            (refine skH (i := 17) rfl ?_)
            try simp only [Act.put, xA1, xA2, xA3, xA4, xA5, xA6]
            (refine skH (i := 18) rfl ?_)
            try simp only [Act.put, xA1, xA2, xA3, xA4, xA5, xA6]
            (refine skH (i := 19) rfl ?_)
            try simp only [Act.put, xA1, xA2, xA3, xA4, xA5, xA6]
            (refine skH (i := 20) rfl ?_)
            try simp only [Act.put, xA1, xA2, xA3, xA4, xA5, xA6]
            (refine skH (i := 21) rfl ?_)
            try simp only [Act.put, xA1, xA2, xA3, xA4, xA5, xA6]
            (refine skH (i := 22) rfl ?_)
            try simp only [Act.put, xA1, xA2, xA3, xA4, xA5, xA6]
            (refine tkH (i := 23) (v := ?_) rfl ?_ ?_; rotate_left 1; (focus (intro w hSw; (try dsimp only at hSw); go_simp; try (with_reducible rfl))))
            try simp only [Act.put, xA1, xA2, xA3, xA4, xA5, xA6]
            (refine tkH (i := 24) (v := ?_) rfl ?_ ?_; rotate_left 1; (focus (intro w hSw; (try dsimp only at hSw); go_simp; try (with_reducible rfl))))
            try simp only [Act.put, xA1, xA2, xA3, xA4, xA5, xA6]
            (refine tkH (i := 25) (v := ?_) rfl ?_ ?_; rotate_left 1; (focus (intro w hSw; (try dsimp only at hSw); go_simp; try (with_reducible rfl))))
            try simp only [Act.put, xA1, xA2, xA3, xA4, xA5, xA6]
            refine wpAnyH_done (by kernel_rfl) ?_ _
            have hzz := hHeld.2.2.2
            go_wp2_with fail
            go_ret
            exact ⟨ret_bool HE.out.symm, hx5.trans hzz⟩
          · rw [decide_eq_false hs0, Bool.false_or] at he
            have HE := Lib.hid he
            have hsb : (so == 0) = false := by simp [hs0]
            obtain ⟨ks, hks, hti, _, hid⟩ := most_at hok (by
              rcases HSO.out with h | h
              · exact absurd h hs0
              · exact h)
            have hkc2 : ks < C.length := by rw [HN.out]; exact hks
            obtain ⟨nb2, no2, hne2, cs⟩ := HN5.out.at_.get ks hkc2
            rw [HNG.out ks hkc2 hks, hid, HM.out] at cs
            simp only [Option.some.injEq, Addr.mk.injEq, and_true] at hne2
            obtain ⟨rfl, rfl⟩ := hne2
            have KT := HKTN.out so
            simp only [hti] at KT
            have HKT := Lib.hid KT
            have hksi : (ks : Int) < C.length := by omega
            clear he hs0 hti hid KT
            go_upto_region 20 with fail
            refine wp_region_held_drew (S := fun W' => W'.cell? ⟨w.heap.size, 0, none⟩ = some (.slice aa P.ts.length ca) ∧ W'.cell? ⟨w.heap.size, 1, none⟩ = some (.slice ab P.ss.length cb) ∧ W'.cell? ⟨nb, no + kk, none⟩ = some (.int .i64 n) ∧ W'.cell? ⟨nb, no + ks, none⟩ = some (.int .i64 m) ∧ Ext w5 W') (by kernel_rfl) ?_ (fun hHeld => ?_)
            · exact ⟨d0, d1, cn, cs, Ext.drew (Ext.refl _)⟩
            obtain ⟨V0, hV0⟩ : ∃ V, World.drew w5 = V := ⟨_, rfl⟩
            rw [hV0] at hHeld ⊢
            clear hV0
            (refine tkH (i := 0) (v := ?_) rfl ?_ ?_; rotate_left 1; (focus (intro w hSw; (try dsimp only at hSw); go_simp; try (with_reducible rfl))))
            try simp only [Act.put, xA1, xA2, xA4, xA5, xA6]
            (refine tkH (i := 1) (v := ?_) rfl ?_ ?_; rotate_left 1; (focus (intro w hSw; (try dsimp only at hSw); go_simp; try (with_reducible rfl))))
            try simp only [Act.put, xA1, xA2, xA3, xA4, xA5, xA6]
            (refine tkH (i := 2) (v := ?_) rfl ?_ ?_; rotate_left 1; (focus (intro w hSw; (try dsimp only at hSw); go_simp; try (with_reducible rfl))))
            try simp only [Act.put, xA1, xA2, xA3, xA4, xA5, xA6]
            (refine tkH (i := 3) (v := ?_) rfl ?_ ?_; rotate_left 1; (focus (intro w hSw; (try dsimp only at hSw); go_simp; try (with_reducible rfl))))
            try simp only [Act.put, xA1, xA2, xA3, xA4, xA5, xA6]
            (refine tkH (i := 4) (v := ?_) rfl ?_ ?_; rotate_left 1; (focus (intro w hSw; (try dsimp only at hSw); go_simp; try (with_reducible rfl))))
            try simp only [Act.put, xA1, xA2, xA3, xA4, xA5, xA6]
            (refine tkH (i := 5) (v := ?_) rfl ?_ ?_; rotate_left 1; (focus (intro w hSw; (try dsimp only at hSw); go_simp; try (with_reducible rfl))))
            try simp only [Act.put, xA1, xA2, xA3, xA4, xA5, xA6]
            refine wpAnyH_ready (rs := [6]) (by kernel_rfl) (by simp) ?_
            refine AllReadyH.cons rfl (fun K hK => ?_) AllReadyH.nil
            go_simp
            go_at_call 77; refine (HKR.out V0 (hx5.trans hHeld.2.2.2.2)).mono ?_; rintro e V1 ⟨rfl, hz⟩
            refine hK.out _ _ ?_ (fun hHeld => ?_)
            · exact ⟨Ext.cell hz hHeld.1, Ext.cell hz hHeld.2.1, Ext.cell hz hHeld.2.2.1, Ext.cell hz hHeld.2.2.2.1, hHeld.2.2.2.2.trans hz⟩
            clear hK K
            clear hz
            try simp only [Act.put, xA1, xA2, xA3, xA4, xA5, xA6]
            (refine tkH (i := 7) (v := ?_) rfl ?_ ?_; rotate_left 1; (focus (intro w hSw; (try dsimp only at hSw); go_simp; try (with_reducible rfl))))
            try simp only [Act.put, xA1, xA2, xA3, xA4, xA5, xA6]
            (refine tkH (i := 8) (v := ?_) rfl ?_ ?_; rotate_left 1; (focus (intro w hSw; (try dsimp only at hSw); go_simp; try (with_reducible rfl))))
            try simp only [Act.put, xA1, xA2, xA3, xA4, xA5, xA6]
            (refine tkH (i := 9) (v := ?_) rfl ?_ ?_; rotate_left 1; (focus (intro w hSw; (try dsimp only at hSw); go_simp; try (with_reducible rfl))))
            try simp only [Act.put, xA1, xA2, xA3, xA4, xA5, xA6]
            (refine tkH (i := 10) (v := ?_) rfl ?_ ?_; rotate_left 1; (focus (intro w hSw; (try dsimp only at hSw); go_simp; try (with_reducible rfl))))
            try simp only [Act.put, xA1, xA2, xA3, xA4, xA5, xA6]
            (refine tkH (i := 11) (v := ?_) rfl ?_ ?_; rotate_left 1; (focus (intro w hSw; (try dsimp only at hSw); go_simp; try (with_reducible rfl))))
            try simp only [Act.put, xA1, xA2, xA3, xA4, xA5, xA6]
            (refine tkH (i := 12) (v := ?_) rfl ?_ ?_; rotate_left 1; (focus (intro w hSw; (try dsimp only at hSw); go_simp; try (with_reducible rfl))))
            try simp only [Act.put, xA1, xA2, xA3, xA4, xA5, xA6]
            (refine tkH (i := 13) (v := ?_) rfl ?_ ?_; rotate_left 1; (focus (intro w hSw; (try dsimp only at hSw); go_simp; try (with_reducible rfl))))
            try simp only [Act.put, xA1, xA2, xA3, xA4, xA5, xA6]
            (refine tkH (i := 17) (v := ?_) rfl ?_ ?_; rotate_left 1; (focus (intro w hSw; (try dsimp only at hSw); go_simp; try (with_reducible rfl))))
            try simp only [Act.put, xA1, xA2, xA3, xA4, xA5, xA6]
            (refine tkH (i := 18) (v := ?_) rfl ?_ ?_; rotate_left 1; (focus (intro w hSw; (try dsimp only at hSw); go_simp; try (with_reducible rfl))))
            try simp only [Act.put, xA1, xA2, xA3, xA4, xA5, xA6]
            (refine tkH (i := 19) (v := ?_) rfl ?_ ?_; rotate_left 1; (focus (intro w hSw; (try dsimp only at hSw); go_simp; try (with_reducible rfl))))
            try simp only [Act.put, xA1, xA2, xA3, xA4, xA5, xA6]
            (refine tkH (i := 20) (v := ?_) rfl ?_ ?_; rotate_left 1; (focus (intro w hSw; (try dsimp only at hSw); go_simp; try (with_reducible rfl))))
            try simp only [Act.put, xA1, xA2, xA3, xA4, xA5, xA6]
            (refine tkH (i := 21) (v := ?_) rfl ?_ ?_; rotate_left 1; (focus (intro w hSw; (try dsimp only at hSw); go_simp; try (with_reducible rfl))))
            try simp only [Act.put, xA1, xA2, xA3, xA4, xA5, xA6]
            refine wpAnyH_ready (rs := [14]) (by kernel_rfl) (by simp) ?_
            refine AllReadyH.cons rfl (fun K hK => ?_) AllReadyH.nil
            go_simp
            go_at_call 72; refine (HKT.out V1 (hx5.trans hHeld.2.2.2.2)).mono ?_; rintro e V2 ⟨rfl, hz⟩
            refine hK.out _ _ ?_ (fun hHeld => ?_)
            · exact ⟨Ext.cell hz hHeld.1, Ext.cell hz hHeld.2.1, Ext.cell hz hHeld.2.2.1, Ext.cell hz hHeld.2.2.2.1, hHeld.2.2.2.2.trans hz⟩
            clear hK K
            clear hz
            try simp only [Act.put, xA1, xA2, xA3, xA4, xA5, xA6]
            (refine tkH (i := 15) (v := ?_) rfl ?_ ?_; rotate_left 1; (focus (intro w hSw; (try dsimp only at hSw); go_simp; try (with_reducible rfl))))
            try simp only [Act.put, xA1, xA2, xA3, xA4, xA5, xA6]
            (refine tkH (i := 16) (v := ?_) rfl ?_ ?_; rotate_left 1; (focus (intro w hSw; (try dsimp only at hSw); go_simp; try (with_reducible rfl))))
            try simp only [Act.put, xA1, xA2, xA3, xA4, xA5, xA6]
            (refine tkH (i := 22) (v := ?_) rfl ?_ ?_; rotate_left 1; (focus (intro w hSw; (try dsimp only at hSw); go_simp; try (with_reducible rfl))))
            try simp only [Act.put, xA1, xA2, xA3, xA4, xA5, xA6]
            (refine tkH (i := 23) (v := ?_) rfl ?_ ?_; rotate_left 1; (focus (intro w hSw; (try dsimp only at hSw); go_simp; try (with_reducible rfl))))
            try simp only [Act.put, xA1, xA2, xA3, xA4, xA5, xA6]
            (refine tkH (i := 24) (v := ?_) rfl ?_ ?_; rotate_left 1; (focus (intro w hSw; (try dsimp only at hSw); go_simp; try (with_reducible rfl))))
            try simp only [Act.put, xA1, xA2, xA3, xA4, xA5, xA6]
            (refine tkH (i := 25) (v := ?_) rfl ?_ ?_; rotate_left 1; (focus (intro w hSw; (try dsimp only at hSw); go_simp; try (with_reducible rfl))))
            try simp only [Act.put, xA1, xA2, xA3, xA4, xA5, xA6]
            refine wpAnyH_done (by kernel_rfl) ?_ _
            have hzz := hHeld.2.2.2.2
            go_wp2_with fail
            go_ret
            exact ⟨ret_bool (by rw [← HE.out]), hx5.trans hzz⟩
        · simp only [decide_eq_false hny] at KR
          have HKR := Lib.hid KR
          have he := HEND.out
          rw [decide_eq_false hny, Bool.false_and] at he
          have HE := Lib.hid he
          clear KR hny he
          go_upto_region 20 with fail
          refine wp_region_held_drew (S := fun W' => W'.cell? ⟨w.heap.size, 0, none⟩ = some (.slice aa P.ts.length ca) ∧ W'.cell? ⟨w.heap.size, 1, none⟩ = some (.slice ab P.ss.length cb) ∧ W'.cell? ⟨nb, no + kk, none⟩ = some (.int .i64 n) ∧ Ext w5 W') (by kernel_rfl) ?_ (fun hHeld => ?_)
          · exact ⟨d0, d1, cn, Ext.drew (Ext.refl _)⟩
          obtain ⟨V0, hV0⟩ : ∃ V, World.drew w5 = V := ⟨_, rfl⟩
          rw [hV0] at hHeld ⊢
          clear hV0
          (refine tkH (i := 0) (v := ?_) rfl ?_ ?_; rotate_left 1; (focus (intro w hSw; (try dsimp only at hSw); go_simp; try (with_reducible rfl))))
          try simp only [Act.put, xA1, xA2, xA4, xA5, xA6]
          (refine tkH (i := 1) (v := ?_) rfl ?_ ?_; rotate_left 1; (focus (intro w hSw; (try dsimp only at hSw); go_simp; try (with_reducible rfl))))
          try simp only [Act.put, xA1, xA2, xA3, xA4, xA5, xA6]
          (refine tkH (i := 2) (v := ?_) rfl ?_ ?_; rotate_left 1; (focus (intro w hSw; (try dsimp only at hSw); go_simp; try (with_reducible rfl))))
          try simp only [Act.put, xA1, xA2, xA3, xA4, xA5, xA6]
          (refine tkH (i := 3) (v := ?_) rfl ?_ ?_; rotate_left 1; (focus (intro w hSw; (try dsimp only at hSw); go_simp; try (with_reducible rfl))))
          try simp only [Act.put, xA1, xA2, xA3, xA4, xA5, xA6]
          (refine tkH (i := 4) (v := ?_) rfl ?_ ?_; rotate_left 1; (focus (intro w hSw; (try dsimp only at hSw); go_simp; try (with_reducible rfl))))
          try simp only [Act.put, xA1, xA2, xA3, xA4, xA5, xA6]
          (refine tkH (i := 5) (v := ?_) rfl ?_ ?_; rotate_left 1; (focus (intro w hSw; (try dsimp only at hSw); go_simp; try (with_reducible rfl))))
          try simp only [Act.put, xA1, xA2, xA3, xA4, xA5, xA6]
          refine wpAnyH_ready (rs := [6]) (by kernel_rfl) (by simp) ?_
          refine AllReadyH.cons rfl (fun K hK => ?_) AllReadyH.nil
          go_simp
          go_at_call 77; refine (HKR.out V0 (hx5.trans hHeld.2.2.2)).mono ?_; rintro e V1 ⟨rfl, hz⟩
          refine hK.out _ _ ?_ (fun hHeld => ?_)
          · exact ⟨Ext.cell hz hHeld.1, Ext.cell hz hHeld.2.1, Ext.cell hz hHeld.2.2.1, hHeld.2.2.2.trans hz⟩
          clear hK K
          clear hz
          try simp only [Act.put, xA1, xA2, xA3, xA4, xA5, xA6]
          (refine tkH (i := 7) (v := ?_) rfl ?_ ?_; rotate_left 1; (focus (intro w hSw; (try dsimp only at hSw); go_simp; try (with_reducible rfl))))
          try simp only [Act.put, xA1, xA2, xA3, xA4, xA5, xA6]
          (refine skH (i := 8) rfl ?_)
          try simp only [Act.put, xA1, xA2, xA3, xA4, xA5, xA6]
          (refine skH (i := 9) rfl ?_)
          try simp only [Act.put, xA1, xA2, xA3, xA4, xA5, xA6]
          (refine skH (i := 10) rfl ?_)
          try simp only [Act.put, xA1, xA2, xA3, xA4, xA5, xA6]
          (refine skH (i := 11) rfl ?_)
          try simp only [Act.put, xA1, xA2, xA3, xA4, xA5, xA6]
          (refine skH (i := 12) rfl ?_)
          try simp only [Act.put, xA1, xA2, xA3, xA4, xA5, xA6]
          (refine skH (i := 13) rfl ?_)
          try simp only [Act.put, xA1, xA2, xA3, xA4, xA5, xA6]
          (refine skH (i := 14) rfl ?_)
          try simp only [Act.put, xA1, xA2, xA3, xA4, xA5, xA6]
          (refine skH (i := 15) rfl ?_)
          try simp only [Act.put, xA1, xA2, xA3, xA4, xA5, xA6]
          (refine skH (i := 16) rfl ?_)
          try simp only [Act.put, xA1, xA2, xA3, xA4, xA5, xA6]
          (refine skH (i := 17) rfl ?_)
          try simp only [Act.put, xA1, xA2, xA3, xA4, xA5, xA6]
          (refine skH (i := 18) rfl ?_)
          try simp only [Act.put, xA1, xA2, xA3, xA4, xA5, xA6]
          (refine skH (i := 19) rfl ?_)
          try simp only [Act.put, xA1, xA2, xA3, xA4, xA5, xA6]
          (refine skH (i := 20) rfl ?_)
          try simp only [Act.put, xA1, xA2, xA3, xA4, xA5, xA6]
          (refine skH (i := 21) rfl ?_)
          try simp only [Act.put, xA1, xA2, xA3, xA4, xA5, xA6]
          (refine skH (i := 22) rfl ?_)
          try simp only [Act.put, xA1, xA2, xA3, xA4, xA5, xA6]
          (refine skH (i := 23) rfl ?_)
          try simp only [Act.put, xA1, xA2, xA3, xA4, xA5, xA6]
          (refine tkH (i := 24) (v := ?_) rfl ?_ ?_; rotate_left 1; (focus (intro w hSw; (try dsimp only at hSw); go_simp; try (with_reducible rfl))))
          try simp only [Act.put, xA1, xA2, xA3, xA4, xA5, xA6]
          (refine tkH (i := 25) (v := ?_) rfl ?_ ?_; rotate_left 1; (focus (intro w hSw; (try dsimp only at hSw); go_simp; try (with_reducible rfl))))
          try simp only [Act.put, xA1, xA2, xA3, xA4, xA5, xA6]
          refine wpAnyH_done (by kernel_rfl) ?_ _
          have hzz := hHeld.2.2.2
          go_wp2_with fail
          go_ret
          exact ⟨ret_bool HE.out.symm, hx5.trans hzz⟩
end Go.Proofs.Ytiofdfjcaklmcaa
