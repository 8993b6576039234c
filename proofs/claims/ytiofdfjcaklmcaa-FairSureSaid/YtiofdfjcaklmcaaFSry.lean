/- surely of the laws. -/
import Derived.Test.YtiofdfjcaklmcaaFSrP
import Derived.Test.YtiofdfjcaklmcaaFSu
namespace Go.Proofs.Ytiofdfjcaklmcaa
open Go.RowKit Go.Shelf

theorem cell_kept {W W' : World} {p : Addr} {v : Value} {M : Nat} {ml : List (Int × Value)} (h : W.cell? p = some v) (hg : W.grownBy W' (some M)) (hM : MapAt encI W M ml) : W'.cell? p = some v :=
  grown_cellO hg h (fun b hb e => by
    cases hb
    obtain ⟨es, clock, hb', _⟩ := hM
    unfold World.cell? at h
    rw [e, hb'] at h
    simp at h)
theorem sfs_grown {W W' : World} {v : Value} {l : List (Int × Int)} {M : Nat} {ml : List (Int × Value)} (h : SfsAt W v l) (hg : W.grownBy W' (some M)) (hM : MapAt encI W M ml) : SfsAt W' v l := by
  obtain ⟨ao, c, hv, hc, hi⟩ := h
  refine ⟨ao, c, hv, hc, fun i hl => ?_⟩
  obtain ⟨b, o, h1, h2⟩ := hi i hl
  refine ⟨b, o, h1, fun r hr => ?_⟩
  exact cell_kept (h2 r hr) hg hM
set_option maxRecDepth 100000 in
set_option maxHeartbeats 8000000 in
theorem surely_any (a b gv lv : Value) (P : Po) (g L : List Int) (hok : OkP P) (hS : ShrV P g) (hN : NoChn P g) (hus : ∀ s ∈ P.ss, s.us.length ≤ 1000000) (w : World) (hT : PoAt w a b P) (hg : IntsAt w gv g) (hL : IntsAt w lv L) :
    Calls Try.prog 44 #[.agg #[a, b], .agg #[gv, lv]] w fun e w' => e = .returned (.bool true) ∧ Ext w w' := by
  obtain ⟨ab, cb, rfl, hlb⟩ := hT.s.len
  obtain ⟨ga, gc, rfl, hlg⟩ := hg.len
  obtain ⟨la, lc, rfl, hll⟩ := hL.len
  have KS := fun W (x : Ext w W) => Surely_any a _ P W (hT.ext x) hus
  have KC := fun s t W (x : Ext w W) => Could_any a _ P s t W (hT.ext x) hus
  have hsl := surX_len hok
  have hte := fun i h => @tld_end P hok i h
  obtain ⟨best, hbest⟩ : ∃ x, ladL P (faiG P) = x := ⟨_, rfl⟩
  have hcl := fun i h tn ht => @cld_at P hok i h tn ht
  have hcg := fun i h => @cou_given P hok g hS hN i h
  have hlen := hS.len
  have hgus := hS.us
  obtain ⟨SX, hSX⟩ : ∃ x, surX P = x := ⟨_, rfl⟩
  rw [chk_ok.2 hok, hSX] at KS
  rw [hSX] at hsl
  simp only [hSX, hbest] at hte
  simp only [hbest] at hcl hcg
  have HKS := Lib.hid KS
  have HKC := Lib.hid KC
  have HTE := Lib.hid hte
  have HCL := Lib.hid hcl
  have HCG := Lib.hid hcg
  have HLEN := Lib.hid hlen
  have HSL := Lib.hid hsl
  have HGUS := Lib.hid hgus
  have HT := Lib.hid hT
  have HG := Lib.hid hg
  have HOK := Lib.hid hok
  have hls := hok.ls
  have HUS := Lib.hid hus
  clear KS KC hte hcl hcg hlen hsl hgus hSX hbest hT hg hL hok hS hN hlb hlg hll hus
  have hmk := @run_makeMap Try.prog
  go_enter Try.func44, Try.ntmps44
  go_wp2_with fail
  refine (HKS.out _ (by repeat (first | exact Ext.refl _ | assumption | refine Ext.alloc ?_ _ | refine Ext.drew ?_ | refine Ext.drewN _ ?_ | refine Ext.trans ?_ (by assumption)))).mono ?_
  rintro e w1 ⟨sv, rfl, hsv, hx1⟩
  obtain ⟨sA, sc, rfl, _⟩ := hsv.len
  obtain ⟨q, qf, hx, hk0⟩ := alloc2 hx1
  have hle2 : ((g.length : Int) != P.ss.length) = false := by simp [HLEN.out]
  obtain ⟨w2, hw2⟩ : ∃ W, w1.alloc (.map #[] 0) = W := ⟨_, rfl⟩
  obtain ⟨M, hM⟩ : ∃ N, w1.heap.size = N := ⟨_, rfl⟩
  have hx2 : Ext w1 w2 := by rw [← hw2]; exact (by repeat (first | exact Ext.refl _ | assumption | refine Ext.alloc ?_ _ | refine Ext.drew ?_ | refine Ext.drewN _ ?_ | refine Ext.trans ?_ (by assumption)))
  have hM0 : MapAt encI w2 M [] := by rw [← hw2, ← hM]; exact mapAt_made encI w1
  have hMw : w.heap.size + 1 < M := by rw [← hM]; exact hk0
  have d0 : w1.cell? ⟨w.heap.size, 0, none⟩ = some a := q.cell 0
  have d1 : w1.cell? ⟨w.heap.size, 1, none⟩ = some (.slice ab P.ss.length cb) := q.cell 1
  have e0 : w1.cell? ⟨w.heap.size + 1, 0, none⟩ = some (.slice ga g.length gc) := qf.cell 0
  replace q := q.ext hx2
  replace qf := qf.ext hx2
  have hxx := hx.trans hx2
  have HSV := Lib.hid (SeqK.ext hsv hx2)
  have HM0 : Hid (CntAt w2 M (tldF SX 0)) := Lib.hid ⟨[], hM0, fun x => rfl⟩
  clear hx1 hk0 hx hx2 hM0 hsv
  go_wp2_with fail
  clear hmk hw2 hM hle2 d0 d1 e0
  obtain ⟨ns, hns⟩ : ∃ n, SX.length = n := ⟨_, rfl⟩
  rw [hns]
  have hsv2 := HSV.out
  rw [hns] at hsv2
  have HNS := Lib.hid hns
  have HSV2 := Lib.hid hsv2
  have hns40 : ns ≤ 40 := by have := HSL.out; omega
  clear HSV hns hsv2
  go_loopw [8] (fun i wr => ∃ k : Nat, k ≤ ns ∧ i = .int .i64 k ∧ CntAt wr M (tldF SX k) ∧ Cls w.heap.size 25 #[a, .slice ab P.ss.length cb] wr ∧ Cls (w.heap.size + 1) 71 #[.slice ga g.length gc, .slice la L.length lc] wr ∧ Hid (SfsAt wr (.slice sA ns sc) SX) ∧ Ext w wr) (fun i _ => ns - (intOf i).toNat)
  case atStart => exact ⟨0, Nat.zero_le _, rfl, HM0.out, q, qf, HSV2, hxx⟩
  case round =>
    clear HM0 q qf hxx HSV2
    obtain ⟨k, hk, rfl, ⟨ml, hM, hC⟩, q, qf, HSV, hx⟩ := hrel
    by_cases hlt : k < ns
    · have hks : k < SX.length := by rw [HNS.out]; exact hlt
      obtain ⟨b8, o8, rfl, c0, c1⟩ := HSV.out.get k hks
      have hst := fun x => tldF_step hks x
      obtain ⟨m, hm⟩ : ∃ m, SX[k] = m := ⟨_, rfl⟩
      rw [hm] at c0 c1
      simp only [hm] at hst
      obtain ⟨x, y⟩ := m
      simp only at c0 c1 hst
      have HST := Lib.hid hst
      have HC := Lib.hid hC
      have hki : (k : Int) < ns := by omega
      clear hst hm hC
      go_upto_region 8 with fail
      refine wp_region_last (z := 11) (S := fun W' => W'.cell? ⟨b8, o8 + k * 2, none⟩ = some (.int .i64 x) ∧ W'.cell? ⟨b8, o8 + k * 2 + 1, none⟩ = some (.int .i64 y) ∧ Ext wr W') (by kernel_rfl) ?_ (fun hHeld => ?_)
      · exact ⟨c0, c1, Ext.drew (Ext.refl _)⟩
      obtain ⟨V0, hV0⟩ : ∃ V, World.drew wr = V := ⟨_, rfl⟩
      rw [hV0] at hHeld ⊢
      clear hV0
      (refine tkL (i := 0) (v := ?_) rfl ?_ ?_; rotate_left 1; (focus (intro w hSw; (try dsimp only at hSw); go_simp; try (with_reducible rfl))))
      try simp only [Act.put, xA1, xA2, xA4, xA5, xA6]
      (refine tkL (i := 1) (v := ?_) rfl ?_ ?_; rotate_left 1; (focus (intro w hSw; (try dsimp only at hSw); go_simp; try (with_reducible rfl))))
      try simp only [Act.put, xA1, xA2, xA3, xA4, xA5, xA6]
      (refine tkL (i := 2) (v := ?_) rfl ?_ ?_; rotate_left 1; (focus (intro w hSw; (try dsimp only at hSw); go_simp; try (with_reducible rfl))))
      try simp only [Act.put, xA1, xA2, xA3, xA4, xA5, xA6]
      (refine tkL (i := 3) (v := ?_) rfl ?_ ?_; rotate_left 1; (focus (intro w hSw; (try dsimp only at hSw); go_simp; try (with_reducible rfl))))
      try simp only [Act.put, xA1, xA2, xA3, xA4, xA5, xA6]
      (refine tkL (i := 4) (v := ?_) rfl ?_ ?_; rotate_left 1; (focus (intro w hSw; (try dsimp only at hSw); go_simp; try (with_reducible rfl))))
      try simp only [Act.put, xA1, xA2, xA3, xA4, xA5, xA6]
      (refine tkL (i := 5) (v := ?_) rfl ?_ ?_; rotate_left 1; (focus (intro w hSw; (try dsimp only at hSw); go_simp; try (with_reducible rfl))))
      try simp only [Act.put, xA1, xA2, xA3, xA4, xA5, xA6]
      (refine tkL (i := 6) (v := ?_) rfl ?_ ?_; rotate_left 1; (focus (intro w hSw; (try dsimp only at hSw); go_simp; try (with_reducible rfl))))
      try simp only [Act.put, xA1, xA2, xA3, xA4, xA5, xA6]
      (refine tkL (i := 7) (v := ?_) rfl ?_ ?_; rotate_left 1; (focus (intro w hSw; (try dsimp only at hSw); go_simp; try (with_reducible rfl))))
      try simp only [Act.put, xA1, xA2, xA3, xA4, xA5, xA6]
      (refine tkL (i := 8) (v := ?_) rfl ?_ ?_; rotate_left 1; (focus (intro w hSw; (try dsimp only at hSw); go_simp; try (with_reducible rfl))))
      try simp only [Act.put, xA1, xA2, xA3, xA4, xA5, xA6]
      (refine tkL (i := 9) (v := ?_) rfl ?_ ?_; rotate_left 1; (focus (intro w hSw; (try dsimp only at hSw); go_simp; try (with_reducible rfl))))
      try simp only [Act.put, xA1, xA2, xA3, xA4, xA5, xA6]
      (refine tkL (i := 10) (v := ?_) rfl ?_ ?_; rotate_left 1; (focus (intro w hSw; (try dsimp only at hSw); go_simp; try (with_reducible rfl))))
      try simp only [Act.put, xA1, xA2, xA3, xA4, xA5, xA6]
      refine wpAnyL_one (i := 11) (by kernel_rfl) rfl (fun K hK => ?_)
      rw [if_pos (by rfl)]
      obtain ⟨V9, hrun, hM9, hg9⟩ := run_updateMap (P := Try.prog) KI mapTi (hM.ext hHeld.2.2) x (.int .i64 y)
      refine oper_update _ _ _ _ rfl _ _ _ V9 rfl rfl rfl hrun ?_
      refine hK.out _ _ (fun h => absurd rfl h) (fun _ => ?_)
      clear hK K
      try simp only [Act.put, xA1, xA2, xA3]
      refine wpAnyL_done (by kernel_rfl) ?_ _
      have hzz := hHeld.2.2
      clear hHeld hrun
      have hxV := hx.trans hzz
      have hx9 : Ext w V9 := hxV.grown hg9 (by omega)
      go_wp2_with fail
      go_roundw
      case rel =>
        refine ⟨k + 1, by omega, by go_num, ⟨_, hM9, fun z => ?_⟩, (q.ext hzz).kept hg9 (fun e => by have := Option.some.inj e; omega), (qf.ext hzz).kept hg9 (fun e => by have := Option.some.inj e; omega), Lib.hid ?_, hx9⟩
        · rw [getK_upd, HST.out z]
          by_cases hz : z = x
          · rw [if_pos hz, if_pos hz]; rfl
          · rw [if_neg hz, if_neg hz]; exact HC.out z
        · exact sfs_grown (SeqK.ext HSV.out hzz) hg9 (hM.ext hzz)
      case measure => simp [intOf]; omega
    · obtain rfl : k = ns := by omega
      have hki : ¬ ((k : Int) < k) := by omega
      have HC : Hid (∀ x, (getK ml x).getD (.int .i64 0) = .int .i64 (tldF SX k x)) := Lib.hid hC
      clear hC HSV
      go_wp2_with fail
      obtain ⟨wo, hwo⟩ : ∃ W, W = wr := ⟨_, rfl⟩
      subst hwo
      go_loopw [9] (fun i wr => ∃ k : Nat, k ≤ P.ss.length ∧ i = .int .i64 k ∧ Ext wo wr) (fun i _ => P.ss.length - (intOf i).toNat)
      case atStart => exact ⟨0, Nat.zero_le _, rfl, Ext.refl _⟩
      case round =>
        obtain ⟨i, hi, rfl, hxo⟩ := hrel
        replace q := q.ext hxo
        replace qf := qf.ext hxo
        replace hM := hM.ext hxo
        replace hx := hx.trans hxo
        have d0 : wr.cell? ⟨w.heap.size, 0, none⟩ = some a := q.cell 0
        have d1 : wr.cell? ⟨w.heap.size, 1, none⟩ = some (.slice ab P.ss.length cb) := q.cell 1
        have e0 : wr.cell? ⟨w.heap.size + 1, 0, none⟩ = some (.slice ga g.length gc) := qf.cell 0
        by_cases hlt : i < P.ss.length
        · have hig : i < g.length := by rw [HLEN.out]; exact hlt
          obtain ⟨gb, go, rfl, cg⟩ := (HG.out.ext hx).get i hig
          obtain ⟨sb, so, ua, uc, rfl, c0, c1, hul, hU⟩ := (HT.out.s.ext hx).get i hlt
          have hut := HOK.out.us _ (List.getElem_mem hlt)
          have hum := HUS.out _ (List.getElem_mem hlt)
          have hg0 := HGUS.out i hig hlt
          have h1 := HCL.out i hlt g[i] (by rcases hg0 with e | e; exact .inl e; exact .inr (hut _ e))
          rw [HCG.out i hig] at h1
          have hte := HTE.out i hlt
          rw [HNS.out] at hte
          have hL := HC.out P.ss[i].id
          rw [hte] at hL
          have hcu := fun u (hu : u ∈ P.ss[i].us) => HCL.out i hlt u (.inr (hut u hu))
          have hc0 := HCL.out i hlt 0 (.inl rfl)
          have hwm := fun (h : whoX P i best ≠ 0) => whoX_mem h
          rw [usOf_at hlt] at hwm
          have hgw : whoX P i best ≠ 0 → g[i] = whoX P i best := fun h => by
            have hm := hwm h g[i] (by rcases hg0 with e | e; rw [e]; simp; exact List.mem_cons_of_mem _ e)
            rw [HCG.out i hig] at hm
            exact of_decide_eq_true hm.symm
          have K1 := fun W (x : Ext w W) => HKC.out P.ss[i].id g[i] W x
          have KU := fun u W (x : Ext w W) => HKC.out P.ss[i].id u W x
          simp only [h1.1, h1.2] at K1
          obtain ⟨gi, hgi⟩ : ∃ x, g[i] = x := ⟨_, rfl⟩
          obtain ⟨us, huu⟩ : ∃ x, P.ss[i].us = x := ⟨_, rfl⟩
          obtain ⟨sid_, hsid⟩ : ∃ x, P.ss[i].id = x := ⟨_, rfl⟩
          obtain ⟨who, hwho⟩ : ∃ x, whoX P i best = x := ⟨_, rfl⟩
          rw [hgi] at cg K1 hgw
          rw [huu] at c1 hul hU hcu hwm hum
          rw [hsid] at c0 K1 KU hL hcu hc0
          rw [hwho] at hL hwm hgw
          have HK1 := Lib.hid K1
          have HKU0 := Lib.hid KU
          have HLK := Lib.hid hL
          have HCU := Lib.hid hcu
          have HC0 := Lib.hid hc0
          have HWM := Lib.hid hwm
          have HGW := Lib.hid hgw
          have hii : (i : Int) < P.ss.length := by omega
          have hiig : (i : Int) < g.length := by omega
          obtain ⟨Y, hY⟩ : ∃ W, wr.alloc (.cells #[.int .i64 sid_, .slice ua us.length uc] 48) = W := ⟨_, rfl⟩
          obtain ⟨SB, hSB⟩ : ∃ N, wr.heap.size = N := ⟨_, rfl⟩
          have hxy : Ext wr Y := by rw [← hY]; exact (by repeat (first | exact Ext.refl _ | assumption | refine Ext.alloc ?_ _ | refine Ext.drew ?_ | refine Ext.drewN _ ?_ | refine Ext.trans ?_ (by assumption)))
          have qs : Cls SB 48 #[.int .i64 sid_, .slice ua us.length uc] Y := by rw [← hY]; exact Cls.newAt _ _ _ hSB.symm
          have s0 : Y.cell? ⟨SB, 0, none⟩ = some (.int .i64 sid_) := qs.cell 0
          have s1 : Y.cell? ⟨SB, 1, none⟩ = some (.slice ua us.length uc) := qs.cell 1
          have hxY := hx.trans hxy
          have hoY := hxo.trans hxy
          clear hL hcu hc0 hwm hgw h1 hte hg0 hgi huu hsid hwho K1 KU hut
          go_upto_region 13 with fail
          clear hY hSB
          replace d0 := hxy.cell d0
          replace d1 := hxy.cell d1
          replace e0 := hxy.cell e0
          replace cg := hxy.cell cg
          have HU := Lib.hid (hU.ext hxy)
          replace hM := hM.ext hxy
          clear hxy hU
          refine wp_region_held_drew (S := fun W' => W'.cell? ⟨w.heap.size, 0, none⟩ = some a ∧ W'.cell? ⟨w.heap.size, 1, none⟩ = some (.slice (some ⟨sb, so, none⟩) P.ss.length cb) ∧ W'.cell? ⟨w.heap.size + 1, 0, none⟩ = some (.slice (some ⟨gb, go, none⟩) g.length gc) ∧ W'.cell? ⟨SB, 0, none⟩ = some (.int .i64 sid_) ∧ W'.cell? ⟨SB, 1, none⟩ = some (.slice ua us.length uc) ∧ W'.cell? ⟨gb, go + i, none⟩ = some (.int .i64 gi) ∧ Ext Y W') (by kernel_rfl) ?_ (fun hHeld => ?_)
          · exact ⟨d0, d1, e0, s0, s1, cg, Ext.drew (Ext.refl _)⟩
          obtain ⟨V0, hV0⟩ : ∃ V, World.drew Y = V := ⟨_, rfl⟩
          rw [hV0] at hHeld ⊢
          clear hV0
          (refine tkH (i := 0) (v := ?_) rfl ?_ ?_; rotate_left 1; (focus (intro w hSw; (try dsimp only at hSw); go_simp; try (with_reducible rfl))))
          try simp only [Act.put, xA1, xA2, xA4, xA5, xA6]
          (refine tkH (i := 1) (v := ?_) rfl ?_ ?_; rotate_left 1; (focus (intro w hSw; (try dsimp only at hSw); go_simp; try (with_reducible rfl))))
          try simp only [Act.put, xA1, xA2, xA3, xA4, xA5, xA6]
          (refine tkH (i := 2) (v := ?_) rfl ?_ ?_; rotate_left 1; (focus (intro w hSw; (try dsimp only at hSw); go_simp; try (with_reducible rfl))))
          try simp only [Act.put, xA1, xA2, xA3, xA4, xA5, xA6]
          (refine tkH (i := 3) (v := ?_) rfl ?_ ?_; rotate_left 1; (focus (intro w hSw; (try dsimp only at hSw); go_simp; try (with_reducible rfl))))
          try simp only [Act.put, xA1, xA2, xA3, xA4, xA5, xA6]
          (refine tkH (i := 4) (v := ?_) rfl ?_ ?_; rotate_left 1; (focus (intro w hSw; (try dsimp only at hSw); go_simp; try (with_reducible rfl))))
          try simp only [Act.put, xA1, xA2, xA3, xA4, xA5, xA6]
          (refine tkH (i := 5) (v := ?_) rfl ?_ ?_; rotate_left 1; (focus (intro w hSw; (try dsimp only at hSw); go_simp; try (with_reducible rfl))))
          try simp only [Act.put, xA1, xA2, xA3, xA4, xA5, xA6]
          (refine tkH (i := 6) (v := ?_) rfl ?_ ?_; rotate_left 1; (focus (intro w hSw; (try dsimp only at hSw); go_simp; try (with_reducible rfl))))
          try simp only [Act.put, xA1, xA2, xA3, xA4, xA5, xA6]
          (refine tkH (i := 7) (v := ?_) rfl ?_ ?_; rotate_left 1; (focus (intro w hSw; (try dsimp only at hSw); go_simp; try (with_reducible rfl))))
          try simp only [Act.put, xA1, xA2, xA3, xA4, xA5, xA6]
          refine wpAnyH_ready (rs := [8]) (by kernel_rfl) (by simp) ?_
          refine AllReadyH.cons rfl (fun K hK => ?_) AllReadyH.nil
          go_simp
          go_at_call 22; refine (HK1.out V0 (hxY.trans hHeld.2.2.2.2.2.2)).mono ?_; rintro e V1 ⟨rfl, hz⟩
          refine hK.out _ _ ?_ (fun hHeld => ?_)
          · exact ⟨Ext.cell hz hHeld.1, Ext.cell hz hHeld.2.1, Ext.cell hz hHeld.2.2.1, Ext.cell hz hHeld.2.2.2.1, Ext.cell hz hHeld.2.2.2.2.1, Ext.cell hz hHeld.2.2.2.2.2.1, hHeld.2.2.2.2.2.2.trans hz⟩
          clear hK K
          clear hz
          try simp only [Act.put, xA1, xA2, xA3, xA4, xA5, xA6]
          (refine tkH (i := 9) (v := ?_) rfl ?_ ?_; rotate_left 1; (focus (intro w hSw; (try dsimp only at hSw); go_simp; try (with_reducible rfl))))
          try simp only [Act.put, xA1, xA2, xA3, xA4, xA5, xA6]
          (refine tkH (i := 10) (v := ?_) rfl ?_ ?_; rotate_left 1; (focus (intro w hSw; (try dsimp only at hSw); go_simp; try (with_reducible rfl))))
          try simp only [Act.put, xA1, xA2, xA3, xA4, xA5, xA6]
          (refine tkH (i := 11) (v := ?_) rfl ?_ ?_; rotate_left 1; (focus (intro w hSw; (try dsimp only at hSw); go_simp; try (with_reducible rfl))))
          try simp only [Act.put, xA1, xA2, xA3, xA4, xA5, xA6]
          (refine tkH (i := 12) (v := ?_) rfl ?_ ?_; rotate_left 1; (focus (intro w hSw; (try dsimp only at hSw); go_simp; try (with_reducible rfl))))
          try simp only [Act.put, xA1, xA2, xA3, xA4, xA5, xA6]
          (refine tkH (i := 13) (v := ?_) rfl ?_ ?_; rotate_left 1; (focus (intro w hSw; (try dsimp only at hSw); go_simp; try (with_reducible rfl))))
          try simp only [Act.put, xA1, xA2, xA3, xA4, xA5, xA6]
          refine wpAnyH_done (by kernel_rfl) ?_ _
          have hzz := hHeld.2.2.2.2.2.2
          obtain ⟨W5, hW5⟩ : ∃ W, V1 = W := ⟨_, rfl⟩
          rw [hW5] at hzz ⊢
          replace d0 := hzz.cell d0
          replace d1 := hzz.cell d1
          replace e0 := hzz.cell e0
          replace cg := hzz.cell cg
          replace s0 := hzz.cell s0
          replace s1 := hzz.cell s1
          replace hM := hM.ext hzz
          have hx5 := hxY.trans hzz
          have ho5 := hoY.trans hzz
          have HU5 := Lib.hid (HU.out.ext hzz)
          clear hHeld hW5 hzz HU hxY hoY HK1 qs
          by_cases hw0 : who = 0
          · subst hw0
            go_wp2_with (refine wpList_lookupMap rfl _ _ false rfl KI mapTi rfl hM sid_ rfl (zeroI _) ?_; simp only [Bool.false_eq_true, if_false]; rw [HLK.out])
            go_roundw
            case rel => exact ⟨i + 1, by omega, by go_num, ho5⟩
            case measure => simp [intOf]; omega
          have hgw := HGW.out hw0
          subst hgw
          have hwm := HWM.out hw0
          have hwb : (gi == 0) = false := by simpa using hw0
          have hgb : (gi != gi) = false := by simp
          have h00 := hwm 0 (by simp)
          rw [decide_eq_false (fun e => hw0 e.symm)] at h00
          have hc0 := HC0.out
          rw [h00] at hc0
          have K0 := HKU0.out 0
          rw [hc0.1, hc0.2] at K0
          have HK0 := Lib.hid K0
          have hcu2 : ∀ u ∈ us, cldE P sid_ u = 0 ∧ cldX P sid_ u = decide (u = gi) := fun u hu => ⟨(HCU.out u hu).1, by rw [(HCU.out u hu).2]; exact hwm u (List.mem_cons_of_mem _ hu)⟩
          have HCU2 := Lib.hid hcu2
          clear hwm h00 hc0 K0 hcu2 HWM HGW HC0 HCU hw0
          go_wp2_with (refine wpList_lookupMap rfl _ _ false rfl KI mapTi rfl hM sid_ rfl (zeroI _) ?_; simp only [Bool.false_eq_true, if_false]; rw [HLK.out])
          go_loopw [14] (fun jv wr => ∃ j : Nat, j ≤ us.length ∧ jv = .int .i64 j ∧ Ext W5 wr) (fun j _ => us.length - (intOf j).toNat)
          case atStart => exact ⟨0, Nat.zero_le _, rfl, Ext.refl _⟩
          case round =>
            obtain ⟨j, hj, rfl, hx6⟩ := hrel
            replace d0 := hx6.cell d0
            replace d1 := hx6.cell d1
            replace s0 := hx6.cell s0
            replace s1 := hx6.cell s1
            have hx := hx5.trans hx6
            have ho := ho5.trans hx6
            clear e0 cg hM
            by_cases hlj : j < us.length
            · obtain ⟨ub, uo, rfl, cu⟩ := (HU5.out.ext hx6).get j hlj
              have h2 := HCU2.out us[j] (List.getElem_mem hlj)
              have KU := HKU0.out us[j]
              rw [h2.1, h2.2] at KU
              obtain ⟨u, huu⟩ : ∃ x, us[j] = x := ⟨_, rfl⟩
              rw [huu] at cu KU
              obtain ⟨D, hD⟩ : ∃ D, decide (u = gi) = D := ⟨_, rfl⟩
              rw [hD] at KU
              have HKU := Lib.hid KU
              have hDu : (u == gi) = D := by rw [← hD]; exact Bool.beq_eq_decide_eq ..
              have hDD : (D != D) = false := by simp
              have hji : (j : Int) < us.length := by omega
              clear h2 KU huu hD
              go_upto_region 23 with fail
              refine wp_region_held_drew (S := fun W' => W'.cell? ⟨w.heap.size, 0, none⟩ = some a ∧ W'.cell? ⟨w.heap.size, 1, none⟩ = some (.slice (some ⟨sb, so, none⟩) P.ss.length cb) ∧ W'.cell? ⟨SB, 0, none⟩ = some (.int .i64 sid_) ∧ W'.cell? ⟨SB, 1, none⟩ = some (.slice (some ⟨ub, uo, none⟩) us.length uc) ∧ W'.cell? ⟨ub, uo + j, none⟩ = some (.int .i64 u) ∧ Ext wr W') (by kernel_rfl) ?_ (fun hHeld => ?_)
              · exact ⟨d0, d1, s0, s1, cu, Ext.drew (Ext.refl _)⟩
              obtain ⟨V0, hV0⟩ : ∃ V, World.drew wr = V := ⟨_, rfl⟩
              rw [hV0] at hHeld ⊢
              clear hV0
              (refine tkH (i := 0) (v := ?_) rfl ?_ ?_; rotate_left 1; (focus (intro w hSw; (try dsimp only at hSw); go_simp; try (with_reducible rfl))))
              try simp only [Act.put, xA1, xA2, xA4, xA5, xA6]
              (refine tkH (i := 1) (v := ?_) rfl ?_ ?_; rotate_left 1; (focus (intro w hSw; (try dsimp only at hSw); go_simp; try (with_reducible rfl))))
              try simp only [Act.put, xA1, xA2, xA3, xA4, xA5, xA6]
              (refine tkH (i := 2) (v := ?_) rfl ?_ ?_; rotate_left 1; (focus (intro w hSw; (try dsimp only at hSw); go_simp; try (with_reducible rfl))))
              try simp only [Act.put, xA1, xA2, xA3, xA4, xA5, xA6]
              (refine tkH (i := 3) (v := ?_) rfl ?_ ?_; rotate_left 1; (focus (intro w hSw; (try dsimp only at hSw); go_simp; try (with_reducible rfl))))
              try simp only [Act.put, xA1, xA2, xA3, xA4, xA5, xA6]
              (refine tkH (i := 4) (v := ?_) rfl ?_ ?_; rotate_left 1; (focus (intro w hSw; (try dsimp only at hSw); go_simp; try (with_reducible rfl))))
              try simp only [Act.put, xA1, xA2, xA3, xA4, xA5, xA6]
              (refine tkH (i := 5) (v := ?_) rfl ?_ ?_; rotate_left 1; (focus (intro w hSw; (try dsimp only at hSw); go_simp; try (with_reducible rfl))))
              try simp only [Act.put, xA1, xA2, xA3, xA4, xA5, xA6]
              (refine tkH (i := 6) (v := ?_) rfl ?_ ?_; rotate_left 1; (focus (intro w hSw; (try dsimp only at hSw); go_simp; try (with_reducible rfl))))
              try simp only [Act.put, xA1, xA2, xA3, xA4, xA5, xA6]
              (refine tkH (i := 7) (v := ?_) rfl ?_ ?_; rotate_left 1; (focus (intro w hSw; (try dsimp only at hSw); go_simp; try (with_reducible rfl))))
              try simp only [Act.put, xA1, xA2, xA3, xA4, xA5, xA6]
              refine wpAnyH_ready (rs := [8]) (by kernel_rfl) (by simp) ?_
              refine AllReadyH.cons rfl (fun K hK => ?_) AllReadyH.nil
              go_simp
              go_at_call 22; refine (HKU.out V0 (hx.trans hHeld.2.2.2.2.2)).mono ?_; rintro e V1 ⟨rfl, hz⟩
              refine hK.out _ _ ?_ (fun hHeld => ?_)
              · exact ⟨Ext.cell hz hHeld.1, Ext.cell hz hHeld.2.1, Ext.cell hz hHeld.2.2.1, Ext.cell hz hHeld.2.2.2.1, Ext.cell hz hHeld.2.2.2.2.1, hHeld.2.2.2.2.2.trans hz⟩
              clear hK K
              clear hz
              try simp only [Act.put, xA1, xA2, xA3, xA4, xA5, xA6]
              (refine tkH (i := 9) (v := ?_) rfl ?_ ?_; rotate_left 1; (focus (intro w hSw; (try dsimp only at hSw); go_simp; try (with_reducible rfl))))
              try simp only [Act.put, xA1, xA2, xA3, xA4, xA5, xA6]
              (refine tkH (i := 10) (v := ?_) rfl ?_ ?_; rotate_left 1; (focus (intro w hSw; (try dsimp only at hSw); go_simp; try (with_reducible rfl))))
              try simp only [Act.put, xA1, xA2, xA3, xA4, xA5, xA6]
              (refine tkH (i := 11) (v := ?_) rfl ?_ ?_; rotate_left 1; (focus (intro w hSw; (try dsimp only at hSw); go_simp; try (with_reducible rfl))))
              try simp only [Act.put, xA1, xA2, xA3, xA4, xA5, xA6]
              (refine tkH (i := 12) (v := ?_) rfl ?_ ?_; rotate_left 1; (focus (intro w hSw; (try dsimp only at hSw); go_simp; try (with_reducible rfl))))
              try simp only [Act.put, xA1, xA2, xA3, xA4, xA5, xA6]
              (refine tkH (i := 13) (v := ?_) rfl ?_ ?_; rotate_left 1; (focus (intro w hSw; (try dsimp only at hSw); go_simp; try (with_reducible rfl))))
              try simp only [Act.put, xA1, xA2, xA3, xA4, xA5, xA6]
              refine wpAnyH_done (by kernel_rfl) ?_ _
              have hzz := hHeld.2.2.2.2.2
              have s1' := hHeld.2.2.2.1
              have cu' := hHeld.2.2.2.2.1
              go_wp2_with fail
              go_roundw
              case rel => exact ⟨j + 1, by omega, by go_num, hx6.trans hzz⟩
              case measure => simp [intOf]; omega
            · have hji : ¬ ((j : Int) < us.length) := by omega
              go_wp2_with fail
              refine (HK0.out _ hx).mono ?_
              rintro e w8 ⟨rfl, hz⟩
              go_wp2_with fail
              go_roundw
              case rel => exact ⟨i + 1, by omega, by go_num, ho.trans hz⟩
              case measure => simp [intOf]; omega
        · have hii : ¬ ((i : Int) < P.ss.length) := by omega
          go_wp2_with fail
          go_ret
          exact ⟨rfl, hx⟩
end Go.Proofs.Ytiofdfjcaklmcaa
