/- The specification's CheckFair. -/
import Derived.Test.YtiofdfjcaklmcaaFRck
import Derived.Test.YtiofdfjcaklmcaaFRsh
import Derived.Test.YtiofdfjcaklmcaaFCkF
namespace Go.Proofs.Ytiofdfjcaklmcaa
open Go.RowKit Go.Shelf

theorem lowF_tn {P : Po} {g L : List Int} (hok : OkP P) (hS : ShrV P g) {i : Nat} (h : i < g.length) : (tnI P g[i] < 0 → lowF P L g[i] = 41) ∧ (¬ tnI P g[i] < 0 → lowF P L g[i] = lbOf P L g[i]) := by
  have hn := @tnI_none P g[i]
  constructor
  · intro h1
    unfold lowF
    rcases hS.us i h (by have := hS.len; omega) with e | e
    · rw [if_pos e]
    · obtain ⟨t, ht, he⟩ := hok.us _ (List.getElem_mem _) _ e
      exact absurd he (hn.1 h1 t ht)
  · intro h1
    unfold lowF
    rw [if_neg]
    intro e
    refine h1 (hn.2 (fun t ht he => ?_))
    have := (hok.ti t ht).1.1
    omega
set_option maxRecDepth 100000 in
set_option maxHeartbeats 8000000 in
theorem refCheckFair_any (a b gv lv : Value) (P : Po) (g L : List Int) (w : World) (hT : PoAt w a b P) (hg : IntsAt w gv g) (hL : IntsAt w lv L) (hus : ∀ s ∈ P.ss, s.us.length ≤ 1000000) :
    Calls Try.prog 41 #[.agg #[a, b], .agg #[gv, lv]] w fun e w' => e = .returned (.int .i64 (cfE P g L)) ∧ Ext w w' := by
  obtain ⟨aa, ca, rfl, hla⟩ := hT.t.len
  obtain ⟨ab, cb, rfl, hlb⟩ := hT.s.len
  obtain ⟨ga, gc, rfl, hlg⟩ := hg.len
  obtain ⟨la, lc, rfl, hll⟩ := hL.len
  have KC := fun W (h : Ext w W) => refCheck_any _ _ P W (hT.ext h) hus
  have KS := fun (hok : OkP P) W (h : Ext w W) => refSharing_any _ _ _ P g hok W (hT.ext h) (hg.ext h)
  have KN := fun (hok : OkP P) (hl : g.length ≤ 100000) W (h : Ext w W) => refCounts0_any _ _ _ P g hok hl W (hT.ext h) (hg.ext h)
  have KT0 := fun (hl : P.ts.length ≤ 100000) x W (h : Ext w W) => refTn_any _ _ P x W (hT.ext h) hl
  have fC := @chk_ok P
  have fV := @shr_iff P g
  have fE := @cf_e P g L
  have fS := @cf_fS P g L
  have fL := @cf_fL P g L
  have f1 := fun h i => @cf_f1 P g L h i
  have f2 := fun h i => @cf_f2 P g L h i
  have ft := @cf_t P g L
  obtain ⟨E, hE⟩ : ∃ E, cfE P g L = E := ⟨_, rfl⟩
  obtain ⟨C, hC⟩ : ∃ E, chkE P = E := ⟨_, rfl⟩
  obtain ⟨S, hS⟩ : ∃ E, shrB P g = E := ⟨_, rfl⟩
  simp only [hE, hC, hS] at fE fS fL f1 f2 ft
  rw [hC] at KC fC
  rw [hS] at KS fV
  rw [hE]
  have HKC := Lib.hid KC
  have HKS := Lib.hid KS
  have HKN := Lib.hid KN
  have HKT0 := Lib.hid KT0
  have HfC := Lib.hid fC
  have HfV := Lib.hid fV
  have HfE := Lib.hid fE
  have HfS := Lib.hid fS
  have HfL := Lib.hid fL
  have Hf1 := Lib.hid f1
  have Hf2 := Lib.hid f2
  have Hft := Lib.hid ft
  have HT := Lib.hid hT
  have HG := Lib.hid hg
  have HL := Lib.hid hL
  clear KC KS KN KT0 fC fV fE fS fL f1 f2 ft hE hC hS hT hg hL hus hla hlb hlg hll
  go_enter Try.func41, Try.ntmps41
  go_wp2_with fail
  refine (HKC.out _ (by repeat (first | exact Ext.refl _ | assumption | refine Ext.alloc ?_ _ | refine Ext.drew ?_ | refine Ext.drewN _ ?_ | refine Ext.trans ?_ (by assumption)))).mono ?_
  rintro e w1 ⟨rfl, hx1⟩
  obtain ⟨q, qf, hx, hk0⟩ := alloc2 hx1
  have d0 : w1.cell? ⟨w.heap.size, 0, none⟩ = some (.slice aa P.ts.length ca) := q.cell 0
  have d1 : w1.cell? ⟨w.heap.size, 1, none⟩ = some (.slice ab P.ss.length cb) := q.cell 1
  have e0 : w1.cell? ⟨w.heap.size + 1, 0, none⟩ = some (.slice ga g.length gc) := qf.cell 0
  have e1 : w1.cell? ⟨w.heap.size + 1, 1, none⟩ = some (.slice la L.length lc) := qf.cell 1
  clear hx1 hk0
  by_cases h0 : C = 0
  rotate_left 1
  · have hb : (C != 0) = true := by simpa using h0
    have HE := Lib.hid (HfE.out h0)
    clear h0
    go_wp2_with fail
    go_ret
    exact ⟨by rw [HE.out]; rfl, hx⟩
  subst h0
  have hok := HfC.out.1 rfl
  have HOK := Lib.hid hok
  have KS := HKS.out hok
  clear hok
  go_wp2_with fail
  refine (KS _ hx).mono ?_
  rintro e w2 ⟨rfl, hz⟩
  replace d0 := hz.cell d0
  replace d1 := hz.cell d1
  replace e0 := hz.cell e0
  replace e1 := hz.cell e1
  replace q := q.ext hz
  replace qf := qf.ext hz
  replace hx := hx.trans hz
  clear hz KS
  cases S
  · have HE := Lib.hid (HfS.out (by simp) (by simp))
    go_wp2_with fail
    go_ret
    exact ⟨by rw [HE.out]; rfl, hx⟩
  have hSV := HfV.out.1 (by simp)
  have HSV := Lib.hid hSV
  by_cases hll : L.length = P.ts.length
  rotate_left 1
  · have HE := Lib.hid (HfL.out (by simp) hll)
    have hb : ((L.length : Int) != P.ts.length) = true := by
      have : ¬ (L.length : Int) = P.ts.length := by omega
      simp [this]
    clear hll hSV
    go_wp2_with fail
    go_ret
    exact ⟨by rw [HE.out]; rfl, hx⟩
  have hb : ((L.length : Int) != P.ts.length) = false := by simp [hll]
  have KN := HKN.out HOK.out (by have := hSV.le HOK.out; omega)
  have hcl := cntT_len P g
  have hcg := cntT_get P g
  obtain ⟨CT, hCT⟩ : ∃ C, cntT P g = C := ⟨_, rfl⟩
  rw [hCT] at KN hcl hcg
  have HCG := Lib.hid hcg
  have HCL := Lib.hid hcl
  have HLL := Lib.hid hll
  have hts := HOK.out.lt
  have hss := HOK.out.ls
  have HKT1 := Lib.hid (HKT0.out (by omega))
  clear hcg hCT hll hSV HKT0
  go_wp2_with fail
  refine (KN _ hx).mono ?_
  rintro e w3 ⟨u, rfl, hRow, hz⟩
  have hCA := hRow.at_
  obtain ⟨nA, nc, rfl⟩ := hRow.form
  rw [hcl] at hCA ⊢
  rw [HLL.out] at e1 qf
  replace d0 := hz.cell d0
  replace d1 := hz.cell d1
  replace e0 := hz.cell e0
  replace e1 := hz.cell e1
  replace q := q.ext hz
  replace qf := qf.ext hz
  replace hx := hx.trans hz
  have HCA := Lib.hid hCA
  clear hz KN hRow hcl hCA hb
  go_wp2_with fail
  go_loopw [7] (fun i wr => ∃ k : Nat, k ≤ P.ts.length ∧ i = .int .i64 k ∧ Hid (∀ i, i < k → lbI P g L i = true) ∧ Cls w.heap.size 25 #[.slice aa P.ts.length ca, .slice ab P.ss.length cb] wr ∧ Cls (w.heap.size + 1) 71 #[.slice ga g.length gc, .slice la P.ts.length lc] wr ∧ Ext w wr ∧ Ext w3 wr) (fun i _ => P.ts.length - (intOf i).toNat)
  case atStart => exact ⟨0, Nat.zero_le _, rfl, Lib.hid (fun i h => by omega), q, qf, hx, Ext.refl _⟩
  case round =>
    clear d0 d1 e0 e1 q qf hx
    obtain ⟨k, hk, rfl, HK, q, qf, hx, hxy⟩ := hrel
    have d0 : wr.cell? ⟨w.heap.size, 0, none⟩ = some (.slice aa P.ts.length ca) := q.cell 0
    have d1 : wr.cell? ⟨w.heap.size, 1, none⟩ = some (.slice ab P.ss.length cb) := q.cell 1
    have e0 : wr.cell? ⟨w.heap.size + 1, 0, none⟩ = some (.slice ga g.length gc) := qf.cell 0
    have e1 : wr.cell? ⟨w.heap.size + 1, 1, none⟩ = some (.slice la P.ts.length lc) := qf.cell 1
    by_cases hlt : k < P.ts.length
    · have hkc : k < CT.length := by rw [HCL.out]; exact hlt
      have hkl : k < L.length := by rw [HLL.out]; exact hlt
      obtain ⟨nb, no, hne, cn⟩ := (HCA.out.ext hxy).get k hkc
      subst hne
      rw [HCG.out k hkc hlt] at cn
      obtain ⟨lb, lo, hle, cl⟩ := (HL.out.ext hx).get k hkl
      subst hle
      obtain ⟨tb, to_, hte, ct0, cm⟩ := (HT.out.t.ext hx).get k hlt
      subst hte
      have hp := lbI_at (g := g) hlt hkl
      obtain ⟨x, hxx⟩ : ∃ x, L[k] = x := ⟨_, rfl⟩
      obtain ⟨n, hnn⟩ : ∃ x, cntI g P.ts[k].id = x := ⟨_, rfl⟩
      obtain ⟨m, hmm⟩ : ∃ x, P.ts[k].most = x := ⟨_, rfl⟩
      rw [hxx] at cl hp
      rw [hnn] at cn hp
      rw [hmm] at cm hp
      have hki : (k : Int) < P.ts.length := by omega
      have HP := Lib.hid hp
      have HKI0 : ∀ W, Calls Try.prog 96 #[.int .i64 x, .int .i64 0, .int .i64 41] W fun e w' => e = .returned (.bool (inB x 0 41)) ∧ Ext W w' := fun W => refInB_any x 0 41 W
      clear hp hxx hnn hmm ct0 hkc hkl
      cases i1 : inB x 0 41
      · rw [i1] at HKI0
        have HE := Lib.hid (Hf1.out (by simp) k hlt (by rw [HP.out, i1]; rfl))
        have HKI := Lib.hid HKI0
        clear HKI0 HP i1
        go_upto_region 11 with fail
        refine wp_region_held_drew (S := fun W' => W'.cell? ⟨w.heap.size, 0, none⟩ = some (.slice (some ⟨tb, to_, none⟩) P.ts.length ca) ∧ W'.cell? ⟨nb, no + k, none⟩ = some (.int .i64 n) ∧ W'.cell? ⟨tb, to_ + k * 2 + 1, none⟩ = some (.int .i64 m) ∧ Ext wr W') (by kernel_rfl) ?_ (fun hHeld => ?_)
        · exact ⟨d0, cn, cm, Ext.drew (Ext.refl _)⟩
        obtain ⟨V0, hV0⟩ : ∃ V, World.drew wr = V := ⟨_, rfl⟩
        rw [hV0] at hHeld ⊢
        clear hV0
        (refine tkH (i := 0) (v := ?_) rfl ?_ ?_; rotate_left 1; (focus (intro w hSw; (try dsimp only at hSw); go_simp; try (with_reducible rfl))))
        try simp only [Act.put, xA1, xA2, xA4, xA5, xA6]
        refine wpAnyH_ready (rs := [1]) (by kernel_rfl) (by simp) ?_
        refine AllReadyH.cons rfl (fun K hK => ?_) AllReadyH.nil
        go_simp
        go_at_call 96; refine (HKI.out V0).mono ?_; rintro e V1 ⟨rfl, hz⟩
        refine hK.out _ _ ?_ (fun hHeld => ?_)
        · exact ⟨Ext.cell hz hHeld.1, Ext.cell hz hHeld.2.1, Ext.cell hz hHeld.2.2.1, hHeld.2.2.2.trans hz⟩
        clear hK K
        clear hz
        try simp only [Act.put, xA1, xA2, xA3, xA4, xA5, xA6]
        (refine tkH (i := 2) (v := ?_) rfl ?_ ?_; rotate_left 1; (focus (intro w hSw; (try dsimp only at hSw); go_simp; try (with_reducible rfl))))
        try simp only [Act.put, xA1, xA2, xA3, xA4, xA5, xA6]
        (refine tkH (i := 3) (v := ?_) rfl ?_ ?_; rotate_left 1; (focus (intro w hSw; (try dsimp only at hSw); go_simp; try (with_reducible rfl))))
        try simp only [Act.put, xA1, xA2, xA3, xA4, xA5, xA6]
        (refine skH (i := 4) rfl ?_)
        try simp only [Act.put, xA1, xA2, xA3, xA4, xA5, xA6]
        (refine skH (i := 5) rfl ?_)
        try simp only [Act.put, xA1, xA2, xA3, xA4, xA5, xA6]
        (refine skH (i := 6) rfl ?_)
        try simp only [Act.put, xA1, xA2, xA3, xA4, xA5, xA6]
        (refine skH (i := 7) rfl ?_)
        try simp only [Act.put, xA1, xA2, xA3, xA4, xA5, xA6]
        (refine skH (i := 8) rfl ?_)
        try simp only [Act.put, xA1, xA2, xA3, xA4, xA5, xA6]
        (refine skH (i := 9) rfl ?_)
        try simp only [Act.put, xA1, xA2, xA3, xA4, xA5, xA6]
        (refine skH (i := 10) rfl ?_)
        try simp only [Act.put, xA1, xA2, xA3, xA4, xA5, xA6]
        (refine tkH (i := 11) (v := ?_) rfl ?_ ?_; rotate_left 1; (focus (intro w hSw; (try dsimp only at hSw); go_simp; try (with_reducible rfl))))
        try simp only [Act.put, xA1, xA2, xA3, xA4, xA5, xA6]
        (refine tkH (i := 12) (v := ?_) rfl ?_ ?_; rotate_left 1; (focus (intro w hSw; (try dsimp only at hSw); go_simp; try (with_reducible rfl))))
        try simp only [Act.put, xA1, xA2, xA3, xA4, xA5, xA6]
        (refine skH (i := 13) rfl ?_)
        try simp only [Act.put, xA1, xA2, xA3, xA4, xA5, xA6]
        (refine skH (i := 14) rfl ?_)
        try simp only [Act.put, xA1, xA2, xA3, xA4, xA5, xA6]
        (refine skH (i := 15) rfl ?_)
        try simp only [Act.put, xA1, xA2, xA3, xA4, xA5, xA6]
        (refine skH (i := 16) rfl ?_)
        try simp only [Act.put, xA1, xA2, xA3, xA4, xA5, xA6]
        (refine skH (i := 17) rfl ?_)
        try simp only [Act.put, xA1, xA2, xA3, xA4, xA5, xA6]
        (refine skH (i := 18) rfl ?_)
        try simp only [Act.put, xA1, xA2, xA3, xA4, xA5, xA6]
        (refine skH (i := 19) rfl ?_)
        try simp only [Act.put, xA1, xA2, xA3, xA4, xA5, xA6]
        (refine skH (i := 20) rfl ?_)
        try simp only [Act.put, xA1, xA2, xA3, xA4, xA5, xA6]
        (refine skH (i := 21) rfl ?_)
        try simp only [Act.put, xA1, xA2, xA3, xA4, xA5, xA6]
        (refine skH (i := 22) rfl ?_)
        try simp only [Act.put, xA1, xA2, xA3, xA4, xA5, xA6]
        (refine skH (i := 23) rfl ?_)
        try simp only [Act.put, xA1, xA2, xA3, xA4, xA5, xA6]
        (refine skH (i := 24) rfl ?_)
        try simp only [Act.put, xA1, xA2, xA3, xA4, xA5, xA6]
        (refine skH (i := 25) rfl ?_)
        try simp only [Act.put, xA1, xA2, xA3, xA4, xA5, xA6]
        (refine skH (i := 26) rfl ?_)
        try simp only [Act.put, xA1, xA2, xA3, xA4, xA5, xA6]
        (refine skH (i := 27) rfl ?_)
        try simp only [Act.put, xA1, xA2, xA3, xA4, xA5, xA6]
        (refine skH (i := 28) rfl ?_)
        try simp only [Act.put, xA1, xA2, xA3, xA4, xA5, xA6]
        (refine skH (i := 29) rfl ?_)
        try simp only [Act.put, xA1, xA2, xA3, xA4, xA5, xA6]
        (refine skH (i := 30) rfl ?_)
        try simp only [Act.put, xA1, xA2, xA3, xA4, xA5, xA6]
        (refine skH (i := 31) rfl ?_)
        try simp only [Act.put, xA1, xA2, xA3, xA4, xA5, xA6]
        (refine tkH (i := 32) (v := ?_) rfl ?_ ?_; rotate_left 1; (focus (intro w hSw; (try dsimp only at hSw); go_simp; try (with_reducible rfl))))
        try simp only [Act.put, xA1, xA2, xA3, xA4, xA5, xA6]
        refine wpAnyH_done (by kernel_rfl) ?_ _
        have hzz := hHeld.2.2.2
        go_wp2
        go_ret
        exact ⟨by rw [HE.out]; rfl, hx.trans hzz⟩
      have hx41 := inB_t.1 i1
      rw [i1] at HKI0
      have HKI := Lib.hid HKI0
      have hw1 : IntKind.i64.wrap (x + 1) = x + 1 := IntWalk.i64_in _ (by omega)
      clear HKI0
      by_cases hn1 : n > x + 1
      · have HE := Lib.hid (Hf1.out (by simp) k hlt (by rw [HP.out, decide_eq_false (show ¬ n ≤ x + 1 by omega)]; simp))
        have hb1 : decide (n > x + 1) = true := decide_eq_true hn1
        clear HP i1 hn1
        go_upto_region 11 with fail
        refine wp_region_held_drew (S := fun W' => W'.cell? ⟨w.heap.size, 0, none⟩ = some (.slice (some ⟨tb, to_, none⟩) P.ts.length ca) ∧ W'.cell? ⟨nb, no + k, none⟩ = some (.int .i64 n) ∧ W'.cell? ⟨tb, to_ + k * 2 + 1, none⟩ = some (.int .i64 m) ∧ Ext wr W') (by kernel_rfl) ?_ (fun hHeld => ?_)
        · exact ⟨d0, cn, cm, Ext.drew (Ext.refl _)⟩
        obtain ⟨V0, hV0⟩ : ∃ V, World.drew wr = V := ⟨_, rfl⟩
        rw [hV0] at hHeld ⊢
        clear hV0
        (refine tkH (i := 0) (v := ?_) rfl ?_ ?_; rotate_left 1; (focus (intro w hSw; (try dsimp only at hSw); go_simp; try (with_reducible rfl))))
        try simp only [Act.put, xA1, xA2, xA4, xA5, xA6]
        refine wpAnyH_ready (rs := [1]) (by kernel_rfl) (by simp) ?_
        refine AllReadyH.cons rfl (fun K hK => ?_) AllReadyH.nil
        go_simp
        go_at_call 96; refine (HKI.out V0).mono ?_; rintro e V1 ⟨rfl, hz⟩
        refine hK.out _ _ ?_ (fun hHeld => ?_)
        · exact ⟨Ext.cell hz hHeld.1, Ext.cell hz hHeld.2.1, Ext.cell hz hHeld.2.2.1, hHeld.2.2.2.trans hz⟩
        clear hK K
        clear hz
        try simp only [Act.put, xA1, xA2, xA3, xA4, xA5, xA6]
        (refine tkH (i := 2) (v := ?_) rfl ?_ ?_; rotate_left 1; (focus (intro w hSw; (try dsimp only at hSw); go_simp; try (with_reducible rfl))))
        try simp only [Act.put, xA1, xA2, xA3, xA4, xA5, xA6]
        (refine tkH (i := 3) (v := ?_) rfl ?_ ?_; rotate_left 1; (focus (intro w hSw; (try dsimp only at hSw); go_simp; try (with_reducible rfl))))
        try simp only [Act.put, xA1, xA2, xA3, xA4, xA5, xA6]
        (refine tkH (i := 4) (v := ?_) rfl ?_ ?_; rotate_left 1; (focus (intro w hSw; (try dsimp only at hSw); go_simp; try (with_reducible rfl))))
        try simp only [Act.put, xA1, xA2, xA3, xA4, xA5, xA6]
        (refine tkH (i := 5) (v := ?_) rfl ?_ ?_; rotate_left 1; (focus (intro w hSw; (try dsimp only at hSw); go_simp; try (with_reducible rfl))))
        try simp only [Act.put, xA1, xA2, xA3, xA4, xA5, xA6]
        (refine tkH (i := 6) (v := ?_) rfl ?_ ?_; rotate_left 1; (focus (intro w hSw; (try dsimp only at hSw); go_simp; try (with_reducible rfl))))
        try simp only [Act.put, xA1, xA2, xA3, xA4, xA5, xA6]
        (refine tkH (i := 7) (v := ?_) rfl ?_ ?_; rotate_left 1; (focus (intro w hSw; (try dsimp only at hSw); go_simp; try (with_reducible rfl))))
        try simp only [Act.put, xA1, xA2, xA3, xA4, xA5, xA6]
        (refine tkH (i := 8) (v := ?_) rfl ?_ ?_; rotate_left 1; (focus (intro w hSw; (try dsimp only at hSw); go_simp; try (with_reducible rfl))))
        try simp only [Act.put, xA1, xA2, xA3, xA4, xA5, xA6]
        (refine tkH (i := 9) (v := ?_) rfl ?_ ?_; rotate_left 1; (focus (intro w hSw; (try dsimp only at hSw); go_simp; try (with_reducible rfl))))
        try simp only [Act.put, xA1, xA2, xA3, xA4, xA5, xA6]
        (refine tkH (i := 10) (v := ?_) rfl ?_ ?_; rotate_left 1; (focus (intro w hSw; (try dsimp only at hSw); go_simp; try (with_reducible rfl))))
        try simp only [Act.put, xA1, xA2, xA3, xA4, xA5, xA6]
        (refine tkH (i := 11) (v := ?_) rfl ?_ ?_; rotate_left 1; (focus (intro w hSw; (try dsimp only at hSw); go_simp; try (with_reducible rfl))))
        try simp only [Act.put, xA1, xA2, xA3, xA4, xA5, xA6]
        (refine tkH (i := 12) (v := ?_) rfl ?_ ?_; rotate_left 1; (focus (intro w hSw; (try dsimp only at hSw); go_simp; try (with_reducible rfl))))
        try simp only [Act.put, xA1, xA2, xA3, xA4, xA5, xA6]
        (refine skH (i := 13) rfl ?_)
        try simp only [Act.put, xA1, xA2, xA3, xA4, xA5, xA6]
        (refine skH (i := 14) rfl ?_)
        try simp only [Act.put, xA1, xA2, xA3, xA4, xA5, xA6]
        (refine skH (i := 15) rfl ?_)
        try simp only [Act.put, xA1, xA2, xA3, xA4, xA5, xA6]
        (refine skH (i := 16) rfl ?_)
        try simp only [Act.put, xA1, xA2, xA3, xA4, xA5, xA6]
        (refine skH (i := 17) rfl ?_)
        try simp only [Act.put, xA1, xA2, xA3, xA4, xA5, xA6]
        (refine skH (i := 18) rfl ?_)
        try simp only [Act.put, xA1, xA2, xA3, xA4, xA5, xA6]
        (refine skH (i := 19) rfl ?_)
        try simp only [Act.put, xA1, xA2, xA3, xA4, xA5, xA6]
        (refine skH (i := 20) rfl ?_)
        try simp only [Act.put, xA1, xA2, xA3, xA4, xA5, xA6]
        (refine skH (i := 21) rfl ?_)
        try simp only [Act.put, xA1, xA2, xA3, xA4, xA5, xA6]
        (refine skH (i := 22) rfl ?_)
        try simp only [Act.put, xA1, xA2, xA3, xA4, xA5, xA6]
        (refine skH (i := 23) rfl ?_)
        try simp only [Act.put, xA1, xA2, xA3, xA4, xA5, xA6]
        (refine skH (i := 24) rfl ?_)
        try simp only [Act.put, xA1, xA2, xA3, xA4, xA5, xA6]
        (refine skH (i := 25) rfl ?_)
        try simp only [Act.put, xA1, xA2, xA3, xA4, xA5, xA6]
        (refine skH (i := 26) rfl ?_)
        try simp only [Act.put, xA1, xA2, xA3, xA4, xA5, xA6]
        (refine skH (i := 27) rfl ?_)
        try simp only [Act.put, xA1, xA2, xA3, xA4, xA5, xA6]
        (refine skH (i := 28) rfl ?_)
        try simp only [Act.put, xA1, xA2, xA3, xA4, xA5, xA6]
        (refine skH (i := 29) rfl ?_)
        try simp only [Act.put, xA1, xA2, xA3, xA4, xA5, xA6]
        (refine skH (i := 30) rfl ?_)
        try simp only [Act.put, xA1, xA2, xA3, xA4, xA5, xA6]
        (refine skH (i := 31) rfl ?_)
        try simp only [Act.put, xA1, xA2, xA3, xA4, xA5, xA6]
        (refine tkH (i := 32) (v := ?_) rfl ?_ ?_; rotate_left 1; (focus (intro w hSw; (try dsimp only at hSw); go_simp; try (with_reducible rfl))))
        try simp only [Act.put, xA1, xA2, xA3, xA4, xA5, xA6]
        refine wpAnyH_done (by kernel_rfl) ?_ _
        have hzz := hHeld.2.2.2
        go_wp2
        go_ret
        exact ⟨by rw [HE.out]; rfl, hx.trans hzz⟩
      have hb1 : decide (n > x + 1) = false := decide_eq_false hn1
      have hp := HP.out
      rw [i1, decide_eq_true (show n ≤ x + 1 by omega), Bool.true_and, Bool.true_and] at hp
      have HP2 := Lib.hid hp
      clear HP hp i1 hn1
      by_cases hnm : n < m
      rotate_left 1
      · have hp := HP2.out
        rw [decide_eq_false hnm, Bool.not_false, Bool.true_or] at hp
        have HP3 := Lib.hid hp
        have hb2 : decide (n < m) = false := decide_eq_false hnm
        clear hp hnm HP2
        go_upto_region 11 with fail
        refine wp_region_held_drew (S := fun W' => W'.cell? ⟨w.heap.size, 0, none⟩ = some (.slice (some ⟨tb, to_, none⟩) P.ts.length ca) ∧ W'.cell? ⟨nb, no + k, none⟩ = some (.int .i64 n) ∧ W'.cell? ⟨tb, to_ + k * 2 + 1, none⟩ = some (.int .i64 m) ∧ Ext wr W') (by kernel_rfl) ?_ (fun hHeld => ?_)
        · exact ⟨d0, cn, cm, Ext.drew (Ext.refl _)⟩
        obtain ⟨V0, hV0⟩ : ∃ V, World.drew wr = V := ⟨_, rfl⟩
        rw [hV0] at hHeld ⊢
        clear hV0
        (refine tkH (i := 0) (v := ?_) rfl ?_ ?_; rotate_left 1; (focus (intro w hSw; (try dsimp only at hSw); go_simp; try (with_reducible rfl))))
        try simp only [Act.put, xA1, xA2, xA4, xA5, xA6]
        refine wpAnyH_ready (rs := [1]) (by kernel_rfl) (by simp) ?_
        refine AllReadyH.cons rfl (fun K hK => ?_) AllReadyH.nil
        go_simp
        go_at_call 96; refine (HKI.out V0).mono ?_; rintro e V1 ⟨rfl, hz⟩
        refine hK.out _ _ ?_ (fun hHeld => ?_)
        · exact ⟨Ext.cell hz hHeld.1, Ext.cell hz hHeld.2.1, Ext.cell hz hHeld.2.2.1, hHeld.2.2.2.trans hz⟩
        clear hK K
        clear hz
        try simp only [Act.put, xA1, xA2, xA3, xA4, xA5, xA6]
        (refine tkH (i := 2) (v := ?_) rfl ?_ ?_; rotate_left 1; (focus (intro w hSw; (try dsimp only at hSw); go_simp; try (with_reducible rfl))))
        try simp only [Act.put, xA1, xA2, xA3, xA4, xA5, xA6]
        (refine tkH (i := 3) (v := ?_) rfl ?_ ?_; rotate_left 1; (focus (intro w hSw; (try dsimp only at hSw); go_simp; try (with_reducible rfl))))
        try simp only [Act.put, xA1, xA2, xA3, xA4, xA5, xA6]
        (refine tkH (i := 4) (v := ?_) rfl ?_ ?_; rotate_left 1; (focus (intro w hSw; (try dsimp only at hSw); go_simp; try (with_reducible rfl))))
        try simp only [Act.put, xA1, xA2, xA3, xA4, xA5, xA6]
        (refine tkH (i := 5) (v := ?_) rfl ?_ ?_; rotate_left 1; (focus (intro w hSw; (try dsimp only at hSw); go_simp; try (with_reducible rfl))))
        try simp only [Act.put, xA1, xA2, xA3, xA4, xA5, xA6]
        (refine tkH (i := 6) (v := ?_) rfl ?_ ?_; rotate_left 1; (focus (intro w hSw; (try dsimp only at hSw); go_simp; try (with_reducible rfl))))
        try simp only [Act.put, xA1, xA2, xA3, xA4, xA5, xA6]
        (refine tkH (i := 7) (v := ?_) rfl ?_ ?_; rotate_left 1; (focus (intro w hSw; (try dsimp only at hSw); go_simp; try (with_reducible rfl))))
        try simp only [Act.put, xA1, xA2, xA3, xA4, xA5, xA6]
        (refine tkH (i := 8) (v := ?_) rfl ?_ ?_; rotate_left 1; (focus (intro w hSw; (try dsimp only at hSw); go_simp; try (with_reducible rfl))))
        try simp only [Act.put, xA1, xA2, xA3, xA4, xA5, xA6]
        (refine tkH (i := 9) (v := ?_) rfl ?_ ?_; rotate_left 1; (focus (intro w hSw; (try dsimp only at hSw); go_simp; try (with_reducible rfl))))
        try simp only [Act.put, xA1, xA2, xA3, xA4, xA5, xA6]
        (refine tkH (i := 10) (v := ?_) rfl ?_ ?_; rotate_left 1; (focus (intro w hSw; (try dsimp only at hSw); go_simp; try (with_reducible rfl))))
        try simp only [Act.put, xA1, xA2, xA3, xA4, xA5, xA6]
        (refine tkH (i := 11) (v := ?_) rfl ?_ ?_; rotate_left 1; (focus (intro w hSw; (try dsimp only at hSw); go_simp; try (with_reducible rfl))))
        try simp only [Act.put, xA1, xA2, xA3, xA4, xA5, xA6]
        (refine tkH (i := 12) (v := ?_) rfl ?_ ?_; rotate_left 1; (focus (intro w hSw; (try dsimp only at hSw); go_simp; try (with_reducible rfl))))
        try simp only [Act.put, xA1, xA2, xA3, xA4, xA5, xA6]
        (refine tkH (i := 13) (v := ?_) rfl ?_ ?_; rotate_left 1; (focus (intro w hSw; (try dsimp only at hSw); go_simp; try (with_reducible rfl))))
        try simp only [Act.put, xA1, xA2, xA3, xA4, xA5, xA6]
        (refine tkH (i := 14) (v := ?_) rfl ?_ ?_; rotate_left 1; (focus (intro w hSw; (try dsimp only at hSw); go_simp; try (with_reducible rfl))))
        try simp only [Act.put, xA1, xA2, xA3, xA4, xA5, xA6]
        (refine tkH (i := 15) (v := ?_) rfl ?_ ?_; rotate_left 1; (focus (intro w hSw; (try dsimp only at hSw); go_simp; try (with_reducible rfl))))
        try simp only [Act.put, xA1, xA2, xA3, xA4, xA5, xA6]
        (refine tkH (i := 16) (v := ?_) rfl ?_ ?_; rotate_left 1; (focus (intro w hSw; (try dsimp only at hSw); go_simp; try (with_reducible rfl))))
        try simp only [Act.put, xA1, xA2, xA3, xA4, xA5, xA6]
        (refine tkH (i := 17) (v := ?_) rfl ?_ ?_; rotate_left 1; (focus (intro w hSw; (try dsimp only at hSw); go_simp; try (with_reducible rfl))))
        try simp only [Act.put, xA1, xA2, xA3, xA4, xA5, xA6]
        (refine tkH (i := 18) (v := ?_) rfl ?_ ?_; rotate_left 1; (focus (intro w hSw; (try dsimp only at hSw); go_simp; try (with_reducible rfl))))
        try simp only [Act.put, xA1, xA2, xA3, xA4, xA5, xA6]
        (refine tkH (i := 19) (v := ?_) rfl ?_ ?_; rotate_left 1; (focus (intro w hSw; (try dsimp only at hSw); go_simp; try (with_reducible rfl))))
        try simp only [Act.put, xA1, xA2, xA3, xA4, xA5, xA6]
        (refine tkH (i := 20) (v := ?_) rfl ?_ ?_; rotate_left 1; (focus (intro w hSw; (try dsimp only at hSw); go_simp; try (with_reducible rfl))))
        try simp only [Act.put, xA1, xA2, xA3, xA4, xA5, xA6]
        (refine tkH (i := 21) (v := ?_) rfl ?_ ?_; rotate_left 1; (focus (intro w hSw; (try dsimp only at hSw); go_simp; try (with_reducible rfl))))
        try simp only [Act.put, xA1, xA2, xA3, xA4, xA5, xA6]
        (refine tkH (i := 22) (v := ?_) rfl ?_ ?_; rotate_left 1; (focus (intro w hSw; (try dsimp only at hSw); go_simp; try (with_reducible rfl))))
        try simp only [Act.put, xA1, xA2, xA3, xA4, xA5, xA6]
        (refine tkH (i := 23) (v := ?_) rfl ?_ ?_; rotate_left 1; (focus (intro w hSw; (try dsimp only at hSw); go_simp; try (with_reducible rfl))))
        try simp only [Act.put, xA1, xA2, xA3, xA4, xA5, xA6]
        (refine tkH (i := 24) (v := ?_) rfl ?_ ?_; rotate_left 1; (focus (intro w hSw; (try dsimp only at hSw); go_simp; try (with_reducible rfl))))
        try simp only [Act.put, xA1, xA2, xA3, xA4, xA5, xA6]
        (refine skH (i := 25) rfl ?_)
        try simp only [Act.put, xA1, xA2, xA3, xA4, xA5, xA6]
        (refine skH (i := 26) rfl ?_)
        try simp only [Act.put, xA1, xA2, xA3, xA4, xA5, xA6]
        (refine skH (i := 27) rfl ?_)
        try simp only [Act.put, xA1, xA2, xA3, xA4, xA5, xA6]
        (refine skH (i := 28) rfl ?_)
        try simp only [Act.put, xA1, xA2, xA3, xA4, xA5, xA6]
        (refine skH (i := 29) rfl ?_)
        try simp only [Act.put, xA1, xA2, xA3, xA4, xA5, xA6]
        (refine skH (i := 30) rfl ?_)
        try simp only [Act.put, xA1, xA2, xA3, xA4, xA5, xA6]
        (refine tkH (i := 31) (v := ?_) rfl ?_ ?_; rotate_left 1; (focus (intro w hSw; (try dsimp only at hSw); go_simp; try (with_reducible rfl))))
        try simp only [Act.put, xA1, xA2, xA3, xA4, xA5, xA6]
        (refine tkH (i := 32) (v := ?_) rfl ?_ ?_; rotate_left 1; (focus (intro w hSw; (try dsimp only at hSw); go_simp; try (with_reducible rfl))))
        try simp only [Act.put, xA1, xA2, xA3, xA4, xA5, xA6]
        refine wpAnyH_done (by kernel_rfl) ?_ _
        have hzz := hHeld.2.2.2
        go_wp2_with fail
        go_roundw
        case rel => exact ⟨k + 1, by omega, by go_num, Lib.hid (fun i hi => by
          by_cases e : i = k
          · rw [e]; exact HP3.out
          · exact HK.out i (by omega)), q.ext hzz, qf.ext hzz, hx.trans hzz, hxy.trans hzz⟩
        case measure => simp [intOf]; omega
      have hp := HP2.out
      rw [decide_eq_true hnm, Bool.not_true, Bool.false_or] at hp
      have HP3 := Lib.hid hp
      have hb2 : decide (n < m) = true := decide_eq_true hnm
      clear hp hnm HP2
      go_upto_region 11 with fail
      refine wp_region_held_drew (S := fun W' => W'.cell? ⟨w.heap.size, 0, none⟩ = some (.slice (some ⟨tb, to_, none⟩) P.ts.length ca) ∧ W'.cell? ⟨nb, no + k, none⟩ = some (.int .i64 n) ∧ W'.cell? ⟨tb, to_ + k * 2 + 1, none⟩ = some (.int .i64 m) ∧ Ext wr W') (by kernel_rfl) ?_ (fun hHeld => ?_)
      · exact ⟨d0, cn, cm, Ext.drew (Ext.refl _)⟩
      obtain ⟨V0, hV0⟩ : ∃ V, World.drew wr = V := ⟨_, rfl⟩
      rw [hV0] at hHeld ⊢
      clear hV0
      (refine tkH (i := 0) (v := ?_) rfl ?_ ?_; rotate_left 1; (focus (intro w hSw; (try dsimp only at hSw); go_simp; try (with_reducible rfl))))
      try simp only [Act.put, xA1, xA2, xA4, xA5, xA6]
      refine wpAnyH_ready (rs := [1]) (by kernel_rfl) (by simp) ?_
      refine AllReadyH.cons rfl (fun K hK => ?_) AllReadyH.nil
      go_simp
      go_at_call 96; refine (HKI.out V0).mono ?_; rintro e V1 ⟨rfl, hz⟩
      refine hK.out _ _ ?_ (fun hHeld => ?_)
      · exact ⟨Ext.cell hz hHeld.1, Ext.cell hz hHeld.2.1, Ext.cell hz hHeld.2.2.1, hHeld.2.2.2.trans hz⟩
      clear hK K
      clear hz
      try simp only [Act.put, xA1, xA2, xA3, xA4, xA5, xA6]
      (refine tkH (i := 2) (v := ?_) rfl ?_ ?_; rotate_left 1; (focus (intro w hSw; (try dsimp only at hSw); go_simp; try (with_reducible rfl))))
      try simp only [Act.put, xA1, xA2, xA3, xA4, xA5, xA6]
      (refine tkH (i := 3) (v := ?_) rfl ?_ ?_; rotate_left 1; (focus (intro w hSw; (try dsimp only at hSw); go_simp; try (with_reducible rfl))))
      try simp only [Act.put, xA1, xA2, xA3, xA4, xA5, xA6]
      (refine tkH (i := 4) (v := ?_) rfl ?_ ?_; rotate_left 1; (focus (intro w hSw; (try dsimp only at hSw); go_simp; try (with_reducible rfl))))
      try simp only [Act.put, xA1, xA2, xA3, xA4, xA5, xA6]
      (refine tkH (i := 5) (v := ?_) rfl ?_ ?_; rotate_left 1; (focus (intro w hSw; (try dsimp only at hSw); go_simp; try (with_reducible rfl))))
      try simp only [Act.put, xA1, xA2, xA3, xA4, xA5, xA6]
      (refine tkH (i := 6) (v := ?_) rfl ?_ ?_; rotate_left 1; (focus (intro w hSw; (try dsimp only at hSw); go_simp; try (with_reducible rfl))))
      try simp only [Act.put, xA1, xA2, xA3, xA4, xA5, xA6]
      (refine tkH (i := 7) (v := ?_) rfl ?_ ?_; rotate_left 1; (focus (intro w hSw; (try dsimp only at hSw); go_simp; try (with_reducible rfl))))
      try simp only [Act.put, xA1, xA2, xA3, xA4, xA5, xA6]
      (refine tkH (i := 8) (v := ?_) rfl ?_ ?_; rotate_left 1; (focus (intro w hSw; (try dsimp only at hSw); go_simp; try (with_reducible rfl))))
      try simp only [Act.put, xA1, xA2, xA3, xA4, xA5, xA6]
      (refine tkH (i := 9) (v := ?_) rfl ?_ ?_; rotate_left 1; (focus (intro w hSw; (try dsimp only at hSw); go_simp; try (with_reducible rfl))))
      try simp only [Act.put, xA1, xA2, xA3, xA4, xA5, xA6]
      (refine tkH (i := 10) (v := ?_) rfl ?_ ?_; rotate_left 1; (focus (intro w hSw; (try dsimp only at hSw); go_simp; try (with_reducible rfl))))
      try simp only [Act.put, xA1, xA2, xA3, xA4, xA5, xA6]
      (refine tkH (i := 11) (v := ?_) rfl ?_ ?_; rotate_left 1; (focus (intro w hSw; (try dsimp only at hSw); go_simp; try (with_reducible rfl))))
      try simp only [Act.put, xA1, xA2, xA3, xA4, xA5, xA6]
      (refine tkH (i := 12) (v := ?_) rfl ?_ ?_; rotate_left 1; (focus (intro w hSw; (try dsimp only at hSw); go_simp; try (with_reducible rfl))))
      try simp only [Act.put, xA1, xA2, xA3, xA4, xA5, xA6]
      (refine tkH (i := 13) (v := ?_) rfl ?_ ?_; rotate_left 1; (focus (intro w hSw; (try dsimp only at hSw); go_simp; try (with_reducible rfl))))
      try simp only [Act.put, xA1, xA2, xA3, xA4, xA5, xA6]
      (refine tkH (i := 14) (v := ?_) rfl ?_ ?_; rotate_left 1; (focus (intro w hSw; (try dsimp only at hSw); go_simp; try (with_reducible rfl))))
      try simp only [Act.put, xA1, xA2, xA3, xA4, xA5, xA6]
      (refine tkH (i := 15) (v := ?_) rfl ?_ ?_; rotate_left 1; (focus (intro w hSw; (try dsimp only at hSw); go_simp; try (with_reducible rfl))))
      try simp only [Act.put, xA1, xA2, xA3, xA4, xA5, xA6]
      (refine tkH (i := 16) (v := ?_) rfl ?_ ?_; rotate_left 1; (focus (intro w hSw; (try dsimp only at hSw); go_simp; try (with_reducible rfl))))
      try simp only [Act.put, xA1, xA2, xA3, xA4, xA5, xA6]
      (refine tkH (i := 17) (v := ?_) rfl ?_ ?_; rotate_left 1; (focus (intro w hSw; (try dsimp only at hSw); go_simp; try (with_reducible rfl))))
      try simp only [Act.put, xA1, xA2, xA3, xA4, xA5, xA6]
      (refine tkH (i := 18) (v := ?_) rfl ?_ ?_; rotate_left 1; (focus (intro w hSw; (try dsimp only at hSw); go_simp; try (with_reducible rfl))))
      try simp only [Act.put, xA1, xA2, xA3, xA4, xA5, xA6]
      (refine tkH (i := 19) (v := ?_) rfl ?_ ?_; rotate_left 1; (focus (intro w hSw; (try dsimp only at hSw); go_simp; try (with_reducible rfl))))
      try simp only [Act.put, xA1, xA2, xA3, xA4, xA5, xA6]
      (refine tkH (i := 20) (v := ?_) rfl ?_ ?_; rotate_left 1; (focus (intro w hSw; (try dsimp only at hSw); go_simp; try (with_reducible rfl))))
      try simp only [Act.put, xA1, xA2, xA3, xA4, xA5, xA6]
      (refine tkH (i := 21) (v := ?_) rfl ?_ ?_; rotate_left 1; (focus (intro w hSw; (try dsimp only at hSw); go_simp; try (with_reducible rfl))))
      try simp only [Act.put, xA1, xA2, xA3, xA4, xA5, xA6]
      (refine tkH (i := 22) (v := ?_) rfl ?_ ?_; rotate_left 1; (focus (intro w hSw; (try dsimp only at hSw); go_simp; try (with_reducible rfl))))
      try simp only [Act.put, xA1, xA2, xA3, xA4, xA5, xA6]
      (refine tkH (i := 23) (v := ?_) rfl ?_ ?_; rotate_left 1; (focus (intro w hSw; (try dsimp only at hSw); go_simp; try (with_reducible rfl))))
      try simp only [Act.put, xA1, xA2, xA3, xA4, xA5, xA6]
      (refine tkH (i := 24) (v := ?_) rfl ?_ ?_; rotate_left 1; (focus (intro w hSw; (try dsimp only at hSw); go_simp; try (with_reducible rfl))))
      try simp only [Act.put, xA1, xA2, xA3, xA4, xA5, xA6]
      (refine tkH (i := 25) (v := ?_) rfl ?_ ?_; rotate_left 1; (focus (intro w hSw; (try dsimp only at hSw); go_simp; try (with_reducible rfl))))
      try simp only [Act.put, xA1, xA2, xA3, xA4, xA5, xA6]
      (refine tkH (i := 26) (v := ?_) rfl ?_ ?_; rotate_left 1; (focus (intro w hSw; (try dsimp only at hSw); go_simp; try (with_reducible rfl))))
      try simp only [Act.put, xA1, xA2, xA3, xA4, xA5, xA6]
      (refine tkH (i := 27) (v := ?_) rfl ?_ ?_; rotate_left 1; (focus (intro w hSw; (try dsimp only at hSw); go_simp; try (with_reducible rfl))))
      try simp only [Act.put, xA1, xA2, xA3, xA4, xA5, xA6]
      (refine tkH (i := 28) (v := ?_) rfl ?_ ?_; rotate_left 1; (focus (intro w hSw; (try dsimp only at hSw); go_simp; try (with_reducible rfl))))
      try simp only [Act.put, xA1, xA2, xA3, xA4, xA5, xA6]
      (refine tkH (i := 29) (v := ?_) rfl ?_ ?_; rotate_left 1; (focus (intro w hSw; (try dsimp only at hSw); go_simp; try (with_reducible rfl))))
      try simp only [Act.put, xA1, xA2, xA3, xA4, xA5, xA6]
      (refine tkH (i := 30) (v := ?_) rfl ?_ ?_; rotate_left 1; (focus (intro w hSw; (try dsimp only at hSw); go_simp; try (with_reducible rfl))))
      try simp only [Act.put, xA1, xA2, xA3, xA4, xA5, xA6]
      (refine tkH (i := 31) (v := ?_) rfl ?_ ?_; rotate_left 1; (focus (intro w hSw; (try dsimp only at hSw); go_simp; try (with_reducible rfl))))
      try simp only [Act.put, xA1, xA2, xA3, xA4, xA5, xA6]
      (refine tkH (i := 32) (v := ?_) rfl ?_ ?_; rotate_left 1; (focus (intro w hSw; (try dsimp only at hSw); go_simp; try (with_reducible rfl))))
      try simp only [Act.put, xA1, xA2, xA3, xA4, xA5, xA6]
      refine wpAnyH_done (by kernel_rfl) ?_ _
      have hzz := hHeld.2.2.2
      by_cases hxn : x > n
      · have HE := Lib.hid (Hf1.out (by simp) k hlt (by rw [HP3.out]; exact decide_eq_false (by omega)))
        have hb3 : decide (x > n) = true := decide_eq_true hxn
        have hb4 : decide (n < x) = true := decide_eq_true hxn
        have hb5 : n < x := hxn
        clear hxn HP3
        go_wp2
        go_ret
        exact ⟨by rw [HE.out]; rfl, hx.trans hzz⟩
      · have hp := HP3.out
        rw [decide_eq_true (show x ≤ n by omega)] at hp
        have HP4 := Lib.hid hp
        have hb3 : decide (x > n) = false := decide_eq_false hxn
        have hb4 : decide (n < x) = false := decide_eq_false hxn
        have hb5 : ¬ n < x := hxn
        clear hp hxn HP3
        go_wp2_with fail
        go_roundw
        case rel => exact ⟨k + 1, by omega, by go_num, Lib.hid (fun i hi => by
          by_cases e : i = k
          · rw [e]; exact HP4.out
          · exact HK.out i (by omega)), q.ext hzz, qf.ext hzz, hx.trans hzz, hxy.trans hzz⟩
        case measure => simp [intOf]; omega
    · have HK1 : Hid (∀ i, i < P.ts.length → lbI P g L i = true) := Lib.hid (fun i hi => HK.out i (by omega))
      obtain rfl : k = P.ts.length := by omega
      have HGL := Lib.hid HSV.out.len
      clear HK hxy hk hlt HCA
      go_wp2_with fail
      go_loopw [9] (fun i wr => ∃ k : Nat, k ≤ P.ss.length ∧ i = .int .i64 k ∧ Hid (∀ i, i < k → loI P g L i = true) ∧ Cls w.heap.size 25 #[.slice aa P.ts.length ca, .slice ab P.ss.length cb] wr ∧ Cls (w.heap.size + 1) 71 #[.slice ga g.length gc, .slice la P.ts.length lc] wr ∧ Ext w wr) (fun i _ => P.ss.length - (intOf i).toNat)
      case atStart => exact ⟨0, Nat.zero_le _, rfl, Lib.hid (fun i h => by omega), q, qf, hx⟩
      case round =>
        clear d0 d1 e0 e1 q qf hx
        obtain ⟨i, hi, rfl, HI, q, qf, hx⟩ := hrel
        have d0 : wr.cell? ⟨w.heap.size, 0, none⟩ = some (.slice aa P.ts.length ca) := q.cell 0
        have d1 : wr.cell? ⟨w.heap.size, 1, none⟩ = some (.slice ab P.ss.length cb) := q.cell 1
        have e0 : wr.cell? ⟨w.heap.size + 1, 0, none⟩ = some (.slice ga g.length gc) := qf.cell 0
        have e1 : wr.cell? ⟨w.heap.size + 1, 1, none⟩ = some (.slice la P.ts.length lc) := qf.cell 1
        by_cases hlt : i < P.ss.length
        · have hig : i < g.length := by rw [HGL.out]; exact hlt
          obtain ⟨gb, go, hge, cg⟩ := (HG.out.ext hx).get i hig
          subst hge
          obtain ⟨sb, so, ua, uc, hse, cs0, c1, hucl, hU⟩ := (HT.out.s.ext hx).get i hlt
          subst hse
          have hlo := lowF_tn (L := L) HOK.out HSV.out hig
          have hp := loI_at (L := L) hig hlt
          have hut := HOK.out.us _ (List.getElem_mem hlt)
          have hul := HOK.out.ul _ (List.getElem_mem hlt)
          have hlab := fun h => lbOf_at HOK.out HLL.out (u := g[i]'hig) h
          obtain ⟨id, hidd⟩ : ∃ x, g[i] = x := ⟨_, rfl⟩
          obtain ⟨us, huu⟩ : ∃ x, P.ss[i].us = x := ⟨_, rfl⟩
          rw [hidd] at cg hlo hp hlab
          rw [huu] at c1 hp hut hul hU hucl
          obtain ⟨low, hloww⟩ : ∃ x, lowF P L id = x := ⟨_, rfl⟩
          rw [hloww] at hp hlo
          have HLO := Lib.hid hlo
          have HP := Lib.hid hp
          have HUT := Lib.hid hut
          have HLAB := Lib.hid hlab
          have KT := HKT1.out id
          have htn := @tnI_none P id
          obtain ⟨T, hTT⟩ : ∃ T, tnI P id = T := ⟨_, rfl⟩
          rw [hTT] at KT htn hlo
          have HLO := Lib.hid hlo
          have HTN := Lib.hid htn
          have HTT := Lib.hid hTT
          have hii : (i : Int) < P.ss.length := by omega
          have hiig : (i : Int) < g.length := by omega
          have HU := Lib.hid hU
          have KT := Lib.hid KT
          clear hlo hp hut hlab hidd huu hloww htn hTT cs0 hU
          go_upto_region 17 with fail
          refine wp_region_held_drew (S := fun W' => W'.cell? ⟨w.heap.size, 0, none⟩ = some (.slice aa P.ts.length ca) ∧ W'.cell? ⟨w.heap.size, 1, none⟩ = some (.slice (some ⟨sb, so, none⟩) P.ss.length cb) ∧ W'.cell? ⟨w.heap.size + 1, 0, none⟩ = some (.slice (some ⟨gb, go, none⟩) g.length gc) ∧ W'.cell? ⟨gb, go + i, none⟩ = some (.int .i64 id) ∧ Ext wr W') (by kernel_rfl) ?_ (fun hHeld => ?_)
          · exact ⟨d0, d1, e0, cg, Ext.drew (Ext.refl _)⟩
          obtain ⟨V0, hV0⟩ : ∃ V, World.drew wr = V := ⟨_, rfl⟩
          rw [hV0] at hHeld ⊢
          clear hV0
          (refine tkH (i := 0) (v := ?_) rfl ?_ ?_; rotate_left 1; (focus (intro w hSw; (try dsimp only at hSw); go_simp; try (with_reducible rfl))))
          try simp only [Act.put, xA1, xA2, xA4, xA5, xA6]
          (refine tkH (i := 1) (v := ?_) rfl ?_ ?_; rotate_left 1; (focus (intro w hSw; (try dsimp only at hSw); go_simp; try (with_reducible rfl))))
          try simp only [Act.put, xA1, xA2, xA3, xA4, xA5, xA6]
          (refine tkH (i := 2) (v := ?_) rfl ?_ ?_; rotate_left 1; (focus (intro w hSw; (try dsimp only at hSw); go_simp; try (with_reducible rfl))))
          try simp only [Act.put, xA1, xA2, xA3, xA4, xA5, xA6]
          (refine tkH (i := 3) (v := ?_) rfl ?_ ?_; rotate_left 1; (focus (intro w hSw; (try dsimp only at hSw); go_simp; try (with_reducible rfl))))
          try simp only [Act.put, xA1, xA2, xA3, xA4, xA5, xA6]
          (refine tkH (i := 4) (v := ?_) rfl ?_ ?_; rotate_left 1; (focus (intro w hSw; (try dsimp only at hSw); go_simp; try (with_reducible rfl))))
          try simp only [Act.put, xA1, xA2, xA3, xA4, xA5, xA6]
          (refine tkH (i := 5) (v := ?_) rfl ?_ ?_; rotate_left 1; (focus (intro w hSw; (try dsimp only at hSw); go_simp; try (with_reducible rfl))))
          try simp only [Act.put, xA1, xA2, xA3, xA4, xA5, xA6]
          refine wpAnyH_ready (rs := [6]) (by kernel_rfl) (by simp) ?_
          refine AllReadyH.cons rfl (fun K hK => ?_) AllReadyH.nil
          go_simp
          go_at_call 80; refine (KT.out V0 (hx.trans hHeld.2.2.2.2)).mono ?_; rintro e V1 ⟨rfl, hz⟩
          refine hK.out _ _ ?_ (fun hHeld => ?_)
          · exact ⟨Ext.cell hz hHeld.1, Ext.cell hz hHeld.2.1, Ext.cell hz hHeld.2.2.1, Ext.cell hz hHeld.2.2.2.1, hHeld.2.2.2.2.trans hz⟩
          clear hK K
          clear hz
          try simp only [Act.put, xA1, xA2, xA3, xA4, xA5, xA6]
          (refine tkH (i := 7) (v := ?_) rfl ?_ ?_; rotate_left 1; (focus (intro w hSw; (try dsimp only at hSw); go_simp; try (with_reducible rfl))))
          try simp only [Act.put, xA1, xA2, xA3, xA4, xA5, xA6]
          refine wpAnyH_done (by kernel_rfl) ?_ _
          have hz := hHeld.2.2.2.2
          obtain ⟨w4, hw4⟩ : ∃ W, V1 = W := ⟨_, rfl⟩
          rw [hw4] at hz ⊢
          clear hHeld hw4
          replace d0 := hz.cell d0
          replace d1 := hz.cell d1
          replace e0 := hz.cell e0
          replace e1 := hz.cell e1
          replace c1 := hz.cell c1
          replace q := q.ext hz
          replace qf := qf.ext hz
          replace hx := hx.trans hz
          have HU4 := Lib.hid (HU.out.ext hz)
          clear hz KT HU cg
          by_cases hT0 : T < 0
          · have h1 := HLO.out.1 hT0
            subst h1
            have hb1 : decide (T ≥ 0) = false := decide_eq_false (by omega)
            clear hT0
            clear HLO HTN HTT HLAB
            go_wp2_with fail
            go_loopw [12] (fun jv wr => ∃ j : Nat, j ≤ us.length ∧ jv = .int .i64 j ∧ Hid (∀ p (h : p < us.length), p < j → decide (41 ≤ lbOf P L us[p]) = true) ∧ Cls w.heap.size 25 #[.slice aa P.ts.length ca, .slice (some ⟨sb, so, none⟩) P.ss.length cb] wr ∧ Cls (w.heap.size + 1) 71 #[.slice (some ⟨gb, go, none⟩) g.length gc, .slice la P.ts.length lc] wr ∧ wr.cell? ⟨sb, so + i * 2 + 1, none⟩ = some (.slice ua us.length uc) ∧ Ext w wr ∧ Ext w4 wr) (fun j _ => us.length - (intOf j).toNat)
            case atStart => exact ⟨0, Nat.zero_le _, rfl, Lib.hid (fun i _ h => by omega), q, qf, c1, hx, Ext.refl _⟩
            case round =>
              clear d0 d1 e0 e1 q qf hx c1
              obtain ⟨j, hj, rfl, HJ, q, qf, c1, hx, hxy⟩ := hrel
              have d0 : wr.cell? ⟨w.heap.size, 0, none⟩ = some (.slice aa P.ts.length ca) := q.cell 0
              have d1 : wr.cell? ⟨w.heap.size, 1, none⟩ = some (.slice (some ⟨sb, so, none⟩) P.ss.length cb) := q.cell 1
              have e1 : wr.cell? ⟨w.heap.size + 1, 1, none⟩ = some (.slice la P.ts.length lc) := qf.cell 1
              by_cases hlj : j < us.length
              · obtain ⟨ub, uo, hue, cu⟩ := (HU4.out.ext hxy).get j hlj
                subst hue
                obtain ⟨t, htl, ht1, ht2, ht3⟩ := lbOf_at HOK.out HLL.out (u := us[j]) (HUT.out _ (List.getElem_mem hlj))
                obtain ⟨lb, lo, hle, cx⟩ := (HL.out.ext hx).get t htl
                subst hle
                have KT := HKT1.out us[j]
                rw [ht1] at KT
                rw [← ht3] at cx
                obtain ⟨u, huu⟩ : ∃ x, us[j] = x := ⟨_, rfl⟩
                rw [huu] at cu cx KT
                obtain ⟨x, hxx⟩ : ∃ x, lbOf P L u = x := ⟨_, rfl⟩
                rw [hxx] at cx
                have HXX : Hid (lbOf P L us[j] = x) := Lib.hid (by rw [huu]; exact hxx)
                have HKT := Lib.hid KT
                have hji : (j : Int) < us.length := by omega
                have hti : (t : Int) < P.ts.length := by omega
                clear ht1 ht3 KT huu hxx
                go_upto_region 23 with fail
                refine wp_region_held_drew (S := fun W' => W'.cell? ⟨w.heap.size, 0, none⟩ = some (.slice aa P.ts.length ca) ∧ W'.cell? ⟨w.heap.size, 1, none⟩ = some (.slice (some ⟨sb, so, none⟩) P.ss.length cb) ∧ W'.cell? ⟨w.heap.size + 1, 1, none⟩ = some (.slice (some ⟨lb, lo, none⟩) P.ts.length lc) ∧ W'.cell? ⟨sb, so + i * 2 + 1, none⟩ = some (.slice (some ⟨ub, uo, none⟩) us.length uc) ∧ W'.cell? ⟨ub, uo + j, none⟩ = some (.int .i64 u) ∧ W'.cell? ⟨lb, lo + t, none⟩ = some (.int .i64 x) ∧ Ext wr W') (by kernel_rfl) ?_ (fun hHeld => ?_)
                · exact ⟨d0, d1, e1, c1, cu, cx, Ext.drew (Ext.refl _)⟩
                obtain ⟨V0, hV0⟩ : ∃ V, World.drew wr = V := ⟨_, rfl⟩
                rw [hV0] at hHeld ⊢
                clear hV0
                (refine tkH (i := 0) (v := ?_) rfl ?_ ?_; rotate_left 1; (focus (intro w hSw; (try dsimp only at hSw); go_simp; try (with_reducible rfl))))
                try simp only [Act.put, xA1, xA2, xA4, xA5, xA6]
                (refine tkH (i := 1) (v := ?_) rfl ?_ ?_; rotate_left 1; (focus (intro w hSw; (try dsimp only at hSw); go_simp; try (with_reducible rfl))))
                try simp only [Act.put, xA1, xA2, xA3, xA4, xA5, xA6]
                (refine tkH (i := 2) (v := ?_) rfl ?_ ?_; rotate_left 1; (focus (intro w hSw; (try dsimp only at hSw); go_simp; try (with_reducible rfl))))
                try simp only [Act.put, xA1, xA2, xA3, xA4, xA5, xA6]
                (refine tkH (i := 3) (v := ?_) rfl ?_ ?_; rotate_left 1; (focus (intro w hSw; (try dsimp only at hSw); go_simp; try (with_reducible rfl))))
                try simp only [Act.put, xA1, xA2, xA3, xA4, xA5, xA6]
                (refine tkH (i := 4) (v := ?_) rfl ?_ ?_; rotate_left 1; (focus (intro w hSw; (try dsimp only at hSw); go_simp; try (with_reducible rfl))))
                try simp only [Act.put, xA1, xA2, xA3, xA4, xA5, xA6]
                (refine tkH (i := 5) (v := ?_) rfl ?_ ?_; rotate_left 1; (focus (intro w hSw; (try dsimp only at hSw); go_simp; try (with_reducible rfl))))
                try simp only [Act.put, xA1, xA2, xA3, xA4, xA5, xA6]
                (refine tkH (i := 6) (v := ?_) rfl ?_ ?_; rotate_left 1; (focus (intro w hSw; (try dsimp only at hSw); go_simp; try (with_reducible rfl))))
                try simp only [Act.put, xA1, xA2, xA3, xA4, xA5, xA6]
                (refine tkH (i := 7) (v := ?_) rfl ?_ ?_; rotate_left 1; (focus (intro w hSw; (try dsimp only at hSw); go_simp; try (with_reducible rfl))))
                try simp only [Act.put, xA1, xA2, xA3, xA4, xA5, xA6]
                (refine tkH (i := 8) (v := ?_) rfl ?_ ?_; rotate_left 1; (focus (intro w hSw; (try dsimp only at hSw); go_simp; try (with_reducible rfl))))
                try simp only [Act.put, xA1, xA2, xA3, xA4, xA5, xA6]
                (refine tkH (i := 9) (v := ?_) rfl ?_ ?_; rotate_left 1; (focus (intro w hSw; (try dsimp only at hSw); go_simp; try (with_reducible rfl))))
                try simp only [Act.put, xA1, xA2, xA3, xA4, xA5, xA6]
                (refine tkH (i := 10) (v := ?_) rfl ?_ ?_; rotate_left 1; (focus (intro w hSw; (try dsimp only at hSw); go_simp; try (with_reducible rfl))))
                try simp only [Act.put, xA1, xA2, xA3, xA4, xA5, xA6]
                (refine tkH (i := 11) (v := ?_) rfl ?_ ?_; rotate_left 1; (focus (intro w hSw; (try dsimp only at hSw); go_simp; try (with_reducible rfl))))
                try simp only [Act.put, xA1, xA2, xA3, xA4, xA5, xA6]
                (refine tkH (i := 15) (v := ?_) rfl ?_ ?_; rotate_left 1; (focus (intro w hSw; (try dsimp only at hSw); go_simp; try (with_reducible rfl))))
                try simp only [Act.put, xA1, xA2, xA3, xA4, xA5, xA6]
                refine wpAnyH_ready (rs := [12]) (by kernel_rfl) (by simp) ?_
                refine AllReadyH.cons rfl (fun K hK => ?_) AllReadyH.nil
                go_simp
                go_at_call 80; refine (HKT.out V0 (hx.trans hHeld.2.2.2.2.2.2)).mono ?_; rintro e V1 ⟨rfl, hz⟩
                refine hK.out _ _ ?_ (fun hHeld => ?_)
                · exact ⟨Ext.cell hz hHeld.1, Ext.cell hz hHeld.2.1, Ext.cell hz hHeld.2.2.1, Ext.cell hz hHeld.2.2.2.1, Ext.cell hz hHeld.2.2.2.2.1, Ext.cell hz hHeld.2.2.2.2.2.1, hHeld.2.2.2.2.2.2.trans hz⟩
                clear hK K
                clear hz
                try simp only [Act.put, xA1, xA2, xA3, xA4, xA5, xA6]
                (refine tkH (i := 13) (v := ?_) rfl ?_ ?_; rotate_left 1; (focus (intro w hSw; (try dsimp only at hSw); go_simp; try (with_reducible rfl))))
                try simp only [Act.put, xA1, xA2, xA3, xA4, xA5, xA6]
                (refine tkH (i := 14) (v := ?_) rfl ?_ ?_; rotate_left 1; (focus (intro w hSw; (try dsimp only at hSw); go_simp; try (with_reducible rfl))))
                try simp only [Act.put, xA1, xA2, xA3, xA4, xA5, xA6]
                (refine tkH (i := 16) (v := ?_) rfl ?_ ?_; rotate_left 1; (focus (intro w hSw; (try dsimp only at hSw); go_simp; try (with_reducible rfl))))
                try simp only [Act.put, xA1, xA2, xA3, xA4, xA5, xA6]
                refine wpAnyH_done (by kernel_rfl) ?_ _
                have hzz := hHeld.2.2.2.2.2.2
                have hc1 := hHeld.2.2.2.1
                by_cases hlx : x < 41
                · have hq : loI P g L i = false := by
                    rw [HP.out, List.all_eq_false]
                    exact ⟨_, List.getElem_mem hlj, by rw [HXX.out]; simpa using hlx⟩
                  have HE := Lib.hid (Hf2.out (by simp) i hig hq)
                  have hb1 : decide (x < 41) = true := decide_eq_true hlx
                  have hb5 : x < 41 := hlx
                  clear hq hlx
                  go_wp2
                  go_ret
                  exact ⟨by rw [HE.out]; rfl, hx.trans hzz⟩
                · have hb1 : decide (x < 41) = false := decide_eq_false hlx
                  have hb5 : ¬ x < 41 := hlx
                  have HN : Hid (∀ p (h : p < us.length), p < j + 1 → decide (41 ≤ lbOf P L us[p]) = true) := Lib.hid (fun p h hp => by
                    by_cases e : p = j
                    · subst e; rw [HXX.out]; exact decide_eq_true (by omega)
                    · exact HJ.out p h (by omega))
                  clear hlx
                  go_wp2_with fail
                  go_roundw
                  case rel => exact ⟨j + 1, by omega, by go_num, HN, q.ext hzz, qf.ext hzz, hc1, hx.trans hzz, hxy.trans hzz⟩
                  case measure => simp [intOf]; omega
              · have hq : loI P g L i = true := by
                  rw [HP.out, List.all_eq_true]
                  intro u hu
                  obtain ⟨p, hp, rfl⟩ := List.getElem_of_mem hu
                  exact HJ.out p hp (by omega)
                have HQ := Lib.hid hq
                have hji : ¬ ((j : Int) < us.length) := by omega
                clear hq
                go_wp2_with fail
                go_roundw
                case rel => exact ⟨i + 1, by omega, by go_num, Lib.hid (fun p hp => by
                  by_cases e : p = i
                  · rw [e]; exact HQ.out
                  · exact HI.out p (by omega)), q, qf, hx⟩
                case measure => simp [intOf]; omega
          · have h1 := HLO.out.2 hT0
            have hex : ∃ t ∈ P.ts, t.id = id := Classical.byContradiction (fun h => hT0 (HTN.out.2 (fun t ht e => h ⟨t, ht, e⟩)))
            obtain ⟨t, htl, ht1, ht2, ht3⟩ := HLAB.out hex
            rw [← h1] at ht3
            rw [HTT.out] at ht1
            subst ht1
            obtain ⟨lb, lo, hle, cx⟩ := (HL.out.ext hx).get t htl
            subst hle
            rw [← ht3] at cx
            have hb1 : decide ((t : Int) ≥ 0) = true := decide_eq_true (by omega)
            have hti : (t : Int) < P.ts.length := by omega
            clear ht3 hex h1 hT0
            clear HLO HTN HTT HLAB
            go_wp2_with fail
            go_loopw [12] (fun jv wr => ∃ j : Nat, j ≤ us.length ∧ jv = .int .i64 j ∧ Hid (∀ p (h : p < us.length), p < j → decide (low ≤ lbOf P L us[p]) = true) ∧ Cls w.heap.size 25 #[.slice aa P.ts.length ca, .slice (some ⟨sb, so, none⟩) P.ss.length cb] wr ∧ Cls (w.heap.size + 1) 71 #[.slice (some ⟨gb, go, none⟩) g.length gc, .slice (some ⟨lb, lo, none⟩) P.ts.length lc] wr ∧ wr.cell? ⟨sb, so + i * 2 + 1, none⟩ = some (.slice ua us.length uc) ∧ Ext w wr ∧ Ext w4 wr) (fun j _ => us.length - (intOf j).toNat)
            case atStart => exact ⟨0, Nat.zero_le _, rfl, Lib.hid (fun i _ h => by omega), q, qf, c1, hx, Ext.refl _⟩
            case round =>
              clear d0 d1 e0 e1 q qf hx c1
              obtain ⟨j, hj, rfl, HJ, q, qf, c1, hx, hxy⟩ := hrel
              have d0 : wr.cell? ⟨w.heap.size, 0, none⟩ = some (.slice aa P.ts.length ca) := q.cell 0
              have d1 : wr.cell? ⟨w.heap.size, 1, none⟩ = some (.slice (some ⟨sb, so, none⟩) P.ss.length cb) := q.cell 1
              have e1 : wr.cell? ⟨w.heap.size + 1, 1, none⟩ = some (.slice (some ⟨lb, lo, none⟩) P.ts.length lc) := qf.cell 1
              by_cases hlj : j < us.length
              · obtain ⟨ub, uo, hue, cu⟩ := (HU4.out.ext hxy).get j hlj
                subst hue
                obtain ⟨t2, htl2, ht1, _, ht3⟩ := lbOf_at HOK.out HLL.out (u := us[j]) (HUT.out _ (List.getElem_mem hlj))
                obtain ⟨lb2, lo2, hle, cx⟩ := (HL.out.ext hx).get t2 htl2
                simp only [Option.some.injEq, Addr.mk.injEq, and_true] at hle
                obtain ⟨rfl, rfl⟩ := hle
                have KT := HKT1.out us[j]
                rw [ht1] at KT
                rw [← ht3] at cx
                obtain ⟨u, huu⟩ : ∃ x, us[j] = x := ⟨_, rfl⟩
                rw [huu] at cu cx KT
                obtain ⟨x, hxx⟩ : ∃ x, lbOf P L u = x := ⟨_, rfl⟩
                rw [hxx] at cx
                have HXX : Hid (lbOf P L us[j] = x) := Lib.hid (by rw [huu]; exact hxx)
                have HKT := Lib.hid KT
                have hji : (j : Int) < us.length := by omega
                have hti2 : (t2 : Int) < P.ts.length := by omega
                clear ht1 ht3 KT huu hxx
                go_upto_region 23 with fail
                refine wp_region_held_drew (S := fun W' => W'.cell? ⟨w.heap.size, 0, none⟩ = some (.slice aa P.ts.length ca) ∧ W'.cell? ⟨w.heap.size, 1, none⟩ = some (.slice (some ⟨sb, so, none⟩) P.ss.length cb) ∧ W'.cell? ⟨w.heap.size + 1, 1, none⟩ = some (.slice (some ⟨lb, lo, none⟩) P.ts.length lc) ∧ W'.cell? ⟨sb, so + i * 2 + 1, none⟩ = some (.slice (some ⟨ub, uo, none⟩) us.length uc) ∧ W'.cell? ⟨ub, uo + j, none⟩ = some (.int .i64 u) ∧ W'.cell? ⟨lb, lo + t2, none⟩ = some (.int .i64 x) ∧ Ext wr W') (by kernel_rfl) ?_ (fun hHeld => ?_)
                · exact ⟨d0, d1, e1, c1, cu, cx, Ext.drew (Ext.refl _)⟩
                obtain ⟨V0, hV0⟩ : ∃ V, World.drew wr = V := ⟨_, rfl⟩
                rw [hV0] at hHeld ⊢
                clear hV0
                (refine tkH (i := 0) (v := ?_) rfl ?_ ?_; rotate_left 1; (focus (intro w hSw; (try dsimp only at hSw); go_simp; try (with_reducible rfl))))
                try simp only [Act.put, xA1, xA2, xA4, xA5, xA6]
                (refine tkH (i := 1) (v := ?_) rfl ?_ ?_; rotate_left 1; (focus (intro w hSw; (try dsimp only at hSw); go_simp; try (with_reducible rfl))))
                try simp only [Act.put, xA1, xA2, xA3, xA4, xA5, xA6]
                (refine tkH (i := 2) (v := ?_) rfl ?_ ?_; rotate_left 1; (focus (intro w hSw; (try dsimp only at hSw); go_simp; try (with_reducible rfl))))
                try simp only [Act.put, xA1, xA2, xA3, xA4, xA5, xA6]
                (refine tkH (i := 3) (v := ?_) rfl ?_ ?_; rotate_left 1; (focus (intro w hSw; (try dsimp only at hSw); go_simp; try (with_reducible rfl))))
                try simp only [Act.put, xA1, xA2, xA3, xA4, xA5, xA6]
                (refine tkH (i := 4) (v := ?_) rfl ?_ ?_; rotate_left 1; (focus (intro w hSw; (try dsimp only at hSw); go_simp; try (with_reducible rfl))))
                try simp only [Act.put, xA1, xA2, xA3, xA4, xA5, xA6]
                (refine tkH (i := 5) (v := ?_) rfl ?_ ?_; rotate_left 1; (focus (intro w hSw; (try dsimp only at hSw); go_simp; try (with_reducible rfl))))
                try simp only [Act.put, xA1, xA2, xA3, xA4, xA5, xA6]
                (refine tkH (i := 6) (v := ?_) rfl ?_ ?_; rotate_left 1; (focus (intro w hSw; (try dsimp only at hSw); go_simp; try (with_reducible rfl))))
                try simp only [Act.put, xA1, xA2, xA3, xA4, xA5, xA6]
                (refine tkH (i := 7) (v := ?_) rfl ?_ ?_; rotate_left 1; (focus (intro w hSw; (try dsimp only at hSw); go_simp; try (with_reducible rfl))))
                try simp only [Act.put, xA1, xA2, xA3, xA4, xA5, xA6]
                (refine tkH (i := 8) (v := ?_) rfl ?_ ?_; rotate_left 1; (focus (intro w hSw; (try dsimp only at hSw); go_simp; try (with_reducible rfl))))
                try simp only [Act.put, xA1, xA2, xA3, xA4, xA5, xA6]
                (refine tkH (i := 9) (v := ?_) rfl ?_ ?_; rotate_left 1; (focus (intro w hSw; (try dsimp only at hSw); go_simp; try (with_reducible rfl))))
                try simp only [Act.put, xA1, xA2, xA3, xA4, xA5, xA6]
                (refine tkH (i := 10) (v := ?_) rfl ?_ ?_; rotate_left 1; (focus (intro w hSw; (try dsimp only at hSw); go_simp; try (with_reducible rfl))))
                try simp only [Act.put, xA1, xA2, xA3, xA4, xA5, xA6]
                (refine tkH (i := 11) (v := ?_) rfl ?_ ?_; rotate_left 1; (focus (intro w hSw; (try dsimp only at hSw); go_simp; try (with_reducible rfl))))
                try simp only [Act.put, xA1, xA2, xA3, xA4, xA5, xA6]
                (refine tkH (i := 15) (v := ?_) rfl ?_ ?_; rotate_left 1; (focus (intro w hSw; (try dsimp only at hSw); go_simp; try (with_reducible rfl))))
                try simp only [Act.put, xA1, xA2, xA3, xA4, xA5, xA6]
                refine wpAnyH_ready (rs := [12]) (by kernel_rfl) (by simp) ?_
                refine AllReadyH.cons rfl (fun K hK => ?_) AllReadyH.nil
                go_simp
                go_at_call 80; refine (HKT.out V0 (hx.trans hHeld.2.2.2.2.2.2)).mono ?_; rintro e V1 ⟨rfl, hz⟩
                refine hK.out _ _ ?_ (fun hHeld => ?_)
                · exact ⟨Ext.cell hz hHeld.1, Ext.cell hz hHeld.2.1, Ext.cell hz hHeld.2.2.1, Ext.cell hz hHeld.2.2.2.1, Ext.cell hz hHeld.2.2.2.2.1, Ext.cell hz hHeld.2.2.2.2.2.1, hHeld.2.2.2.2.2.2.trans hz⟩
                clear hK K
                clear hz
                try simp only [Act.put, xA1, xA2, xA3, xA4, xA5, xA6]
                (refine tkH (i := 13) (v := ?_) rfl ?_ ?_; rotate_left 1; (focus (intro w hSw; (try dsimp only at hSw); go_simp; try (with_reducible rfl))))
                try simp only [Act.put, xA1, xA2, xA3, xA4, xA5, xA6]
                (refine tkH (i := 14) (v := ?_) rfl ?_ ?_; rotate_left 1; (focus (intro w hSw; (try dsimp only at hSw); go_simp; try (with_reducible rfl))))
                try simp only [Act.put, xA1, xA2, xA3, xA4, xA5, xA6]
                (refine tkH (i := 16) (v := ?_) rfl ?_ ?_; rotate_left 1; (focus (intro w hSw; (try dsimp only at hSw); go_simp; try (with_reducible rfl))))
                try simp only [Act.put, xA1, xA2, xA3, xA4, xA5, xA6]
                refine wpAnyH_done (by kernel_rfl) ?_ _
                have hzz := hHeld.2.2.2.2.2.2
                have hc1 := hHeld.2.2.2.1
                by_cases hlx : x < low
                · have hq : loI P g L i = false := by
                    rw [HP.out, List.all_eq_false]
                    exact ⟨_, List.getElem_mem hlj, by rw [HXX.out]; simpa using hlx⟩
                  have HE := Lib.hid (Hf2.out (by simp) i hig hq)
                  have hb1 : decide (x < low) = true := decide_eq_true hlx
                  have hb5 : x < low := hlx
                  clear hq hlx
                  go_wp2
                  go_ret
                  exact ⟨by rw [HE.out]; rfl, hx.trans hzz⟩
                · have hb1 : decide (x < low) = false := decide_eq_false hlx
                  have hb5 : ¬ x < low := hlx
                  have HN : Hid (∀ p (h : p < us.length), p < j + 1 → decide (low ≤ lbOf P L us[p]) = true) := Lib.hid (fun p h hp => by
                    by_cases e : p = j
                    · subst e; rw [HXX.out]; exact decide_eq_true (by omega)
                    · exact HJ.out p h (by omega))
                  clear hlx
                  go_wp2_with fail
                  go_roundw
                  case rel => exact ⟨j + 1, by omega, by go_num, HN, q.ext hzz, qf.ext hzz, hc1, hx.trans hzz, hxy.trans hzz⟩
                  case measure => simp [intOf]; omega
              · have hq : loI P g L i = true := by
                  rw [HP.out, List.all_eq_true]
                  intro u hu
                  obtain ⟨p, hp, rfl⟩ := List.getElem_of_mem hu
                  exact HJ.out p hp (by omega)
                have HQ := Lib.hid hq
                have hji : ¬ ((j : Int) < us.length) := by omega
                clear hq
                go_wp2_with fail
                go_roundw
                case rel => exact ⟨i + 1, by omega, by go_num, Lib.hid (fun p hp => by
                  by_cases e : p = i
                  · rw [e]; exact HQ.out
                  · exact HI.out p (by omega)), q, qf, hx⟩
                case measure => simp [intOf]; omega
        · have HE := Lib.hid (Hft.out (by simp) (by simp) HLL.out HK1.out (fun p hp => HI.out p (by rw [HGL.out] at hp; omega)))
          have hii : ¬ ((i : Int) < P.ss.length) := by omega
          go_wp2_with fail
          go_ret
          exact ⟨by rw [HE.out]; rfl, hx⟩
end Go.Proofs.Ytiofdfjcaklmcaa
