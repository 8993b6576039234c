/- The specification's counts. -/
import Derived.Test.YtiofdfjcaklmcaaFRf1
import Derived.Test.YtiofdfjcaklmcaaFCo
namespace Go.Proofs.Ytiofdfjcaklmcaa
open Go.RowKit Go.Shelf

theorem cnt_none {P : Po} {g : List Int} {k : Nat} (hk : k < g.length) (h : tnI P g[k] < 0) : cntT P (g.take (k + 1)) = cntT P (g.take k) := by
  unfold cntT
  refine List.map_congr_left (fun t ht => ?_)
  rw [cntI_take hk, if_neg (fun e => tnI_none.1 h t ht e.symm)]; omega
theorem cnt_some {P : Po} (hok : OkP P) {g : List Int} {k i : Nat} (hk : k < g.length) (hi : i < P.ts.length) (h : P.ts[i].id = g[k]) : cntT P (g.take (k + 1)) = (cntT P (g.take k)).set i (cntI (g.take k) g[k] + 1) := by
  refine List.ext_getElem (by rw [List.length_set, cntT_len, cntT_len]) (fun j h1 h2 => ?_)
  have hj : j < P.ts.length := by rw [cntT_len] at h1; exact h1
  rw [cntT_get P _ j h1 hj, cntI_take hk, List.getElem_set]
  by_cases e : i = j
  · subst e
    rw [if_pos h.symm, if_pos rfl, h]
  · have e1 : ¬ g[k] = P.ts[j].id := fun e2 => by
      have h3 := tn_at hok hj
      have h4 := tn_at hok hi
      rw [h, e2, h3] at h4
      exact e (by omega)
    rw [if_neg e1, if_neg e, Int.add_zero, cntT_get P _ j (by rw [cntT_len]; exact hj) hj]
theorem cntT_zero (P : Po) (g : List Int) : cntT P (g.take 0) = List.replicate P.ts.length 0 := by
  unfold cntT
  rw [List.take_zero, List.eq_replicate_iff]
  exact ⟨by simp, fun b hb => by obtain ⟨t, _, rfl⟩ := List.mem_map.1 hb; rfl⟩
set_option maxRecDepth 100000 in
set_option maxHeartbeats 8000000 in
theorem refCounts0_any (a b v : Value) (P : Po) (g : List Int) (hok : OkP P) (hgl : g.length ≤ 100000) (w : World) (hT : PoAt w a b P) (hg : IntsAt w v g) :
    Calls Try.prog 93 #[.agg #[a, b], v] w fun e w' => ∃ u, e = .returned u ∧ RowI w.heap.size u (cntT P g) w' ∧ Ext w w' := by
  have hlt := hok.lt
  have KT := fun id W (x : Ext w W) => refTn_any a b P id W (hT.ext x) (by omega)
  obtain ⟨aa, ca, rfl, hla⟩ := hT.t.len
  obtain ⟨gA, gc, rfl, hgl2⟩ := hg.len
  have HKT0 := Lib.hid KT
  clear KT
  go_enter Try.func93, Try.ntmps93
  go_wp2_with (refine wpList_makeI rfl _ _ rfl .i64 .i64 P.ts.length rfl rfl (by omega) ?_; intro W8 hz8 hx8)
  obtain ⟨q, hx, hk0⟩ := alloc1 hx8
  have hsz : (w.alloc (.cells #[.slice aa P.ts.length ca, b] 25)).heap.size = w.heap.size + 1 := by simp
  rw [hsz] at hz8
  clear hsz
  obtain ⟨RB, hRB⟩ : ∃ N, w.heap.size + 1 = N := ⟨_, rfl⟩
  rw [hRB] at hz8 ⊢
  clear hx8 hk0
  go_wp2_with fail
  go_loopw [6] (fun i wr => ∃ k : Nat, k ≤ g.length ∧ i = .int .i64 k ∧ Hid (RowI RB (.slice (some ⟨RB, 0, none⟩) P.ts.length P.ts.length) (cntT P (g.take k)) wr) ∧ Cls w.heap.size 25 #[.slice aa P.ts.length ca, b] wr ∧ Ext w wr) (fun i _ => g.length - (intOf i).toNat)
  case atStart => exact ⟨0, Nat.zero_le _, rfl, Lib.hid (by rw [cntT_zero]; exact hz8), q, hx⟩
  case round =>
    clear hz8 q hx
    obtain ⟨k, hk, rfl, HR, q, hx⟩ := hrel
    by_cases hlk : k < g.length
    · obtain ⟨gb, go, hge, cg⟩ := (hg.ext hx).get k hlk
      subst hge
      have h1 := fun h => cnt_none (P := P) hlk h
      have h2 := fun i hi h => cnt_some hok (i := i) hlk hi h
      have h3 := fun (h : ∃ t ∈ P.ts, t.id = g[k]) => most_at hok h
      have hcn := cntI_take_le g k g[k]
      obtain ⟨x, hxx⟩ : ∃ x, g[k] = x := ⟨_, rfl⟩
      rw [hxx] at cg h1 h3 hcn
      simp only [hxx] at h2
      have HKT := Lib.hid (HKT0.out x)
      have d0 : wr.cell? ⟨w.heap.size, 0, none⟩ = some (.slice aa P.ts.length ca) := q.cell 0
      have d1 : wr.cell? ⟨w.heap.size, 1, none⟩ = some b := q.cell 1
      have hki : (k : Int) < g.length := by omega
      have H1 := Lib.hid h1
      have H2 := Lib.hid h2
      have H3 := Lib.hid h3
      have HCN := Lib.hid hcn
      clear h1 h2 h3 hxx hcn
      go_upto_region 5 with fail
      refine wp_region_held_drew (S := fun W' => W'.cell? ⟨w.heap.size, 0, none⟩ = some (.slice aa P.ts.length ca) ∧ W'.cell? ⟨w.heap.size, 1, none⟩ = some b ∧ W'.cell? ⟨gb, go + k, none⟩ = some (.int .i64 x) ∧ Ext wr W') (by kernel_rfl) ?_ (fun hHeld => ?_)
      · exact ⟨d0, d1, cg, Ext.drew (Ext.refl _)⟩
      obtain ⟨V0, hV0⟩ : ∃ V, World.drew wr = V := ⟨_, rfl⟩
      rw [hV0] at hHeld ⊢
      clear hV0
      (refine tkH (i := 0) (v := ?_) rfl ?_ ?_; rotate_left 1; (focus (intro w hSw; (try dsimp only at hSw); go_simp; try (with_reducible rfl))))
      try simp only [Act.put, xA1, xA2, xA4, xA5, xA6]
      (refine tkH (i := 1) (v := ?_) rfl ?_ ?_; rotate_left 1; (focus (intro w hSw; (try dsimp only at hSw); go_simp; try (with_reducible rfl))))
      try simp only [Act.put, xA1, xA2, xA3, xA4, xA5, xA6]
      (refine tkH (i := 2) (v := ?_) rfl ?_ ?_; rotate_left 1; (focus (intro w hSw; (try dsimp only at hSw); go_simp; try (with_reducible rfl))))
      try simp only [Act.put, xA1, xA2, xA3, xA4, xA5, xA6]
      (refine tkH (i := 3) (v := ?_) rfl ?_ ?_; rotate_left 1; (focus (intro w hSw; (try dsimp only at hSw); go_simp; try (with_reducible rfl))))
      try simp only [Act.put, xA1, xA2, xA3, xA4, xA5, xA6]
      (refine tkH (i := 4) (v := ?_) rfl ?_ ?_; rotate_left 1; (focus (intro w hSw; (try dsimp only at hSw); go_simp; try (with_reducible rfl))))
      try simp only [Act.put, xA1, xA2, xA3, xA4, xA5, xA6]
      refine wpAnyH_ready (rs := [5]) (by kernel_rfl) (by simp) ?_
      refine AllReadyH.cons rfl (fun K hK => ?_) AllReadyH.nil
      go_simp
      go_at_call 80; refine (HKT.out V0 (hx.trans hHeld.2.2.2)).mono ?_; rintro e V1 ⟨rfl, hz⟩
      refine hK.out _ _ ?_ (fun hHeld => ?_)
      · exact ⟨Ext.cell hz hHeld.1, Ext.cell hz hHeld.2.1, Ext.cell hz hHeld.2.2.1, hHeld.2.2.2.trans hz⟩
      clear hK K
      clear hz
      try simp only [Act.put, xA1, xA2, xA3, xA4, xA5, xA6]
      (refine tkH (i := 6) (v := ?_) rfl ?_ ?_; rotate_left 1; (focus (intro w hSw; (try dsimp only at hSw); go_simp; try (with_reducible rfl))))
      try simp only [Act.put, xA1, xA2, xA3, xA4, xA5, xA6]
      refine wpAnyH_done (by kernel_rfl) ?_ _
      have hzz := hHeld.2.2.2
      obtain ⟨T, hTT⟩ : ∃ T, tnI P x = T := ⟨_, rfl⟩
      by_cases hT0 : T < 0
      · have hs := H1.out (by rw [hTT]; exact hT0)
        have HS := Lib.hid hs
        have hT1 : ¬ (T ≥ 0) := by omega
        try rw [hTT]
        clear hs hTT
        go_wp2_with fail
        go_roundw
        case rel => exact ⟨k + 1, by omega, by go_num, Lib.hid (by rw [HS.out]; exact rowI_ext HR.out hzz), q.ext hzz, hx.trans hzz⟩
        case measure => simp [intOf]; omega
      · obtain ⟨i, hi, hti, _, hid⟩ := H3.out (Classical.byContradiction (fun h => hT0 (by rw [← hTT]; exact tnI_none.2 (fun t ht e => h ⟨t, ht, e⟩))))
        have hs := H2.out i hi hid
        obtain rfl : T = i := by rw [← hTT]; exact hti
        have hcl : i < (cntT P (g.take k)).length := by rw [cntT_len]; exact hi
        have hR := rowI_ext HR.out hzz
        have fr := rowI_frz hR hcl
        rw [cntT_get P _ i hcl hi, hid] at fr
        obtain ⟨n, hn⟩ : ∃ n, cntI (g.take k) x = n := ⟨_, rfl⟩
        have hcn := HCN.out
        rw [hn] at fr hs hcn
        have k0 := fr.1
        have k1 := fr.2
        have HS := Lib.hid hs
        have HRR := Lib.hid hR
        have q2 := q.ext hzz
        have hx2 := hx.trans hzz
        have hT1 : (i : Int) ≥ 0 := by omega
        have hin : (i : Int) < P.ts.length := by omega
        try rw [hTT]
        clear hs hTT hti hid hR fr hn hcl hT0
        go_wp2_with fail
        go_roundw
        case rel =>
          refine ⟨k + 1, by omega, by go_num, Lib.hid ?_, q2.other (by omega) _ _, hx2.setCell (by simp; omega) _⟩
          rw [HS.out]
          have hR2 := HRR.out
          have e1 := cntT_len P (g.take k)
          rw [← e1] at hR2 ⊢
          exact rowI_set hR2 _
        case measure => simp [intOf]; omega
    · obtain rfl : k = g.length := by omega
      have ho := HR.out
      rw [List.take_length] at ho
      have HO := Lib.hid ho
      clear ho
      go_wp2_with fail
      go_ret
      exact ⟨_, rfl, rowI_base HO.out (by omega), hx⟩
end Go.Proofs.Ytiofdfjcaklmcaa
