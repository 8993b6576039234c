/- The specification's Check. -/
import Derived.Test.YtiofdfjcaklmcaaFRf1
import Derived.Test.YtiofdfjcaklmcaaFRcP
import Derived.Test.YtiofdfjcaklmcaaFBs
namespace Go.Proofs.Ytiofdfjcaklmcaa
open Go.RowKit Go.Shelf

set_option maxRecDepth 100000 in
set_option maxHeartbeats 8000000 in
theorem refCheck_any (a b : Value) (P : Po) (w : World) (hT : PoAt w a b P) (hus : ∀ s ∈ P.ss, s.us.length ≤ 1000000) :
    Calls Try.prog 51 #[.agg #[a, b]] w fun e w' => e = .returned (.int .i64 (chkE P)) ∧ Ext w w' := by
  obtain ⟨aa, ca, rfl, hla⟩ := hT.t.len
  obtain ⟨ab, cb, rfl, hlb⟩ := hT.s.len
  have hE : chkE P = if 12 < P.ts.length ∨ 40 < P.ss.length then 2 else if teE P 0 P.ts = 0 then slE P 0 P.ss else teE P 0 P.ts := rfl
  have hpos := fun h => te_pos (P := P) (l := P.ts) (i := 0) h
  obtain ⟨E, hEE⟩ : ∃ E, chkE P = E := ⟨_, rfl⟩
  rw [hEE] at hE ⊢
  have HE := Lib.hid hE
  clear hE hEE
  go_enter Try.func51, Try.ntmps51
  by_cases h12 : 12 < P.ts.length
  · have h2 := HE.out
    rw [if_pos (.inl h12)] at h2
    have HE2 := Lib.hid h2
    have hb : ((P.ts.length : Int) > 12) := by omega
    clear h2
    go_wp2
    go_ret
    exact ⟨by rw [HE2.out]; rfl, (by repeat (first | exact Ext.refl _ | assumption | refine Ext.alloc ?_ _ | refine Ext.drew ?_ | refine Ext.drewN _ ?_ | refine Ext.trans ?_ (by assumption)))⟩
  by_cases h40 : 40 < P.ss.length
  · have h2 := HE.out
    rw [if_pos (.inr h40)] at h2
    have HE2 := Lib.hid h2
    have hb : ((P.ss.length : Int) > 40) := by omega
    have hb2 : ¬ ((P.ts.length : Int) > 12) := by omega
    clear h2
    go_wp2
    go_ret
    exact ⟨by rw [HE2.out]; rfl, (by repeat (first | exact Ext.refl _ | assumption | refine Ext.alloc ?_ _ | refine Ext.drew ?_ | refine Ext.drewN _ ?_ | refine Ext.trans ?_ (by assumption)))⟩
  have h2 := HE.out
  rw [if_neg (by omega)] at h2
  obtain ⟨T, hT0⟩ : ∃ T, teE P 0 P.ts = T := ⟨_, rfl⟩
  obtain ⟨S, hS0⟩ : ∃ T, slE P 0 P.ss = T := ⟨_, rfl⟩
  rw [hT0] at hpos
  rw [hT0, hS0] at h2
  have H2 := Lib.hid h2
  have HT := Lib.hid hT0
  have HS := Lib.hid hS0
  have HPOS := Lib.hid hpos
  clear h2 hT0 hS0 HE hpos
  have q0 := Cls.new w 25 #[.slice aa P.ts.length ca, .slice ab P.ss.length cb]
  have hx0 : Ext w (w.alloc (.cells #[.slice aa P.ts.length ca, .slice ab P.ss.length cb] 25)) := (by repeat (first | exact Ext.refl _ | assumption | refine Ext.alloc ?_ _ | refine Ext.drew ?_ | refine Ext.drewN _ ?_ | refine Ext.trans ?_ (by assumption)))
  have hb1 : ¬ ((P.ts.length : Int) > 12) := by omega
  have hb2 : ¬ ((P.ss.length : Int) > 40) := by omega
  go_wp2_with fail
  go_loopw [3] (fun i wr => ∃ k : Nat, k ≤ P.ts.length ∧ i = .int .i64 k ∧ Hid (teE P k (P.ts.drop k) = T) ∧ Cls w.heap.size 25 #[.slice aa P.ts.length ca, .slice ab P.ss.length cb] wr ∧ Ext w wr) (fun i _ => P.ts.length - (intOf i).toNat)
  case atStart => exact ⟨0, Nat.zero_le _, rfl, HT, q0, hx0⟩
  case round =>
    clear q0 hx0 HT
    obtain ⟨k, hk, rfl, HK, q, hx⟩ := hrel
    have d0 : wr.cell? ⟨w.heap.size, 0, none⟩ = some (.slice aa P.ts.length ca) := q.cell 0
    have d1 : wr.cell? ⟨w.heap.size, 1, none⟩ = some (.slice ab P.ss.length cb) := q.cell 1
    by_cases hlt : k < P.ts.length
    · obtain ⟨bb, oo, rfl, c0, c1⟩ := (hT.t.ext hx).get k hlt
      have hs := te_step hlt
      rw [HK.out] at hs
      have hki : (k : Int) < P.ts.length := by omega
      obtain ⟨x, hxx⟩ : ∃ x, P.ts[k].id = x := ⟨_, rfl⟩
      obtain ⟨y, hyy⟩ : ∃ y, P.ts[k].most = y := ⟨_, rfl⟩
      obtain ⟨V, hV⟩ : ∃ V, teE P (k + 1) (P.ts.drop (k + 1)) = V := ⟨_, rfl⟩
      rw [hxx] at c0
      rw [hyy] at c1
      rw [hxx, hyy, hV] at hs
      have HV := Lib.hid hV
      have HX := Lib.hid hs
      clear hs hV hxx hyy HK
      cases i1 : inB x 1 1099511627776
      · have hs := HX.out
        rw [i1, if_neg (by simp)] at hs
        have HT := Lib.hid hs
        clear hs
        go_wp2_with fail
        refine (refInB_any x 1 1099511627776 _).mono ?_
        rw [i1]
        rintro e w2 ⟨rfl, hz⟩
        clear i1 HX
        go_wp2
        go_ret
        have hh := H2.out
        rw [if_neg (by rw [HT.out]; decide)] at hh
        exact ⟨by rw [hh, HT.out]; rfl, hx.trans hz⟩
      go_wp2_with fail
      refine (refInB_any x 1 1099511627776 _).mono ?_
      rw [i1]
      rintro e w2 ⟨rfl, hz⟩
      replace d0 := hz.cell d0
      replace d1 := hz.cell d1
      replace c0 := hz.cell c0
      replace c1 := hz.cell c1
      have q2 := q.ext hz
      have hx2 := hx.trans hz
      clear hz q hx
      cases i2 : inB y 0 40
      · have hs := HX.out
        rw [i1, i2, if_neg (by simp)] at hs
        have HT := Lib.hid hs
        clear hs
        go_wp2_with fail
        refine (refInB_any y 0 40 _).mono ?_
        rw [i2]
        rintro e w3 ⟨rfl, hz⟩
        clear i1 i2 HX
        go_wp2
        go_ret
        have hh := H2.out
        rw [if_neg (by rw [HT.out]; decide)] at hh
        exact ⟨by rw [hh, HT.out]; rfl, hx2.trans hz⟩
      have hs := HX.out
      rw [i1, i2, if_pos (by simp)] at hs
      have HT := Lib.hid hs
      clear hs HX
      go_wp2_with fail
      refine (refInB_any y 0 40 _).mono ?_
      rw [i2]
      rintro e w3 ⟨rfl, hz⟩
      replace d0 := hz.cell d0
      replace d1 := hz.cell d1
      replace c0 := hz.cell c0
      have q3 := q2.ext hz
      have hx3 := hx2.trans hz
      clear i1 i2 hz q2 hx2 c1
      have hs := HT.out
      have KX := fun W (h : Ext w W) => refTn_any _ _ P x W (hT.ext h) (by omega)
      obtain ⟨n, hn⟩ : ∃ n, tnI P x = n := ⟨_, rfl⟩
      rw [hn] at hs
      simp only [hn] at KX
      have HKX := Lib.hid KX
      have HS1 := Lib.hid hs
      clear hn hs KX HT
      go_upto_region 8 with fail
      refine wp_region_held_drew (S := fun W' => W'.cell? ⟨w.heap.size, 0, none⟩ = some (.slice (some ⟨bb, oo, none⟩) P.ts.length ca) ∧ W'.cell? ⟨w.heap.size, 1, none⟩ = some (.slice ab P.ss.length cb) ∧ W'.cell? ⟨bb, oo + k * 2, none⟩ = some (.int .i64 x) ∧ Ext w3 W') (by kernel_rfl) ?_ (fun hHeld => ?_)
      · exact ⟨d0, d1, c0, Ext.drew (Ext.refl _)⟩
      obtain ⟨V0, hV0⟩ : ∃ V, World.drew w3 = V := ⟨_, rfl⟩
      rw [hV0] at hHeld ⊢
      clear hV0
      (refine tkH (i := 0) (v := ?_) rfl ?_ ?_; rotate_left 1; (focus (intro w hSw; (try dsimp only at hSw); go_simp; try (with_reducible rfl))))
      try simp only [Act.put, xA1, xA2, xA4, xA5, xA6]
      (refine tkH (i := 1) (v := ?_) rfl ?_ ?_; rotate_left 1; (focus (intro w hSw; (try dsimp only at hSw); go_simp; try (with_reducible rfl))))
      try simp only [Act.put, xA1, xA2, xA3, xA4, xA5, xA6]
      (refine tkH (i := 2) (v := ?_) rfl ?_ ?_; rotate_left 1; (focus (intro w hSw; (try dsimp only at hSw); go_simp; try (with_reducible rfl))))
      try simp only [Act.put, xA1, xA2, xA3, xA4, xA5, xA6]
      (refine tkH (i := 3) (v := ?_) rfl ?_ ?_; rotate_left 1; (focus (intro w hSw; (try dsimp only at hSw); go_simp; try (with_reducible rfl))))
      try simp only [Act.put, xA1, xA2, xA3, xA4, xA5, xA6]
      (refine tkH (i := 4) (v := ?_) rfl ?_ ?_; rotate_left 1; (focus (intro w hSw; (try dsimp only at hSw); go_simp; try (with_reducible rfl))))
      try simp only [Act.put, xA1, xA2, xA3, xA4, xA5, xA6]
      (refine tkH (i := 5) (v := ?_) rfl ?_ ?_; rotate_left 1; (focus (intro w hSw; (try dsimp only at hSw); go_simp; try (with_reducible rfl))))
      try simp only [Act.put, xA1, xA2, xA3, xA4, xA5, xA6]
      (refine tkH (i := 6) (v := ?_) rfl ?_ ?_; rotate_left 1; (focus (intro w hSw; (try dsimp only at hSw); go_simp; try (with_reducible rfl))))
      try simp only [Act.put, xA1, xA2, xA3, xA4, xA5, xA6]
      (refine tkH (i := 8) (v := ?_) rfl ?_ ?_; rotate_left 1; (focus (intro w hSw; (try dsimp only at hSw); go_simp; try (with_reducible rfl))))
      try simp only [Act.put, xA1, xA2, xA3, xA4, xA5, xA6]
      refine wpAnyH_ready (rs := [7]) (by kernel_rfl) (by simp) ?_
      refine AllReadyH.cons rfl (fun K hK => ?_) AllReadyH.nil
      go_simp
      go_at_call 80; refine (HKX.out V0 (hx3.trans hHeld.2.2.2)).mono ?_; rintro e V1 ⟨rfl, hz⟩
      refine hK.out _ _ ?_ (fun hHeld => ?_)
      · exact ⟨Ext.cell hz hHeld.1, Ext.cell hz hHeld.2.1, Ext.cell hz hHeld.2.2.1, hHeld.2.2.2.trans hz⟩
      clear hK K
      clear hz
      try simp only [Act.put, xA1, xA2, xA3, xA4, xA5, xA6]
      (refine tkH (i := 9) (v := ?_) rfl ?_ ?_; rotate_left 1; (focus (intro w hSw; (try dsimp only at hSw); go_simp; try (with_reducible rfl))))
      try simp only [Act.put, xA1, xA2, xA3, xA4, xA5, xA6]
      refine wpAnyH_done (by kernel_rfl) ?_ _
      have hzz := hHeld.2.2.2
      have hs := HS1.out
      by_cases hc : n < k
      · rw [if_pos hc] at hs
        have HT := Lib.hid hs
        clear hs
        go_wp2
        go_ret
        have hh := H2.out
        rw [if_neg (by rw [HT.out]; decide)] at hh
        exact ⟨by rw [hh, HT.out]; rfl, hx3.trans hzz⟩
      · rw [if_neg hc] at hs
        have HT := Lib.hid hs
        clear hs
        go_wp2_with fail
        go_roundw
        case rel => exact ⟨k + 1, by omega, by go_num, Lib.hid (by rw [HV.out]; exact HT.out.symm), q3.ext hzz, hx3.trans hzz⟩
        case measure => simp [intOf]; omega
    · obtain rfl : k = P.ts.length := by omega
      have hT0 := HK.out
      rw [List.drop_length] at hT0
      have hh := H2.out
      rw [if_pos (show T = 0 from hT0.symm)] at hh
      have hps := HPOS.out (show T = 0 from hT0.symm)
      have HH := Lib.hid hh
      have HP2 := Lib.hid hps
      clear hT0 hh hps HK hk hlt H2 HPOS
      go_wp2_with fail
      go_loopw [4] (fun i wr => ∃ k : Nat, k ≤ P.ss.length ∧ i = .int .i64 k ∧ Hid (slE P k (P.ss.drop k) = S) ∧ Cls w.heap.size 25 #[.slice aa P.ts.length ca, .slice ab P.ss.length cb] wr ∧ Ext w wr) (fun i _ => P.ss.length - (intOf i).toNat)
      case atStart => exact ⟨0, Nat.zero_le _, rfl, HS, q, hx⟩
      case round =>
        clear d0 d1 q hx HS
        obtain ⟨k, hk, rfl, HK, q, hx⟩ := hrel
        have d0 : wr.cell? ⟨w.heap.size, 0, none⟩ = some (.slice aa P.ts.length ca) := q.cell 0
        have d1 : wr.cell? ⟨w.heap.size, 1, none⟩ = some (.slice ab P.ss.length cb) := q.cell 1
        by_cases hlt : k < P.ss.length
        · obtain ⟨bb, oo, ua, uc, rfl, c0, c1, hul, hU⟩ := (hT.s.ext hx).get k hlt
          have hs := sl_step hlt
          rw [HK.out] at hs
          have hki : (k : Int) < P.ss.length := by omega
          have hum := hus _ (List.getElem_mem hlt)
          have hur := usR_is (P := P) HP2.out P.ss[k].us
          rw [← hur] at hs
          obtain ⟨x, hxx⟩ : ∃ x, P.ss[k].id = x := ⟨_, rfl⟩
          obtain ⟨us, hyy⟩ : ∃ y, P.ss[k].us = y := ⟨_, rfl⟩
          obtain ⟨V, hV⟩ : ∃ V, slE P (k + 1) (P.ss.drop (k + 1)) = V := ⟨_, rfl⟩
          rw [hxx] at c0
          rw [hyy] at c1 hU hul hum
          rw [hxx, hyy, hV] at hs
          have HV := Lib.hid hV
          have HX := Lib.hid hs
          obtain ⟨Y, hY⟩ : ∃ Y, wr.alloc (.cells #[.int .i64 x, .slice ua us.length uc] 48) = Y := ⟨_, rfl⟩
          obtain ⟨PB, hPB⟩ : ∃ PB, wr.heap.size = PB := ⟨_, rfl⟩
          have hxY : Ext wr Y := by rw [← hY]; exact (by repeat (first | exact Ext.refl _ | assumption | refine Ext.alloc ?_ _ | refine Ext.drew ?_ | refine Ext.drewN _ ?_ | refine Ext.trans ?_ (by assumption)))
          have hbY : Cls PB 48 #[.int .i64 x, .slice ua us.length uc] Y := by rw [← hY]; exact Cls.newAt _ _ _ hPB.symm
          have qY := q.ext hxY
          have hx' := hx.trans hxY
          have hUY := hU.ext hxY
          have e0 : Y.cell? ⟨PB, 0, none⟩ = some (.int .i64 x) := hbY.cell 0
          clear hs hV hxx hyy HK hxY hU hur q hx
          cases i1 : inB x 1 1099511627776
          · have hs := HX.out
            rw [i1, if_neg (by simp)] at hs
            have HT := Lib.hid hs
            clear hs
            go_wp2_with fail
            refine (refInB_any x 1 1099511627776 _).mono ?_
            rw [i1]
            rintro e w2 ⟨rfl, hz⟩
            clear i1 HX
            go_wp2
            go_ret
            exact ⟨by rw [HH.out, HT.out]; rfl, hx'.trans hz⟩
          have hs := HX.out
          rw [i1, if_pos rfl] at hs
          have HX2 := Lib.hid hs
          clear hs HX
          go_wp2_with fail
          refine (refInB_any x 1 1099511627776 _).mono ?_
          rw [i1]
          rintro e w2 ⟨rfl, hz⟩
          replace qY := qY.ext hz
          replace hx' := hx'.trans hz
          replace hUY := hUY.ext hz
          replace hbY := hbY.ext hz
          obtain ⟨U, hU0⟩ : ∃ U, usR P 0 0 us = U := ⟨_, rfl⟩
          have hs := HX2.out
          rw [hU0] at hs
          have HX := Lib.hid hs
          have HU := Lib.hid hU0
          clear hs HX2 hU0 i1 hz hY hPB e0 d0 d1 c0 c1
          go_wp2_with fail
          go_loopw [6] (fun i w1 => ∃ (j : Nat) (last : Int), j ≤ us.length ∧ i = .int .i64 j ∧ Hid (0 < j → ∃ h : j - 1 < us.length, us[j - 1] = last) ∧ Hid (usR P j last (us.drop j) = U) ∧ Cls w.heap.size 25 #[.slice aa P.ts.length ca, .slice (some ⟨bb, oo, none⟩) P.ss.length cb] w1 ∧ Cls PB 48 #[.int .i64 x, .slice ua us.length uc] w1 ∧ Ext w w1 ∧ Ext w2 w1) (fun i _ => us.length - (intOf i).toNat)
          case atStart => exact ⟨0, 0, Nat.zero_le _, rfl, Lib.hid (fun h => by omega), HU, qY, hbY, hx', Ext.refl _⟩
          case round =>
            clear HU hbY qY hx'
            obtain ⟨j, last, hj, rfl, HLA, HJ, q, qs, hx, hxy⟩ := hrel
            have d0 : wr.cell? ⟨w.heap.size, 0, none⟩ = some (.slice aa P.ts.length ca) := q.cell 0
            have d1 : wr.cell? ⟨w.heap.size, 1, none⟩ = some (.slice (some ⟨bb, oo, none⟩) P.ss.length cb) := q.cell 1
            have e0 : wr.cell? ⟨PB, 0, none⟩ = some (.int .i64 x) := qs.cell 0
            have e1 : wr.cell? ⟨PB, 1, none⟩ = some (.slice ua us.length uc) := qs.cell 1
            by_cases hlu : j < us.length
            · obtain ⟨b3, o3, hue, c3⟩ := (hUY.ext hxy).get j hlu
              subst hue
              have hs := usR_step (P := P) (last := last) hlu
              rw [HJ.out] at hs
              have hji : (j : Int) < us.length := by omega
              have HLA2 : Hid (0 < j → wr.cell? ⟨b3, o3 + (j - 1), none⟩ = some (.int .i64 last)) := Lib.hid (fun h0 => by
                obtain ⟨h1, h2⟩ := HLA.out h0
                obtain ⟨b4, o4, he4, c4⟩ := (hUY.ext hxy).get (j - 1) h1
                simp only [Option.some.injEq, Addr.mk.injEq, and_true] at he4
                obtain ⟨rfl, rfl⟩ := he4
                rw [h2] at c4; exact c4)
              obtain ⟨u, huu⟩ : ∃ u, us[j] = u := ⟨_, rfl⟩
              have HLN : Hid (0 < j + 1 → ∃ h : j + 1 - 1 < us.length, us[j + 1 - 1] = u) := Lib.hid (fun _ => ⟨by omega, by simpa using huu⟩)
              rw [huu] at hs c3
              obtain ⟨V2, hV2⟩ : ∃ V, usR P (j + 1) u (us.drop (j + 1)) = V := ⟨_, rfl⟩
              rw [hV2] at hs
              have HV2 := Lib.hid hV2
              have KX := fun W (h : Ext w W) => refTn_any _ _ P u W (hT.ext h) (by omega)
              obtain ⟨n, hn⟩ : ∃ n, tnI P u = n := ⟨_, rfl⟩
              rw [hn] at hs
              simp only [hn] at KX
              have HKX := Lib.hid KX
              clear hn KX huu hV2
              by_cases hc : n < 0
              · rw [decide_eq_true hc, Bool.true_or, Bool.true_or] at hs
                have HS2 := Lib.hid hs
                have hcb := decide_eq_true hc
                clear hs
                go_upto_region 19 with fail
                refine wp_region_held_drew (S := fun W' => W'.cell? ⟨w.heap.size, 0, none⟩ = some (.slice aa P.ts.length ca) ∧ W'.cell? ⟨w.heap.size, 1, none⟩ = some (.slice (some ⟨bb, oo, none⟩) P.ss.length cb) ∧ W'.cell? ⟨PB, 1, none⟩ = some (.slice (some ⟨b3, o3, none⟩) us.length uc) ∧ W'.cell? ⟨b3, o3 + j, none⟩ = some (.int .i64 u) ∧ Ext wr W') (by kernel_rfl) ?_ (fun hHeld => ?_)
                · exact ⟨d0, d1, e1, c3, Ext.drew (Ext.refl _)⟩
                obtain ⟨V0, hV0⟩ : ∃ V, World.drew wr = V := ⟨_, rfl⟩
                rw [hV0] at hHeld ⊢
                clear hV0
                (refine tkH (i := 0) (v := ?_) rfl ?_ ?_; rotate_left 1; (focus (intro w hSw; (try dsimp only at hSw); go_simp; try (with_reducible rfl))))
                try simp only [Act.put, xA1, xA2, xA4, xA5, xA6]
                (refine tkH (i := 1) (v := ?_) rfl ?_ ?_; rotate_left 1; (focus (intro w hSw; (try dsimp only at hSw); go_simp; try (with_reducible rfl))))
                try simp only [Act.put, xA1, xA2, xA3, xA4, xA5, xA6]
                (refine tkH (i := 2) (v := ?_) rfl ?_ ?_; rotate_left 1; (focus (intro w hSw; (try dsimp only at hSw); go_simp; try (with_reducible rfl))))
                try simp only [Act.put, xA1, xA2, xA3, xA4, xA5, xA6]
                (refine tkH (i := 3) (v := ?_) rfl ?_ ?_; rotate_left 1; (focus (intro w hSw; (try dsimp only at hSw); go_simp; try (with_reducible rfl))))
                try simp only [Act.put, xA1, xA2, xA3, xA4, xA5, xA6]
                (refine tkH (i := 4) (v := ?_) rfl ?_ ?_; rotate_left 1; (focus (intro w hSw; (try dsimp only at hSw); go_simp; try (with_reducible rfl))))
                try simp only [Act.put, xA1, xA2, xA3, xA4, xA5, xA6]
                (refine tkH (i := 5) (v := ?_) rfl ?_ ?_; rotate_left 1; (focus (intro w hSw; (try dsimp only at hSw); go_simp; try (with_reducible rfl))))
                try simp only [Act.put, xA1, xA2, xA3, xA4, xA5, xA6]
                refine wpAnyH_ready (rs := [6]) (by kernel_rfl) (by simp) ?_
                refine AllReadyH.cons rfl (fun K hK => ?_) AllReadyH.nil
                go_simp
                go_at_call 80; refine (HKX.out V0 (hx.trans hHeld.2.2.2.2)).mono ?_; rintro e V1 ⟨rfl, hz⟩
                refine hK.out _ _ ?_ (fun hHeld => ?_)
                · exact ⟨Ext.cell hz hHeld.1, Ext.cell hz hHeld.2.1, Ext.cell hz hHeld.2.2.1, Ext.cell hz hHeld.2.2.2.1, hHeld.2.2.2.2.trans hz⟩
                clear hK K
                clear hz
                try simp only [Act.put, xA1, xA2, xA3, xA4, xA5, xA6]
                (refine tkH (i := 7) (v := ?_) rfl ?_ ?_; rotate_left 1; (focus (intro w hSw; (try dsimp only at hSw); go_simp; try (with_reducible rfl))))
                try simp only [Act.put, xA1, xA2, xA3, xA4, xA5, xA6]
                (refine tkH (i := 8) (v := ?_) rfl ?_ ?_; rotate_left 1; (focus (intro w hSw; (try dsimp only at hSw); go_simp; try (with_reducible rfl))))
                try simp only [Act.put, xA1, xA2, xA3, xA4, xA5, xA6]
                (refine skH (i := 9) rfl ?_)
                try simp only [Act.put, xA1, xA2, xA3, xA4, xA5, xA6]
                (refine skH (i := 10) rfl ?_)
                try simp only [Act.put, xA1, xA2, xA3, xA4, xA5, xA6]
                (refine skH (i := 11) rfl ?_)
                try simp only [Act.put, xA1, xA2, xA3, xA4, xA5, xA6]
                (refine skH (i := 12) rfl ?_)
                try simp only [Act.put, xA1, xA2, xA3, xA4, xA5, xA6]
                (refine skH (i := 13) rfl ?_)
                try simp only [Act.put, xA1, xA2, xA3, xA4, xA5, xA6]
                (refine skH (i := 14) rfl ?_)
                try simp only [Act.put, xA1, xA2, xA3, xA4, xA5, xA6]
                (refine skH (i := 15) rfl ?_)
                try simp only [Act.put, xA1, xA2, xA3, xA4, xA5, xA6]
                (refine skH (i := 16) rfl ?_)
                try simp only [Act.put, xA1, xA2, xA3, xA4, xA5, xA6]
                (refine skH (i := 17) rfl ?_)
                try simp only [Act.put, xA1, xA2, xA3, xA4, xA5, xA6]
                (refine skH (i := 18) rfl ?_)
                try simp only [Act.put, xA1, xA2, xA3, xA4, xA5, xA6]
                (refine skH (i := 19) rfl ?_)
                try simp only [Act.put, xA1, xA2, xA3, xA4, xA5, xA6]
                (refine skH (i := 20) rfl ?_)
                try simp only [Act.put, xA1, xA2, xA3, xA4, xA5, xA6]
                (refine skH (i := 21) rfl ?_)
                try simp only [Act.put, xA1, xA2, xA3, xA4, xA5, xA6]
                (refine skH (i := 22) rfl ?_)
                try simp only [Act.put, xA1, xA2, xA3, xA4, xA5, xA6]
                (refine skH (i := 23) rfl ?_)
                try simp only [Act.put, xA1, xA2, xA3, xA4, xA5, xA6]
                (refine skH (i := 24) rfl ?_)
                try simp only [Act.put, xA1, xA2, xA3, xA4, xA5, xA6]
                (refine tkH (i := 25) (v := ?_) rfl ?_ ?_; rotate_left 1; (focus (intro w hSw; (try dsimp only at hSw); go_simp; try (with_reducible rfl))))
                try simp only [Act.put, xA1, xA2, xA3, xA4, xA5, xA6]
                refine wpAnyH_done (by kernel_rfl) ?_ _
                have hzz := hHeld.2.2.2.2
                go_wp2
                go_ret
                have hh := HX.out
                rw [HS2.out, if_pos rfl] at hh
                exact ⟨by rw [HH.out, hh]; rfl, hx.trans hzz⟩
              · rw [decide_eq_false hc, Bool.false_or] at hs
                have hcb : decide (n < 0) = false := decide_eq_false hc
                by_cases h0 : j = 0
                · rw [decide_eq_false (show ¬ 0 < j by omega), Bool.false_and, Bool.false_or] at hs
                  have HS2 := Lib.hid hs
                  have HJ0 := Lib.hid h0
                  clear hs
                  subst h0
                  rw [show ((0 : Nat) : Int) = 0 from rfl]
                  rw [Nat.add_zero] at c3
                  go_upto_region 19 with fail
                  refine wp_region_held_drew (S := fun W' => W'.cell? ⟨w.heap.size, 0, none⟩ = some (.slice aa P.ts.length ca) ∧ W'.cell? ⟨w.heap.size, 1, none⟩ = some (.slice (some ⟨bb, oo, none⟩) P.ss.length cb) ∧ W'.cell? ⟨PB, 1, none⟩ = some (.slice (some ⟨b3, o3, none⟩) us.length uc) ∧ W'.cell? ⟨b3, o3, none⟩ = some (.int .i64 u) ∧ Ext wr W') (by kernel_rfl) ?_ (fun hHeld => ?_)
                  · exact ⟨d0, d1, e1, c3, Ext.drew (Ext.refl _)⟩
                  obtain ⟨V0, hV0⟩ : ∃ V, World.drew wr = V := ⟨_, rfl⟩
                  rw [hV0] at hHeld ⊢
                  clear hV0
                  (refine tkH (i := 0) (v := ?_) rfl ?_ ?_; rotate_left 1; (focus (intro w hSw; (try dsimp only at hSw); go_simp; try (with_reducible rfl))))
                  try simp only [Act.put, xA1, xA2, xA4, xA5, xA6]
                  (refine tkH (i := 1) (v := ?_) rfl ?_ ?_; rotate_left 1; (focus (intro w hSw; (try dsimp only at hSw); go_simp; try (with_reducible rfl))))
                  try simp only [Act.put, xA1, xA2, xA3, xA4, xA5, xA6]
                  (refine tkH (i := 2) (v := ?_) rfl ?_ ?_; rotate_left 1; (focus (intro w hSw; (try dsimp only at hSw); go_simp; try (with_reducible rfl))))
                  try simp only [Act.put, xA1, xA2, xA3, xA4, xA5, xA6]
                  (refine tkH (i := 3) (v := ?_) rfl ?_ ?_; rotate_left 1; (focus (intro w hSw; (try dsimp only at hSw); go_simp; try (with_reducible rfl))))
                  try simp only [Act.put, xA1, xA2, xA3, xA4, xA5, xA6]
                  (refine tkH (i := 4) (v := ?_) rfl ?_ ?_; rotate_left 1; (focus (intro w hSw; (try dsimp only at hSw); go_simp; try (with_reducible rfl))))
                  try simp only [Act.put, xA1, xA2, xA3, xA4, xA5, xA6]
                  (refine tkH (i := 5) (v := ?_) rfl ?_ ?_; rotate_left 1; (focus (intro w hSw; (try dsimp only at hSw); go_simp; try (with_reducible rfl))))
                  try simp only [Act.put, xA1, xA2, xA3, xA4, xA5, xA6]
                  refine wpAnyH_ready (rs := [6]) (by kernel_rfl) (by simp) ?_
                  refine AllReadyH.cons rfl (fun K hK => ?_) AllReadyH.nil
                  go_simp
                  go_at_call 80; refine (HKX.out V0 (hx.trans hHeld.2.2.2.2)).mono ?_; rintro e V1 ⟨rfl, hz⟩
                  refine hK.out _ _ ?_ (fun hHeld => ?_)
                  · exact ⟨Ext.cell hz hHeld.1, Ext.cell hz hHeld.2.1, Ext.cell hz hHeld.2.2.1, Ext.cell hz hHeld.2.2.2.1, hHeld.2.2.2.2.trans hz⟩
                  clear hK K
                  clear hz
                  try simp only [Act.put, xA1, xA2, xA3, xA4, xA5, xA6]
                  (refine tkH (i := 7) (v := ?_) rfl ?_ ?_; rotate_left 1; (focus (intro w hSw; (try dsimp only at hSw); go_simp; try (with_reducible rfl))))
                  try simp only [Act.put, xA1, xA2, xA3, xA4, xA5, xA6]
                  (refine tkH (i := 8) (v := ?_) rfl ?_ ?_; rotate_left 1; (focus (intro w hSw; (try dsimp only at hSw); go_simp; try (with_reducible rfl))))
                  try simp only [Act.put, xA1, xA2, xA3, xA4, xA5, xA6]
                  (refine tkH (i := 9) (v := ?_) rfl ?_ ?_; rotate_left 1; (focus (intro w hSw; (try dsimp only at hSw); go_simp; try (with_reducible rfl))))
                  try simp only [Act.put, xA1, xA2, xA3, xA4, xA5, xA6]
                  (refine tkH (i := 10) (v := ?_) rfl ?_ ?_; rotate_left 1; (focus (intro w hSw; (try dsimp only at hSw); go_simp; try (with_reducible rfl))))
                  try simp only [Act.put, xA1, xA2, xA3, xA4, xA5, xA6]
                  (refine tkH (i := 11) (v := ?_) rfl ?_ ?_; rotate_left 1; (focus (intro w hSw; (try dsimp only at hSw); go_simp; try (with_reducible rfl))))
                  try simp only [Act.put, xA1, xA2, xA3, xA4, xA5, xA6]
                  (refine skH (i := 12) rfl ?_)
                  try simp only [Act.put, xA1, xA2, xA3, xA4, xA5, xA6]
                  (refine skH (i := 13) rfl ?_)
                  try simp only [Act.put, xA1, xA2, xA3, xA4, xA5, xA6]
                  (refine skH (i := 14) rfl ?_)
                  try simp only [Act.put, xA1, xA2, xA3, xA4, xA5, xA6]
                  (refine skH (i := 15) rfl ?_)
                  try simp only [Act.put, xA1, xA2, xA3, xA4, xA5, xA6]
                  (refine skH (i := 16) rfl ?_)
                  try simp only [Act.put, xA1, xA2, xA3, xA4, xA5, xA6]
                  (refine skH (i := 17) rfl ?_)
                  try simp only [Act.put, xA1, xA2, xA3, xA4, xA5, xA6]
                  (refine skH (i := 18) rfl ?_)
                  try simp only [Act.put, xA1, xA2, xA3, xA4, xA5, xA6]
                  (refine skH (i := 19) rfl ?_)
                  try simp only [Act.put, xA1, xA2, xA3, xA4, xA5, xA6]
                  (refine skH (i := 20) rfl ?_)
                  try simp only [Act.put, xA1, xA2, xA3, xA4, xA5, xA6]
                  (refine skH (i := 21) rfl ?_)
                  try simp only [Act.put, xA1, xA2, xA3, xA4, xA5, xA6]
                  (refine skH (i := 22) rfl ?_)
                  try simp only [Act.put, xA1, xA2, xA3, xA4, xA5, xA6]
                  (refine skH (i := 23) rfl ?_)
                  try simp only [Act.put, xA1, xA2, xA3, xA4, xA5, xA6]
                  (refine tkH (i := 24) (v := ?_) rfl ?_ ?_; rotate_left 1; (focus (intro w hSw; (try dsimp only at hSw); go_simp; try (with_reducible rfl))))
                  try simp only [Act.put, xA1, xA2, xA3, xA4, xA5, xA6]
                  (refine tkH (i := 25) (v := ?_) rfl ?_ ?_; rotate_left 1; (focus (intro w hSw; (try dsimp only at hSw); go_simp; try (with_reducible rfl))))
                  try simp only [Act.put, xA1, xA2, xA3, xA4, xA5, xA6]
                  refine wpAnyH_done (by kernel_rfl) ?_ _
                  have hzz := hHeld.2.2.2.2
                  go_wp2_with fail
                  go_roundw
                  case rel => exact ⟨0 + 1, u, by omega, by go_num, HLN, Lib.hid (by rw [HV2.out]; exact HS2.out.symm), q.ext hzz, qs.ext hzz, hx.trans hzz, hxy.trans hzz⟩
                  case measure => simp [intOf]; omega
                · obtain ⟨i, rfl⟩ : ∃ i, j = i + 1 := ⟨j - 1, by omega⟩
                  rw [decide_eq_true (show 0 < i + 1 by omega), Bool.true_and] at hs
                  have c4 := HLA2.out (by omega)
                  rw [show i + 1 - 1 = i by omega] at c4
                  obtain ⟨J, hJ⟩ : ∃ J, i + 1 = J := ⟨_, rfl⟩
                  try rw [hJ] at c3
                  try rw [hJ] at hlu
                  try rw [hJ] at hji
                  try rw [hJ] at HLN
                  try rw [hJ]
                  have hJ0 : decide ((J : Int) > 0) = true := decide_eq_true (by omega)
                  have hJ1 : decide (0 < J) = true := decide_eq_true (by omega)
                  have hJ2 : decide (0 < (J : Int)) = true := decide_eq_true (by omega)
                  have hJ3 : 0 < J := by omega
                  have hJi : IntKind.i64.wrap ((J : Int) - 1) = (i : Int) := by rw [IntWalk.i64_in _ (by omega)]; omega
                  have hii : (i : Int) < us.length := by omega
                  have HS2 := Lib.hid hs
                  have HJJ := Lib.hid hJ
                  have HV3 : Hid (usR P (J + 1) u (us.drop (J + 1)) = V2) := Lib.hid (by rw [← hJ]; exact HV2.out)
                  clear hs hJ HV2 HLA2 HLA HJ
                  go_upto_region 19 with fail
                  refine wp_region_held_drew (S := fun W' => W'.cell? ⟨w.heap.size, 0, none⟩ = some (.slice aa P.ts.length ca) ∧ W'.cell? ⟨w.heap.size, 1, none⟩ = some (.slice (some ⟨bb, oo, none⟩) P.ss.length cb) ∧ W'.cell? ⟨PB, 1, none⟩ = some (.slice (some ⟨b3, o3, none⟩) us.length uc) ∧ W'.cell? ⟨b3, o3 + J, none⟩ = some (.int .i64 u) ∧ W'.cell? ⟨b3, o3 + i, none⟩ = some (.int .i64 last) ∧ Ext wr W') (by kernel_rfl) ?_ (fun hHeld => ?_)
                  · exact ⟨d0, d1, e1, c3, c4, Ext.drew (Ext.refl _)⟩
                  obtain ⟨V0, hV0⟩ : ∃ V, World.drew wr = V := ⟨_, rfl⟩
                  rw [hV0] at hHeld ⊢
                  clear hV0
                  (refine tkH (i := 0) (v := ?_) rfl ?_ ?_; rotate_left 1; (focus (intro w hSw; (try dsimp only at hSw); go_simp; try (with_reducible rfl))))
                  try simp only [Act.put, xA1, xA2, xA4, xA5, xA6]
                  (refine tkH (i := 1) (v := ?_) rfl ?_ ?_; rotate_left 1; (focus (intro w hSw; (try dsimp only at hSw); go_simp; try (with_reducible rfl))))
                  try simp only [Act.put, xA1, xA2, xA3, xA4, xA5, xA6]
                  (refine tkH (i := 2) (v := ?_) rfl ?_ ?_; rotate_left 1; (focus (intro w hSw; (try dsimp only at hSw); go_simp; try (with_reducible rfl))))
                  try simp only [Act.put, xA1, xA2, xA3, xA4, xA5, xA6]
                  (refine tkH (i := 3) (v := ?_) rfl ?_ ?_; rotate_left 1; (focus (intro w hSw; (try dsimp only at hSw); go_simp; try (with_reducible rfl))))
                  try simp only [Act.put, xA1, xA2, xA3, xA4, xA5, xA6]
                  (refine tkH (i := 4) (v := ?_) rfl ?_ ?_; rotate_left 1; (focus (intro w hSw; (try dsimp only at hSw); go_simp; try (with_reducible rfl))))
                  try simp only [Act.put, xA1, xA2, xA3, xA4, xA5, xA6]
                  (refine tkH (i := 5) (v := ?_) rfl ?_ ?_; rotate_left 1; (focus (intro w hSw; (try dsimp only at hSw); go_simp; try (with_reducible rfl))))
                  try simp only [Act.put, xA1, xA2, xA3, xA4, xA5, xA6]
                  refine wpAnyH_ready (rs := [6]) (by kernel_rfl) (by simp) ?_
                  refine AllReadyH.cons rfl (fun K hK => ?_) AllReadyH.nil
                  go_simp
                  go_at_call 80; refine (HKX.out V0 (hx.trans hHeld.2.2.2.2.2)).mono ?_; rintro e V1 ⟨rfl, hz⟩
                  refine hK.out _ _ ?_ (fun hHeld => ?_)
                  · exact ⟨Ext.cell hz hHeld.1, Ext.cell hz hHeld.2.1, Ext.cell hz hHeld.2.2.1, Ext.cell hz hHeld.2.2.2.1, Ext.cell hz hHeld.2.2.2.2.1, hHeld.2.2.2.2.2.trans hz⟩
                  clear hK K
                  clear hz
                  try simp only [Act.put, xA1, xA2, xA3, xA4, xA5, xA6]
                  (refine tkH (i := 7) (v := ?_) rfl ?_ ?_; rotate_left 1; (focus (intro w hSw; (try dsimp only at hSw); go_simp; try (with_reducible rfl))))
                  try simp only [Act.put, xA1, xA2, xA3, xA4, xA5, xA6]
                  (refine tkH (i := 8) (v := ?_) rfl ?_ ?_; rotate_left 1; (focus (intro w hSw; (try dsimp only at hSw); go_simp; try (with_reducible rfl))))
                  try simp only [Act.put, xA1, xA2, xA3, xA4, xA5, xA6]
                  (refine tkH (i := 9) (v := ?_) rfl ?_ ?_; rotate_left 1; (focus (intro w hSw; (try dsimp only at hSw); go_simp; try (with_reducible rfl))))
                  try simp only [Act.put, xA1, xA2, xA3, xA4, xA5, xA6]
                  (refine tkH (i := 10) (v := ?_) rfl ?_ ?_; rotate_left 1; (focus (intro w hSw; (try dsimp only at hSw); go_simp; try (with_reducible rfl))))
                  try simp only [Act.put, xA1, xA2, xA3, xA4, xA5, xA6]
                  (refine tkH (i := 11) (v := ?_) rfl ?_ ?_; rotate_left 1; (focus (intro w hSw; (try dsimp only at hSw); go_simp; try (with_reducible rfl))))
                  try simp only [Act.put, xA1, xA2, xA3, xA4, xA5, xA6]
                  (refine tkH (i := 12) (v := ?_) rfl ?_ ?_; rotate_left 1; (focus (intro w hSw; (try dsimp only at hSw); go_simp; try (with_reducible rfl))))
                  try simp only [Act.put, xA1, xA2, xA3, xA4, xA5, xA6]
                  (refine tkH (i := 13) (v := ?_) rfl ?_ ?_; rotate_left 1; (focus (intro w hSw; (try dsimp only at hSw); go_simp; try (with_reducible rfl))))
                  try simp only [Act.put, xA1, xA2, xA3, xA4, xA5, xA6]
                  (refine tkH (i := 14) (v := ?_) rfl ?_ ?_; rotate_left 1; (focus (intro w hSw; (try dsimp only at hSw); go_simp; try (with_reducible rfl))))
                  try simp only [Act.put, xA1, xA2, xA3, xA4, xA5, xA6]
                  (refine tkH (i := 15) (v := ?_) rfl ?_ ?_; rotate_left 1; (focus (intro w hSw; (try dsimp only at hSw); go_simp; try (with_reducible rfl))))
                  try simp only [Act.put, xA1, xA2, xA3, xA4, xA5, xA6]
                  (refine tkH (i := 16) (v := ?_) rfl ?_ ?_; rotate_left 1; (focus (intro w hSw; (try dsimp only at hSw); go_simp; try (with_reducible rfl))))
                  try simp only [Act.put, xA1, xA2, xA3, xA4, xA5, xA6]
                  (refine tkH (i := 17) (v := ?_) rfl ?_ ?_; rotate_left 1; (focus (intro w hSw; (try dsimp only at hSw); go_simp; try (with_reducible rfl))))
                  try simp only [Act.put, xA1, xA2, xA3, xA4, xA5, xA6]
                  (refine tkH (i := 18) (v := ?_) rfl ?_ ?_; rotate_left 1; (focus (intro w hSw; (try dsimp only at hSw); go_simp; try (with_reducible rfl))))
                  try simp only [Act.put, xA1, xA2, xA3, xA4, xA5, xA6]
                  (refine tkH (i := 19) (v := ?_) rfl ?_ ?_; rotate_left 1; (focus (intro w hSw; (try dsimp only at hSw); go_simp; try (with_reducible rfl))))
                  try simp only [Act.put, xA1, xA2, xA3, xA4, xA5, xA6]
                  (refine tkH (i := 20) (v := ?_) rfl ?_ ?_; rotate_left 1; (focus (intro w hSw; (try dsimp only at hSw); go_simp; try (with_reducible rfl))))
                  try simp only [Act.put, xA1, xA2, xA3, xA4, xA5, xA6]
                  (refine tkH (i := 21) (v := ?_) rfl ?_ ?_; rotate_left 1; (focus (intro w hSw; (try dsimp only at hSw); go_simp; try (with_reducible rfl))))
                  try simp only [Act.put, xA1, xA2, xA3, xA4, xA5, xA6]
                  (refine tkH (i := 22) (v := ?_) rfl ?_ ?_; rotate_left 1; (focus (intro w hSw; (try dsimp only at hSw); go_simp; try (with_reducible rfl))))
                  try simp only [Act.put, xA1, xA2, xA3, xA4, xA5, xA6]
                  (refine tkH (i := 23) (v := ?_) rfl ?_ ?_; rotate_left 1; (focus (intro w hSw; (try dsimp only at hSw); go_simp; try (with_reducible rfl))))
                  try simp only [Act.put, xA1, xA2, xA3, xA4, xA5, xA6]
                  (refine tkH (i := 24) (v := ?_) rfl ?_ ?_; rotate_left 1; (focus (intro w hSw; (try dsimp only at hSw); go_simp; try (with_reducible rfl))))
                  try simp only [Act.put, xA1, xA2, xA3, xA4, xA5, xA6]
                  (refine tkH (i := 25) (v := ?_) rfl ?_ ?_; rotate_left 1; (focus (intro w hSw; (try dsimp only at hSw); go_simp; try (with_reducible rfl))))
                  try simp only [Act.put, xA1, xA2, xA3, xA4, xA5, xA6]
                  refine wpAnyH_done (by kernel_rfl) ?_ _
                  have hzz := hHeld.2.2.2.2.2
                  have hs := HS2.out
                  by_cases hle : u ≤ last
                  · rw [decide_eq_true hle, Bool.true_or] at hs
                    have HS3 := Lib.hid hs
                    have hcd := decide_eq_true hle
                    clear hs
                    go_wp2
                    go_ret
                    have hh := HX.out
                    rw [HS3.out, if_pos rfl] at hh
                    exact ⟨by rw [HH.out, hh]; rfl, hx.trans hzz⟩
                  · rw [decide_eq_false hle, Bool.false_or] at hs
                    have HS3 := Lib.hid hs
                    have hcd := decide_eq_false hle
                    clear hs
                    go_wp2_with fail
                    go_roundw
                    case rel => exact ⟨J + 1, u, by omega, by go_num, HLN, Lib.hid (by rw [HV3.out]; exact HS3.out.symm), q.ext hzz, qs.ext hzz, hx.trans hzz, hxy.trans hzz⟩
                    case measure => simp [intOf]; omega
            · obtain rfl : j = us.length := by omega
              have hu0 := HJ.out
              rw [List.drop_length] at hu0
              have hh := HX.out
              rw [← hu0, if_neg (by simp [usR])] at hh
              have HX2 := Lib.hid hh
              clear hh hu0 HJ HX hj hlu HLA
              go_wp2_with fail
              refine (refSl_any (.slice aa P.ts.length ca) _ P x wr (hT.ext hx) (by omega)).mono ?_
              rintro e w3 ⟨rfl, hz⟩
              obtain ⟨n, hn⟩ : ∃ n, slI P x = n := ⟨_, rfl⟩
              have hs := HX2.out
              rw [hn] at hs ⊢
              have q2 := q.ext hz
              have hx2 := hx.trans hz
              clear hn HX2 d0 d1 e0 e1 hz
              by_cases hc : n < k
              · rw [if_pos hc] at hs
                have HT := Lib.hid hs
                clear hs
                go_wp2
                go_ret
                exact ⟨by rw [HH.out, HT.out]; rfl, hx2⟩
              · rw [if_neg hc] at hs
                have HT := Lib.hid hs
                clear hs
                go_wp2_with fail
                go_roundw
                case rel => exact ⟨k + 1, by omega, by go_num, Lib.hid (by rw [HV.out]; exact HT.out.symm), q2, hx2⟩
                case measure => simp [intOf]; omega
        · obtain rfl : k = P.ss.length := by omega
          have hs0 := HK.out
          rw [List.drop_length] at hs0
          have HS0 := Lib.hid (show (0 : Int) = S from hs0)
          clear hs0 HK hk hlt
          go_wp2_with fail
          go_ret
          exact ⟨by rw [HH.out, ← HS0.out]; rfl, hx⟩
end Go.Proofs.Ytiofdfjcaklmcaa
