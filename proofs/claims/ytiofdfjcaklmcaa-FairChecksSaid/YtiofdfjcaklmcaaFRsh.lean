/- The specification's sharing. -/
import Derived.Test.YtiofdfjcaklmcaaFRct
import Derived.Test.YtiofdfjcaklmcaaFBs
namespace Go.Proofs.Ytiofdfjcaklmcaa
open Go.RowKit Go.Shelf

set_option maxRecDepth 100000 in
set_option maxHeartbeats 8000000 in
theorem refSharing_any (a b v : Value) (P : Po) (g : List Int) (hok : OkP P) (w : World) (hT : PoAt w a b P) (hg : IntsAt w v g) :
    Calls Try.prog 92 #[.agg #[a, b], v] w fun e w' => e = .returned (.bool (shrB P g)) ∧ Ext w w' := by
  have hlt := hok.lt
  have hls := hok.ls
  have hul := hok.ul
  obtain ⟨aa, ca, rfl, hla⟩ := hT.t.len
  obtain ⟨ab, cb, rfl, hlb⟩ := hT.s.len
  obtain ⟨ag, cg, rfl, hlc⟩ := hg.len
  have hfL := @shr_fL P g
  have hfU := fun i => @shr_fU P g i
  have hfM := fun j => @shr_fM P g j
  have hfT := @shr_t P g
  obtain ⟨R, hR⟩ : ∃ R, shrB P g = R := ⟨_, rfl⟩
  rw [hR] at hfL hfU hfM hfT ⊢
  have HL := Lib.hid hfL
  have HU := Lib.hid hfU
  have HM := Lib.hid hfM
  have HT := Lib.hid hfT
  clear hR hfL hfU hfM hfT
  go_enter Try.func92, Try.ntmps92
  have q0 := Cls.new w 25 #[.slice aa P.ts.length ca, .slice ab P.ss.length cb]
  have hx0 : Ext w (w.alloc (.cells #[.slice aa P.ts.length ca, .slice ab P.ss.length cb] 25)) := (by repeat (first | exact Ext.refl _ | assumption | refine Ext.alloc ?_ _ | refine Ext.drew ?_ | refine Ext.drewN _ ?_ | refine Ext.trans ?_ (by assumption)))
  by_cases hlen : g.length = P.ss.length
  · have hlen2 : ((g.length : Int) != P.ss.length) = false := by simp [hlen]
    have HLEN := Lib.hid hlen
    clear hlen
    go_wp2_with fail
    go_loopw [5] (fun i wr => ∃ j : Nat, j ≤ g.length ∧ i = .int .i64 j ∧ Hid (∀ i, i < j → pU P g i = true) ∧ Cls w.heap.size 25 #[.slice aa P.ts.length ca, .slice ab P.ss.length cb] wr ∧ Ext w wr) (fun i _ => g.length - (intOf i).toNat)
    case atStart => exact ⟨0, Nat.zero_le _, rfl, Lib.hid (fun i h => by omega), q0, hx0⟩
    case round =>
      clear q0 hx0
      obtain ⟨j, hj, rfl, HJ, q, hx⟩ := hrel
      have d0 : wr.cell? ⟨w.heap.size, 0, none⟩ = some (.slice aa P.ts.length ca) := q.cell 0
      have d1 : wr.cell? ⟨w.heap.size, 1, none⟩ = some (.slice ab P.ss.length cb) := q.cell 1
      by_cases hlj : j < g.length
      · obtain ⟨bb, oo, rfl, c0⟩ := (hg.ext hx).get j hlj
        have hjs : j < P.ss.length := by have := HLEN.out; omega
        obtain ⟨b2, o2, ua, uc, rfl, s0, s1, hul1, hU⟩ := (hT.s.ext hx).get j hjs
        have hp := pU_at hlj hjs
        have hu12 := hul _ (List.getElem_mem hjs)
        obtain ⟨x, hxx⟩ : ∃ x, g[j] = x := ⟨_, rfl⟩
        obtain ⟨us, huu⟩ : ∃ x, P.ss[j].us = x := ⟨_, rfl⟩
        rw [hxx] at c0 hp
        rw [huu] at s1 hul1 hU hp hu12
        obtain ⟨c, hc⟩ : ∃ c, us.contains x = c := ⟨_, rfl⟩
        have hce : decide (x ∈ us) = us.contains x := by simp
        have KC := fun W (h : Ext wr W) => refHas_any _ us x W (hU.ext h) (by omega)
        simp only [hce] at KC
        rw [hc] at hp
        simp only [hc] at KC
        have HKC := Lib.hid KC
        have HP := Lib.hid hp
        clear hp hxx huu hc KC hce
        by_cases h0 : x = 0
        · have hb : (x != 0) = false := by simp [h0]
          have HB : (x == 0) = true := by simp [h0]
          have hp := HP.out
          rw [HB, Bool.true_or] at hp
          have HP := Lib.hid hp
          clear hp h0 HB
          go_upto_region 6 with fail
          refine wp_region_held_drew (S := fun W' => W'.cell? ⟨w.heap.size, 1, none⟩ = some (.slice (some ⟨b2, o2, none⟩) P.ss.length cb) ∧ W'.cell? ⟨bb, oo + j, none⟩ = some (.int .i64 x) ∧ W'.cell? ⟨b2, o2 + j * 2 + 1, none⟩ = some (.slice ua us.length uc) ∧ Ext wr W') (by kernel_rfl) ?_ (fun hHeld => ?_)
          · exact ⟨d1, c0, s1, Ext.drew (Ext.refl _)⟩
          obtain ⟨V0, hV0⟩ : ∃ V, World.drew wr = V := ⟨_, rfl⟩
          rw [hV0] at hHeld ⊢
          clear hV0
          (refine tkH (i := 0) (v := ?_) rfl ?_ ?_; rotate_left 1; (focus (intro w hSw; (try dsimp only at hSw); go_simp; try (with_reducible rfl))))
          try simp only [Act.put, xA1, xA2, xA4, xA5, xA6]
          (refine tkH (i := 1) (v := ?_) rfl ?_ ?_; rotate_left 1; (focus (intro w hSw; (try dsimp only at hSw); go_simp; try (with_reducible rfl))))
          try simp only [Act.put, xA1, xA2, xA3, xA4, xA5, xA6]
          (refine tkH (i := 2) (v := ?_) rfl ?_ ?_; rotate_left 1; (focus (intro w hSw; (try dsimp only at hSw); go_simp; try (with_reducible rfl))))
          try simp only [Act.put, xA1, xA2, xA3, xA4, xA5, xA6]
          (refine tkH (i := 3) (v := ?_) rfl ?_ ?_; rotate_left 1; (focus (intro w hSw; (try dsimp only at hSw); go_simp; try (with_reducible rfl))))
          try simp only [Act.put, xA1, xA2, xA3, xA4, xA5, xA6]
          (refine tkH (i := 4) (v := ?_) rfl ?_ ?_; rotate_left 1; (focus (intro w hSw; (try dsimp only at hSw); go_simp; try (with_reducible rfl))))
          try simp only [Act.put, xA1, xA2, xA3, xA4, xA5, xA6]
          (refine tkH (i := 5) (v := ?_) rfl ?_ ?_; rotate_left 1; (focus (intro w hSw; (try dsimp only at hSw); go_simp; try (with_reducible rfl))))
          try simp only [Act.put, xA1, xA2, xA3, xA4, xA5, xA6]
          (refine skH (i := 6) rfl ?_)
          try simp only [Act.put, xA1, xA2, xA3, xA4, xA5, xA6]
          (refine skH (i := 7) rfl ?_)
          try simp only [Act.put, xA1, xA2, xA3, xA4, xA5, xA6]
          (refine skH (i := 8) rfl ?_)
          try simp only [Act.put, xA1, xA2, xA3, xA4, xA5, xA6]
          (refine skH (i := 9) rfl ?_)
          try simp only [Act.put, xA1, xA2, xA3, xA4, xA5, xA6]
          (refine skH (i := 10) rfl ?_)
          try simp only [Act.put, xA1, xA2, xA3, xA4, xA5, xA6]
          (refine skH (i := 11) rfl ?_)
          try simp only [Act.put, xA1, xA2, xA3, xA4, xA5, xA6]
          (refine skH (i := 12) rfl ?_)
          try simp only [Act.put, xA1, xA2, xA3, xA4, xA5, xA6]
          (refine skH (i := 13) rfl ?_)
          try simp only [Act.put, xA1, xA2, xA3, xA4, xA5, xA6]
          (refine skH (i := 14) rfl ?_)
          try simp only [Act.put, xA1, xA2, xA3, xA4, xA5, xA6]
          (refine skH (i := 15) rfl ?_)
          try simp only [Act.put, xA1, xA2, xA3, xA4, xA5, xA6]
          (refine skH (i := 16) rfl ?_)
          try simp only [Act.put, xA1, xA2, xA3, xA4, xA5, xA6]
          (refine skH (i := 17) rfl ?_)
          try simp only [Act.put, xA1, xA2, xA3, xA4, xA5, xA6]
          (refine tkH (i := 18) (v := ?_) rfl ?_ ?_; rotate_left 1; (focus (intro w hSw; (try dsimp only at hSw); go_simp; try (with_reducible rfl))))
          try simp only [Act.put, xA1, xA2, xA3, xA4, xA5, xA6]
          refine wpAnyH_done (by kernel_rfl) ?_ _
          have hzz := hHeld.2.2.2
          go_wp2_with fail
          go_roundw
          case rel => exact ⟨j + 1, by omega, by go_num, Lib.hid (fun i hi => by
              by_cases e : i = j
              · rw [e]; exact HP.out
              · exact HJ.out i (by omega)), q.ext hzz, hx.trans hzz⟩
          case measure => simp [intOf]; omega
        · have hb : (x != 0) = true := by simp [h0]
          have HB : (x == 0) = false := by simp [h0]
          have hp := HP.out
          rw [HB, Bool.false_or] at hp
          have HP := Lib.hid hp
          clear hp h0 HB
          go_upto_region 6 with fail
          refine wp_region_held_drew (S := fun W' => W'.cell? ⟨w.heap.size, 1, none⟩ = some (.slice (some ⟨b2, o2, none⟩) P.ss.length cb) ∧ W'.cell? ⟨bb, oo + j, none⟩ = some (.int .i64 x) ∧ W'.cell? ⟨b2, o2 + j * 2 + 1, none⟩ = some (.slice ua us.length uc) ∧ Ext wr W') (by kernel_rfl) ?_ (fun hHeld => ?_)
          · exact ⟨d1, c0, s1, Ext.drew (Ext.refl _)⟩
          obtain ⟨V0, hV0⟩ : ∃ V, World.drew wr = V := ⟨_, rfl⟩
          rw [hV0] at hHeld ⊢
          clear hV0
          (refine tkH (i := 0) (v := ?_) rfl ?_ ?_; rotate_left 1; (focus (intro w hSw; (try dsimp only at hSw); go_simp; try (with_reducible rfl))))
          try simp only [Act.put, xA1, xA2, xA4, xA5, xA6]
          (refine tkH (i := 1) (v := ?_) rfl ?_ ?_; rotate_left 1; (focus (intro w hSw; (try dsimp only at hSw); go_simp; try (with_reducible rfl))))
          try simp only [Act.put, xA1, xA2, xA3, xA4, xA5, xA6]
          (refine tkH (i := 2) (v := ?_) rfl ?_ ?_; rotate_left 1; (focus (intro w hSw; (try dsimp only at hSw); go_simp; try (with_reducible rfl))))
          try simp only [Act.put, xA1, xA2, xA3, xA4, xA5, xA6]
          (refine tkH (i := 3) (v := ?_) rfl ?_ ?_; rotate_left 1; (focus (intro w hSw; (try dsimp only at hSw); go_simp; try (with_reducible rfl))))
          try simp only [Act.put, xA1, xA2, xA3, xA4, xA5, xA6]
          (refine tkH (i := 4) (v := ?_) rfl ?_ ?_; rotate_left 1; (focus (intro w hSw; (try dsimp only at hSw); go_simp; try (with_reducible rfl))))
          try simp only [Act.put, xA1, xA2, xA3, xA4, xA5, xA6]
          (refine tkH (i := 5) (v := ?_) rfl ?_ ?_; rotate_left 1; (focus (intro w hSw; (try dsimp only at hSw); go_simp; try (with_reducible rfl))))
          try simp only [Act.put, xA1, xA2, xA3, xA4, xA5, xA6]
          (refine tkH (i := 6) (v := ?_) rfl ?_ ?_; rotate_left 1; (focus (intro w hSw; (try dsimp only at hSw); go_simp; try (with_reducible rfl))))
          try simp only [Act.put, xA1, xA2, xA3, xA4, xA5, xA6]
          (refine tkH (i := 7) (v := ?_) rfl ?_ ?_; rotate_left 1; (focus (intro w hSw; (try dsimp only at hSw); go_simp; try (with_reducible rfl))))
          try simp only [Act.put, xA1, xA2, xA3, xA4, xA5, xA6]
          (refine tkH (i := 8) (v := ?_) rfl ?_ ?_; rotate_left 1; (focus (intro w hSw; (try dsimp only at hSw); go_simp; try (with_reducible rfl))))
          try simp only [Act.put, xA1, xA2, xA3, xA4, xA5, xA6]
          (refine tkH (i := 9) (v := ?_) rfl ?_ ?_; rotate_left 1; (focus (intro w hSw; (try dsimp only at hSw); go_simp; try (with_reducible rfl))))
          try simp only [Act.put, xA1, xA2, xA3, xA4, xA5, xA6]
          (refine tkH (i := 10) (v := ?_) rfl ?_ ?_; rotate_left 1; (focus (intro w hSw; (try dsimp only at hSw); go_simp; try (with_reducible rfl))))
          try simp only [Act.put, xA1, xA2, xA3, xA4, xA5, xA6]
          (refine tkH (i := 11) (v := ?_) rfl ?_ ?_; rotate_left 1; (focus (intro w hSw; (try dsimp only at hSw); go_simp; try (with_reducible rfl))))
          try simp only [Act.put, xA1, xA2, xA3, xA4, xA5, xA6]
          (refine tkH (i := 12) (v := ?_) rfl ?_ ?_; rotate_left 1; (focus (intro w hSw; (try dsimp only at hSw); go_simp; try (with_reducible rfl))))
          try simp only [Act.put, xA1, xA2, xA3, xA4, xA5, xA6]
          (refine tkH (i := 13) (v := ?_) rfl ?_ ?_; rotate_left 1; (focus (intro w hSw; (try dsimp only at hSw); go_simp; try (with_reducible rfl))))
          try simp only [Act.put, xA1, xA2, xA3, xA4, xA5, xA6]
          (refine tkH (i := 14) (v := ?_) rfl ?_ ?_; rotate_left 1; (focus (intro w hSw; (try dsimp only at hSw); go_simp; try (with_reducible rfl))))
          try simp only [Act.put, xA1, xA2, xA3, xA4, xA5, xA6]
          (refine tkH (i := 15) (v := ?_) rfl ?_ ?_; rotate_left 1; (focus (intro w hSw; (try dsimp only at hSw); go_simp; try (with_reducible rfl))))
          try simp only [Act.put, xA1, xA2, xA3, xA4, xA5, xA6]
          refine wpAnyH_ready (rs := [16]) (by kernel_rfl) (by simp) ?_
          refine AllReadyH.cons rfl (fun K hK => ?_) AllReadyH.nil
          go_simp
          go_at_call 103; refine (HKC.out V0 hHeld.2.2.2).mono ?_; rintro e V1 ⟨rfl, hz⟩
          refine hK.out _ _ ?_ (fun hHeld => ?_)
          · exact ⟨Ext.cell hz hHeld.1, Ext.cell hz hHeld.2.1, Ext.cell hz hHeld.2.2.1, hHeld.2.2.2.trans hz⟩
          clear hK K
          clear hz
          try simp only [Act.put, xA1, xA2, xA3, xA4, xA5, xA6]
          (refine tkH (i := 17) (v := ?_) rfl ?_ ?_; rotate_left 1; (focus (intro w hSw; (try dsimp only at hSw); go_simp; try (with_reducible rfl))))
          try simp only [Act.put, xA1, xA2, xA3, xA4, xA5, xA6]
          (refine tkH (i := 18) (v := ?_) rfl ?_ ?_; rotate_left 1; (focus (intro w hSw; (try dsimp only at hSw); go_simp; try (with_reducible rfl))))
          try simp only [Act.put, xA1, xA2, xA3, xA4, xA5, xA6]
          refine wpAnyH_done (by kernel_rfl) ?_ _
          have hzz := hHeld.2.2.2
          cases c
          · go_wp2_with fail
            go_ret
            exact ⟨ret_bool (HU.out j hlj HP.out).symm, hx.trans hzz⟩
          · go_wp2_with fail
            go_roundw
            case rel => exact ⟨j + 1, by omega, by go_num, Lib.hid (fun i hi => by
                by_cases e : i = j
                · rw [e]; exact HP.out
                · exact HJ.out i (by omega)), q.ext hzz, hx.trans hzz⟩
            case measure => simp [intOf]; omega
      · obtain rfl : j = g.length := by omega
        have hlg : g.length ≤ 40 := by have := HLEN.out; omega
        have KC := fun W (h : Ext w W) => refCounts0_any _ (.slice ab P.ss.length cb) _ P g hok (by omega) W (hT.ext h) (hg.ext h)
        have hcl := cntT_len P g
        have hcg := cntT_get P g
        obtain ⟨C, hC⟩ : ∃ C, cntT P g = C := ⟨_, rfl⟩
        rw [hC] at KC hcl hcg
        have HKC := Lib.hid KC
        have HCG := Lib.hid hcg
        clear hC KC hcg hj hlj
        go_wp2_with fail
        refine (HKC.out _ hx).mono ?_
        rintro e w2 ⟨u, rfl, hRow, hz⟩
        have hCA := hRow.at_
        obtain ⟨A, c, rfl⟩ := hRow.form
        have q2 := q.ext hz
        have hx2 := hx.trans hz
        clear hRow d0 d1 q hx hz HKC
        have HCL := Lib.hid hcl
        clear hcl
        go_wp2_with fail
        go_loopw [7] (fun i wr => ∃ k : Nat, k ≤ C.length ∧ i = .int .i64 k ∧ Hid (∀ j (h : j < P.ts.length), j < k → pM g P.ts[j] = true) ∧ Ext w2 wr) (fun i _ => C.length - (intOf i).toNat)
        case atStart => exact ⟨0, Nat.zero_le _, rfl, Lib.hid (fun i _ h => by omega), Ext.refl _⟩
        case round =>
          obtain ⟨k, hk, rfl, HK, hy⟩ := hrel
          have hxr := hx2.trans hy
          have d0 : wr.cell? ⟨w.heap.size, 0, none⟩ = some (.slice aa P.ts.length ca) := (q2.ext hy).cell 0
          by_cases hlk : k < C.length
          · have hkt : k < P.ts.length := by have := HCL.out; omega
            obtain ⟨b3, o3, rfl, t0⟩ := (hCA.ext hy).get k hlk
            obtain ⟨b4, o4, rfl, e0, e1⟩ := (hT.t.ext hxr).get k hkt
            rw [HCG.out k hlk hkt] at t0
            have hp : pM g P.ts[k] = decide (cntI g P.ts[k].id ≤ P.ts[k].most) := rfl
            obtain ⟨n, hn⟩ : ∃ n, cntI g P.ts[k].id = n := ⟨_, rfl⟩
            obtain ⟨m, hm⟩ : ∃ n, P.ts[k].most = n := ⟨_, rfl⟩
            rw [hn] at t0 hp
            rw [hm] at e1 hp
            clear hn hm
            by_cases hgt : n ≤ m
            · rw [decide_eq_true hgt] at hp
              have HP := Lib.hid hp
              have hng : ¬ (n > m) := by omega
              have hkl : (k : Int) < C.length := by omega
              have hkt2 : (k : Int) < P.ts.length := by omega
              clear hp hgt
              go_upto_region 12 with fail
              refine wp_region_held_drew (S := fun W' => W'.cell? ⟨w.heap.size, 0, none⟩ = some (.slice (some ⟨b4, o4, none⟩) P.ts.length ca) ∧ W'.cell? ⟨b3, o3 + k, none⟩ = some (.int .i64 n) ∧ W'.cell? ⟨b4, o4 + k * 2 + 1, none⟩ = some (.int .i64 m) ∧ Ext wr W') (by kernel_rfl) ?_ (fun hHeld => ?_)
              · exact ⟨d0, t0, e1, Ext.drew (Ext.refl _)⟩
              obtain ⟨V0, hV0⟩ : ∃ V, World.drew wr = V := ⟨_, rfl⟩
              rw [hV0] at hHeld ⊢
              clear hV0
              (refine tkH (i := 0) (v := ?_) rfl ?_ ?_; rotate_left 1; (focus (intro w hSw; (try dsimp only at hSw); go_simp; try (with_reducible rfl))))
              try simp only [Act.put, xA1, xA2, xA4, xA5, xA6]
              (refine tkH (i := 1) (v := ?_) rfl ?_ ?_; rotate_left 1; (focus (intro w hSw; (try dsimp only at hSw); go_simp; try (with_reducible rfl))))
              try simp only [Act.put, xA1, xA2, xA3, xA4, xA5, xA6]
              (refine tkH (i := 2) (v := ?_) rfl ?_ ?_; rotate_left 1; (focus (intro w hSw; (try dsimp only at hSw); go_simp; try (with_reducible rfl))))
              try simp only [Act.put, xA1, xA2, xA3, xA4, xA5, xA6]
              (refine tkH (i := 3) (v := ?_) rfl ?_ ?_; rotate_left 1; (focus (intro w hSw; (try dsimp only at hSw); go_simp; try (with_reducible rfl))))
              try simp only [Act.put, xA1, xA2, xA3, xA4, xA5, xA6]
              (refine tkH (i := 4) (v := ?_) rfl ?_ ?_; rotate_left 1; (focus (intro w hSw; (try dsimp only at hSw); go_simp; try (with_reducible rfl))))
              try simp only [Act.put, xA1, xA2, xA3, xA4, xA5, xA6]
              (refine tkH (i := 5) (v := ?_) rfl ?_ ?_; rotate_left 1; (focus (intro w hSw; (try dsimp only at hSw); go_simp; try (with_reducible rfl))))
              try simp only [Act.put, xA1, xA2, xA3, xA4, xA5, xA6]
              (refine tkH (i := 6) (v := ?_) rfl ?_ ?_; rotate_left 1; (focus (intro w hSw; (try dsimp only at hSw); go_simp; try (with_reducible rfl))))
              try simp only [Act.put, xA1, xA2, xA3, xA4, xA5, xA6]
              (refine tkH (i := 7) (v := ?_) rfl ?_ ?_; rotate_left 1; (focus (intro w hSw; (try dsimp only at hSw); go_simp; try (with_reducible rfl))))
              try simp only [Act.put, xA1, xA2, xA3, xA4, xA5, xA6]
              (refine tkH (i := 8) (v := ?_) rfl ?_ ?_; rotate_left 1; (focus (intro w hSw; (try dsimp only at hSw); go_simp; try (with_reducible rfl))))
              try simp only [Act.put, xA1, xA2, xA3, xA4, xA5, xA6]
              (refine tkH (i := 9) (v := ?_) rfl ?_ ?_; rotate_left 1; (focus (intro w hSw; (try dsimp only at hSw); go_simp; try (with_reducible rfl))))
              try simp only [Act.put, xA1, xA2, xA3, xA4, xA5, xA6]
              (refine tkH (i := 10) (v := ?_) rfl ?_ ?_; rotate_left 1; (focus (intro w hSw; (try dsimp only at hSw); go_simp; try (with_reducible rfl))))
              try simp only [Act.put, xA1, xA2, xA3, xA4, xA5, xA6]
              refine wpAnyH_done (by kernel_rfl) ?_ _
              have hzz := hHeld.2.2.2
              go_wp2_with fail
              go_roundw
              case rel => exact ⟨k + 1, by omega, by go_num, Lib.hid (fun i hi hik => by
                  by_cases e : i = k
                  · subst e; exact HP.out
                  · exact HK.out i hi (by omega)), hy.trans hzz⟩
              case measure => simp [intOf]; omega
            · rw [decide_eq_false hgt] at hp
              have HP := Lib.hid hp
              have hng : n > m := by omega
              have hkl : (k : Int) < C.length := by omega
              have hkt2 : (k : Int) < P.ts.length := by omega
              clear hp hgt
              go_upto_region 12 with fail
              refine wp_region_held_drew (S := fun W' => W'.cell? ⟨w.heap.size, 0, none⟩ = some (.slice (some ⟨b4, o4, none⟩) P.ts.length ca) ∧ W'.cell? ⟨b3, o3 + k, none⟩ = some (.int .i64 n) ∧ W'.cell? ⟨b4, o4 + k * 2 + 1, none⟩ = some (.int .i64 m) ∧ Ext wr W') (by kernel_rfl) ?_ (fun hHeld => ?_)
              · exact ⟨d0, t0, e1, Ext.drew (Ext.refl _)⟩
              obtain ⟨V0, hV0⟩ : ∃ V, World.drew wr = V := ⟨_, rfl⟩
              rw [hV0] at hHeld ⊢
              clear hV0
              (refine tkH (i := 0) (v := ?_) rfl ?_ ?_; rotate_left 1; (focus (intro w hSw; (try dsimp only at hSw); go_simp; try (with_reducible rfl))))
              try simp only [Act.put, xA1, xA2, xA4, xA5, xA6]
              (refine tkH (i := 1) (v := ?_) rfl ?_ ?_; rotate_left 1; (focus (intro w hSw; (try dsimp only at hSw); go_simp; try (with_reducible rfl))))
              try simp only [Act.put, xA1, xA2, xA3, xA4, xA5, xA6]
              (refine tkH (i := 2) (v := ?_) rfl ?_ ?_; rotate_left 1; (focus (intro w hSw; (try dsimp only at hSw); go_simp; try (with_reducible rfl))))
              try simp only [Act.put, xA1, xA2, xA3, xA4, xA5, xA6]
              (refine tkH (i := 3) (v := ?_) rfl ?_ ?_; rotate_left 1; (focus (intro w hSw; (try dsimp only at hSw); go_simp; try (with_reducible rfl))))
              try simp only [Act.put, xA1, xA2, xA3, xA4, xA5, xA6]
              (refine tkH (i := 4) (v := ?_) rfl ?_ ?_; rotate_left 1; (focus (intro w hSw; (try dsimp only at hSw); go_simp; try (with_reducible rfl))))
              try simp only [Act.put, xA1, xA2, xA3, xA4, xA5, xA6]
              (refine tkH (i := 5) (v := ?_) rfl ?_ ?_; rotate_left 1; (focus (intro w hSw; (try dsimp only at hSw); go_simp; try (with_reducible rfl))))
              try simp only [Act.put, xA1, xA2, xA3, xA4, xA5, xA6]
              (refine tkH (i := 6) (v := ?_) rfl ?_ ?_; rotate_left 1; (focus (intro w hSw; (try dsimp only at hSw); go_simp; try (with_reducible rfl))))
              try simp only [Act.put, xA1, xA2, xA3, xA4, xA5, xA6]
              (refine tkH (i := 7) (v := ?_) rfl ?_ ?_; rotate_left 1; (focus (intro w hSw; (try dsimp only at hSw); go_simp; try (with_reducible rfl))))
              try simp only [Act.put, xA1, xA2, xA3, xA4, xA5, xA6]
              (refine tkH (i := 8) (v := ?_) rfl ?_ ?_; rotate_left 1; (focus (intro w hSw; (try dsimp only at hSw); go_simp; try (with_reducible rfl))))
              try simp only [Act.put, xA1, xA2, xA3, xA4, xA5, xA6]
              (refine tkH (i := 9) (v := ?_) rfl ?_ ?_; rotate_left 1; (focus (intro w hSw; (try dsimp only at hSw); go_simp; try (with_reducible rfl))))
              try simp only [Act.put, xA1, xA2, xA3, xA4, xA5, xA6]
              (refine tkH (i := 10) (v := ?_) rfl ?_ ?_; rotate_left 1; (focus (intro w hSw; (try dsimp only at hSw); go_simp; try (with_reducible rfl))))
              try simp only [Act.put, xA1, xA2, xA3, xA4, xA5, xA6]
              refine wpAnyH_done (by kernel_rfl) ?_ _
              have hzz := hHeld.2.2.2
              go_wp2_with fail
              go_ret
              exact ⟨ret_bool (HM.out k hkt HP.out).symm, hxr.trans hzz⟩
          · obtain rfl : k = C.length := by omega
            go_wp2_with fail
            go_ret
            exact ⟨ret_bool (HT.out HLEN.out HJ.out (fun j hj => HK.out j hj (by have := HCL.out; omega))).symm, hxr⟩
  · have hlen2 : ((g.length : Int) != P.ss.length) = true := by
      have : ¬ (g.length : Int) = P.ss.length := by omega
      simp [this]
    have HL2 := Lib.hid (HL.out hlen)
    clear hlen
    go_wp2_with fail
    go_ret
    exact ⟨ret_bool HL2.out.symm, hx0⟩

end Go.Proofs.Ytiofdfjcaklmcaa
