/- Arrears of the specification. -/
import Derived.Test.YthopgonbndoidaaGreatVDu3
namespace Go.Proofs.YthopgonbndoidaaGreat
open Go.RowKit Go.Shelf Go.Lib

set_option maxRecDepth 100000 in
set_option maxHeartbeats 16000000 in
theorem refArrears_any (a b v : Value) (T : Tr) (l : List Du) (day : Int) (w : World) (hT : TrAt w a b T) (hl : DusAt w v l) (hp : T.ps.length ≤ 100000) :
    Calls Tryz.prog 31 #[.agg #[a, b], v, .int .i64 day] w (InrPost w (arX T l day) (duE T l day)) := by
  have hX : arX T l day = if duE T l day = 0 then arL T day l else [] := rfl
  have KC := fun W (hx : Ext w W) => refDues_any a b v T l day W (hT.ext hx) (hl.ext hx) hp
  have KF := fun id W (hx : Ext w W) => refPayer_any a b T id W (hT.ext hx) hp
  have hok := @duE_ok T l day
  have KI := fun (h : duE T l day = 0) W (hx : Ext w W) => refRounded_any a b T (duE_ok h).1 W (hT.ext hx)
  obtain ⟨av, cv, rfl, hlv⟩ := dus_len hl
  obtain ⟨E, hE⟩ : ∃ E, duE T l day = E := ⟨_, rfl⟩
  obtain ⟨X, hXX⟩ : ∃ E, arX T l day = E := ⟨_, rfl⟩
  rw [hE] at KC hX hok KI
  rw [hXX] at hX
  rw [hE, hXX]
  have HX := Lib.hid hX
  have HOK := Lib.hid hok
  have HKF := Lib.hid KF
  have HKI := Lib.hid KI
  clear hX hE hXX hok KF KI hT
  go_enter Tryz.func31, Tryz.ntmps31
  go_wp2_with fail
  refine (KC _ (by repeat (first | exact Ext.refl _ | assumption | refine Ext.alloc ?_ _ | refine Ext.drew ?_ | refine Ext.drewN _ ?_ | refine Ext.trans ?_ (by assumption)))).mono ?_
  rintro e w1 ⟨rfl, hx1⟩
  obtain ⟨q0, q1, hx, hk0⟩ := alloc2 hx1
  have d0 : w1.cell? ⟨w.heap.size, 0, none⟩ = some a := q0.cell 0
  have d1 : w1.cell? ⟨w.heap.size, 1, none⟩ = some b := q0.cell 1
  have f0 := q1.frozen 0
  have f1 := q1.frozen 1
  have c0 := q1.cell 0
  have c1 := q1.cell 1
  clear hx1 KC
  by_cases h0 : E = 0
  · have hb : (E != 0) = false := by simpa using h0
    have hxx := HX.out
    rw [if_pos h0] at hxx
    have HX2 := Lib.hid hxx
    have H0 := Lib.hid h0
    have hok2 := HOK.out h0
    have KI := HKI.out h0
    have HOK2 := Lib.hid hok2
    have hl200 := hok2.2.1
    have hok := hok2.1
    have HOKT := Lib.hid hok
    clear hxx h0 HX HOK hok2 hok HKI
    go_wp2_with fail
    refine (KI _ hx).mono ?_
    rintro e w2 ⟨u, rfl, hu, hz⟩
    have hx2 := hx.trans hz
    have q02 := q0.ext hz
    have q12 := q1.ext hz
    have hpl := (pnX_bd HOKT.out).1
    obtain ⟨uA, uc, rfl⟩ := hu.form
    rw [hpl] at hu ⊢
    have HU : Hid (RowI w1.heap.size (.slice uA T.ps.length uc) (arL T day (l.take 0)) w2) := Lib.hid hu
    clear hz q0 q1 hx d0 d1 c0 c1 f0 f1 hu hpl KI
    go_upto_region 6 with fail
    go_loopw [9] (fun i wr => ∃ k : Nat, k ≤ l.length ∧ i = .int .i64 k ∧ Hid (RowI w1.heap.size (.slice uA T.ps.length uc) (arL T day (l.take k)) wr) ∧ Cls w.heap.size 25 #[a, b] wr ∧ Cls (w.heap.size + 1) 33 #[.slice none 0 0, .int .i64 0] wr ∧ Ext w wr) (fun i _ => l.length - (intOf i).toNat)
    case atStart => exact ⟨0, Nat.zero_le _, rfl, HU, q02, q12, hx2⟩
    case round =>
      clear q02 q12 hx2 HU
      obtain ⟨k, hk, rfl, HR, q0, q1, hx⟩ := hrel
      have hR := HR.out
      have hok := HOKT.out
      by_cases hlt : k < l.length
      · have hki : (k : Int) < (l.length : Int) := by omega
        have hwr := q0.lt
        have hst := arL_snoc T day (l.take k) l[k]
        rw [← take_succ_get _ _ hlt] at hst
        have hgd := HOK2.out.2.2 _ (List.getElem_mem hlt)
        have hbd := arL_bd hok day (l.take k) (fun d hd => HOK2.out.2.2 d (List.mem_of_mem_take hd))
        have hlk : ((l.take k).length : Int) ≤ 200 := by have := HOK2.out.2.1; simp; omega
        have hlm : ((l.take k).length : Int) * 1073741824 ≤ 200 * 1073741824 := Int.mul_le_mul_of_nonneg_right hlk (by decide)
        have hgs : ∀ s, arS T day s l[k] = if l[k].day ≤ day then s.set (fnd T.ps l[k].id).toNat (s.getD (fnd T.ps l[k].id).toNat 0 - l[k].p) else s := fun _ => rfl
        rw [hgs] at hst
        unfold duB at hgd
        rw [Bool.and_eq_true, Bool.and_eq_true] at hgd
        have hpb := inB_t hgd.2.2
        have hf0 : ¬ fnd T.ps l[k].id < 0 := by simpa using hgd.1
        have hfl := fnd_lt (l := T.ps) (id := l[k].id) (by omega)
        obtain ⟨f, hf⟩ : ∃ f : Nat, fnd T.ps l[k].id = f := ⟨(fnd T.ps l[k].id).toNat, by omega⟩
        rw [hf] at hst hfl
        rw [Int.toNat_natCast] at hst
        obtain ⟨bb, oo, rfl, c0, c1, c2⟩ := dus_get (hl.ext hx) k hlt
        obtain ⟨x, hxx⟩ : ∃ x, l[k].id = x := ⟨_, rfl⟩
        obtain ⟨y, hyy⟩ : ∃ x, l[k].day = x := ⟨_, rfl⟩
        obtain ⟨z, hzz⟩ : ∃ x, l[k].p = x := ⟨_, rfl⟩
        rw [hxx] at c0 hf
        rw [hyy] at c1 hst
        rw [hzz] at c2 hst hpb
        obtain ⟨L, hL⟩ : ∃ x, arL T day (l.take k) = x := ⟨_, rfl⟩
        rw [hL] at hst hbd hR
        have hsl : L.length = T.ps.length := hbd.1
        have hfL : f < L.length := by omega
        have hgD : L.getD f 0 = L[f] := by rw [List.getD_eq_getElem?_getD, List.getElem?_eq_getElem hfL]; rfl
        have hsb := hbd.2 _ (List.getElem_mem hfL)
        obtain ⟨g, rfl, hg0, hg1, hgc⟩ := hR.opened hsl (by omega)
        have r0 := hR.cell hsl hfL
        obtain ⟨s, hs⟩ : ∃ s, L[f] = s := ⟨_, rfl⟩
        rw [hs] at r0 hgD hsb
        rw [hgD] at hst
        have hw1 : IntKind.i64.wrap (s - z) = s - z := IntWalk.i64_in _ (by omega)
        have hfi : (0 : Int) ≤ f ∧ (f : Int) < (T.ps.length : Int) := by omega
        have KF := HKF.out x
        rw [hf] at KF
        have HKF2 := Lib.hid KF
        have HST := Lib.hid hst
        clear hst hgd hbd hgs hf0 hxx hyy hzz hL hs hgD hpb hsb hlk hlm KF hf HR
        by_cases hq : y ≤ day
        · have hst := HST.out
          rw [if_pos hq] at hst
          have HST2 := Lib.hid hst
          have hbq : decide (y ≤ day) = true := decide_eq_true hq
          have d0 := q0.cell 0
          have d1 := q0.cell 1
          clear hst hq HST
          go_upto_region 9 with fail
          clear c1 hbq
          refine wp_region_held_drew (S := fun W' => W'.cell? ⟨w.heap.size, 0, none⟩ = some a ∧ W'.cell? ⟨w.heap.size, 1, none⟩ = some b ∧ W'.cell? ⟨bb, oo + k * 3, none⟩ = some (.int .i64 x) ∧ Ext wr W') (by kernel_rfl) ?_ (fun hHeld => ?_)
          · exact ⟨d0, d1, c0, Ext.drew (Ext.refl _)⟩
          (refine wpAnyH_take (i := 0) (v := ?_) rfl (by kernel_rfl) (by kernel_rfl) (by kernel_rfl) (fun _ _ _ h => h) (Or.inl ⟨by rfl, ?_⟩) (by assumption) ?_; rotate_left 1; (focus (intro w hSw; (try dsimp only at hSw); go_simp; try (with_reducible rfl))))
          try simp only [Act.put, List.getElem_toArray, List.getElem_cons_zero, List.setIfInBounds_toArray, List.set_cons_zero, List.set_cons_succ]
          (refine wpAnyH_take (i := 1) (v := ?_) rfl (by kernel_rfl) (by kernel_rfl) (by kernel_rfl) (fun _ _ _ h => h) (Or.inl ⟨by rfl, ?_⟩) (by assumption) ?_; rotate_left 1; (focus (intro w hSw; (try dsimp only at hSw); go_simp; try (with_reducible rfl))))
          try simp only [Act.put, List.getElem_toArray, List.getElem_cons_zero, List.getElem_cons_succ, List.setIfInBounds_toArray, List.set_cons_zero, List.set_cons_succ]
          (refine wpAnyH_take (i := 2) (v := ?_) rfl (by kernel_rfl) (by kernel_rfl) (by kernel_rfl) (fun _ _ _ h => h) (Or.inl ⟨by rfl, ?_⟩) (by assumption) ?_; rotate_left 1; (focus (intro w hSw; (try dsimp only at hSw); go_simp; try (with_reducible rfl))))
          try simp only [Act.put, List.getElem_toArray, List.getElem_cons_zero, List.getElem_cons_succ, List.setIfInBounds_toArray, List.set_cons_zero, List.set_cons_succ]
          (refine wpAnyH_take (i := 3) (v := ?_) rfl (by kernel_rfl) (by kernel_rfl) (by kernel_rfl) (fun _ _ _ h => h) (Or.inl ⟨by rfl, ?_⟩) (by assumption) ?_; rotate_left 1; (focus (intro w hSw; (try dsimp only at hSw); go_simp; try (with_reducible rfl))))
          try simp only [Act.put, List.getElem_toArray, List.getElem_cons_zero, List.getElem_cons_succ, List.setIfInBounds_toArray, List.set_cons_zero, List.set_cons_succ]
          (refine wpAnyH_take (i := 4) (v := ?_) rfl (by kernel_rfl) (by kernel_rfl) (by kernel_rfl) (fun _ _ _ h => h) (Or.inl ⟨by rfl, ?_⟩) (by assumption) ?_; rotate_left 1; (focus (intro w hSw; (try dsimp only at hSw); go_simp; try (with_reducible rfl))))
          try simp only [Act.put, List.getElem_toArray, List.getElem_cons_zero, List.getElem_cons_succ, List.setIfInBounds_toArray, List.set_cons_zero, List.set_cons_succ]
          (refine wpAnyH_take (i := 5) (v := ?_) rfl (by kernel_rfl) (by kernel_rfl) (by kernel_rfl) (fun _ _ _ h => h) (Or.inl ⟨by rfl, ?_⟩) (by assumption) ?_; rotate_left 1; (focus (intro w hSw; (try dsimp only at hSw); go_simp; try (with_reducible rfl))))
          try simp only [Act.put, List.getElem_toArray, List.getElem_cons_zero, List.getElem_cons_succ, List.setIfInBounds_toArray, List.set_cons_zero, List.set_cons_succ]
          refine wpAnyH_ready (rs := [6]) (by kernel_rfl) (by simp) ?_
          refine AllReadyH.cons rfl (fun K hK => ?_) AllReadyH.nil
          obtain ⟨V0, hV0⟩ : ∃ V, wr.drew = V := ⟨_, rfl⟩
          rw [hV0] at hHeld ⊢
          go_simp
          go_at_call 50; refine (HKF2.out _ (hx.trans hHeld.2.2.2)).mono ?_; rintro e w3 ⟨rfl, hz⟩
          refine hK.out _ _ ?_ (fun hHeld => ?_)
          · exact ⟨Ext.cell hz hHeld.1, Ext.cell hz hHeld.2.1, Ext.cell hz hHeld.2.2.1, hHeld.2.2.2.trans hz⟩
          clear hK K
          clear hz hV0
          try simp only [Act.put, List.getElem_toArray, List.getElem_cons_zero, List.getElem_cons_succ, List.setIfInBounds_toArray, List.set_cons_zero, List.set_cons_succ]
          (refine wpAnyH_take (i := 7) (v := ?_) rfl (by kernel_rfl) (by kernel_rfl) (by kernel_rfl) (fun _ _ _ h => h) (Or.inl ⟨by rfl, ?_⟩) (by assumption) ?_; rotate_left 1; (focus (intro w hSw; (try dsimp only at hSw); go_simp; try (with_reducible rfl))))
          try simp only [Act.put, List.getElem_toArray, List.getElem_cons_zero, List.getElem_cons_succ, List.setIfInBounds_toArray, List.set_cons_zero, List.set_cons_succ]
          refine wpAnyH_done (by kernel_rfl) ?_ _
          have hx3 := hHeld.2.2.2
          have hR3 := rowI_ext hR hx3
          have q03 := q0.ext hx3
          have q13 := q1.ext hx3
          have hxw := hx.trans hx3
          replace c2 := hx3.cell c2
          replace r0 := hx3.cell r0
          clear hHeld
          go_upto_region 10 with fail
          refine wp_region_last (z := 13) (S := fun W' => W'.cell? ⟨bb, oo + k * 3 + 2, none⟩ = some (.int .i64 z) ∧ W'.cell? ⟨g, f, none⟩ = some (.int .i64 s) ∧ Ext w3 W') (by kernel_rfl) ?_ (fun hHeld => ?_)
          · exact ⟨c2, r0, Ext.drew (Ext.refl _)⟩
          (refine wpAnyL_take (i := 0) (v := ?_) rfl (by kernel_rfl) (by kernel_rfl) (by kernel_rfl) (by kernel_rfl) (fun _ _ _ h => h) (Or.inl ⟨by rfl, ?_⟩) (by assumption) ?_; rotate_left 1; (focus (intro w hSw; (try dsimp only at hSw); go_simp; try (with_reducible rfl))))
          try simp only [Act.put, List.getElem_toArray, List.getElem_cons_zero, List.setIfInBounds_toArray, List.set_cons_zero, List.set_cons_succ]
          (refine wpAnyL_take (i := 1) (v := ?_) rfl (by kernel_rfl) (by kernel_rfl) (by kernel_rfl) (by kernel_rfl) (fun _ _ _ h => h) (Or.inl ⟨by rfl, ?_⟩) (by assumption) ?_; rotate_left 1; (focus (intro w hSw; (try dsimp only at hSw); go_simp; try (with_reducible rfl))))
          try simp only [Act.put, List.getElem_toArray, List.getElem_cons_zero, List.getElem_cons_succ, List.setIfInBounds_toArray, List.set_cons_zero, List.set_cons_succ]
          (refine wpAnyL_take (i := 2) (v := ?_) rfl (by kernel_rfl) (by kernel_rfl) (by kernel_rfl) (by kernel_rfl) (fun _ _ _ h => h) (Or.inl ⟨by rfl, ?_⟩) (by assumption) ?_; rotate_left 1; (focus (intro w hSw; (try dsimp only at hSw); go_simp; try (with_reducible rfl))))
          try simp only [Act.put, List.getElem_toArray, List.getElem_cons_zero, List.getElem_cons_succ, List.setIfInBounds_toArray, List.set_cons_zero, List.set_cons_succ]
          (refine wpAnyL_take (i := 3) (v := ?_) rfl (by kernel_rfl) (by kernel_rfl) (by kernel_rfl) (by kernel_rfl) (fun _ _ _ h => h) (Or.inl ⟨by rfl, ?_⟩) (by assumption) ?_; rotate_left 1; (focus (intro w hSw; (try dsimp only at hSw); go_simp; try (with_reducible rfl))))
          try simp only [Act.put, List.getElem_toArray, List.getElem_cons_zero, List.getElem_cons_succ, List.setIfInBounds_toArray, List.set_cons_zero, List.set_cons_succ]
          (refine wpAnyL_take (i := 4) (v := ?_) rfl (by kernel_rfl) (by kernel_rfl) (by kernel_rfl) (by kernel_rfl) (fun _ _ _ h => h) (Or.inl ⟨by rfl, ?_⟩) (by assumption) ?_; rotate_left 1; (focus (intro w hSw; (try dsimp only at hSw); go_simp; try (with_reducible rfl))))
          try simp only [Act.put, List.getElem_toArray, List.getElem_cons_zero, List.getElem_cons_succ, List.setIfInBounds_toArray, List.set_cons_zero, List.set_cons_succ]
          (refine wpAnyL_take (i := 5) (v := ?_) rfl (by kernel_rfl) (by kernel_rfl) (by kernel_rfl) (by kernel_rfl) (fun _ _ _ h => h) (Or.inl ⟨by rfl, ?_⟩) (by assumption) ?_; rotate_left 1; (focus (intro w hSw; (try dsimp only at hSw); go_simp; try (with_reducible rfl))))
          try simp only [Act.put, List.getElem_toArray, List.getElem_cons_zero, List.getElem_cons_succ, List.setIfInBounds_toArray, List.set_cons_zero, List.set_cons_succ]
          (refine wpAnyL_take (i := 6) (v := ?_) rfl (by kernel_rfl) (by kernel_rfl) (by kernel_rfl) (by kernel_rfl) (fun _ _ _ h => h) (Or.inl ⟨by rfl, ?_⟩) (by assumption) ?_; rotate_left 1; (focus (intro w hSw; (try dsimp only at hSw); go_simp; try (with_reducible rfl))))
          try simp only [Act.put, List.getElem_toArray, List.getElem_cons_zero, List.getElem_cons_succ, List.setIfInBounds_toArray, List.set_cons_zero, List.set_cons_succ]
          (refine wpAnyL_take (i := 7) (v := ?_) rfl (by kernel_rfl) (by kernel_rfl) (by kernel_rfl) (by kernel_rfl) (fun _ _ _ h => h) (Or.inl ⟨by rfl, ?_⟩) (by assumption) ?_; rotate_left 1; (focus (intro w hSw; (try dsimp only at hSw); go_simp; try (with_reducible rfl))))
          try simp only [Act.put, List.getElem_toArray, List.getElem_cons_zero, List.getElem_cons_succ, List.setIfInBounds_toArray, List.set_cons_zero, List.set_cons_succ]
          (refine wpAnyL_take (i := 8) (v := ?_) rfl (by kernel_rfl) (by kernel_rfl) (by kernel_rfl) (by kernel_rfl) (fun _ _ _ h => h) (Or.inl ⟨by rfl, ?_⟩) (by assumption) ?_; rotate_left 1; (focus (intro w hSw; (try dsimp only at hSw); go_simp; try (with_reducible rfl))))
          try simp only [Act.put, List.getElem_toArray, List.getElem_cons_zero, List.getElem_cons_succ, List.setIfInBounds_toArray, List.set_cons_zero, List.set_cons_succ]
          (refine wpAnyL_take (i := 9) (v := ?_) rfl (by kernel_rfl) (by kernel_rfl) (by kernel_rfl) (by kernel_rfl) (fun _ _ _ h => h) (Or.inl ⟨by rfl, ?_⟩) (by assumption) ?_; rotate_left 1; (focus (intro w hSw; (try dsimp only at hSw); go_simp; try (with_reducible rfl))))
          try simp only [Act.put, List.getElem_toArray, List.getElem_cons_zero, List.getElem_cons_succ, List.setIfInBounds_toArray, List.set_cons_zero, List.set_cons_succ]
          (refine wpAnyL_take (i := 10) (v := ?_) rfl (by kernel_rfl) (by kernel_rfl) (by kernel_rfl) (by kernel_rfl) (fun _ _ _ h => h) (Or.inl ⟨by rfl, ?_⟩) (by assumption) ?_; rotate_left 1; (focus (intro w hSw; (try dsimp only at hSw); go_simp; try (with_reducible rfl))))
          try simp only [Act.put, List.getElem_toArray, List.getElem_cons_zero, List.getElem_cons_succ, List.setIfInBounds_toArray, List.set_cons_zero, List.set_cons_succ]
          (refine wpAnyL_take (i := 11) (v := ?_) rfl (by kernel_rfl) (by kernel_rfl) (by kernel_rfl) (by kernel_rfl) (fun _ _ _ h => h) (Or.inl ⟨by rfl, ?_⟩) (by assumption) ?_; rotate_left 1; (focus (intro w hSw; (try dsimp only at hSw); go_simp; try (with_reducible rfl))))
          try simp only [Act.put, List.getElem_toArray, List.getElem_cons_zero, List.getElem_cons_succ, List.setIfInBounds_toArray, List.set_cons_zero, List.set_cons_succ]
          (refine wpAnyL_take (i := 12) (v := ?_) rfl (by kernel_rfl) (by kernel_rfl) (by kernel_rfl) (by kernel_rfl) (fun _ _ _ h => h) (Or.inl ⟨by rfl, ?_⟩) (by assumption) ?_; rotate_left 1; (focus (intro w hSw; (try dsimp only at hSw); go_simp; try (with_reducible rfl))))
          try simp only [Act.put, List.getElem_toArray, List.getElem_cons_zero, List.getElem_cons_succ, List.setIfInBounds_toArray, List.set_cons_zero, List.set_cons_succ]
          refine wpAnyL_one (i := 13) (by kernel_rfl) rfl (fun K hK => ?_)
          have hRV := rowI_ext hR3 hHeld.2.2
          have fz := hRV.frozen hsl f
          have r1 := hHeld.2.1
          go_simp
          refine hK.out _ _ (fun h => absurd rfl h) (fun _ => ?_)
          clear hK K
          try simp only [Act.put, List.getElem_toArray, List.getElem_cons_zero, List.getElem_cons_succ, List.setIfInBounds_toArray, List.set_cons_zero, List.set_cons_succ]
          refine wpAnyL_done (by kernel_rfl) ?_ _
          have hRW : RowI w1.heap.size (.slice (some ⟨g, 0, none⟩) T.ps.length uc) (L.set f (s - z)) (w3.drew.setCell ⟨g, f, none⟩ (.int .i64 (s - z))) := by
            have hRV2 := hRV
            rw [← hsl] at hRV2 ⊢
            exact rowI_set hRV2 _
          have q0W := (q03.ext hHeld.2.2).other (B' := g) (by omega) f (.int .i64 (s - z))
          have q1W := (q13.ext hHeld.2.2).other (B' := g) (by omega) f (.int .i64 (s - z))
          have hxW := (hxw.trans hHeld.2.2).setCell (p := ⟨g, f, none⟩) (by simp; omega) (.int .i64 (s - z))
          go_wp2_with fail
          go_roundw
          case rel => exact ⟨k + 1, by omega, by go_num, Lib.hid (by rw [HST2.out]; exact hRW), q0W, q1W, hxW⟩
          case measure => simp [intOf]; omega
        · have hst := HST.out
          rw [if_neg hq] at hst
          have HST2 := Lib.hid hst
          have hbq : decide (y ≤ day) = false := decide_eq_false hq
          clear hst hq HST
          go_wp2_with fail
          go_roundw
          case rel => exact ⟨k + 1, by omega, by go_num, Lib.hid (by rw [HST2.out]; exact hR), q0, q1, hx⟩
          case measure => simp [intOf]; omega
      · obtain rfl : k = l.length := by omega
        rw [List.take_length, ← HX2.out] at hR
        clear HR
        have f0 := q1.frozen 0
        have f1 := q1.frozen 1
        have c0 := q1.cell 0
        have c1 := q1.cell 1
        go_wp2_with fail
        have hC := (q1.set 0 (.slice uA T.ps.length uc)).set 1 (.int .i64 0)
        exact bodyPost_ret (results_cell_row rfl _ _ (w.heap.size + 1) _ _ _ _ rfl hC Tryz.underlying33 rfl (by kernel_rfl)) rfl ⟨_, by rw [H0.out]; rfl, (rowI_cell1 (rowI_cell1 hR (by omega) 0 _) (by omega) 1 _).at_, ixr_ext _ hx (by omega) _ _⟩
  · have hb : (E != 0) = true := by simpa using h0
    have hxx := HX.out
    rw [if_neg h0] at hxx
    have HX2 := Lib.hid hxx
    clear hxx h0
    go_wp2_with fail
    have hC := (q1.set 0 (.slice none 0 0)).set 1 (.int .i64 E)
    exact bodyPost_ret (results_cell_row rfl _ _ (w.heap.size + 1) _ _ _ _ rfl hC Tryz.underlying33 rfl (by kernel_rfl)) rfl ⟨_, rfl, by rw [HX2.out]; exact intsAt_nil _, ixr_ext _ hx (by omega) _ _⟩

end Go.Proofs.YthopgonbndoidaaGreat
