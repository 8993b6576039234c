/- slices.Compare; Compare, CheckChain, Apply and Chain of the program. -/
import Derived.Test.YtiofdfjcaklmcaaFPp
import Derived.Test.YtiofdfjcaklmcaaFLnk
namespace Go.Proofs.Ytiofdfjcaklmcaa
open Go.RowKit Go.Shelf

theorem cmpL_step {l r : List Int} {k : Nat} (h : k < l.length) (h' : k < r.length) : cmpL (l.drop k) (r.drop k) = if l[k] < r[k] then -1 else if r[k] < l[k] then 1 else cmpL (l.drop (k + 1)) (r.drop (k + 1)) := by
  rw [drop_cons l k h, drop_cons r k h', cmpL]
theorem cmpL_long {l r : List Int} {k : Nat} (h : k < l.length) (h' : k = r.length) : cmpL (l.drop k) (r.drop k) = 1 := by
  rw [drop_cons l k h, List.drop_of_length_le (Nat.le_of_eq h'.symm), cmpL]
theorem cmpL_end {l r : List Int} {k : Nat} (h : k = l.length) : cmpL (l.drop k) (r.drop k) = if k < r.length then -1 else 0 := by
  subst h
  rw [List.drop_length]
  split
  · rename_i h'
    rw [drop_cons r _ h', cmpL]
  · rename_i h'
    rw [List.drop_of_length_le (by omega), cmpL]
set_option maxRecDepth 100000 in
set_option maxHeartbeats 8000000 in
theorem slcmp_any (v u : Value) (l r : List Int) (w : World) (hl : IntsAt w v l) (hr : IntsAt w u r) (hn : l.length ≤ 1000000) (_hm : r.length ≤ 1000000) :
    Calls Try.prog 100 #[v, u] w fun e w' => e = .returned (.int .i64 (cmpL l r)) ∧ Ext w w' := by
  obtain ⟨A, c, rfl, hlc⟩ := hl.len
  obtain ⟨A2, c2, rfl, hlc2⟩ := hr.len
  obtain ⟨C, hC⟩ : ∃ C, cmpL l r = C := ⟨_, rfl⟩
  have HC := Lib.hid hC
  rw [hC]
  clear hC
  go_enter Try.func100, Try.ntmps100
  go_wp2_with fail
  go_loopw [11] (fun i wr => ∃ k : Nat, k ≤ l.length ∧ k ≤ r.length ∧ i = .int .i64 k ∧ Hid (cmpL (l.drop k) (r.drop k) = C) ∧ Ext w wr) (fun i _ => l.length - (intOf i).toNat)
  case atStart => exact ⟨0, Nat.zero_le _, Nat.zero_le _, rfl, HC, Ext.refl _⟩
  case round =>
    clear HC
    obtain ⟨k, hk, hk2, rfl, HK, hx⟩ := hrel
    by_cases hlt : k < l.length
    · obtain ⟨b, o, rfl, c0⟩ := (hl.ext hx).get k hlt
      by_cases hlt2 : k < r.length
      · obtain ⟨b2, o2, rfl, c1⟩ := (hr.ext hx).get k hlt2
        have hs := cmpL_step hlt hlt2
        rw [HK.out] at hs
        obtain ⟨x, hxx⟩ : ∃ x, l[k] = x := ⟨_, rfl⟩
        obtain ⟨y, hyy⟩ : ∃ y, r[k] = y := ⟨_, rfl⟩
        rw [hxx] at c0 hs
        rw [hyy] at c1 hs
        have hge : ¬ ((k : Int) ≥ r.length) := by omega
        have HS := Lib.hid hs
        clear hs hxx hyy
        obtain ⟨D, hD⟩ : ∃ D, Lib.compareInt x y = D := ⟨_, rfl⟩
        have hval : (x < y ∧ D = -1) ∨ (y < x ∧ D = 1) ∨ (x = y ∧ D = 0) := by
          rw [← hD]; unfold Lib.compareInt
          by_cases h1 : x < y
          · left; exact ⟨h1, by rw [if_pos h1]⟩
          · by_cases h2 : x > y
            · right; left; exact ⟨h2, by rw [if_neg h1, if_pos h2]⟩
            · right; right; exact ⟨by omega, by rw [if_neg h1, if_neg h2]⟩
        have HK2 := fun W => Try.cmp_Compare_int x y W
        simp only [hD] at HK2
        have HKC := Lib.hid HK2
        have HV := Lib.hid hval
        clear hval HK2 hD
        go_wp2_with fail
        refine (HKC.out _).mono ?_
        rintro e w2 ⟨rfl, rfl⟩
        have hs := HS.out
        rcases HV.out with ⟨h1, h2⟩ | ⟨h1, h2⟩ | ⟨h1, h2⟩
        · rw [if_pos h1] at hs
          have HS2 := Lib.hid hs
          subst h2
          clear hs h1
          go_wp2_with fail
          go_ret
          exact ⟨ret_int HS2.out.symm, hx⟩
        · rw [if_neg (by omega), if_pos h1] at hs
          have HS2 := Lib.hid hs
          subst h2
          clear hs h1
          go_wp2_with fail
          go_ret
          exact ⟨ret_int HS2.out.symm, hx⟩
        · rw [if_neg (by omega), if_neg (by omega)] at hs
          have HS2 := Lib.hid hs
          subst h2
          clear hs h1
          go_wp2_with fail
          go_roundw
          case rel => exact ⟨k + 1, by omega, by omega, by go_num, Lib.hid HS2.out.symm, hx⟩
          case measure => simp [intOf]; omega
      · have hs := cmpL_long hlt (show k = r.length by omega)
        rw [HK.out] at hs
        have HS := Lib.hid hs
        have hge : ((k : Int) ≥ r.length) := by omega
        clear hs
        go_wp2_with fail
        go_ret
        exact ⟨ret_int HS.out.symm, hx⟩
    · have hs := cmpL_end (r := r) (show k = l.length by omega)
      rw [HK.out] at hs
      obtain rfl : k = l.length := by omega
      by_cases hlt2 : l.length < r.length
      · rw [if_pos hlt2] at hs
        have HS := Lib.hid hs
        have hge : ((l.length : Int) < r.length) := by omega
        clear hs
        go_wp2_with fail
        go_ret
        exact ⟨ret_int HS.out.symm, hx⟩
      · rw [if_neg hlt2] at hs
        have HS := Lib.hid hs
        have hge : ¬ ((l.length : Int) < r.length) := by omega
        clear hs
        go_wp2_with fail
        go_ret
        exact ⟨ret_int HS.out.symm, hx⟩
theorem lnk_sl {P : Po} {g : List Int} : ∀ (l : List (Int × Int)) (k : Nat) (so a : Int) (se : List (Int × Int)), lnkG P g k so a se l = true → ∀ m ∈ l, ¬ slI P m.1 < 0
  | [], _, _, _, _, _, m, hm => by cases hm
  | q :: l, k, so, a, se, h, m, hm => by
    rw [lnkG] at h
    generalize (if k = 0 then gAt P g q.1 else so) = so2 at h
    split at h
    · cases h
    rename_i h1
    have hr : ∃ k so a se, lnkG P g k so a se l = true := by
      split at h
      · cases h
      split at h
      · cases h
      split at h
      · cases h
      split at h
      · cases h
      split at h
      · cases h
      split at h
      · cases h
      exact ⟨_, _, _, _, h⟩
    obtain ⟨k', so', a', se', h'⟩ := hr
    rcases List.mem_cons.1 hm with rfl | hm
    · exact h1
    · exact lnk_sl l k' so' a' se' h' m hm
theorem ixW_sh {P : Po} (_hok : OkP P) {g : List Int} (_ : ShrV P g) {l : List (Int × Int)} (h : lnkB P g l = true) : shW P (ixW P l) = l := by
  have hs : ∀ m ∈ l, ¬ slI P m.1 < 0 := by
    unfold lnkB at h
    split at h
    · cases h
    · exact lnk_sl l _ _ _ _ h
  unfold shW ixW
  rw [List.map_map]
  conv => rhs; rw [← List.map_id l]
  refine List.map_congr_left fun m hm => ?_
  have h0 := hs m hm
  obtain ⟨i, hi, e1, e2⟩ := ixF_some (show 0 ≤ ixF (fun x : Sl => x.id == m.1) 0 P.ss from (by have h : slI P m.1 = ixF (fun x : Sl => x.id == m.1) 0 P.ss := rfl; omega))
  have e3 : (slI P m.1).toNat = i := by have h : slI P m.1 = ixF (fun x : Sl => x.id == m.1) 0 P.ss := rfl; omega
  have e4 : P.ss[i].id = m.1 := by simpa using e2
  simp only [Function.comp_apply, e3, id_eq]
  unfold sid
  rw [List.getD_eq_getElem?_getD, List.getElem?_eq_getElem hi, Option.getD_some, e4]
set_option maxRecDepth 100000 in
set_option maxHeartbeats 8000000 in
theorem Compare_any (pa pb va vb : Value) (P : Po) (a b : List Int) (w : World) (hT : PoAt w pa pb P) (ha0 : IntsAt w va a) (hb0 : IntsAt w vb b) (hus : ∀ s ∈ P.ss, s.us.length ≤ 1000000) :
    Calls Try.prog 49 #[.agg #[pa, pb], va, vb] w fun e w' => e = .returned (.tuple #[.int .i64 (cmpX P a b), .int .i64 (cmpE P a b)]) ∧ Ext w w' := by
  have hE : cmpE P a b = if cgE P a = 0 then cgE P b else cgE P a := rfl
  have hX : cmpX P a b = if cmpE P a b = 0 then cmpL (ladL P a) (ladL P b) else 0 := rfl
  have hoa := @cg_ok P a
  have hob := @cg_ok P b
  have KC := fun W (x : Ext w W) => CheckGiven_any pa pb va P a W (hT.ext x) (ha0.ext x) hus
  have KC2 := fun W (x : Ext w W) => CheckGiven_any pa pb vb P b W (hT.ext x) (hb0.ext x) hus
  have KL1 := fun (h : OkP P ∧ ShrV P a) W (x : Ext w W) => ladder_any pa pb va P a W (hT.t.ext x) (ha0.ext x) (by have := h.1.lt; omega) (by have := h.2.le h.1; omega)
  have KL2 := fun (h : OkP P ∧ ShrV P b) W (x : Ext w W) => ladder_any pa pb vb P b W (hT.t.ext x) (hb0.ext x) (by have := h.1.lt; omega) (by have := h.2.le h.1; omega)
  have hla : OkP P → (ladL P a).length ≤ 1000000 := fun h => by rw [ladL_len]; have := h.lt; omega
  have hlb : OkP P → (ladL P b).length ≤ 1000000 := fun h => by rw [ladL_len]; have := h.lt; omega
  obtain ⟨X, hXX⟩ : ∃ E, cmpX P a b = E := ⟨_, rfl⟩
  obtain ⟨E, hEE⟩ : ∃ E, cmpE P a b = E := ⟨_, rfl⟩
  obtain ⟨A, hA⟩ : ∃ E, cgE P a = E := ⟨_, rfl⟩
  obtain ⟨B, hB⟩ : ∃ E, cgE P b = E := ⟨_, rfl⟩
  obtain ⟨LA, hLA⟩ : ∃ E, ladL P a = E := ⟨_, rfl⟩
  obtain ⟨LB, hLB⟩ : ∃ E, ladL P b = E := ⟨_, rfl⟩
  rw [hXX, hEE, hLA, hLB] at hX
  rw [hEE, hA, hB] at hE
  rw [hA] at hoa KC
  rw [hB] at hob KC2
  rw [hLA] at KL1 hla
  rw [hLB] at KL2 hlb
  rw [hXX, hEE]
  have HX := Lib.hid hX
  have HE := Lib.hid hE
  have HKC := Lib.hid KC
  have HK2 := Lib.hid KC2
  have HOA := Lib.hid hoa
  have HOB := Lib.hid hob
  have GL1 := Lib.hid KL1
  have GL2 := Lib.hid KL2
  have GA := Lib.hid hla
  have GB := Lib.hid hlb
  clear hX hE KC KC2 hoa hob KL1 KL2 hla hlb hXX hEE hA hB hLA hLB
  go_enter Try.func49, Try.ntmps49
  go_wp2_with fail
  refine (HKC.out _ (by repeat (first | exact Ext.refl _ | assumption | refine Ext.alloc ?_ _ | refine Ext.drew ?_ | refine Ext.drewN _ ?_ | refine Ext.trans ?_ (by assumption)))).mono ?_
  rintro e w1 ⟨rfl, hx1⟩
  obtain ⟨q, hx, hk0⟩ := alloc1 hx1
  have d0 : w1.cell? ⟨w.heap.size, 0, none⟩ = some pa := q.cell 0
  have d1 : w1.cell? ⟨w.heap.size, 1, none⟩ = some pb := q.cell 1
  clear hx1 hk0
  by_cases h0 : A = 0
  · have h2 := HE.out
    rw [if_pos h0] at h2
    have hoA := HOA.out.1 h0
    have hb1 : (A != 0) = false := by simp [h0]
    have HE2 := Lib.hid h2
    have HPA := Lib.hid hoA
    clear h2 h0 hoA HE HOA
    go_wp2_with fail
    refine (HK2.out _ hx).mono ?_
    rintro e w2 ⟨rfl, hz⟩
    replace d0 := hz.cell d0
    replace d1 := hz.cell d1
    have hx2 := hx.trans hz
    clear hz hx q hb1
    by_cases h1 : B = 0
    · have hx3 := HX.out
      have hE0 := HE2.out
      rw [h1] at hE0
      rw [if_pos hE0] at hx3
      have hoB := HOB.out.1 h1
      have HX2 := Lib.hid hx3
      have HE3 := Lib.hid hE0
      have HL1 := Lib.hid (GL1.out HPA.out)
      have HL2 := Lib.hid (GL2.out hoB)
      have HLa := Lib.hid (GA.out HPA.out.1)
      have HLb := Lib.hid (GB.out HPA.out.1)
      have hb1 : (B != 0) = false := by simp [h1]
      clear hx3 hE0 hoB h1 GL1 GL2 GA GB HX HE2 HOB HPA
      go_upto_region 7 with fail
      refine wp_region_held_drew (S := fun W' => W'.cell? ⟨w.heap.size, 0, none⟩ = some pa ∧ W'.cell? ⟨w.heap.size, 1, none⟩ = some pb ∧ Ext w2 W') (by kernel_rfl) ?_ (fun hHeld => ?_)
      · exact ⟨d0, d1, Ext.drew (Ext.refl _)⟩
      obtain ⟨V0, hV0⟩ : ∃ V, World.drew w2 = V := ⟨_, rfl⟩
      rw [hV0] at hHeld ⊢
      clear hV0
      (refine tkH (i := 0) (v := ?_) rfl ?_ ?_; rotate_left 1; (focus (intro w hSw; (try dsimp only at hSw); go_simp; try (with_reducible rfl))))
      try simp only [Act.put, xA1, xA2, xA4, xA5, xA6]
      (refine tkH (i := 1) (v := ?_) rfl ?_ ?_; rotate_left 1; (focus (intro w hSw; (try dsimp only at hSw); go_simp; try (with_reducible rfl))))
      try simp only [Act.put, xA1, xA2, xA3, xA4, xA5, xA6]
      (refine tkH (i := 3) (v := ?_) rfl ?_ ?_; rotate_left 1; (focus (intro w hSw; (try dsimp only at hSw); go_simp; try (with_reducible rfl))))
      try simp only [Act.put, xA1, xA2, xA3, xA4, xA5, xA6]
      (refine tkH (i := 4) (v := ?_) rfl ?_ ?_; rotate_left 1; (focus (intro w hSw; (try dsimp only at hSw); go_simp; try (with_reducible rfl))))
      try simp only [Act.put, xA1, xA2, xA3, xA4, xA5, xA6]
      refine wpAnyH_ready (rs := [2]) (by kernel_rfl) (by simp) ?_
      refine AllReadyH.cons rfl (fun K hK => ?_) AllReadyH.nil
      go_simp
      go_at_call 74; refine (HL1.out V0 (hx2.trans hHeld.2.2)).mono ?_; rintro e V1 ⟨u1, rfl, hr1, hz⟩
      refine hK.out _ _ ?_ (fun hHeld => ?_)
      · exact ⟨Ext.cell hz hHeld.1, Ext.cell hz hHeld.2.1, hHeld.2.2.trans hz⟩
      clear hK K
      have ha := hr1.at_
      clear hr1 hz
      try simp only [Act.put, xA1, xA2, xA3, xA4, xA5, xA6]
      refine wpAnyH_ready (rs := [5]) (by kernel_rfl) (by simp) ?_
      refine AllReadyH.cons rfl (fun K hK => ?_) AllReadyH.nil
      go_simp
      go_at_call 74; refine (HL2.out V1 (hx2.trans hHeld.2.2)).mono ?_; rintro e V2 ⟨u2, rfl, hr2, hz⟩
      refine hK.out _ _ ?_ (fun hHeld => ?_)
      · exact ⟨Ext.cell hz hHeld.1, Ext.cell hz hHeld.2.1, hHeld.2.2.trans hz⟩
      clear hK K
      have hb := hr2.at_
      replace ha := ha.ext hz
      clear hr2 hz
      try simp only [Act.put, xA1, xA2, xA3, xA4, xA5, xA6]
      refine wpAnyH_ready (rs := [6]) (by kernel_rfl) (by simp) ?_
      refine AllReadyH.cons rfl (fun K hK => ?_) AllReadyH.nil
      go_simp
      go_at_call 100; refine (slcmp_any _ _ _ _ V2 ha hb HLa.out HLb.out).mono ?_; rintro e V3 ⟨rfl, hz⟩
      refine hK.out _ _ ?_ (fun hHeld => ?_)
      · exact ⟨Ext.cell hz hHeld.1, Ext.cell hz hHeld.2.1, hHeld.2.2.trans hz⟩
      clear hK K
      clear hz ha hb
      try simp only [Act.put, xA1, xA2, xA3, xA4, xA5, xA6]
      (refine tkH (i := 7) (v := ?_) rfl ?_ ?_; rotate_left 1; (focus (intro w hSw; (try dsimp only at hSw); go_simp; try (with_reducible rfl))))
      try simp only [Act.put, xA1, xA2, xA3, xA4, xA5, xA6]
      (refine tkH (i := 8) (v := ?_) rfl ?_ ?_; rotate_left 1; (focus (intro w hSw; (try dsimp only at hSw); go_simp; try (with_reducible rfl))))
      try simp only [Act.put, xA1, xA2, xA3, xA4, xA5, xA6]
      refine wpAnyH_done (by kernel_rfl) ?_ _
      have hzz := hHeld.2.2
      go_wp2_with fail
      go_ret2
      exact ⟨ret2 (by rw [HX2.out]; rfl) (by rw [HE3.out]; rfl), hx2.trans hzz⟩
    · have hx3 := HX.out
      rw [if_neg (by rw [HE2.out]; exact h1)] at hx3
      have HX2 := Lib.hid hx3
      have hb1 : (B != 0) = true := by simp [h1]
      clear hx3 h1
      go_wp2_with fail
      go_ret2
      exact ⟨ret2 (by rw [HX2.out]; rfl) (by rw [HE2.out]; rfl), hx2⟩
  · have h2 := HE.out
    rw [if_neg h0] at h2
    have hx3 := HX.out
    rw [if_neg (by rw [h2]; exact h0)] at hx3
    have HX2 := Lib.hid hx3
    have HE2 := Lib.hid h2
    have hb1 : (A != 0) = true := by simp [h0]
    clear h2 h0 hx3
    go_wp2_with fail
    go_ret2
    exact ⟨ret2 (by rw [HX2.out]; rfl) (by rw [HE2.out]; rfl), hx⟩
set_option maxRecDepth 100000 in
set_option maxHeartbeats 8000000 in
theorem CheckChain_any (pa pb v lv : Value) (P : Po) (g : List Int) (l : List (Int × Int)) (w : World) (hT : PoAt w pa pb P) (hg : IntsAt w v g) (hl : SfsAt w lv l) (hus : ∀ s ∈ P.ss, s.us.length ≤ 1000000) :
    Calls Try.prog 34 #[.agg #[pa, pb], v, lv] w fun e w' => e = .returned (.int .i64 (ccE P g l)) ∧ Ext w w' := by
  obtain ⟨la, lc, rfl, hll⟩ := hl.len
  have hE : ccE P g l = if cgE P g = 0 then (if 12 < l.length then 2 else if lnkB P g l = true then 0 else 8) else cgE P g := rfl
  have hok := @cg_ok P g
  have KC := fun W (x : Ext w W) => CheckGiven_any pa pb v P g W (hT.ext x) (hg.ext x) hus
  have KL := fun (h : OkP P ∧ ShrV P g) (hn : l.length ≤ 1000) W (x : Ext w W) => linked_any pa pb v _ P g l h.1 h.2 hn W (hT.ext x) (hg.ext x) (SeqK.ext hl x)
  obtain ⟨E, hEE⟩ : ∃ E, ccE P g l = E := ⟨_, rfl⟩
  obtain ⟨A, hA⟩ : ∃ E, cgE P g = E := ⟨_, rfl⟩
  obtain ⟨B, hB⟩ : ∃ E, lnkB P g l = E := ⟨_, rfl⟩
  obtain ⟨n, hn⟩ : ∃ n, l.length = n := ⟨_, rfl⟩
  rw [hEE, hA, hB, hn] at hE
  rw [hA] at hok KC
  rw [hB, hn] at KL
  rw [hEE, hn]
  have HE := Lib.hid hE
  have HKC := Lib.hid KC
  have HOK := Lib.hid hok
  have HKL := Lib.hid KL
  clear hE KC hok KL hEE hA hB hn hll hl
  go_enter Try.func34, Try.ntmps34
  go_wp2_with fail
  refine (HKC.out _ (by repeat (first | exact Ext.refl _ | assumption | refine Ext.alloc ?_ _ | refine Ext.drew ?_ | refine Ext.drewN _ ?_ | refine Ext.trans ?_ (by assumption)))).mono ?_
  rintro e w1 ⟨rfl, hx1⟩
  obtain ⟨q, hx, hk0⟩ := alloc1 hx1
  have d0 : w1.cell? ⟨w.heap.size, 0, none⟩ = some pa := q.cell 0
  have d1 : w1.cell? ⟨w.heap.size, 1, none⟩ = some pb := q.cell 1
  clear hx1 hk0
  by_cases h0 : A = 0
  · have h2 := HE.out
    rw [if_pos h0] at h2
    have hb1 : (A != 0) = false := by simp [h0]
    have K2 := Lib.hid (HKL.out (HOK.out.1 h0))
    by_cases hn : 12 < n
    · rw [if_pos hn] at h2
      have HE2 := Lib.hid h2
      have hb2 : ((n : Int) > 12) := by omega
      clear h2 h0 hn
      go_wp2_with fail
      go_ret
      exact ⟨ret_int HE2.out.symm, hx⟩
    · rw [if_neg hn] at h2
      have HE2 := Lib.hid h2
      have hb2 : ¬ ((n : Int) > 12) := by omega
      have K3 := Lib.hid (K2.out (by omega))
      clear h2 h0 hn K2
      go_wp2_with fail
      refine (K3.out _ hx).mono ?_
      rintro e w2 ⟨rfl, hz⟩
      cases B
      · go_wp2_with fail
        go_ret
        exact ⟨by rw [HE2.out]; rfl, hx.trans hz⟩
      · go_wp2_with fail
        go_ret
        exact ⟨by rw [HE2.out]; rfl, hx.trans hz⟩
  · have h2 := HE.out
    rw [if_neg h0] at h2
    have HE2 := Lib.hid h2
    have hb1 : (A != 0) = true := by simp [h0]
    clear h2 h0
    go_wp2_with fail
    go_ret
    exact ⟨by rw [HE2.out]; rfl, hx⟩
set_option maxRecDepth 100000 in
set_option maxHeartbeats 8000000 in
theorem Apply_any (pa pb v lv : Value) (P : Po) (g : List Int) (l : List (Int × Int)) (w : World) (hT : PoAt w pa pb P) (hg : IntsAt w v g) (hl : SfsAt w lv l) (hus : ∀ s ∈ P.ss, s.us.length ≤ 1000000) :
    Calls Try.prog 30 #[.agg #[pa, pb], v, lv] w (InsPost w (aplX P g l) (ccE P g l)) := by
  have hX : aplX P g l = if ccE P g l = 0 then appW g (ixW P l) else [] := rfl
  have hok := @cc_ok P g l
  have KC := fun W (x : Ext w W) => CheckChain_any pa pb v lv P g l W (hT.ext x) (hg.ext x) (SeqK.ext hl x) hus
  have KT := fun (h : (OkP P ∧ ShrV P g) ∧ l.length ≤ 12 ∧ lnkB P g l = true) W (x : Ext w W) => apply_any pa pb v lv P g (ixW P l) h.1.1 (by have := h.1.2.le h.1.1; omega) (by rw [ixW, List.length_map]; omega) (lnk_ix h.1.1 h.1.2 h.2.2) W (hT.ext x) (hg.ext x) (by rw [ixW_sh h.1.1 h.1.2 h.2.2]; exact SeqK.ext hl x)
  obtain ⟨X, hXX⟩ : ∃ E, aplX P g l = E := ⟨_, rfl⟩
  obtain ⟨E, hE⟩ : ∃ E, ccE P g l = E := ⟨_, rfl⟩
  obtain ⟨C, hC⟩ : ∃ E, appW g (ixW P l) = E := ⟨_, rfl⟩
  rw [hXX, hE, hC] at hX
  rw [hE] at hok KC
  rw [hC] at KT
  rw [hXX, hE]
  have HX := Lib.hid hX
  have HKC := Lib.hid KC
  have HKT := Lib.hid KT
  clear hX hXX hE hC KC KT
  go_enter Try.func30, Try.ntmps30
  go_wp2_with fail
  refine (HKC.out _ (by repeat (first | exact Ext.refl _ | assumption | refine Ext.alloc ?_ _ | refine Ext.drew ?_ | refine Ext.drewN _ ?_ | refine Ext.trans ?_ (by assumption)))).mono ?_
  rintro e w1 ⟨rfl, hx1⟩
  obtain ⟨q, hx, hk0⟩ := alloc1 hx1
  have d0 : w1.cell? ⟨w.heap.size, 0, none⟩ = some pa := q.cell 0
  have d1 : w1.cell? ⟨w.heap.size, 1, none⟩ = some pb := q.cell 1
  clear hx1 hk0
  by_cases h0 : E = 0
  · have h2 := HX.out
    rw [if_pos h0] at h2
    have HX2 := Lib.hid h2
    have H0 := Lib.hid h0
    have hb : (E != 0) = false := by simp [h0]
    have K2 := HKT.out (hok.1 h0)
    clear h2 h0
    go_wp2_with fail
    refine (K2 _ hx).mono ?_
    rintro e w2 ⟨u, rfl, hr, hz⟩
    go_wp2_with fail
    go_ret2
    exact ⟨_, ret2 rfl (by rw [H0.out]; rfl), by rw [HX2.out]; exact hr.at_, hx.trans hz⟩
  · have h2 := HX.out
    rw [if_neg h0] at h2
    have HX2 := Lib.hid h2
    have hb : (E != 0) = true := by simp [h0]
    clear h2 h0
    go_wp2_with fail
    go_ret2
    exact ⟨_, rfl, by rw [HX2.out]; exact intsAt_nil _, hx⟩
/-- what Chain returns -/
def chaX (P : Po) (g : List Int) : List (Nat × Int) := if cgE P g = 0 then chnL P g else []
def ChaPost (w : World) (P : Po) (l : List (Nat × Int)) (E : Int) (e : Ending) (w' : World) : Prop := ∃ v, e = .returned (.tuple #[v, .bool (decide (0 < l.length)), .int .i64 E]) ∧ SfsAt w' v (shW P l) ∧ Ext w w'
theorem sfsAt_nil (W : World) : SfsAt W (.slice none 0 0) [] := ⟨none, 0, rfl, by simp, fun i hi => by simp at hi⟩
set_option maxRecDepth 100000 in
set_option maxHeartbeats 8000000 in
theorem Chain_any (pa pb v : Value) (P : Po) (g : List Int) (w : World) (hT : PoAt w pa pb P) (hg : IntsAt w v g) (hus : ∀ s ∈ P.ss, s.us.length ≤ 1000000) :
    Calls Try.prog 36 #[.agg #[pa, pb], v] w (ChaPost w P (chaX P g) (cgE P g)) := by
  have hX : chaX P g = if cgE P g = 0 then chnL P g else [] := rfl
  have hok := @cg_ok P g
  have KC := fun W (x : Ext w W) => CheckGiven_any pa pb v P g W (hT.ext x) (hg.ext x) hus
  have KT := fun (h : OkP P ∧ ShrV P g) W (x : Ext w W) => chain_any pa pb v P g h.1 h.2.len W (hT.ext x) (hg.ext x)
  obtain ⟨X, hXX⟩ : ∃ E, chaX P g = E := ⟨_, rfl⟩
  obtain ⟨E, hE⟩ : ∃ E, cgE P g = E := ⟨_, rfl⟩
  obtain ⟨C, hC⟩ : ∃ E, chnL P g = E := ⟨_, rfl⟩
  rw [hXX, hE, hC] at hX
  rw [hE] at hok KC
  rw [hC] at KT
  rw [hXX, hE]
  have HX := Lib.hid hX
  have HKC := Lib.hid KC
  have HKT := Lib.hid KT
  clear hX hXX hE hC KC KT
  go_enter Try.func36, Try.ntmps36
  go_wp2_with fail
  refine (HKC.out _ (by repeat (first | exact Ext.refl _ | assumption | refine Ext.alloc ?_ _ | refine Ext.drew ?_ | refine Ext.drewN _ ?_ | refine Ext.trans ?_ (by assumption)))).mono ?_
  rintro e w1 ⟨rfl, hx1⟩
  obtain ⟨q, hx, hk0⟩ := alloc1 hx1
  have d0 : w1.cell? ⟨w.heap.size, 0, none⟩ = some pa := q.cell 0
  have d1 : w1.cell? ⟨w.heap.size, 1, none⟩ = some pb := q.cell 1
  clear hx1 hk0
  by_cases h0 : E = 0
  · have h2 := HX.out
    rw [if_pos h0] at h2
    have HX2 := Lib.hid h2
    have H0 := Lib.hid h0
    have hb : (E != 0) = false := by simp [h0]
    have K2 := HKT.out (hok.1 h0)
    clear h2 h0
    go_wp2_with fail
    refine (K2 _ hx).mono ?_
    rintro e w2 ⟨u, rfl, hr, hz⟩
    have hr2 := hr.at_
    obtain ⟨B, hB⟩ : ∃ B, decide (0 < C.length) = B := ⟨_, rfl⟩
    rw [hB]
    have HB := Lib.hid hB
    clear hB hr
    go_wp2_with fail
    go_ret3
    exact ⟨_, by rw [HX2.out, HB.out, H0.out]; rfl, by rw [HX2.out]; exact hr2, hx.trans hz⟩
  · have h2 := HX.out
    rw [if_neg h0] at h2
    have HX2 := Lib.hid h2
    have hb : (E != 0) = true := by simp [h0]
    clear h2 h0
    go_wp2_with fail
    go_ret3
    exact ⟨_, by rw [HX2.out]; rfl, by rw [HX2.out]; exact sfsAt_nil _, hx⟩
end Go.Proofs.Ytiofdfjcaklmcaa
