/- TurnResidues: the walk and the card. -/
import Derived.Test.YtejmmfjabmmihaaDoorSanity
import Derived.Test.YtejmmfjabmmihaaDoorResP
import Derived.Test.YtejmmfjabmmihaaDoorHasL
import Derived.Test.YtejmmfjabmmihaaDoorWorld
namespace Go.Proofs.YtejmmfjabmmihaaDoor
open Go.RowKit Go.Shelf

/-- how many minutes of the row have been counted -/
def cntTo (p f l q g k u : Int) (j : Nat) : Int := sumI j (fun i => ind (comB p f l q g k (u + i)))
theorem cntTo_bound (p f l q g k u : Int) (j : Nat) : 0 ≤ cntTo p f l q g k u j ∧ cntTo p f l q g k u j ≤ j := by
  have := sumI_bound j (fun i => ind (comB p f l q g k (u + i))) 1 (fun i _ => ind_range _)
  unfold cntTo; omega
theorem cntTo_t {p f l q g k u : Int} {j : Nat} (h : comB p f l q g k (u + j) = true) : cntTo p f l q g k u (j + 1) = cntTo p f l q g k u j + 1 := by
  show cntTo p f l q g k u j + ind (comB p f l q g k (u + j)) = _
  rw [h]; rfl
theorem cntTo_f {p f l q g k u : Int} {j : Nat} (h : comB p f l q g k (u + j) = false) : cntTo p f l q g k u (j + 1) = cntTo p f l q g k u j := by
  show cntTo p f l q g k u j + ind (comB p f l q g k (u + j)) = _
  rw [h]; exact Int.add_zero _

/-- two turns, boxed -/
structure Two6 (p f l q g k : Int) (B : Nat) (W : World) : Prop where
  c0 : W.cell? ⟨B, 0, none⟩ = some (.int .i64 p)
  c1 : W.cell? ⟨B, 1, none⟩ = some (.int .i64 f)
  c2 : W.cell? ⟨B, 2, none⟩ = some (.int .i64 l)
  c3 : W.cell? ⟨B + 1, 0, none⟩ = some (.int .i64 q)
  c4 : W.cell? ⟨B + 1, 1, none⟩ = some (.int .i64 g)
  c5 : W.cell? ⟨B + 1, 2, none⟩ = some (.int .i64 k)

set_option maxRecDepth 100000 in
set_option maxHeartbeats 4000000 in
theorem Residues_no (p f l q g k m u : Int) (w : World) (hT : Tab w) (hE : pairE p f l q g k ≠ 0) :
    Calls Tryd.prog 5 #[.agg #[.int .i64 p, .int .i64 f, .int .i64 l], .agg #[.int .i64 q, .int .i64 g, .int .i64 k], .int .i64 m, .int .u16 u] w fun e w' => e = .returned (.bool true) ∧ Ext w w' := by
  have h1 : firstE p f l q g k = pairE p f l q g k := by unfold firstE; rw [if_neg hE]
  obtain ⟨E, hEE⟩ : ∃ E, pairE p f l q g k = E := ⟨_, rfl⟩
  rw [hEE] at h1 hE
  have H1 := Lib.hid h1
  have HE := Lib.hid hEE
  have hEb : (E == 0) = false := by rw [beq_eq_false_iff_ne]; exact hE
  clear h1 hEE
  go_enter Tryd.func5, Tryd.ntmps5
  go_wp2_with fail
  refine (First_any _ _ _ _ _ _ _).mono ?_
  rw [H1.out]
  rintro e w1 ⟨rfl, hx1⟩
  obtain ⟨q0, q1, hx, hzz⟩ := alloc2 hx1
  clear hx1
  have d0 : w1.cell? ⟨w.heap.size, 0, none⟩ = some (.int .i64 p) := q0.cell 0
  have d1 : w1.cell? ⟨w.heap.size, 1, none⟩ = some (.int .i64 f) := q0.cell 1
  have d2 : w1.cell? ⟨w.heap.size, 2, none⟩ = some (.int .i64 l) := q0.cell 2
  have d3 : w1.cell? ⟨w.heap.size + 1, 0, none⟩ = some (.int .i64 q) := q1.cell 0
  have d4 : w1.cell? ⟨w.heap.size + 1, 1, none⟩ = some (.int .i64 g) := q1.cell 1
  have d5 : w1.cell? ⟨w.heap.size + 1, 2, none⟩ = some (.int .i64 k) := q1.cell 2
  clear q0 q1
  go_wp2_with fail
  refine (Apart_any _ _ _ _ _ _ _).mono ?_
  rw [HE.out]
  rintro e w2 ⟨rfl, hx2⟩
  replace d0 := hx2.cell d0
  replace d1 := hx2.cell d1
  replace d2 := hx2.cell d2
  replace d3 := hx2.cell d3
  replace d4 := hx2.cell d4
  replace d5 := hx2.cell d5
  go_wp2_with fail
  refine (Often_any _ _ _ _ _ _ _).mono ?_
  rw [HE.out]
  rintro e w3 ⟨rfl, hx3⟩
  have hT3 := hT.ext ((hx.trans hx2).trans hx3)
  clear hT d0 d1 d2 d3 d4 d5
  go_wp2_with fail
  refine (sanity_any _ hT3).mono ?_
  rintro e w4 ⟨rfl, hx4⟩
  go_wp2_with fail
  go_ret
  exact ⟨ret_bool (by simp), (by repeat (first | exact Ext.refl _ | assumption | refine Ext.alloc ?_ _ | refine Ext.drew ?_ | refine Ext.drewN _ ?_ | refine Ext.trans ?_ (by assumption)))⟩

/-- what the law leans on where the turns are right -/
structure ResF (p q n L C : Int) : Prop where
  n0 : 0 ≤ n
  nL : n < L
  L1 : 1 ≤ L
  L2 : L ≤ 1625702400
  c0 : 0 ≤ C
  c1 : C ≤ 1625702400
  tp : L.tmod p = 0
  tq : L.tmod q = 0
  mp : L % p = 0
  mq : L % q = 0
theorem lcm_mod {p q : Int} (hp : 1 ≤ p) (hq : 1 ≤ q) : lcmI p q % p = 0 ∧ lcmI p q % q = 0 := by
  obtain ⟨c, d, h1, h2, _⟩ := lcmI_spec hp hq
  exact ⟨mod_of ⟨c, h1⟩, mod_of ⟨d, h2⟩⟩

set_option maxRecDepth 100000 in
set_option maxHeartbeats 8000000 in
theorem Residues_some (p f l q g k m u : Int) (n : Nat) (w : World) (hT : Tab w) (hv : tnB p f l = true) (hv2 : tnB q g k = true) (hN : firstN p f l q g k = some n) (hu : 0 ≤ u) (hu2 : u ≤ 65535) :
    Calls Tryd.prog 5 #[.agg #[.int .i64 p, .int .i64 f, .int .i64 l], .agg #[.int .i64 q, .int .i64 g, .int .i64 k], .int .i64 m, .int .u16 u] w fun e w' => e = .returned (.bool true) ∧ Ext w w' := by
  have ha := tnB_t hv
  have hc := tnB_t hv2
  have hE : pairE p f l q g k = 0 := by simp [pairE, hv, hv2]
  have hA := apt_first hv hv2
  rw [hN] at hA
  have hAN : aptN p f l q g k = none := by simpa using hA
  have h1 : firstE p f l q g k = 0 := by unfold firstE; rw [if_pos hE, hN]; rfl
  have h2 : firstX p f l q g k = n := by unfold firstX; rw [if_pos hE, hN]
  have h3 : aptX p f l q g k = 0 := by unfold aptX; rw [if_pos hE, hAN]
  have h4 : aptB p f l q g k = false := by unfold aptB; rw [if_pos hE, hAN]; rfl
  have h5 : oftX p f l q g k = oftI p f l q g k := by unfold oftX; rw [if_pos hE]
  have h6 : oftL p f l q g k = lcmI p q := by unfold oftL; rw [if_pos hE]
  have h7 : (chaE p f l q g k m == 0) = false := by
    rw [beq_eq_false_iff_ne]
    intro h
    unfold chaE at h
    rw [if_pos hE] at h
    split at h
    · rename_i hh
      obtain ⟨i, hi, _⟩ := cha_apt hv hv2 hh
      rw [hAN] at hi; cases hi
    · cases h
  have hlm := lcm_mod ha.1 hc.1
  have hll := lcmI_le ha.1 ha.2.1 hc.1 hc.2.1
  have hfs := firstN_some hN
  have hob := oft_bound hv hv2
  have hof := oft_first hv hv2
  have hwin := oft_window hv hv2 u
  have hC1 : (oftI p f l q g k == 0) = false := by rw [beq_eq_false_iff_ne]; intro h; rw [hof.1 h] at hN; cases hN
  have hcm : comB p f l q g k n = true := hfs.1
  have hc3 : comB p f l q g k (n + 3 * lcmI p q) = true := by rw [Int.mul_comm, comB_add ha.1 hc.1]; exact hcm
  have hmod : ∀ x, comB p f l q g k x = true → (n : Int) ≤ x % lcmI p q := fun x hx => firstN_min hN (Int.emod_nonneg _ (by omega)) (by rw [comB_mod ha.1 hc.1]; exact hx)
  have hF : ResF p q n (lcmI p q) (oftI p f l q g k) := ⟨by omega, hfs.2.1, hll.1, hll.2, hob.1, hob.2, by rw [Int.tmod_eq_emod_of_nonneg (by omega)]; exact hlm.1, by rw [Int.tmod_eq_emod_of_nonneg (by omega)]; exact hlm.2, hlm.1, hlm.2⟩
  have H1 := Lib.hid h1; have H2 := Lib.hid h2; have H3 := Lib.hid h3; have H4 := Lib.hid h4; have H5 := Lib.hid h5; have H6 := Lib.hid h6; have HE := Lib.hid hE
  obtain ⟨L, hL⟩ : ∃ L, lcmI p q = L := ⟨_, rfl⟩
  obtain ⟨C, hC⟩ : ∃ C, oftI p f l q g k = C := ⟨_, rfl⟩
  have hwin2 : cntTo p f l q g k u L.toNat = C := by rw [← hL, ← hC]; exact hwin
  rw [hL] at hF hc3 hmod
  rw [hC] at hF hC1
  have HL := Lib.hid hL; have HC := Lib.hid hC; have HW := Lib.hid hwin2; have HM := Lib.hid hmod
  obtain ⟨i1, i2⟩ := comB_t hcm
  obtain ⟨i3, i4⟩ := comB_t hc3
  have I1 := Lib.hid i1; have I2 := Lib.hid i2; have I3 := Lib.hid i3; have I4 := Lib.hid i4
  obtain ⟨f1, f2, f3, f4, f5, f6, f7, f8, f9, f10⟩ := hF
  have hp0 : (p == 0) = false := by rw [beq_eq_false_iff_ne]; omega
  have hq0 : (q == 0) = false := by rw [beq_eq_false_iff_ne]; omega
  clear h1 h2 h3 h4 h5 h6 hE hA hAN hL hC hwin hwin2 hmod hfs hob hof hcm hc3 i1 i2 i3 i4 hll hlm hN
  go_enter Tryd.func5, Tryd.ntmps5
  go_wp2_with fail
  refine (First_any _ _ _ _ _ _ _).mono ?_
  rw [H1.out, H2.out]
  rintro e w1 ⟨rfl, hx1⟩
  obtain ⟨q0, q1, hx, hzz⟩ := alloc2 hx1
  clear hx1
  have d0 : w1.cell? ⟨w.heap.size, 0, none⟩ = some (.int .i64 p) := q0.cell 0
  have d1 : w1.cell? ⟨w.heap.size, 1, none⟩ = some (.int .i64 f) := q0.cell 1
  have d2 : w1.cell? ⟨w.heap.size, 2, none⟩ = some (.int .i64 l) := q0.cell 2
  have d3 : w1.cell? ⟨w.heap.size + 1, 0, none⟩ = some (.int .i64 q) := q1.cell 0
  have d4 : w1.cell? ⟨w.heap.size + 1, 1, none⟩ = some (.int .i64 g) := q1.cell 1
  have d5 : w1.cell? ⟨w.heap.size + 1, 2, none⟩ = some (.int .i64 k) := q1.cell 2
  clear q0 q1
  go_wp2_with fail
  refine (Apart_any _ _ _ _ _ _ _).mono ?_
  rw [HE.out, H3.out, H4.out]
  rintro e w2 ⟨rfl, hx2⟩
  replace d0 := hx2.cell d0
  replace d1 := hx2.cell d1
  replace d2 := hx2.cell d2
  replace d3 := hx2.cell d3
  replace d4 := hx2.cell d4
  replace d5 := hx2.cell d5
  replace hx := hx.trans hx2
  clear hx2
  go_wp2_with fail
  refine (Often_any _ _ _ _ _ _ _).mono ?_
  rw [HE.out, H5.out, H6.out, HC.out, HL.out]
  rintro e w3 ⟨rfl, hx3⟩
  replace d0 := hx3.cell d0
  replace d1 := hx3.cell d1
  replace d2 := hx3.cell d2
  replace d3 := hx3.cell d3
  replace d4 := hx3.cell d4
  replace d5 := hx3.cell d5
  replace hx := hx.trans hx3
  clear hx3
  have hT3 := hT.ext hx
  clear hT
  go_wp2_with fail
  refine (lawInTurn_any p f l n _ hv (by omega) (by omega)).mono ?_
  rw [I1.out]
  rintro e w4 ⟨rfl, hy⟩
  replace d0 := hy.cell d0
  replace d1 := hy.cell d1
  replace d2 := hy.cell d2
  replace d3 := hy.cell d3
  replace d4 := hy.cell d4
  replace d5 := hy.cell d5
  replace hx := hx.trans hy
  replace hT3 := hT3.ext hy
  clear hy
  go_wp2_with fail
  refine (lawInTurn_any q g k n _ hv2 (by omega) (by omega)).mono ?_
  rw [I2.out]
  rintro e w5 ⟨rfl, hy⟩
  replace d0 := hy.cell d0
  replace d1 := hy.cell d1
  replace d2 := hy.cell d2
  replace d3 := hy.cell d3
  replace d4 := hy.cell d4
  replace d5 := hy.cell d5
  replace hx := hx.trans hy
  replace hT3 := hT3.ext hy
  clear hy
  go_wp2_with fail
  refine (lawInTurn_any p f l (n + 3 * L) _ hv (by omega) (by omega)).mono ?_
  rw [I3.out]
  rintro e w6 ⟨rfl, hy⟩
  replace d0 := hy.cell d0
  replace d1 := hy.cell d1
  replace d2 := hy.cell d2
  replace d3 := hy.cell d3
  replace d4 := hy.cell d4
  replace d5 := hy.cell d5
  replace hx := hx.trans hy
  replace hT3 := hT3.ext hy
  clear hy
  go_wp2_with fail
  refine (lawInTurn_any q g k (n + 3 * L) _ hv2 (by omega) (by omega)).mono ?_
  rw [I4.out]
  rintro e w7 ⟨rfl, hy⟩
  replace d0 := hy.cell d0
  replace d1 := hy.cell d1
  replace d2 := hy.cell d2
  replace d3 := hy.cell d3
  replace d4 := hy.cell d4
  replace d5 := hy.cell d5
  replace hx := hx.trans hy
  replace hT3 := hT3.ext hy
  clear hy
  go_wp2_with fail
  refine (CheckApart_any _ _ _ _ _ _ _ _).mono ?_
  rintro e w8 ⟨rfl, hy⟩
  replace d0 := hy.cell d0
  replace d1 := hy.cell d1
  replace d2 := hy.cell d2
  replace d3 := hy.cell d3
  replace d4 := hy.cell d4
  replace d5 := hy.cell d5
  replace hx := hx.trans hy
  replace hT3 := hT3.ext hy
  clear hy
  by_cases hL3 : 3000 < L
  · go_wp2_with fail
    refine (sanity_any _ hT3).mono ?_
    rintro e w9 ⟨rfl, hx9⟩
    go_wp2_with fail
    go_ret
    exact ⟨rfl, hx.trans hx9⟩
  · go_wp2_with fail
    go_loopw [18, 19] (fun c i wr => ∃ j : Nat, j ≤ L.toNat ∧ i = .int .i64 (u + j) ∧ c = .int .i64 (cntTo p f l q g k u j) ∧ Two6 p f l q g k w.heap.size wr ∧ Ext w8 wr) (fun _ i _ => (u + L - intOf i).toNat)
    case atStart => exact ⟨0, Nat.zero_le _, by simp, rfl, ⟨d0, d1, d2, d3, d4, d5⟩, (by repeat (first | exact Ext.refl _ | assumption | refine Ext.alloc ?_ _ | refine Ext.drew ?_ | refine Ext.drewN _ ?_ | refine Ext.trans ?_ (by assumption)))⟩
    case round =>
      clear d0 d1 d2 d3 d4 d5
      obtain ⟨j, hj, rfl, rfl, ⟨d0, d1, d2, d3, d4, d5⟩, hy⟩ := hrel
      have hcb := cntTo_bound p f l q g k u j
      by_cases hlt : j < L.toNat
      · have hct := @cntTo_t p f l q g k u j
        have hcf := @cntTo_f p f l q g k u j
        have hmm := HM.out (u + j)
        have hte : (u + (j : Int)).tmod L = (u + j) % L := Int.tmod_eq_emod_of_nonneg (by omega)
        generalize hcj : cntTo p f l q g k u j = cj at *
        cases i5 : tnIn p f l (u + j)
        · have HC2 := Lib.hid (hcf (by unfold comB; rw [i5]; rfl))
          have I5 := Lib.hid i5
          clear i5 hct hcf hmm hte hcj
          go_wp2_with fail
          refine (lawInTurn_any p f l (u + j) _ hv (by omega) (by omega)).mono ?_
          rw [I5.out]
          rintro e w9 ⟨rfl, hz⟩
          replace d0 := hz.cell d0; replace d1 := hz.cell d1; replace d2 := hz.cell d2; replace d3 := hz.cell d3; replace d4 := hz.cell d4; replace d5 := hz.cell d5
          go_wp2_with fail
          go_roundw
          case rel => exact ⟨j + 1, by omega, by go_num, by rw [HC2.out], ⟨d0, d1, d2, d3, d4, d5⟩, hy.trans hz⟩
          case measure => simp [intOf]; omega
        · cases i6 : tnIn q g k (u + j)
          · have HC2 := Lib.hid (hcf (by unfold comB; rw [i5, i6]; rfl))
            have I5 := Lib.hid i5
            have I6 := Lib.hid i6
            clear i5 i6 hct hcf hmm hte hcj
            go_wp2_with fail
            refine (lawInTurn_any p f l (u + j) _ hv (by omega) (by omega)).mono ?_
            rw [I5.out]
            rintro e w9 ⟨rfl, hz⟩
            replace d0 := hz.cell d0; replace d1 := hz.cell d1; replace d2 := hz.cell d2; replace d3 := hz.cell d3; replace d4 := hz.cell d4; replace d5 := hz.cell d5
            go_wp2_with fail
            refine (lawInTurn_any q g k (u + j) _ hv2 (by omega) (by omega)).mono ?_
            rw [I6.out]
            rintro e w10 ⟨rfl, hz2⟩
            replace d0 := hz2.cell d0; replace d1 := hz2.cell d1; replace d2 := hz2.cell d2; replace d3 := hz2.cell d3; replace d4 := hz2.cell d4; replace d5 := hz2.cell d5
            go_wp2_with fail
            go_roundw
            case rel => exact ⟨j + 1, by omega, by go_num, by rw [HC2.out], ⟨d0, d1, d2, d3, d4, d5⟩, (hy.trans hz).trans hz2⟩
            case measure => simp [intOf]; omega
          · have hb : comB p f l q g k (u + j) = true := by unfold comB; rw [i5, i6]; rfl
            have HC2 := Lib.hid (hct hb)
            have hge := hmm hb
            have hge2 : (n : Int) ≤ (u + (j : Int)).tmod L := by rw [hte]; exact hge
            have I5 := Lib.hid i5
            have I6 := Lib.hid i6
            clear i5 i6 hct hcf hmm hte hcj hb
            go_wp2_with fail
            refine (lawInTurn_any p f l (u + j) _ hv (by omega) (by omega)).mono ?_
            rw [I5.out]
            rintro e w9 ⟨rfl, hz⟩
            replace d0 := hz.cell d0; replace d1 := hz.cell d1; replace d2 := hz.cell d2; replace d3 := hz.cell d3; replace d4 := hz.cell d4; replace d5 := hz.cell d5
            go_wp2_with fail
            refine (lawInTurn_any q g k (u + j) _ hv2 (by omega) (by omega)).mono ?_
            rw [I6.out]
            rintro e w10 ⟨rfl, hz2⟩
            replace d0 := hz2.cell d0; replace d1 := hz2.cell d1; replace d2 := hz2.cell d2; replace d3 := hz2.cell d3; replace d4 := hz2.cell d4; replace d5 := hz2.cell d5
            go_wp2_with fail
            go_roundw
            case rel => exact ⟨j + 1, by omega, by go_num, by rw [HC2.out], ⟨d0, d1, d2, d3, d4, d5⟩, (hy.trans hz).trans hz2⟩
            case measure => simp [intOf]; omega
      · obtain rfl : j = L.toNat := by omega
        have hyw : Ext w wr := hx.trans hy
        have hTr := hT3.ext hy
        rw [HW.out]
        go_wp2_with fail
        refine (sanity_any _ hTr).mono ?_
        rintro e w9 ⟨rfl, hx9⟩
        go_wp2_with fail
        go_ret
        exact ⟨ret_bool (by simp), hyw.trans hx9⟩

set_option maxRecDepth 100000 in
set_option maxHeartbeats 8000000 in
theorem Residues_none (p f l q g k m u : Int) (w : World) (hT : Tab w) (hv : tnB p f l = true) (hv2 : tnB q g k = true) (hN : firstN p f l q g k = none) (hu : 0 ≤ u) (hu2 : u ≤ 65535) :
    Calls Tryd.prog 5 #[.agg #[.int .i64 p, .int .i64 f, .int .i64 l], .agg #[.int .i64 q, .int .i64 g, .int .i64 k], .int .i64 m, .int .u16 u] w fun e w' => e = .returned (.bool true) ∧ Ext w w' := by
  have ha := tnB_t hv
  have hc := tnB_t hv2
  have hE : pairE p f l q g k = 0 := by simp [pairE, hv, hv2]
  have hA := apt_first hv hv2
  rw [hN] at hA
  obtain ⟨i, hAN⟩ : ∃ i, aptN p f l q g k = some i := by
    cases h : aptN p f l q g k with
    | none => rw [h] at hA; cases hA
    | some i => exact ⟨i, rfl⟩
  have hig := (aptN_some hAN).1
  have h1 : firstE p f l q g k = 5 := by unfold firstE; rw [if_pos hE, hN]; rfl
  have h2 : firstX p f l q g k = 0 := by unfold firstX; rw [if_pos hE, hN]
  have h3 : aptX p f l q g k = (i : Int) + 1 := by unfold aptX; rw [if_pos hE, hAN]
  have h4 : aptB p f l q g k = true := by unfold aptB; rw [if_pos hE, hAN]; rfl
  have hof := (oft_first hv hv2).2 hN
  have h5 : oftX p f l q g k = 0 := by unfold oftX; rw [if_pos hE, hof]
  have h6 : oftL p f l q g k = lcmI p q := by unfold oftL; rw [if_pos hE]
  have h7 : chaE p f l q g k m = 0 → (i : Int) + 1 ≤ m := by
    intro h
    unfold chaE at h
    rw [if_pos hE] at h
    split at h
    · rename_i hh
      obtain ⟨i', hi, hle⟩ := cha_apt hv hv2 hh
      rw [hAN] at hi
      injection hi with hi
      omega
    · cases h
  have h8 : chaE p f l q g k ((i : Int) + 1) = 0 := apt_cha hv hv2 hAN
  have hgl := gcdI_le ha.1 hc.1
  have hlm := lcm_mod ha.1 hc.1
  have hll := lcmI_le ha.1 ha.2.1 hc.1 hc.2.1
  have hwin := oft_window hv hv2 u
  rw [hof] at hwin
  have hno : ∀ x, comB p f l q g k x = false := fun x => by
    rw [← comB_mod ha.1 hc.1]
    exact firstN_none hN _ (Int.emod_nonneg _ (by omega)) (Int.emod_lt_of_pos _ (by omega))
  have hF : ResF p q 0 (lcmI p q) 0 := ⟨by omega, by omega, hll.1, hll.2, by omega, by omega, by rw [Int.tmod_eq_emod_of_nonneg (by omega)]; exact hlm.1, by rw [Int.tmod_eq_emod_of_nonneg (by omega)]; exact hlm.2, hlm.1, hlm.2⟩
  obtain ⟨M, hM⟩ : ∃ M : Int, (i : Int) + 1 = M := ⟨_, rfl⟩
  have hi0 : 1 ≤ M := by omega
  have hi1 : M ≤ 40321 := by omega
  rw [hM] at h3 h7 h8
  have H1 := Lib.hid h1; have H2 := Lib.hid h2; have H3 := Lib.hid h3; have H4 := Lib.hid h4; have H5 := Lib.hid h5; have H6 := Lib.hid h6; have HE := Lib.hid hE
  have H7 := Lib.hid h7; have H8 := Lib.hid h8; have HNO := Lib.hid hno
  obtain ⟨L, hL⟩ : ∃ L, lcmI p q = L := ⟨_, rfl⟩
  have hwin2 : cntTo p f l q g k u L.toNat = 0 := by rw [← hL]; exact hwin
  rw [hL] at hF
  have HL := Lib.hid hL; have HW := Lib.hid hwin2
  obtain ⟨f1, f2, f3, f4, f5, f6, f7, f8, f9, f10⟩ := hF
  have hp0 : (p == 0) = false := by rw [beq_eq_false_iff_ne]; omega
  have hq0 : (q == 0) = false := by rw [beq_eq_false_iff_ne]; omega
  clear f1 f5 f6 hM h1 h2 h3 h4 h5 h6 h7 h8 hE hA hAN hL hwin hwin2 hno hof hll hlm hN hig hgl
  go_enter Tryd.func5, Tryd.ntmps5
  go_wp2_with fail
  refine (First_any _ _ _ _ _ _ _).mono ?_
  rw [H1.out, H2.out]
  rintro e w1 ⟨rfl, hx1⟩
  obtain ⟨q0, q1, hx, hzz⟩ := alloc2 hx1
  clear hx1
  have d0 : w1.cell? ⟨w.heap.size, 0, none⟩ = some (.int .i64 p) := q0.cell 0
  have d1 : w1.cell? ⟨w.heap.size, 1, none⟩ = some (.int .i64 f) := q0.cell 1
  have d2 : w1.cell? ⟨w.heap.size, 2, none⟩ = some (.int .i64 l) := q0.cell 2
  have d3 : w1.cell? ⟨w.heap.size + 1, 0, none⟩ = some (.int .i64 q) := q1.cell 0
  have d4 : w1.cell? ⟨w.heap.size + 1, 1, none⟩ = some (.int .i64 g) := q1.cell 1
  have d5 : w1.cell? ⟨w.heap.size + 1, 2, none⟩ = some (.int .i64 k) := q1.cell 2
  clear q0 q1
  go_wp2_with fail
  refine (Apart_any _ _ _ _ _ _ _).mono ?_
  rw [HE.out, H3.out, H4.out]
  rintro e w2 ⟨rfl, hx2⟩
  replace d0 := hx2.cell d0
  replace d1 := hx2.cell d1
  replace d2 := hx2.cell d2
  replace d3 := hx2.cell d3
  replace d4 := hx2.cell d4
  replace d5 := hx2.cell d5
  replace hx := hx.trans hx2
  clear hx2
  go_wp2_with fail
  refine (Often_any _ _ _ _ _ _ _).mono ?_
  rw [HE.out, H5.out, H6.out, HL.out]
  rintro e w3 ⟨rfl, hx3⟩
  replace d0 := hx3.cell d0
  replace d1 := hx3.cell d1
  replace d2 := hx3.cell d2
  replace d3 := hx3.cell d3
  replace d4 := hx3.cell d4
  replace d5 := hx3.cell d5
  replace hx := hx.trans hx3
  clear hx3
  have hT3 := hT.ext hx
  clear hT
  go_wp2_with fail
  refine (CheckApart_any _ _ _ _ _ _ _ _).mono ?_
  rintro e w8 ⟨rfl, hy⟩
  replace d0 := hy.cell d0
  replace d1 := hy.cell d1
  replace d2 := hy.cell d2
  replace d3 := hy.cell d3
  replace d4 := hy.cell d4
  replace d5 := hy.cell d5
  replace hx := hx.trans hy
  replace hT3 := hT3.ext hy
  clear hy
  have hmi : chaE p f l q g k m = 0 → ¬ m < M := fun h => by have := H7.out h; omega
  have HMI := Lib.hid hmi
  clear hmi
  obtain ⟨ce, hce⟩ : ∃ ce, chaE p f l q g k m = ce := ⟨_, rfl⟩
  rw [hce] at HMI ⊢
  clear hce
  cases hcb : (ce == 0)
  · go_wp2_with fail
    refine (CheckApart_any _ _ _ _ _ _ _ _).mono ?_
    rw [H8.out]
    rintro e w9 ⟨rfl, hy⟩
    replace d0 := hy.cell d0
    replace d1 := hy.cell d1
    replace d2 := hy.cell d2
    replace d3 := hy.cell d3
    replace d4 := hy.cell d4
    replace d5 := hy.cell d5
    replace hx := hx.trans hy
    replace hT3 := hT3.ext hy
    clear hy
    by_cases hL3 : 3000 < L
    · go_wp2_with fail
      refine (sanity_any _ hT3).mono ?_
      rintro e w11 ⟨rfl, hx11⟩
      go_wp2_with fail
      go_ret
      exact ⟨rfl, hx.trans hx11⟩
    · go_wp2_with fail
      go_loopw [18, 19] (fun c i wr => ∃ j : Nat, j ≤ L.toNat ∧ i = .int .i64 (u + j) ∧ c = .int .i64 (cntTo p f l q g k u j) ∧ Two6 p f l q g k w.heap.size wr ∧ Ext w9 wr) (fun _ i _ => (u + L - intOf i).toNat)
      case atStart => exact ⟨0, Nat.zero_le _, by simp, rfl, ⟨d0, d1, d2, d3, d4, d5⟩, (by repeat (first | exact Ext.refl _ | assumption | refine Ext.alloc ?_ _ | refine Ext.drew ?_ | refine Ext.drewN _ ?_ | refine Ext.trans ?_ (by assumption)))⟩
      case round =>
        clear d0 d1 d2 d3 d4 d5
        obtain ⟨j, hj, rfl, rfl, ⟨d0, d1, d2, d3, d4, d5⟩, hy⟩ := hrel
        have hcb := cntTo_bound p f l q g k u j
        by_cases hlt : j < L.toNat
        · have hct := @cntTo_t p f l q g k u j
          have hcf := @cntTo_f p f l q g k u j
          generalize hcj : cntTo p f l q g k u j = cj at *
          cases i5 : tnIn p f l (u + j)
          · have HC2 := Lib.hid (hcf (by unfold comB; rw [i5]; rfl))
            have I5 := Lib.hid i5
            clear i5 hcf hcj
            go_wp2_with fail
            refine (lawInTurn_any p f l (u + j) _ hv (by omega) (by omega)).mono ?_
            rw [I5.out]
            rintro e w11 ⟨rfl, hz⟩
            replace d0 := hz.cell d0; replace d1 := hz.cell d1; replace d2 := hz.cell d2; replace d3 := hz.cell d3; replace d4 := hz.cell d4; replace d5 := hz.cell d5
            go_wp2_with fail
            go_roundw
            case rel => exact ⟨j + 1, by omega, by go_num, by rw [HC2.out], ⟨d0, d1, d2, d3, d4, d5⟩, hy.trans hz⟩
            case measure => simp [intOf]; omega
          · cases i6 : tnIn q g k (u + j)
            · have HC2 := Lib.hid (hcf (by unfold comB; rw [i5, i6]; rfl))
              have I5 := Lib.hid i5
              have I6 := Lib.hid i6
              clear i5 i6 hcf hcj
              go_wp2_with fail
              refine (lawInTurn_any p f l (u + j) _ hv (by omega) (by omega)).mono ?_
              rw [I5.out]
              rintro e w11 ⟨rfl, hz⟩
              replace d0 := hz.cell d0; replace d1 := hz.cell d1; replace d2 := hz.cell d2; replace d3 := hz.cell d3; replace d4 := hz.cell d4; replace d5 := hz.cell d5
              go_wp2_with fail
              refine (lawInTurn_any q g k (u + j) _ hv2 (by omega) (by omega)).mono ?_
              rw [I6.out]
              rintro e w12 ⟨rfl, hz2⟩
              replace d0 := hz2.cell d0; replace d1 := hz2.cell d1; replace d2 := hz2.cell d2; replace d3 := hz2.cell d3; replace d4 := hz2.cell d4; replace d5 := hz2.cell d5
              go_wp2_with fail
              go_roundw
              case rel => exact ⟨j + 1, by omega, by go_num, by rw [HC2.out], ⟨d0, d1, d2, d3, d4, d5⟩, (hy.trans hz).trans hz2⟩
              case measure => simp [intOf]; omega
            · have hb := HNO.out (u + j)
              unfold comB at hb
              rw [i5, i6] at hb
              cases hb
        · obtain rfl : j = L.toNat := by omega
          have hyw : Ext w wr := hx.trans hy
          have hTr := hT3.ext hy
          rw [HW.out]
          go_wp2_with fail
          refine (sanity_any _ hTr).mono ?_
          rintro e w11 ⟨rfl, hx11⟩
          go_wp2_with fail
          go_ret
          exact ⟨ret_bool (by simp), hyw.trans hx11⟩
  · have hmm : ¬ m < M := HMI.out (by simpa using hcb)
    go_wp2_with fail
    refine (CheckApart_any _ _ _ _ _ _ _ _).mono ?_
    rw [H8.out]
    rintro e w9 ⟨rfl, hy⟩
    replace d0 := hy.cell d0
    replace d1 := hy.cell d1
    replace d2 := hy.cell d2
    replace d3 := hy.cell d3
    replace d4 := hy.cell d4
    replace d5 := hy.cell d5
    replace hx := hx.trans hy
    replace hT3 := hT3.ext hy
    clear hy
    by_cases hL3 : 3000 < L
    · go_wp2_with fail
      refine (sanity_any _ hT3).mono ?_
      rintro e w11 ⟨rfl, hx11⟩
      go_wp2_with fail
      go_ret
      exact ⟨rfl, hx.trans hx11⟩
    · go_wp2_with fail
      go_loopw [18, 19] (fun c i wr => ∃ j : Nat, j ≤ L.toNat ∧ i = .int .i64 (u + j) ∧ c = .int .i64 (cntTo p f l q g k u j) ∧ Two6 p f l q g k w.heap.size wr ∧ Ext w9 wr) (fun _ i _ => (u + L - intOf i).toNat)
      case atStart => exact ⟨0, Nat.zero_le _, by simp, rfl, ⟨d0, d1, d2, d3, d4, d5⟩, (by repeat (first | exact Ext.refl _ | assumption | refine Ext.alloc ?_ _ | refine Ext.drew ?_ | refine Ext.drewN _ ?_ | refine Ext.trans ?_ (by assumption)))⟩
      case round =>
        clear d0 d1 d2 d3 d4 d5
        obtain ⟨j, hj, rfl, rfl, ⟨d0, d1, d2, d3, d4, d5⟩, hy⟩ := hrel
        have hcb := cntTo_bound p f l q g k u j
        by_cases hlt : j < L.toNat
        · have hct := @cntTo_t p f l q g k u j
          have hcf := @cntTo_f p f l q g k u j
          generalize hcj : cntTo p f l q g k u j = cj at *
          cases i5 : tnIn p f l (u + j)
          · have HC2 := Lib.hid (hcf (by unfold comB; rw [i5]; rfl))
            have I5 := Lib.hid i5
            clear i5 hcf hcj
            go_wp2_with fail
            refine (lawInTurn_any p f l (u + j) _ hv (by omega) (by omega)).mono ?_
            rw [I5.out]
            rintro e w11 ⟨rfl, hz⟩
            replace d0 := hz.cell d0; replace d1 := hz.cell d1; replace d2 := hz.cell d2; replace d3 := hz.cell d3; replace d4 := hz.cell d4; replace d5 := hz.cell d5
            go_wp2_with fail
            go_roundw
            case rel => exact ⟨j + 1, by omega, by go_num, by rw [HC2.out], ⟨d0, d1, d2, d3, d4, d5⟩, hy.trans hz⟩
            case measure => simp [intOf]; omega
          · cases i6 : tnIn q g k (u + j)
            · have HC2 := Lib.hid (hcf (by unfold comB; rw [i5, i6]; rfl))
              have I5 := Lib.hid i5
              have I6 := Lib.hid i6
              clear i5 i6 hcf hcj
              go_wp2_with fail
              refine (lawInTurn_any p f l (u + j) _ hv (by omega) (by omega)).mono ?_
              rw [I5.out]
              rintro e w11 ⟨rfl, hz⟩
              replace d0 := hz.cell d0; replace d1 := hz.cell d1; replace d2 := hz.cell d2; replace d3 := hz.cell d3; replace d4 := hz.cell d4; replace d5 := hz.cell d5
              go_wp2_with fail
              refine (lawInTurn_any q g k (u + j) _ hv2 (by omega) (by omega)).mono ?_
              rw [I6.out]
              rintro e w12 ⟨rfl, hz2⟩
              replace d0 := hz2.cell d0; replace d1 := hz2.cell d1; replace d2 := hz2.cell d2; replace d3 := hz2.cell d3; replace d4 := hz2.cell d4; replace d5 := hz2.cell d5
              go_wp2_with fail
              go_roundw
              case rel => exact ⟨j + 1, by omega, by go_num, by rw [HC2.out], ⟨d0, d1, d2, d3, d4, d5⟩, (hy.trans hz).trans hz2⟩
              case measure => simp [intOf]; omega
            · have hb := HNO.out (u + j)
              unfold comB at hb
              rw [i5, i6] at hb
              cases hb
        · obtain rfl : j = L.toNat := by omega
          have hyw : Ext w wr := hx.trans hy
          have hTr := hT3.ext hy
          rw [HW.out]
          go_wp2_with fail
          refine (sanity_any _ hTr).mono ?_
          rintro e w11 ⟨rfl, hx11⟩
          go_wp2_with fail
          go_ret
          exact ⟨ret_bool (by simp), hyw.trans hx11⟩

theorem TurnResidues_any (p f l q g k m u : Int) (w : World) (hT : Tab w) (hu : (Lit.int .u16 u).wf = true) :
    Calls Tryd.prog 5 #[.agg #[.int .i64 p, .int .i64 f, .int .i64 l], .agg #[.int .i64 q, .int .i64 g, .int .i64 k], .int .i64 m, .int .u16 u] w fun e w' => e = .returned (.bool true) ∧ Ext w w' := by
  have hu2 : 0 ≤ u ∧ u ≤ 65535 := by
    have h := hu
    simp only [Lit.wf, Bool.and_eq_true, decide_eq_true_eq] at h
    exact ⟨h.1, h.2⟩
  by_cases hE : pairE p f l q g k = 0
  · obtain ⟨hv, hv2⟩ := pair_ok hE
    cases hN : firstN p f l q g k with
    | none => exact Residues_none p f l q g k m u w hT hv hv2 hN hu2.1 hu2.2
    | some n => exact Residues_some p f l q g k m u n w hT hv hv2 hN hu2.1 hu2.2
  · exact Residues_no p f l q g k m u w hT hE
end Go.Proofs.YtejmmfjabmmihaaDoor
namespace Go.Proofs.YtejmmfjabmmihaaDoor.turnResidues
open Go.ChangeShapes Go.WideShapes Go.ChangeAt Go.RowKit

set_option maxRecDepth 100000 in
theorem contract (H : Type) (enc : TypeId × Value → H) (W : World) (base : Nat) (args : Array Value) (ds gs : List (DataW H)) (before : List MemPlace)
    (hval : ∀ (j : Nat) t v, Tryd.f5.params[j]? = some t → args[j]? = some v → Value.okWide Tryd.prog W .any base t v)
    (hW : DataW.Whole enc Tryd.prog Tryd.f5.params.toList Rows.turnResiduesSpec.vars false W args.toList ds gs before) (hL : laidMetH Tryd.prog Rows.turnResiduesRow.laid W) :
    Calls Tryd.prog 5 args W fun e W' => ∃ v, e = .returned v ∧ Rows.turnResiduesSpec.post enc Tryd.prog Tryd.f5 false true false false W args v W' := by
  have hW' := hW
  obtain ⟨p, q, hA, hV, rfl, hfz, hnd⟩ := hW
  rw [show Tryd.f5.params = #[23, 23, 3, 44] from rfl] at hA hval
  obtain ⟨v0, vs0, d0, ds0, p0, q0, hargs, rfl, rfl, h0, r0⟩ := trodAll_cons hA
  obtain ⟨v1, vs1, d1, ds1, p1, q1, rfl, rfl, rfl, h1, r1⟩ := trodAll_cons r0
  obtain ⟨v2, vs2, d2, ds2, p2, q2, rfl, rfl, rfl, h2, r2⟩ := trodAll_cons r1
  obtain ⟨v3, vs3, d3, ds3, p3, q3, rfl, rfl, rfl, h3, r3⟩ := trodAll_cons r2
  obtain ⟨rfl, rfl, rfl⟩ := trodAll_nil r3
  obtain rfl : args = #[v0, v1, v2, v3] := by cases args; simp_all
  obtain ⟨rfl, rfl⟩ := trodVars_none hV
  obtain ⟨x0, y0, z0, rfl⟩ := open_turn (hval 0 23 v0 rfl rfl) h0
  obtain ⟨x1, y1, z1, rfl⟩ := open_turn (hval 1 23 v1 rfl rfl) h1
  obtain ⟨x2, rfl, hd2, hp2, hf2⟩ := open_int Tryd.underlying3 (hval 2 3 v2 rfl rfl) h2
  obtain ⟨x3, rfl, hd3, hp3, hf3⟩ := open_int Tryd.underlying44 (hval 3 44 v3 rfl rfl) h3
  refine (TurnResidues_any _ _ _ _ _ _ _ _ W (tab_of hL) hf3).mono fun e W' ⟨he, hg⟩ => ?_
  subst he
  refine ⟨_, rfl, post_true hW' rfl rfl ⟨rfl, rfl, rfl⟩ ?_ hg⟩
  rw [show Tryd.f5.params = #[23, 23, 3, 44] from rfl]
  intro t ht
  simp only [List.mem_cons, List.not_mem_nil, or_false] at ht
  rcases ht with rfl | rfl | rfl | rfl <;> exact ⟨by kernel_rfl, of_decide_eq_true (by kernel_rfl)⟩

noncomputable def wArgs : Array Value := #[.agg #[.int .i64 0, .int .i64 0, .int .i64 0], .agg #[.int .i64 0, .int .i64 0, .int .i64 0], .int .i64 0, .int .u16 0]
set_option maxRecDepth 100000 in
theorem laid_met (os : Os) : laidMet Tryd.prog Rows.turnResiduesRow.laid ((laidWorld os).forCall (fun _ _ => 0) ⟨#[], wArgs, []⟩).memory :=
  laidMet_of_run' 8 (by kernel_rfl) (by kernel_rfl)
set_option maxRecDepth 100000 in
theorem reads (os : Os) {H : Type} (enc : TypeId × Value → H) : ∃ x places, DataW.whole enc Tryd.prog ((laidWorld os).forCall (fun _ _ => 0) ⟨#[], wArgs, []⟩).memory Tryd.f5.params.toList Rows.turnResiduesSpec.vars false wArgs.toList 8 = some (x, [], places) :=
  ⟨[.agg [.lit (.int .i64 0), .lit (.int .i64 0), .lit (.int .i64 0)], .agg [.lit (.int .i64 0), .lit (.int .i64 0), .lit (.int .i64 0)], .lit (.int .i64 0), .lit (.int .u16 0)], [], by kernel_rfl⟩

set_option maxRecDepth 100000 in
theorem lifted (os : Os) (started : os.Started) (H : Type) (enc : TypeId × Value → H) (F : Stop.Interp) :
    ReturnsInHanded {} Tryd.checked os 5 .any ((OpenSpec.ofChange Rows.turnResiduesSpec).preRow enc Tryd.prog Tryd.f5 Rows.turnResiduesRow.domain false Rows.turnResiduesRow.laid) (((OpenSpec.ofChange Rows.turnResiduesSpec).at F).post enc Tryd.prog Tryd.f5 false true false false) := by
  obtain ⟨x, places, hx⟩ := reads os enc
  refine returnsInHanded_of_row (C := Tryd.checked) (s := OpenSpec.ofChange Rows.turnResiduesSpec) own started (by kernel_rfl) Tryd.func5
    (witness_row_at (enc := enc) (C := Tryd.checked) false (laidWorld os) wArgs rfl (by kernel_rfl) (by kernel_rfl) (by kernel_rfl)
      (OpenSpec.preRow_of_cond 8 hx (by kernel_rfl) (fun k hk => by cases hk) (by kernel_rfl) (laid_met os))) ?_
  intro W base args ds gs before hval hW _ _ _ hL _ _
  exact contract H enc W base args ds gs before hval hW hL

set_option maxRecDepth 100000 in
theorem said : Rows.TurnResiduesSaid :=
  OpenClaim.holds_of_cond 5 Tryd.f5 rfl rfl rfl rfl rfl rfl rfl ⟨rfl, rfl, rfl, rfl, rfl⟩ rfl rfl rfl rfl rfl (by kernel_rfl) Tryd.func5 (by kernel_rfl)
    (of_decide_eq_true (by kernel_rfl)) (by unfold Func.isWrapper; first | (rw [if_pos (by decide +kernel)]; kernel_rfl) | (rw [if_neg (by decide +kernel)]; exact ⟨rfl, rfl⟩))
    (fun os started H enc _ F => by rw [OpenClaim.pre_eq_preRow]; exact lifted os started H enc F)

set_option maxRecDepth 100000 in
theorem plain (f : FuncId) (fn : Func) (hf : Tryd.pinned.checked.prog.funcNamed "drowner/drownerlaw01.TurnResidues" = some f) (hfn : Tryd.pinned.checked.prog.funcs[f]? = some fn) :
    false = Tryd.pinned.checked.prog.looks [] ∧ ∀ (j : Nat) t, fn.params[j]? = some t → Tryd.pinned.checked.prog.wantsStandIn t = false := by
  obtain rfl : f = 5 := Option.some.inj ((show Tryd.prog.funcNamed "drowner/drownerlaw01.TurnResidues" = some 5 by kernel_rfl).symm.trans hf) |>.symm
  obtain rfl : fn = Tryd.f5 := (Option.some.inj (Tryd.func5.symm.trans hfn)).symm
  refine ⟨by kernel_rfl, fun j t ht => ?_⟩
  rw [show Tryd.f5.params = #[23, 23, 3, 44] from rfl] at ht
  have hm := Array.mem_of_getElem? ht
  simp only [List.mem_toArray, List.mem_cons, List.not_mem_nil, or_false] at hm
  rcases hm with rfl | rfl | rfl | rfl
  · exact (show Tryd.prog.wantsStandIn 23 = false by kernel_rfl)
  · exact (show Tryd.prog.wantsStandIn 23 = false by kernel_rfl)
  · exact (show Tryd.prog.wantsStandIn 3 = false by kernel_rfl)
  · exact (show Tryd.prog.wantsStandIn 44 = false by kernel_rfl)

set_option maxRecDepth 100000 in
theorem card : Rows.TurnResiduesCardSaid :=
  Claim7.holds_tied_plain_at .later [] _ _ _ _ said (fun _ h => by cases h) (by kernel_rfl) (fun _ h => by cases h) turnResidues_row_tie rfl ⟨rfl, rfl⟩ (by kernel_rfl) rfl plain (by kernel_rfl)
end Go.Proofs.YtejmmfjabmmihaaDoor.turnResidues
