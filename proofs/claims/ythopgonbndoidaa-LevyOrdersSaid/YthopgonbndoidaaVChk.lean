/- Check of the program. -/
import Derived.Test.YthopgonbndoidaaVSeq
import Derived.Deep.DeepCutAuto
import Derived.Deep.RegionHeld3
namespace Go.Proofs.Ythopgonbndoidaa
open Go.RowKit Go.Shelf

theorem rcB_t {k : Nat} {r : Rc} (h : rcB k r = true) : inB r.above (-1) ((k : Int) - 1) = true ∧ inB r.cost 0 65536 = true := by simpa [rcB] using h
theorem rcB_f {k : Nat} {r : Rc} (h : rcB k r = false) : inB r.above (-1) ((k : Int) - 1) = false ∨ inB r.above (-1) ((k : Int) - 1) = true ∧ inB r.cost 0 65536 = false := by
  unfold rcB at h
  cases h1 : inB r.above (-1) ((k : Int) - 1)
  · exact .inl rfl
  · rw [h1] at h; exact .inr ⟨rfl, by simpa using h⟩
theorem pyB_t {n : Nat} {p : Py} (h : pyB n p = true) : inB p.id 1 1099511627776 = true ∧ inB p.reach 0 ((n : Int) - 1) = true ∧ 1 ≤ p.w := by
  simp only [pyB, Bool.and_eq_true, decide_eq_true_eq] at h; exact ⟨h.1.1, h.1.2, h.2⟩
theorem pyB_f {n : Nat} {p : Py} (h : pyB n p = false) : inB p.id 1 1099511627776 = false ∨ inB p.id 1 1099511627776 = true ∧ inB p.reach 0 ((n : Int) - 1) = false ∨ inB p.id 1 1099511627776 = true ∧ inB p.reach 0 ((n : Int) - 1) = true ∧ p.w < 1 := by
  unfold pyB at h
  cases h1 : inB p.id 1 1099511627776
  · exact .inl rfl
  · rw [h1] at h
    cases h2 : inB p.reach 0 ((n : Int) - 1)
    · exact .inr (.inl ⟨rfl, rfl⟩)
    · rw [h2] at h
      simp at h
      exact .inr (.inr ⟨rfl, rfl, by omega⟩)
theorem chk_big {T : Tr} (h : 24 < T.rs.length ∨ 24 < T.ps.length) : chkE T = 2 := by unfold chkE; rw [if_pos h]
theorem chk_rs {T : Tr} (h : ¬ (24 < T.rs.length ∨ 24 < T.ps.length)) (h1 : rsE 0 T.rs = false) : chkE T = 1 := by unfold chkE; rw [if_neg h, if_pos h1]
theorem chk_ps {T : Tr} (h : ¬ (24 < T.rs.length ∨ 24 < T.ps.length)) (h1 : rsE 0 T.rs = true) (E : Int) (h2 : psE T.rs.length [] T.ps = E) (h3 : E ≠ 0) : chkE T = E := by
  unfold chkE; rw [if_neg h, if_neg (by rw [h1]; decide), h2, if_pos h3]
theorem chk_sw {T : Tr} (h : ¬ (24 < T.rs.length ∨ 24 < T.ps.length)) (h1 : rsE 0 T.rs = true) (h2 : psE T.rs.length [] T.ps = 0) : chkE T = if 24 < sumW T.ps then 2 else 0 := by
  unfold chkE; rw [if_neg h, if_neg (by rw [h1]; decide), h2, if_neg (by decide)]

set_option maxRecDepth 100000 in
set_option maxHeartbeats 4000000 in
theorem Check_any (a b : Value) (T : Tr) (w : World) (hT : TrAt w a b T) :
    Calls Try.prog 22 #[.agg #[a, b]] w fun e w' => e = .returned (.int .i64 (chkE T)) ∧ Ext w w' := by
  obtain ⟨aa, ca, rfl, hla⟩ := hT.r.len
  obtain ⟨ab, cb, rfl, hlb⟩ := hT.p.len
  obtain ⟨E, hE⟩ : ∃ E, chkE T = E := ⟨_, rfl⟩
  have HE := Lib.hid hE
  rw [hE]
  clear hE
  by_cases hbig : 24 < T.rs.length ∨ 24 < T.ps.length
  · have hh2 := chk_big hbig
    rw [HE.out] at hh2
    have H2 := Lib.hid hh2
    clear hh2
    by_cases h1 : 24 < T.rs.length
    · clear hbig
      go_enter Try.func22, Try.ntmps22
      go_wp2
      go_ret
      exact ⟨ret_int H2.out.symm, (by repeat (first | exact Ext.refl _ | assumption | refine Ext.alloc ?_ _ | refine Ext.drew ?_ | refine Ext.drewN _ ?_ | refine Ext.trans ?_ (by assumption)))⟩
    · have h2 : 24 < T.ps.length := by omega
      clear hbig
      go_enter Try.func22, Try.ntmps22
      go_wp2
      go_ret
      exact ⟨ret_int H2.out.symm, (by repeat (first | exact Ext.refl _ | assumption | refine Ext.alloc ?_ _ | refine Ext.drew ?_ | refine Ext.drewN _ ?_ | refine Ext.trans ?_ (by assumption)))⟩
  · have h1 : ¬ 24 < T.rs.length := by omega
    have h2 : ¬ 24 < T.ps.length := by omega
    have HB := Lib.hid hbig
    clear hbig
    go_enter Try.func22, Try.ntmps22
    obtain ⟨W1, hW1⟩ : ∃ W1, w.alloc (.cells #[.slice aa T.rs.length ca, .slice ab T.ps.length cb] 25) = W1 := ⟨_, rfl⟩
    have hx1 : Ext w W1 := by rw [← hW1]; exact (by repeat (first | exact Ext.refl _ | assumption | refine Ext.alloc ?_ _ | refine Ext.drew ?_ | refine Ext.drewN _ ?_ | refine Ext.trans ?_ (by assumption)))
    have q1 : Cls w.heap.size 25 #[.slice aa T.rs.length ca, .slice ab T.ps.length cb] W1 := by rw [← hW1]; exact Cls.new _ _ _
    have d0 : W1.cell? ⟨w.heap.size, 0, none⟩ = some (.slice aa T.rs.length ca) := q1.cell 0
    have d1 : W1.cell? ⟨w.heap.size, 1, none⟩ = some (.slice ab T.ps.length cb) := q1.cell 1
    have hT1 := hT.ext hx1
    go_upto_region 1 with fail
    try rw [hW1]
    clear hW1 q1
    go_wp2_with fail
    go_loopw [21] (fun i wr => ∃ k : Nat, k ≤ T.rs.length ∧ i = .int .i64 k ∧ Hid (rsE 0 T.rs = rsE k (T.rs.drop k)) ∧ Ext W1 wr) (fun i _ => T.rs.length - (intOf i).toNat)
    case atStart => exact ⟨0, Nat.zero_le _, rfl, Lib.hid rfl, Ext.refl _⟩
    case round =>
      obtain ⟨k, hk, rfl, HK, hx⟩ := hrel
      by_cases hlt : k < T.rs.length
      · obtain ⟨bb, oo, rfl, c0, c1⟩ := (hT1.r.ext hx).get k hlt
        have hgood := rsE_step hlt
        have hbad := rsE_bad hlt
        rw [← HK.out] at hgood hbad
        have ht := @rcB_t k T.rs[k]
        have hf := @rcB_f k T.rs[k]
        obtain ⟨Bv, hBv⟩ : ∃ v, rcB k T.rs[k] = v := ⟨_, rfl⟩
        rw [hBv] at hgood hbad ht hf
        obtain ⟨x, hxx⟩ : ∃ x, T.rs[k].above = x := ⟨_, rfl⟩
        obtain ⟨y, hyy⟩ : ∃ y, T.rs[k].cost = y := ⟨_, rfl⟩
        rw [hxx] at c0 ht hf
        rw [hyy] at c1 ht hf
        clear hxx hyy hBv
        cases Bv
        · have HX := Lib.hid (chk_rs HB.out (hbad rfl))
          have hfx := hf rfl
          rw [HE.out] at HX
          clear ht hf hgood hbad
          rcases hfx with h3 | ⟨h3, h4⟩
          · go_wp2_with (go_at_call 64; refine (within_any _ _ _ _).mono ?_; rw [h3]; rintro e w2 ⟨rfl, rfl⟩)
            go_ret
            exact ⟨ret_int HX.out.symm, Ext.trans (hx1.trans hx) (by repeat (first | exact Ext.refl _ | assumption | refine Ext.alloc ?_ _ | refine Ext.drew ?_ | refine Ext.drewN _ ?_ | refine Ext.trans ?_ (by assumption)))⟩
          · go_wp2_with (go_at_call 64; refine (within_any _ _ _ _).mono ?_; (first | rw [h3] | rw [h4]); rintro e w2 ⟨rfl, rfl⟩)
            go_ret
            exact ⟨ret_int HX.out.symm, Ext.trans (hx1.trans hx) (by repeat (first | exact Ext.refl _ | assumption | refine Ext.alloc ?_ _ | refine Ext.drew ?_ | refine Ext.drewN _ ?_ | refine Ext.trans ?_ (by assumption)))⟩
        · have HG := Lib.hid (hgood rfl)
          obtain ⟨h3, h4⟩ := ht rfl
          clear ht hf hgood hbad
          go_wp2_with (go_at_call 64; refine (within_any _ _ _ _).mono ?_; (first | rw [h3] | rw [h4]); rintro e w2 ⟨rfl, rfl⟩)
          go_roundw
          case rel => exact ⟨k + 1, by omega, by go_num, HG, Ext.trans hx (by repeat (first | exact Ext.refl _ | assumption | refine Ext.alloc ?_ _ | refine Ext.drew ?_ | refine Ext.drewN _ ?_ | refine Ext.trans ?_ (by assumption)))⟩
          case measure => simp [intOf]; omega
      · obtain rfl : k = T.rs.length := by omega
        have hr := HK.out
        simp only [List.drop_length, rsE] at hr
        have HR := Lib.hid hr
        have d2 := hx.cell d1
        have d3 := hx.cell d0
        clear hr
        go_wp2_with fail
        replace hT1 := hT1.ext hx
        replace hx := hx1.trans hx
        clear HK hlt d0 d1 hx1
        obtain ⟨wo, rfl⟩ : ∃ wo : World, wo = wr := ⟨_, rfl⟩
        go_loopw [5, 42] (fun h i wr => ∃ k : Nat, k ≤ T.ps.length ∧ i = .int .i64 k ∧ h = .int .i64 (min (sumW (T.ps.take k)) 25) ∧ Hid (psE T.rs.length [] T.ps = psE T.rs.length (T.ps.take k) (T.ps.drop k)) ∧ Hid (∀ p ∈ T.ps.take k, 1 ≤ p.w) ∧ Ext wo wr) (fun _ i _ => T.ps.length - (intOf i).toNat)
        case atStart => exact ⟨0, Nat.zero_le _, rfl, rfl, Lib.hid rfl, Lib.hid (by simp), Ext.refl _⟩
        case round =>
          obtain ⟨k, hk, rfl, rfl, HK, HW, hx2⟩ := hrel
          have e0 := hx2.cell d2
          have e1 := hx2.cell d3
          by_cases hlt : k < T.ps.length
          · obtain ⟨bb, oo, rfl, c0, c1, c2⟩ := (hT1.p.ext hx2).get k hlt
            have ht := @pyB_t T.rs.length T.ps[k]
            have hf := @pyB_f T.rs.length T.ps[k]
            have hbad := psE_bad (n := T.rs.length) (s := T.ps.take k) hlt
            have htw := psE_twice (n := T.rs.length) (s := T.ps.take k) hlt
            have hst := psE_step (n := T.rs.length) hlt
            rw [← HK.out] at hbad htw hst
            have hsw := sumW_take hlt
            have htk := take_succ_get T.ps k hlt
            obtain ⟨Bv, hBv⟩ : ∃ v, pyB T.rs.length T.ps[k] = v := ⟨_, rfl⟩
            rw [hBv] at hbad htw hst ht hf
            have hid : T.ps[k] = ⟨T.ps[k].id, T.ps[k].reach, T.ps[k].w⟩ := rfl
            obtain ⟨x, hxx⟩ : ∃ x, T.ps[k].id = x := ⟨_, rfl⟩
            obtain ⟨y, hyy⟩ : ∃ y, T.ps[k].reach = y := ⟨_, rfl⟩
            obtain ⟨z, hzz⟩ : ∃ z, T.ps[k].w = z := ⟨_, rfl⟩
            rw [hxx] at c0 ht hf htw hst hid
            rw [hyy] at c1 ht hf hid
            rw [hzz] at c2 ht hf hsw hid
            rw [hid] at htk
            clear hxx hyy hzz hBv hid
            have z1 : (wr.alloc (.cells #[.int .i64 x, .int .i64 y, .int .i64 z] 45)).cell? ⟨w.heap.size, 0, none⟩ = _ := Ext.cell (by repeat (first | exact Ext.refl _ | assumption | refine Ext.alloc ?_ _ | refine Ext.drew ?_ | refine Ext.drewN _ ?_ | refine Ext.trans ?_ (by assumption))) e1
            have z2 : (wr.alloc (.cells #[.int .i64 x, .int .i64 y, .int .i64 z] 45)).cell? ⟨w.heap.size, 1, none⟩ = _ := Ext.cell (by repeat (first | exact Ext.refl _ | assumption | refine Ext.alloc ?_ _ | refine Ext.drew ?_ | refine Ext.drewN _ ?_ | refine Ext.trans ?_ (by assumption))) e0
            cases Bv
            · have HX := Lib.hid (chk_ps HB.out HR.out _ (hbad rfl) (by decide))
              rw [HE.out] at HX
              have hfx := hf rfl
              clear ht hf hbad htw hst hsw htk
              rcases hfx with h3 | ⟨h3, h4⟩ | ⟨h3, h4, h5⟩
              · go_wp2_with (go_at_call 64; refine (within_any _ _ _ _).mono ?_; rw [h3]; rintro e w2 ⟨rfl, rfl⟩)
                go_ret
                exact ⟨ret_int HX.out.symm, hx.trans (Ext.trans hx2 (by repeat (first | exact Ext.refl _ | assumption | refine Ext.alloc ?_ _ | refine Ext.drew ?_ | refine Ext.drewN _ ?_ | refine Ext.trans ?_ (by assumption))))⟩
              · go_wp2_with (go_at_call 64; refine (within_any _ _ _ _).mono ?_; (first | rw [h3] | rw [h4]); rintro e w2 ⟨rfl, rfl⟩)
                go_ret
                exact ⟨ret_int HX.out.symm, hx.trans (Ext.trans hx2 (by repeat (first | exact Ext.refl _ | assumption | refine Ext.alloc ?_ _ | refine Ext.drew ?_ | refine Ext.drewN _ ?_ | refine Ext.trans ?_ (by assumption))))⟩
              · go_wp2_with (go_at_call 64; refine (within_any _ _ _ _).mono ?_; (first | rw [h3] | rw [h4]); rintro e w2 ⟨rfl, rfl⟩)
                go_ret
                exact ⟨ret_int HX.out.symm, hx.trans (Ext.trans hx2 (by repeat (first | exact Ext.refl _ | assumption | refine Ext.alloc ?_ _ | refine Ext.drew ?_ | refine Ext.drewN _ ?_ | refine Ext.trans ?_ (by assumption))))⟩
            · obtain ⟨h3, h4, h5⟩ := ht rfl
              have h6 : ¬ z < 1 := by omega
              go_upto_region 15 with (go_at_call 64; refine (within_any _ _ _ _).mono ?_; (first | rw [h3] | rw [h4]); rintro e w2 ⟨rfl, rfl⟩)
              obtain ⟨Y, hY⟩ : ∃ Y, wr.alloc (.cells #[.int .i64 x, .int .i64 y, .int .i64 z] 45) = Y := ⟨_, rfl⟩
              have hxY : Ext wr Y := by rw [← hY]; exact (by repeat (first | exact Ext.refl _ | assumption | refine Ext.alloc ?_ _ | refine Ext.drew ?_ | refine Ext.drewN _ ?_ | refine Ext.trans ?_ (by assumption)))
              have hbY : Cls wr.heap.size 45 #[.int .i64 x, .int .i64 y, .int .i64 z] Y := by rw [← hY]; exact Cls.new _ _ _
              have y0 : Y.cell? ⟨wr.heap.size, 0, none⟩ = some (.int .i64 x) := hbY.cell 0
              have y2 := hxY.cell e0
              have hpk : PysAt Y (.slice (some ⟨bb, oo, none⟩) k cb) (T.ps.take k) := ((hT1.p.ext hx2).ext hxY).take k (by omega)
              have hf0 : (fnd (T.ps.take k) x < 0) = ¬ (0 ≤ fnd (T.ps.take k) x) := by simp
              obtain ⟨F, hF⟩ : ∃ F, fnd (T.ps.take k) x = F := ⟨_, rfl⟩
              have FC := fun W (h : Ext Y W) => find_any (.slice (some ⟨bb, oo, none⟩) k cb) (T.ps.take k) x W (hpk.ext h) (by rw [List.length_take]; omega)
              rw [hF] at FC htw hst
              have hkc : k ≤ cb := by omega
              have HTW := Lib.hid (fun h => htw (by first | rfl | trivial) h)
              have HST := Lib.hid (fun h => hst (by first | rfl | trivial) h)
              have HSW := Lib.hid hsw
              have HTK := Lib.hid htk
              try rw [hY]
              clear hY hbad htw hst hsw htk hF hf0 z1 z2 c0 c1 c2 h3 h4 hT hT1 ht hf
              go_region_held3 (fun W' => W'.cell? ⟨w.heap.size, 1, none⟩ = some (.slice (some ⟨bb, oo, none⟩) T.ps.length cb) ∧ W'.cell? ⟨wr.heap.size, 0, none⟩ = some (.int .i64 x) ∧ Ext Y W')
                ((refine ⟨Ext.cell (w := Y) ?_ y2, Ext.cell (w := Y) ?_ y0, ?_⟩; all_goals exact (by repeat (first | exact Ext.refl _ | assumption | refine Ext.alloc ?_ _ | refine Ext.drew ?_ | refine Ext.drewN _ ?_ | refine Ext.trans ?_ (by assumption)))))
                ((go_at_call 60; refine (FC _ ?_).mono ?_; (focus (exact (by repeat (first | exact Ext.refl _ | assumption | refine Ext.alloc ?_ _ | refine Ext.drew ?_ | refine Ext.drewN _ ?_ | refine Ext.trans ?_ (by assumption))))); rintro e w' ⟨rfl, hz⟩))
              have hxE : Ext Y w' := (by repeat (first | exact Ext.refl _ | assumption | refine Ext.alloc ?_ _ | refine Ext.drew ?_ | refine Ext.drewN _ ?_ | refine Ext.trans ?_ (by assumption)))
              have hbE := hbY.ext hxE
              have hxF : Ext w w' := hx.trans ((hx2.trans hxY).trans hxE)
              have g2 : w'.cell? ⟨wr.heap.size, 2, none⟩ = some (.int .i64 z) := hbE.cell 2
              have hnn := sumW_nonneg HW.out
              obtain ⟨s, hs⟩ : ∃ s, sumW (T.ps.take k) = s := ⟨_, rfl⟩
              have hsw2 := HSW.out
              rw [hs] at hnn hsw2 ⊢
              have hcap := capW s z _ hnn.1 h5 rfl
              obtain ⟨h, hh⟩ : ∃ h, min s 25 = h := ⟨_, rfl⟩
              have hb1 : 0 ≤ h ∧ h ≤ 25 := by omega
              rw [hh] at hcap ⊢
              rw [← hsw2] at hcap
              have HCP := Lib.hid hcap
              clear hcap hsw2 hs hh hnn HSW
              by_cases hF0 : 0 ≤ F
              · have HX := Lib.hid (chk_ps HB.out HR.out _ (HTW.out hF0) (by decide))
                rw [HE.out] at HX
                clear HTW HST
                go_wp2
                go_ret
                exact ⟨ret_int HX.out.symm, hxF⟩
              · have HX := Lib.hid (HST.out (by omega))
                clear HTW HST
                go_wp2
                go_roundw
                case rel => exact ⟨k + 1, by omega, by go_num, by rw [← HCP.out]; exact vint (by (repeat' split) <;> omega), HX, Lib.hid (by rw [HTK.out]; intro p hp; rcases List.mem_append.1 hp with hp | hp; exact HW.out p hp; simp at hp; subst hp; exact h5), hx2.trans (hxY.trans hxE)⟩
                case measure => simp [intOf]; omega
          · obtain rfl : k = T.ps.length := by omega
            have h0 := HK.out
            rw [List.drop_length, psE] at h0
            have hnn := sumW_nonneg HW.out
            rw [List.take_length] at hnn ⊢
            have hsw := chk_sw HB.out HR.out h0
            rw [HE.out] at hsw
            obtain ⟨s, hs⟩ : ∃ s, sumW T.ps = s := ⟨_, rfl⟩
            rw [hs] at hnn hsw ⊢
            clear h0 hs HK HW
            by_cases h24 : 24 < s
            · rw [if_pos h24] at hsw
              have HX := Lib.hid hsw
              have h25 : min s 25 = 25 := by omega
              rw [h25]
              clear hsw h25
              go_wp2
              go_ret
              exact ⟨ret_int HX.out.symm, hx.trans hx2⟩
            · rw [if_neg h24] at hsw
              have HX := Lib.hid hsw
              have h25 : min s 25 = s := by omega
              rw [h25]
              clear hsw h25
              go_wp2
              go_ret
              exact ⟨ret_int HX.out.symm, hx.trans hx2⟩
end Go.Proofs.Ythopgonbndoidaa
