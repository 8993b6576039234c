/- divided and CheckDivide of the specification. CheckDivide of the specification. The values of the chapter's examples. No program in sight. -/
import Derived.Test.YthopgonbndoidaaVRPen
namespace Go.Proofs.Ythopgonbndoidaa
open Go.RowKit Go.Shelf

theorem RowsAt.len {w : World} {v : Value} {L : List (List Int)} (h : RowsAt w v L) : ∃ ao cap, v = .slice ao L.length cap ∧ L.length ≤ cap := by obtain ⟨ao, cap, hv, hle, _⟩ := h; exact ⟨ao, cap, hv, hle⟩
theorem RowsAt.get {w : World} {ao : Option Addr} {n cap : Nat} {L : List (List Int)} (h : RowsAt w (.slice ao n cap) L) (i : Nat) (hi : i < L.length) : ∃ b o u, ao = some ⟨b, o, none⟩ ∧ w.cell? ⟨b, o + i, none⟩ = some u ∧ IntsAt w u L[i] := by
  obtain ⟨ao', cap', hv, _, hc⟩ := h
  simp only [Value.slice.injEq] at hv
  obtain ⟨rfl, rfl, rfl⟩ := hv
  exact hc i hi
theorem sumI_take_bd2 {row : List Int} {k : Nat} (h : ∀ i (hi : i < row.length), i < k → 0 ≤ row[i] ∧ row[i] ≤ 1073741824) : 0 ≤ sumI (row.take k) ∧ sumI (row.take k) ≤ k * 1073741824 := by
  induction k with
  | zero => simp [sumI]
  | succ k ih =>
    have h1 := ih (fun i hi hk => h i hi (by omega))
    by_cases hk : k < row.length
    · rw [sumI_take hk]
      have := h k hk (by omega)
      push_cast
      omega
    · rw [List.take_of_length_le (by omega)] at h1 ⊢
      push_cast
      omega
theorem linB_row {T : Tr} {n k : Nat} {row : List Int} (h : linB T n k row = true) : rowB T k row = true := by
  unfold linB at h
  rw [Bool.and_eq_true, Bool.and_eq_true] at h
  exact h.2.1
set_option maxRecDepth 100000 in
set_option maxHeartbeats 16000000 in
theorem divided_any (a b v d : Value) (T : Tr) (hok : Ok T) (l : List Int) (D : List (List Int)) (w : World) (hT : TrAt w a b T) (hl : IntsAt w v l) (hD : RowsAt w d D) (hlen : l.length = T.ps.length) (hb : ∀ n ∈ l, 0 ≤ n ∧ n ≤ 1073741824) (hn : D.length ≤ 100000) :
    Calls Try.prog 99 #[.agg #[a, b], v, d] w fun e w' => e = .returned (.bool (dvdB T l D)) ∧ Ext w w' := by
  obtain ⟨ar, cr, rfl, hlr⟩ := hT.r.len
  obtain ⟨ab, cb, rfl, hlb⟩ := hT.p.len
  obtain ⟨av, cv, rfl, hlv⟩ := hl.len
  obtain ⟨ad, cd, rfl, hld⟩ := hD.len
  obtain ⟨X, hX⟩ : ∃ X, dvdB T l D = X := ⟨_, rfl⟩
  have HX := Lib.hid hX
  have HLEN := Lib.hid hlen
  have HB := Lib.hid hb
  have hm24 := hok.lr
  have hn24 : l.length ≤ 24 := by have := hok.lp; omega
  rw [hX]
  clear hX hlen hb
  by_cases hDl : D.length = T.rs.length
  · have HDL := Lib.hid hDl
    have hb2 : ((D.length : Int) == (T.rs.length : Int)) = true := by simp [hDl]
    have hdi : (D.length : Int) = (T.rs.length : Int) := by omega
    clear hDl hb2
    go_enter Try.func99, Try.ntmps99
    go_upto_region 1 with fail
    obtain ⟨W1, hW1⟩ : ∃ W1, w.alloc (.cells #[.slice ar T.rs.length cr, .slice ab T.ps.length cb] 25) = W1 := ⟨_, rfl⟩
    have hx1 : Ext w W1 := by rw [← hW1]; exact (by repeat (first | exact Ext.refl _ | assumption | refine Ext.alloc ?_ _ | refine Ext.drew ?_ | refine Ext.drewN _ ?_ | refine Ext.trans ?_ (by assumption)))
    have q1 : Cls w.heap.size 25 #[.slice ar T.rs.length cr, .slice ab T.ps.length cb] W1 := by rw [← hW1]; exact Cls.new _ _ _
    try rw [hW1]
    clear hW1
    have d0 : W1.cell? ⟨w.heap.size, 0, none⟩ = some (.slice ar T.rs.length cr) := q1.cell 0
    go_upto_region 3 with fail
    clear hdi d0
    have hwb := q1.lt
    obtain ⟨W2, hW2⟩ : ∃ W2, W1.alloc (.cells #[] 3) = W2 := ⟨_, rfl⟩
    have hx2 : Ext W1 W2 := by rw [← hW2]; exact (by repeat (first | exact Ext.refl _ | assumption | refine Ext.alloc ?_ _ | refine Ext.drew ?_ | refine Ext.drewN _ ?_ | refine Ext.trans ?_ (by assumption)))
    have hr0 : RowI W1.heap.size (.slice (some ⟨W1.heap.size, 0, none⟩) 0 0) [] W2 := by rw [← hW2]; exact rowI_lit0 W1 (Nat.le_refl _)
    go_wp2_with ((at_builtin; refine append_ints rfl _ _ rfl W1.heap.size _ _ [] l rfl hr0 rfl (hl.ext (hx1.trans hx2)) (hx2.size) (by simp; omega) ?_; intro v3 W3 hr3 hg3 _))
    rw [List.nil_append, ← rstF_zero l D] at hr3
    have hx3 : Ext W1 W3 := ext_own hx2 hr0 (Nat.le_refl _) hg3
    have q3 := q1.ext hx3
    have hxx := hx1.trans hx3
    obtain ⟨aR, cR, rfl⟩ := hr3.form
    rw [rstF_len] at hr3 ⊢
    have HR3 := Lib.hid hr3
    clear hW2 hg3 hr0 hr3 hx2 q1
    obtain ⟨wo, hwo⟩ : ∃ wo, W3 = wo := ⟨_, rfl⟩
    subst hwo
    go_loopw [8] (fun i wr => ∃ k : Nat, k ≤ D.length ∧ i = .int .i64 k ∧ Hid (∀ j (hj : j < D.length), j < k → linB T l.length j D[j] = true) ∧ Hid (RowI W1.heap.size (.slice aR l.length cR) (rstF l D k 0) wr) ∧ Cls w.heap.size 25 #[.slice ar T.rs.length cr, .slice ab T.ps.length cb] wr ∧ Ext w wr) (fun i _ => D.length - (intOf i).toNat)
    case atStart => exact ⟨0, Nat.zero_le _, rfl, Lib.hid (fun _ _ h => by omega), HR3, q3, hxx⟩
    case round =>
      clear HR3 q3 hxx hx3 hx1
      obtain ⟨k, hk, rfl, HK, HR, q, hx⟩ := hrel
      have d0 : wr.cell? ⟨w.heap.size, 0, none⟩ = some (.slice ar T.rs.length cr) := q.cell 0
      have d1 : wr.cell? ⟨w.heap.size, 1, none⟩ = some (.slice ab T.ps.length cb) := q.cell 1
      by_cases hlt : k < D.length
      · obtain ⟨bd, od, u, rfl, c0w, hu⟩ := hD.get k hlt
        have c0 := hx.cell c0w
        obtain ⟨row, hrow⟩ : ∃ r, D[k] = r := ⟨_, rfl⟩
        rw [hrow] at hu
        obtain ⟨au, cu, rfl, hcu⟩ := hu.len
        have hkm : k < T.rs.length := by have := HDL.out; omega
        by_cases hrl : row.length = l.length
        · have HRL := Lib.hid hrl
          rw [hrl] at hu c0 c0w
          have hb2 : ((l.length : Int) == (l.length : Int)) = true := by simp
          have HU := Lib.hid hu
          have HROW := Lib.hid hrow
          clear hrl hu hrow
          go_wp2_with fail
          clear d0 d1 c0 hb2
          obtain ⟨wk, hwk⟩ : ∃ wk, wr = wk := ⟨_, rfl⟩
          subst hwk
          go_loopw [9, 10] (fun s i wx => ∃ j : Nat, j ≤ l.length ∧ i = .int .i64 j ∧ s = .int .i64 (sumI (row.take j)) ∧ Hid (∀ i (hi : i < row.length), i < j → celB T k i row[i] = true) ∧ Hid (RowI W1.heap.size (.slice aR l.length cR) (rstF l D k j) wx) ∧ Cls w.heap.size 25 #[.slice ar T.rs.length cr, .slice ab T.ps.length cb] wx ∧ Ext w wx) (fun _ i _ => l.length - (intOf i).toNat)
          case atStart => exact ⟨0, Nat.zero_le _, rfl, rfl, Lib.hid (fun _ _ h => by omega), HR, q, hx⟩
          case round =>
            clear HR q hx
            obtain ⟨j, hj, rfl, rfl, HJ, HR, q, hx⟩ := hrel
            have c0 := hx.cell c0w
            have d0 : wr.cell? ⟨w.heap.size, 0, none⟩ = some (.slice ar T.rs.length cr) := q.cell 0
            have d1 : wr.cell? ⟨w.heap.size, 1, none⟩ = some (.slice ab T.ps.length cb) := q.cell 1
            have hkD : (k : Int) < (D.length : Int) := by omega
            by_cases hjl : j < l.length
            · have hjp : j < T.ps.length := by have := HLEN.out; omega
              have hjr : j < row.length := by have := HRL.out; omega
              obtain ⟨bp, op, rfl, p0, p1, p2⟩ := (hT.p.ext hx).get j hjp
              have hpv := hok.pv _ (List.getElem_mem hjp)
              have hgd : T.ps.getD j ⟨0, 0, 0⟩ = T.ps[j] := by rw [List.getD_eq_getElem?_getD, List.getElem?_eq_getElem hjp]; rfl
              obtain ⟨y, hyy⟩ : ∃ x, T.ps[j].reach = x := ⟨_, rfl⟩
              rw [hyy] at p1 hpv
              have hrlen := HRL.out
              obtain ⟨bx, ox, rfl, x0⟩ := (HU.out.ext hx).get j hjr
              obtain ⟨x, hxx⟩ : ∃ x, row[j] = x := ⟨_, rfl⟩
              rw [hxx] at x0
              have KU := fun W (h : Ext w W) => refUses_any _ _ T hok.rv y (k : Int) W (hT.ext h) (by have := hpv.2.1.1; omega) hpv.2.1.2
              obtain ⟨u, hu⟩ : ∃ u, usB T.rs y k = u := ⟨_, rfl⟩
              rw [hu] at KU
              have hcel : celB T k j row[j] = (inB x 0 1073741824 && (u || !(decide (0 < x)))) := by unfold celB; rw [hgd, hyy, hu, hxx]
              have HCEL := Lib.hid hcel
              have HKU := Lib.hid KU
              have HXX := Lib.hid hxx
              have hjpi : (j : Int) < (T.ps.length : Int) := by omega
              clear hcel KU hu hxx hgd hyy hpv hrlen p0 p2
              go_wp2_with fail
              go_still_tail 8, (by kernel_rfl)
              change wpList _ _ _ _ _ wr.drew
              obtain ⟨V, hV⟩ : ∃ V, wr.drew = V := ⟨_, rfl⟩
              have hxV : Ext wr V := by rw [← hV]; exact (by repeat (first | exact Ext.refl _ | assumption | refine Ext.alloc ?_ _ | refine Ext.drew ?_ | refine Ext.drewN _ ?_ | refine Ext.trans ?_ (by assumption)))
              rw [hV]
              clear hV
              go_wp2_with fail
              refine (HKU.out _ (hx.trans hxV)).mono ?_
              rintro e w6 ⟨rfl, hz⟩
              have hz6 := hxV.trans hz
              have q6 := q.ext hz6
              have HR6 := Lib.hid (rowI_ext HR.out hz6)
              replace hx := hx.trans hz6
              replace d0 := hz6.cell d0
              replace d1 := hz6.cell d1
              replace c0 := hz6.cell c0
              replace x0 := hz6.cell x0
              clear hz hz6 hxV q HR HKU p1
              have bad : ∀ (h : celB T k j row[j] = false), X = false := fun h => by
                rw [← HX.out]
                refine dvd_line hlt ?_
                unfold linB
                rw [HROW.out, row_bad hjr h, Bool.false_and, Bool.and_false]
              by_cases hgood : celB T k j row[j] = true
              · have hcb := celB_bd hgood
                rw [HXX.out] at hcb
                have hcg := HCEL.out
                rw [hgood] at hcg
                have hux : u = true ∨ ¬ 0 < x := by
                  cases u
                  · right
                    intro h
                    rw [decide_eq_true h] at hcg
                    simp at hcg
                  · left; rfl
                have hx0 : ¬ x < 0 := by omega
                have hx1 : ¬ 1073741824 < x := by omega
                clear bad hcg
                have hsb := sumI_take_bd2 (row := row) (k := j) (fun i hi hij => celB_bd (HJ.out i hi hij))
                have hsn := sumI_take (row := row) hjr
                have hcol := colS_bd (D := D) (i := j) (k := k) (fun j' h1 h2 => rowB_bd (linB_row (HK.out j' h1 h2)) j)
                have hlj : l.getD j 0 ∈ l := getD_mem hjl
                have hljb := HB.out _ hlj
                have hRo := HR6.out
                have hrs := rstF_set (l := l) (i := j) hlt hjl
                obtain ⟨gr, rfl, hg0, hg1, hgc⟩ := hRo.opened (rstF_len _ _ _ _) (by omega)
                have hrl := hRo.cell (rstF_len _ _ _ _) (k := j) (by rw [rstF_len]; exact hjl)
                rw [rstF_get, if_neg (by omega)] at hrl
                have hDk : D[k].getD j 0 = x := by rw [HROW.out, List.getD_eq_getElem?_getD, List.getElem?_eq_getElem hjr, ← HXX.out]; rfl
                rw [hDk] at hrs
                rw [HXX.out] at hsn
                obtain ⟨r, hrr⟩ : ∃ r, l.getD j 0 - colS (D.take k) j = r := ⟨_, rfl⟩
                rw [hrr] at hrl hrs
                obtain ⟨sm, hsm⟩ : ∃ r, sumI (row.take j) = r := ⟨_, rfl⟩
                rw [hsm] at hsb hsn ⊢
                have hw1 : IntKind.i64.wrap (sm + x) = sm + x := IntWalk.i64_in _ (by omega)
                have hw2 : IntKind.i64.wrap (r - x) = r - x := IntWalk.i64_in _ (by omega)
                have HJ2 : Hid (∀ i (hi : i < row.length), i < j + 1 → celB T k i row[i] = true) := Lib.hid (fun i hi hij => by
                  by_cases he : i = j
                  · subst he; exact hgood
                  · exact HJ.out i hi (by omega))
                have HRS := Lib.hid hrs
                have HSN := Lib.hid hsn
                have hfz := hRo.frozen (rstF_len _ _ _ _) j
                have hRo2 := rowI_set (g := gr) (c := cR) (j := j) (by rw [rstF_len]; exact hRo) (r - x)
                rw [rstF_len, hrs] at hRo2
                have hwl := q6.lt
                clear hsb hsn hcol hlj hljb hrs hDk hrr hsm hgood hRo2 HJ hcb
                cases u
                · have hx2 : ¬ 0 < x := by
                    rcases hux with h | h
                    · cases h
                    · exact h
                  clear hux
                  go_wp2_with fail
                  go_still_tail 15, (by kernel_rfl)
                  change wpList _ _ _ _ _ w6.drew
                  obtain ⟨V, hV⟩ : ∃ V, w6.drew = V := ⟨_, rfl⟩
                  have hxV : Ext w6 V := by rw [← hV]; exact (by repeat (first | exact Ext.refl _ | assumption | refine Ext.alloc ?_ _ | refine Ext.drew ?_ | refine Ext.drewN _ ?_ | refine Ext.trans ?_ (by assumption)))
                  rw [hV]
                  have hRV := rowI_ext hRo hxV
                  have k1 : V.cell? ⟨gr, j, none⟩ = some (.int .i64 r) := hxV.cell hrl
                  have k2 := hRV.frozen (rstF_len _ _ _ _) j
                  have hRW := rowI_set (g := gr) (c := cR) (j := j) (by rw [rstF_len]; exact hRV) (r - x)
                  rw [rstF_len, HRS.out] at hRW
                  have qW := (q6.ext hxV).other (B' := gr) (by omega) j (.int .i64 (r - x))
                  have hxW := (hx.trans hxV).setCell (p := ⟨gr, j, none⟩) (by simp; omega) (.int .i64 (r - x))
                  clear hV d0 d1 c0 x0 hrl hfz
                  go_wp2_with fail
                  go_roundw
                  case rel => exact ⟨j + 1, by omega, by go_num, by rw [HSN.out], HJ2, Lib.hid hRW, qW, hxW⟩
                  case measure => simp [intOf]; omega
                · clear hux
                  by_cases hx2 : 0 < x
                  all_goals
                    go_wp2_with fail
                    go_still_tail 15, (by kernel_rfl)
                    change wpList _ _ _ _ _ w6.drew
                    obtain ⟨V, hV⟩ : ∃ V, w6.drew = V := ⟨_, rfl⟩
                    have hxV : Ext w6 V := by rw [← hV]; exact (by repeat (first | exact Ext.refl _ | assumption | refine Ext.alloc ?_ _ | refine Ext.drew ?_ | refine Ext.drewN _ ?_ | refine Ext.trans ?_ (by assumption)))
                    rw [hV]
                    have hRV := rowI_ext hRo hxV
                    have k1 : V.cell? ⟨gr, j, none⟩ = some (.int .i64 r) := hxV.cell hrl
                    have k2 := hRV.frozen (rstF_len _ _ _ _) j
                    have hRW := rowI_set (g := gr) (c := cR) (j := j) (by rw [rstF_len]; exact hRV) (r - x)
                    rw [rstF_len, HRS.out] at hRW
                    have qW := (q6.ext hxV).other (B' := gr) (by omega) j (.int .i64 (r - x))
                    have hxW := (hx.trans hxV).setCell (p := ⟨gr, j, none⟩) (by simp; omega) (.int .i64 (r - x))
                    clear hV d0 d1 c0 x0 hrl hfz
                    go_wp2_with fail
                    go_roundw
                    case rel => exact ⟨j + 1, by omega, by go_num, by rw [HSN.out], HJ2, Lib.hid hRW, qW, hxW⟩
                    case measure => simp [intOf]; omega
              · have hbx := bad (by simpa using hgood)
                have hcg := HCEL.out
                rw [show celB T k j row[j] = false by simpa using hgood] at hcg
                have HBX := Lib.hid hbx.symm
                clear bad hgood hbx
                by_cases hx0 : x < 0
                · clear hcg
                  go_wp2_with fail
                  go_ret
                  exact ⟨ret_bool HBX.out, hx⟩
                · by_cases hx1 : 1073741824 < x
                  · clear hcg
                    go_wp2_with fail
                    go_ret
                    exact ⟨ret_bool HBX.out, hx⟩
                  · have hin : inB x 0 1073741824 = true := by simp [inB]; omega
                    rw [hin] at hcg
                    have huf : u = false ∧ 0 < x := by
                      cases u
                      · refine ⟨rfl, ?_⟩
                        by_cases h : 0 < x
                        · exact h
                        · rw [decide_eq_false h] at hcg; simp at hcg
                      · simp at hcg
                    obtain ⟨rfl, hx2⟩ := huf
                    clear hcg hin
                    go_wp2_with fail
                    go_ret
                    exact ⟨ret_bool HBX.out, hx⟩
            · obtain rfl : j = l.length := by omega
              have hRr := HR.out
              rw [rstF_end] at hRr
              have HRr := Lib.hid hRr
              have hrow := row_ok (T := T) (k := k) (row := row) (fun i hi => HJ.out i hi (by have := HRL.out; omega))
              rw [List.take_of_length_le (by have := HRL.out; omega)]
              obtain ⟨sm, hsm⟩ : ∃ r, sumI row = r := ⟨_, rfl⟩
              rw [hsm]
              have hlin : linB T l.length k D[k] = toB T k row := by
                unfold linB
                rw [HROW.out, hrow, decide_eq_true HRL.out, Bool.true_and, Bool.true_and]
              have hto : toB T k row = (!(decide (0 < (usrL T.rs k T.ps).length)) || sm == cst T.rs k) := by unfold toB; rw [hsm]
              rw [hto] at hlin
              have KU := fun W (h : Ext w W) => refUsers_any _ _ T hok (k : Int) W (hT.ext h)
              have hul := usrL_len T.rs k T.ps
              obtain ⟨ul, hule⟩ : ∃ L, usrL T.rs k T.ps = L := ⟨_, rfl⟩
              rw [hule] at KU hlin hul
              have HLIN := Lib.hid hlin
              have hkm2 : (k : Int) < (T.rs.length : Int) := by omega
              obtain ⟨br, or', rfl, r0, r1⟩ := (hT.r.ext hx).get k hkm
              rw [← cst_get hkm] at r1
              obtain ⟨c, hcc⟩ : ∃ c, cst T.rs k = c := ⟨_, rfl⟩
              rw [hcc] at r1 hlin
              have HLIN := Lib.hid hlin
              have HKU := Lib.hid KU
              clear hRr hrow hsm hto hlin KU hule hcc HR HJ hul
              go_wp2_with fail
              refine (HKU.out _ hx).mono ?_
              rintro e w6 ⟨uv, rfl, huv, hz⟩
              obtain ⟨ua, uc, rfl, huc⟩ := huv.len
              replace d0 := hz.cell d0
              replace d1 := hz.cell d1
              replace r1 := hz.cell r1
              have q6 := q.ext hz
              have hx6 := hx.trans hz
              have HR6 := Lib.hid (rowI_ext HRr.out hz)
              clear HKU hz q hx HRr huv r0 c0
              have good : linB T l.length k D[k] = true → Hid (∀ j (hj : j < D.length), j < k + 1 → linB T l.length j D[j] = true) := fun h => Lib.hid (fun j' h1 h2 => by
                by_cases he : j' = k
                · subst he; exact h
                · exact HK.out j' h1 (by omega))
              by_cases h0 : 0 < ul.length
              · have h0i : (0 : Int) < (ul.length : Int) := by omega
                by_cases hsc : sm = c
                · have hg := good (by rw [HLIN.out, hsc]; simp)
                  have hscb : (sm == c) = true := by simpa using hsc
                  subst hsc
                  clear good h0 HLIN
                  go_wp2_with fail
                  go_roundw
                  case rel => exact ⟨k + 1, by omega, by go_num, hg, HR6, q6, hx6⟩
                  case measure => simp [intOf]; omega
                · have hbd := dvd_line hlt (by rw [HLIN.out, decide_eq_true h0]; simpa using hsc)
                  rw [HX.out] at hbd
                  have HBD := Lib.hid hbd.symm
                  clear good h0 HLIN hbd
                  go_wp2_with fail
                  go_ret
                  exact ⟨ret_bool HBD.out, hx6⟩
              · have hg := good (by rw [HLIN.out, decide_eq_false h0]; simp)
                have h0i : ¬ (0 : Int) < (ul.length : Int) := by omega
                clear good h0 HLIN
                go_wp2_with fail
                go_roundw
                case rel => exact ⟨k + 1, by omega, by go_num, hg, HR6, q6, hx6⟩
                case measure => simp [intOf]; omega
        · have hrl' : row.length ≠ l.length := hrl
          have hbad : linB T l.length k D[k] = false := by
            unfold linB
            rw [hrow, decide_eq_false hrl', Bool.false_and]
          have hX2 := dvd_line hlt hbad
          rw [HX.out] at hX2
          have HX2 := Lib.hid hX2
          have hne : ¬ ((row.length : Int) = (l.length : Int)) := by omega
          clear hX2 hbad hrl' hrl hrow
          go_wp2
          go_ret
          exact ⟨ret_bool HX2.out.symm, hx⟩
      · obtain rfl : k = D.length := by omega
        have hRz := HR.out
        have HR2 := Lib.hid hRz
        have hkey : ∀ i, i < l.length → (rstF l D D.length 0).getD i 0 = l.getD i 0 - colS D i := fun i hi => by
          rw [List.getD_eq_getElem?_getD, List.getElem?_eq_getElem (by rw [rstF_len]; exact hi), Option.getD_some, rstF_get, if_neg (by omega), List.take_length]
        have HKEY := Lib.hid hkey
        have hrl : (rstF l D D.length 0).length = l.length := rstF_len _ _ _ _
        obtain ⟨R, hR⟩ : ∃ R, rstF l D D.length 0 = R := ⟨_, rfl⟩
        rw [hR] at HR2 HKEY hrl
        have HRL := Lib.hid hrl
        have hx9 := hx
        clear hkey hR hRz HR d0 d1 q hx hrl
        go_wp2_with fail
        obtain ⟨wk, hwk⟩ : ∃ wk, wr = wk := ⟨_, rfl⟩
        subst hwk
        go_loopw [12] (fun i wx => ∃ j : Nat, j ≤ l.length ∧ i = .int .i64 j ∧ Hid (∀ i, i < j → R.getD i 0 = 0) ∧ Ext wr wx) (fun i _ => l.length - (intOf i).toNat)
        case atStart => exact ⟨0, Nat.zero_le _, rfl, Lib.hid (fun _ h => by omega), Ext.refl _⟩
        case round =>
          obtain ⟨j, hj, rfl, HJ, hxx⟩ := hrel
          by_cases hjl : j < l.length
          · have hrl := HRL.out
            have hRx := rowI_ext HR2.out hxx
            obtain ⟨gr, rfl, hg0, hg1, hgc⟩ := hRx.opened hrl (by omega)
            have hc := hRx.cell hrl (k := j) (by omega)
            have hgd : R.getD j 0 = R[j] := by rw [List.getD_eq_getElem?_getD, List.getElem?_eq_getElem (by omega)]; rfl
            obtain ⟨r, hr⟩ : ∃ r, R[j] = r := ⟨_, rfl⟩
            rw [hr] at hc hgd
            have HGD := Lib.hid hgd
            clear hRx hr hgd hrl
            cases hq : (r == 0)
            · have hb := dvd_rest (T := T) (l := l) (D := D) hjl (by rw [← HKEY.out j hjl, HGD.out]; simpa using hq)
              rw [HX.out] at hb
              have HBD := Lib.hid hb.symm
              have hqb : (r != 0) = true := by simpa using hq
              clear hb
              go_wp2_with fail
              go_ret
              exact ⟨ret_bool HBD.out, hx9.trans hxx⟩
            · have hr0 : r = 0 := by simpa using hq
              have HJ2 : Hid (∀ i, i < j + 1 → R.getD i 0 = 0) := Lib.hid (fun i hi => by
                by_cases he : i = j
                · subst he; rw [HGD.out, hr0]
                · exact HJ.out i (by omega))
              subst hr0
              clear hq
              go_wp2_with fail
              go_roundw
              case rel => exact ⟨j + 1, by omega, by go_num, HJ2, hxx⟩
              case measure => simp [intOf]; omega
          · have hg := dvd_ok (T := T) (l := l) (D := D) HDL.out (fun k hk => HK.out k hk hk) (fun i hi => by rw [← HKEY.out i hi]; exact HJ.out i (by omega))
            rw [HX.out] at hg
            have HBD := Lib.hid hg.symm
            clear hg
            go_wp2_with fail
            go_ret
            exact ⟨ret_bool HBD.out, hx9.trans hxx⟩
  · have hx := HX.out
    rw [dvd_len hDl] at hx
    have HX2 := Lib.hid hx.symm
    have hne : ¬ ((D.length : Int) = (T.rs.length : Int)) := by omega
    clear hx hDl
    go_enter Try.func99, Try.ntmps99
    go_wp2
    go_ret
    exact ⟨ret_bool HX2.out.symm, (by repeat (first | exact Ext.refl _ | assumption | refine Ext.alloc ?_ _ | refine Ext.drew ?_ | refine Ext.drewN _ ?_ | refine Ext.trans ?_ (by assumption)))⟩
end Go.Proofs.Ythopgonbndoidaa
namespace Go.Proofs.Ythopgonbndoidaa
open Go.RowKit Go.Shelf

set_option maxRecDepth 100000 in
set_option maxHeartbeats 4000000 in
theorem refCheckDivide_any (a b v d : Value) (T : Tr) (l : List Int) (D : List (List Int)) (w : World) (hT : TrAt w a b T) (hl : IntsAt w v l) (hD : RowsAt w d D) (hn : l.length ≤ 100000) (hn2 : D.length ≤ 100000) :
    Calls Try.prog 54 #[.agg #[a, b], v, d] w fun e w' => e = .returned (.int .i64 (dveE T l D)) ∧ Ext w w' := by
  have hE : dveE T l D = if penE T l = 0 then (if dvdB T l D = true then 0 else 8) else penE T l := rfl
  have hok : penE T l = 0 → Ok T ∧ l.length = T.ps.length ∧ ∀ n ∈ l, 0 ≤ n ∧ n ≤ 1073741824 := penE_ok
  have KP := fun W (h : Ext w W) => refPence_any a b v T l W (hT.ext h) (hl.ext h) hn
  have KD := fun (h : penE T l = 0) W (hx : Ext w W) => divided_any a b v d T (hok h).1 l D W (hT.ext hx) (hl.ext hx) (hD.ext hx) (hok h).2.1 (hok h).2.2 hn2
  obtain ⟨E, hEE⟩ : ∃ E, penE T l = E := ⟨_, rfl⟩
  obtain ⟨F, hFF⟩ : ∃ E, dvdB T l D = E := ⟨_, rfl⟩
  obtain ⟨X, hXX⟩ : ∃ E, dveE T l D = E := ⟨_, rfl⟩
  rw [hEE] at hE KP KD
  rw [hFF] at hE KD
  rw [hXX] at hE
  rw [hXX]
  have HE := Lib.hid hE
  have HKD := Lib.hid KD
  clear hE hok KD hEE hFF hXX
  go_enter Try.func54, Try.ntmps54
  go_wp2_with fail
  refine (KP _ (by repeat (first | exact Ext.refl _ | assumption | refine Ext.alloc ?_ _ | refine Ext.drew ?_ | refine Ext.drewN _ ?_ | refine Ext.trans ?_ (by assumption)))).mono ?_
  rintro e w1 ⟨rfl, hx1⟩
  obtain ⟨q0, hx, hk0⟩ := alloc1 hx1
  have d0 : w1.cell? ⟨w.heap.size, 0, none⟩ = some a := q0.cell 0
  have d1 : w1.cell? ⟨w.heap.size, 1, none⟩ = some b := q0.cell 1
  clear hx1 q0 KP
  by_cases h0 : E = 0
  · have hb : (E != 0) = false := by simpa using h0
    have he := HE.out
    rw [if_pos h0] at he
    have HE2 := Lib.hid he
    have KD2 := HKD.out h0
    clear he h0
    go_wp2_with fail
    refine (KD2 _ hx).mono ?_
    rintro e w2 ⟨rfl, hz⟩
    clear KD2
    cases F
    · have he := HE2.out
      rw [if_neg (by decide)] at he
      have HE3 := Lib.hid he
      clear he
      go_wp2_with fail
      go_ret
      exact ⟨ret_int HE3.out.symm, hx.trans hz⟩
    · have he := HE2.out
      rw [if_pos rfl] at he
      have HE3 := Lib.hid he
      clear he
      go_wp2_with fail
      go_ret
      exact ⟨ret_int HE3.out.symm, hx.trans hz⟩
  · have hb : (E != 0) = true := by simpa using h0
    have he := HE.out
    rw [if_neg h0] at he
    have HE2 := Lib.hid he
    clear he h0
    go_wp2_with fail
    go_ret
    exact ⟨ret_int HE2.out.symm, hx⟩
end Go.Proofs.Ythopgonbndoidaa
namespace Go.Proofs.Ythopgonbndoidaa
open Go.RowKit Go.Shelf

instance decRa : DecidableEq Ra := fun a b => decidable_of_iff (a.n = b.n ∧ a.d = b.d) ⟨fun h => by cases a; cases b; simp_all, fun h => by subst h; exact ⟨rfl, rfl⟩⟩
def brook (c : Int) : Tr := ⟨[⟨-1, c⟩, ⟨0, 6⟩, ⟨0, 5⟩, ⟨1, 4⟩], [⟨1, 1, 1⟩, ⟨2, 2, 1⟩, ⟨3, 3, 1⟩, ⟨4, 0, 1⟩]⟩
theorem v_chk : chkE (brook 12) = 0 ∧ chkE (brook 13) = 0 := by decide +kernel
theorem v_ask : askE (brook 12) [1, 3] = 0 := by decide +kernel
theorem v_aln : AlnX (brook 12) [1, 3] = 22 ∧ SavX (brook 12) [1, 3] = 10 := by decide +kernel
theorem v_sha : shaX (brook 12) = [⟨6, 1⟩, ⟨8, 1⟩, ⟨10, 1⟩, ⟨3, 1⟩] := by decide +kernel
theorem v_pie : pieX (brook 12) 3 = [⟨3, 1⟩, ⟨3, 1⟩, ⟨0, 1⟩, ⟨4, 1⟩] ∧ sngE (brook 12) 3 = 0 := by decide +kernel
theorem srtI_id {l : List Int} (h : l.Pairwise (fun a b => a ≤ b)) : srtI l = l := List.mergeSort_of_pairwise (h.imp (fun h => by simpa using h))
theorem v_ob : penE (brook 12) [2, 18, 6, 1] = 0 ∧ obN (brook 12) [2, 18, 6, 1] = 2 ∧ penE (brook 12) [6, 8, 10, 3] = 0 ∧ obN (brook 12) [6, 8, 10, 3] = 0 := by decide +kernel
theorem v_obl : obL (brook 12) [2, 18, 6, 1] = [2, 4] := by
  have h1 : penE (brook 12) [2, 18, 6, 1] = 0 ∧ ¬ ovX (brook 12) [2, 18, 6, 1] = 0 := by decide +kernel
  have h2 : gpL (brook 12) (objX (brook 12) [2, 18, 6, 1]) ((brook 12).ps.zip [2, 18, 6, 1]) = [2, 4] := by decide +kernel
  unfold obL gpX
  rw [if_pos h1.1, if_neg h1.2, h2]
  exact srtI_id (by decide)
theorem v_fai : faiB (brook 12) [0, 17, 10, 0] = true ∧ penE (brook 12) [0, 17, 10, 0] = 0 := by decide +kernel
theorem v_dv : dvE (brook 12) [0, 17, 10, 0] = 0 ∧ dveE (brook 12) [0, 17, 10, 0] (dvX (brook 12) [0, 17, 10, 0]) = 0 ∧ (dvX (brook 12) [0, 17, 10, 0]).length = 4 := by decide +kernel
theorem v_pen : penX (brook 13) = [7, 8, 10, 3] := by decide +kernel
theorem v_most : alnE (brook 12) (fun p => p.id == 3) = 22 ∧ alnE (brook 12) (fun _ => true) - alnE (brook 12) (fun p => !(p.id == 3)) = 4 := by decide +kernel
theorem v_chg : chgX (brook 12) 1 8 = [⟨1, 1⟩, ⟨0, 1⟩, ⟨1, 1⟩, ⟨0, 1⟩] ∧ chgE (brook 12) 1 8 = 0 := by decide +kernel
end Go.Proofs.Ythopgonbndoidaa
