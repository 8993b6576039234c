/- chain of the program: a chain with as few shifts as possible; apply, settled, fairest. -/
import Derived.Test.YtiofdfjcaklmcaaFWy
import Derived.Test.YtiofdfjcaklmcaaFPb
import Derived.Deep.DeepCutAuto
namespace Go.Proofs.Ytiofdfjcaklmcaa
open Go.RowKit Go.Shelf

set_option maxRecDepth 100000 in
set_option maxHeartbeats 4000000 in
theorem sources_any (a b : Value) (P : Po) (w : World) (hT : TesAt w a P.ts) (hlt : P.ts.length ≤ 100000) :
    Calls Try.prog 127 #[.agg #[a, b]] w fun e w' => ∃ u, e = .returned u ∧ RowI w.heap.size u (srcL P) w' ∧ Ext w w' := by
  obtain ⟨aa, ca, rfl, hla⟩ := hT.len
  go_enter Try.func127, Try.ntmps127
  obtain ⟨W1, hW1⟩ : ∃ W1, (w.alloc (.cells #[.slice aa P.ts.length ca, b] 25)).alloc (.cells #[.int .i64 0] 3) = W1 := ⟨_, rfl⟩
  have hx1 : Ext w W1 := by rw [← hW1]; exact (by repeat (first | exact Ext.refl _ | assumption | refine Ext.alloc ?_ _ | refine Ext.drew ?_ | refine Ext.drewN _ ?_ | refine Ext.trans ?_ (by assumption)))
  have q1 : Cls w.heap.size 25 #[.slice aa P.ts.length ca, b] W1 := by rw [← hW1]; exact (Cls.new _ _ _).ext (by repeat (first | exact Ext.refl _ | assumption | refine Ext.alloc ?_ _ | refine Ext.drew ?_ | refine Ext.drewN _ ?_ | refine Ext.trans ?_ (by assumption)))
  have hr1 : RowI w.heap.size (.slice (some ⟨w.heap.size + 1, 0, none⟩) 1 1) ((srcL P).take 1) W1 := by
    rw [← hW1]
    have h := World.ownsRow_lit (base := w.heap.size) (e := 3) (size := 1) (w.alloc (.cells #[.slice aa P.ts.length ca, b] 25)) #[.int .i64 0] 1 (by simp) (by decide) (by simp)
    rw [World.size_alloc] at h
    exact h
  go_upto_region 2 with fail
  try rw [hW1]
  clear hW1
  have d0 : W1.cell? ⟨w.heap.size, 0, none⟩ = some (.slice aa P.ts.length ca) := q1.cell 0
  go_wp2_with fail
  go_loopw [3, 10] (fun o i wr => ∃ k : Nat, k ≤ P.ts.length ∧ i = .int .i64 k ∧ Hid (RowI w.heap.size o ((srcL P).take (k + 1)) wr) ∧ Ext w wr) (fun _ i _ => P.ts.length - (intOf i).toNat)
  case atStart => exact ⟨0, Nat.zero_le _, rfl, Lib.hid hr1, hx1⟩
  case round =>
    clear hx1 q1 hr1 d0
    obtain ⟨k, hk, rfl, HR, hx⟩ := hrel
    by_cases hlk : k < P.ts.length
    · obtain ⟨bb, oo, rfl, c0, c1⟩ := (hT.ext hx).get k hlk
      have hk2 : k + 1 < (srcL P).length := by rw [srcL_len]; omega
      have hst := take_succ_get (srcL P) (k + 1) hk2
      rw [srcL_succ P k hk2 hlk] at hst
      have hll : ((srcL P).take (k + 1)).length ≤ 200000 := by rw [List.length_take, srcL_len]; omega
      obtain ⟨x, hxx⟩ : ∃ x, P.ts[k].id = x := ⟨_, rfl⟩
      obtain ⟨y, hyy⟩ : ∃ x, P.ts[k].most = x := ⟨_, rfl⟩
      obtain ⟨L, hL⟩ : ∃ L, (srcL P).take (k + 1) = L := ⟨_, rfl⟩
      rw [hxx] at c0 hst
      rw [hyy] at c1
      rw [hL] at hst HR hll
      have hR := HR.out
      have HST := Lib.hid hst
      obtain ⟨PB, hPB⟩ : ∃ PB, wr.heap.size = PB := ⟨_, rfl⟩
      obtain ⟨Y, hY⟩ : ∃ Y, wr.alloc (.cells #[.int .i64 x, .int .i64 y] 45) = Y := ⟨_, rfl⟩
      have hxY : Ext wr Y := by rw [← hY]; exact (by repeat (first | exact Ext.refl _ | assumption | refine Ext.alloc ?_ _ | refine Ext.drew ?_ | refine Ext.drewN _ ?_ | refine Ext.trans ?_ (by assumption)))
      have hbY : Cls PB 45 #[.int .i64 x, .int .i64 y] Y := by rw [← hY]; exact Cls.newAt _ _ _ hPB.symm
      have hRY := rowI_ext hR hxY
      have hx' := hx.trans hxY
      have hsz := hx'.size
      have e0 : Y.cell? ⟨PB, 0, none⟩ = some (.int .i64 x) := hbY.cell 0
      clear hst hL hxx hyy HR hR hxY hbY
      go_wp2_with (at_builtin; refine append_ints rfl _ _ rfl w.heap.size _ _ L [x] rfl (rowI_ext hRY (by repeat (first | exact Ext.refl _ | assumption | refine Ext.alloc ?_ _ | refine Ext.drew ?_ | refine Ext.drewN _ ?_ | refine Ext.trans ?_ (by assumption)))) rfl (ints_oneAt _ _ _ rfl) (by simp; omega) (by simp; omega) ?_; intro v1 w3 hr3 hg3 _; have hx3 := ext_own hx' hRY (by omega) (grown_pre hg3); clear hg3)
      go_roundw
      case rel => exact ⟨k + 1, by omega, by go_num, Lib.hid (by rw [HST.out]; exact hr3), hx3⟩
      case measure => simp [intOf]; omega
    · obtain rfl : k = P.ts.length := by omega
      have hR := HR.out
      rw [← srcL_len P, List.take_length] at hR
      have HRR := Lib.hid hR
      clear HR hR
      go_wp2_with fail
      go_ret
      exact ⟨_, rfl, HRR.out, hx⟩

set_option maxHeartbeats 4000000 in
theorem better_any (la : Option Addr) (ln lc : Nat) (ba : Option Addr) (bn bc B : Nat) (w : World) (hB : Cls B 35 #[.slice ba bn bc] w) :
    Calls Try.prog 126 #[.slice la ln lc, .pointer (some ⟨B, 0, none⟩)] w fun e w' => e = .returned (.bool (decide (0 < ln) && (ba.isNone || decide (ln < bn)))) ∧ Ext w w' := by
  have c0 : w.cell? ⟨B, 0, none⟩ = some (.slice ba bn bc) := hB.cell 0
  have he := eqlSf
  by_cases h0 : 0 < ln
  · have h1 : (ln : Int) > 0 := by omega
    cases ba with
    | none =>
      go_enter Try.func126, Try.ntmps126
      go_wp2_with fail
      go_ret
      exact ⟨ret_bool (by simp [h0]), Ext.refl _⟩
    | some ad =>
      by_cases h2 : ln < bn
      · have h3 : (ln : Int) < bn := by omega
        go_enter Try.func126, Try.ntmps126
        go_wp2_with fail
        go_ret
        exact ⟨ret_bool (by simp [h0, h2]), Ext.refl _⟩
      · have h3 : ¬ (ln : Int) < bn := by omega
        go_enter Try.func126, Try.ntmps126
        go_wp2_with fail
        go_ret
        exact ⟨ret_bool (by simp ), Ext.refl _⟩
  · have h1 : ¬ (ln : Int) > 0 := by omega
    go_enter Try.func126, Try.ntmps126
    go_wp2_with fail
    go_ret
    exact ⟨ret_bool (by simp ), Ext.refl _⟩

/-- what stands while chains are looked for -/
structure ChnA (P : Po) (g : List Int) (w : World) (B1 : Nat) (a b nv sv : Value) (W : World) (bv : Value) (best : List (Nat × Int)) : Prop where
  bx : Cls w.heap.size 25 #[a, b] W
  bb : Cls B1 35 #[bv] W
  br : RowS w.heap.size bv (shW P best) W
  bn : best = [] → bv = .slice none 0 0
  nr : RowI w.heap.size nv (cntT P g) W
  sr : RowI w.heap.size sv (srcL P) W
  ex : Ext w W
section
variable {P : Po} {g : List Int} {w W W' : World} {B1 : Nat} {a b nv sv bv : Value} {best : List (Nat × Int)}
theorem ChnA.ext (h : ChnA P g w B1 a b nv sv W bv best) (x : Ext W W') : ChnA P g w B1 a b nv sv W' bv best :=
  ⟨h.bx.ext x, h.bb.ext x, h.br.ext x, h.bn, rowI_ext h.nr x, rowI_ext h.sr x, h.ex.trans x⟩
theorem rowI_ne {n₀ : Nat} {v : Value} {l : List Int} {B : Nat} {t : TypeId} {cs : Array Value} (h : RowI n₀ v l W) (hc : Cls B t cs W) (ht : t ≠ 3) : v.ownBlock = none ∨ v.ownBlock ≠ some B := by
  cases hq : v.ownBlock with
  | none => exact .inl rfl
  | some r =>
    refine .inr fun e => ?_
    obtain ⟨cs', h2⟩ := rowI_not h (hq.trans e)
    exact ht (cls_uniq hc h2)
theorem ChnA.set (h : ChnA P g w B1 a b nv sv W bv best) (hB : w.heap.size < B1) {v : Value} {l : List (Nat × Int)} (hr : RowS w.heap.size v (shW P l) W) (hl : l ≠ []) : ChnA P g w B1 a b nv sv (W.setCell ⟨B1, 0, none⟩ v) v l :=
  ⟨h.bx.other (by omega) 0 _, h.bb.set 0 _, rowS_kept hr (grownBy_setCell' W B1 v) (fun r e cs hc => by obtain rfl := Option.some.inj e; exact absurd (cls_uniq hc h.bb) (by decide)), fun e => absurd e hl,
    rowI_kept h.nr (grownBy_setCell' W B1 v) (rowI_ne h.nr h.bb (by decide)), rowI_kept h.sr (grownBy_setCell' W B1 v) (rowI_ne h.sr h.bb (by decide)), h.ex.setCell (by simp; omega) _⟩
theorem ChnA.nil (h : ChnA P g w B1 a b nv sv W bv best) : ∃ ba bc, bv = .slice ba best.length bc ∧ ba.isNone = decide (best.length = 0) := by
  have hf := h.br.form
  obtain ⟨A, c, hv⟩ := hf
  rw [shW_len] at hv
  refine ⟨A, c, hv, ?_⟩
  by_cases h0 : best.length = 0
  · have h1 := h.bn (List.eq_nil_of_length_eq_zero h0)
    rw [h1] at hv
    simp only [Value.slice.injEq] at hv
    rw [← hv.1]
    simp [h0]
  · rw [decide_eq_false h0]
    have hr := h.br
    rw [hv] at hr
    rcases hr.2 with ⟨h1, h2⟩ | ⟨r, cap, cur, h1, _⟩
    · rw [shW_len] at h2; exact absurd h2 h0
    · simp only [Value.slice.injEq] at h1
      rw [h1.1]; rfl
end
set_option maxRecDepth 100000 in
set_option maxHeartbeats 16000000 in
theorem chain_any (a b v : Value) (P : Po) (g : List Int) (hok : OkP P) (hgl : g.length = P.ss.length) (w : World) (hT : PoAt w a b P) (hg : IntsAt w v g) :
    Calls Try.prog 91 #[.agg #[a, b], v] w fun e w' => ∃ u, e = .returned (.tuple #[u, .bool (decide (0 < (chnL P g).length))]) ∧ RowS w.heap.size u (shW P (chnL P g)) w' ∧ Ext w w' := by
  have hlt := hok.lt
  have hls := hok.ls
  obtain ⟨aa, ca, rfl, hla⟩ := hT.t.len
  obtain ⟨ab, cb, rfl, hlb⟩ := hT.s.len
  obtain ⟨ag, cg, rfl, hlc⟩ := hg.len
  have hend := bestO_end P g
  obtain ⟨R, hR⟩ : ∃ R, chnL P g = R := ⟨_, rfl⟩
  rw [hR] at hend ⊢
  have HEND := Lib.hid hend
  have KCN := fun W (x : Ext w W) => counts_any _ (.slice ab P.ss.length cb) _ P g W (hT.t.ext x) (hg.ext x) (by omega) (by omega)
  have KSR := fun W (x : Ext w W) => sources_any _ (.slice ab P.ss.length cb) P W (hT.t.ext x) (by omega)
  have KW := fun (fr : Int) W (x : Ext w W) => ways_any _ _ _ P g fr hok hgl W (hT.ext x) (hg.ext x)
  have KTN := fun (x : Int) W (h : Ext w W) => tn_any _ (.slice ab P.ss.length cb) P x W (hT.t.ext h) (by omega)
  have KRM := fun (k : Nat) (hk : k < P.ts.length) (n : Int) W (h : Ext w W) => room_any _ (.slice ab P.ss.length cb) P k n W (hT.t.ext h) hk
  have hcn := fun x => cntI_nn g x
  have hg40 : g.length ≤ 40 := by omega
  have HKCN := Lib.hid KCN
  have HKSR := Lib.hid KSR
  have HKW := Lib.hid KW
  have HKTN := Lib.hid KTN
  have HKRM := Lib.hid KRM
  have HCN := Lib.hid hcn
  have HGL := Lib.hid hgl
  clear hend hR KCN KSR KW KTN KRM hcn hgl
  go_enter Try.func91, Try.ntmps91
  go_wp2_with fail
  refine (HKCN.out _ (by repeat (first | exact Ext.refl _ | assumption | refine Ext.alloc ?_ _ | refine Ext.drew ?_ | refine Ext.drewN _ ?_ | refine Ext.trans ?_ (by assumption)))).mono ?_
  rintro e w1 ⟨nv, rfl, hn1, hx1⟩
  obtain ⟨q1, hx, hk0⟩ := alloc1 hx1
  obtain ⟨nA, nc, hnv⟩ := hn1.form
  subst hnv
  obtain ⟨B1, hB1⟩ : ∃ B1, w1.heap.size = B1 := ⟨_, rfl⟩
  obtain ⟨W2, hW2⟩ : ∃ W2, w1.alloc (.cells #[.slice none 0 0] 35) = W2 := ⟨_, rfl⟩
  have hx2 : Ext w1 W2 := by rw [← hW2]; exact (by repeat (first | exact Ext.refl _ | assumption | refine Ext.alloc ?_ _ | refine Ext.drew ?_ | refine Ext.drewN _ ?_ | refine Ext.trans ?_ (by assumption)))
  have b2 : Cls B1 35 #[.slice none 0 0] W2 := by rw [← hW2]; exact Cls.newAt _ _ _ hB1.symm
  have hwB : w.heap.size < B1 := by rw [← hB1]; exact hk0
  have q2 := q1.ext hx2
  have hn2 := rowI_ext hn1 hx2
  have hxx := hx.trans hx2
  have d0' : W2.cell? ⟨w.heap.size, 0, none⟩ = some (.slice aa P.ts.length ca) := q2.cell 0
  have d1' : W2.cell? ⟨w.heap.size, 1, none⟩ = some (.slice ab P.ss.length cb) := q2.cell 1
  have d0 : (w1.alloc (.cells #[.slice none 0 0] 35)).cell? ⟨w.heap.size, 0, none⟩ = some (.slice aa P.ts.length ca) := by rw [hW2]; exact d0'
  have d1 : (w1.alloc (.cells #[.slice none 0 0] 35)).cell? ⟨w.heap.size, 1, none⟩ = some (.slice ab P.ss.length cb) := by rw [hW2]; exact d1'
  have HW2 := Lib.hid hW2
  have HB1 := Lib.hid hB1
  clear d0' d1' hx1 q1 hx hk0 hW2 hB1
  go_wp2_with fail
  rw [HW2.out, HB1.out]
  clear d0 d1 HW2 HB1 hn1
  refine (HKSR.out _ hxx).mono ?_
  rintro e w3 ⟨sv, rfl, hs3, hx3⟩
  have hA3 : ChnA P g w B1 (.slice aa P.ts.length ca) (.slice ab P.ss.length cb) (.slice nA (cntT P g).length nc) sv w3 (.slice none 0 0) (bestO P g 0) :=
    ⟨q2.ext hx3, b2.ext hx3, RowK.nil _ _ _ _ _, fun _ => rfl, rowI_base (rowI_ext hn2 hx3) (by simp), rowI_base hs3 hxx.size, hxx.trans hx3⟩
  have hN := cntT_len P g
  have hNg := cntT_get P g
  obtain ⟨sA, sc, hsv⟩ := hs3.form
  subst hsv
  have hSl := srcL_len P
  obtain ⟨C, hC⟩ : ∃ C, cntT P g = C := ⟨_, rfl⟩
  rw [hC] at hN hNg hA3
  have HNG := Lib.hid hNg
  have HN := Lib.hid hN
  have HC := Lib.hid hC
  obtain ⟨SL, hSL⟩ : ∃ SL, (srcL P).length = SL := ⟨_, rfl⟩
  rw [hSL] at hA3 hSl
  have HSL := Lib.hid hSL
  have HSl := Lib.hid hSl
  have hSL13 : SL ≤ 13 := by omega
  try rw [hC]
  try rw [hSL]
  clear q2 b2 hn2 hxx hx3 hs3 hx2 hN hNg hC hSL hSl
  go_wp2_with fail
  go_loopw [24] (fun i wr => ∃ (k : Nat) (bv : Value), k ≤ SL ∧ i = .int .i64 k ∧ Hid (ChnA P g w B1 (.slice aa P.ts.length ca) (.slice ab P.ss.length cb) (.slice nA C.length nc) (.slice sA SL sc) wr bv (bestO P g k))) (fun i _ => SL - (intOf i).toNat)
  case atStart => exact ⟨0, _, Nat.zero_le _, rfl, Lib.hid hA3⟩
  case round =>
    clear hA3
    obtain ⟨k, bv, hk, rfl, HA⟩ := hrel
    by_cases hlk : k < SL
    · have hks : k < (srcL P).length := by rw [HSL.out]; exact hlk
      obtain ⟨sb, so, hse, cs⟩ := HA.out.sr.at_.get k hks
      subst hse
      have hst := bestO_step (g := g) hks
      have hnext : (srcL P)[k] = 0 ∧ k = 0 ∨ ∃ k', ∃ (h : k' < P.ts.length), k = k' + 1 ∧ (srcL P)[k] = P.ts[k'].id := by
        cases k with
        | zero => exact .inl ⟨rfl, rfl⟩
        | succ k' =>
          have h' : k' < P.ts.length := by rw [srcL_len] at hks; omega
          exact .inr ⟨k', h', rfl, srcL_succ P k' hks h'⟩
      obtain ⟨fr, hfr⟩ : ∃ fr, (srcL P)[k] = fr := ⟨_, rfl⟩
      rw [hfr] at cs hst hnext
      have HST := Lib.hid hst
      have HNX := Lib.hid hnext
      have d0 : wr.cell? ⟨w.heap.size, 0, none⟩ = some (.slice aa P.ts.length ca) := HA.out.bx.cell 0
      have d1 : wr.cell? ⟨w.heap.size, 1, none⟩ = some (.slice ab P.ss.length cb) := HA.out.bx.cell 1
      clear hst hnext hfr
      go_wp2_with fail
      refine (HKW.out fr _ HA.out.ex).mono ?_
      rintro e w4 ⟨M, ml, rfl, hMw, hM, hF, hx4⟩
      have hA4 := HA.out.ext hx4
      obtain ⟨BO, hBO⟩ : ∃ BO, bestO P g k = BO := ⟨_, rfl⟩
      rw [hBO] at hA4 HST
      have HF := Lib.hid (FndR.base HA.out.ex.size hF)
      have d0 : w4.cell? ⟨w.heap.size, 0, none⟩ = some (.slice aa P.ts.length ca) := hA4.bx.cell 0
      clear HA hx4 hBO hF hMw cs
      go_wp2_with fail
      go_loopw [35] (fun i wr => ∃ (j : Nat) (bv : Value), j ≤ P.ts.length ∧ i = .int .i64 j ∧ Hid (ChnA P g w B1 (.slice aa P.ts.length ca) (.slice ab P.ss.length cb) (.slice nA C.length nc) (.slice (some ⟨sb, so, none⟩) SL sc) wr bv (bestI P g BO fr j)) ∧ MapAt encI wr M ml ∧ Hid (FndR P w.heap.size wr ml (wayF P g fr))) (fun i _ => P.ts.length - (intOf i).toNat)
      case atStart => exact ⟨0, _, Nat.zero_le _, rfl, Lib.hid hA4, hM, HF⟩
      case round =>
        clear hA4 hM HF d0
        obtain ⟨j, bv, hj, rfl, HA, hM, HF⟩ := hrel
        by_cases hlj : j < P.ts.length
        · obtain ⟨bb, oo, haa, c0, c1⟩ := (hT.t.ext HA.out.ex).get j hlj
          subst haa
          have hjc : j < C.length := by rw [HN.out]; exact hlj
          obtain ⟨nb, no, hne, cn⟩ := HA.out.nr.at_.get j (by rw [HC.out]; exact hjc)
          rw [cntT_get P g j (by rw [HC.out]; exact hjc) hlj] at cn
          subst hne
          have hst := bestI_step (g := g) (B := BO) (a := fr) hlj
          have hlen := fun l (h : wayTo (wayF P g fr) P.ts[j].id = some l) => way_len hok HGL.out h
          have hcx := HCN.out P.ts[j].id
          have hcf := HCN.out fr
          have hid : P.ts[j] = ⟨P.ts[j].id, P.ts[j].most⟩ := rfl
          have KR := fun (n : Int) W (h : Ext w W) => HKRM.out j hlj n W h
          obtain ⟨x, hxx⟩ : ∃ x, P.ts[j].id = x := ⟨_, rfl⟩
          obtain ⟨y, hyy⟩ : ∃ x, P.ts[j].most = x := ⟨_, rfl⟩
          rw [hxx] at c0 cn hid hlen hcx
          simp only [hyy] at KR
          rw [hyy] at c1 hid
          rw [hid] at hst
          obtain ⟨n, hn⟩ : ∃ n, cntI g x = n := ⟨_, rfl⟩
          have hok2 : okC g fr ⟨x, y⟩ = (!(decide (x = fr)) && decide (n < y) && (decide (fr = 0) || decide (n + 2 ≤ cntI g fr))) := by rw [← hn]; rfl
          obtain ⟨m, hm⟩ : ∃ m, cntI g fr = m := ⟨_, rfl⟩
          rw [hn] at cn hcx
          rw [hm] at hok2 hcf
          obtain ⟨far, hfar⟩ : ∃ far, (decide (fr = 0) || decide (n + 2 ≤ m)) = far := ⟨_, rfl⟩
          rw [hfar] at hok2
          obtain ⟨BI, hBI⟩ : ∃ BI, bestI P g BO fr j = BI := ⟨_, rfl⟩
          rw [hBI] at HA hst
          have HST := Lib.hid hst
          have HOK := Lib.hid hok2
          have HLEN := Lib.hid hlen
          have HKR := Lib.hid KR
          have HM := Lib.hid hm
          have HFAR := Lib.hid hfar
          obtain ⟨PB, hPB⟩ : ∃ PB, wr.heap.size = PB := ⟨_, rfl⟩
          obtain ⟨Y, hY⟩ : ∃ Y, wr.alloc (.cells #[.int .i64 x, .int .i64 y] 45) = Y := ⟨_, rfl⟩
          have hxY : Ext wr Y := by rw [← hY]; exact (by repeat (first | exact Ext.refl _ | assumption | refine Ext.alloc ?_ _ | refine Ext.drew ?_ | refine Ext.drewN _ ?_ | refine Ext.trans ?_ (by assumption)))
          have hbY : Cls PB 45 #[.int .i64 x, .int .i64 y] Y := by rw [← hY]; exact Cls.newAt _ _ _ hPB.symm
          have hAY := HA.out.ext hxY
          have hMY := hM.ext hxY
          have HFY := Lib.hid (HF.out.ext hxY)
          have HAY := Lib.hid hAY
          have e0 : Y.cell? ⟨PB, 0, none⟩ = some (.int .i64 x) := hbY.cell 0
          have f0 : Y.cell? ⟨w.heap.size, 0, none⟩ = some (.slice (some ⟨bb, oo, none⟩) P.ts.length ca) := hAY.bx.cell 0
          have f1 : Y.cell? ⟨w.heap.size, 1, none⟩ = some (.slice ab P.ss.length cb) := hAY.bx.cell 1
          replace cn := hxY.cell cn
          have hjt : (j : Int) < C.length := by omega
          clear hst hok2 hlen KR hm hfar hBI hid hxx hyy hxY hbY hAY HA HF hM hn
          go_upto_region 11 with fail
          go_cut [14] (fun fv W => fv = .bool far ∧ Ext Y W)
          case first =>
            rcases HNX.out with ⟨hf0, hk0⟩ | ⟨k', hk', hkk, hfk⟩
            · have hfe : far = true := by rw [← HFAR.out, hf0]; rfl
              have HFE := Lib.hid hfe
              have hb0 : (fr == 0) = true := by simp [hf0]
              clear hfe hf0 hk0
              refine wp_region_held_drew (S := fun W' => W'.cell? ⟨w.heap.size, 0, none⟩ = some (.slice (some ⟨bb, oo, none⟩) P.ts.length ca) ∧ W'.cell? ⟨w.heap.size, 1, none⟩ = some (.slice ab P.ss.length cb) ∧ W'.cell? ⟨nb, no + j, none⟩ = some (.int .i64 n) ∧ Ext Y W') (by kernel_rfl) ?_ (fun hHeld => ?_)
              · exact ⟨f0, f1, cn, Ext.drew (Ext.refl _)⟩
              obtain ⟨V0, hV0⟩ : ∃ V, World.drew Y = V := ⟨_, rfl⟩
              rw [hV0] at hHeld ⊢
              clear hV0
              (refine tkH (i := 0) (v := ?_) rfl ?_ ?_; rotate_left 1; (focus (intro w hSw; (try dsimp only at hSw); go_simp; try (with_reducible rfl))))
              try simp only [Act.put, xA1, xA2, xA4, xA5, xA6]
              (refine tkH (i := 1) (v := ?_) rfl ?_ ?_; rotate_left 1; (focus (intro w hSw; (try dsimp only at hSw); go_simp; try (with_reducible rfl))))
              try simp only [Act.put, xA1, xA2, xA3, xA4, xA5, xA6]
              (refine tkH (i := 2) (v := ?_) rfl ?_ ?_; rotate_left 1; (focus (intro w hSw; (try dsimp only at hSw); go_simp; try (with_reducible rfl))))
              try simp only [Act.put, xA1, xA2, xA3, xA4, xA5, xA6]
              (refine skH (i := 3) rfl ?_)
              try simp only [Act.put, xA1, xA2, xA3, xA4, xA5, xA6]
              (refine skH (i := 4) rfl ?_)
              try simp only [Act.put, xA1, xA2, xA3, xA4, xA5, xA6]
              (refine skH (i := 5) rfl ?_)
              try simp only [Act.put, xA1, xA2, xA3, xA4, xA5, xA6]
              (refine skH (i := 6) rfl ?_)
              try simp only [Act.put, xA1, xA2, xA3, xA4, xA5, xA6]
              (refine skH (i := 7) rfl ?_)
              try simp only [Act.put, xA1, xA2, xA3, xA4, xA5, xA6]
              (refine skH (i := 8) rfl ?_)
              try simp only [Act.put, xA1, xA2, xA3, xA4, xA5, xA6]
              (refine skH (i := 9) rfl ?_)
              try simp only [Act.put, xA1, xA2, xA3, xA4, xA5, xA6]
              (refine skH (i := 10) rfl ?_)
              try simp only [Act.put, xA1, xA2, xA3, xA4, xA5, xA6]
              (refine skH (i := 11) rfl ?_)
              try simp only [Act.put, xA1, xA2, xA3, xA4, xA5, xA6]
              (refine skH (i := 12) rfl ?_)
              try simp only [Act.put, xA1, xA2, xA3, xA4, xA5, xA6]
              (refine skH (i := 13) rfl ?_)
              try simp only [Act.put, xA1, xA2, xA3, xA4, xA5, xA6]
              (refine skH (i := 14) rfl ?_)
              try simp only [Act.put, xA1, xA2, xA3, xA4, xA5, xA6]
              (refine skH (i := 15) rfl ?_)
              try simp only [Act.put, xA1, xA2, xA3, xA4, xA5, xA6]
              (refine tkH (i := 16) (v := ?_) rfl ?_ ?_; rotate_left 1; (focus (intro w hSw; (try dsimp only at hSw); go_simp; try (with_reducible rfl))))
              try simp only [Act.put, xA1, xA2, xA3, xA4, xA5, xA6]
              (refine tkH (i := 17) (v := ?_) rfl ?_ ?_; rotate_left 1; (focus (intro w hSw; (try dsimp only at hSw); go_simp; try (with_reducible rfl))))
              try simp only [Act.put, xA1, xA2, xA3, xA4, xA5, xA6]
              refine wpAnyH_done (by kernel_rfl) ?_ _
              go_wp2_with fail
              go_meet
              case rel => exact ⟨by rw [HFE.out], hHeld.2.2.2⟩
            · have hne0 : fr ≠ 0 := by rw [hfk]; have := (hok.ti _ (List.getElem_mem hk')).1; omega
              have hb0 : (fr == 0) = false := by simp [hne0]
              have hti : tnI P fr = k' := by rw [hfk]; exact tn_at hok hk'
              have KT := fun W (h : Ext w W) => HKTN.out fr W h
              simp only [hti] at KT
              have hkc : k' < C.length := by rw [HN.out]; exact hk'
              obtain ⟨nb2, no2, hne2, cm⟩ := HAY.out.nr.at_.get k' (by rw [HC.out]; exact hkc)
              rw [cntT_get P g k' (by rw [HC.out]; exact hkc) hk', ← hfk, HM.out] at cm
              simp only [Option.some.injEq, Addr.mk.injEq, and_true] at hne2
              obtain ⟨rfl, rfl⟩ := hne2
              have HKT := Lib.hid KT
              have hfe : far = decide (n + 2 ≤ m) := by rw [← HFAR.out, decide_eq_false hne0]; rfl
              have HFE := Lib.hid hfe
              have hexy := HAY.out.ex
              have hkct : (k' : Int) < C.length := by omega
              have hmax : max (0 : Int) (k' : Int) = k' := by omega
              clear hfe hti KT hne0 hkk hfk
              refine wp_region_held_drew (S := fun W' => W'.cell? ⟨w.heap.size, 0, none⟩ = some (.slice (some ⟨bb, oo, none⟩) P.ts.length ca) ∧ W'.cell? ⟨w.heap.size, 1, none⟩ = some (.slice ab P.ss.length cb) ∧ W'.cell? ⟨nb, no + j, none⟩ = some (.int .i64 n) ∧ W'.cell? ⟨nb, no + k', none⟩ = some (.int .i64 m) ∧ Ext Y W') (by kernel_rfl) ?_ (fun hHeld => ?_)
              · exact ⟨f0, f1, cn, cm, Ext.drew (Ext.refl _)⟩
              obtain ⟨V0, hV0⟩ : ∃ V, World.drew Y = V := ⟨_, rfl⟩
              rw [hV0] at hHeld ⊢
              clear hV0
              (refine tkH (i := 0) (v := ?_) rfl ?_ ?_; rotate_left 1; (focus (intro w hSw; (try dsimp only at hSw); go_simp; try (with_reducible rfl))))
              try simp only [Act.put, xA1, xA2, xA4, xA5, xA6]
              (refine tkH (i := 1) (v := ?_) rfl ?_ ?_; rotate_left 1; (focus (intro w hSw; (try dsimp only at hSw); go_simp; try (with_reducible rfl))))
              try simp only [Act.put, xA1, xA2, xA3, xA4, xA5, xA6]
              (refine tkH (i := 2) (v := ?_) rfl ?_ ?_; rotate_left 1; (focus (intro w hSw; (try dsimp only at hSw); go_simp; try (with_reducible rfl))))
              try simp only [Act.put, xA1, xA2, xA3, xA4, xA5, xA6]
              (refine tkH (i := 3) (v := ?_) rfl ?_ ?_; rotate_left 1; (focus (intro w hSw; (try dsimp only at hSw); go_simp; try (with_reducible rfl))))
              try simp only [Act.put, xA1, xA2, xA3, xA4, xA5, xA6]
              (refine tkH (i := 4) (v := ?_) rfl ?_ ?_; rotate_left 1; (focus (intro w hSw; (try dsimp only at hSw); go_simp; try (with_reducible rfl))))
              try simp only [Act.put, xA1, xA2, xA3, xA4, xA5, xA6]
              (refine tkH (i := 5) (v := ?_) rfl ?_ ?_; rotate_left 1; (focus (intro w hSw; (try dsimp only at hSw); go_simp; try (with_reducible rfl))))
              try simp only [Act.put, xA1, xA2, xA3, xA4, xA5, xA6]
              (refine tkH (i := 10) (v := ?_) rfl ?_ ?_; rotate_left 1; (focus (intro w hSw; (try dsimp only at hSw); go_simp; try (with_reducible rfl))))
              try simp only [Act.put, xA1, xA2, xA3, xA4, xA5, xA6]
              (refine tkH (i := 11) (v := ?_) rfl ?_ ?_; rotate_left 1; (focus (intro w hSw; (try dsimp only at hSw); go_simp; try (with_reducible rfl))))
              try simp only [Act.put, xA1, xA2, xA3, xA4, xA5, xA6]
              (refine tkH (i := 12) (v := ?_) rfl ?_ ?_; rotate_left 1; (focus (intro w hSw; (try dsimp only at hSw); go_simp; try (with_reducible rfl))))
              try simp only [Act.put, xA1, xA2, xA3, xA4, xA5, xA6]
              (refine tkH (i := 13) (v := ?_) rfl ?_ ?_; rotate_left 1; (focus (intro w hSw; (try dsimp only at hSw); go_simp; try (with_reducible rfl))))
              try simp only [Act.put, xA1, xA2, xA3, xA4, xA5, xA6]
              (refine tkH (i := 14) (v := ?_) rfl ?_ ?_; rotate_left 1; (focus (intro w hSw; (try dsimp only at hSw); go_simp; try (with_reducible rfl))))
              try simp only [Act.put, xA1, xA2, xA3, xA4, xA5, xA6]
              refine wpAnyH_ready (rs := [6]) (by kernel_rfl) (by simp) ?_
              refine AllReadyH.cons rfl (fun K hK => ?_) AllReadyH.nil
              go_simp
              go_at_call 72; refine (HKT.out V0 (hexy.trans hHeld.2.2.2.2)).mono ?_; rintro e V1 ⟨rfl, hz⟩
              refine hK.out _ _ ?_ (fun hHeld => ?_)
              · exact ⟨Ext.cell hz hHeld.1, Ext.cell hz hHeld.2.1, Ext.cell hz hHeld.2.2.1, Ext.cell hz hHeld.2.2.2.1, hHeld.2.2.2.2.trans hz⟩
              clear hK K
              clear hz
              try simp only [Act.put, xA1, xA2, xA3, xA4, xA5, xA6]
              (refine tkH (i := 7) (v := ?_) rfl ?_ ?_; rotate_left 1; (focus (intro w hSw; (try dsimp only at hSw); go_simp; try (with_reducible rfl))))
              try simp only [Act.put, xA1, xA2, xA3, xA4, xA5, xA6]
              (refine tkH (i := 8) (v := ?_) rfl ?_ ?_; rotate_left 1; (focus (intro w hSw; (try dsimp only at hSw); go_simp; try (with_reducible rfl))))
              try simp only [Act.put, xA1, xA2, xA3, xA4, xA5, xA6]
              (refine tkH (i := 9) (v := ?_) rfl ?_ ?_; rotate_left 1; (focus (intro w hSw; (try dsimp only at hSw); go_simp; try (with_reducible rfl))))
              try simp only [Act.put, xA1, xA2, xA3, xA4, xA5, xA6]
              (refine tkH (i := 15) (v := ?_) rfl ?_ ?_; rotate_left 1; (focus (intro w hSw; (try dsimp only at hSw); go_simp; try (with_reducible rfl))))
              try simp only [Act.put, xA1, xA2, xA3, xA4, xA5, xA6]
              (refine tkH (i := 16) (v := ?_) rfl ?_ ?_; rotate_left 1; (focus (intro w hSw; (try dsimp only at hSw); go_simp; try (with_reducible rfl))))
              try simp only [Act.put, xA1, xA2, xA3, xA4, xA5, xA6]
              (refine tkH (i := 17) (v := ?_) rfl ?_ ?_; rotate_left 1; (focus (intro w hSw; (try dsimp only at hSw); go_simp; try (with_reducible rfl))))
              try simp only [Act.put, xA1, xA2, xA3, xA4, xA5, xA6]
              refine wpAnyH_done (by kernel_rfl) ?_ _
              go_wp2_with fail
              go_meet
              case rel => exact ⟨by rw [HFE.out]; simp [IntWalk.i64_in (n + 2) (by omega)], hHeld.2.2.2.2⟩
          case rest =>
            obtain ⟨rfl, hyw⟩ := hcut
            have hA := HAY.out.ext hyw
            have hM := hMY.ext hyw
            have HF := Lib.hid (HFY.out.ext hyw)
            replace e0 := hyw.cell e0
            replace f0 := hyw.cell f0
            replace f1 := hyw.cell f1
            replace cn := hyw.cell cn
            have hexy := hA.ex
            have HA := Lib.hid hA
            clear hMY HFY HAY hyw hA hY hPB c0 c1
            cases hw : wayTo (wayF P g fr) x with
            | none =>
              have hs := HST.out
              rw [stC_no (t := ⟨x, y⟩) hw] at hs
              have hg0 := HF.out.lookN (wayTo_none hw)
              have HS := Lib.hid hs
              have HG := Lib.hid hg0
              clear hs hg0 hw
              go_wp2_with (refine wpList_lookupMap rfl _ _ true rfl KI mapTs rfl hM x rfl (zeroSs _) ?_; simp only [if_true]; rw [HG.out])
              refine wp_region_held_drew (S := fun W' => W'.cell? ⟨w.heap.size, 0, none⟩ = some (.slice (some ⟨bb, oo, none⟩) P.ts.length ca) ∧ W'.cell? ⟨w.heap.size, 1, none⟩ = some (.slice ab P.ss.length cb) ∧ W'.cell? ⟨nb, no + j, none⟩ = some (.int .i64 n) ∧ W'.cell? ⟨PB, 0, none⟩ = some (.int .i64 x) ∧ Ext wc W') (by kernel_rfl) ?_ (fun hHeld => ?_)
              · exact ⟨f0, f1, cn, e0, Ext.drew (Ext.refl _)⟩
              obtain ⟨V0, hV0⟩ : ∃ V, World.drew wc = V := ⟨_, rfl⟩
              rw [hV0] at hHeld ⊢
              clear hV0
              (refine tkH (i := 0) (v := ?_) rfl ?_ ?_; rotate_left 1; (focus (intro w hSw; (try dsimp only at hSw); go_simp; try (with_reducible rfl))))
              try simp only [Act.put, xA1, xA2, xA4, xA5, xA6]
              (refine tkH (i := 1) (v := ?_) rfl ?_ ?_; rotate_left 1; (focus (intro w hSw; (try dsimp only at hSw); go_simp; try (with_reducible rfl))))
              try simp only [Act.put, xA1, xA2, xA3, xA4, xA5, xA6]
              (refine skH (i := 2) rfl ?_)
              try simp only [Act.put, xA1, xA2, xA3, xA4, xA5, xA6]
              (refine tkH (i := 3) (v := ?_) rfl ?_ ?_; rotate_left 1; (focus (intro w hSw; (try dsimp only at hSw); go_simp; try (with_reducible rfl))))
              try simp only [Act.put, xA1, xA2, xA3, xA4, xA5, xA6]
              (refine tkH (i := 4) (v := ?_) rfl ?_ ?_; rotate_left 1; (focus (intro w hSw; (try dsimp only at hSw); go_simp; try (with_reducible rfl))))
              try simp only [Act.put, xA1, xA2, xA3, xA4, xA5, xA6]
              (refine skH (i := 5) rfl ?_)
              try simp only [Act.put, xA1, xA2, xA3, xA4, xA5, xA6]
              (refine skH (i := 6) rfl ?_)
              try simp only [Act.put, xA1, xA2, xA3, xA4, xA5, xA6]
              (refine skH (i := 7) rfl ?_)
              try simp only [Act.put, xA1, xA2, xA3, xA4, xA5, xA6]
              (refine skH (i := 8) rfl ?_)
              try simp only [Act.put, xA1, xA2, xA3, xA4, xA5, xA6]
              (refine tkH (i := 9) (v := ?_) rfl ?_ ?_; rotate_left 1; (focus (intro w hSw; (try dsimp only at hSw); go_simp; try (with_reducible rfl))))
              try simp only [Act.put, xA1, xA2, xA3, xA4, xA5, xA6]
              (refine tkH (i := 10) (v := ?_) rfl ?_ ?_; rotate_left 1; (focus (intro w hSw; (try dsimp only at hSw); go_simp; try (with_reducible rfl))))
              try simp only [Act.put, xA1, xA2, xA3, xA4, xA5, xA6]
              (refine skH (i := 11) rfl ?_)
              try simp only [Act.put, xA1, xA2, xA3, xA4, xA5, xA6]
              (refine skH (i := 12) rfl ?_)
              try simp only [Act.put, xA1, xA2, xA3, xA4, xA5, xA6]
              (refine skH (i := 13) rfl ?_)
              try simp only [Act.put, xA1, xA2, xA3, xA4, xA5, xA6]
              (refine skH (i := 14) rfl ?_)
              try simp only [Act.put, xA1, xA2, xA3, xA4, xA5, xA6]
              (refine skH (i := 15) rfl ?_)
              try simp only [Act.put, xA1, xA2, xA3, xA4, xA5, xA6]
              (refine skH (i := 16) rfl ?_)
              try simp only [Act.put, xA1, xA2, xA3, xA4, xA5, xA6]
              (refine skH (i := 17) rfl ?_)
              try simp only [Act.put, xA1, xA2, xA3, xA4, xA5, xA6]
              (refine tkH (i := 18) (v := ?_) rfl ?_ ?_; rotate_left 1; (focus (intro w hSw; (try dsimp only at hSw); go_simp; try (with_reducible rfl))))
              try simp only [Act.put, xA1, xA2, xA3, xA4, xA5, xA6]
              (refine tkH (i := 19) (v := ?_) rfl ?_ ?_; rotate_left 1; (focus (intro w hSw; (try dsimp only at hSw); go_simp; try (with_reducible rfl))))
              try simp only [Act.put, xA1, xA2, xA3, xA4, xA5, xA6]
              (refine skH (i := 20) rfl ?_)
              try simp only [Act.put, xA1, xA2, xA3, xA4, xA5, xA6]
              (refine skH (i := 21) rfl ?_)
              try simp only [Act.put, xA1, xA2, xA3, xA4, xA5, xA6]
              (refine skH (i := 22) rfl ?_)
              try simp only [Act.put, xA1, xA2, xA3, xA4, xA5, xA6]
              (refine tkH (i := 23) (v := ?_) rfl ?_ ?_; rotate_left 1; (focus (intro w hSw; (try dsimp only at hSw); go_simp; try (with_reducible rfl))))
              try simp only [Act.put, xA1, xA2, xA3, xA4, xA5, xA6]
              refine wpAnyH_done (by kernel_rfl) ?_ _
              go_wp2_with fail
              go_roundw
              case rel => exact ⟨j + 1, bv, by omega, by go_num, Lib.hid (by rw [HS.out]; exact HA.out.ext hHeld.2.2.2.2), hM.ext hHeld.2.2.2.2, Lib.hid (HF.out.ext hHeld.2.2.2.2)⟩
              case measure => simp [intOf]; omega
            | some l =>
              have hs := HST.out
              rw [stC_some (t := ⟨x, y⟩) hw] at hs
              obtain ⟨vl, hgl, hrl⟩ := HF.out.lookS hw
              have hl13 := HLEN.out l hw
              obtain ⟨lA, lc, hvl⟩ := hrl.form
              rw [shW_len] at hvl
              subst hvl
              have HS := Lib.hid hs
              have HG := Lib.hid hgl
              clear hs hgl hw
              go_wp2_with (refine wpList_lookupMap rfl _ _ true rfl KI mapTs rfl hM x rfl (zeroSs _) ?_; simp only [if_true]; rw [HG.out])
              cases far
              · have ho := HOK.out
                rw [Bool.and_false] at ho
                have hs := HS.out
                rw [if_neg (by rw [ho]; simp)] at hs
                have HS2 := Lib.hid hs
                clear ho hs
                refine wp_region_held_drew (S := fun W' => W'.cell? ⟨w.heap.size, 0, none⟩ = some (.slice (some ⟨bb, oo, none⟩) P.ts.length ca) ∧ W'.cell? ⟨w.heap.size, 1, none⟩ = some (.slice ab P.ss.length cb) ∧ W'.cell? ⟨nb, no + j, none⟩ = some (.int .i64 n) ∧ W'.cell? ⟨PB, 0, none⟩ = some (.int .i64 x) ∧ Ext wc W') (by kernel_rfl) ?_ (fun hHeld => ?_)
                · exact ⟨f0, f1, cn, e0, Ext.drew (Ext.refl _)⟩
                obtain ⟨V0, hV0⟩ : ∃ V, World.drew wc = V := ⟨_, rfl⟩
                rw [hV0] at hHeld ⊢
                clear hV0
                (refine tkH (i := 0) (v := ?_) rfl ?_ ?_; rotate_left 1; (focus (intro w hSw; (try dsimp only at hSw); go_simp; try (with_reducible rfl))))
                try simp only [Act.put, xA1, xA2, xA4, xA5, xA6]
                (refine tkH (i := 1) (v := ?_) rfl ?_ ?_; rotate_left 1; (focus (intro w hSw; (try dsimp only at hSw); go_simp; try (with_reducible rfl))))
                try simp only [Act.put, xA1, xA2, xA3, xA4, xA5, xA6]
                (refine tkH (i := 2) (v := ?_) rfl ?_ ?_; rotate_left 1; (focus (intro w hSw; (try dsimp only at hSw); go_simp; try (with_reducible rfl))))
                try simp only [Act.put, xA1, xA2, xA3, xA4, xA5, xA6]
                (refine tkH (i := 3) (v := ?_) rfl ?_ ?_; rotate_left 1; (focus (intro w hSw; (try dsimp only at hSw); go_simp; try (with_reducible rfl))))
                try simp only [Act.put, xA1, xA2, xA3, xA4, xA5, xA6]
                (refine tkH (i := 4) (v := ?_) rfl ?_ ?_; rotate_left 1; (focus (intro w hSw; (try dsimp only at hSw); go_simp; try (with_reducible rfl))))
                try simp only [Act.put, xA1, xA2, xA3, xA4, xA5, xA6]
                (refine skH (i := 5) rfl ?_)
                try simp only [Act.put, xA1, xA2, xA3, xA4, xA5, xA6]
                (refine skH (i := 6) rfl ?_)
                try simp only [Act.put, xA1, xA2, xA3, xA4, xA5, xA6]
                (refine skH (i := 7) rfl ?_)
                try simp only [Act.put, xA1, xA2, xA3, xA4, xA5, xA6]
                (refine skH (i := 8) rfl ?_)
                try simp only [Act.put, xA1, xA2, xA3, xA4, xA5, xA6]
                (refine tkH (i := 9) (v := ?_) rfl ?_ ?_; rotate_left 1; (focus (intro w hSw; (try dsimp only at hSw); go_simp; try (with_reducible rfl))))
                try simp only [Act.put, xA1, xA2, xA3, xA4, xA5, xA6]
                (refine tkH (i := 10) (v := ?_) rfl ?_ ?_; rotate_left 1; (focus (intro w hSw; (try dsimp only at hSw); go_simp; try (with_reducible rfl))))
                try simp only [Act.put, xA1, xA2, xA3, xA4, xA5, xA6]
                (refine skH (i := 11) rfl ?_)
                try simp only [Act.put, xA1, xA2, xA3, xA4, xA5, xA6]
                (refine skH (i := 12) rfl ?_)
                try simp only [Act.put, xA1, xA2, xA3, xA4, xA5, xA6]
                (refine skH (i := 13) rfl ?_)
                try simp only [Act.put, xA1, xA2, xA3, xA4, xA5, xA6]
                (refine skH (i := 14) rfl ?_)
                try simp only [Act.put, xA1, xA2, xA3, xA4, xA5, xA6]
                (refine skH (i := 15) rfl ?_)
                try simp only [Act.put, xA1, xA2, xA3, xA4, xA5, xA6]
                (refine skH (i := 16) rfl ?_)
                try simp only [Act.put, xA1, xA2, xA3, xA4, xA5, xA6]
                (refine skH (i := 17) rfl ?_)
                try simp only [Act.put, xA1, xA2, xA3, xA4, xA5, xA6]
                (refine tkH (i := 18) (v := ?_) rfl ?_ ?_; rotate_left 1; (focus (intro w hSw; (try dsimp only at hSw); go_simp; try (with_reducible rfl))))
                try simp only [Act.put, xA1, xA2, xA3, xA4, xA5, xA6]
                (refine tkH (i := 19) (v := ?_) rfl ?_ ?_; rotate_left 1; (focus (intro w hSw; (try dsimp only at hSw); go_simp; try (with_reducible rfl))))
                try simp only [Act.put, xA1, xA2, xA3, xA4, xA5, xA6]
                (refine skH (i := 20) rfl ?_)
                try simp only [Act.put, xA1, xA2, xA3, xA4, xA5, xA6]
                (refine skH (i := 21) rfl ?_)
                try simp only [Act.put, xA1, xA2, xA3, xA4, xA5, xA6]
                (refine skH (i := 22) rfl ?_)
                try simp only [Act.put, xA1, xA2, xA3, xA4, xA5, xA6]
                (refine tkH (i := 23) (v := ?_) rfl ?_ ?_; rotate_left 1; (focus (intro w hSw; (try dsimp only at hSw); go_simp; try (with_reducible rfl))))
                try simp only [Act.put, xA1, xA2, xA3, xA4, xA5, xA6]
                refine wpAnyH_done (by kernel_rfl) ?_ _
                go_wp2_with fail
                go_roundw
                case rel => exact ⟨j + 1, bv, by omega, by go_num, Lib.hid (by rw [HS2.out]; exact HA.out.ext hHeld.2.2.2.2), hM.ext hHeld.2.2.2.2, Lib.hid (HF.out.ext hHeld.2.2.2.2)⟩
                case measure => simp [intOf]; omega
              · by_cases hxf : x = fr
                · have ho := HOK.out
                  rw [decide_eq_true hxf] at ho
                  have hs := HS.out
                  rw [if_neg (by rw [ho]; simp)] at hs
                  have HS2 := Lib.hid hs
                  have hbx : (x != fr) = false := by simp [hxf]
                  clear ho hs hxf
                  refine wp_region_held_drew (S := fun W' => W'.cell? ⟨w.heap.size, 0, none⟩ = some (.slice (some ⟨bb, oo, none⟩) P.ts.length ca) ∧ W'.cell? ⟨w.heap.size, 1, none⟩ = some (.slice ab P.ss.length cb) ∧ W'.cell? ⟨nb, no + j, none⟩ = some (.int .i64 n) ∧ W'.cell? ⟨PB, 0, none⟩ = some (.int .i64 x) ∧ Ext wc W') (by kernel_rfl) ?_ (fun hHeld => ?_)
                  · exact ⟨f0, f1, cn, e0, Ext.drew (Ext.refl _)⟩
                  obtain ⟨V0, hV0⟩ : ∃ V, World.drew wc = V := ⟨_, rfl⟩
                  rw [hV0] at hHeld ⊢
                  clear hV0
                  (refine tkH (i := 0) (v := ?_) rfl ?_ ?_; rotate_left 1; (focus (intro w hSw; (try dsimp only at hSw); go_simp; try (with_reducible rfl))))
                  try simp only [Act.put, xA1, xA2, xA4, xA5, xA6]
                  (refine tkH (i := 1) (v := ?_) rfl ?_ ?_; rotate_left 1; (focus (intro w hSw; (try dsimp only at hSw); go_simp; try (with_reducible rfl))))
                  try simp only [Act.put, xA1, xA2, xA3, xA4, xA5, xA6]
                  (refine tkH (i := 2) (v := ?_) rfl ?_ ?_; rotate_left 1; (focus (intro w hSw; (try dsimp only at hSw); go_simp; try (with_reducible rfl))))
                  try simp only [Act.put, xA1, xA2, xA3, xA4, xA5, xA6]
                  (refine tkH (i := 3) (v := ?_) rfl ?_ ?_; rotate_left 1; (focus (intro w hSw; (try dsimp only at hSw); go_simp; try (with_reducible rfl))))
                  try simp only [Act.put, xA1, xA2, xA3, xA4, xA5, xA6]
                  (refine tkH (i := 4) (v := ?_) rfl ?_ ?_; rotate_left 1; (focus (intro w hSw; (try dsimp only at hSw); go_simp; try (with_reducible rfl))))
                  try simp only [Act.put, xA1, xA2, xA3, xA4, xA5, xA6]
                  (refine tkH (i := 5) (v := ?_) rfl ?_ ?_; rotate_left 1; (focus (intro w hSw; (try dsimp only at hSw); go_simp; try (with_reducible rfl))))
                  try simp only [Act.put, xA1, xA2, xA3, xA4, xA5, xA6]
                  (refine tkH (i := 6) (v := ?_) rfl ?_ ?_; rotate_left 1; (focus (intro w hSw; (try dsimp only at hSw); go_simp; try (with_reducible rfl))))
                  try simp only [Act.put, xA1, xA2, xA3, xA4, xA5, xA6]
                  (refine tkH (i := 7) (v := ?_) rfl ?_ ?_; rotate_left 1; (focus (intro w hSw; (try dsimp only at hSw); go_simp; try (with_reducible rfl))))
                  try simp only [Act.put, xA1, xA2, xA3, xA4, xA5, xA6]
                  (refine tkH (i := 8) (v := ?_) rfl ?_ ?_; rotate_left 1; (focus (intro w hSw; (try dsimp only at hSw); go_simp; try (with_reducible rfl))))
                  try simp only [Act.put, xA1, xA2, xA3, xA4, xA5, xA6]
                  (refine tkH (i := 9) (v := ?_) rfl ?_ ?_; rotate_left 1; (focus (intro w hSw; (try dsimp only at hSw); go_simp; try (with_reducible rfl))))
                  try simp only [Act.put, xA1, xA2, xA3, xA4, xA5, xA6]
                  (refine tkH (i := 10) (v := ?_) rfl ?_ ?_; rotate_left 1; (focus (intro w hSw; (try dsimp only at hSw); go_simp; try (with_reducible rfl))))
                  try simp only [Act.put, xA1, xA2, xA3, xA4, xA5, xA6]
                  (refine skH (i := 11) rfl ?_)
                  try simp only [Act.put, xA1, xA2, xA3, xA4, xA5, xA6]
                  (refine skH (i := 12) rfl ?_)
                  try simp only [Act.put, xA1, xA2, xA3, xA4, xA5, xA6]
                  (refine skH (i := 13) rfl ?_)
                  try simp only [Act.put, xA1, xA2, xA3, xA4, xA5, xA6]
                  (refine skH (i := 14) rfl ?_)
                  try simp only [Act.put, xA1, xA2, xA3, xA4, xA5, xA6]
                  (refine skH (i := 15) rfl ?_)
                  try simp only [Act.put, xA1, xA2, xA3, xA4, xA5, xA6]
                  (refine skH (i := 16) rfl ?_)
                  try simp only [Act.put, xA1, xA2, xA3, xA4, xA5, xA6]
                  (refine skH (i := 17) rfl ?_)
                  try simp only [Act.put, xA1, xA2, xA3, xA4, xA5, xA6]
                  (refine tkH (i := 18) (v := ?_) rfl ?_ ?_; rotate_left 1; (focus (intro w hSw; (try dsimp only at hSw); go_simp; try (with_reducible rfl))))
                  try simp only [Act.put, xA1, xA2, xA3, xA4, xA5, xA6]
                  (refine tkH (i := 19) (v := ?_) rfl ?_ ?_; rotate_left 1; (focus (intro w hSw; (try dsimp only at hSw); go_simp; try (with_reducible rfl))))
                  try simp only [Act.put, xA1, xA2, xA3, xA4, xA5, xA6]
                  (refine skH (i := 20) rfl ?_)
                  try simp only [Act.put, xA1, xA2, xA3, xA4, xA5, xA6]
                  (refine skH (i := 21) rfl ?_)
                  try simp only [Act.put, xA1, xA2, xA3, xA4, xA5, xA6]
                  (refine skH (i := 22) rfl ?_)
                  try simp only [Act.put, xA1, xA2, xA3, xA4, xA5, xA6]
                  (refine tkH (i := 23) (v := ?_) rfl ?_ ?_; rotate_left 1; (focus (intro w hSw; (try dsimp only at hSw); go_simp; try (with_reducible rfl))))
                  try simp only [Act.put, xA1, xA2, xA3, xA4, xA5, xA6]
                  refine wpAnyH_done (by kernel_rfl) ?_ _
                  go_wp2_with fail
                  go_roundw
                  case rel => exact ⟨j + 1, bv, by omega, by go_num, Lib.hid (by rw [HS2.out]; exact HA.out.ext hHeld.2.2.2.2), hM.ext hHeld.2.2.2.2, Lib.hid (HF.out.ext hHeld.2.2.2.2)⟩
                  case measure => simp [intOf]; omega
                · have hbx : (x != fr) = true := by simp [hxf]
                  by_cases hny : n < y
                  · have ho := HOK.out
                    rw [decide_eq_false hxf, decide_eq_true hny] at ho
                    obtain ⟨ba, bc, hbv, hbn⟩ := HA.out.nil
                    subst hbv
                    have hcond : (okC g fr ⟨x, y⟩ = true ∧ 0 < l.length ∧ (BI.length = 0 ∨ l.length < BI.length)) ↔ (decide (0 < l.length) && (ba.isNone || decide (l.length < BI.length))) = true := by
                      rw [ho, hbn]; simp
                    have hs := HS.out
                    obtain ⟨bt, hbt⟩ : ∃ bt, (decide (0 < l.length) && (ba.isNone || decide (l.length < BI.length))) = bt := ⟨_, rfl⟩
                    rw [hbt] at hcond
                    have KB := fun W (h : Ext wc W) => better_any lA l.length lc ba BI.length bc B1 W (HA.out.bb.ext h)
                    simp only [hbt] at KB
                    have KR := HKR.out n
                    simp only [decide_eq_true hny] at KR
                    have HKB := Lib.hid KB
                    have HKR2 := Lib.hid KR
                    have hl0 : bt = true → l ≠ [] := fun hb e => by
                      have := (hcond.2 hb).2.1
                      rw [e] at this; simp at this
                    have HL0 := Lib.hid hl0
                    cases bt
                    · rw [if_neg (fun h => by have := hcond.1 h; cases this)] at hs
                      have HS2 := Lib.hid hs
                      clear ho hs hxf hny hbn hcond hbt KB KR hl0
                      refine wp_region_held_drew (S := fun W' => W'.cell? ⟨w.heap.size, 0, none⟩ = some (.slice (some ⟨bb, oo, none⟩) P.ts.length ca) ∧ W'.cell? ⟨w.heap.size, 1, none⟩ = some (.slice ab P.ss.length cb) ∧ W'.cell? ⟨nb, no + j, none⟩ = some (.int .i64 n) ∧ W'.cell? ⟨PB, 0, none⟩ = some (.int .i64 x) ∧ Ext wc W') (by kernel_rfl) ?_ (fun hHeld => ?_)
                      · exact ⟨f0, f1, cn, e0, Ext.drew (Ext.refl _)⟩
                      obtain ⟨V0, hV0⟩ : ∃ V, World.drew wc = V := ⟨_, rfl⟩
                      rw [hV0] at hHeld ⊢
                      clear hV0
                      (refine tkH (i := 0) (v := ?_) rfl ?_ ?_; rotate_left 1; (focus (intro w hSw; (try dsimp only at hSw); go_simp; try (with_reducible rfl))))
                      try simp only [Act.put, xA1, xA2, xA4, xA5, xA6]
                      (refine tkH (i := 1) (v := ?_) rfl ?_ ?_; rotate_left 1; (focus (intro w hSw; (try dsimp only at hSw); go_simp; try (with_reducible rfl))))
                      try simp only [Act.put, xA1, xA2, xA3, xA4, xA5, xA6]
                      (refine tkH (i := 2) (v := ?_) rfl ?_ ?_; rotate_left 1; (focus (intro w hSw; (try dsimp only at hSw); go_simp; try (with_reducible rfl))))
                      try simp only [Act.put, xA1, xA2, xA3, xA4, xA5, xA6]
                      (refine tkH (i := 3) (v := ?_) rfl ?_ ?_; rotate_left 1; (focus (intro w hSw; (try dsimp only at hSw); go_simp; try (with_reducible rfl))))
                      try simp only [Act.put, xA1, xA2, xA3, xA4, xA5, xA6]
                      (refine tkH (i := 4) (v := ?_) rfl ?_ ?_; rotate_left 1; (focus (intro w hSw; (try dsimp only at hSw); go_simp; try (with_reducible rfl))))
                      try simp only [Act.put, xA1, xA2, xA3, xA4, xA5, xA6]
                      (refine tkH (i := 5) (v := ?_) rfl ?_ ?_; rotate_left 1; (focus (intro w hSw; (try dsimp only at hSw); go_simp; try (with_reducible rfl))))
                      try simp only [Act.put, xA1, xA2, xA3, xA4, xA5, xA6]
                      (refine tkH (i := 6) (v := ?_) rfl ?_ ?_; rotate_left 1; (focus (intro w hSw; (try dsimp only at hSw); go_simp; try (with_reducible rfl))))
                      try simp only [Act.put, xA1, xA2, xA3, xA4, xA5, xA6]
                      (refine tkH (i := 7) (v := ?_) rfl ?_ ?_; rotate_left 1; (focus (intro w hSw; (try dsimp only at hSw); go_simp; try (with_reducible rfl))))
                      try simp only [Act.put, xA1, xA2, xA3, xA4, xA5, xA6]
                      (refine tkH (i := 8) (v := ?_) rfl ?_ ?_; rotate_left 1; (focus (intro w hSw; (try dsimp only at hSw); go_simp; try (with_reducible rfl))))
                      try simp only [Act.put, xA1, xA2, xA3, xA4, xA5, xA6]
                      (refine tkH (i := 9) (v := ?_) rfl ?_ ?_; rotate_left 1; (focus (intro w hSw; (try dsimp only at hSw); go_simp; try (with_reducible rfl))))
                      try simp only [Act.put, xA1, xA2, xA3, xA4, xA5, xA6]
                      (refine tkH (i := 10) (v := ?_) rfl ?_ ?_; rotate_left 1; (focus (intro w hSw; (try dsimp only at hSw); go_simp; try (with_reducible rfl))))
                      try simp only [Act.put, xA1, xA2, xA3, xA4, xA5, xA6]
                      (refine tkH (i := 11) (v := ?_) rfl ?_ ?_; rotate_left 1; (focus (intro w hSw; (try dsimp only at hSw); go_simp; try (with_reducible rfl))))
                      try simp only [Act.put, xA1, xA2, xA3, xA4, xA5, xA6]
                      (refine tkH (i := 12) (v := ?_) rfl ?_ ?_; rotate_left 1; (focus (intro w hSw; (try dsimp only at hSw); go_simp; try (with_reducible rfl))))
                      try simp only [Act.put, xA1, xA2, xA3, xA4, xA5, xA6]
                      (refine tkH (i := 13) (v := ?_) rfl ?_ ?_; rotate_left 1; (focus (intro w hSw; (try dsimp only at hSw); go_simp; try (with_reducible rfl))))
                      try simp only [Act.put, xA1, xA2, xA3, xA4, xA5, xA6]
                      (refine tkH (i := 14) (v := ?_) rfl ?_ ?_; rotate_left 1; (focus (intro w hSw; (try dsimp only at hSw); go_simp; try (with_reducible rfl))))
                      try simp only [Act.put, xA1, xA2, xA3, xA4, xA5, xA6]
                      (refine tkH (i := 15) (v := ?_) rfl ?_ ?_; rotate_left 1; (focus (intro w hSw; (try dsimp only at hSw); go_simp; try (with_reducible rfl))))
                      try simp only [Act.put, xA1, xA2, xA3, xA4, xA5, xA6]
                      (refine tkH (i := 16) (v := ?_) rfl ?_ ?_; rotate_left 1; (focus (intro w hSw; (try dsimp only at hSw); go_simp; try (with_reducible rfl))))
                      try simp only [Act.put, xA1, xA2, xA3, xA4, xA5, xA6]
                      refine wpAnyH_ready (rs := [17]) (by kernel_rfl) (by simp) ?_
                      refine AllReadyH.cons rfl (fun K hK => ?_) AllReadyH.nil
                      go_simp
                      go_at_call 77; refine (HKR2.out V0 (hexy.trans hHeld.2.2.2.2)).mono ?_; rintro e V1 ⟨rfl, hz⟩
                      refine hK.out _ _ ?_ (fun hHeld => ?_)
                      · exact ⟨Ext.cell hz hHeld.1, Ext.cell hz hHeld.2.1, Ext.cell hz hHeld.2.2.1, Ext.cell hz hHeld.2.2.2.1, hHeld.2.2.2.2.trans hz⟩
                      clear hK K
                      clear hz
                      try simp only [Act.put, xA1, xA2, xA3, xA4, xA5, xA6]
                      (refine tkH (i := 18) (v := ?_) rfl ?_ ?_; rotate_left 1; (focus (intro w hSw; (try dsimp only at hSw); go_simp; try (with_reducible rfl))))
                      try simp only [Act.put, xA1, xA2, xA3, xA4, xA5, xA6]
                      (refine tkH (i := 19) (v := ?_) rfl ?_ ?_; rotate_left 1; (focus (intro w hSw; (try dsimp only at hSw); go_simp; try (with_reducible rfl))))
                      try simp only [Act.put, xA1, xA2, xA3, xA4, xA5, xA6]
                      (refine tkH (i := 20) (v := ?_) rfl ?_ ?_; rotate_left 1; (focus (intro w hSw; (try dsimp only at hSw); go_simp; try (with_reducible rfl))))
                      try simp only [Act.put, xA1, xA2, xA3, xA4, xA5, xA6]
                      (refine tkH (i := 21) (v := ?_) rfl ?_ ?_; rotate_left 1; (focus (intro w hSw; (try dsimp only at hSw); go_simp; try (with_reducible rfl))))
                      try simp only [Act.put, xA1, xA2, xA3, xA4, xA5, xA6]
                      refine wpAnyH_ready (rs := [22]) (by kernel_rfl) (by simp) ?_
                      refine AllReadyH.cons rfl (fun K hK => ?_) AllReadyH.nil
                      go_simp
                      go_at_call 126; refine (HKB.out V1 hHeld.2.2.2.2).mono ?_; rintro e V2 ⟨rfl, hz⟩
                      refine hK.out _ _ ?_ (fun hHeld => ?_)
                      · exact ⟨Ext.cell hz hHeld.1, Ext.cell hz hHeld.2.1, Ext.cell hz hHeld.2.2.1, Ext.cell hz hHeld.2.2.2.1, hHeld.2.2.2.2.trans hz⟩
                      clear hK K
                      clear hz
                      try simp only [Act.put, xA1, xA2, xA3, xA4, xA5, xA6]
                      (refine tkH (i := 23) (v := ?_) rfl ?_ ?_; rotate_left 1; (focus (intro w hSw; (try dsimp only at hSw); go_simp; try (with_reducible rfl))))
                      try simp only [Act.put, xA1, xA2, xA3, xA4, xA5, xA6]
                      refine wpAnyH_done (by kernel_rfl) ?_ _
                      go_wp2_with fail
                      go_roundw
                      case rel => exact ⟨j + 1, _, by omega, by go_num, Lib.hid (by rw [HS2.out]; exact HA.out.ext hHeld.2.2.2.2), hM.ext hHeld.2.2.2.2, Lib.hid (HF.out.ext hHeld.2.2.2.2)⟩
                      case measure => simp [intOf]; omega
                    · rw [if_pos (hcond.2 rfl)] at hs
                      have HS2 := Lib.hid hs
                      clear ho hs hxf hny hbn hcond hbt KB KR hl0
                      refine wp_region_held_drew (S := fun W' => W'.cell? ⟨w.heap.size, 0, none⟩ = some (.slice (some ⟨bb, oo, none⟩) P.ts.length ca) ∧ W'.cell? ⟨w.heap.size, 1, none⟩ = some (.slice ab P.ss.length cb) ∧ W'.cell? ⟨nb, no + j, none⟩ = some (.int .i64 n) ∧ W'.cell? ⟨PB, 0, none⟩ = some (.int .i64 x) ∧ Ext wc W') (by kernel_rfl) ?_ (fun hHeld => ?_)
                      · exact ⟨f0, f1, cn, e0, Ext.drew (Ext.refl _)⟩
                      obtain ⟨V0, hV0⟩ : ∃ V, World.drew wc = V := ⟨_, rfl⟩
                      rw [hV0] at hHeld ⊢
                      clear hV0
                      (refine tkH (i := 0) (v := ?_) rfl ?_ ?_; rotate_left 1; (focus (intro w hSw; (try dsimp only at hSw); go_simp; try (with_reducible rfl))))
                      try simp only [Act.put, xA1, xA2, xA4, xA5, xA6]
                      (refine tkH (i := 1) (v := ?_) rfl ?_ ?_; rotate_left 1; (focus (intro w hSw; (try dsimp only at hSw); go_simp; try (with_reducible rfl))))
                      try simp only [Act.put, xA1, xA2, xA3, xA4, xA5, xA6]
                      (refine tkH (i := 2) (v := ?_) rfl ?_ ?_; rotate_left 1; (focus (intro w hSw; (try dsimp only at hSw); go_simp; try (with_reducible rfl))))
                      try simp only [Act.put, xA1, xA2, xA3, xA4, xA5, xA6]
                      (refine tkH (i := 3) (v := ?_) rfl ?_ ?_; rotate_left 1; (focus (intro w hSw; (try dsimp only at hSw); go_simp; try (with_reducible rfl))))
                      try simp only [Act.put, xA1, xA2, xA3, xA4, xA5, xA6]
                      (refine tkH (i := 4) (v := ?_) rfl ?_ ?_; rotate_left 1; (focus (intro w hSw; (try dsimp only at hSw); go_simp; try (with_reducible rfl))))
                      try simp only [Act.put, xA1, xA2, xA3, xA4, xA5, xA6]
                      (refine tkH (i := 5) (v := ?_) rfl ?_ ?_; rotate_left 1; (focus (intro w hSw; (try dsimp only at hSw); go_simp; try (with_reducible rfl))))
                      try simp only [Act.put, xA1, xA2, xA3, xA4, xA5, xA6]
                      (refine tkH (i := 6) (v := ?_) rfl ?_ ?_; rotate_left 1; (focus (intro w hSw; (try dsimp only at hSw); go_simp; try (with_reducible rfl))))
                      try simp only [Act.put, xA1, xA2, xA3, xA4, xA5, xA6]
                      (refine tkH (i := 7) (v := ?_) rfl ?_ ?_; rotate_left 1; (focus (intro w hSw; (try dsimp only at hSw); go_simp; try (with_reducible rfl))))
                      try simp only [Act.put, xA1, xA2, xA3, xA4, xA5, xA6]
                      (refine tkH (i := 8) (v := ?_) rfl ?_ ?_; rotate_left 1; (focus (intro w hSw; (try dsimp only at hSw); go_simp; try (with_reducible rfl))))
                      try simp only [Act.put, xA1, xA2, xA3, xA4, xA5, xA6]
                      (refine tkH (i := 9) (v := ?_) rfl ?_ ?_; rotate_left 1; (focus (intro w hSw; (try dsimp only at hSw); go_simp; try (with_reducible rfl))))
                      try simp only [Act.put, xA1, xA2, xA3, xA4, xA5, xA6]
                      (refine tkH (i := 10) (v := ?_) rfl ?_ ?_; rotate_left 1; (focus (intro w hSw; (try dsimp only at hSw); go_simp; try (with_reducible rfl))))
                      try simp only [Act.put, xA1, xA2, xA3, xA4, xA5, xA6]
                      (refine tkH (i := 11) (v := ?_) rfl ?_ ?_; rotate_left 1; (focus (intro w hSw; (try dsimp only at hSw); go_simp; try (with_reducible rfl))))
                      try simp only [Act.put, xA1, xA2, xA3, xA4, xA5, xA6]
                      (refine tkH (i := 12) (v := ?_) rfl ?_ ?_; rotate_left 1; (focus (intro w hSw; (try dsimp only at hSw); go_simp; try (with_reducible rfl))))
                      try simp only [Act.put, xA1, xA2, xA3, xA4, xA5, xA6]
                      (refine tkH (i := 13) (v := ?_) rfl ?_ ?_; rotate_left 1; (focus (intro w hSw; (try dsimp only at hSw); go_simp; try (with_reducible rfl))))
                      try simp only [Act.put, xA1, xA2, xA3, xA4, xA5, xA6]
                      (refine tkH (i := 14) (v := ?_) rfl ?_ ?_; rotate_left 1; (focus (intro w hSw; (try dsimp only at hSw); go_simp; try (with_reducible rfl))))
                      try simp only [Act.put, xA1, xA2, xA3, xA4, xA5, xA6]
                      (refine tkH (i := 15) (v := ?_) rfl ?_ ?_; rotate_left 1; (focus (intro w hSw; (try dsimp only at hSw); go_simp; try (with_reducible rfl))))
                      try simp only [Act.put, xA1, xA2, xA3, xA4, xA5, xA6]
                      (refine tkH (i := 16) (v := ?_) rfl ?_ ?_; rotate_left 1; (focus (intro w hSw; (try dsimp only at hSw); go_simp; try (with_reducible rfl))))
                      try simp only [Act.put, xA1, xA2, xA3, xA4, xA5, xA6]
                      refine wpAnyH_ready (rs := [17]) (by kernel_rfl) (by simp) ?_
                      refine AllReadyH.cons rfl (fun K hK => ?_) AllReadyH.nil
                      go_simp
                      go_at_call 77; refine (HKR2.out V0 (hexy.trans hHeld.2.2.2.2)).mono ?_; rintro e V1 ⟨rfl, hz⟩
                      refine hK.out _ _ ?_ (fun hHeld => ?_)
                      · exact ⟨Ext.cell hz hHeld.1, Ext.cell hz hHeld.2.1, Ext.cell hz hHeld.2.2.1, Ext.cell hz hHeld.2.2.2.1, hHeld.2.2.2.2.trans hz⟩
                      clear hK K
                      clear hz
                      try simp only [Act.put, xA1, xA2, xA3, xA4, xA5, xA6]
                      (refine tkH (i := 18) (v := ?_) rfl ?_ ?_; rotate_left 1; (focus (intro w hSw; (try dsimp only at hSw); go_simp; try (with_reducible rfl))))
                      try simp only [Act.put, xA1, xA2, xA3, xA4, xA5, xA6]
                      (refine tkH (i := 19) (v := ?_) rfl ?_ ?_; rotate_left 1; (focus (intro w hSw; (try dsimp only at hSw); go_simp; try (with_reducible rfl))))
                      try simp only [Act.put, xA1, xA2, xA3, xA4, xA5, xA6]
                      (refine tkH (i := 20) (v := ?_) rfl ?_ ?_; rotate_left 1; (focus (intro w hSw; (try dsimp only at hSw); go_simp; try (with_reducible rfl))))
                      try simp only [Act.put, xA1, xA2, xA3, xA4, xA5, xA6]
                      (refine tkH (i := 21) (v := ?_) rfl ?_ ?_; rotate_left 1; (focus (intro w hSw; (try dsimp only at hSw); go_simp; try (with_reducible rfl))))
                      try simp only [Act.put, xA1, xA2, xA3, xA4, xA5, xA6]
                      refine wpAnyH_ready (rs := [22]) (by kernel_rfl) (by simp) ?_
                      refine AllReadyH.cons rfl (fun K hK => ?_) AllReadyH.nil
                      go_simp
                      go_at_call 126; refine (HKB.out V1 hHeld.2.2.2.2).mono ?_; rintro e V2 ⟨rfl, hz⟩
                      refine hK.out _ _ ?_ (fun hHeld => ?_)
                      · exact ⟨Ext.cell hz hHeld.1, Ext.cell hz hHeld.2.1, Ext.cell hz hHeld.2.2.1, Ext.cell hz hHeld.2.2.2.1, hHeld.2.2.2.2.trans hz⟩
                      clear hK K
                      clear hz
                      try simp only [Act.put, xA1, xA2, xA3, xA4, xA5, xA6]
                      (refine tkH (i := 23) (v := ?_) rfl ?_ ?_; rotate_left 1; (focus (intro w hSw; (try dsimp only at hSw); go_simp; try (with_reducible rfl))))
                      try simp only [Act.put, xA1, xA2, xA3, xA4, xA5, xA6]
                      refine wpAnyH_done (by kernel_rfl) ?_ _
                      have hA2 := HA.out.ext hHeld.2.2.2.2
                      have hM2 := hM.ext hHeld.2.2.2.2
                      have hF2 := HF.out.ext hHeld.2.2.2.2
                      have hrl2 := RowS.ext hrl hHeld.2.2.2.2
                      have g0 := hA2.bb.cell 0
                      have g1 := hA2.bb.frozen 0
                      have HA2 := Lib.hid hA2
                      have HF2 := Lib.hid hF2
                      clear hHeld hA2 hF2
                      go_wp2_with fail
                      go_roundw
                      case rel =>
                        have hMb : M ≠ B1 := fun e => by
                          obtain ⟨es, ck, h3, _⟩ := hM2
                          subst e
                          rw [show _ = _ from HA2.out.bb] at h3; cases h3
                        exact ⟨j + 1, _, by omega, by go_num, Lib.hid (by rw [HS2.out]; exact HA2.out.set hwB hrl2 (HL0.out rfl)), hM2.setCell hMb _, Lib.hid (HF2.out.kept (grownBy_setCell' _ B1 _) (fun r e cs hc => by obtain rfl := Option.some.inj e; exact absurd (cls_uniq hc HA2.out.bb) (by decide)))⟩
                      case measure => simp [intOf]; omega
                  · have ho := HOK.out
                    rw [decide_eq_false hny] at ho
                    have hs := HS.out
                    rw [if_neg (by rw [ho]; simp)] at hs
                    have HS2 := Lib.hid hs
                    have KR := HKR.out n
                    simp only [decide_eq_false hny] at KR
                    have HKR2 := Lib.hid KR
                    clear ho hs hxf hny KR
                    refine wp_region_held_drew (S := fun W' => W'.cell? ⟨w.heap.size, 0, none⟩ = some (.slice (some ⟨bb, oo, none⟩) P.ts.length ca) ∧ W'.cell? ⟨w.heap.size, 1, none⟩ = some (.slice ab P.ss.length cb) ∧ W'.cell? ⟨nb, no + j, none⟩ = some (.int .i64 n) ∧ W'.cell? ⟨PB, 0, none⟩ = some (.int .i64 x) ∧ Ext wc W') (by kernel_rfl) ?_ (fun hHeld => ?_)
                    · exact ⟨f0, f1, cn, e0, Ext.drew (Ext.refl _)⟩
                    obtain ⟨V0, hV0⟩ : ∃ V, World.drew wc = V := ⟨_, rfl⟩
                    rw [hV0] at hHeld ⊢
                    clear hV0
                    (refine tkH (i := 0) (v := ?_) rfl ?_ ?_; rotate_left 1; (focus (intro w hSw; (try dsimp only at hSw); go_simp; try (with_reducible rfl))))
                    try simp only [Act.put, xA1, xA2, xA4, xA5, xA6]
                    (refine tkH (i := 1) (v := ?_) rfl ?_ ?_; rotate_left 1; (focus (intro w hSw; (try dsimp only at hSw); go_simp; try (with_reducible rfl))))
                    try simp only [Act.put, xA1, xA2, xA3, xA4, xA5, xA6]
                    (refine tkH (i := 2) (v := ?_) rfl ?_ ?_; rotate_left 1; (focus (intro w hSw; (try dsimp only at hSw); go_simp; try (with_reducible rfl))))
                    try simp only [Act.put, xA1, xA2, xA3, xA4, xA5, xA6]
                    (refine tkH (i := 3) (v := ?_) rfl ?_ ?_; rotate_left 1; (focus (intro w hSw; (try dsimp only at hSw); go_simp; try (with_reducible rfl))))
                    try simp only [Act.put, xA1, xA2, xA3, xA4, xA5, xA6]
                    (refine tkH (i := 4) (v := ?_) rfl ?_ ?_; rotate_left 1; (focus (intro w hSw; (try dsimp only at hSw); go_simp; try (with_reducible rfl))))
                    try simp only [Act.put, xA1, xA2, xA3, xA4, xA5, xA6]
                    (refine tkH (i := 5) (v := ?_) rfl ?_ ?_; rotate_left 1; (focus (intro w hSw; (try dsimp only at hSw); go_simp; try (with_reducible rfl))))
                    try simp only [Act.put, xA1, xA2, xA3, xA4, xA5, xA6]
                    (refine tkH (i := 6) (v := ?_) rfl ?_ ?_; rotate_left 1; (focus (intro w hSw; (try dsimp only at hSw); go_simp; try (with_reducible rfl))))
                    try simp only [Act.put, xA1, xA2, xA3, xA4, xA5, xA6]
                    (refine tkH (i := 7) (v := ?_) rfl ?_ ?_; rotate_left 1; (focus (intro w hSw; (try dsimp only at hSw); go_simp; try (with_reducible rfl))))
                    try simp only [Act.put, xA1, xA2, xA3, xA4, xA5, xA6]
                    (refine tkH (i := 8) (v := ?_) rfl ?_ ?_; rotate_left 1; (focus (intro w hSw; (try dsimp only at hSw); go_simp; try (with_reducible rfl))))
                    try simp only [Act.put, xA1, xA2, xA3, xA4, xA5, xA6]
                    (refine tkH (i := 9) (v := ?_) rfl ?_ ?_; rotate_left 1; (focus (intro w hSw; (try dsimp only at hSw); go_simp; try (with_reducible rfl))))
                    try simp only [Act.put, xA1, xA2, xA3, xA4, xA5, xA6]
                    (refine tkH (i := 10) (v := ?_) rfl ?_ ?_; rotate_left 1; (focus (intro w hSw; (try dsimp only at hSw); go_simp; try (with_reducible rfl))))
                    try simp only [Act.put, xA1, xA2, xA3, xA4, xA5, xA6]
                    (refine tkH (i := 11) (v := ?_) rfl ?_ ?_; rotate_left 1; (focus (intro w hSw; (try dsimp only at hSw); go_simp; try (with_reducible rfl))))
                    try simp only [Act.put, xA1, xA2, xA3, xA4, xA5, xA6]
                    (refine tkH (i := 12) (v := ?_) rfl ?_ ?_; rotate_left 1; (focus (intro w hSw; (try dsimp only at hSw); go_simp; try (with_reducible rfl))))
                    try simp only [Act.put, xA1, xA2, xA3, xA4, xA5, xA6]
                    (refine tkH (i := 13) (v := ?_) rfl ?_ ?_; rotate_left 1; (focus (intro w hSw; (try dsimp only at hSw); go_simp; try (with_reducible rfl))))
                    try simp only [Act.put, xA1, xA2, xA3, xA4, xA5, xA6]
                    (refine tkH (i := 14) (v := ?_) rfl ?_ ?_; rotate_left 1; (focus (intro w hSw; (try dsimp only at hSw); go_simp; try (with_reducible rfl))))
                    try simp only [Act.put, xA1, xA2, xA3, xA4, xA5, xA6]
                    (refine tkH (i := 15) (v := ?_) rfl ?_ ?_; rotate_left 1; (focus (intro w hSw; (try dsimp only at hSw); go_simp; try (with_reducible rfl))))
                    try simp only [Act.put, xA1, xA2, xA3, xA4, xA5, xA6]
                    (refine tkH (i := 16) (v := ?_) rfl ?_ ?_; rotate_left 1; (focus (intro w hSw; (try dsimp only at hSw); go_simp; try (with_reducible rfl))))
                    try simp only [Act.put, xA1, xA2, xA3, xA4, xA5, xA6]
                    refine wpAnyH_ready (rs := [17]) (by kernel_rfl) (by simp) ?_
                    refine AllReadyH.cons rfl (fun K hK => ?_) AllReadyH.nil
                    go_simp
                    go_at_call 77; refine (HKR2.out V0 (hexy.trans hHeld.2.2.2.2)).mono ?_; rintro e V1 ⟨rfl, hz⟩
                    refine hK.out _ _ ?_ (fun hHeld => ?_)
                    · exact ⟨Ext.cell hz hHeld.1, Ext.cell hz hHeld.2.1, Ext.cell hz hHeld.2.2.1, Ext.cell hz hHeld.2.2.2.1, hHeld.2.2.2.2.trans hz⟩
                    clear hK K
                    clear hz
                    try simp only [Act.put, xA1, xA2, xA3, xA4, xA5, xA6]
                    (refine tkH (i := 18) (v := ?_) rfl ?_ ?_; rotate_left 1; (focus (intro w hSw; (try dsimp only at hSw); go_simp; try (with_reducible rfl))))
                    try simp only [Act.put, xA1, xA2, xA3, xA4, xA5, xA6]
                    (refine tkH (i := 19) (v := ?_) rfl ?_ ?_; rotate_left 1; (focus (intro w hSw; (try dsimp only at hSw); go_simp; try (with_reducible rfl))))
                    try simp only [Act.put, xA1, xA2, xA3, xA4, xA5, xA6]
                    (refine skH (i := 20) rfl ?_)
                    try simp only [Act.put, xA1, xA2, xA3, xA4, xA5, xA6]
                    (refine skH (i := 21) rfl ?_)
                    try simp only [Act.put, xA1, xA2, xA3, xA4, xA5, xA6]
                    (refine skH (i := 22) rfl ?_)
                    try simp only [Act.put, xA1, xA2, xA3, xA4, xA5, xA6]
                    (refine tkH (i := 23) (v := ?_) rfl ?_ ?_; rotate_left 1; (focus (intro w hSw; (try dsimp only at hSw); go_simp; try (with_reducible rfl))))
                    try simp only [Act.put, xA1, xA2, xA3, xA4, xA5, xA6]
                    refine wpAnyH_done (by kernel_rfl) ?_ _
                    go_wp2_with fail
                    go_roundw
                    case rel => exact ⟨j + 1, bv, by omega, by go_num, Lib.hid (by rw [HS2.out]; exact HA.out.ext hHeld.2.2.2.2), hM.ext hHeld.2.2.2.2, Lib.hid (HF.out.ext hHeld.2.2.2.2)⟩
                    case measure => simp [intOf]; omega
        · obtain rfl : j = P.ts.length := by omega
          have hs := HST.out
          rw [← hs] at HA
          clear hs HF
          go_wp2_with fail
          go_roundw
          case rel => exact ⟨k + 1, bv, by omega, by go_num, HA⟩
          case measure => simp [intOf]; omega
    · obtain rfl : k = SL := by omega
      have he := HEND.out
      rw [HSL.out] at he
      obtain ⟨ba, bc, hbv, hbn⟩ := HA.out.nil
      rw [he] at HA hbv
      subst hbv
      have g0 : wr.cell? ⟨B1, 0, none⟩ = some (.slice ba R.length bc) := HA.out.bb.cell 0
      clear he hbn
      go_wp2_with fail
      go_quiet (fail)
      go_wp2_with fail
      go_ret2
      exact ⟨_, ret2 rfl (by simp), HA.out.br.ext (by repeat (first | exact Ext.refl _ | assumption | refine Ext.alloc ?_ _ | refine Ext.drew ?_ | refine Ext.drewN _ ?_ | refine Ext.trans ?_ (by assumption))), HA.out.ex.trans (by repeat (first | exact Ext.refl _ | assumption | refine Ext.alloc ?_ _ | refine Ext.drew ?_ | refine Ext.drewN _ ?_ | refine Ext.trans ?_ (by assumption)))⟩
end Go.Proofs.Ytiofdfjcaklmcaa
