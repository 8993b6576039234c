/- Path: AppendSeq, Collect and Sorted over the way up (in progress). Path of the levy. -/
import Derived.Test.YthopgonbndoidaaVWt
import Derived.Test.YthopgonbndoidaaVGp
import Derived.Test.YthopgonbndoidaaVChk
import Derived.Test.YthopgonbndoidaaVUsd
namespace Go.Proofs.Ythopgonbndoidaa
open Go.RowKit Go.Shelf

/-- the state between two rounds of slices.AppendSeq over ints -/
def SqI {n : Nat} (n₀ Bo : Nat) (l : List (RIx n)) (W : World) : Prop := ∃ v, Cls Bo 34 #[v] W ∧ RowI n₀ v (vals l) W
theorem sqI_own {n : Nat} (n₀ Bo : Nat) : Own (fun (s : List (RIx n)) W => SqI n₀ Bo s W) := by
  have h := holdsRow_own n₀ Bo 34 3 1 (fun s : List (RIx n) => (vals s).length) (fun s => cellsI (vals s)) (fun _ _ => True)
  intro s X Y row ⟨v, h1, h2⟩ hg hr
  obtain ⟨v', k1, k2, _⟩ := h s X Y row ⟨v, h1, h2, trivial⟩ hg hr
  exact ⟨v', k1, k2⟩
theorem sqI_abide {n : Nat} {n₀ Bo Br : Nat} (h1 : Bo ≠ Br) (h2 : Br < n₀) : AbidesBox Br (fun (s : List (RIx n)) W => SqI n₀ Bo s W) :=
  ⟨fun s W u ⟨v, hc, hr⟩ => ⟨v, (abidesBox_cls 34 (fun _ : List (RIx n) => #[v]) h1).1 s W u hc, (rowI_abide (β := List (RIx n)) (fun g hg => by have := (hr.lt g hg).1; omega)).1 s W u hr⟩,
   fun s W o ⟨v, hc, hr⟩ => ⟨v, (abidesBox_cls 34 (fun _ : List (RIx n) => #[v]) h1).2 s W o hc, rowI_ext hr (by repeat (first | exact Ext.refl _ | assumption | refine Ext.alloc ?_ _ | refine Ext.drew ?_ | refine Ext.drewN _ ?_ | refine Ext.trans ?_ (by assumption)))⟩⟩
section
attribute [local go_sem] Oper.semAt_some
set_option maxRecDepth 100000 in
set_option maxHeartbeats 4000000 in
theorem appUp_any (Bt Br : Nat) (T : Tr) (hV : RsV T.rs) (a b : Value) (r : Int) (h1 : -1 ≤ r) (h2 : r < T.rs.length) (w0 w : World) (hw : Ext w0 w) (tt tr : TypeId) (hne : Bt ≠ Br) (hBr : w0.heap.size ≤ Br) (_hBt : w0.heap.size ≤ Bt) (hB : Cls Bt tt #[a, b] w) (hX : Cls Br tr #[.int .i64 r] w) (hT : RcsAt w0 a T.rs) (hlen : (upL T.rs r).length ≤ 100) :
    Calls Try.prog 137 #[.slice none 0 0, .func (.func 117) #[] #[.pointer (some ⟨Br, 0, none⟩), .pointer (some ⟨Bt, 0, none⟩)]] w fun e w' => ∃ v, e = .returned v ∧ RowI w.heap.size v (upL T.rs r) w' ∧ Ext w0 w' := by
  have hlB := hB.lt
  have hlX := hX.lt
  have hw0 := hw.size
  refine (callsIn_wide (n := 5)).1 ?_
  refine callsIn_of_wp_marks Try.func137 rfl trivial ?_ rfl; simp only [Try.ntmps137, List.size_toArray, List.length_cons, List.length_nil, Nat.reduceAdd, Nat.reduceSub, Array.replicate_succ, Array.replicate_zero, List.push_toArray, List.append_toArray, List.nil_append, List.cons_append]
  gi_wp2_with fail
  obtain ⟨w1, hw1⟩ : ∃ w1, w.alloc (.cells #[.slice none 0 0] 34) = w1 := ⟨_, rfl⟩
  have hbx : Cls w.heap.size 34 #[.slice none 0 0] w1 := by rw [← hw1]; exact Cls.new _ _ _
  have hz1' : w1.heap.size = w.heap.size + 1 := by rw [← hw1]; simp
  have hx1 : Ext w w1 := by rw [← hw1]; exact (by repeat (first | exact Ext.refl _ | assumption | refine Ext.alloc ?_ _ | refine Ext.drew ?_ | refine Ext.drewN _ ?_ | refine Ext.trans ?_ (by assumption)))
  rw [hw1]
  clear hw1
  have hB1 := hB.ext hx1
  have hX1 := hX.ext hx1
  have hx01 := hw.trans hx1
  have hI0 : SqI (n := T.rs.length) w1.heap.size w.heap.size [] w1 := ⟨_, hbx, rowI_nil _ _⟩
  have hseq := up_seq Bt Br T hV a b r h1 h2 w0 w1 hx01 tt tr hne hBr hB1 hX1 hT
  have hIb : AbidesBox Br (fun (pre : List (RIx T.rs.length)) W => SqI w1.heap.size w.heap.size pre W ∧ Below w0.heap.size w0 W ∧ w1.heap.size ≤ W.heap.size) :=
    (sqI_abide (by omega) (by omega)).and ((abidesBox_below hBr (Nat.le_refl _)).and (abidesBox_size _))
  have hI : OwnFrom w1.heap.size (fun (pre : List (RIx T.rs.length)) W => SqI w1.heap.size w.heap.size pre W ∧ Below w0.heap.size w0 W ∧ w1.heap.size ≤ W.heap.size) :=
    OwnFrom.and ((sqI_own _ _).from _) (OwnFrom.and (ownFrom_below (Nat.le_refl _) hx01.size) (ownFrom_size _ _))
  have hIx : ∀ c : Code, OwnFrom w1.heap.size (fun (_ : List (RIx T.rs.length)) (_ : World) => False) := fun c => fun _ _ _ _ hs _ _ => hs
  refine range_own (gf := 117) (lb := #[.pointer (some ⟨Br, 0, none⟩), .pointer (some ⟨Bt, 0, none⟩)]) ?hg ?eg (n₀ := w0.heap.size) (bs := [Bt, Br]) (Br := Br) hx01.size (by simp; omega) (by omega)
    hseq ?hps _ _ hI hIx hIb ⟨hI0, hx01, Nat.le_refl _⟩ ?round ?done ?stop
  case hg => rfl
  case eg => exact enters_of Try.func117 (by kernel_rfl) rfl
  case hps => exact fun _ => rfl
  case round =>
    apply Exists.intro
    constructor
    · intro l x W K hK
      dsimp only [encR]
      gi_wp2
      exact hK
    · rintro l pre x W ⟨⟨v, hv, hrow⟩, hBl, hsz⟩ hpl0
      have hpl := hpl0.length_le
      rw [← vals_len, ← vals_len, upS_vals] at hpl
      rw [vals_snoc, List.length_append, List.length_singleton] at hpl
      obtain ⟨L, hL⟩ : ∃ L, vals pre = L := ⟨_, rfl⟩
      have hvs := vals_snoc pre x
      rw [hL] at hrow hpl hvs
      obtain ⟨A, c, rfl⟩ := hrow.form
      have cv := hv.cell 0
      have fv := hv.frozen 0
      obtain ⟨xv, hxv⟩ := x
      have HVS := Lib.hid hvs
      clear hvs hL hpl0
      have hlt1 := hv.lt
      have hvB : Boxed W w.heap.size 34 (.slice A L.length c) := hv
      gi_wp2_with (gi_at_builtin; refine appendIn_ints rfl _ _ rfl w1.heap.size _ _ L [xv] rfl (rowI_ext hrow (by repeat (first | exact Ext.refl _ | assumption | refine Ext.alloc ?_ _ | refine Ext.drew ?_ | refine Ext.drewN _ ?_ | refine Ext.trans ?_ (by assumption)))) rfl (ints_oneAt _ _ _ rfl) (by simp; omega) (by simp; omega) ?_; intro v1 w3 hr3 hg3 _; obtain ⟨g1, gc1, rfl⟩ := hr3.form; obtain ⟨hv1, hv2, hr2, hk2, hb2, hb3⟩ := appended2 hvB (by decide : 34 ≠ 3) hrow hsz hr3 hg3; have hcv := hv1.cell; have hfv := hv1.frozen)
      have hb4 := hb3 w0.heap.size (by omega) (by omega)
      rw [show L.length + 1 = (L ++ [xv]).length by simp]
      refine ⟨hk2.from _, ⟨hb4, fun b hb => hb2 b ?_ ?_⟩, ⟨_, hv2, ?_⟩, hBl.trans hb4, by have := hk2.size; omega⟩
      · simp at hb; omega
      · simp at hb; omega
      · rw [HVS.out, ← hz1']; exact hr2
  case done =>
    rintro D ys W hD rfl ⟨⟨v, hv, hrow⟩, hBl, hsz⟩ hK
    rw [upS_vals] at hrow
    have cv := hv.cell 0
    have hrl := hrow.lt
    have hlB2 := hv.lt
    obtain ⟨A, c, rfl⟩ := hrow.form
    gi_wp2
    have hr3 := rowI_sweep (o := .deferred none) hrow hK
    refine ⟨by simp, .inl ⟨_, _, rfl, run_takeDeferred hK, ?_⟩⟩
    refine ⟨.slice A (upL T.rs r).length c, ?_, ?_⟩
    · simp [results, Try.f137, go_sem]
    · exact ⟨_, rfl, rowI_base hr3 (by omega), hBl.trans (belowK_b (w := w0) (Nat.le_refl _) _ D _ _ (by omega) hK rfl rfl)⟩
  case stop =>
    rintro D c pre W hD hpre hF hK
    exact hF.elim
end
set_option maxRecDepth 100000 in
theorem sortedUp_any (Bt Br : Nat) (T : Tr) (hV : RsV T.rs) (a b : Value) (r : Int) (h1 : -1 ≤ r) (h2 : r < T.rs.length) (w0 w : World) (hw : Ext w0 w) (tt tr : TypeId) (hne : Bt ≠ Br) (hBr : w0.heap.size ≤ Br) (hBt : w0.heap.size ≤ Bt) (hB : Cls Bt tt #[a, b] w) (hX : Cls Br tr #[.int .i64 r] w) (hT : RcsAt w0 a T.rs) (hlen : (upL T.rs r).length ≤ 100) :
    Calls Try.prog 90 #[.func (.func 117) #[] #[.pointer (some ⟨Br, 0, none⟩), .pointer (some ⟨Bt, 0, none⟩)]] w fun e w' => ∃ v, e = .returned v ∧ RowI w.heap.size v (srtI (upL T.rs r)) w' ∧ Ext w0 w' := by
  have KC : Calls Try.prog 116 #[.func (.func 117) #[] #[.pointer (some ⟨Br, 0, none⟩), .pointer (some ⟨Bt, 0, none⟩)]] w fun e w' => ∃ v, e = .returned v ∧ RowI w.heap.size v (upL T.rs r) w' ∧ Ext w0 w' := by
    go_enter Try.func116, Try.ntmps116
    go_wp2_with fail
    refine (appUp_any Bt Br T hV a b r h1 h2 w0 w hw tt tr hne hBr hBt hB hX hT hlen).mono ?_
    rintro e w' ⟨v, rfl, k1, k2⟩
    go_wp2
    go_ret
    exact ⟨v, rfl, k1, k2⟩
  go_enter Try.func90, Try.ntmps90
  go_wp2_with fail
  refine KC.mono ?_
  rintro e w1 ⟨v, rfl, k1, k2⟩
  go_wp2_with fail
  refine (sort_any _ v _ w1 k1 (by omega)).mono ?_
  rintro e w2 ⟨rfl, k3, k4⟩
  go_wp2
  go_ret
  exact ⟨v, rfl, k3, ext_own k2 k1 hw.size k4⟩
end Go.Proofs.Ythopgonbndoidaa
namespace Go.Proofs.Ythopgonbndoidaa
open Go.RowKit Go.Shelf

def pthX (T : Tr) (id : Int) : List Int := if pthE T id = 0 then srtI (upL T.rs (pthR T id)) else []
set_option maxRecDepth 100000 in
set_option maxHeartbeats 4000000 in
theorem Path_any (a b : Value) (T : Tr) (id : Int) (w : World) (hT : TrAt w a b T) :
    Calls Try.prog 43 #[.agg #[a, b], .int .i64 id] w (InsPost w (pthX T id) (pthE T id)) := by
  have hX : pthX T id = if pthE T id = 0 then srtI (upL T.rs (pthR T id)) else [] := rfl
  have hPE : pthE T id = if chkE T = 0 then (if fnd T.ps id < 0 then 5 else 0) else chkE T := rfl
  have hok := @Ok.of T
  have hfl := @fnd_lt T.ps id
  have hRe : pthR T id = (T.ps.getD (fnd T.ps id).toNat ⟨0, 0, 0⟩).reach := rfl
  have KC := fun W (hx : Ext w W) => Check_any a b T W (hT.ext hx)
  have KP := fun (hn : T.ps.length ≤ 1000) W (hx : Ext w W) => find_any b T.ps id W (hT.p.ext hx) hn
  obtain ⟨ab, cb, rfl, hlb⟩ := hT.p.len
  obtain ⟨E, hE⟩ : ∃ E, chkE T = E := ⟨_, rfl⟩
  obtain ⟨X, hXX⟩ : ∃ E, pthX T id = E := ⟨_, rfl⟩
  obtain ⟨R, hRR⟩ : ∃ E, pthR T id = E := ⟨_, rfl⟩
  obtain ⟨F, hF⟩ : ∃ E, fnd T.ps id = E := ⟨_, rfl⟩
  obtain ⟨PE, hPP⟩ : ∃ E, pthE T id = E := ⟨_, rfl⟩
  rw [hE] at hok KC
  rw [hPP, hF, hE] at hPE
  rw [hXX, hPP, hRR] at hX
  rw [hRR, hF] at hRe
  rw [hF] at hfl KP
  rw [hXX, hPP]
  have HX := Lib.hid hX
  have HPE := Lib.hid hPE
  have HFL := Lib.hid hfl
  have HRE := Lib.hid hRe
  have HOK := Lib.hid hok
  have HKP := Lib.hid KP
  clear hE hX hXX hF hPP hPE hRR hfl hRe hok KP
  go_enter Try.func43, Try.ntmps43
  go_wp2_with fail
  refine (KC _ (by repeat (first | exact Ext.refl _ | assumption | refine Ext.alloc ?_ _ | refine Ext.drew ?_ | refine Ext.drewN _ ?_ | refine Ext.trans ?_ (by assumption)))).mono ?_
  rintro e w1 ⟨rfl, hx1⟩
  obtain ⟨q0, hx, hk0⟩ := alloc1 hx1
  have d0 : w1.cell? ⟨w.heap.size, 0, none⟩ = some a := q0.cell 0
  have d1 : w1.cell? ⟨w.heap.size, 1, none⟩ = some (.slice ab T.ps.length cb) := q0.cell 1
  clear hx1 KC
  by_cases h0 : E = 0
  · have hb : (E != 0) = false := by simpa using h0
    have hk := HOK.out h0
    have KP := HKP.out (by have := hk.lp; omega)
    have hpe := HPE.out
    rw [if_pos h0] at hpe
    have HPE2 := Lib.hid hpe
    have HK := Lib.hid hk
    clear h0 hpe hk HKP HPE
    go_wp2_with fail
    refine (KP _ hx).mono ?_
    rintro e w2 ⟨rfl, hz⟩
    have hx2 := hx.trans hz
    replace d0 := hz.cell d0
    replace d1 := hz.cell d1
    have hpe := HPE2.out
    clear hz hx q0 KP
    by_cases hF0 : F < 0
    · have g0 : decide (F < 0) = true := decide_eq_true hF0
      rw [if_pos hF0] at hpe
      have hxx := HX.out
      rw [if_neg (by rw [hpe]; decide)] at hxx
      have HR2 := Lib.hid hpe
      have HX2 := Lib.hid hxx
      clear hpe hxx hF0 HX
      go_wp2_with fail
      go_ret2
      exact ⟨_, ret2 rfl (by rw [HR2.out]; rfl), by rw [HX2.out]; exact intsAt_nil _, hx2⟩
    · have g0 : decide (F < 0) = false := decide_eq_false hF0
      rw [if_neg hF0] at hpe
      have hxx := HX.out
      rw [if_pos hpe] at hxx
      have hflt := HFL.out (by omega)
      have hRe := HRE.out
      have hk := HK.out
      obtain ⟨i, rfl⟩ : ∃ i : Nat, F = (i : Int) := ⟨F.toNat, by omega⟩
      have hil : i < T.ps.length := by omega
      have hRe2 : R = T.ps[i].reach := by rw [hRe]; simp [List.getD, hil]
      obtain ⟨bb, oo, rfl, p0, p1, p2⟩ := (hT.p.ext hx2).get i hil
      have hpv := hk.pv _ (List.getElem_mem hil)
      rw [← hRe2] at p1 hpv
      have hR0 : -1 ≤ R := by have := hpv.2.1.1; omega
      have hR1 : R < T.rs.length := hpv.2.1.2
      have hlen : (upL T.rs R).length ≤ 100 := by
        have := upL_len hk.rv T.rs.length R (by omega) hR1
        have := hk.lr
        omega
      have HR2 := Lib.hid hpe
      have HX2 := Lib.hid hxx
      have hFn : decide ((i : Int) < 0) = false := decide_eq_false (by omega)
      have hip : (0 : Int) ≤ i ∧ (i : Int) < T.ps.length := by omega
      clear hpe hxx hF0 HX hRe hRe2 p0 p2 hpv hflt
      go_wp2_with fail
      go_still_tail 7, (by kernel_rfl)
      change wpList _ _ _ _ _ w2.drew
      obtain ⟨V, hV⟩ : ∃ V, w2.drew = V := ⟨_, rfl⟩
      have hxV : Ext w V := by rw [← hV]; exact hx2.drew
      rw [hV]
      clear hV
      go_wp2_with fail
      refine (up_any _ _ R V).mono ?_
      rintro e w3 ⟨rfl, hw3⟩
      obtain ⟨k0, k1, hx3, hs3⟩ := up_boxes hw3
      have hV0 := hxV.size
      go_wp2_with fail
      refine (sortedUp_any V.heap.size (V.heap.size + 1) T hk.rv _ _ R hR0 hR1 w w3 (hxV.trans hx3) _ _ (by omega) (by omega) (by omega) k0 k1 hT.r hlen).mono ?_
      rintro e w4 ⟨v, rfl, hv, hz4⟩
      rw [← HX2.out] at hv
      go_wp2_with fail
      go_ret2
      exact ⟨_, ret2 rfl (by rw [HR2.out]; rfl), hv.at_, hz4⟩
  · have hb : (E != 0) = true := by simpa using h0
    have hpe := HPE.out
    rw [if_neg h0] at hpe
    have hxx := HX.out
    rw [if_neg (by rw [hpe]; exact h0)] at hxx
    have HR2 := Lib.hid hpe
    have HX2 := Lib.hid hxx
    clear hxx hpe h0 HX HPE HOK HKP
    go_wp2_with fail
    go_ret2
    exact ⟨_, ret2 rfl (by rw [HR2.out]; rfl), by rw [HX2.out]; exact intsAt_nil _, hx⟩
end Go.Proofs.Ythopgonbndoidaa
