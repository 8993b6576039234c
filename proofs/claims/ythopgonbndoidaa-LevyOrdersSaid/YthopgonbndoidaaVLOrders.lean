/- LevyOrders: true whatever the tree and the order. -/
import Derived.Test.YthopgonbndoidaaVHas
import Derived.Test.YthopgonbndoidaaVOrP
namespace Go.Proofs.Ythopgonbndoidaa
open Go.RowKit Go.Shelf Go.Lib

def grO (o : List Int) : List Int := o.foldl putL []
theorem grO_snoc (o : List Int) (x : Int) : grO (o ++ [x]) = putL (grO o) x := by simp [grO]
theorem grO_perm (o : List Int) : (grO o).Perm o := by
  induction o using snoc_ind with
  | h0 => exact List.Perm.refl _
  | h1 l p ih =>
    rw [grO_snoc]
    exact (putL_perm _ _).trans ((List.Perm.cons _ ih).trans (List.perm_append_singleton _ _).symm)
theorem grO_srt (o : List Int) : (grO o).Pairwise (· ≤ ·) := by
  induction o using snoc_ind with
  | h0 => exact List.Pairwise.nil
  | h1 l p ih => rw [grO_snoc]; exact putL_srt _ ih
theorem grO_len (o : List Int) : (grO o).length = o.length := (grO_perm o).length_eq
theorem grO_gr {T : Tr} (hok : Ok T) {lf od : List Int} (h : (lf ++ od).Perm (T.ps.map (·.id))) : grB T.ps (grO od) = true := by
  have hn : (lf ++ od).Nodup := h.nodup_iff.2 hok.nd
  refine grB_of (lt_of_srt (grO_srt od) ((grO_perm od).nodup_iff.2 (List.nodup_append.1 hn).2.1)) (fun x hx => ?_)
  have h1 : x ∈ lf ++ od := List.mem_append.2 (.inr ((grO_perm od).mem_iff.1 hx))
  obtain ⟨p, hp, e⟩ := List.mem_map.1 (h.mem_iff.1 h1)
  exact ⟨p, hp, e⟩
theorem aln_gr (T : Tr) (od : List Int) : alnG T (grO od) = alnG T od := alnG_congr (fun _ => (grO_perm od).mem_iff)
theorem pm_step {lf od ids : List Int} (h : (lf ++ od).Perm ids) {i : Nat} (hi : i < lf.length) : ((lf.take i ++ lf.drop (i + 1)) ++ (od ++ [lf[i]])).Perm ids := by
  refine List.Perm.trans ?_ h
  have e : lf = lf.take i ++ lf[i] :: lf.drop (i + 1) := by
    conv => lhs; rw [← List.take_append_drop i lf]
    rw [List.drop_eq_getElem_cons hi]
  have h1 : lf.Perm (lf[i] :: (lf.take i ++ lf.drop (i + 1))) := by
    conv => lhs; rw [e]
    exact List.perm_middle
  refine List.Perm.trans ?_ (h1.symm.append_right od)
  generalize lf.take i ++ lf.drop (i + 1) = R
  generalize lf[i] = x
  rw [← List.append_assoc]
  exact (List.perm_append_singleton x (R ++ od)).trans (List.Perm.refl _)
theorem pm_lt {lf od ids : List Int} (h : (lf ++ od).Perm ids) : lf.length + od.length = ids.length := by
  have := h.length_eq
  rwa [List.length_append] at this
theorem getK_upd {L : List (Int × Value)} {k : Int} {v : Value} (r : Int) : getK (updK L k v) r = if r = k then some v else getK L r := by
  have hf : ∀ l : List (Int × Value), (l.map (fun p => if p.1 = k then (k, v) else p)).find? (fun p => decide (p.1 = r)) = if r = k then (if (l.find? (fun p => decide (p.1 = k))).isSome = true then some (k, v) else none) else l.find? (fun p => decide (p.1 = r)) := fun l => by
    induction l with
    | nil => simp
    | cons q l ih =>
      rw [List.map_cons]
      by_cases hq : q.1 = k
      · rw [if_pos hq, show (q :: l).find? (fun p => decide (p.1 = k)) = some q from List.find?_cons_of_pos (by simpa using hq)]
        by_cases hr : r = k
        · rw [if_pos hr, List.find?_cons_of_pos (by simpa using hr.symm)]; rfl
        · have h1 : ¬ (k = r) := fun e => hr e.symm
          rw [if_neg hr, List.find?_cons_of_neg (by simpa using h1), ih, if_neg hr, List.find?_cons_of_neg (by rw [hq]; simpa using h1)]
      · rw [if_neg hq, show (q :: l).find? (fun p => decide (p.1 = k)) = l.find? (fun p => decide (p.1 = k)) from List.find?_cons_of_neg (by simpa using hq)]
        by_cases hr : r = k
        · subst hr
          rw [List.find?_cons_of_neg (by simpa using hq), ih, if_pos rfl, if_pos rfl]
        · by_cases hqr : q.1 = r
          · rw [List.find?_cons_of_pos (by simpa using hqr), if_neg hr, List.find?_cons_of_pos (by simpa using hqr)]
          · rw [List.find?_cons_of_neg (by simpa using hqr), ih, if_neg hr, if_neg hr, List.find?_cons_of_neg (by simpa using hqr)]
  unfold updK
  by_cases h : (getK L k).isSome = true
  · rw [if_pos h]
    unfold getK at h ⊢
    rw [hf]
    rw [Option.isSome_map] at h
    by_cases hr : r = k
    · rw [if_pos hr, if_pos hr, if_pos h]; rfl
    · rw [if_neg hr, if_neg hr]
  · rw [if_neg h]
    unfold getK at h ⊢
    rw [List.find?_append]
    by_cases hr : r = k
    · subst hr
      rw [if_pos rfl]
      rw [Option.isSome_map] at h
      have : L.find? (fun p => decide (p.1 = r)) = none := by
        cases h2 : L.find? (fun p => decide (p.1 = r)) with
        | none => rfl
        | some y => rw [h2] at h; exact absurd rfl h
      rw [this]
      simp
    · have : k ≠ r := fun e => hr e.symm
      rw [if_neg hr]
      simp [this]
theorem mapTi : (Try.prog).underlying 49 = some (.map 3 3) := by kernel_rfl
theorem zeroI (w : World) : (zeroValue 3).run Try.prog w = .ok (.int .i64 0) w := by kernel_rfl
theorem lookup_w {ops : Array Oper} {rest : List Oper} {o : Oper} {a : Act} {Q : Exit → Act → World → Prop} {w : World} {b : Nat} {L : List (Int × Value)} (hw : Region.wanted o (yielded ops a.tmps) = true) (m x : Operand) (hop : o.op = Op.lookup 49 m x false)
    (hm : a.eval m = .map (some b)) (h : MapAt encI w b L) (k : Int) (hx : a.eval x = encI k) (hK : wpList Try.prog ops Q rest (a.put o.dst ((getK L k).getD (.int .i64 0))) w) : wpList Try.prog ops Q (o :: rest) a w := by
  refine wpList_step fun K' hK' => ?_
  rw [if_pos hw]
  have hrun := run_lookupMap KI mapTi h k (zeroI w) false
  unfold Oper.wp
  simp [execOp, hop, hm, hx, hrun, Result.andThen]
  exact hK' _ _ hK
/-- what an order's rounds keep -/
structure OI (T : Tr) (nb mb : Nat) (vl vg : Value) (od lf : List Int) (L : List (Int × Value)) (W : World) : Prop where
  pm : (lf ++ od).Perm (T.ps.map (·.id))
  rl : RowI nb vl lf W
  nl : ∀ g, vl.ownBlock = some g → g ≠ mb
  rg : RowI nb vg (grO od) W
  ng : ∀ g, vg.ownBlock = some g → g ≠ mb
  mp : MapAt encI W mb L
  mv : ∀ id, (getK L id).getD (.int .i64 0) = .int .i64 (orO T od id)
theorem ne_own {v : Value} {mb : Nat} (h : ∀ g, v.ownBlock = some g → g ≠ mb) : v.ownBlock = none ∨ v.ownBlock ≠ some mb := by
  cases hv : v.ownBlock with
  | none => exact .inl rfl
  | some g => exact .inr (fun e => h g hv (Option.some.inj e))
theorem own_ne {n mb : Nat} {v : Value} {l : List Int} {W : World} (h : RowI n v l W) (hb : mb < n) : ∀ g, v.ownBlock = some g → g ≠ mb := fun g hg => by have := (h.lt g hg).1; omega
theorem OI.upd {T : Tr} {nb mb : Nat} {vl vg : Value} {od lf : List Int} {L : List (Int × Value)} {W W' : World} {vl' vg' : Value} {x D : Int} {i : Nat} (h : OI T nb mb vl vg od lf L W) (hi : i < lf.length) (hx : lf[i] = x)
    (hrl : RowI nb vl' (lf.take i ++ lf.drop (i + 1)) W') (hnl : ∀ g, vl'.ownBlock = some g → g ≠ mb) (hrg : RowI nb vg' (putL (grO od) x) W') (hng : ∀ g, vg'.ownBlock = some g → g ≠ mb) (hD : D = alnG T (od ++ [x]) - alnG T od)
    {W'' : World} (hm : MapAt encI W'' mb (updK L x (.int .i64 D))) (hg : W'.grownBy W'' (some mb)) : OI T nb mb vl' vg' (od ++ [x]) (lf.take i ++ lf.drop (i + 1)) (updK L x (.int .i64 D)) W'' :=
  ⟨by have := pm_step h.pm hi; rwa [hx] at this, rowI_kept hrl hg (ne_own hnl), hnl, by rw [grO_snoc]; exact rowI_kept hrg hg (ne_own hng), hng, hm, fun id => by
    rw [getK_upd, orO_snoc, ← hD]
    split
    · rfl
    · exact h.mv id⟩
def fstO : List Int → Int
  | [] => 0
  | x :: _ => x
def lstO (l : List Int) : Int := l.foldl (fun _ x => x) 0
theorem headD_snoc {l : List Int} (h : 0 < l.length) (x : Int) : fstO (l ++ [x]) = fstO l := by
  cases l with
  | nil => simp at h
  | cons y l => rfl
theorem lastD_snoc (l : List Int) (x : Int) : lstO (l ++ [x]) = x := by simp [lstO]
theorem order_ends {T : Tr} (hok : Ok T) {od : List Int} (h : od.Perm (T.ps.map (·.id))) (h0 : 0 < T.ps.length) : (orO T od (fstO od) = alnE T (fun p => p.id == fstO od) ∧ sngE T (fstO od) = sngE T (fstO od)) ∧ orO T od (lstO od) = alnE T (fun _ => true) - alnE T (fun p => !(p.id == lstO od)) ∧ (∃ p ∈ T.ps, p.id = fstO od) ∧ (∃ p ∈ T.ps, p.id = lstO od) := by
  have hl : od.length = T.ps.length := by have := h.length_eq; rwa [List.length_map] at this
  have hn : od.Nodup := h.nodup_iff.2 hok.nd
  refine ⟨⟨?_, rfl⟩, ?_, ?_, ?_⟩
  · cases od with
    | nil => simp at hl; omega
    | cons x l =>
      rcases or_first (T := T) l x (List.nodup_cons.1 hn).2 with h1 | h1
      · exact h1
      · exact absurd hn h1
  · have hsn : ∃ l x, od = l ++ [x] := by
      induction od using snoc_ind with
      | h0 => simp at hl; omega
      | h1 l x _ => exact ⟨l, x, rfl⟩
    obtain ⟨l, x, rfl⟩ := hsn
    rw [lastD_snoc]
    exact or_last h hok
  · have : fstO od ∈ od := by
      cases od with
      | nil => simp at hl; omega
      | cons x l => simp [fstO]
    obtain ⟨p, hp, e⟩ := List.mem_map.1 (h.mem_iff.1 this)
    exact ⟨p, hp, e⟩
  · have hsn : ∃ l x, od = l ++ [x] := by
      induction od using snoc_ind with
      | h0 => simp at hl; omega
      | h1 l x _ => exact ⟨l, x, rfl⟩
    obtain ⟨l, x, rfl⟩ := hsn
    rw [lastD_snoc]
    obtain ⟨p, hp, e⟩ := List.mem_map.1 (h.mem_iff.1 (show x ∈ l ++ [x] by simp))
    exact ⟨p, hp, e⟩
theorem most_ok (a b : Value) (T : Tr) (h0 : chkE T = 0) (id : Int) (hid : ∃ p ∈ T.ps, p.id = id) (W : World) (hT : TrAt W a b T) :
    Calls Try.prog 24 #[.agg #[a, b], .int .i64 id] W fun e w' => e = .returned (.tuple #[.int .i64 (alnE T (fun p => p.id == id)), .int .i64 0]) ∧ Ext W w' := by
  have hs : sngE T id = 0 := by unfold sngE; rw [if_pos h0, if_neg (by have := fnd_mem.2 hid; omega)]
  have := Most_any a b T id W hT (by have := (Ok.of h0).lp; omega)
  rw [hs, if_pos rfl] at this
  exact this
theorem least_ok (a b : Value) (T : Tr) (h0 : chkE T = 0) (id : Int) (hid : ∃ p ∈ T.ps, p.id = id) (W : World) (hT : TrAt W a b T) :
    Calls Try.prog 25 #[.agg #[a, b], .int .i64 id] W fun e w' => e = .returned (.tuple #[.int .i64 (alnE T (fun _ => true) - alnE T (fun p => !(p.id == id))), .int .i64 0]) ∧ Ext W w' := by
  have hs : sngE T id = 0 := by unfold sngE; rw [if_pos h0, if_neg (by have := fnd_mem.2 hid; omega)]
  have := Least_any a b T id W hT (by have := (Ok.of h0).lp; omega)
  rw [hs, if_pos rfl] at this
  exact this
theorem fair_or (a b u : Value) (T : Tr) (h0 : chkE T = 0) (od : List Int) (hp : od.Perm (T.ps.map (·.id))) (W : World) (hT : TrAt W a b T) (hu : IntsAt W u (orL T od)) :
    Calls Try.prog 23 #[.agg #[a, b], u] W fun e w' => e = .returned (.tuple #[.bool true, .int .i64 0]) ∧ Ext W w' := by
  have hok := Ok.of h0
  have hf := or_fair hok hp
  have hpe : penE T (orL T od) = 0 := by
    unfold penE
    rw [if_pos h0, if_pos (orL_len T od), if_neg]
    have : badF 0 (orL T od) < 0 := badF_none.2 (fun n hn => by
      have := orL_bd hok od n hn
      unfold inB
      rw [decide_eq_true this.1, decide_eq_true this.2]; rfl)
    omega
  have := Fair_any a b u T (orL T od) W hT hu (by rw [orL_len]; have := hok.lp; omega)
  have hb : faiB T (orL T od) = true := by unfold faiB; rw [hf.1, hf.2]; simp
  rw [hpe, if_pos rfl, hb] at this
  exact this
theorem pence_ok (a b : Value) (T : Tr) (h0 : chkE T = 0) (W : World) (hT : TrAt W a b T) : Calls Try.prog 19 #[.agg #[a, b]] W (InsPost W (pnX T) 0) := by
  have := Pence_any a b T W hT
  unfold penX at this
  rw [if_pos h0, h0] at this
  exact this
theorem alone_or (a b u : Value) (T : Tr) (h0 : chkE T = 0) (lf od : List Int) (hp : (lf ++ od).Perm (T.ps.map (·.id))) (W : World) (hT : TrAt W a b T) (hu : IntsAt W u (grO od)) :
    Calls Try.prog 16 #[.agg #[a, b], u] W fun e w' => e = .returned (.tuple #[.int .i64 (alnG T od), .int .i64 0]) ∧ Ext W w' := by
  have hok := Ok.of h0
  have hg := grO_gr hok hp
  have hl := pm_lt hp
  rw [List.length_map] at hl
  have := Alone_any a b u T (grO od) W hT hu (by rw [grO_len]; have := hok.lp; omega)
  rw [AlnX_gr h0 hg, ask_gr h0 hg, aln_gr] at this
  exact this
set_option maxRecDepth 100000 in
set_option maxHeartbeats 16000000 in
theorem LevyOrders_any (a b v : Value) (T : Tr) (O : List Int) (w : World) (hT : TrAt w a b T) (hO : ByteAt w v O) :
    Calls Try.prog 4 #[.agg #[a, b], v] w fun e w' => e = .returned (.bool true) ∧ Ext w w' := by
  obtain ⟨ab, cb, rfl, hlb⟩ := hT.p.len
  obtain ⟨av, cv, rfl, hlv⟩ := hO.len
  have K1 := fun W (h : Ext w W) => few_any _ _ T W (hT.ext h)
  have san : ∀ W1 : World, Ext w W1 → Calls Try.prog 14 #[] W1 fun e w' => e = .returned (.bool true) ∧ Ext w w' := fun W1 h => (sanity_any W1).mono fun e W' ⟨he, hz⟩ => ⟨he, h.trans hz⟩
  have KC := fun W (h : Ext w W) => Check_any _ _ T W (hT.ext h)
  have KE := fun W (h : Ext w W) (hn : T.ps.length ≤ 100000) => everybody_any _ _ T W (hT.ext h) hn
  have hmk := @run_makeMap Try.prog
  obtain ⟨C, hC⟩ : ∃ C, chkE T = C := ⟨_, rfl⟩
  rw [hC] at KC
  have HCC := Lib.hid hC
  have HC := Lib.hid KC
  have HE := Lib.hid KE
  clear KC KE hC
  go_enter Try.func4, Try.ntmps4
  go_wp2_with fail
  refine (K1 _ (by repeat (first | exact Ext.refl _ | assumption | refine Ext.alloc ?_ _ | refine Ext.drew ?_ | refine Ext.drewN _ ?_ | refine Ext.trans ?_ (by assumption)))).mono ?_
  rintro e w1 ⟨F, rfl, hF, hx1⟩
  obtain ⟨q0, hx, hk0⟩ := alloc1 hx1
  have d0 : w1.cell? ⟨w.heap.size, 0, none⟩ = some a := q0.cell 0
  have d1 : w1.cell? ⟨w.heap.size, 1, none⟩ = some (.slice ab T.ps.length cb) := q0.cell 1
  have HF := Lib.hid hF
  clear hx1 K1 hF
  cases F with
  | false =>
    go_wp2_with fail
    refine (san _ hx).mono ?_
    rintro e w99 ⟨rfl, hz⟩
    go_wp2_with fail
    go_ret
    exact ⟨rfl, hz⟩
  | true =>
    have hmk0 := HF.out rfl
    have HM := Lib.hid hmk0
    clear hmk0
    by_cases hr0 : T.ps.length = 0
    · have hb : ((T.ps.length : Int) == 0) = true := by rw [hr0]; rfl
      clear hr0
      go_wp2_with fail
      refine (san _ hx).mono ?_
      rintro e w99 ⟨rfl, hz⟩
      go_wp2_with fail
      go_ret
      exact ⟨rfl, hz⟩
    have hb : ((T.ps.length : Int) == 0) = false := by rw [beq_eq_false_iff_ne]; omega
    go_wp2_with fail
    refine (HC.out _ hx).mono ?_
    rintro e w2 ⟨rfl, hz⟩
    have hx2 := hx.trans hz
    replace d0 := hz.cell d0
    replace d1 := hz.cell d1
    replace q0 := q0.ext hz
    clear hz hx
    by_cases h0 : C = 0
    rotate_left 1
    · have hc : (C != 0) = true := by simpa using h0
      clear h0
      go_wp2_with fail
      refine (san _ hx2).mono ?_
      rintro e w99 ⟨rfl, hz⟩
      go_wp2_with fail
      go_ret
      exact ⟨rfl, hz⟩
    subst h0
    have hc0 := HCC.out
    have hok := Ok.of hc0
    have hpl := hok.lp
    have HOK := Lib.hid hok
    clear HC hok hc0
    have hs2 := hx2.size
    go_wp2_with fail
    refine (HE.out _ hx2 (by omega)).mono ?_
    rintro e w3 ⟨u3, rfl, hu3, hz⟩
    have hx3 := hx2.trans hz
    replace d0 := hz.cell d0
    replace d1 := hz.cell d1
    replace q0 := q0.ext hz
    clear hz hx2
    clear HE
    go_upto_region 6 with fail
    obtain ⟨mb, hmb⟩ : ∃ n, w3.heap.size = n := ⟨_, rfl⟩
    obtain ⟨W1, hW1⟩ : ∃ W1, w3.alloc (.map #[] 0) = W1 := ⟨_, rfl⟩
    have hz1 : Ext w3 W1 := by rw [← hW1]; exact (by repeat (first | exact Ext.refl _ | assumption | refine Ext.alloc ?_ _ | refine Ext.drew ?_ | refine Ext.drewN _ ?_ | refine Ext.trans ?_ (by assumption)))
    have hM0 : MapAt encI W1 mb [] := by rw [← hW1, ← hmb]; exact mapAt_made encI _
    have hms : mb < W1.heap.size := by rw [← hW1, ← hmb]; simp
    have hoi : OI T w.heap.size mb u3 (.slice none 0 0) [] (evL T.ps) [] W1 := ⟨by rw [List.append_nil]; exact evL_perm _, rowI_base (rowI_ext hu3 hz1) (by omega), (fun g hg => by have := (hu3.lt g hg).2; omega), rowI_nil _ _, (fun g hg => by cases hg), hM0, fun id => rfl⟩
    have hmw : w.heap.size < mb := by rw [← hmb]; exact q0.lt
    replace q0 := q0.ext hz1
    have hxW := hx3.trans hz1
    try rw [hmb]
    try rw [hW1]
    clear hu3 hM0 hz1 hW1 hmb hmk d0 d1 hx3
    have HOI := Lib.hid hoi
    clear hoi
    go_upto_region 10 with fail
    go_loopw [5, 6, 8, 9, 10, 11] (fun vl vg s8 s9 s10 s11 wr => ∃ (od lf : List Int) (L : List (Int × Value)), s11 = .int .i64 (od.length : Int) ∧ s8 = .int .i64 (alnG T od) ∧ s9 = .int .i64 (fstO od) ∧ s10 = .int .i64 (lstO od) ∧ Hid (OI T w.heap.size mb vl vg od lf L wr) ∧ Cls w.heap.size 25 #[a, .slice ab T.ps.length cb] wr ∧ Ext w wr ∧ mb < wr.heap.size) (fun _ _ _ _ _ s11 _ => T.ps.length - (intOf s11).toNat)
    case atStart => exact ⟨[], evL T.ps, [], rfl, vint (alnG_nil T).symm, rfl, rfl, HOI, q0, hxW, hms⟩
    case round =>
      clear q0 hxW hms HOI
      obtain ⟨od, lf, L, rfl, rfl, rfl, rfl, HI, q0, hx, hms⟩ := hrel
      have hpm := HI.out.pm
      have hplen := pm_lt hpm
      rw [List.length_map] at hplen
      have d0 : wr.cell? ⟨w.heap.size, 0, none⟩ = some a := q0.cell 0
      have d1 : wr.cell? ⟨w.heap.size, 1, none⟩ = some (.slice ab T.ps.length cb) := q0.cell 1
      have hrl := HI.out.rl
      have hrg := HI.out.rg
      have hll := hrl.at_
      have hlg := hrg.at_
      obtain ⟨lA, lc, rfl⟩ := hrl.form
      obtain ⟨gA, gc, rfl⟩ := hrg.form
      obtain ⟨lA', lc', hv, hlcap, _⟩ := id hll
      simp only [Value.slice.injEq] at hv
      obtain ⟨rfl, _, rfl⟩ := hv
      obtain ⟨gA', gc', hv, hgcap, _⟩ := id hlg
      simp only [Value.slice.injEq] at hv
      obtain ⟨rfl, _, rfl⟩ := hv
      clear hrl hrg
      by_cases hle : lf.length = 0
      · have hlf : lf = [] := List.eq_nil_of_length_eq_zero hle
        subst hlf
        have hpo : od.Perm (T.ps.map (·.id)) := hpm
        have hoe := order_ends HOK.out hpo (by omega)
        have hmp := HI.out.mp
        have hmv := HI.out.mv
        obtain ⟨FX, hFX⟩ : ∃ x, fstO od = x := ⟨_, rfl⟩
        obtain ⟨LX, hLX⟩ : ∃ x, lstO od = x := ⟨_, rfl⟩
        rw [hFX, hLX] at hoe ⊢
        obtain ⟨⟨ho1, _⟩, ho2, hiF, hiL⟩ := hoe
        have hgF := hmv FX
        have hgL := hmv LX
        rw [ho1] at hgF
        rw [ho2] at hgL
        have KF := fun W (h : Ext w W) u (hu : IntsAt W u (orL T od)) => fair_or _ _ u T HCC.out od hpo W (hT.ext h) hu
        have KM := fun id (hid : ∃ p ∈ T.ps, p.id = id) W (h : Ext w W) => most_ok _ _ T HCC.out id hid W (hT.ext h)
        have KL := fun id (hid : ∃ p ∈ T.ps, p.id = id) W (h : Ext w W) => least_ok _ _ T HCC.out id hid W (hT.ext h)
        have KP := fun W (h : Ext w W) => pence_ok _ _ T HCC.out W (hT.ext h)
        have hol := orL_len T od
        have hobd := orL_bd HOK.out od
        have hof := or_fair HOK.out hpo
        have hpn := pnX_bd HOK.out
        have hpf := pnX_fair HOK.out
        have hb1 := fun i (hi : i < T.ps.length) => fair_between HOK.out hol hobd hof.2 hof.1 hi
        have hb2 := fun i (hi : i < T.ps.length) => fair_between HOK.out hpn.1 hpn.2 hpf.2.2.1 hpf.2.1 hi
        have hge := fun i (hi : i < T.ps.length) => orL_get (o := od) hi
        obtain ⟨M, hM⟩ : ∃ f : Int → Int, (fun id => alnE T (fun p => p.id == id)) = f := ⟨_, rfl⟩
        obtain ⟨N, hN⟩ : ∃ f : Int → Int, (fun id => alnE T (fun _ => true) - alnE T (fun p => !(p.id == id))) = f := ⟨_, rfl⟩
        have hMe : ∀ id, alnE T (fun p => p.id == id) = M id := fun id => by rw [← hM]
        have hNe : ∀ id, alnE T (fun _ => true) - alnE T (fun p => !(p.id == id)) = N id := fun id => by rw [← hN]
        simp only [hMe] at hgF KM hb1 hb2
        simp only [hNe] at hgL KL hb1 hb2
        obtain ⟨R, hR⟩ : ∃ l, orL T od = l := ⟨_, rfl⟩
        obtain ⟨P, hP⟩ : ∃ l, pnX T = l := ⟨_, rfl⟩
        rw [hR] at KF hol
        simp only [hR] at hb1 hge
        rw [hP] at KP
        simp only [hP] at hb2
        have hpl2 : P.length = T.ps.length := by rw [← hP]; exact hpn.1
        have hge2 : ∀ i (h : i < R.length) (h2 : i < T.ps.length), (getK L T.ps[i].id).getD (.int .i64 0) = .int .i64 R[i] := fun i h h2 => by rw [hmv, ← hge i h2, getD_at h]
        have HKF := Lib.hid KF
        have HKM := Lib.hid KM
        have HKL := Lib.hid KL
        have HKP := Lib.hid KP
        have HOL := Lib.hid hol
        have HPL := Lib.hid hpl2
        have HB1 := Lib.hid hb1
        have HB2 := Lib.hid hb2
        have HGE := Lib.hid hge2
        have HGF := Lib.hid hgF
        have HGL := Lib.hid hgL
        have HIF := Lib.hid hiF
        have HIL := Lib.hid hiL
        clear KF KM KL KP hol hobd hof hpn hpf hb1 hb2 hge hge2 hM hN hMe hNe hR hP hpl2 hgF hgL hiF hiL ho1 ho2 hFX hLX hmv hpo hpm hll hlg HI
        have hgt : decide (((0 : Nat) : Int) > 0) = false := by decide
        obtain ⟨nl, hnl⟩ : ∃ n, ([] : List Int).length = n := ⟨_, rfl⟩
        rw [hnl] at hlcap hle hplen ⊢
        subst hle
        clear hnl
        obtain ⟨AL, hAL⟩ : ∃ x, alnG T od = x := ⟨_, rfl⟩
        rw [hAL]
        clear hAL
        obtain ⟨ng, hng⟩ : ∃ x, (grO od).length = x := ⟨_, rfl⟩
        rw [hng] at hgcap ⊢
        clear hng
        obtain ⟨no, hno⟩ : ∃ x, od.length = x := ⟨_, rfl⟩
        rw [hno] at hplen ⊢
        clear hno
        obtain ⟨NB, hNB⟩ : ∃ n, wr.heap.size = n := ⟨_, rfl⟩
        have HNB := Lib.hid hNB
        go_upto_region 30 with fail
        go_loopw [16, 17] (fun o i wq => ∃ k : Nat, k ≤ T.ps.length ∧ i = .int .i64 k ∧ Hid (RowI NB o (R.take k) wq) ∧ Ext wr wq) (fun _ i _ => T.ps.length - (intOf i).toNat)
        case atStart => exact ⟨0, Nat.zero_le _, rfl, Lib.hid (rowI_nil _ _), Ext.refl _⟩
        case round =>
          clear hNB
          obtain ⟨k, hk, rfl, HR, hxq⟩ := hrel
          replace d0 := hxq.cell d0
          replace d1 := hxq.cell d1
          replace hmp := hmp.ext hxq
          have hxx := hx.trans hxq
          have hR := HR.out
          by_cases hlt : k < T.ps.length
          · have hkR : k < R.length := by rw [HOL.out]; exact hlt
            obtain ⟨bb, oo, rfl, p0, _, _⟩ := (hT.p.ext hxx).get k hlt
            have hgk := HGE.out k hkR hlt
            have htk := take_succ_get R k hkR
            have htl : (R.take k).length ≤ 24 := by simp; omega
            obtain ⟨id, hid⟩ : ∃ x, T.ps[k].id = x := ⟨_, rfl⟩
            rw [hid] at p0 hgk
            obtain ⟨x, hxx2⟩ : ∃ x, R[k] = x := ⟨_, rfl⟩
            rw [hxx2] at hgk htk
            obtain ⟨Q, hQ⟩ : ∃ l, R.take k = l := ⟨_, rfl⟩
            rw [hQ] at htk hR htl
            have hki : (k : Int) < (T.ps.length : Int) := by omega
            have HG := Lib.hid hgk
            have HTK := Lib.hid htk
            obtain ⟨oA, oc, rfl⟩ := hR.form
            clear hid hxx2 hQ hgk htk HR
            go_wp2_with (first | (refine wpList_lookupMap rfl _ _ false rfl KI mapTi rfl hmp id rfl (zeroI _) ?_; simp only [Bool.false_eq_true, if_false]; rw [HG.out]) | (at_builtin; refine append_ints rfl _ _ rfl NB _ _ Q [x] rfl (rowI_ext hR (by repeat (first | exact Ext.refl _ | assumption | refine Ext.alloc ?_ _ | refine Ext.drew ?_ | refine Ext.drewN _ ?_ | refine Ext.trans ?_ (by assumption)))) rfl (ints_oneAt _ _ _ rfl) (by rw [← HNB.out]; exact Nat.le_trans hxq.size (by simp)) (by simp; omega) ?_; intro v1 w3 hr3 hg3 _; have hx3 := ext_own hxq hR (Nat.le_of_eq HNB.out) (grown_pre hg3); clear hg3))
            go_roundw
            case rel => exact ⟨k + 1, by omega, by go_num, Lib.hid (by rw [HTK.out]; exact hr3), hx3⟩
            case measure => simp [intOf]; omega
          · obtain rfl : k = T.ps.length := by omega
            rw [show R.take T.ps.length = R from List.take_of_length_le (by rw [HOL.out]; omega)] at hR
            have hua := hR.at_
            obtain ⟨oA, oc, rfl⟩ := hR.form
            rw [HOL.out] at hua ⊢
            clear hR HR
            go_wp2_with fail
            refine (HKF.out _ hxx _ hua).mono ?_
            rintro e w31 ⟨rfl, hz⟩
            have hx31 := hxx.trans hz
            replace d0 := hz.cell d0
            replace d1 := hz.cell d1
            replace hua := hua.ext hz
            replace hmp := hmp.ext hz
            clear hz hxx
            go_wp2_with fail
            refine (HKM.out _ HIF.out _ hx31).mono ?_
            rintro e w32 ⟨rfl, hz⟩
            have hx32 := hx31.trans hz
            replace d0 := hz.cell d0
            replace d1 := hz.cell d1
            replace hua := hua.ext hz
            replace hmp := hmp.ext hz
            clear hz hx31
            go_wp2_with fail
            refine (HKL.out _ HIL.out _ hx32).mono ?_
            rintro e w33 ⟨rfl, hz⟩
            have hx33 := hx32.trans hz
            replace d0 := hz.cell d0
            replace d1 := hz.cell d1
            replace hua := hua.ext hz
            replace hmp := hmp.ext hz
            clear hz hx32
            go_wp2_with fail
            refine (HKP.out _ hx33).mono ?_
            rintro e w34 ⟨u34, rfl, hu34, hz⟩
            have hx34 := hx33.trans hz
            replace d0 := hz.cell d0
            replace d1 := hz.cell d1
            replace hua := hua.ext hz
            replace hmp := hmp.ext hz
            clear hz hx33
            obtain ⟨A34, c34, rfl, _⟩ := hu34.len
            rw [HPL.out] at hu34 ⊢
            obtain ⟨MF, hMF⟩ : ∃ x, M FX = x := ⟨_, rfl⟩
            obtain ⟨NL, hNL⟩ : ∃ x, N LX = x := ⟨_, rfl⟩
            have hgF := HGF.out
            have hgL := HGL.out
            rw [hMF] at hgF ⊢
            rw [hNL] at hgL ⊢
            have HGF2 := Lib.hid hgF
            have HGL2 := Lib.hid hgL
            clear hMF hNL hgF hgL HGF HGL
            have hm1 : (MF != MF) = false := by simp
            have hm2 : (NL != NL) = false := by simp
            have hm3 : ((T.ps.length : Int) != (T.ps.length : Int)) = false := by simp
            go_upto_region 40 with (first | (refine lookup_w (by rfl) _ _ rfl rfl hmp FX rfl ?_; rw [HGF2.out]) | (refine lookup_w (by rfl) _ _ rfl rfl hmp LX rfl ?_; rw [HGL2.out]))
            clear hm1 hm2 hm3 hmp
            go_loopw [26] (fun i wq => ∃ k : Nat, k ≤ T.ps.length ∧ i = .int .i64 k ∧ Ext w34 wq) (fun i _ => T.ps.length - (intOf i).toNat)
            case atStart => exact ⟨0, Nat.zero_le _, rfl, Ext.refl _⟩
            case round =>
              obtain ⟨k, hk4, rfl, hxq4⟩ := hrel
              replace d0 := hxq4.cell d0
              replace d1 := hxq4.cell d1
              replace hua := hua.ext hxq4
              replace hu34 := hu34.ext hxq4
              replace hx34 := hx34.trans hxq4
              by_cases hlt : k < T.ps.length
              · have hkR : k < R.length := by rw [HOL.out]; exact hlt
                have hkP : k < P.length := by rw [HPL.out]; exact hlt
                obtain ⟨bb, oo, rfl, p0, _, _⟩ := (hT.p.ext hx34).get k hlt
                obtain ⟨b1, o1, rfl, c0⟩ := hua.get k hkR
                obtain ⟨b2, o2, rfl, e0⟩ := hu34.get k hkP
                have hi1 := HB1.out k hlt
                have hi2 := HB2.out k hlt
                rw [getD_at hkR] at hi1
                rw [getD_at hkP] at hi2
                have hmem : ∃ p ∈ T.ps, p.id = T.ps[k].id := ⟨_, List.getElem_mem hlt, rfl⟩
                have KMi := HKM.out _ hmem
                have KLi := HKL.out _ hmem
                obtain ⟨x, hx9⟩ : ∃ x, R[k] = x := ⟨_, rfl⟩
                obtain ⟨y, hy9⟩ : ∃ x, P[k] = x := ⟨_, rfl⟩
                rw [hx9] at c0 hi1
                rw [hy9] at e0 hi2
                obtain ⟨id, hid⟩ : ∃ x, T.ps[k].id = x := ⟨_, rfl⟩
                rw [hid] at p0 hi1 hi2 KMi KLi
                obtain ⟨m, hm⟩ : ∃ x, M id = x := ⟨_, rfl⟩
                obtain ⟨n, hn⟩ : ∃ x, N id = x := ⟨_, rfl⟩
                rw [hm] at hi1 hi2 KMi
                rw [hn] at hi1 hi2 KLi
                have hki : (k : Int) < (T.ps.length : Int) := by omega
                have hf1 : decide (y < n) = false := decide_eq_false (by omega)
                have hf2 : decide (y > m) = false := decide_eq_false (by omega)
                have hf3 : decide (x < n) = false := decide_eq_false (by omega)
                have hf4 : decide (x > m) = false := decide_eq_false (by omega)
                have HMi := Lib.hid KMi
                have HLi := Lib.hid KLi
                clear KMi KLi hmem hm hn hid hx9 hy9 hi1 hi2
                go_upto_region 42 with fail
                refine wp_region_held_drew (S := fun W' => W'.cell? ⟨w.heap.size, 0, none⟩ = some a ∧ W'.cell? ⟨w.heap.size, 1, none⟩ = some (.slice (some ⟨bb, oo, none⟩) T.ps.length cb) ∧ W'.cell? ⟨bb, oo + k * 3, none⟩ = some (.int .i64 id) ∧ Ext wr W') (by kernel_rfl) ?_ (fun hHeld => ?_)
                · exact ⟨d0, d1, p0, Ext.drew (Ext.refl _)⟩
                (refine wpAnyH_take (i := 0) (v := ?_) rfl (by kernel_rfl) (by kernel_rfl) (by kernel_rfl) (fun _ _ _ h => h) (Or.inl ⟨by rfl, ?_⟩) (by assumption) ?_; rotate_left 1; (focus (intro w hSw; (try dsimp only at hSw); go_simp; try (with_reducible rfl))))
                try simp only [Act.put, List.getElem_toArray, List.getElem_cons_zero, List.setIfInBounds_toArray, List.set_cons_zero, List.set_cons_succ]
                (refine wpAnyH_take (i := 1) (v := ?_) rfl (by kernel_rfl) (by kernel_rfl) (by kernel_rfl) (fun _ _ _ h => h) (Or.inl ⟨by rfl, ?_⟩) (by assumption) ?_; rotate_left 1; (focus (intro w hSw; (try dsimp only at hSw); go_simp; try (with_reducible rfl))))
                try simp only [Act.put, List.getElem_toArray, List.getElem_cons_zero, List.getElem_cons_succ, List.setIfInBounds_toArray, List.set_cons_zero, List.set_cons_succ]
                (refine wpAnyH_take (i := 2) (v := ?_) rfl (by kernel_rfl) (by kernel_rfl) (by kernel_rfl) (fun _ _ _ h => h) (Or.inl ⟨by rfl, ?_⟩) (by assumption) ?_; rotate_left 1; (focus (intro w hSw; (try dsimp only at hSw); go_simp; try (with_reducible rfl))))
                try simp only [Act.put, List.getElem_toArray, List.getElem_cons_zero, List.getElem_cons_succ, List.setIfInBounds_toArray, List.set_cons_zero, List.set_cons_succ]
                (refine wpAnyH_take (i := 3) (v := ?_) rfl (by kernel_rfl) (by kernel_rfl) (by kernel_rfl) (fun _ _ _ h => h) (Or.inl ⟨by rfl, ?_⟩) (by assumption) ?_; rotate_left 1; (focus (intro w hSw; (try dsimp only at hSw); go_simp; try (with_reducible rfl))))
                try simp only [Act.put, List.getElem_toArray, List.getElem_cons_zero, List.getElem_cons_succ, List.setIfInBounds_toArray, List.set_cons_zero, List.set_cons_succ]
                (refine wpAnyH_take (i := 4) (v := ?_) rfl (by kernel_rfl) (by kernel_rfl) (by kernel_rfl) (fun _ _ _ h => h) (Or.inl ⟨by rfl, ?_⟩) (by assumption) ?_; rotate_left 1; (focus (intro w hSw; (try dsimp only at hSw); go_simp; try (with_reducible rfl))))
                try simp only [Act.put, List.getElem_toArray, List.getElem_cons_zero, List.getElem_cons_succ, List.setIfInBounds_toArray, List.set_cons_zero, List.set_cons_succ]
                (refine wpAnyH_take (i := 5) (v := ?_) rfl (by kernel_rfl) (by kernel_rfl) (by kernel_rfl) (fun _ _ _ h => h) (Or.inl ⟨by rfl, ?_⟩) (by assumption) ?_; rotate_left 1; (focus (intro w hSw; (try dsimp only at hSw); go_simp; try (with_reducible rfl))))
                try simp only [Act.put, List.getElem_toArray, List.getElem_cons_zero, List.getElem_cons_succ, List.setIfInBounds_toArray, List.set_cons_zero, List.set_cons_succ]
                (refine wpAnyH_take (i := 6) (v := ?_) rfl (by kernel_rfl) (by kernel_rfl) (by kernel_rfl) (fun _ _ _ h => h) (Or.inl ⟨by rfl, ?_⟩) (by assumption) ?_; rotate_left 1; (focus (intro w hSw; (try dsimp only at hSw); go_simp; try (with_reducible rfl))))
                try simp only [Act.put, List.getElem_toArray, List.getElem_cons_zero, List.getElem_cons_succ, List.setIfInBounds_toArray, List.set_cons_zero, List.set_cons_succ]
                refine wpAnyH_ready (rs := [7]) (by kernel_rfl) (by simp) ?_
                refine AllReadyH.cons rfl (fun K hK => ?_) AllReadyH.nil
                obtain ⟨V0, hV0⟩ : ∃ V, wr.drew = V := ⟨_, rfl⟩
                rw [hV0] at hHeld ⊢
                clear hV0
                go_simp
                go_at_call 24; refine (HMi.out _ (hx34.trans hHeld.2.2.2)).mono ?_; rintro e V1 ⟨rfl, hz⟩
                refine hK.out _ _ ?_ (fun hHeld => ?_)
                · exact ⟨Ext.cell hz hHeld.1, Ext.cell hz hHeld.2.1, Ext.cell hz hHeld.2.2.1, hHeld.2.2.2.trans hz⟩
                clear hK K
                clear hz
                try simp only [Act.put, List.getElem_toArray, List.getElem_cons_zero, List.getElem_cons_succ, List.setIfInBounds_toArray, List.set_cons_zero, List.set_cons_succ]
                (refine wpAnyH_take (i := 8) (v := ?_) rfl (by kernel_rfl) (by kernel_rfl) (by kernel_rfl) (fun _ _ _ h => h) (Or.inl ⟨by rfl, ?_⟩) (by assumption) ?_; rotate_left 1; (focus (intro w hSw; (try dsimp only at hSw); go_simp; try (with_reducible rfl))))
                try simp only [Act.put, List.getElem_toArray, List.getElem_cons_zero, List.getElem_cons_succ, List.setIfInBounds_toArray, List.set_cons_zero, List.set_cons_succ]
                (refine wpAnyH_take (i := 9) (v := ?_) rfl (by kernel_rfl) (by kernel_rfl) (by kernel_rfl) (fun _ _ _ h => h) (Or.inl ⟨by rfl, ?_⟩) (by assumption) ?_; rotate_left 1; (focus (intro w hSw; (try dsimp only at hSw); go_simp; try (with_reducible rfl))))
                try simp only [Act.put, List.getElem_toArray, List.getElem_cons_zero, List.getElem_cons_succ, List.setIfInBounds_toArray, List.set_cons_zero, List.set_cons_succ]
                (refine wpAnyH_take (i := 10) (v := ?_) rfl (by kernel_rfl) (by kernel_rfl) (by kernel_rfl) (fun _ _ _ h => h) (Or.inl ⟨by rfl, ?_⟩) (by assumption) ?_; rotate_left 1; (focus (intro w hSw; (try dsimp only at hSw); go_simp; try (with_reducible rfl))))
                try simp only [Act.put, List.getElem_toArray, List.getElem_cons_zero, List.getElem_cons_succ, List.setIfInBounds_toArray, List.set_cons_zero, List.set_cons_succ]
                (refine wpAnyH_take (i := 11) (v := ?_) rfl (by kernel_rfl) (by kernel_rfl) (by kernel_rfl) (fun _ _ _ h => h) (Or.inl ⟨by rfl, ?_⟩) (by assumption) ?_; rotate_left 1; (focus (intro w hSw; (try dsimp only at hSw); go_simp; try (with_reducible rfl))))
                try simp only [Act.put, List.getElem_toArray, List.getElem_cons_zero, List.getElem_cons_succ, List.setIfInBounds_toArray, List.set_cons_zero, List.set_cons_succ]
                (refine wpAnyH_take (i := 12) (v := ?_) rfl (by kernel_rfl) (by kernel_rfl) (by kernel_rfl) (fun _ _ _ h => h) (Or.inl ⟨by rfl, ?_⟩) (by assumption) ?_; rotate_left 1; (focus (intro w hSw; (try dsimp only at hSw); go_simp; try (with_reducible rfl))))
                try simp only [Act.put, List.getElem_toArray, List.getElem_cons_zero, List.getElem_cons_succ, List.setIfInBounds_toArray, List.set_cons_zero, List.set_cons_succ]
                refine wpAnyH_done (by kernel_rfl) ?_ _
                replace d0 := hHeld.1
                replace d1 := hHeld.2.1
                replace p0 := hHeld.2.2.1
                replace c0 := hHeld.2.2.2.cell c0
                replace e0 := hHeld.2.2.2.cell e0
                have hxmV1 := hxq4.trans hHeld.2.2.2
                replace hx34 := hx34.trans hHeld.2.2.2
                clear hHeld
                go_upto_region 43 with fail
                refine wp_region_held_drew (S := fun W' => W'.cell? ⟨w.heap.size, 0, none⟩ = some a ∧ W'.cell? ⟨w.heap.size, 1, none⟩ = some (.slice (some ⟨bb, oo, none⟩) T.ps.length cb) ∧ W'.cell? ⟨bb, oo + k * 3, none⟩ = some (.int .i64 id) ∧ Ext V1 W') (by kernel_rfl) ?_ (fun hHeld => ?_)
                · exact ⟨d0, d1, p0, Ext.drew (Ext.refl _)⟩
                (refine wpAnyH_take (i := 0) (v := ?_) rfl (by kernel_rfl) (by kernel_rfl) (by kernel_rfl) (fun _ _ _ h => h) (Or.inl ⟨by rfl, ?_⟩) (by assumption) ?_; rotate_left 1; (focus (intro w hSw; (try dsimp only at hSw); go_simp; try (with_reducible rfl))))
                try simp only [Act.put, List.getElem_toArray, List.getElem_cons_zero, List.setIfInBounds_toArray, List.set_cons_zero, List.set_cons_succ]
                (refine wpAnyH_take (i := 1) (v := ?_) rfl (by kernel_rfl) (by kernel_rfl) (by kernel_rfl) (fun _ _ _ h => h) (Or.inl ⟨by rfl, ?_⟩) (by assumption) ?_; rotate_left 1; (focus (intro w hSw; (try dsimp only at hSw); go_simp; try (with_reducible rfl))))
                try simp only [Act.put, List.getElem_toArray, List.getElem_cons_zero, List.getElem_cons_succ, List.setIfInBounds_toArray, List.set_cons_zero, List.set_cons_succ]
                (refine wpAnyH_take (i := 2) (v := ?_) rfl (by kernel_rfl) (by kernel_rfl) (by kernel_rfl) (fun _ _ _ h => h) (Or.inl ⟨by rfl, ?_⟩) (by assumption) ?_; rotate_left 1; (focus (intro w hSw; (try dsimp only at hSw); go_simp; try (with_reducible rfl))))
                try simp only [Act.put, List.getElem_toArray, List.getElem_cons_zero, List.getElem_cons_succ, List.setIfInBounds_toArray, List.set_cons_zero, List.set_cons_succ]
                (refine wpAnyH_take (i := 3) (v := ?_) rfl (by kernel_rfl) (by kernel_rfl) (by kernel_rfl) (fun _ _ _ h => h) (Or.inl ⟨by rfl, ?_⟩) (by assumption) ?_; rotate_left 1; (focus (intro w hSw; (try dsimp only at hSw); go_simp; try (with_reducible rfl))))
                try simp only [Act.put, List.getElem_toArray, List.getElem_cons_zero, List.getElem_cons_succ, List.setIfInBounds_toArray, List.set_cons_zero, List.set_cons_succ]
                (refine wpAnyH_take (i := 4) (v := ?_) rfl (by kernel_rfl) (by kernel_rfl) (by kernel_rfl) (fun _ _ _ h => h) (Or.inl ⟨by rfl, ?_⟩) (by assumption) ?_; rotate_left 1; (focus (intro w hSw; (try dsimp only at hSw); go_simp; try (with_reducible rfl))))
                try simp only [Act.put, List.getElem_toArray, List.getElem_cons_zero, List.getElem_cons_succ, List.setIfInBounds_toArray, List.set_cons_zero, List.set_cons_succ]
                (refine wpAnyH_take (i := 5) (v := ?_) rfl (by kernel_rfl) (by kernel_rfl) (by kernel_rfl) (fun _ _ _ h => h) (Or.inl ⟨by rfl, ?_⟩) (by assumption) ?_; rotate_left 1; (focus (intro w hSw; (try dsimp only at hSw); go_simp; try (with_reducible rfl))))
                try simp only [Act.put, List.getElem_toArray, List.getElem_cons_zero, List.getElem_cons_succ, List.setIfInBounds_toArray, List.set_cons_zero, List.set_cons_succ]
                (refine wpAnyH_take (i := 6) (v := ?_) rfl (by kernel_rfl) (by kernel_rfl) (by kernel_rfl) (fun _ _ _ h => h) (Or.inl ⟨by rfl, ?_⟩) (by assumption) ?_; rotate_left 1; (focus (intro w hSw; (try dsimp only at hSw); go_simp; try (with_reducible rfl))))
                try simp only [Act.put, List.getElem_toArray, List.getElem_cons_zero, List.getElem_cons_succ, List.setIfInBounds_toArray, List.set_cons_zero, List.set_cons_succ]
                refine wpAnyH_ready (rs := [7]) (by kernel_rfl) (by simp) ?_
                refine AllReadyH.cons rfl (fun K hK => ?_) AllReadyH.nil
                obtain ⟨V0, hV0⟩ : ∃ V, V1.drew = V := ⟨_, rfl⟩
                rw [hV0] at hHeld ⊢
                clear hV0
                go_simp
                go_at_call 25; refine (HLi.out _ (hx34.trans hHeld.2.2.2)).mono ?_; rintro e V2 ⟨rfl, hz⟩
                refine hK.out _ _ ?_ (fun hHeld => ?_)
                · exact ⟨Ext.cell hz hHeld.1, Ext.cell hz hHeld.2.1, Ext.cell hz hHeld.2.2.1, hHeld.2.2.2.trans hz⟩
                clear hK K
                clear hz
                try simp only [Act.put, List.getElem_toArray, List.getElem_cons_zero, List.getElem_cons_succ, List.setIfInBounds_toArray, List.set_cons_zero, List.set_cons_succ]
                (refine wpAnyH_take (i := 8) (v := ?_) rfl (by kernel_rfl) (by kernel_rfl) (by kernel_rfl) (fun _ _ _ h => h) (Or.inl ⟨by rfl, ?_⟩) (by assumption) ?_; rotate_left 1; (focus (intro w hSw; (try dsimp only at hSw); go_simp; try (with_reducible rfl))))
                try simp only [Act.put, List.getElem_toArray, List.getElem_cons_zero, List.getElem_cons_succ, List.setIfInBounds_toArray, List.set_cons_zero, List.set_cons_succ]
                (refine wpAnyH_take (i := 9) (v := ?_) rfl (by kernel_rfl) (by kernel_rfl) (by kernel_rfl) (fun _ _ _ h => h) (Or.inl ⟨by rfl, ?_⟩) (by assumption) ?_; rotate_left 1; (focus (intro w hSw; (try dsimp only at hSw); go_simp; try (with_reducible rfl))))
                try simp only [Act.put, List.getElem_toArray, List.getElem_cons_zero, List.getElem_cons_succ, List.setIfInBounds_toArray, List.set_cons_zero, List.set_cons_succ]
                (refine wpAnyH_take (i := 10) (v := ?_) rfl (by kernel_rfl) (by kernel_rfl) (by kernel_rfl) (fun _ _ _ h => h) (Or.inl ⟨by rfl, ?_⟩) (by assumption) ?_; rotate_left 1; (focus (intro w hSw; (try dsimp only at hSw); go_simp; try (with_reducible rfl))))
                try simp only [Act.put, List.getElem_toArray, List.getElem_cons_zero, List.getElem_cons_succ, List.setIfInBounds_toArray, List.set_cons_zero, List.set_cons_succ]
                (refine wpAnyH_take (i := 11) (v := ?_) rfl (by kernel_rfl) (by kernel_rfl) (by kernel_rfl) (fun _ _ _ h => h) (Or.inl ⟨by rfl, ?_⟩) (by assumption) ?_; rotate_left 1; (focus (intro w hSw; (try dsimp only at hSw); go_simp; try (with_reducible rfl))))
                try simp only [Act.put, List.getElem_toArray, List.getElem_cons_zero, List.getElem_cons_succ, List.setIfInBounds_toArray, List.set_cons_zero, List.set_cons_succ]
                (refine wpAnyH_take (i := 12) (v := ?_) rfl (by kernel_rfl) (by kernel_rfl) (by kernel_rfl) (fun _ _ _ h => h) (Or.inl ⟨by rfl, ?_⟩) (by assumption) ?_; rotate_left 1; (focus (intro w hSw; (try dsimp only at hSw); go_simp; try (with_reducible rfl))))
                try simp only [Act.put, List.getElem_toArray, List.getElem_cons_zero, List.getElem_cons_succ, List.setIfInBounds_toArray, List.set_cons_zero, List.set_cons_succ]
                refine wpAnyH_done (by kernel_rfl) ?_ _
                replace d0 := hHeld.1
                replace d1 := hHeld.2.1
                replace p0 := hHeld.2.2.1
                replace c0 := hHeld.2.2.2.cell c0
                replace e0 := hHeld.2.2.2.cell e0
                have hxmV2 := hxmV1.trans hHeld.2.2.2
                replace hx34 := hx34.trans hHeld.2.2.2
                clear hHeld
                go_wp2_with fail
                go_roundw
                case rel => exact ⟨k + 1, by omega, by go_num, hxmV2⟩
                case measure => simp [intOf]; omega
              · obtain rfl : k = T.ps.length := by omega
                clear hua hu34
                go_wp2_with fail
                refine (san _ hx34).mono ?_
                rintro e w99 ⟨rfl, hz⟩
                go_wp2_with fail
                go_ret
                exact ⟨rfl, hz⟩
      · have hgt : decide ((lf.length : Int) > 0) = true := decide_eq_true (by omega)
        go_upto_if 57 with fail
        go_cut [12] (fun s wx => ∃ i : Nat, i < lf.length ∧ s = .int .i64 i ∧ wr = wx)
        case first =>
          by_cases hko : od.length < O.length
          · have hkoi : (od.length : Int) < (O.length : Int) := by omega
            obtain ⟨bo, oo, rfl, c0, hob⟩ := (hO.ext hx).get od.length hko
            obtain ⟨z, hz⟩ : ∃ z, O[od.length] = z := ⟨_, rfl⟩
            rw [hz] at c0 hob
            clear hz
            have hzw : IntKind.i64.wrap z = z := IntWalk.i64_in _ (by omega)
            have hb2 : ¬ ((lf.length : Int) = 0) := by omega
            have hb3 : ((lf.length : Int) == 0) = false := by rw [beq_eq_false_iff_ne]; omega
            obtain ⟨i, hi, him⟩ : ∃ i : Nat, i < lf.length ∧ z.tmod (lf.length : Int) = i := by
              have h1 := Int.emod_nonneg z hb2
              have h2 := Int.emod_lt_of_pos z (show (0 : Int) < (lf.length : Int) by omega)
              exact ⟨(z % (lf.length : Int)).toNat, by omega, by rw [Int.tmod_eq_emod_of_nonneg hob.1]; omega⟩
            have hiw : IntKind.i64.wrap (i : Int) = i := IntWalk.i64_in _ (by omega)
            go_wp2_with fail
            go_meet
            case rel => exact ⟨i, hi, rfl, rfl⟩
          · have hkoi : ¬ (od.length : Int) < (O.length : Int) := by omega
            go_wp2_with fail
            go_meet
            case rel => exact ⟨0, by omega, rfl, rfl⟩
        case rest =>
          obtain ⟨i, hi, rfl, rfl⟩ := hcut
          obtain ⟨bl, ol, hla, x0⟩ := hll.get i hi
          subst hla
          obtain ⟨x, hxx⟩ : ∃ x, lf[i] = x := ⟨_, rfl⟩
          rw [hxx] at x0
          have HXX := Lib.hid hxx
          clear hxx
          obtain ⟨n, hn⟩ : ∃ n, lf.length = n := ⟨_, rfl⟩
          have HNL := Lib.hid hn
          rw [hn] at hi hlcap hgt hplen hle ⊢
          rw [hn] at hll
          clear hn
          obtain ⟨i1, hi1⟩ : ∃ j, i + 1 = j := ⟨_, rfl⟩
          have hi1w : IntKind.i64.wrap ((i : Int) + 1) = (i1 : Int) := by rw [IntWalk.i64_in _ (by omega)]; omega
          have hi1b : i1 ≤ n := by omega
          have hil : (i : Int) < (n : Int) := by omega
          have hin : (i : Int) ≤ (n : Int) := by omega
          have hic : (i : Int) ≤ (lc : Int) := by omega
          have hi1n : (i1 : Int) ≤ (n : Int) := by omega
          have hi1c : (i1 : Int) ≤ (lc : Int) := by omega
          have hnc : (n : Int) ≤ (lc : Int) := by omega
          have hie : i ≤ lc := by omega
          have hi1e : i1 ≤ lc := by omega
          have HI1 := Lib.hid hi1
          clear hi1
          go_upto_region 16 with fail
          obtain ⟨V, hV⟩ : ∃ V, wr.drew = V := ⟨_, rfl⟩
          have hxV : Ext wr V := by rw [← hV]; exact (by repeat (first | exact Ext.refl _ | assumption | refine Ext.alloc ?_ _ | refine Ext.drew ?_ | refine Ext.drewN _ ?_ | refine Ext.trans ?_ (by assumption)))
          have hTk : ∀ {W}, Ext V W → IntsAt W (sliced (some ⟨bl, ol, none⟩) 0 i lc 1) (lf.take i) := fun h => (hll.ext (hxV.trans h)).slicedT i (by rw [HNL.out]; omega)
          have hDr : ∀ {W}, Ext V W → IntsAt W (sliced (some ⟨bl, ol, none⟩) i1 n lc 1) (lf.drop i1) := fun h => by
            have h9 := (hll.ext (hxV.trans h)).slicedD i1 (by rw [HNL.out]; omega)
            exact h9
          have hx0 : Ext V V := Ext.refl _
          obtain ⟨BS, hBS⟩ : ∃ B, B = V.heap.size := ⟨_, rfl⟩
          have HBS := Lib.hid hBS
          clear hBS
          refine wp_region_held_drew (S := fun W' => Ext wr W') (by kernel_rfl) ?_ (fun hHeld => ?_)
          · exact Ext.drew (Ext.refl _)
          (refine wpAnyH_take (i := 1) (v := ?_) rfl (by kernel_rfl) (by kernel_rfl) (by kernel_rfl) (fun _ _ _ h => h) (Or.inl ⟨by rfl, ?_⟩) (by assumption) ?_; rotate_left 1; (focus (intro w hSw; (try dsimp only at hSw); go_simp; try (with_reducible rfl))))
          try simp only [Act.put, List.getElem_toArray, List.setIfInBounds_toArray]
          (refine wpAnyH_take (i := 2) (v := ?_) rfl (by kernel_rfl) (by kernel_rfl) (by kernel_rfl) (fun _ _ _ h => h) (Or.inl ⟨by rfl, ?_⟩) (by assumption) ?_; rotate_left 1; (focus (intro w hSw; (try dsimp only at hSw); go_simp; try (with_reducible rfl))))
          try simp only [Act.put, List.getElem_toArray, List.getElem_cons_zero, List.getElem_cons_succ, List.setIfInBounds_toArray, List.set_cons_zero, List.set_cons_succ]
          (refine wpAnyH_take (i := 3) (v := sliced (some ⟨bl, ol, none⟩) 0 i lc 1) rfl (by kernel_rfl) (by kernel_rfl) (by kernel_rfl) (fun _ _ _ h => h) (Or.inl ⟨by rfl, ?_⟩) (by assumption) ?_; (focus (intro w hSw; (try dsimp only at hSw); go_simp)))
          try simp only [Act.put, List.getElem_toArray, List.getElem_cons_zero, List.getElem_cons_succ, List.setIfInBounds_toArray, List.set_cons_zero, List.set_cons_succ]
          (refine wpAnyH_take (i := 5) (v := ?_) rfl (by kernel_rfl) (by kernel_rfl) (by kernel_rfl) (fun _ _ _ h => h) (Or.inl ⟨by rfl, ?_⟩) (by assumption) ?_; rotate_left 1; (focus (intro w hSw; (try dsimp only at hSw); go_simp; try (with_reducible rfl))))
          try simp only [Act.put, List.getElem_toArray, List.getElem_cons_zero, List.getElem_cons_succ, List.setIfInBounds_toArray, List.set_cons_zero, List.set_cons_succ]
          (refine wpAnyH_take (i := 6) (v := ?_) rfl (by kernel_rfl) (by kernel_rfl) (by kernel_rfl) (fun _ _ _ h => h) (Or.inl ⟨by rfl, ?_⟩) (by assumption) ?_; rotate_left 1; (focus (intro w hSw; (try dsimp only at hSw); go_simp; try (with_reducible rfl))))
          try simp only [Act.put, List.getElem_toArray, List.getElem_cons_zero, List.getElem_cons_succ, List.setIfInBounds_toArray, List.set_cons_zero, List.set_cons_succ]
          (refine wpAnyH_take (i := 7) (v := ?_) rfl (by kernel_rfl) (by kernel_rfl) (by kernel_rfl) (fun _ _ _ h => h) (Or.inl ⟨by rfl, ?_⟩) (by assumption) ?_; rotate_left 1; (focus (intro w hSw; (try dsimp only at hSw); go_simp; try (with_reducible rfl))))
          try simp only [Act.put, List.getElem_toArray, List.getElem_cons_zero, List.getElem_cons_succ, List.setIfInBounds_toArray, List.set_cons_zero, List.set_cons_succ]
          (refine wpAnyH_take (i := 8) (v := sliced (some ⟨bl, ol, none⟩) i1 n lc 1) rfl (by kernel_rfl) (by kernel_rfl) (by kernel_rfl) (fun _ _ _ h => h) (Or.inl ⟨by rfl, ?_⟩) (by assumption) ?_; (focus (intro w hSw; (try dsimp only at hSw); go_simp)))
          try simp only [Act.put, List.getElem_toArray, List.getElem_cons_zero, List.getElem_cons_succ, List.setIfInBounds_toArray, List.set_cons_zero, List.set_cons_succ]
          refine wpAnyH_ready (rs := [0]) (by kernel_rfl) (by simp) ?_
          refine AllReadyH.cons rfl (fun K hK => ?_) AllReadyH.nil
          rw [hV] at hHeld ⊢
          clear hV
          generalize sliced (some ⟨bl, ol, none⟩) 0 i lc 1 = ST at hTk ⊢
          generalize sliced (some ⟨bl, ol, none⟩) i1 n lc 1 = SD at hDr ⊢
          go_simp
          obtain ⟨V1, hN⟩ : ∃ X, V.alloc (.cells #[] 3) = X := ⟨_, rfl⟩
          have hz : Ext V V1 := by rw [← hN]; exact (by repeat (first | exact Ext.refl _ | assumption | refine Ext.alloc ?_ _ | refine Ext.drew ?_ | refine Ext.drewN _ ?_ | refine Ext.trans ?_ (by assumption)))
          have hr0 : RowI BS (.slice (some ⟨V.heap.size, 0, none⟩) 0 0) [] V1 := by rw [← hN]; exact rowI_lit0 V (by rw [HBS.out]; exact Nat.le_refl _)
          rw [hN]
          refine hK.out _ _ ?_ (fun hHeld => ?_)
          · exact hHeld.trans hz
          clear hK K
          replace hx0 := hx0.trans hz
          clear hz hN
          try simp only [Act.put, List.getElem_toArray, List.getElem_cons_zero, List.getElem_cons_succ, List.setIfInBounds_toArray, List.set_cons_zero, List.set_cons_succ]
          refine wpAnyH_ready (rs := [4]) (by kernel_rfl) (by simp) ?_
          refine AllReadyH.cons rfl (fun K hK => ?_) AllReadyH.nil
          rw [if_pos (by rfl)]
          obtain ⟨v1, V2, hrun, hr1, hg, _⟩ := run_append_ints V1 34 BS _ _ [] (lf.take i) hr0 (hTk hx0) (by rw [HBS.out]; exact hx0.size) (by simp; omega)
          refine oper_append _ _ 34 rfl _ _ v1 V2 rfl rfl hrun ?_
          rw [List.nil_append] at hr1
          have hx1 := ext_own hx0 hr0 (Nat.le_of_eq HBS.out.symm) hg
          refine hK.out _ _ ?_ (fun hHeld => ?_)
          · exact hxV.trans hx1
          clear hK K
          clear hrun hg hr0 hx0
          try simp only [Act.put, List.getElem_toArray, List.getElem_cons_zero, List.getElem_cons_succ, List.setIfInBounds_toArray, List.set_cons_zero, List.set_cons_succ]
          refine wpAnyH_ready (rs := [9]) (by kernel_rfl) (by simp) ?_
          refine AllReadyH.cons rfl (fun K hK => ?_) AllReadyH.nil
          rw [if_pos (by rfl)]
          obtain ⟨v2, V3, hrun, hr2, hg, _⟩ := run_append_ints V2 34 BS _ _ (lf.take i) (lf.drop i1) hr1 (hDr hx1) (by rw [HBS.out]; exact hx1.size) (by simp; have := HNL.out; omega)
          refine oper_append _ _ 34 rfl _ _ v2 V3 rfl rfl hrun ?_
          have hx2 := ext_own hx1 hr1 (Nat.le_of_eq HBS.out.symm) hg
          refine hK.out _ _ ?_ (fun hHeld => ?_)
          · exact hxV.trans hx2
          clear hK K
          clear hrun hg hr1 hx1
          try simp only [Act.put, List.getElem_toArray, List.getElem_cons_zero, List.getElem_cons_succ, List.setIfInBounds_toArray, List.set_cons_zero, List.set_cons_succ]
          (refine wpAnyH_take (i := 10) (v := ?_) rfl (by kernel_rfl) (by kernel_rfl) (by kernel_rfl) (fun _ _ _ h => h) (Or.inl ⟨by rfl, ?_⟩) (by assumption) ?_; rotate_left 1; (focus (intro w hSw; (try dsimp only at hSw); go_simp; try (with_reducible rfl))))
          try simp only [Act.put, List.getElem_toArray, List.getElem_cons_zero, List.getElem_cons_succ, List.setIfInBounds_toArray, List.set_cons_zero, List.set_cons_succ]
          refine wpAnyH_done (by kernel_rfl) ?_ _
          have hxr : Ext wr V3 := hxV.trans hx2
          have hBSm : mb < BS := by rw [HBS.out]; exact Nat.lt_of_lt_of_le hms hxV.size
          have hBSw : w.heap.size ≤ BS := by omega
          have hnl2 : ∀ g, v2.ownBlock = some g → g ≠ mb := fun g hg => by have := (hr2.lt g hg).1; omega
          have hr2b : RowI w.heap.size v2 (lf.take i ++ lf.drop i1) V3 := rowI_base hr2 hBSw
          have hrl2 : Hid (RowI w.heap.size v2 (lf.take i ++ lf.drop (i + 1)) V3) := Lib.hid (by have h9 := HI1.out; subst h9; exact hr2b)
          have hmp3 := HI.out.mp.ext hxr
          have hll3 := hlg.ext hxr
          have q3 := q0.ext hxr
          have hx3 := hx.trans hxr
          replace d0 := hxr.cell d0
          replace d1 := hxr.cell d1
          have hms3 : mb < V3.heap.size := Nat.lt_of_lt_of_le hms hxr.size
          obtain ⟨m2, hm2⟩ : ∃ A c, v2 = .slice A (lf.take i ++ lf.drop i1).length c := hr2.form
          obtain ⟨c2, rfl⟩ := hm2
          have hl2 : (lf.take i ++ lf.drop i1).length = n - 1 := by have h9 := HI1.out; have h8 := HNL.out; simp; omega
          rw [hl2] at hrl2 hnl2 ⊢
          clear hr2 hr2b hTk hDr hx2 hxV HBS hl2 hHeld hlcap
          obtain ⟨gl, hgl⟩ : ∃ l, grO od = l := ⟨_, rfl⟩
          have hglen : gl.length ≤ 24 := by rw [← hgl, grO_len]; omega
          rw [hgl] at hll3 hgcap ⊢
          have HGL := Lib.hid hgl
          clear hgl hlg
          obtain ⟨G, hG⟩ : ∃ l, putL gl x = l := ⟨_, rfl⟩
          have HG0 := Lib.hid hG
          clear hG
          go_upto_region 18 with fail
          go_loopw [13] (fun j wr' => ∃ k : Nat, k ≤ gl.length ∧ j = .int .i64 k ∧ Hid (∀ i (h : i < gl.length), i < k → gl[i] < x) ∧ Ext V3 wr') (fun j _ => gl.length - (intOf j).toNat)
          case atStart => exact ⟨0, Nat.zero_le _, rfl, Lib.hid (fun i _ h => by omega), Ext.refl _⟩
          case round =>
            obtain ⟨k, hk, rfl, HK, hxk⟩ := hrel
            replace hll3 := hll3.ext hxk
            replace q3 := q3.ext hxk
            replace hx3 := hx3.trans hxk
            replace d0 := hxk.cell d0
            replace d1 := hxk.cell d1
            replace hmp3 := hmp3.ext hxk
            have hrl3 := Lib.hid (rowI_ext hrl2.out hxk)
            replace hms3 : mb < wr.heap.size := Nat.lt_of_lt_of_le hms3 hxk.size
            have fin : (∀ h : k < gl.length, ¬ gl[k] < x) → Hid (gl.take k ++ x :: gl.drop k = G) := fun h => Lib.hid (by rw [← HG0.out, putL_at hk HK.out h])
            have hke : k ≤ gc := by omega
            have hki : (k : Int) ≤ (gc : Int) := by omega
            have hkn : (k : Int) ≤ (gl.length : Int) := by omega
            have hgci : (gl.length : Int) ≤ (gc : Int) := by omega
            by_cases hltk : k < gl.length
            · obtain ⟨b9, o9, hga, c0⟩ := hll3.get k hltk
              subst hga
              obtain ⟨y, hyy⟩ : ∃ y, gl[k] = y := ⟨_, rfl⟩
              rw [hyy] at c0
              have hkl : (k : Int) < (gl.length : Int) := by omega
              by_cases hyx : y < x
              · have HK2 : Hid (∀ i (h : i < gl.length), i < k + 1 → gl[i] < x) := Lib.hid (fun i h hi => by
                  by_cases hik : i = k
                  · subst hik; rw [hyy]; exact hyx
                  · exact HK.out i h (by omega))
                clear fin hyy HK
                have hbx : decide (y < x) = true := decide_eq_true hyx
                go_wp2_with fail
                go_roundw
                case rel => exact ⟨k + 1, by omega, by go_num, HK2, hxk⟩
                case measure => simp [intOf]; omega
              · have HP := fin (fun _ => by rw [hyy]; exact hyx)
                have hbx : decide (y < x) = false := decide_eq_false hyx
                clear fin hyy HK
                have hxW3 := hx3
                clear hx3
                go_upto_region 20 with fail
                go_cut [6] (fun vg wx => RowI wr.heap.size vg G wx ∧ Ext wr wx)
                case first =>
                  obtain ⟨V, hV⟩ : ∃ V, wr.drew = V := ⟨_, rfl⟩
                  have hxV : Ext wr V := by rw [← hV]; exact (by repeat (first | exact Ext.refl _ | assumption | refine Ext.alloc ?_ _ | refine Ext.drew ?_ | refine Ext.drewN _ ?_ | refine Ext.trans ?_ (by assumption)))
                  have hTk : ∀ {W}, Ext V W → IntsAt W (sliced (some ⟨b9, o9, none⟩) 0 k gc 1) (gl.take k) := fun h => (hll3.ext (hxV.trans h)).slicedT k hk
                  have hDr : ∀ {W}, Ext V W → IntsAt W (sliced (some ⟨b9, o9, none⟩) k gl.length gc 1) (gl.drop k) := fun h => (hll3.ext (hxV.trans h)).slicedD k hk
                  clear hx
                  have hx : Ext V V := Ext.refl _
                  obtain ⟨BS, hBS⟩ : ∃ B, B = V.heap.size := ⟨_, rfl⟩
                  have HBS := Lib.hid hBS
                  clear hBS
                  refine wp_region_held_drew (S := fun W' => W'.cell? ⟨w.heap.size, 0, none⟩ = some a ∧ W'.cell? ⟨w.heap.size, 1, none⟩ = some (.slice ab T.ps.length cb) ∧ Ext wr W') (by kernel_rfl) ?_ (fun hHeld => ?_)
                  · exact ⟨Ext.cell (Ext.drew (Ext.refl _)) d0, Ext.cell (Ext.drew (Ext.refl _)) d1, Ext.drew (Ext.refl _)⟩
                  (refine wpAnyH_take (i := 1) (v := ?_) rfl (by kernel_rfl) (by kernel_rfl) (by kernel_rfl) (fun _ _ _ h => h) (Or.inl ⟨by rfl, ?_⟩) (by assumption) ?_; rotate_left 1; (focus (intro w hSw; (try dsimp only at hSw); go_simp; try (with_reducible rfl))))
                  try simp only [Act.put, List.getElem_toArray, List.setIfInBounds_toArray]
                  (refine wpAnyH_take (i := 2) (v := ?_) rfl (by kernel_rfl) (by kernel_rfl) (by kernel_rfl) (fun _ _ _ h => h) (Or.inl ⟨by rfl, ?_⟩) (by assumption) ?_; rotate_left 1; (focus (intro w hSw; (try dsimp only at hSw); go_simp; try (with_reducible rfl))))
                  try simp only [Act.put, List.getElem_toArray, List.getElem_cons_zero, List.getElem_cons_succ, List.setIfInBounds_toArray, List.set_cons_zero, List.set_cons_succ]
                  (refine wpAnyH_take (i := 3) (v := sliced (some ⟨b9, o9, none⟩) 0 k gc 1) rfl (by kernel_rfl) (by kernel_rfl) (by kernel_rfl) (fun _ _ _ h => h) (Or.inl ⟨by rfl, ?_⟩) (by assumption) ?_; (focus (intro w hSw; (try dsimp only at hSw); go_simp)))
                  try simp only [Act.put, List.getElem_toArray, List.getElem_cons_zero, List.getElem_cons_succ, List.setIfInBounds_toArray, List.set_cons_zero, List.set_cons_succ]
                  (refine wpAnyH_take (i := 5) (v := ?_) rfl (by kernel_rfl) (by kernel_rfl) (by kernel_rfl) (fun _ _ _ h => h) (Or.inl ⟨by rfl, ?_⟩) (by assumption) ?_; rotate_left 1; (focus (intro w hSw; (try dsimp only at hSw); go_simp; try (with_reducible rfl))))
                  try simp only [Act.put, List.getElem_toArray, List.getElem_cons_zero, List.getElem_cons_succ, List.setIfInBounds_toArray, List.set_cons_zero, List.set_cons_succ]
                  (refine wpAnyH_take (i := 8) (v := ?_) rfl (by kernel_rfl) (by kernel_rfl) (by kernel_rfl) (fun _ _ _ h => h) (Or.inl ⟨by rfl, ?_⟩) (by assumption) ?_; rotate_left 1; (focus (intro w hSw; (try dsimp only at hSw); go_simp; try (with_reducible rfl))))
                  try simp only [Act.put, List.getElem_toArray, List.getElem_cons_zero, List.getElem_cons_succ, List.setIfInBounds_toArray, List.set_cons_zero, List.set_cons_succ]
                  (refine wpAnyH_take (i := 9) (v := ?_) rfl (by kernel_rfl) (by kernel_rfl) (by kernel_rfl) (fun _ _ _ h => h) (Or.inl ⟨by rfl, ?_⟩) (by assumption) ?_; rotate_left 1; (focus (intro w hSw; (try dsimp only at hSw); go_simp; try (with_reducible rfl))))
                  try simp only [Act.put, List.getElem_toArray, List.getElem_cons_zero, List.getElem_cons_succ, List.setIfInBounds_toArray, List.set_cons_zero, List.set_cons_succ]
                  (refine wpAnyH_take (i := 10) (v := sliced (some ⟨b9, o9, none⟩) k gl.length gc 1) rfl (by kernel_rfl) (by kernel_rfl) (by kernel_rfl) (fun _ _ _ h => h) (Or.inl ⟨by rfl, ?_⟩) (by assumption) ?_; (focus (intro w hSw; (try dsimp only at hSw); go_simp)))
                  try simp only [Act.put, List.getElem_toArray, List.getElem_cons_zero, List.getElem_cons_succ, List.setIfInBounds_toArray, List.set_cons_zero, List.set_cons_succ]
                  rw [hV] at hHeld ⊢
                  clear hV
                  generalize sliced (some ⟨b9, o9, none⟩) 0 k gc 1 = ST at hTk ⊢
                  generalize sliced (some ⟨b9, o9, none⟩) k gl.length gc 1 = SD at hDr ⊢
                  refine wpAnyH_ready (rs := [0, 6]) (by kernel_rfl) (by simp) ?_
                  refine AllReadyH.cons rfl (fun K hK => ?_) ?_
                  · go_simp
                    obtain ⟨W1, hN⟩ : ∃ X, V.alloc (.cells #[] 3) = X := ⟨_, rfl⟩
                    have hz : Ext V W1 := by rw [← hN]; exact (by repeat (first | exact Ext.refl _ | assumption | refine Ext.alloc ?_ _ | refine Ext.drew ?_ | refine Ext.drewN _ ?_ | refine Ext.trans ?_ (by assumption)))
                    have hr0 : RowI BS (.slice (some ⟨V.heap.size, 0, none⟩) 0 0) [] W1 := by rw [← hN]; exact rowI_lit0 V (by rw [HBS.out]; exact hx.size)
                    rw [hN]
                    replace hx := hx.trans hz
                    obtain ⟨N0, hN0⟩ : ∃ N, V.heap.size = N := ⟨_, rfl⟩
                    have hlt0 : N0 < W1.heap.size := by rw [← hN0, ← hN]; simp
                    rw [hN0] at hr0 ⊢
                    refine hK.out _ _ ?_ (fun hHeld => ?_)
                    · exact ⟨Ext.cell (hxV.trans hx) d0, Ext.cell (hxV.trans hx) d1, hxV.trans hx⟩
                    clear hK K hN hz
                    try simp only [Act.put, List.getElem_toArray, List.getElem_cons_zero, List.getElem_cons_succ, List.setIfInBounds_toArray, List.set_cons_zero, List.set_cons_succ]
                    refine wpAnyH_ready (rs := [4, 6]) (by kernel_rfl) (by simp) ?_
                    refine AllReadyH.cons rfl (fun K hK => ?_) ?_
                    · rw [if_pos (by rfl)]
                      obtain ⟨v1, W2, hrun, hr1, hg, _⟩ := run_append_ints W1 34 BS _ _ [] (gl.take k) hr0 (hTk hx) (by rw [HBS.out]; exact hx.size) (by simp; omega)
                      refine oper_append _ _ 34 rfl _ _ v1 W2 rfl rfl hrun ?_
                      rw [List.nil_append] at hr1
                      replace hx := ext_own hx hr0 (Nat.le_of_eq HBS.out.symm) hg
                      refine hK.out _ _ ?_ (fun hHeld => ?_)
                      · exact ⟨Ext.cell (hxV.trans hx) d0, Ext.cell (hxV.trans hx) d1, hxV.trans hx⟩
                      clear hK K hrun hg
                      try simp only [Act.put, List.getElem_toArray, List.getElem_cons_zero, List.getElem_cons_succ, List.setIfInBounds_toArray, List.set_cons_zero, List.set_cons_succ]
                      refine wpAnyH_ready (rs := [6]) (by kernel_rfl) (by simp) ?_
                      refine AllReadyH.cons rfl (fun K hK => ?_) ?_
                      · go_simp
                        obtain ⟨W3, hN⟩ : ∃ X, W2.alloc (.cells #[.int .i64 x] 3) = X := ⟨_, rfl⟩
                        have hz : Ext W2 W3 := by rw [← hN]; exact (by repeat (first | exact Ext.refl _ | assumption | refine Ext.alloc ?_ _ | refine Ext.drew ?_ | refine Ext.drewN _ ?_ | refine Ext.trans ?_ (by assumption)))
                        have hb1 : IntsAt W3 (.slice (some ⟨W2.heap.size, 0, none⟩) 1 1) [x] := by rw [← hN]; exact ints_one _ _ _
                        rw [hN]
                        replace hr1 := rowI_ext hr1 hz
                        replace hx := hx.trans hz
                        obtain ⟨NB, hNB⟩ : ∃ N, W2.heap.size = N := ⟨_, rfl⟩
                        have hltB : NB < W3.heap.size := by rw [← hNB, ← hN]; simp
                        rw [hNB] at hb1 ⊢
                        refine hK.out _ _ ?_ (fun hHeld => ?_)
                        · exact ⟨Ext.cell (hxV.trans hx) d0, Ext.cell (hxV.trans hx) d1, hxV.trans hx⟩
                        clear hK K hN hz
                        try simp only [Act.put, List.getElem_toArray, List.getElem_cons_zero, List.getElem_cons_succ, List.setIfInBounds_toArray, List.set_cons_zero, List.set_cons_succ]
                        obtain ⟨v2, W4, hrun, hr2, hg, _⟩ := run_append_ints W3 34 BS _ _ (gl.take k) [x] hr1 hb1 (by rw [HBS.out]; exact hx.size) (by simp; omega)
                        refine wpAnyH_ready (rs := [7]) (by kernel_rfl) (by simp) ?_
                        refine AllReadyH.cons rfl (fun K hK => ?_) AllReadyH.nil
                        rw [if_pos (by rfl)]
                        refine oper_append _ _ 34 rfl _ _ v2 W4 rfl rfl hrun ?_
                        have hx2 : Ext V W4 := ext_own hx hr1 (Nat.le_of_eq HBS.out.symm) hg
                        refine hK.out _ _ ?_ (fun hHeld => ?_)
                        · exact ⟨Ext.cell (hxV.trans hx2) d0, Ext.cell (hxV.trans hx2) d1, hxV.trans hx2⟩
                        clear hK K hrun hg
                        try simp only [Act.put, List.getElem_toArray, List.getElem_cons_zero, List.getElem_cons_succ, List.setIfInBounds_toArray, List.set_cons_zero, List.set_cons_succ]
                        obtain ⟨v3, W5, hrun, hr3, hg, _⟩ := run_append_ints W4 34 BS _ _ (gl.take k ++ [x]) (gl.drop k) hr2 (hDr hx2) (by rw [HBS.out]; exact hx2.size) (by simp; omega)
                        refine wpAnyH_ready (rs := [11]) (by kernel_rfl) (by simp) ?_
                        refine AllReadyH.cons rfl (fun K hK => ?_) AllReadyH.nil
                        rw [if_pos (by rfl)]
                        refine oper_append _ _ 34 rfl _ _ v3 W5 rfl rfl hrun ?_
                        have hx3 : Ext V W5 := ext_own hx2 hr2 (Nat.le_of_eq HBS.out.symm) hg
                        refine hK.out _ _ ?_ (fun hHeld => ?_)
                        · exact ⟨Ext.cell (hxV.trans hx3) d0, Ext.cell (hxV.trans hx3) d1, hxV.trans hx3⟩
                        clear hK K hrun hg
                        try simp only [Act.put, List.getElem_toArray, List.getElem_cons_zero, List.getElem_cons_succ, List.setIfInBounds_toArray, List.set_cons_zero, List.set_cons_succ]
                        (refine wpAnyH_take (i := 12) (v := ?_) rfl (by kernel_rfl) (by kernel_rfl) (by kernel_rfl) (fun _ _ _ h => h) (Or.inl ⟨by rfl, ?_⟩) (by assumption) ?_; rotate_left 1; (focus (intro w hSw; (try dsimp only at hSw); go_simp; try (with_reducible rfl))))
                        try simp only [Act.put, List.getElem_toArray, List.getElem_cons_zero, List.getElem_cons_succ, List.setIfInBounds_toArray, List.set_cons_zero, List.set_cons_succ]
                        refine wpAnyH_done (by kernel_rfl) ?_ _
                        obtain ⟨W3, hW3⟩ : ∃ W, W5 = W := ⟨_, rfl⟩
                        subst hW3
                        have e1 : gl.take k ++ [x] ++ gl.drop k = gl.take k ++ x :: gl.drop k := by rw [List.append_assoc]; rfl
                        have e2 := e1.trans HP.out
                        rw [e2] at hr3
                        have hbs : wr.heap.size ≤ BS := by rw [HBS.out]; exact hxV.size
                        have hr9b := rowI_base hr3 hbs
                        clear e1 e2 hbs
                        go_wp2
                        go_meet
                        case rel => exact ⟨hr9b, hxV.trans hx3⟩
                      exact AllReadyH.nil
                    refine AllReadyH.cons rfl (fun K hK => ?_) ?_
                    · go_simp
                      obtain ⟨W2, hN⟩ : ∃ X, W1.alloc (.cells #[.int .i64 x] 3) = X := ⟨_, rfl⟩
                      have hz : Ext W1 W2 := by rw [← hN]; exact (by repeat (first | exact Ext.refl _ | assumption | refine Ext.alloc ?_ _ | refine Ext.drew ?_ | refine Ext.drewN _ ?_ | refine Ext.trans ?_ (by assumption)))
                      have hb1 : IntsAt W2 (.slice (some ⟨W1.heap.size, 0, none⟩) 1 1) [x] := by rw [← hN]; exact ints_one _ _ _
                      rw [hN]
                      replace hr0 := rowI_ext hr0 hz
                      replace hx := hx.trans hz
                      have hbne : some W1.heap.size ≠ (Value.slice (some ⟨N0, 0, none⟩) 0 0).ownBlock := fun e => by simp only [Value.ownBlock, Option.some.injEq] at e; omega
                      obtain ⟨NB, hNB⟩ : ∃ N, W1.heap.size = N := ⟨_, rfl⟩
                      have hltB : NB < W2.heap.size := by rw [← hNB, ← hN]; simp
                      rw [hNB] at hb1 ⊢ hbne
                      refine hK.out _ _ ?_ (fun hHeld => ?_)
                      · exact ⟨Ext.cell (hxV.trans hx) d0, Ext.cell (hxV.trans hx) d1, hxV.trans hx⟩
                      clear hK K hN hz
                      try simp only [Act.put, List.getElem_toArray, List.getElem_cons_zero, List.getElem_cons_succ, List.setIfInBounds_toArray, List.set_cons_zero, List.set_cons_succ]
                      refine wpAnyH_ready (rs := [4]) (by kernel_rfl) (by simp) ?_
                      refine AllReadyH.cons rfl (fun K hK => ?_) ?_
                      · rw [if_pos (by rfl)]
                        obtain ⟨v1, W3, hrun, hr1, hg, _⟩ := run_append_ints W2 34 BS _ _ [] (gl.take k) hr0 (hTk hx) (by rw [HBS.out]; exact hx.size) (by simp; omega)
                        refine oper_append _ _ 34 rfl _ _ v1 W3 rfl rfl hrun ?_
                        rw [List.nil_append] at hr1
                        replace hb1 := ints_off hb1 hg hbne
                        replace hx := ext_own hx hr0 (Nat.le_of_eq HBS.out.symm) hg
                        refine hK.out _ _ ?_ (fun hHeld => ?_)
                        · exact ⟨Ext.cell (hxV.trans hx) d0, Ext.cell (hxV.trans hx) d1, hxV.trans hx⟩
                        clear hK K hrun hg
                        try simp only [Act.put, List.getElem_toArray, List.getElem_cons_zero, List.getElem_cons_succ, List.setIfInBounds_toArray, List.set_cons_zero, List.set_cons_succ]
                        obtain ⟨v2, W4, hrun, hr2, hg, _⟩ := run_append_ints W3 34 BS _ _ (gl.take k) [x] hr1 hb1 (by rw [HBS.out]; exact hx.size) (by simp; omega)
                        refine wpAnyH_ready (rs := [7]) (by kernel_rfl) (by simp) ?_
                        refine AllReadyH.cons rfl (fun K hK => ?_) AllReadyH.nil
                        rw [if_pos (by rfl)]
                        refine oper_append _ _ 34 rfl _ _ v2 W4 rfl rfl hrun ?_
                        have hx2 : Ext V W4 := ext_own hx hr1 (Nat.le_of_eq HBS.out.symm) hg
                        refine hK.out _ _ ?_ (fun hHeld => ?_)
                        · exact ⟨Ext.cell (hxV.trans hx2) d0, Ext.cell (hxV.trans hx2) d1, hxV.trans hx2⟩
                        clear hK K hrun hg
                        try simp only [Act.put, List.getElem_toArray, List.getElem_cons_zero, List.getElem_cons_succ, List.setIfInBounds_toArray, List.set_cons_zero, List.set_cons_succ]
                        obtain ⟨v3, W5, hrun, hr3, hg, _⟩ := run_append_ints W4 34 BS _ _ (gl.take k ++ [x]) (gl.drop k) hr2 (hDr hx2) (by rw [HBS.out]; exact hx2.size) (by simp; omega)
                        refine wpAnyH_ready (rs := [11]) (by kernel_rfl) (by simp) ?_
                        refine AllReadyH.cons rfl (fun K hK => ?_) AllReadyH.nil
                        rw [if_pos (by rfl)]
                        refine oper_append _ _ 34 rfl _ _ v3 W5 rfl rfl hrun ?_
                        have hx3 : Ext V W5 := ext_own hx2 hr2 (Nat.le_of_eq HBS.out.symm) hg
                        refine hK.out _ _ ?_ (fun hHeld => ?_)
                        · exact ⟨Ext.cell (hxV.trans hx3) d0, Ext.cell (hxV.trans hx3) d1, hxV.trans hx3⟩
                        clear hK K hrun hg
                        try simp only [Act.put, List.getElem_toArray, List.getElem_cons_zero, List.getElem_cons_succ, List.setIfInBounds_toArray, List.set_cons_zero, List.set_cons_succ]
                        (refine wpAnyH_take (i := 12) (v := ?_) rfl (by kernel_rfl) (by kernel_rfl) (by kernel_rfl) (fun _ _ _ h => h) (Or.inl ⟨by rfl, ?_⟩) (by assumption) ?_; rotate_left 1; (focus (intro w hSw; (try dsimp only at hSw); go_simp; try (with_reducible rfl))))
                        try simp only [Act.put, List.getElem_toArray, List.getElem_cons_zero, List.getElem_cons_succ, List.setIfInBounds_toArray, List.set_cons_zero, List.set_cons_succ]
                        refine wpAnyH_done (by kernel_rfl) ?_ _
                        obtain ⟨W3, hW3⟩ : ∃ W, W5 = W := ⟨_, rfl⟩
                        subst hW3
                        have e1 : gl.take k ++ [x] ++ gl.drop k = gl.take k ++ x :: gl.drop k := by rw [List.append_assoc]; rfl
                        have e2 := e1.trans HP.out
                        rw [e2] at hr3
                        have hbs : wr.heap.size ≤ BS := by rw [HBS.out]; exact hxV.size
                        have hr9b := rowI_base hr3 hbs
                        clear e1 e2 hbs
                        go_wp2
                        go_meet
                        case rel => exact ⟨hr9b, hxV.trans hx3⟩
                      exact AllReadyH.nil
                    exact AllReadyH.nil
                  refine AllReadyH.cons rfl (fun K hK => ?_) ?_
                  · go_simp
                    obtain ⟨W1, hN⟩ : ∃ X, V.alloc (.cells #[.int .i64 x] 3) = X := ⟨_, rfl⟩
                    have hz : Ext V W1 := by rw [← hN]; exact (by repeat (first | exact Ext.refl _ | assumption | refine Ext.alloc ?_ _ | refine Ext.drew ?_ | refine Ext.drewN _ ?_ | refine Ext.trans ?_ (by assumption)))
                    have hb1 : IntsAt W1 (.slice (some ⟨V.heap.size, 0, none⟩) 1 1) [x] := by rw [← hN]; exact ints_one _ _ _
                    rw [hN]
                    replace hx := hx.trans hz
                    obtain ⟨NB, hNB⟩ : ∃ N, V.heap.size = N := ⟨_, rfl⟩
                    have hltB : NB < W1.heap.size := by rw [← hNB, ← hN]; simp
                    rw [hNB] at hb1 ⊢
                    refine hK.out _ _ ?_ (fun hHeld => ?_)
                    · exact ⟨Ext.cell (hxV.trans hx) d0, Ext.cell (hxV.trans hx) d1, hxV.trans hx⟩
                    clear hK K hN hz
                    try simp only [Act.put, List.getElem_toArray, List.getElem_cons_zero, List.getElem_cons_succ, List.setIfInBounds_toArray, List.set_cons_zero, List.set_cons_succ]
                    refine wpAnyH_ready (rs := [0]) (by kernel_rfl) (by simp) ?_
                    refine AllReadyH.cons rfl (fun K hK => ?_) ?_
                    · go_simp
                      obtain ⟨W2, hN⟩ : ∃ X, W1.alloc (.cells #[] 3) = X := ⟨_, rfl⟩
                      have hz : Ext W1 W2 := by rw [← hN]; exact (by repeat (first | exact Ext.refl _ | assumption | refine Ext.alloc ?_ _ | refine Ext.drew ?_ | refine Ext.drewN _ ?_ | refine Ext.trans ?_ (by assumption)))
                      have hr0 : RowI BS (.slice (some ⟨W1.heap.size, 0, none⟩) 0 0) [] W2 := by rw [← hN]; exact rowI_lit0 W1 (by rw [HBS.out]; exact hx.size)
                      rw [hN]
                      replace hb1 := hb1.ext hz
                      replace hx := hx.trans hz
                      have hbne : some NB ≠ (Value.slice (some ⟨W1.heap.size, 0, none⟩) 0 0).ownBlock := fun e => by simp only [Value.ownBlock, Option.some.injEq] at e; omega
                      obtain ⟨N0, hN0⟩ : ∃ N, W1.heap.size = N := ⟨_, rfl⟩
                      have hlt0 : N0 < W2.heap.size := by rw [← hN0, ← hN]; simp
                      rw [hN0] at hr0 ⊢ hbne
                      refine hK.out _ _ ?_ (fun hHeld => ?_)
                      · exact ⟨Ext.cell (hxV.trans hx) d0, Ext.cell (hxV.trans hx) d1, hxV.trans hx⟩
                      clear hK K hN hz
                      try simp only [Act.put, List.getElem_toArray, List.getElem_cons_zero, List.getElem_cons_succ, List.setIfInBounds_toArray, List.set_cons_zero, List.set_cons_succ]
                      refine wpAnyH_ready (rs := [4]) (by kernel_rfl) (by simp) ?_
                      refine AllReadyH.cons rfl (fun K hK => ?_) ?_
                      · rw [if_pos (by rfl)]
                        obtain ⟨v1, W3, hrun, hr1, hg, _⟩ := run_append_ints W2 34 BS _ _ [] (gl.take k) hr0 (hTk hx) (by rw [HBS.out]; exact hx.size) (by simp; omega)
                        refine oper_append _ _ 34 rfl _ _ v1 W3 rfl rfl hrun ?_
                        rw [List.nil_append] at hr1
                        replace hb1 := ints_off hb1 hg hbne
                        replace hx := ext_own hx hr0 (Nat.le_of_eq HBS.out.symm) hg
                        refine hK.out _ _ ?_ (fun hHeld => ?_)
                        · exact ⟨Ext.cell (hxV.trans hx) d0, Ext.cell (hxV.trans hx) d1, hxV.trans hx⟩
                        clear hK K hrun hg
                        try simp only [Act.put, List.getElem_toArray, List.getElem_cons_zero, List.getElem_cons_succ, List.setIfInBounds_toArray, List.set_cons_zero, List.set_cons_succ]
                        obtain ⟨v2, W4, hrun, hr2, hg, _⟩ := run_append_ints W3 34 BS _ _ (gl.take k) [x] hr1 hb1 (by rw [HBS.out]; exact hx.size) (by simp; omega)
                        refine wpAnyH_ready (rs := [7]) (by kernel_rfl) (by simp) ?_
                        refine AllReadyH.cons rfl (fun K hK => ?_) AllReadyH.nil
                        rw [if_pos (by rfl)]
                        refine oper_append _ _ 34 rfl _ _ v2 W4 rfl rfl hrun ?_
                        have hx2 : Ext V W4 := ext_own hx hr1 (Nat.le_of_eq HBS.out.symm) hg
                        refine hK.out _ _ ?_ (fun hHeld => ?_)
                        · exact ⟨Ext.cell (hxV.trans hx2) d0, Ext.cell (hxV.trans hx2) d1, hxV.trans hx2⟩
                        clear hK K hrun hg
                        try simp only [Act.put, List.getElem_toArray, List.getElem_cons_zero, List.getElem_cons_succ, List.setIfInBounds_toArray, List.set_cons_zero, List.set_cons_succ]
                        obtain ⟨v3, W5, hrun, hr3, hg, _⟩ := run_append_ints W4 34 BS _ _ (gl.take k ++ [x]) (gl.drop k) hr2 (hDr hx2) (by rw [HBS.out]; exact hx2.size) (by simp; omega)
                        refine wpAnyH_ready (rs := [11]) (by kernel_rfl) (by simp) ?_
                        refine AllReadyH.cons rfl (fun K hK => ?_) AllReadyH.nil
                        rw [if_pos (by rfl)]
                        refine oper_append _ _ 34 rfl _ _ v3 W5 rfl rfl hrun ?_
                        have hx3 : Ext V W5 := ext_own hx2 hr2 (Nat.le_of_eq HBS.out.symm) hg
                        refine hK.out _ _ ?_ (fun hHeld => ?_)
                        · exact ⟨Ext.cell (hxV.trans hx3) d0, Ext.cell (hxV.trans hx3) d1, hxV.trans hx3⟩
                        clear hK K hrun hg
                        try simp only [Act.put, List.getElem_toArray, List.getElem_cons_zero, List.getElem_cons_succ, List.setIfInBounds_toArray, List.set_cons_zero, List.set_cons_succ]
                        (refine wpAnyH_take (i := 12) (v := ?_) rfl (by kernel_rfl) (by kernel_rfl) (by kernel_rfl) (fun _ _ _ h => h) (Or.inl ⟨by rfl, ?_⟩) (by assumption) ?_; rotate_left 1; (focus (intro w hSw; (try dsimp only at hSw); go_simp; try (with_reducible rfl))))
                        try simp only [Act.put, List.getElem_toArray, List.getElem_cons_zero, List.getElem_cons_succ, List.setIfInBounds_toArray, List.set_cons_zero, List.set_cons_succ]
                        refine wpAnyH_done (by kernel_rfl) ?_ _
                        obtain ⟨W3, hW3⟩ : ∃ W, W5 = W := ⟨_, rfl⟩
                        subst hW3
                        have e1 : gl.take k ++ [x] ++ gl.drop k = gl.take k ++ x :: gl.drop k := by rw [List.append_assoc]; rfl
                        have e2 := e1.trans HP.out
                        rw [e2] at hr3
                        have hbs : wr.heap.size ≤ BS := by rw [HBS.out]; exact hxV.size
                        have hr9b := rowI_base hr3 hbs
                        clear e1 e2 hbs
                        go_wp2
                        go_meet
                        case rel => exact ⟨hr9b, hxV.trans hx3⟩
                      exact AllReadyH.nil
                    exact AllReadyH.nil
                  exact AllReadyH.nil
                case rest =>
                  obtain ⟨hr9, hxE⟩ := hcut
                  have hBSw : w.heap.size ≤ wr.heap.size := by omega
                  have hng2 := own_ne hr9 hms3
                  have hr9b := rowI_base hr9 hBSw
                  have hl9 := hr9.at_
                  obtain ⟨g2, g3, rfl⟩ := hr9.form
                  have hrlE := rowI_ext hrl3.out hxE
                  have hmpE := hmp3.ext hxE
                  have qE := q3.ext hxE
                  have hxF := hxW3.trans hxE
                  have dd0 := hxE.cell d0
                  have dd1 := hxE.cell d1
                  have hmsE := Nat.lt_of_lt_of_le hms3 hxE.size
                  clear hr9
                  have hGe : G = grO (od ++ [x]) := by rw [grO_snoc, HGL.out, HG0.out]
                  have hpm2 := pm_step hpm (show i < lf.length by rw [HNL.out]; exact hi)
                  rw [show lf[i]'(by rw [HNL.out]; exact hi) = x from HXX.out] at hpm2
                  have KA := alone_or _ _ _ T HCC.out _ _ hpm2 _ (hT.ext hxF) (by rw [← hGe]; exact hl9)
                  have hGl : G.length = (grO (od ++ [x])).length := by rw [hGe]
                  obtain ⟨A1, hA1⟩ : ∃ z, alnG T od = z := ⟨_, rfl⟩
                  obtain ⟨A2, hA2⟩ : ∃ z, alnG T (od ++ [x]) = z := ⟨_, rfl⟩
                  have hA1b := alnE_bd HOK.out (fun p => decide (p.id ∈ od))
                  have hA2b := alnE_bd HOK.out (fun p => decide (p.id ∈ od ++ [x]))
                  rw [show alnE T (fun p => decide (p.id ∈ od)) = A1 from hA1] at hA1b
                  rw [show alnE T (fun p => decide (p.id ∈ od ++ [x])) = A2 from hA2] at hA2b
                  rw [hA2] at KA
                  rw [hA1]
                  obtain ⟨D, hD⟩ : ∃ z, A2 - A1 = z := ⟨_, rfl⟩
                  have hDw : IntKind.i64.wrap (A2 - A1) = D := by rw [← hD]; exact IntWalk.i64_in _ (by omega)
                  have hDe : D = alnG T (od ++ [x]) - alnG T od := by rw [hA1, hA2, hD]
                  have HKA := Lib.hid KA
                  have HDe := Lib.hid hDe
                  have HA2 := Lib.hid hA2
                  have HRL := Lib.hid hrlE
                  have HR9 := Lib.hid hr9b
                  have HPM := Lib.hid hpm2
                  clear KA hDe hA1 hA2 hD hrlE hr9b hpm2 hGe hGl hl9 hA1b hA2b d0 d1 hll3
                  go_wp2_with fail
                  refine HKA.out.mono ?_
                  rintro e w9 ⟨rfl, hz⟩
                  have hmp9 := hmpE.ext hz
                  have q9 := qE.ext hz
                  have hx9 := hxF.trans hz
                  have hrl9 := rowI_ext HRL.out hz
                  have hrg9 := rowI_ext HR9.out hz
                  have hms9 : mb < w9.heap.size := Nat.lt_of_lt_of_le hmsE hz.size
                  have HRL9 := Lib.hid hrl9
                  have HRG9 := Lib.hid hrg9
                  clear hz hmpE qE hxF HRL HR9 HKA dd0 dd1 hmsE hrl9 hrg9 hmp3 q3 hrl3
                  obtain ⟨ko, hko⟩ : ∃ n, od.length = n := ⟨_, rfl⟩
                  rw [hko] at hplen ⊢
                  have HKO := Lib.hid hko
                  clear hko
                  by_cases hk00 : ko = 0
                  · have hb : ((ko : Int) == 0) = true := by rw [hk00]; rfl
                    have hod : od = [] := List.eq_nil_of_length_eq_zero (by rw [HKO.out]; exact hk00)
                    have HOD := Lib.hid hod
                    clear hk00 hod
                    go_wp2_with (refine wpList_updateMap rfl _ _ _ rfl KI mapTi rfl hmp9 x (.int .i64 D) rfl rfl ?_; intro w5 hM5 hg5)
                    go_roundw
                    case rel => exact ⟨od ++ [x], lf.take i ++ lf.drop (i + 1), _, vint (by rw [List.length_append, List.length_singleton, HKO.out]; go_num), vint HA2.out.symm, vint (by rw [HOD.out]; rfl), vint (lastD_snoc od x).symm, Lib.hid (HI.out.upd (by rw [HNL.out]; exact hi) HXX.out HRL9.out hnl2 (by rw [HGL.out, HG0.out]; exact HRG9.out) hng2 HDe.out hM5 hg5), q9.kept hg5 (fun e => by have := Option.some.inj e; omega), hx9.grown hg5 (by omega), Nat.lt_of_lt_of_le hms9 hg5.size⟩
                    case measure => have hk9 := HKO.out; simp [intOf]; omega
                  · have hb : ((ko : Int) == 0) = false := by rw [beq_eq_false_iff_ne]; omega
                    go_wp2_with (refine wpList_updateMap rfl _ _ _ rfl KI mapTi rfl hmp9 x (.int .i64 D) rfl rfl ?_; intro w5 hM5 hg5)
                    go_roundw
                    case rel => exact ⟨od ++ [x], lf.take i ++ lf.drop (i + 1), _, vint (by rw [List.length_append, List.length_singleton, HKO.out]; go_num), vint HA2.out.symm, vint ((headD_snoc (by rw [HKO.out]; omega) x).symm), vint (lastD_snoc od x).symm, Lib.hid (HI.out.upd (by rw [HNL.out]; exact hi) HXX.out HRL9.out hnl2 (by rw [HGL.out, HG0.out]; exact HRG9.out) hng2 HDe.out hM5 hg5), q9.kept hg5 (fun e => by have := Option.some.inj e; omega), hx9.grown hg5 (by omega), Nat.lt_of_lt_of_le hms9 hg5.size⟩
                    case measure => have hk9 := HKO.out; simp [intOf]; omega
            · have HP := fin (fun h => absurd h hltk)
              obtain rfl : k = gl.length := by omega
              have hkl : ¬ (gl.length : Int) < (gl.length : Int) := by omega
              clear fin HK
              have hxW3 := hx3
              clear hx3
              go_upto_region 20 with fail
              go_cut [6] (fun vg wx => RowI wr.heap.size vg G wx ∧ Ext wr wx)
              case first =>
                obtain ⟨V, hV⟩ : ∃ V, wr.drew = V := ⟨_, rfl⟩
                have hxV : Ext wr V := by rw [← hV]; exact (by repeat (first | exact Ext.refl _ | assumption | refine Ext.alloc ?_ _ | refine Ext.drew ?_ | refine Ext.drewN _ ?_ | refine Ext.trans ?_ (by assumption)))
                have hTk : ∀ {W}, Ext V W → IntsAt W (sliced gA 0 gl.length gc 1) (gl.take gl.length) := fun h => (hll3.ext (hxV.trans h)).slicedT gl.length hk
                have hDr : ∀ {W}, Ext V W → IntsAt W (sliced gA gl.length gl.length gc 1) (gl.drop gl.length) := fun h => (hll3.ext (hxV.trans h)).slicedD gl.length hk
                clear hx
                have hx : Ext V V := Ext.refl _
                obtain ⟨BS, hBS⟩ : ∃ B, B = V.heap.size := ⟨_, rfl⟩
                have HBS := Lib.hid hBS
                clear hBS
                refine wp_region_held_drew (S := fun W' => W'.cell? ⟨w.heap.size, 0, none⟩ = some a ∧ W'.cell? ⟨w.heap.size, 1, none⟩ = some (.slice ab T.ps.length cb) ∧ Ext wr W') (by kernel_rfl) ?_ (fun hHeld => ?_)
                · exact ⟨Ext.cell (Ext.drew (Ext.refl _)) d0, Ext.cell (Ext.drew (Ext.refl _)) d1, Ext.drew (Ext.refl _)⟩
                (refine wpAnyH_take (i := 1) (v := ?_) rfl (by kernel_rfl) (by kernel_rfl) (by kernel_rfl) (fun _ _ _ h => h) (Or.inl ⟨by rfl, ?_⟩) (by assumption) ?_; rotate_left 1; (focus (intro w hSw; (try dsimp only at hSw); go_simp; try (with_reducible rfl))))
                try simp only [Act.put, List.getElem_toArray, List.setIfInBounds_toArray]
                (refine wpAnyH_take (i := 2) (v := ?_) rfl (by kernel_rfl) (by kernel_rfl) (by kernel_rfl) (fun _ _ _ h => h) (Or.inl ⟨by rfl, ?_⟩) (by assumption) ?_; rotate_left 1; (focus (intro w hSw; (try dsimp only at hSw); go_simp; try (with_reducible rfl))))
                try simp only [Act.put, List.getElem_toArray, List.getElem_cons_zero, List.getElem_cons_succ, List.setIfInBounds_toArray, List.set_cons_zero, List.set_cons_succ]
                (refine wpAnyH_take (i := 3) (v := sliced gA 0 gl.length gc 1) rfl (by kernel_rfl) (by kernel_rfl) (by kernel_rfl) (fun _ _ _ h => h) (Or.inl ⟨by rfl, ?_⟩) (by assumption) ?_; (focus (intro w hSw; (try dsimp only at hSw); go_simp)))
                try simp only [Act.put, List.getElem_toArray, List.getElem_cons_zero, List.getElem_cons_succ, List.setIfInBounds_toArray, List.set_cons_zero, List.set_cons_succ]
                (refine wpAnyH_take (i := 5) (v := ?_) rfl (by kernel_rfl) (by kernel_rfl) (by kernel_rfl) (fun _ _ _ h => h) (Or.inl ⟨by rfl, ?_⟩) (by assumption) ?_; rotate_left 1; (focus (intro w hSw; (try dsimp only at hSw); go_simp; try (with_reducible rfl))))
                try simp only [Act.put, List.getElem_toArray, List.getElem_cons_zero, List.getElem_cons_succ, List.setIfInBounds_toArray, List.set_cons_zero, List.set_cons_succ]
                (refine wpAnyH_take (i := 8) (v := ?_) rfl (by kernel_rfl) (by kernel_rfl) (by kernel_rfl) (fun _ _ _ h => h) (Or.inl ⟨by rfl, ?_⟩) (by assumption) ?_; rotate_left 1; (focus (intro w hSw; (try dsimp only at hSw); go_simp; try (with_reducible rfl))))
                try simp only [Act.put, List.getElem_toArray, List.getElem_cons_zero, List.getElem_cons_succ, List.setIfInBounds_toArray, List.set_cons_zero, List.set_cons_succ]
                (refine wpAnyH_take (i := 9) (v := ?_) rfl (by kernel_rfl) (by kernel_rfl) (by kernel_rfl) (fun _ _ _ h => h) (Or.inl ⟨by rfl, ?_⟩) (by assumption) ?_; rotate_left 1; (focus (intro w hSw; (try dsimp only at hSw); go_simp; try (with_reducible rfl))))
                try simp only [Act.put, List.getElem_toArray, List.getElem_cons_zero, List.getElem_cons_succ, List.setIfInBounds_toArray, List.set_cons_zero, List.set_cons_succ]
                (refine wpAnyH_take (i := 10) (v := sliced gA gl.length gl.length gc 1) rfl (by kernel_rfl) (by kernel_rfl) (by kernel_rfl) (fun _ _ _ h => h) (Or.inl ⟨by rfl, ?_⟩) (by assumption) ?_; (focus (intro w hSw; (try dsimp only at hSw); go_simp)))
                try simp only [Act.put, List.getElem_toArray, List.getElem_cons_zero, List.getElem_cons_succ, List.setIfInBounds_toArray, List.set_cons_zero, List.set_cons_succ]
                rw [hV] at hHeld ⊢
                clear hV
                generalize sliced gA 0 gl.length gc 1 = ST at hTk ⊢
                generalize sliced gA gl.length gl.length gc 1 = SD at hDr ⊢
                refine wpAnyH_ready (rs := [0, 6]) (by kernel_rfl) (by simp) ?_
                refine AllReadyH.cons rfl (fun K hK => ?_) ?_
                · go_simp
                  obtain ⟨W1, hN⟩ : ∃ X, V.alloc (.cells #[] 3) = X := ⟨_, rfl⟩
                  have hz : Ext V W1 := by rw [← hN]; exact (by repeat (first | exact Ext.refl _ | assumption | refine Ext.alloc ?_ _ | refine Ext.drew ?_ | refine Ext.drewN _ ?_ | refine Ext.trans ?_ (by assumption)))
                  have hr0 : RowI BS (.slice (some ⟨V.heap.size, 0, none⟩) 0 0) [] W1 := by rw [← hN]; exact rowI_lit0 V (by rw [HBS.out]; exact hx.size)
                  rw [hN]
                  replace hx := hx.trans hz
                  obtain ⟨N0, hN0⟩ : ∃ N, V.heap.size = N := ⟨_, rfl⟩
                  have hlt0 : N0 < W1.heap.size := by rw [← hN0, ← hN]; simp
                  rw [hN0] at hr0 ⊢
                  refine hK.out _ _ ?_ (fun hHeld => ?_)
                  · exact ⟨Ext.cell (hxV.trans hx) d0, Ext.cell (hxV.trans hx) d1, hxV.trans hx⟩
                  clear hK K hN hz
                  try simp only [Act.put, List.getElem_toArray, List.getElem_cons_zero, List.getElem_cons_succ, List.setIfInBounds_toArray, List.set_cons_zero, List.set_cons_succ]
                  refine wpAnyH_ready (rs := [4, 6]) (by kernel_rfl) (by simp) ?_
                  refine AllReadyH.cons rfl (fun K hK => ?_) ?_
                  · rw [if_pos (by rfl)]
                    obtain ⟨v1, W2, hrun, hr1, hg, _⟩ := run_append_ints W1 34 BS _ _ [] (gl.take gl.length) hr0 (hTk hx) (by rw [HBS.out]; exact hx.size) (by simp; omega)
                    refine oper_append _ _ 34 rfl _ _ v1 W2 rfl rfl hrun ?_
                    rw [List.nil_append] at hr1
                    replace hx := ext_own hx hr0 (Nat.le_of_eq HBS.out.symm) hg
                    refine hK.out _ _ ?_ (fun hHeld => ?_)
                    · exact ⟨Ext.cell (hxV.trans hx) d0, Ext.cell (hxV.trans hx) d1, hxV.trans hx⟩
                    clear hK K hrun hg
                    try simp only [Act.put, List.getElem_toArray, List.getElem_cons_zero, List.getElem_cons_succ, List.setIfInBounds_toArray, List.set_cons_zero, List.set_cons_succ]
                    refine wpAnyH_ready (rs := [6]) (by kernel_rfl) (by simp) ?_
                    refine AllReadyH.cons rfl (fun K hK => ?_) ?_
                    · go_simp
                      obtain ⟨W3, hN⟩ : ∃ X, W2.alloc (.cells #[.int .i64 x] 3) = X := ⟨_, rfl⟩
                      have hz : Ext W2 W3 := by rw [← hN]; exact (by repeat (first | exact Ext.refl _ | assumption | refine Ext.alloc ?_ _ | refine Ext.drew ?_ | refine Ext.drewN _ ?_ | refine Ext.trans ?_ (by assumption)))
                      have hb1 : IntsAt W3 (.slice (some ⟨W2.heap.size, 0, none⟩) 1 1) [x] := by rw [← hN]; exact ints_one _ _ _
                      rw [hN]
                      replace hr1 := rowI_ext hr1 hz
                      replace hx := hx.trans hz
                      obtain ⟨NB, hNB⟩ : ∃ N, W2.heap.size = N := ⟨_, rfl⟩
                      have hltB : NB < W3.heap.size := by rw [← hNB, ← hN]; simp
                      rw [hNB] at hb1 ⊢
                      refine hK.out _ _ ?_ (fun hHeld => ?_)
                      · exact ⟨Ext.cell (hxV.trans hx) d0, Ext.cell (hxV.trans hx) d1, hxV.trans hx⟩
                      clear hK K hN hz
                      try simp only [Act.put, List.getElem_toArray, List.getElem_cons_zero, List.getElem_cons_succ, List.setIfInBounds_toArray, List.set_cons_zero, List.set_cons_succ]
                      obtain ⟨v2, W4, hrun, hr2, hg, _⟩ := run_append_ints W3 34 BS _ _ (gl.take gl.length) [x] hr1 hb1 (by rw [HBS.out]; exact hx.size) (by simp; omega)
                      refine wpAnyH_ready (rs := [7]) (by kernel_rfl) (by simp) ?_
                      refine AllReadyH.cons rfl (fun K hK => ?_) AllReadyH.nil
                      rw [if_pos (by rfl)]
                      refine oper_append _ _ 34 rfl _ _ v2 W4 rfl rfl hrun ?_
                      have hx2 : Ext V W4 := ext_own hx hr1 (Nat.le_of_eq HBS.out.symm) hg
                      refine hK.out _ _ ?_ (fun hHeld => ?_)
                      · exact ⟨Ext.cell (hxV.trans hx2) d0, Ext.cell (hxV.trans hx2) d1, hxV.trans hx2⟩
                      clear hK K hrun hg
                      try simp only [Act.put, List.getElem_toArray, List.getElem_cons_zero, List.getElem_cons_succ, List.setIfInBounds_toArray, List.set_cons_zero, List.set_cons_succ]
                      obtain ⟨v3, W5, hrun, hr3, hg, _⟩ := run_append_ints W4 34 BS _ _ (gl.take gl.length ++ [x]) (gl.drop gl.length) hr2 (hDr hx2) (by rw [HBS.out]; exact hx2.size) (by simp; omega)
                      refine wpAnyH_ready (rs := [11]) (by kernel_rfl) (by simp) ?_
                      refine AllReadyH.cons rfl (fun K hK => ?_) AllReadyH.nil
                      rw [if_pos (by rfl)]
                      refine oper_append _ _ 34 rfl _ _ v3 W5 rfl rfl hrun ?_
                      have hx3 : Ext V W5 := ext_own hx2 hr2 (Nat.le_of_eq HBS.out.symm) hg
                      refine hK.out _ _ ?_ (fun hHeld => ?_)
                      · exact ⟨Ext.cell (hxV.trans hx3) d0, Ext.cell (hxV.trans hx3) d1, hxV.trans hx3⟩
                      clear hK K hrun hg
                      try simp only [Act.put, List.getElem_toArray, List.getElem_cons_zero, List.getElem_cons_succ, List.setIfInBounds_toArray, List.set_cons_zero, List.set_cons_succ]
                      (refine wpAnyH_take (i := 12) (v := ?_) rfl (by kernel_rfl) (by kernel_rfl) (by kernel_rfl) (fun _ _ _ h => h) (Or.inl ⟨by rfl, ?_⟩) (by assumption) ?_; rotate_left 1; (focus (intro w hSw; (try dsimp only at hSw); go_simp; try (with_reducible rfl))))
                      try simp only [Act.put, List.getElem_toArray, List.getElem_cons_zero, List.getElem_cons_succ, List.setIfInBounds_toArray, List.set_cons_zero, List.set_cons_succ]
                      refine wpAnyH_done (by kernel_rfl) ?_ _
                      obtain ⟨W3, hW3⟩ : ∃ W, W5 = W := ⟨_, rfl⟩
                      subst hW3
                      have e1 : gl.take gl.length ++ [x] ++ gl.drop gl.length = gl.take gl.length ++ x :: gl.drop gl.length := by rw [List.append_assoc]; rfl
                      have e2 := e1.trans HP.out
                      rw [e2] at hr3
                      have hbs : wr.heap.size ≤ BS := by rw [HBS.out]; exact hxV.size
                      have hr9b := rowI_base hr3 hbs
                      clear e1 e2 hbs
                      go_wp2
                      go_meet
                      case rel => exact ⟨hr9b, hxV.trans hx3⟩
                    exact AllReadyH.nil
                  refine AllReadyH.cons rfl (fun K hK => ?_) ?_
                  · go_simp
                    obtain ⟨W2, hN⟩ : ∃ X, W1.alloc (.cells #[.int .i64 x] 3) = X := ⟨_, rfl⟩
                    have hz : Ext W1 W2 := by rw [← hN]; exact (by repeat (first | exact Ext.refl _ | assumption | refine Ext.alloc ?_ _ | refine Ext.drew ?_ | refine Ext.drewN _ ?_ | refine Ext.trans ?_ (by assumption)))
                    have hb1 : IntsAt W2 (.slice (some ⟨W1.heap.size, 0, none⟩) 1 1) [x] := by rw [← hN]; exact ints_one _ _ _
                    rw [hN]
                    replace hr0 := rowI_ext hr0 hz
                    replace hx := hx.trans hz
                    have hbne : some W1.heap.size ≠ (Value.slice (some ⟨N0, 0, none⟩) 0 0).ownBlock := fun e => by simp only [Value.ownBlock, Option.some.injEq] at e; omega
                    obtain ⟨NB, hNB⟩ : ∃ N, W1.heap.size = N := ⟨_, rfl⟩
                    have hltB : NB < W2.heap.size := by rw [← hNB, ← hN]; simp
                    rw [hNB] at hb1 ⊢ hbne
                    refine hK.out _ _ ?_ (fun hHeld => ?_)
                    · exact ⟨Ext.cell (hxV.trans hx) d0, Ext.cell (hxV.trans hx) d1, hxV.trans hx⟩
                    clear hK K hN hz
                    try simp only [Act.put, List.getElem_toArray, List.getElem_cons_zero, List.getElem_cons_succ, List.setIfInBounds_toArray, List.set_cons_zero, List.set_cons_succ]
                    refine wpAnyH_ready (rs := [4]) (by kernel_rfl) (by simp) ?_
                    refine AllReadyH.cons rfl (fun K hK => ?_) ?_
                    · rw [if_pos (by rfl)]
                      obtain ⟨v1, W3, hrun, hr1, hg, _⟩ := run_append_ints W2 34 BS _ _ [] (gl.take gl.length) hr0 (hTk hx) (by rw [HBS.out]; exact hx.size) (by simp; omega)
                      refine oper_append _ _ 34 rfl _ _ v1 W3 rfl rfl hrun ?_
                      rw [List.nil_append] at hr1
                      replace hb1 := ints_off hb1 hg hbne
                      replace hx := ext_own hx hr0 (Nat.le_of_eq HBS.out.symm) hg
                      refine hK.out _ _ ?_ (fun hHeld => ?_)
                      · exact ⟨Ext.cell (hxV.trans hx) d0, Ext.cell (hxV.trans hx) d1, hxV.trans hx⟩
                      clear hK K hrun hg
                      try simp only [Act.put, List.getElem_toArray, List.getElem_cons_zero, List.getElem_cons_succ, List.setIfInBounds_toArray, List.set_cons_zero, List.set_cons_succ]
                      obtain ⟨v2, W4, hrun, hr2, hg, _⟩ := run_append_ints W3 34 BS _ _ (gl.take gl.length) [x] hr1 hb1 (by rw [HBS.out]; exact hx.size) (by simp; omega)
                      refine wpAnyH_ready (rs := [7]) (by kernel_rfl) (by simp) ?_
                      refine AllReadyH.cons rfl (fun K hK => ?_) AllReadyH.nil
                      rw [if_pos (by rfl)]
                      refine oper_append _ _ 34 rfl _ _ v2 W4 rfl rfl hrun ?_
                      have hx2 : Ext V W4 := ext_own hx hr1 (Nat.le_of_eq HBS.out.symm) hg
                      refine hK.out _ _ ?_ (fun hHeld => ?_)
                      · exact ⟨Ext.cell (hxV.trans hx2) d0, Ext.cell (hxV.trans hx2) d1, hxV.trans hx2⟩
                      clear hK K hrun hg
                      try simp only [Act.put, List.getElem_toArray, List.getElem_cons_zero, List.getElem_cons_succ, List.setIfInBounds_toArray, List.set_cons_zero, List.set_cons_succ]
                      obtain ⟨v3, W5, hrun, hr3, hg, _⟩ := run_append_ints W4 34 BS _ _ (gl.take gl.length ++ [x]) (gl.drop gl.length) hr2 (hDr hx2) (by rw [HBS.out]; exact hx2.size) (by simp; omega)
                      refine wpAnyH_ready (rs := [11]) (by kernel_rfl) (by simp) ?_
                      refine AllReadyH.cons rfl (fun K hK => ?_) AllReadyH.nil
                      rw [if_pos (by rfl)]
                      refine oper_append _ _ 34 rfl _ _ v3 W5 rfl rfl hrun ?_
                      have hx3 : Ext V W5 := ext_own hx2 hr2 (Nat.le_of_eq HBS.out.symm) hg
                      refine hK.out _ _ ?_ (fun hHeld => ?_)
                      · exact ⟨Ext.cell (hxV.trans hx3) d0, Ext.cell (hxV.trans hx3) d1, hxV.trans hx3⟩
                      clear hK K hrun hg
                      try simp only [Act.put, List.getElem_toArray, List.getElem_cons_zero, List.getElem_cons_succ, List.setIfInBounds_toArray, List.set_cons_zero, List.set_cons_succ]
                      (refine wpAnyH_take (i := 12) (v := ?_) rfl (by kernel_rfl) (by kernel_rfl) (by kernel_rfl) (fun _ _ _ h => h) (Or.inl ⟨by rfl, ?_⟩) (by assumption) ?_; rotate_left 1; (focus (intro w hSw; (try dsimp only at hSw); go_simp; try (with_reducible rfl))))
                      try simp only [Act.put, List.getElem_toArray, List.getElem_cons_zero, List.getElem_cons_succ, List.setIfInBounds_toArray, List.set_cons_zero, List.set_cons_succ]
                      refine wpAnyH_done (by kernel_rfl) ?_ _
                      obtain ⟨W3, hW3⟩ : ∃ W, W5 = W := ⟨_, rfl⟩
                      subst hW3
                      have e1 : gl.take gl.length ++ [x] ++ gl.drop gl.length = gl.take gl.length ++ x :: gl.drop gl.length := by rw [List.append_assoc]; rfl
                      have e2 := e1.trans HP.out
                      rw [e2] at hr3
                      have hbs : wr.heap.size ≤ BS := by rw [HBS.out]; exact hxV.size
                      have hr9b := rowI_base hr3 hbs
                      clear e1 e2 hbs
                      go_wp2
                      go_meet
                      case rel => exact ⟨hr9b, hxV.trans hx3⟩
                    exact AllReadyH.nil
                  exact AllReadyH.nil
                refine AllReadyH.cons rfl (fun K hK => ?_) ?_
                · go_simp
                  obtain ⟨W1, hN⟩ : ∃ X, V.alloc (.cells #[.int .i64 x] 3) = X := ⟨_, rfl⟩
                  have hz : Ext V W1 := by rw [← hN]; exact (by repeat (first | exact Ext.refl _ | assumption | refine Ext.alloc ?_ _ | refine Ext.drew ?_ | refine Ext.drewN _ ?_ | refine Ext.trans ?_ (by assumption)))
                  have hb1 : IntsAt W1 (.slice (some ⟨V.heap.size, 0, none⟩) 1 1) [x] := by rw [← hN]; exact ints_one _ _ _
                  rw [hN]
                  replace hx := hx.trans hz
                  obtain ⟨NB, hNB⟩ : ∃ N, V.heap.size = N := ⟨_, rfl⟩
                  have hltB : NB < W1.heap.size := by rw [← hNB, ← hN]; simp
                  rw [hNB] at hb1 ⊢
                  refine hK.out _ _ ?_ (fun hHeld => ?_)
                  · exact ⟨Ext.cell (hxV.trans hx) d0, Ext.cell (hxV.trans hx) d1, hxV.trans hx⟩
                  clear hK K hN hz
                  try simp only [Act.put, List.getElem_toArray, List.getElem_cons_zero, List.getElem_cons_succ, List.setIfInBounds_toArray, List.set_cons_zero, List.set_cons_succ]
                  refine wpAnyH_ready (rs := [0]) (by kernel_rfl) (by simp) ?_
                  refine AllReadyH.cons rfl (fun K hK => ?_) ?_
                  · go_simp
                    obtain ⟨W2, hN⟩ : ∃ X, W1.alloc (.cells #[] 3) = X := ⟨_, rfl⟩
                    have hz : Ext W1 W2 := by rw [← hN]; exact (by repeat (first | exact Ext.refl _ | assumption | refine Ext.alloc ?_ _ | refine Ext.drew ?_ | refine Ext.drewN _ ?_ | refine Ext.trans ?_ (by assumption)))
                    have hr0 : RowI BS (.slice (some ⟨W1.heap.size, 0, none⟩) 0 0) [] W2 := by rw [← hN]; exact rowI_lit0 W1 (by rw [HBS.out]; exact hx.size)
                    rw [hN]
                    replace hb1 := hb1.ext hz
                    replace hx := hx.trans hz
                    have hbne : some NB ≠ (Value.slice (some ⟨W1.heap.size, 0, none⟩) 0 0).ownBlock := fun e => by simp only [Value.ownBlock, Option.some.injEq] at e; omega
                    obtain ⟨N0, hN0⟩ : ∃ N, W1.heap.size = N := ⟨_, rfl⟩
                    have hlt0 : N0 < W2.heap.size := by rw [← hN0, ← hN]; simp
                    rw [hN0] at hr0 ⊢ hbne
                    refine hK.out _ _ ?_ (fun hHeld => ?_)
                    · exact ⟨Ext.cell (hxV.trans hx) d0, Ext.cell (hxV.trans hx) d1, hxV.trans hx⟩
                    clear hK K hN hz
                    try simp only [Act.put, List.getElem_toArray, List.getElem_cons_zero, List.getElem_cons_succ, List.setIfInBounds_toArray, List.set_cons_zero, List.set_cons_succ]
                    refine wpAnyH_ready (rs := [4]) (by kernel_rfl) (by simp) ?_
                    refine AllReadyH.cons rfl (fun K hK => ?_) ?_
                    · rw [if_pos (by rfl)]
                      obtain ⟨v1, W3, hrun, hr1, hg, _⟩ := run_append_ints W2 34 BS _ _ [] (gl.take gl.length) hr0 (hTk hx) (by rw [HBS.out]; exact hx.size) (by simp; omega)
                      refine oper_append _ _ 34 rfl _ _ v1 W3 rfl rfl hrun ?_
                      rw [List.nil_append] at hr1
                      replace hb1 := ints_off hb1 hg hbne
                      replace hx := ext_own hx hr0 (Nat.le_of_eq HBS.out.symm) hg
                      refine hK.out _ _ ?_ (fun hHeld => ?_)
                      · exact ⟨Ext.cell (hxV.trans hx) d0, Ext.cell (hxV.trans hx) d1, hxV.trans hx⟩
                      clear hK K hrun hg
                      try simp only [Act.put, List.getElem_toArray, List.getElem_cons_zero, List.getElem_cons_succ, List.setIfInBounds_toArray, List.set_cons_zero, List.set_cons_succ]
                      obtain ⟨v2, W4, hrun, hr2, hg, _⟩ := run_append_ints W3 34 BS _ _ (gl.take gl.length) [x] hr1 hb1 (by rw [HBS.out]; exact hx.size) (by simp; omega)
                      refine wpAnyH_ready (rs := [7]) (by kernel_rfl) (by simp) ?_
                      refine AllReadyH.cons rfl (fun K hK => ?_) AllReadyH.nil
                      rw [if_pos (by rfl)]
                      refine oper_append _ _ 34 rfl _ _ v2 W4 rfl rfl hrun ?_
                      have hx2 : Ext V W4 := ext_own hx hr1 (Nat.le_of_eq HBS.out.symm) hg
                      refine hK.out _ _ ?_ (fun hHeld => ?_)
                      · exact ⟨Ext.cell (hxV.trans hx2) d0, Ext.cell (hxV.trans hx2) d1, hxV.trans hx2⟩
                      clear hK K hrun hg
                      try simp only [Act.put, List.getElem_toArray, List.getElem_cons_zero, List.getElem_cons_succ, List.setIfInBounds_toArray, List.set_cons_zero, List.set_cons_succ]
                      obtain ⟨v3, W5, hrun, hr3, hg, _⟩ := run_append_ints W4 34 BS _ _ (gl.take gl.length ++ [x]) (gl.drop gl.length) hr2 (hDr hx2) (by rw [HBS.out]; exact hx2.size) (by simp; omega)
                      refine wpAnyH_ready (rs := [11]) (by kernel_rfl) (by simp) ?_
                      refine AllReadyH.cons rfl (fun K hK => ?_) AllReadyH.nil
                      rw [if_pos (by rfl)]
                      refine oper_append _ _ 34 rfl _ _ v3 W5 rfl rfl hrun ?_
                      have hx3 : Ext V W5 := ext_own hx2 hr2 (Nat.le_of_eq HBS.out.symm) hg
                      refine hK.out _ _ ?_ (fun hHeld => ?_)
                      · exact ⟨Ext.cell (hxV.trans hx3) d0, Ext.cell (hxV.trans hx3) d1, hxV.trans hx3⟩
                      clear hK K hrun hg
                      try simp only [Act.put, List.getElem_toArray, List.getElem_cons_zero, List.getElem_cons_succ, List.setIfInBounds_toArray, List.set_cons_zero, List.set_cons_succ]
                      (refine wpAnyH_take (i := 12) (v := ?_) rfl (by kernel_rfl) (by kernel_rfl) (by kernel_rfl) (fun _ _ _ h => h) (Or.inl ⟨by rfl, ?_⟩) (by assumption) ?_; rotate_left 1; (focus (intro w hSw; (try dsimp only at hSw); go_simp; try (with_reducible rfl))))
                      try simp only [Act.put, List.getElem_toArray, List.getElem_cons_zero, List.getElem_cons_succ, List.setIfInBounds_toArray, List.set_cons_zero, List.set_cons_succ]
                      refine wpAnyH_done (by kernel_rfl) ?_ _
                      obtain ⟨W3, hW3⟩ : ∃ W, W5 = W := ⟨_, rfl⟩
                      subst hW3
                      have e1 : gl.take gl.length ++ [x] ++ gl.drop gl.length = gl.take gl.length ++ x :: gl.drop gl.length := by rw [List.append_assoc]; rfl
                      have e2 := e1.trans HP.out
                      rw [e2] at hr3
                      have hbs : wr.heap.size ≤ BS := by rw [HBS.out]; exact hxV.size
                      have hr9b := rowI_base hr3 hbs
                      clear e1 e2 hbs
                      go_wp2
                      go_meet
                      case rel => exact ⟨hr9b, hxV.trans hx3⟩
                    exact AllReadyH.nil
                  exact AllReadyH.nil
                exact AllReadyH.nil
              case rest =>
                obtain ⟨hr9, hxE⟩ := hcut
                have hBSw : w.heap.size ≤ wr.heap.size := by omega
                have hng2 := own_ne hr9 hms3
                have hr9b := rowI_base hr9 hBSw
                have hl9 := hr9.at_
                obtain ⟨g2, g3, rfl⟩ := hr9.form
                have hrlE := rowI_ext hrl3.out hxE
                have hmpE := hmp3.ext hxE
                have qE := q3.ext hxE
                have hxF := hxW3.trans hxE
                have dd0 := hxE.cell d0
                have dd1 := hxE.cell d1
                have hmsE := Nat.lt_of_lt_of_le hms3 hxE.size
                clear hr9
                have hGe : G = grO (od ++ [x]) := by rw [grO_snoc, HGL.out, HG0.out]
                have hpm2 := pm_step hpm (show i < lf.length by rw [HNL.out]; exact hi)
                rw [show lf[i]'(by rw [HNL.out]; exact hi) = x from HXX.out] at hpm2
                have KA := alone_or _ _ _ T HCC.out _ _ hpm2 _ (hT.ext hxF) (by rw [← hGe]; exact hl9)
                have hGl : G.length = (grO (od ++ [x])).length := by rw [hGe]
                obtain ⟨A1, hA1⟩ : ∃ z, alnG T od = z := ⟨_, rfl⟩
                obtain ⟨A2, hA2⟩ : ∃ z, alnG T (od ++ [x]) = z := ⟨_, rfl⟩
                have hA1b := alnE_bd HOK.out (fun p => decide (p.id ∈ od))
                have hA2b := alnE_bd HOK.out (fun p => decide (p.id ∈ od ++ [x]))
                rw [show alnE T (fun p => decide (p.id ∈ od)) = A1 from hA1] at hA1b
                rw [show alnE T (fun p => decide (p.id ∈ od ++ [x])) = A2 from hA2] at hA2b
                rw [hA2] at KA
                rw [hA1]
                obtain ⟨D, hD⟩ : ∃ z, A2 - A1 = z := ⟨_, rfl⟩
                have hDw : IntKind.i64.wrap (A2 - A1) = D := by rw [← hD]; exact IntWalk.i64_in _ (by omega)
                have hDe : D = alnG T (od ++ [x]) - alnG T od := by rw [hA1, hA2, hD]
                have HKA := Lib.hid KA
                have HDe := Lib.hid hDe
                have HA2 := Lib.hid hA2
                have HRL := Lib.hid hrlE
                have HR9 := Lib.hid hr9b
                have HPM := Lib.hid hpm2
                clear KA hDe hA1 hA2 hD hrlE hr9b hpm2 hGe hGl hl9 hA1b hA2b d0 d1 hll3
                go_wp2_with fail
                refine HKA.out.mono ?_
                rintro e w9 ⟨rfl, hz⟩
                have hmp9 := hmpE.ext hz
                have q9 := qE.ext hz
                have hx9 := hxF.trans hz
                have hrl9 := rowI_ext HRL.out hz
                have hrg9 := rowI_ext HR9.out hz
                have hms9 : mb < w9.heap.size := Nat.lt_of_lt_of_le hmsE hz.size
                have HRL9 := Lib.hid hrl9
                have HRG9 := Lib.hid hrg9
                clear hz hmpE qE hxF HRL HR9 HKA dd0 dd1 hmsE hrl9 hrg9 hmp3 q3 hrl3
                obtain ⟨ko, hko⟩ : ∃ n, od.length = n := ⟨_, rfl⟩
                rw [hko] at hplen ⊢
                have HKO := Lib.hid hko
                clear hko
                by_cases hk00 : ko = 0
                · have hb : ((ko : Int) == 0) = true := by rw [hk00]; rfl
                  have hod : od = [] := List.eq_nil_of_length_eq_zero (by rw [HKO.out]; exact hk00)
                  have HOD := Lib.hid hod
                  clear hk00 hod
                  go_wp2_with (refine wpList_updateMap rfl _ _ _ rfl KI mapTi rfl hmp9 x (.int .i64 D) rfl rfl ?_; intro w5 hM5 hg5)
                  go_roundw
                  case rel => exact ⟨od ++ [x], lf.take i ++ lf.drop (i + 1), _, vint (by rw [List.length_append, List.length_singleton, HKO.out]; go_num), vint HA2.out.symm, vint (by rw [HOD.out]; rfl), vint (lastD_snoc od x).symm, Lib.hid (HI.out.upd (by rw [HNL.out]; exact hi) HXX.out HRL9.out hnl2 (by rw [HGL.out, HG0.out]; exact HRG9.out) hng2 HDe.out hM5 hg5), q9.kept hg5 (fun e => by have := Option.some.inj e; omega), hx9.grown hg5 (by omega), Nat.lt_of_lt_of_le hms9 hg5.size⟩
                  case measure => have hk9 := HKO.out; simp [intOf]; omega
                · have hb : ((ko : Int) == 0) = false := by rw [beq_eq_false_iff_ne]; omega
                  go_wp2_with (refine wpList_updateMap rfl _ _ _ rfl KI mapTi rfl hmp9 x (.int .i64 D) rfl rfl ?_; intro w5 hM5 hg5)
                  go_roundw
                  case rel => exact ⟨od ++ [x], lf.take i ++ lf.drop (i + 1), _, vint (by rw [List.length_append, List.length_singleton, HKO.out]; go_num), vint HA2.out.symm, vint ((headD_snoc (by rw [HKO.out]; omega) x).symm), vint (lastD_snoc od x).symm, Lib.hid (HI.out.upd (by rw [HNL.out]; exact hi) HXX.out HRL9.out hnl2 (by rw [HGL.out, HG0.out]; exact HRG9.out) hng2 HDe.out hM5 hg5), q9.kept hg5 (fun e => by have := Option.some.inj e; omega), hx9.grown hg5 (by omega), Nat.lt_of_lt_of_le hms9 hg5.size⟩
                  case measure => have hk9 := HKO.out; simp [intOf]; omega
end Go.Proofs.Ythopgonbndoidaa
namespace Go.Proofs.Ythopgonbndoidaa.levyOrders
open Go.ChangeShapes Go.WideShapes Go.ChangeAt Go.RowKit Go.Deep Go.Joins

noncomputable def wArgs : Array Value := #[.agg #[.slice none 0 0, .slice none 0 0], .slice none 0 0]
noncomputable def laidWorld (os : Os) : World := World.holding Try.prog os ⟨#[], #[], []⟩

set_option maxRecDepth 100000 in
theorem contract (H : Type) (enc : TypeId × Value → H) (W : World) (base : Nat) (args : Array Value) (ds gs : List (DataW H)) (before : List MemPlace)
    (hval : ∀ (j : Nat) t v, Try.f4.params[j]? = some t → args[j]? = some v → Value.okWide Try.prog W .any base t v)
    (hW : DataW.Whole enc Try.prog Try.f4.params.toList Rows.levyOrdersSpec.vars false W args.toList ds gs before) :
    Calls Try.prog 4 args W fun e W' => ∃ v, e = .returned v ∧ Rows.levyOrdersSpec.post enc Try.prog Try.f4 false true false false W args v W' := by
  have hW' := hW
  obtain ⟨p, q, hA, hV, rfl, hfz, hnd⟩ := hW
  rw [show Try.f4.params = #[25, 47] from rfl] at hA hval
  obtain ⟨v0, vs0, d0, ds0, p0, q0, hargs, rfl, rfl, h0, r0⟩ := trodAll_cons hA
  obtain ⟨v1, vs1, d1, ds1, p1, q1, rfl, rfl, rfl, h1, r1⟩ := trodAll_cons r0
  obtain ⟨rfl, rfl, rfl⟩ := trodAll_nil r1
  obtain rfl : args = #[v0, v1] := by cases args; simp_all
  obtain ⟨rfl, rfl⟩ := trodVars_none hV
  obtain ⟨a0, b0, T0, rfl, hT0⟩ := open_tree (hval 0 25 v0 rfl rfl) h0
  obtain ⟨L1, hL1⟩ := open_bytes' (hval 1 47 v1 rfl rfl) h1
  refine (LevyOrders_any _ _ _ T0 L1 W hT0 hL1).mono fun e W' ⟨he, hg⟩ => ?_
  subst he
  refine ⟨_, rfl, post_true hW' rfl rfl ⟨rfl, rfl, rfl⟩ ?_ hg⟩
  rw [show Try.f4.params = #[25, 47] from rfl]
  intro t ht
  simp only [List.mem_cons, List.not_mem_nil, or_false] at ht
  rcases ht with rfl | rfl <;> exact ⟨by kernel_rfl, of_decide_eq_true (by kernel_rfl)⟩

set_option maxRecDepth 100000 in
theorem laid_met (os : Os) : laidMet Try.prog Rows.levyOrdersRow.laid ((laidWorld os).forCall (fun _ _ => 0) ⟨#[], wArgs, []⟩).memory :=
  laidMet_of_run' 8 (by kernel_rfl) (by kernel_rfl)
set_option maxRecDepth 100000 in
theorem reads (os : Os) {H : Type} (enc : TypeId × Value → H) : ∃ x places, DataW.whole enc Try.prog ((laidWorld os).forCall (fun _ _ => 0) ⟨#[], wArgs, []⟩).memory Try.f4.params.toList Rows.levyOrdersSpec.vars false wArgs.toList 8 = some (x, [], places) :=
  ⟨[.agg [.nil, .nil], .nil], [], by kernel_rfl⟩

set_option maxRecDepth 100000 in
theorem lifted (os : Os) (started : os.Started) (H : Type) (enc : TypeId × Value → H) (F : Stop.Interp) :
    ReturnsInHanded {} Try.checked os 4 .any ((OpenSpec.ofChange Rows.levyOrdersSpec).preRow enc Try.prog Try.f4 Rows.levyOrdersRow.domain false Rows.levyOrdersRow.laid) (((OpenSpec.ofChange Rows.levyOrdersSpec).at F).post enc Try.prog Try.f4 false true false false) := by
  obtain ⟨x, places, hx⟩ := reads os enc
  refine returnsInHanded_of_row (C := Try.checked) (s := OpenSpec.ofChange Rows.levyOrdersSpec) own started (by kernel_rfl) Try.func4
    (witness_row_at (enc := enc) (C := Try.checked) false (laidWorld os) wArgs rfl (by kernel_rfl) (by kernel_rfl) (by kernel_rfl)
      (OpenSpec.preRow_of_cond 8 hx (by kernel_rfl) (fun k hk => by cases hk) (by kernel_rfl) (laid_met os))) ?_
  intro W base args ds gs before hval hW _ _ _ hL _ _
  exact contract H enc W base args ds gs before hval hW

set_option maxRecDepth 100000 in
theorem said : Rows.LevyOrdersSaid :=
  OpenClaim.holds_of_cond 4 Try.f4 rfl rfl rfl rfl rfl rfl rfl ⟨rfl, rfl, rfl, rfl, rfl⟩ rfl rfl rfl rfl rfl (by kernel_rfl) Try.func4 (by kernel_rfl)
    (of_decide_eq_true (by kernel_rfl)) (by unfold Func.isWrapper; first | (rw [if_pos (by decide +kernel)]; kernel_rfl) | (rw [if_neg (by decide +kernel)]; exact ⟨rfl, rfl⟩))
    (fun os started H enc _ F => by rw [OpenClaim.pre_eq_preRow]; exact lifted os started H enc F)
end Go.Proofs.Ythopgonbndoidaa.levyOrders

