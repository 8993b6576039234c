/- weights of the program: for each reach, the weights of all who use it. -/
import Derived.Test.YthopgonbndoidaaVUse
import Derived.Test.YthopgonbndoidaaVChk
import Derived.Laws.Tables
namespace Go.Proofs.Ythopgonbndoidaa
open Go.RowKit Go.Shelf

attribute [local go_sem] Oper.semAt_some

/-- an array of 24 numbers -/
def arr (f : Nat → Int) : Array Value := ((List.range 24).map (fun r => Value.int .i64 (f r))).toArray
theorem arr_get (f : Nat → Int) {i : Nat} (h : i < 24) : (arr f)[i]? = some (.int .i64 (f i)) := by
  simp [arr, h]
theorem arr_size (f : Nat → Int) : (arr f).size = 24 := by simp [arr]
theorem arr_zero : arr (fun _ => 0) = #[.int .i64 0, .int .i64 0, .int .i64 0, .int .i64 0, .int .i64 0, .int .i64 0, .int .i64 0, .int .i64 0, .int .i64 0, .int .i64 0, .int .i64 0, .int .i64 0, .int .i64 0, .int .i64 0, .int .i64 0, .int .i64 0, .int .i64 0, .int .i64 0, .int .i64 0, .int .i64 0, .int .i64 0, .int .i64 0, .int .i64 0, .int .i64 0] := rfl
theorem arr_set (f : Nat → Int) (i : Nat) (v : Int) : (arr f).setIfInBounds i (.int .i64 v) = arr (fun r => if r = i then v else f r) := by
  refine Array.ext (by simp [arr]) (fun k h1 h2 => ?_)
  have hk : k < 24 := by simpa [arr] using h2
  rw [Array.getElem_setIfInBounds (by rw [arr_size]; exact hk)]
  by_cases e : i = k
  · subst e; simp [arr]
  · have e' : ¬ k = i := fun h => e h.symm
    simp [arr, e, e']
theorem arr_cell {B : Nat} {t : TypeId} {f : Nat → Int} {W : World} (h : Cls B t (arr f) W) {i : Nat} (hi : i < 24) : W.cell? ⟨B, i, none⟩ = some (.int .i64 (f i)) := by
  rw [h.cell i, arr_get f hi]
theorem Cls.setArr {B : Nat} {t : TypeId} {f : Nat → Int} {W : World} (h : Cls B t (arr f) W) (i : Nat) (v : Int) : Cls B t (arr (fun r => if r = i then v else f r)) (W.setCell ⟨B, i, none⟩ (.int .i64 v)) := by
  rw [← arr_set]; exact h.set i _
section
variable {P : Program} {ops : Array Oper} {rest : List Oper} {o : Oper} {a : Act} {w : World} {Q : Exit → Act → World → Prop} {F : Fence} {nF : Nat}
theorem wpListIn_load_row (hgd : o.guard = none) (ty : TypeId) (x : Operand) (ho : o.op = .load ty x)
    (g : Nat) (hx : a.eval x = .pointer (some ⟨g, 0, none⟩)) (t : TypeId) (cs : Array Value) (d : TypeDesc) (hg : Cls g t cs w)
    (hu : P.underlying ty = some d) (hd : (match d with | .struct _ | .array _ _ => true | _ => false) = true) (hi : (P.info? ty).map (·.size) = some cs.size)
    (h : wpListIn F nF P ops Q rest (a.put o.dst (.agg cs)) w) : wpListIn F nF P ops Q (o :: rest) a w := by
  refine wpListIn_plain hgd fun K' hK' => ?_
  unfold Oper.wpIn
  refine ⟨by simp [Oper.about, ho], ?_⟩
  rw [Oper.semAt_plain F _ _ (by rw [ho]; intro c hc'; cases hc')]
  unfold execOp
  simp only [ho, hx, Instr.loadAt, Instr.sureAddr, Sem.run_bind, Sem.run_pure, Result.andThen_ok, run_loadVar_row w g t ty cs (0, 0) d hg hu hd hi]
  exact hK' _ _ h
theorem wpListIn_store_row (hgd : o.guard = none) (ty : TypeId) (x y : Operand) (ho : o.op = .store ty x y)
    (g : Nat) (cells : Array Value) (hx : a.eval x = .pointer (some ⟨g, 0, none⟩)) (hy : a.eval y = .agg cells)
    (t : TypeId) (old : Array Value) (hg : Cls g t old w) (hi : (P.info? ty).map (·.size) = some cells.size)
    (hold : old.size = cells.size) (h1 : cells.all (·.oneCell') = true)
    (h : ∀ w', Cls g t cells w' → w.grownBy w' (some g) → wpListIn F nF P ops Q rest (a.put o.dst undef) w') : wpListIn F nF P ops Q (o :: rest) a w := by
  refine wpListIn_plain hgd fun K' hK' => ?_
  unfold Oper.wpIn
  refine ⟨by simp [Oper.about, ho], ?_⟩
  rw [Oper.semAt_plain F _ _ (by rw [ho]; intro c hc'; cases hc')]
  unfold execOp
  simp only [ho, hx, hy, Instr.storeAt, Instr.sureAddr, Sem.run_bind, Sem.run_pure, Result.andThen_ok, run_storeVar_row w g t ty old cells hg hi hold h1]
  refine hK' _ _ (h _ ?_ ?_)
  · have := hg
    unfold Cls at this ⊢
    simp [World.setRow, Array.getElem?_modify, this]
  · refine ⟨rfl, rfl, rfl, by simp [World.setRow], fun i hi' hne => ?_⟩
    simp only [World.setRow]
    rw [Array.getElem?_modify, if_neg (fun e => hne (by rw [e]))]
end
theorem arr_one (f : Nat → Int) : (arr f).all (·.oneCell') = true := by
  rw [Array.all_eq_true_iff_forall_mem]
  intro x hx
  simp only [arr, List.mem_toArray, List.mem_map] at hx
  obtain ⟨r, _, rfl⟩ := hx
  rfl
/-- with one payer more -/
def wtS (rs : List Rc) (f : Nat → Int) (p : Py) : Nat → Int := fun r => if usB rs p.reach r = true then f r + p.w else f r
def wtA (rs : List Rc) (l : List Py) : Nat → Int := l.foldl (wtS rs) (fun _ => 0)
theorem wtA_snoc (rs : List Rc) (l : List Py) (p : Py) : wtA rs (l ++ [p]) = wtS rs (wtA rs l) p := by simp [wtA]
theorem wtA_bd (rs : List Rc) (l : List Py) (h : ∀ p ∈ l, 1 ≤ p.w) (r : Nat) : 0 ≤ wtA rs l r ∧ wtA rs l r ≤ sumW l := by
  induction l using snoc_ind with
  | h0 => simp [wtA, sumW]
  | h1 l p ih =>
    have i := ih (fun q hq => h q (by simp [hq]))
    have j := h p (by simp)
    rw [wtA_snoc, sumW_snoc]
    unfold wtS
    split <;> omega
theorem sumW_mono (l r : List Py) (h : ∀ p ∈ l ++ r, 1 ≤ p.w) : sumW l ≤ sumW (l ++ r) := by
  induction r using snoc_ind with
  | h0 => simp
  | h1 r p ih =>
    have i := ih (fun q hq => h q (by rw [← List.append_assoc]; exact List.mem_append.2 (.inl hq)))
    have j := h p (by simp)
    rw [← List.append_assoc, sumW_snoc]; omega
theorem cnt_up {rs : List Rc} (hV : RsV rs) {fr : Int} (h : fr < rs.length) (r : Nat) : ((List.count (r : Int) (upL rs fr) : Nat) : Int) = if usB rs fr r = true then 1 else 0 := by
  have hn : (upL rs fr).Nodup := (upL_nodup hV (fr.toNat + 1) fr (by omega) h).imp (fun h => by omega)
  by_cases hu : usB rs fr r = true
  · rw [if_pos hu, List.Nodup.count hn, if_pos (usB_t.1 hu)]; rfl
  · rw [if_neg hu, List.count_eq_zero_of_not_mem (fun hm => hu (usB_t.2 hm))]; rfl
/-- the state of the loop over the payers -/
structure WL (w W : World) (a b : Value) (Ds : List Nat) (f : Nat → Int) : Prop where
  bx : Cls w.heap.size 25 #[a, b] W
  br : Cls (w.heap.size + 1) 107 (arr (fun _ => 0)) W
  bo : Cls (w.heap.size + 1 + 1) 107 (arr f) W
  mr : MarksAt w.heap.size Ds W
  ex : Ext w W
theorem WL.ext {w W W' : World} {a b : Value} {Ds : List Nat} {f : Nat → Int} (h : WL w W a b Ds f) (x : Ext W W') : WL w W' a b Ds f :=
  ⟨h.bx.ext x, h.br.ext x, h.bo.ext x, h.mr.ext x, h.ex.trans x⟩

set_option maxRecDepth 100000 in
set_option maxHeartbeats 4000000 in
theorem weights_any (a b : Value) (T : Tr) (hok : Ok T) (w : World) (hT : TrAt w a b T) :
    Calls Try.prog 61 #[.agg #[a, b]] w fun e w' => e = .returned (.agg (arr (wtA T.rs T.ps))) ∧ Ext w w' := by
  obtain ⟨AE, hAE⟩ : ∃ AE, wtA T.rs T.ps = AE := ⟨_, rfl⟩
  have HAE := Lib.hid hAE
  rw [hAE]
  clear hAE
  obtain ⟨aa, ca, rfl, hla⟩ := hT.r.len
  obtain ⟨ab, cb, rfl, hlb⟩ := hT.p.len
  refine (callsIn_wide (n := 5)).1 ?_
  refine callsIn_of_wp_marks Try.func61 rfl trivial ?_ rfl; simp only [Try.ntmps61, List.size_toArray, List.length_cons, List.length_nil, Nat.reduceAdd, Nat.reduceSub, Array.replicate_succ, Array.replicate_zero, List.push_toArray, List.append_toArray, List.nil_append, List.cons_append]
  gi_wp2_with fail
  obtain ⟨W1, hW1⟩ : ∃ W1, ((w.alloc (.cells #[.slice aa T.rs.length ca, .slice ab T.ps.length cb] 25)).alloc (.cells (arr (fun _ => 0)) 107)).alloc (.cells (arr (fun _ => 0)) 107) = W1 := ⟨_, rfl⟩
  obtain ⟨q0, q1, q2, hx1, _⟩ := alloc3 (w := w) (Ext.refl (((w.alloc (.cells #[.slice aa T.rs.length ca, .slice ab T.ps.length cb] 25)).alloc (.cells (arr (fun _ => 0)) 107)).alloc (.cells (arr (fun _ => 0)) 107)))
  rw [hW1] at q0 q1 q2 hx1
  rw [arr_zero] at hW1
  try rw [hW1]
  clear hW1
  refine wpIn_loopg (fun g a W => ∃ (j : Nat) (Ds : List Nat) (u5 u6 u11 u12 u13 u14 u15 u16 u17 u18 u19 u20 u21 u22 u23 u24 u25 u26 : Value), a = { tmps := #[.agg #[.slice aa T.rs.length ca, .slice ab T.ps.length cb], .pointer (some ⟨w.heap.size, 0, none⟩), .pointer (some ⟨w.heap.size + 1, 0, none⟩), .pointer (some ⟨w.heap.size + 1 + 1, 0, none⟩), undef, u5, u6, .pointer (some ⟨w.heap.size, 1, none⟩), .slice ab T.ps.length cb, .int .i64 T.ps.length, .int .i64 j, u11, u12, u13, u14, u15, u16, u17, u18, u19, u20, u21, u22, u23, u24, u25, u26, undef], defers := marksOf Ds } ∧ j ≤ T.ps.length ∧ g = T.ps.length - j ∧ Hid (WL w W (.slice aa T.rs.length ca) (.slice ab T.ps.length cb) Ds (wtA T.rs (T.ps.take j)))) T.ps.length ?_ ?_
  · exact ⟨0, [], undef, undef, undef, undef, undef, undef, undef, undef, undef, undef, undef, undef, undef, undef, undef, undef, undef, undef, rfl, Nat.zero_le _, rfl, Lib.hid ⟨q0, q1, q2, marks_nil _ _, hx1⟩⟩
  · rintro g a W ⟨j, Ds, u5, u6, u11, u12, u13, u14, u15, u16, u17, u18, u19, u20, u21, u22, u23, u24, u25, u26, rfl, hj, rfl, HA⟩
    by_cases hlt : j < T.ps.length
    · obtain ⟨bb, oo, rfl, c0, c1, c2⟩ := (hT.p.ext HA.out.ex).get j hlt
      have hlp := hok.lp
      have hlr := hok.lr
      have hpv := hok.pv _ (List.getElem_mem hlt)
      have hall : ∀ p ∈ T.ps, 1 ≤ p.w := fun p hp => (hok.pv p hp).2.2
      have hsn := wtA_snoc T.rs (T.ps.take j) T.ps[j]
      rw [← take_succ_get T.ps j hlt] at hsn
      have hfb := fun r => wtA_bd T.rs (T.ps.take j) (fun p hp => hall p (List.mem_of_mem_take hp)) r
      have hsw1 : sumW (T.ps.take (j + 1)) ≤ sumW T.ps := by
        have h := sumW_mono (T.ps.take (j + 1)) (T.ps.drop (j + 1)) (by rw [List.take_append_drop]; exact hall)
        rwa [List.take_append_drop] at h
      rw [sumW_take hlt] at hsw1
      have hsw := hok.sw
      have hs0 := (sumW_nonneg (l := T.ps.take j) (fun p hp => hall p (List.mem_of_mem_take hp))).1
      have hid : T.ps[j] = ⟨T.ps[j].id, T.ps[j].reach, T.ps[j].w⟩ := rfl
      obtain ⟨x, hxx⟩ : ∃ x, T.ps[j].id = x := ⟨_, rfl⟩
      obtain ⟨y, hyy⟩ : ∃ y, T.ps[j].reach = y := ⟨_, rfl⟩
      obtain ⟨z, hzz⟩ : ∃ z, T.ps[j].w = z := ⟨_, rfl⟩
      rw [hxx] at c0 hid
      rw [hyy] at c1 hid hpv
      rw [hzz] at c2 hid hpv hsw1
      rw [hid] at hsn
      obtain ⟨f0, hf0⟩ : ∃ f0, wtA T.rs (T.ps.take j) = f0 := ⟨_, rfl⟩
      rw [hf0] at HA hsn hfb
      have hfb2 : ∀ r, 0 ≤ f0 r ∧ f0 r ≤ 24 := fun r => by have := hfb r; omega
      have hz : 1 ≤ z ∧ z ≤ 24 := by omega
      have hy1 : y < T.rs.length := hpv.2.1.2
      have hy0 : -1 ≤ y := by have := hpv.2.1.1; omega
      have hup : (fun r : Nat => f0 r + z * (List.count (r : Int) (upL T.rs y) : Nat)) = wtA T.rs (T.ps.take (j + 1)) := by
        rw [hsn]
        funext r
        rw [cnt_up hok.rv hy1 r]
        unfold wtS
        simp only
        split <;> omega
      have HUP := Lib.hid hup
      have HFB := Lib.hid hfb2
      have hlen : (upL T.rs y).length ≤ 24 := by
        have := upL_len hok.rv T.rs.length y (by omega) hy1; omega
      have HLEN := Lib.hid hlen
      clear hxx hyy hzz hid hpv hsn hfb hup hfb2 hf0 hs0 hsw1 hall hlen
      have d0 : W.cell? ⟨w.heap.size, 0, none⟩ = some (.slice aa T.rs.length ca) := HA.out.bx.cell 0
      have d1 : W.cell? ⟨w.heap.size, 1, none⟩ = some (.slice (some ⟨bb, oo, none⟩) T.ps.length cb) := HA.out.bx.cell 1
      have e0 : (W.alloc (.cells #[.int .i64 x, .int .i64 y, .int .i64 z] 45)).cell? ⟨w.heap.size, 0, none⟩ = _ := Ext.cell (by repeat (first | exact Ext.refl _ | assumption | refine Ext.alloc ?_ _ | refine Ext.drew ?_ | refine Ext.drewN _ ?_ | refine Ext.trans ?_ (by assumption))) d0
      have e1 : (W.alloc (.cells #[.int .i64 x, .int .i64 y, .int .i64 z] 45)).cell? ⟨w.heap.size, 1, none⟩ = _ := Ext.cell (by repeat (first | exact Ext.refl _ | assumption | refine Ext.alloc ?_ _ | refine Ext.drew ?_ | refine Ext.drewN _ ?_ | refine Ext.trans ?_ (by assumption))) d1
      gi_wp2_with fail
      clear e0 e1 d0 d1
      refine ⟨trivial, (callsIn_wide.2 (up_any _ _ y _)).mono ?_⟩
      rintro e w3 ⟨rfl, hw3⟩
      obtain ⟨PB, hPB⟩ : ∃ PB, W.heap.size = PB := ⟨_, rfl⟩
      obtain ⟨Y, hY⟩ : ∃ Y, W.alloc (.cells #[.int .i64 x, .int .i64 y, .int .i64 z] 45) = Y := ⟨_, rfl⟩
      have hxY : Ext W Y := by rw [← hY]; exact (by repeat (first | exact Ext.refl _ | assumption | refine Ext.alloc ?_ _ | refine Ext.drew ?_ | refine Ext.drewN _ ?_ | refine Ext.trans ?_ (by assumption)))
      have hbY : Cls PB 45 #[.int .i64 x, .int .i64 y, .int .i64 z] Y := by rw [← hY]; exact Cls.newAt _ _ _ hPB.symm
      have hsY : Y.heap.size = PB + 1 := by rw [← hY, World.size_alloc, hPB]
      rw [hY] at hw3
      obtain ⟨p0, p1, hx3, hs3⟩ := up_boxes hw3
      rw [hsY] at p0 p1 hs3
      have hA3 := (HA.out.ext hxY).ext hx3
      have hb3 := hbY.ext hx3
      have hz2 := HA.out.ex.size
      have hm2 := HA.out.bo.lt
      rw [hPB] at hm2
      try rw [hPB]
      clear hw3 hY hxY hx3
      gi_wp2_with fail
      have hseq := up_seq (PB + 1) (PB + 1 + 1) T hok.rv _ _ y hy0 hy1 w w3 hA3.ex _ _ (by omega) (by omega) p0 p1 hT.r
      have hbs : ∀ b ∈ [PB + 1, PB + 1 + 1], b < w3.heap.size := by simp; omega
      have hIb : AbidesBox (PB + 1 + 1) (fun (pre : List (RIx T.rs.length)) W => (Cls w.heap.size 25 #[.slice aa T.rs.length ca, .slice (some ⟨bb, oo, none⟩) T.ps.length cb] W ∧ Cls (w.heap.size + 1) 107 (arr (fun _ => 0)) W) ∧ (Cls (w.heap.size + 1 + 1) 107 (arr (fun r => f0 r + z * (List.count (r : Int) (vals pre) : Nat))) W ∧ Cls PB 45 #[.int .i64 x, .int .i64 y, .int .i64 z] W) ∧ MarksAt w.heap.size Ds W ∧ Below w.heap.size w W ∧ w3.heap.size ≤ W.heap.size) :=
        ((abidesBox_cls _ (fun _ => #[.slice aa T.rs.length ca, .slice (some ⟨bb, oo, none⟩) T.ps.length cb]) (by omega)).and (abidesBox_cls _ (fun _ => arr (fun _ => 0)) (by omega))).and (((abidesBox_cls _ (fun pre => arr (fun r => f0 r + z * (List.count (r : Int) (vals pre) : Nat))) (by omega)).and (abidesBox_cls _ (fun _ => #[.int .i64 x, .int .i64 y, .int .i64 z]) (by omega))).and (marks_abide.and ((abidesBox_below (by omega) (Nat.le_refl _)).and (abidesBox_size _))))
      have hI : OwnFrom w3.heap.size (fun (pre : List (RIx T.rs.length)) W => (Cls w.heap.size 25 #[.slice aa T.rs.length ca, .slice (some ⟨bb, oo, none⟩) T.ps.length cb] W ∧ Cls (w.heap.size + 1) 107 (arr (fun _ => 0)) W) ∧ (Cls (w.heap.size + 1 + 1) 107 (arr (fun r => f0 r + z * (List.count (r : Int) (vals pre) : Nat))) W ∧ Cls PB 45 #[.int .i64 x, .int .i64 y, .int .i64 z] W) ∧ MarksAt w.heap.size Ds W ∧ Below w.heap.size w W ∧ w3.heap.size ≤ W.heap.size) :=
        OwnFrom.and (OwnFrom.and ((Cls.own _ _ (fun _ => #[.slice aa T.rs.length ca, .slice (some ⟨bb, oo, none⟩) T.ps.length cb])).from _) ((Cls.own _ _ (fun _ => arr (fun _ => 0))).from _)) (OwnFrom.and (OwnFrom.and ((Cls.own _ _ (fun pre => arr (fun r => f0 r + z * (List.count (r : Int) (vals pre) : Nat)))).from _) ((Cls.own _ _ (fun _ => #[.int .i64 x, .int .i64 y, .int .i64 z])).from _)) (OwnFrom.and (marks_own (fun D hD => hA3.mr.lt D hD)) (OwnFrom.and (ownFrom_below (Nat.le_refl _) hA3.ex.size) (ownFrom_size _ _))))
      have hIx : ∀ c : Code, OwnFrom w3.heap.size (fun (_ : List (RIx T.rs.length)) (_ : World) => False) := fun c => fun _ _ _ _ hs _ _ => hs
      have h00 : (fun (pre : List (RIx T.rs.length)) W => (Cls w.heap.size 25 #[.slice aa T.rs.length ca, .slice (some ⟨bb, oo, none⟩) T.ps.length cb] W ∧ Cls (w.heap.size + 1) 107 (arr (fun _ => 0)) W) ∧ (Cls (w.heap.size + 1 + 1) 107 (arr (fun r => f0 r + z * (List.count (r : Int) (vals pre) : Nat))) W ∧ Cls PB 45 #[.int .i64 x, .int .i64 y, .int .i64 z] W) ∧ MarksAt w.heap.size Ds W ∧ Below w.heap.size w W ∧ w3.heap.size ≤ W.heap.size) [] w3 := by
        refine ⟨⟨hA3.bx, hA3.br⟩, ⟨?_, hb3⟩, hA3.mr, hA3.ex, Nat.le_refl _⟩
        have h := hA3.bo
        simpa [vals] using h
      have hw3 : w.heap.size ≤ w3.heap.size := by omega
      refine range_own (gf := 117) (lb := #[.pointer (some ⟨PB + 1 + 1, 0, none⟩), .pointer (some ⟨PB + 1, 0, none⟩)]) ?hg ?eg (n₀ := w.heap.size) (bs := [PB + 1, PB + 1 + 1]) (Br := PB + 1 + 1) hw3 hbs (by omega)
        hseq ?hps _ _ hI hIx hIb h00 ?round ?done ?stop
      case hg => rfl
      case eg => exact enters_of Try.func117 (by kernel_rfl) rfl
      case hps => exact fun _ => rfl
      case round =>
        apply Exists.intro
        constructor
        · intro l x W K hK
          dsimp only [encR]
          gi_wp2
          exact hK
        · rintro l pre xr W ⟨⟨i0, i1⟩, ⟨i2, i3⟩, i4, i5, i6⟩ hpl0
          have hpl := hpl0.length_le
          rw [List.length_append, List.length_singleton] at hpl
          obtain ⟨xv, hxv0, hxv1⟩ := xr
          obtain ⟨i, rfl⟩ : ∃ i : Nat, xv = i := ⟨xv.toNat, by omega⟩
          have hi24 : (i : Int) < 24 := by omega
          have hin : i < 24 := by omega
          have hcl : List.count (i : Int) (vals pre) ≤ 24 := by
            have h1 := List.count_le_length (a := (i : Int)) (l := vals pre)
            have h2 := HLEN.out
            rw [vals_len] at h1
            rw [← upS_vals hok.rv hy1, vals_len] at h2
            omega
          have hfi := HFB.out i
          have g1 := arr_cell i2 hin
          have g2 : W.cell? ⟨PB, 2, none⟩ = some (.int .i64 z) := i3.cell 2
          have g3 := i2.frozen i
          obtain ⟨cc, hcc⟩ : ∃ cc : Int, ((List.count (i : Int) (vals pre) : Nat) : Int) = cc := ⟨_, rfl⟩
          have hzc : 0 ≤ z * cc ∧ z * cc ≤ 24 * 24 := ⟨Int.mul_nonneg (by omega) (by omega), Int.mul_le_mul (by omega) (by omega) (by omega) (by omega)⟩
          simp only [hcc] at g1
          obtain ⟨zc, hzcc⟩ : ∃ zc, f0 i + z * cc = zc := ⟨_, rfl⟩
          have hzb : 0 ≤ zc ∧ zc ≤ 600 := by omega
          rw [hzcc] at g1
          have HCC := Lib.hid hcc
          have HZC := Lib.hid hzcc
          clear hcc hzcc hzc hfi
          have hmx : (Try.prog).follows .mixedOrders = true := by kernel_rfl
          have dr : Ext (W.setCell ⟨w.heap.size + 1 + 1, i, none⟩ (.int .i64 (zc + z))) (W.setCell ⟨w.heap.size + 1 + 1, i, none⟩ (.int .i64 (zc + z))).drew := Ext.drew (Ext.refl _)
          have h5 := i2.setArr i (zc + z)
          have he : (fun r => if r = i then zc + z else f0 r + z * (List.count (r : Int) (vals pre) : Nat)) = (fun r : Nat => f0 r + z * (List.count (r : Int) (vals (pre ++ [⟨(i : Int), hxv0, hxv1⟩])) : Nat)) := by
            funext r
            rw [vals_snoc, List.count_append]
            by_cases hr : r = i
            · subst hr
              rw [if_pos rfl, ← HZC.out, ← HCC.out]
              simp only [List.count_singleton_self]
              push_cast
              rw [Int.mul_add]; omega
            · rw [if_neg hr]
              have : List.count (r : Int) [(i : Int)] = 0 := List.count_eq_zero_of_not_mem (by simp; omega)
              simp only
              rw [this, Nat.add_zero]
          rw [he] at h5
          have HH := Lib.hid (And.intro h5 (And.intro (i0.other (B' := w.heap.size + 1 + 1) (by omega) i (.int .i64 (zc + z))) (And.intro (i1.other (B' := w.heap.size + 1 + 1) (by omega) i (.int .i64 (zc + z))) (i3.other (B' := w.heap.size + 1 + 1) (by omega) i (.int .i64 (zc + z))))))
          have HB5 := Lib.hid (i5.setCell (p := ⟨w.heap.size + 1 + 1, i, none⟩) (by simp; omega) (.int .i64 (zc + z)))
          have HK5 := Lib.hid (KpB.set (n₀ := w.heap.size) (bs := [PB + 1, PB + 1 + 1]) W (p := ⟨w.heap.size + 1 + 1, i, none⟩) (by simp; omega) (by simp; omega) (.int .i64 (zc + z)))
          clear h5 he
          gi_wp2
          gi_region_o
          all_goals gi_wp2
          all_goals (try go_bits)
          all_goals exact ⟨((KeepsOthers.setCell _ _ _).trans (KeepsOthers.drew _)).from _, KpB.trans HK5.out ⟨(Below.refl _ _).drew, fun _ _ => rfl⟩, ⟨HH.out.2.1.ext dr, HH.out.2.2.1.ext dr⟩, ⟨HH.out.1.ext dr, HH.out.2.2.2.ext dr⟩, (i4.kept (KeepsOthers.setCell _ _ _)).ext dr, HB5.out.drew, by simpa [World.setCell] using i6⟩
      case done =>
        rintro D xs W5 hD rfl ⟨⟨i0, i1⟩, ⟨i2, i3⟩, i4, i5, i6⟩ hK
        rw [upS_vals, HUP.out] at i2
        gi_wp2
        exact ⟨T.ps.length - (j + 1), by omega, j + 1, D :: Ds, ⟨by omega, rfl⟩, by omega, rfl, Lib.hid ⟨i0, i1, i2, MarksAt.cons hA3.mr i4 (by omega) (by omega) hK, i5⟩⟩
      case stop =>
        rintro D c pre W5 _ _ h _
        exact h.elim
    · obtain rfl : j = T.ps.length := by omega
      have hA := HA.out
      rw [List.take_length, HAE.out] at hA
      have hbo := hA.bo
      have hbr := hA.br
      gi_wp2_with (first | (refine wpListIn_load_row rfl _ _ rfl _ rfl _ _ _ hbo Try.underlying107 rfl (by rw [arr_size]; kernel_rfl) ?_) | (refine wpListIn_store_row rfl _ _ _ rfl _ (arr AE) rfl rfl _ _ hbr (by rw [arr_size]; kernel_rfl) (by rw [arr_size, arr_size]) (arr_one _) ?_; intro w5 hC5 hg5))
      show LeavesInM Fence.wide 5 Try.prog Try.f61 _ _ (marksOf Ds) .returning w5
      refine leaves_marks (n₀ := w.heap.size) (X := fun W => Cls (w.heap.size + 1) 107 (arr AE) W ∧ Below w.heap.size w W) (ownFrom_swept (I := fun (_ : Unit) W => Cls (w.heap.size + 1) 107 (arr AE) W ∧ Below w.heap.size w W) (OwnFrom.and ((Cls.own _ _ (fun _ => arr AE)).from _) (ownFrom_below (Nat.le_refl _) (Nat.le_refl _))) ()) (fun W hW => ?_) Ds w5 (hA.mr.grown hg5 (fun D hD e => by
        have h1 := (hA.mr.at_ D hD).2
        rw [Option.some.inj e] at h1
        have h2 := hbr
        unfold Cls at h2
        rw [h1] at h2; cases h2)) ⟨hC5, hA.ex.grown hg5 (by omega)⟩
      exact ⟨_, results_cell_row rfl _ _ (w.heap.size + 1) _ _ _ _ rfl hW.1 Try.underlying107 rfl (by rw [arr_size]; kernel_rfl), rfl, hW.2⟩
end Go.Proofs.Ythopgonbndoidaa
