/- weights of the program: for each reach, the weights of all who use it. ratio, add, piece of the program. piece, add of the program. Plain words for shares: a payer's pieces, as parts of the whole. No program in sight. -/
import Derived.Test.YthopgonbndoidaaVSeq
import Derived.Test.YthopgonbndoidaaVChk
import Derived.Laws.Tables
import Derived.Test.YthopgonbndoidaaVP
import Derived.BigQuiet
import Derived.Deep.DeepCutAuto
import Derived.Deep.RegionHeld3
import Derived.StillTailTactics
namespace Go.Proofs.Ythopgonbndoidaa
open Go.RowKit Go.Shelf

attribute [local go_sem] Oper.semAt_some

/-- an array of 24 numbers -/
def arr (f : Nat → Int) : Array Value := ((List.range 24).map (fun r => Value.int .i64 (f r))).toArray
theorem arr_get (f : Nat → Int) {i : Nat} (h : i < 24) : (arr f)[i]? = some (.int .i64 (f i)) := by
  simp [arr, h]
theorem arr_size (f : Nat → Int) : (arr f).size = 24 := by simp [arr]
theorem arr_zero : arr (fun _ => 0) = #[.int .i64 0, .int .i64 0, .int .i64 0, .int .i64 0, .int .i64 0, .int .i64 0, .int .i64 0, .int .i64 0, .int .i64 0, .int .i64 0, .int .i64 0, .int .i64 0, .int .i64 0, .int .i64 0, .int .i64 0, .int .i64 0, .int .i64 0, .int .i64 0, .int .i64 0, .int .i64 0, .int .i64 0, .int .i64 0, .int .i64 0, .int .i64 0] := rfl
theorem arr_set (f : Nat → Int) (i : Nat) (v : Int) : (arr f).setIfInBounds i (.int .i64 v) = arr (fun r => if r = i then v else f r) := by
  refine Array.ext (by simp [arr]) (fun k h1 h2 => ?_)
  have hk : k < 24 := by simpa [arr] using h2
  rw [Array.getElem_setIfInBounds (by rw [arr_size]; exact hk)]
  by_cases e : i = k
  · subst e; simp [arr]
  · have e' : ¬ k = i := fun h => e h.symm
    simp [arr, e, e']
theorem arr_cell {B : Nat} {t : TypeId} {f : Nat → Int} {W : World} (h : Cls B t (arr f) W) {i : Nat} (hi : i < 24) : W.cell? ⟨B, i, none⟩ = some (.int .i64 (f i)) := by
  rw [h.cell i, arr_get f hi]
theorem Cls.setArr {B : Nat} {t : TypeId} {f : Nat → Int} {W : World} (h : Cls B t (arr f) W) (i : Nat) (v : Int) : Cls B t (arr (fun r => if r = i then v else f r)) (W.setCell ⟨B, i, none⟩ (.int .i64 v)) := by
  rw [← arr_set]; exact h.set i _
section
variable {P : Program} {ops : Array Oper} {rest : List Oper} {o : Oper} {a : Act} {w : World} {Q : Exit → Act → World → Prop} {F : Fence} {nF : Nat}
theorem wpListIn_load_row (hgd : o.guard = none) (ty : TypeId) (x : Operand) (ho : o.op = .load ty x)
    (g : Nat) (hx : a.eval x = .pointer (some ⟨g, 0, none⟩)) (t : TypeId) (cs : Array Value) (d : TypeDesc) (hg : Cls g t cs w)
    (hu : P.underlying ty = some d) (hd : (match d with | .struct _ | .array _ _ => true | _ => false) = true) (hi : (P.info? ty).map (·.size) = some cs.size)
    (h : wpListIn F nF P ops Q rest (a.put o.dst (.agg cs)) w) : wpListIn F nF P ops Q (o :: rest) a w := by
  refine wpListIn_plain hgd fun K' hK' => ?_
  unfold Oper.wpIn
  refine ⟨by simp [Oper.about, ho], ?_⟩
  rw [Oper.semAt_plain F _ _ (by rw [ho]; intro c hc'; cases hc')]
  unfold execOp
  simp only [ho, hx, Instr.loadAt, Instr.sureAddr, Sem.run_bind, Sem.run_pure, Result.andThen_ok, run_loadVar_row w g t ty cs (0, 0) d hg hu hd hi]
  exact hK' _ _ h
theorem wpListIn_store_row (hgd : o.guard = none) (ty : TypeId) (x y : Operand) (ho : o.op = .store ty x y)
    (g : Nat) (cells : Array Value) (hx : a.eval x = .pointer (some ⟨g, 0, none⟩)) (hy : a.eval y = .agg cells)
    (t : TypeId) (old : Array Value) (hg : Cls g t old w) (hi : (P.info? ty).map (·.size) = some cells.size)
    (hold : old.size = cells.size) (h1 : cells.all (·.oneCell') = true)
    (h : ∀ w', Cls g t cells w' → w.grownBy w' (some g) → wpListIn F nF P ops Q rest (a.put o.dst undef) w') : wpListIn F nF P ops Q (o :: rest) a w := by
  refine wpListIn_plain hgd fun K' hK' => ?_
  unfold Oper.wpIn
  refine ⟨by simp [Oper.about, ho], ?_⟩
  rw [Oper.semAt_plain F _ _ (by rw [ho]; intro c hc'; cases hc')]
  unfold execOp
  simp only [ho, hx, hy, Instr.storeAt, Instr.sureAddr, Sem.run_bind, Sem.run_pure, Result.andThen_ok, run_storeVar_row w g t ty old cells hg hi hold h1]
  refine hK' _ _ (h _ ?_ ?_)
  · have := hg
    unfold Cls at this ⊢
    simp [World.setRow, Array.getElem?_modify, this]
  · refine ⟨rfl, rfl, rfl, by simp [World.setRow], fun i hi' hne => ?_⟩
    simp only [World.setRow]
    rw [Array.getElem?_modify, if_neg (fun e => hne (by rw [e]))]
end
theorem arr_one (f : Nat → Int) : (arr f).all (·.oneCell') = true := by
  rw [Array.all_eq_true_iff_forall_mem]
  intro x hx
  simp only [arr, List.mem_toArray, List.mem_map] at hx
  obtain ⟨r, _, rfl⟩ := hx
  rfl
/-- with one payer more -/
def wtS (rs : List Rc) (f : Nat → Int) (p : Py) : Nat → Int := fun r => if usB rs p.reach r = true then f r + p.w else f r
def wtA (rs : List Rc) (l : List Py) : Nat → Int := l.foldl (wtS rs) (fun _ => 0)
theorem wtA_snoc (rs : List Rc) (l : List Py) (p : Py) : wtA rs (l ++ [p]) = wtS rs (wtA rs l) p := by simp [wtA]
theorem wtA_bd (rs : List Rc) (l : List Py) (h : ∀ p ∈ l, 1 ≤ p.w) (r : Nat) : 0 ≤ wtA rs l r ∧ wtA rs l r ≤ sumW l := by
  induction l using snoc_ind with
  | h0 => simp [wtA, sumW]
  | h1 l p ih =>
    have i := ih (fun q hq => h q (by simp [hq]))
    have j := h p (by simp)
    rw [wtA_snoc, sumW_snoc]
    unfold wtS
    split <;> omega
theorem sumW_mono (l r : List Py) (h : ∀ p ∈ l ++ r, 1 ≤ p.w) : sumW l ≤ sumW (l ++ r) := by
  induction r using snoc_ind with
  | h0 => simp
  | h1 r p ih =>
    have i := ih (fun q hq => h q (by rw [← List.append_assoc]; exact List.mem_append.2 (.inl hq)))
    have j := h p (by simp)
    rw [← List.append_assoc, sumW_snoc]; omega
theorem cnt_up {rs : List Rc} (hV : RsV rs) {fr : Int} (h : fr < rs.length) (r : Nat) : ((List.count (r : Int) (upL rs fr) : Nat) : Int) = if usB rs fr r = true then 1 else 0 := by
  have hn : (upL rs fr).Nodup := (upL_nodup hV (fr.toNat + 1) fr (by omega) h).imp (fun h => by omega)
  by_cases hu : usB rs fr r = true
  · rw [if_pos hu, List.Nodup.count hn, if_pos (usB_t.1 hu)]; rfl
  · rw [if_neg hu, List.count_eq_zero_of_not_mem (fun hm => hu (usB_t.2 hm))]; rfl
/-- the state of the loop over the payers -/
structure WL (w W : World) (a b : Value) (Ds : List Nat) (f : Nat → Int) : Prop where
  bx : Cls w.heap.size 25 #[a, b] W
  br : Cls (w.heap.size + 1) 107 (arr (fun _ => 0)) W
  bo : Cls (w.heap.size + 1 + 1) 107 (arr f) W
  mr : MarksAt w.heap.size Ds W
  ex : Ext w W
theorem WL.ext {w W W' : World} {a b : Value} {Ds : List Nat} {f : Nat → Int} (h : WL w W a b Ds f) (x : Ext W W') : WL w W' a b Ds f :=
  ⟨h.bx.ext x, h.br.ext x, h.bo.ext x, h.mr.ext x, h.ex.trans x⟩

set_option maxRecDepth 100000 in
set_option maxHeartbeats 4000000 in
theorem weights_any (a b : Value) (T : Tr) (hok : Ok T) (w : World) (hT : TrAt w a b T) :
    Calls Try.prog 61 #[.agg #[a, b]] w fun e w' => e = .returned (.agg (arr (wtA T.rs T.ps))) ∧ Ext w w' := by
  obtain ⟨AE, hAE⟩ : ∃ AE, wtA T.rs T.ps = AE := ⟨_, rfl⟩
  have HAE := Lib.hid hAE
  rw [hAE]
  clear hAE
  obtain ⟨aa, ca, rfl, hla⟩ := hT.r.len
  obtain ⟨ab, cb, rfl, hlb⟩ := hT.p.len
  refine (callsIn_wide (n := 5)).1 ?_
  refine callsIn_of_wp_marks Try.func61 rfl trivial ?_ rfl; simp only [Try.ntmps61, List.size_toArray, List.length_cons, List.length_nil, Nat.reduceAdd, Nat.reduceSub, Array.replicate_succ, Array.replicate_zero, List.push_toArray, List.append_toArray, List.nil_append, List.cons_append]
  gi_wp2_with fail
  obtain ⟨W1, hW1⟩ : ∃ W1, ((w.alloc (.cells #[.slice aa T.rs.length ca, .slice ab T.ps.length cb] 25)).alloc (.cells (arr (fun _ => 0)) 107)).alloc (.cells (arr (fun _ => 0)) 107) = W1 := ⟨_, rfl⟩
  obtain ⟨q0, q1, q2, hx1, _⟩ := alloc3 (w := w) (Ext.refl (((w.alloc (.cells #[.slice aa T.rs.length ca, .slice ab T.ps.length cb] 25)).alloc (.cells (arr (fun _ => 0)) 107)).alloc (.cells (arr (fun _ => 0)) 107)))
  rw [hW1] at q0 q1 q2 hx1
  rw [arr_zero] at hW1
  try rw [hW1]
  clear hW1
  refine wpIn_loopg (fun g a W => ∃ (j : Nat) (Ds : List Nat) (u5 u6 u11 u12 u13 u14 u15 u16 u17 u18 u19 u20 u21 u22 u23 u24 u25 u26 : Value), a = { tmps := #[.agg #[.slice aa T.rs.length ca, .slice ab T.ps.length cb], .pointer (some ⟨w.heap.size, 0, none⟩), .pointer (some ⟨w.heap.size + 1, 0, none⟩), .pointer (some ⟨w.heap.size + 1 + 1, 0, none⟩), undef, u5, u6, .pointer (some ⟨w.heap.size, 1, none⟩), .slice ab T.ps.length cb, .int .i64 T.ps.length, .int .i64 j, u11, u12, u13, u14, u15, u16, u17, u18, u19, u20, u21, u22, u23, u24, u25, u26, undef], defers := marksOf Ds } ∧ j ≤ T.ps.length ∧ g = T.ps.length - j ∧ Hid (WL w W (.slice aa T.rs.length ca) (.slice ab T.ps.length cb) Ds (wtA T.rs (T.ps.take j)))) T.ps.length ?_ ?_
  · exact ⟨0, [], undef, undef, undef, undef, undef, undef, undef, undef, undef, undef, undef, undef, undef, undef, undef, undef, undef, undef, rfl, Nat.zero_le _, rfl, Lib.hid ⟨q0, q1, q2, marks_nil _ _, hx1⟩⟩
  · rintro g a W ⟨j, Ds, u5, u6, u11, u12, u13, u14, u15, u16, u17, u18, u19, u20, u21, u22, u23, u24, u25, u26, rfl, hj, rfl, HA⟩
    by_cases hlt : j < T.ps.length
    · obtain ⟨bb, oo, rfl, c0, c1, c2⟩ := (hT.p.ext HA.out.ex).get j hlt
      have hlp := hok.lp
      have hlr := hok.lr
      have hpv := hok.pv _ (List.getElem_mem hlt)
      have hall : ∀ p ∈ T.ps, 1 ≤ p.w := fun p hp => (hok.pv p hp).2.2
      have hsn := wtA_snoc T.rs (T.ps.take j) T.ps[j]
      rw [← take_succ_get T.ps j hlt] at hsn
      have hfb := fun r => wtA_bd T.rs (T.ps.take j) (fun p hp => hall p (List.mem_of_mem_take hp)) r
      have hsw1 : sumW (T.ps.take (j + 1)) ≤ sumW T.ps := by
        have h := sumW_mono (T.ps.take (j + 1)) (T.ps.drop (j + 1)) (by rw [List.take_append_drop]; exact hall)
        rwa [List.take_append_drop] at h
      rw [sumW_take hlt] at hsw1
      have hsw := hok.sw
      have hs0 := (sumW_nonneg (l := T.ps.take j) (fun p hp => hall p (List.mem_of_mem_take hp))).1
      have hid : T.ps[j] = ⟨T.ps[j].id, T.ps[j].reach, T.ps[j].w⟩ := rfl
      obtain ⟨x, hxx⟩ : ∃ x, T.ps[j].id = x := ⟨_, rfl⟩
      obtain ⟨y, hyy⟩ : ∃ y, T.ps[j].reach = y := ⟨_, rfl⟩
      obtain ⟨z, hzz⟩ : ∃ z, T.ps[j].w = z := ⟨_, rfl⟩
      rw [hxx] at c0 hid
      rw [hyy] at c1 hid hpv
      rw [hzz] at c2 hid hpv hsw1
      rw [hid] at hsn
      obtain ⟨f0, hf0⟩ : ∃ f0, wtA T.rs (T.ps.take j) = f0 := ⟨_, rfl⟩
      rw [hf0] at HA hsn hfb
      have hfb2 : ∀ r, 0 ≤ f0 r ∧ f0 r ≤ 24 := fun r => by have := hfb r; omega
      have hz : 1 ≤ z ∧ z ≤ 24 := by omega
      have hy1 : y < T.rs.length := hpv.2.1.2
      have hy0 : -1 ≤ y := by have := hpv.2.1.1; omega
      have hup : (fun r : Nat => f0 r + z * (List.count (r : Int) (upL T.rs y) : Nat)) = wtA T.rs (T.ps.take (j + 1)) := by
        rw [hsn]
        funext r
        rw [cnt_up hok.rv hy1 r]
        unfold wtS
        simp only
        split <;> omega
      have HUP := Lib.hid hup
      have HFB := Lib.hid hfb2
      have hlen : (upL T.rs y).length ≤ 24 := by
        have := upL_len hok.rv T.rs.length y (by omega) hy1; omega
      have HLEN := Lib.hid hlen
      clear hxx hyy hzz hid hpv hsn hfb hup hfb2 hf0 hs0 hsw1 hall hlen
      have d0 : W.cell? ⟨w.heap.size, 0, none⟩ = some (.slice aa T.rs.length ca) := HA.out.bx.cell 0
      have d1 : W.cell? ⟨w.heap.size, 1, none⟩ = some (.slice (some ⟨bb, oo, none⟩) T.ps.length cb) := HA.out.bx.cell 1
      have e0 : (W.alloc (.cells #[.int .i64 x, .int .i64 y, .int .i64 z] 45)).cell? ⟨w.heap.size, 0, none⟩ = _ := Ext.cell (by repeat (first | exact Ext.refl _ | assumption | refine Ext.alloc ?_ _ | refine Ext.drew ?_ | refine Ext.drewN _ ?_ | refine Ext.trans ?_ (by assumption))) d0
      have e1 : (W.alloc (.cells #[.int .i64 x, .int .i64 y, .int .i64 z] 45)).cell? ⟨w.heap.size, 1, none⟩ = _ := Ext.cell (by repeat (first | exact Ext.refl _ | assumption | refine Ext.alloc ?_ _ | refine Ext.drew ?_ | refine Ext.drewN _ ?_ | refine Ext.trans ?_ (by assumption))) d1
      gi_wp2_with fail
      clear e0 e1 d0 d1
      refine ⟨trivial, (callsIn_wide.2 (up_any _ _ y _)).mono ?_⟩
      rintro e w3 ⟨rfl, hw3⟩
      obtain ⟨PB, hPB⟩ : ∃ PB, W.heap.size = PB := ⟨_, rfl⟩
      obtain ⟨Y, hY⟩ : ∃ Y, W.alloc (.cells #[.int .i64 x, .int .i64 y, .int .i64 z] 45) = Y := ⟨_, rfl⟩
      have hxY : Ext W Y := by rw [← hY]; exact (by repeat (first | exact Ext.refl _ | assumption | refine Ext.alloc ?_ _ | refine Ext.drew ?_ | refine Ext.drewN _ ?_ | refine Ext.trans ?_ (by assumption)))
      have hbY : Cls PB 45 #[.int .i64 x, .int .i64 y, .int .i64 z] Y := by rw [← hY]; exact Cls.newAt _ _ _ hPB.symm
      have hsY : Y.heap.size = PB + 1 := by rw [← hY, World.size_alloc, hPB]
      rw [hY] at hw3
      obtain ⟨p0, p1, hx3, hs3⟩ := up_boxes hw3
      rw [hsY] at p0 p1 hs3
      have hA3 := (HA.out.ext hxY).ext hx3
      have hb3 := hbY.ext hx3
      have hz2 := HA.out.ex.size
      have hm2 := HA.out.bo.lt
      rw [hPB] at hm2
      try rw [hPB]
      clear hw3 hY hxY hx3
      gi_wp2_with fail
      have hseq := up_seq (PB + 1) (PB + 1 + 1) T hok.rv _ _ y hy0 hy1 w w3 hA3.ex _ _ (by omega) (by omega) p0 p1 hT.r
      have hbs : ∀ b ∈ [PB + 1, PB + 1 + 1], b < w3.heap.size := by simp; omega
      have hIb : AbidesBox (PB + 1 + 1) (fun (pre : List (RIx T.rs.length)) W => (Cls w.heap.size 25 #[.slice aa T.rs.length ca, .slice (some ⟨bb, oo, none⟩) T.ps.length cb] W ∧ Cls (w.heap.size + 1) 107 (arr (fun _ => 0)) W) ∧ (Cls (w.heap.size + 1 + 1) 107 (arr (fun r => f0 r + z * (List.count (r : Int) (vals pre) : Nat))) W ∧ Cls PB 45 #[.int .i64 x, .int .i64 y, .int .i64 z] W) ∧ MarksAt w.heap.size Ds W ∧ Below w.heap.size w W ∧ w3.heap.size ≤ W.heap.size) :=
        ((abidesBox_cls _ (fun _ => #[.slice aa T.rs.length ca, .slice (some ⟨bb, oo, none⟩) T.ps.length cb]) (by omega)).and (abidesBox_cls _ (fun _ => arr (fun _ => 0)) (by omega))).and (((abidesBox_cls _ (fun pre => arr (fun r => f0 r + z * (List.count (r : Int) (vals pre) : Nat))) (by omega)).and (abidesBox_cls _ (fun _ => #[.int .i64 x, .int .i64 y, .int .i64 z]) (by omega))).and (marks_abide.and ((abidesBox_below (by omega) (Nat.le_refl _)).and (abidesBox_size _))))
      have hI : OwnFrom w3.heap.size (fun (pre : List (RIx T.rs.length)) W => (Cls w.heap.size 25 #[.slice aa T.rs.length ca, .slice (some ⟨bb, oo, none⟩) T.ps.length cb] W ∧ Cls (w.heap.size + 1) 107 (arr (fun _ => 0)) W) ∧ (Cls (w.heap.size + 1 + 1) 107 (arr (fun r => f0 r + z * (List.count (r : Int) (vals pre) : Nat))) W ∧ Cls PB 45 #[.int .i64 x, .int .i64 y, .int .i64 z] W) ∧ MarksAt w.heap.size Ds W ∧ Below w.heap.size w W ∧ w3.heap.size ≤ W.heap.size) :=
        OwnFrom.and (OwnFrom.and ((Cls.own _ _ (fun _ => #[.slice aa T.rs.length ca, .slice (some ⟨bb, oo, none⟩) T.ps.length cb])).from _) ((Cls.own _ _ (fun _ => arr (fun _ => 0))).from _)) (OwnFrom.and (OwnFrom.and ((Cls.own _ _ (fun pre => arr (fun r => f0 r + z * (List.count (r : Int) (vals pre) : Nat)))).from _) ((Cls.own _ _ (fun _ => #[.int .i64 x, .int .i64 y, .int .i64 z])).from _)) (OwnFrom.and (marks_own (fun D hD => hA3.mr.lt D hD)) (OwnFrom.and (ownFrom_below (Nat.le_refl _) hA3.ex.size) (ownFrom_size _ _))))
      have hIx : ∀ c : Code, OwnFrom w3.heap.size (fun (_ : List (RIx T.rs.length)) (_ : World) => False) := fun c => fun _ _ _ _ hs _ _ => hs
      have h00 : (fun (pre : List (RIx T.rs.length)) W => (Cls w.heap.size 25 #[.slice aa T.rs.length ca, .slice (some ⟨bb, oo, none⟩) T.ps.length cb] W ∧ Cls (w.heap.size + 1) 107 (arr (fun _ => 0)) W) ∧ (Cls (w.heap.size + 1 + 1) 107 (arr (fun r => f0 r + z * (List.count (r : Int) (vals pre) : Nat))) W ∧ Cls PB 45 #[.int .i64 x, .int .i64 y, .int .i64 z] W) ∧ MarksAt w.heap.size Ds W ∧ Below w.heap.size w W ∧ w3.heap.size ≤ W.heap.size) [] w3 := by
        refine ⟨⟨hA3.bx, hA3.br⟩, ⟨?_, hb3⟩, hA3.mr, hA3.ex, Nat.le_refl _⟩
        have h := hA3.bo
        simpa [vals] using h
      have hw3 : w.heap.size ≤ w3.heap.size := by omega
      refine range_own (gf := 117) (lb := #[.pointer (some ⟨PB + 1 + 1, 0, none⟩), .pointer (some ⟨PB + 1, 0, none⟩)]) ?hg ?eg (n₀ := w.heap.size) (bs := [PB + 1, PB + 1 + 1]) (Br := PB + 1 + 1) hw3 hbs (by omega)
        hseq ?hps _ _ hI hIx hIb h00 ?round ?done ?stop
      case hg => rfl
      case eg => exact enters_of Try.func117 (by kernel_rfl) rfl
      case hps => exact fun _ => rfl
      case round =>
        apply Exists.intro
        constructor
        · intro l x W K hK
          dsimp only [encR]
          gi_wp2
          exact hK
        · rintro l pre xr W ⟨⟨i0, i1⟩, ⟨i2, i3⟩, i4, i5, i6⟩ hpl0
          have hpl := hpl0.length_le
          rw [List.length_append, List.length_singleton] at hpl
          obtain ⟨xv, hxv0, hxv1⟩ := xr
          obtain ⟨i, rfl⟩ : ∃ i : Nat, xv = i := ⟨xv.toNat, by omega⟩
          have hi24 : (i : Int) < 24 := by omega
          have hin : i < 24 := by omega
          have hcl : List.count (i : Int) (vals pre) ≤ 24 := by
            have h1 := List.count_le_length (a := (i : Int)) (l := vals pre)
            have h2 := HLEN.out
            rw [vals_len] at h1
            rw [← upS_vals hok.rv hy1, vals_len] at h2
            omega
          have hfi := HFB.out i
          have g1 := arr_cell i2 hin
          have g2 : W.cell? ⟨PB, 2, none⟩ = some (.int .i64 z) := i3.cell 2
          have g3 := i2.frozen i
          obtain ⟨cc, hcc⟩ : ∃ cc : Int, ((List.count (i : Int) (vals pre) : Nat) : Int) = cc := ⟨_, rfl⟩
          have hzc : 0 ≤ z * cc ∧ z * cc ≤ 24 * 24 := ⟨Int.mul_nonneg (by omega) (by omega), Int.mul_le_mul (by omega) (by omega) (by omega) (by omega)⟩
          simp only [hcc] at g1
          obtain ⟨zc, hzcc⟩ : ∃ zc, f0 i + z * cc = zc := ⟨_, rfl⟩
          have hzb : 0 ≤ zc ∧ zc ≤ 600 := by omega
          rw [hzcc] at g1
          have HCC := Lib.hid hcc
          have HZC := Lib.hid hzcc
          clear hcc hzcc hzc hfi
          have hmx : (Try.prog).follows .mixedOrders = true := by kernel_rfl
          have dr : Ext (W.setCell ⟨w.heap.size + 1 + 1, i, none⟩ (.int .i64 (zc + z))) (W.setCell ⟨w.heap.size + 1 + 1, i, none⟩ (.int .i64 (zc + z))).drew := Ext.drew (Ext.refl _)
          have h5 := i2.setArr i (zc + z)
          have he : (fun r => if r = i then zc + z else f0 r + z * (List.count (r : Int) (vals pre) : Nat)) = (fun r : Nat => f0 r + z * (List.count (r : Int) (vals (pre ++ [⟨(i : Int), hxv0, hxv1⟩])) : Nat)) := by
            funext r
            rw [vals_snoc, List.count_append]
            by_cases hr : r = i
            · subst hr
              rw [if_pos rfl, ← HZC.out, ← HCC.out]
              simp only [List.count_singleton_self]
              push_cast
              rw [Int.mul_add]; omega
            · rw [if_neg hr]
              have : List.count (r : Int) [(i : Int)] = 0 := List.count_eq_zero_of_not_mem (by simp; omega)
              simp only
              rw [this, Nat.add_zero]
          rw [he] at h5
          have HH := Lib.hid (And.intro h5 (And.intro (i0.other (B' := w.heap.size + 1 + 1) (by omega) i (.int .i64 (zc + z))) (And.intro (i1.other (B' := w.heap.size + 1 + 1) (by omega) i (.int .i64 (zc + z))) (i3.other (B' := w.heap.size + 1 + 1) (by omega) i (.int .i64 (zc + z))))))
          have HB5 := Lib.hid (i5.setCell (p := ⟨w.heap.size + 1 + 1, i, none⟩) (by simp; omega) (.int .i64 (zc + z)))
          have HK5 := Lib.hid (KpB.set (n₀ := w.heap.size) (bs := [PB + 1, PB + 1 + 1]) W (p := ⟨w.heap.size + 1 + 1, i, none⟩) (by simp; omega) (by simp; omega) (.int .i64 (zc + z)))
          clear h5 he
          gi_wp2
          gi_region_o
          all_goals gi_wp2
          all_goals (try go_bits)
          all_goals exact ⟨((KeepsOthers.setCell _ _ _).trans (KeepsOthers.drew _)).from _, KpB.trans HK5.out ⟨(Below.refl _ _).drew, fun _ _ => rfl⟩, ⟨HH.out.2.1.ext dr, HH.out.2.2.1.ext dr⟩, ⟨HH.out.1.ext dr, HH.out.2.2.2.ext dr⟩, (i4.kept (KeepsOthers.setCell _ _ _)).ext dr, HB5.out.drew, by simpa [World.setCell] using i6⟩
      case done =>
        rintro D xs W5 hD rfl ⟨⟨i0, i1⟩, ⟨i2, i3⟩, i4, i5, i6⟩ hK
        rw [upS_vals, HUP.out] at i2
        gi_wp2
        exact ⟨T.ps.length - (j + 1), by omega, j + 1, D :: Ds, ⟨by omega, rfl⟩, by omega, rfl, Lib.hid ⟨i0, i1, i2, MarksAt.cons hA3.mr i4 (by omega) (by omega) hK, i5⟩⟩
      case stop =>
        rintro D c pre W5 _ _ h _
        exact h.elim
    · obtain rfl : j = T.ps.length := by omega
      have hA := HA.out
      rw [List.take_length, HAE.out] at hA
      have hbo := hA.bo
      have hbr := hA.br
      gi_wp2_with (first | (refine wpListIn_load_row rfl _ _ rfl _ rfl _ _ _ hbo Try.underlying107 rfl (by rw [arr_size]; kernel_rfl) ?_) | (refine wpListIn_store_row rfl _ _ _ rfl _ (arr AE) rfl rfl _ _ hbr (by rw [arr_size]; kernel_rfl) (by rw [arr_size, arr_size]) (arr_one _) ?_; intro w5 hC5 hg5))
      show LeavesInM Fence.wide 5 Try.prog Try.f61 _ _ (marksOf Ds) .returning w5
      refine leaves_marks (n₀ := w.heap.size) (X := fun W => Cls (w.heap.size + 1) 107 (arr AE) W ∧ Below w.heap.size w W) (ownFrom_swept (I := fun (_ : Unit) W => Cls (w.heap.size + 1) 107 (arr AE) W ∧ Below w.heap.size w W) (OwnFrom.and ((Cls.own _ _ (fun _ => arr AE)).from _) (ownFrom_below (Nat.le_refl _) (Nat.le_refl _))) ()) (fun W hW => ?_) Ds w5 (hA.mr.grown hg5 (fun D hD e => by
        have h1 := (hA.mr.at_ D hD).2
        rw [Option.some.inj e] at h1
        have h2 := hbr
        unfold Cls at h2
        rw [h1] at h2; cases h2)) ⟨hC5, hA.ex.grown hg5 (by omega)⟩
      exact ⟨_, results_cell_row rfl _ _ (w.heap.size + 1) _ _ _ _ rfl hW.1 Try.underlying107 rfl (by rw [arr_size]; kernel_rfl), rfl, hW.2⟩
end Go.Proofs.Ythopgonbndoidaa
namespace Go.Proofs.Ythopgonbndoidaa
open Go.RowKit Go.Shelf

theorem gcd_step (x y : Nat) : Nat.gcd y (x % y) = Nat.gcd x y := by
  rw [Nat.gcd_comm x y, Nat.gcd_rec y x, Nat.gcd_comm]
set_option maxRecDepth 100000 in
set_option maxHeartbeats 2000000 in
theorem ratio_any (n d : Int) (w : World) (h1 : -1000000000000000000 ≤ n) (h2 : n ≤ 1000000000000000000) (h3 : 0 < d) (h4 : d ≤ 1000000000000000000) :
    Calls Try.prog 104 #[.int .i64 n, .int .i64 d] w fun e w' => e = .returned (.agg #[.int .i64 (ratF n d).n, .int .i64 (ratF n d).d]) ∧ Ext w w' := by
  obtain ⟨g, a, b, g0, hn, hd, hb, hc, hr⟩ := ratF_parts (n := n) h3
  rw [hr]
  have hgd : (g.natAbs : Int) = g := by omega
  have hgg : Nat.gcd n.natAbs d.natAbs = g.natAbs := by
    have : Int.gcd n d = g.natAbs * Int.gcd a b := by rw [hn, hd, Int.gcd_mul_left]
    rw [hc, Nat.mul_one] at this
    exact this
  have hq1 : n.tdiv g = a := by rw [hn]; exact Int.mul_tdiv_cancel_left _ (by omega)
  have hq2 : d.tdiv g = b := by rw [hd]; exact Int.mul_tdiv_cancel_left _ (by omega)
  have hab : a.natAbs ≤ n.natAbs := by rw [hn, Int.natAbs_mul]; exact Nat.le_mul_of_pos_left _ (by omega)
  have hbb : b.natAbs ≤ d.natAbs := by rw [hd, Int.natAbs_mul]; exact Nat.le_mul_of_pos_left _ (by omega)
  have hwa : IntKind.i64.wrap a = a := IntWalk.i64_in _ (by omega)
  have hwb : IntKind.i64.wrap b = b := IntWalk.i64_in _ (by omega)
  obtain ⟨x, hx⟩ : ∃ x : Nat, n.natAbs = x := ⟨_, rfl⟩
  obtain ⟨y, hy⟩ : ∃ y : Nat, d.natAbs = y := ⟨_, rfl⟩
  have hyd : d = (y : Int) := by omega
  obtain ⟨gg, hgg2⟩ : ∃ gg : Nat, g.natAbs = gg := ⟨_, rfl⟩
  rw [hx, hy, hgg2] at hgg
  have hge : g = (gg : Int) := by omega
  have hxb : x ≤ 1000000000000000000 := by omega
  have hyb : y ≤ 1000000000000000000 := by omega
  subst hge
  have HG := Lib.hid hgg
  have HQ1 := Lib.hid hq1
  have HQ2 := Lib.hid hq2
  have HY := Lib.hid hyd
  have hw1 : IntKind.i64.wrap (-n) = -n := IntWalk.i64_in _ (by omega)
  have hmx : (if -n < n then n else -n) = (x : Int) := by split <;> omega
  have hmx2 : max n (-n) = (x : Int) := by omega
  have HX := Lib.hid hx
  clear hab hbb hn hd hr hgd hc hy hgg hgg2 hq1 hq2 hyd hx
  go_enter Try.func104, Try.ntmps104
  obtain ⟨W1, hW1⟩ : ∃ W1, w.alloc (.cells #[.int .i64 0, .int .i64 0] 42) = W1 := ⟨_, rfl⟩
  have q1 : Cls w.heap.size 42 #[.int .i64 0, .int .i64 0] W1 := by rw [← hW1]; exact Cls.new _ _ _
  have hx1 : Ext w W1 := by rw [← hW1]; exact (by repeat (first | exact Ext.refl _ | assumption | refine Ext.alloc ?_ _ | refine Ext.drew ?_ | refine Ext.drewN _ ?_ | refine Ext.trans ?_ (by assumption)))
  go_wp2_with fail
  all_goals
    (try rw [hW1])
    clear hW1
    go_loopw [5, 6] (fun u v wr => ∃ x y : Nat, u = .int .i64 x ∧ v = .int .i64 y ∧ Hid (Nat.gcd x y = gg) ∧ x ≤ 1000000000000000000 ∧ y ≤ 1000000000000000000 ∧ Ext w wr ∧ Cls w.heap.size 42 #[.int .i64 0, .int .i64 0] wr) (fun _ v _ => (intOf v).toNat)
    case atStart => exact ⟨x, y, vint (by have := HX.out; omega), vint HY.out, HG, hxb, hyb, hx1, q1⟩
    case round =>
      obtain ⟨x, y, rfl, rfl, HG, hx, hy, hxx, hB⟩ := hrel
      by_cases h0 : y = 0
      · subst h0
        have hg := HG.out
        rw [Nat.gcd_zero_right] at hg
        subst hg
        have hz : ¬ ((x : Int) = 0) := by omega
        have hz2 : ((x : Int) == 0) = false := by rw [beq_eq_false_iff_ne]; omega
        have f0 := hB.frozen 0
        have f1 := hB.frozen 1
        have e0 : wr.cell? ⟨w.heap.size, 0, none⟩ = some (.int .i64 0) := hB.cell 0
        have e1 : wr.cell? ⟨w.heap.size, 1, none⟩ = some (.int .i64 0) := hB.cell 1
        have hy0 : ((0 : Nat) : Int) = 0 := rfl
        have r1 := HQ1.out
        have r2 := HQ2.out
        rw [hy0]
        go_wp2_with fail
        go_region
        all_goals (try go_wp2)
        have hC : Cls w.heap.size 42 #[.int .i64 a, .int .i64 b] ((wr.setCell ⟨w.heap.size, 0, none⟩ (.int .i64 a)).setCell ⟨w.heap.size, 1, none⟩ (.int .i64 b)).drew := ((hB.set 0 (.int .i64 a)).set 1 (.int .i64 b)).ext (Ext.drew (Ext.refl _))
        exact bodyPost_ret (results_cell_row rfl _ _ w.heap.size _ _ _ _ rfl hC Try.underlying42 rfl (by kernel_rfl)) rfl ⟨rfl, ((hxx.setCell (p := ⟨w.heap.size, 0, none⟩) (Nat.le_refl _) _).setCell (p := ⟨w.heap.size, 1, none⟩) (Nat.le_refl _) _).drew⟩
      · have hy1 : (1 : Int) ≤ y := by omega
        have hyz : ((y : Int) == 0) = false := by rw [beq_eq_false_iff_ne]; omega
        have hyz2 : ((y : Int) != 0) = true := by rw [bne_iff_ne]; omega
        have hyz3 : ¬ ((y : Int) = 0) := by omega
        have hb1 := Int.emod_nonneg (x : Int) (show (y : Int) ≠ 0 by omega)
        have hb2 := Int.emod_lt_of_pos (x : Int) (show (0 : Int) < y by omega)
        go_wp2
        all_goals (try go_quiet (fail))
        all_goals (try go_wp2)
        all_goals
          go_roundw
          case rel => exact ⟨y, x % y, by first | rfl | simp, by first | rfl | simp, (by have h := HG.out; exact Lib.hid (by rw [← h]; exact gcd_step x y)), hy, by have := Nat.mod_lt x (show 0 < y by omega); omega, (by repeat (first | exact Ext.refl _ | assumption | refine Ext.alloc ?_ _ | refine Ext.drew ?_ | refine Ext.drewN _ ?_ | refine Ext.trans ?_ (by assumption))), hB.ext (by repeat (first | exact Ext.refl _ | assumption | refine Ext.alloc ?_ _ | refine Ext.drew ?_ | refine Ext.drewN _ ?_ | refine Ext.trans ?_ (by assumption)))⟩
          case measure => simp [intOf]; have := Nat.mod_lt x (show 0 < y by omega); omega

/-- all fractions are parts of which so many are 1 -/
def wholeM : Int := 5354228880
def ratM (x : Int) : Ra := ratF x 5354228880
theorem ratM_parts (x : Int) : ∃ g a b : Int, 0 < g ∧ x = g * a ∧ (5354228880 : Int) = g * b ∧ 0 < b ∧ Int.gcd a b = 1 ∧ ratM x = ⟨a, b⟩ := ratF_parts (by decide)
theorem ratM_of {n d k : Int} (hd : 0 < d) (hk : d * k = 5354228880) : ratF n d = ratM (n * k) := by
  refine ratF_eq hd (by decide) ?_
  rw [← hk]; ac_rfl
theorem abs_le_of_mul {g a b V : Int} (hg : 0 < g) (h1 : -(V * (g * b)) ≤ g * a) (h2 : g * a ≤ V * (g * b)) : -(V * b) ≤ a ∧ a ≤ V * b := by
  have e : V * (g * b) = g * (V * b) := by ac_rfl
  rw [e] at h1 h2
  rw [← Int.mul_neg] at h1
  exact ⟨Int.le_of_mul_le_mul_left h1 hg, Int.le_of_mul_le_mul_left h2 hg⟩
/-- what stands in the sum of two fractions -/
theorem add_facts {A B : Int} (hA : -8421473853112320 ≤ A ∧ A ≤ 8421473853112320) (hB : -8421473853112320 ≤ B ∧ B ≤ 8421473853112320) :
    ∃ a1 a2 b1 b2 p q : Int, ratM A = ⟨a1, a2⟩ ∧ ratM B = ⟨b1, b2⟩ ∧ ratF a2 b2 = ⟨p, q⟩ ∧ (0 < a2 ∧ a2 ≤ 5354228880) ∧ (0 < b2 ∧ b2 ≤ 5354228880) ∧ (0 < a2 * q ∧ a2 * q ≤ 5354228880) ∧ (a2 * q).tdiv b2 = p ∧
      (-8421473853112320 ≤ a1 * q ∧ a1 * q ≤ 8421473853112320) ∧ (-8421473853112320 ≤ b1 * p ∧ b1 * p ≤ 8421473853112320) ∧ ratF (a1 * q + b1 * p) (a2 * q) = ratM (A + B) := by
  obtain ⟨g, a1, a2, g0, e1, e2, e3, e4, e5⟩ := ratM_parts A
  obtain ⟨h, b1, b2, h0, f1, f2, f3, f4, f5⟩ := ratM_parts B
  obtain ⟨k, p, q, k0, c1, c2, c3, c4, c5⟩ := ratF_parts (n := a2) f3
  have hb2 : b2 ≠ 0 := by omega
  have hp0 : 0 < p := by
    by_cases hc : 0 < p
    · exact hc
    · have : k * p ≤ 0 := Int.mul_nonpos_of_nonneg_of_nonpos (by omega) (by omega)
      omega
  have hlcm : a2 * q = b2 * p := by rw [c1, c2]; ac_rfl
  -- the denominator divides the whole
  have hdv : a2 * q ∣ 5354228880 := by
    have hb : b2 ∣ 5354228880 := ⟨h, by rw [f2]; exact Int.mul_comm _ _⟩
    have h1 : b2 ∣ g * a2 := by rw [← e2]; exact hb
    have h2 : q ∣ g * p := by
      have : k * q ∣ k * (g * p) := by
        have : k * (g * p) = g * a2 := by rw [c1]; ac_rfl
        rw [this, ← c2]; exact h1
      exact Int.dvd_of_mul_dvd_mul_left (by omega) this
    have h3 : q ∣ g := by
      have := euclid (a := p) (b := q) (d := g) c4 (by rw [Int.mul_comm]; exact h2)
      exact this
    obtain ⟨r, hr⟩ := h3
    exact ⟨r, by rw [e2, hr]; ac_rfl⟩
  have hpos : 0 < a2 * q := Int.mul_pos e3 c3
  have hle : a2 * q ≤ 5354228880 := Int.le_of_dvd (by decide) hdv
  have ha2 : a2 ≤ 5354228880 := Int.le_of_dvd (by decide) ⟨g, by rw [e2]; exact Int.mul_comm _ _⟩
  have hb2' : b2 ≤ 5354228880 := Int.le_of_dvd (by decide) ⟨h, by rw [f2]; exact Int.mul_comm _ _⟩
  have va := abs_le_of_mul (V := 1572864) (a := a1) (b := a2) g0 (by rw [← e1, ← e2]; omega) (by rw [← e1, ← e2]; omega)
  have vb := abs_le_of_mul (V := 1572864) (a := b1) (b := b2) h0 (by rw [← f1, ← f2]; omega) (by rw [← f1, ← f2]; omega)
  have m1 : a1 * q ≤ 1572864 * a2 * q := Int.mul_le_mul_of_nonneg_right va.2 (by omega)
  have m2 : -(1572864 * a2) * q ≤ a1 * q := Int.mul_le_mul_of_nonneg_right va.1 (by omega)
  have m3 : b1 * p ≤ 1572864 * b2 * p := Int.mul_le_mul_of_nonneg_right vb.2 (by omega)
  have m4 : -(1572864 * b2) * p ≤ b1 * p := Int.mul_le_mul_of_nonneg_right vb.1 (by omega)
  rw [Int.mul_assoc] at m1 m3
  rw [Int.neg_mul, Int.mul_assoc] at m2 m4
  rw [← hlcm] at m3 m4
  refine ⟨a1, a2, b1, b2, p, q, e5, f5, c5, ⟨e3, ha2⟩, ⟨f3, hb2'⟩, ⟨hpos, hle⟩, ?_, by omega, by omega, ?_⟩
  · rw [hlcm]; exact Int.mul_tdiv_cancel_left _ hb2
  · refine ratF_eq hpos (by decide) ?_
    have x1 : a1 * q * 5354228880 = A * (a2 * q) := by rw [e1, e2]; ac_rfl
    have x2 : b1 * p * 5354228880 = B * (a2 * q) := by rw [hlcm, f1, f2]; ac_rfl
    rw [Int.add_mul, Int.add_mul, x1, x2]
end Go.Proofs.Ythopgonbndoidaa
namespace Go.Proofs.Ythopgonbndoidaa
open Go.RowKit Go.Shelf

def raV (r : Ra) : Value := .agg #[.int .i64 r.n, .int .i64 r.d]
set_option maxRecDepth 100000 in
set_option maxHeartbeats 2000000 in
theorem piece_any (id rc wt cost all : Int) (w : World) (h1 : -65536 ≤ cost) (h2 : cost ≤ 65536) (h3 : 1 ≤ wt) (h4 : wt ≤ 24) (h5 : 1 ≤ all) (h6 : all ≤ 24) :
    Calls Try.prog 63 #[.agg #[.int .i64 id, .int .i64 rc, .int .i64 wt], .int .i64 cost, .int .i64 all] w fun e w' => e = .returned (raV (ratF (cost * wt) all)) ∧ Ext w w' := by
  have hb1 : cost * wt ≤ 65536 * 24 := by
    have h := Int.mul_le_mul_of_nonneg_right (c := wt) h2 (by omega)
    have h' : 65536 * wt ≤ 65536 * 24 := by omega
    omega
  have hb2 : -(65536 * 24) ≤ cost * wt := by
    have h := Int.mul_le_mul_of_nonneg_right (c := wt) h1 (by omega)
    have h' : -(65536 * 24) ≤ -65536 * wt := by omega
    omega
  have hw : IntKind.i64.wrap (cost * wt) = cost * wt := IntWalk.i64_in _ (by omega)
  obtain ⟨x, hx⟩ : ∃ x, cost * wt = x := ⟨_, rfl⟩
  rw [hx] at hb1 hb2 hw ⊢
  have HXX := Lib.hid hx
  obtain ⟨r, hr⟩ : ∃ r, ratF x all = r := ⟨_, rfl⟩
  have K := fun W => ratio_any x all W (by omega) (by omega) (by omega) (by omega)
  rw [hr] at K ⊢
  clear hr
  go_enter Try.func63, Try.ntmps63
  go_wp2_with fail
  refine (K _).mono ?_
  rintro e w1 ⟨rfl, hz⟩
  obtain ⟨q0, q1, hx1, hs1⟩ := alloc2 hz
  have f0 := q1.frozen 0
  have f1 := q1.frozen 1
  have c0 := q1.cell 0
  have c1 := q1.cell 1
  clear hz
  go_wp2_with fail
  have hC := (q1.set 0 (.int .i64 r.n)).set 1 (.int .i64 r.d)
  exact bodyPost_ret (results_cell_row rfl _ _ (w.heap.size + 1) _ _ _ _ rfl hC Try.underlying42 rfl (by kernel_rfl)) rfl ⟨rfl, (hx1.setCell (p := ⟨w.heap.size + 1, 0, none⟩) (by simp) _).setCell (p := ⟨w.heap.size + 1, 1, none⟩) (Nat.le_add_right _ _) _⟩

set_option maxRecDepth 100000 in
set_option maxHeartbeats 2000000 in
theorem add_any (A B : Int) (w : World) (hA : -8421473853112320 ≤ A ∧ A ≤ 8421473853112320) (hB : -8421473853112320 ≤ B ∧ B ≤ 8421473853112320) :
    Calls Try.prog 120 #[raV (ratM A), raV (ratM B)] w fun e w' => e = .returned (raV (ratM (A + B))) ∧ Ext w w' := by
  obtain ⟨a1, a2, b1, b2, p, q, e1, e2, e3, ha2, hb2, hd, hq, hm1, hm2, hr⟩ := add_facts hA hB
  obtain ⟨r, hrr⟩ : ∃ r, ratM (A + B) = r := ⟨_, rfl⟩
  rw [e1, e2, hrr]
  rw [hrr] at hr
  have K0 := fun W => ratio_any a2 b2 W (by omega) (by omega) (by omega) (by omega)
  rw [e3] at K0
  obtain ⟨u1, hu1⟩ : ∃ u, a1 * q = u := ⟨_, rfl⟩
  obtain ⟨u2, hu2⟩ : ∃ u, b1 * p = u := ⟨_, rfl⟩
  obtain ⟨u3, hu3⟩ : ∃ u, a2 * q = u := ⟨_, rfl⟩
  rw [hu1] at hm1 hr
  rw [hu2] at hm2 hr
  rw [hu3] at hd hq hr
  have K1 := fun W => ratio_any (u1 + u2) u3 W (by omega) (by omega) (by omega) (by omega)
  rw [hr] at K1
  have hb0 : ¬ b2 = 0 := by omega
  have g1 : IntKind.i64.wrap u1 = u1 := IntWalk.i64_in _ (by omega)
  have g2 : IntKind.i64.wrap u2 = u2 := IntWalk.i64_in _ (by omega)
  have g3 : IntKind.i64.wrap u3 = u3 := IntWalk.i64_in _ (by omega)
  have g4 : IntKind.i64.wrap (u1 + u2) = u1 + u2 := IntWalk.i64_in _ (by omega)
  have g5 : IntKind.i64.wrap p = p := by
    rw [← hq]
    refine IntWalk.i64_in _ ?_
    rw [Int.tdiv_eq_ediv_of_nonneg (by omega)]
    have h1 := Int.ediv_nonneg (a := u3) (b := b2) (by omega) (by omega)
    have h2 := Int.ediv_le_self (a := u3) b2 (by omega)
    omega
  clear hr hrr e1 e2 e3 hd hm1 hm2 hA hB ha2 hb2
  unfold raV
  go_enter Try.func120, Try.ntmps120
  go_wp2_with fail
  refine (K0 _).mono ?_
  rintro e w1 ⟨rfl, hz⟩
  obtain ⟨q0, q1, q2, hx1, hs1⟩ := alloc3 hz
  clear hz
  have b0 := Cls.new w1 42 #[.int .i64 p, .int .i64 q]
  obtain ⟨W1, hW1⟩ : ∃ W1, w1.alloc (.cells #[.int .i64 p, .int .i64 q] 42) = W1 := ⟨_, rfl⟩
  have hz : Ext w1 W1 := by rw [← hW1]; exact (by repeat (first | exact Ext.refl _ | assumption | refine Ext.alloc ?_ _ | refine Ext.drew ?_ | refine Ext.drewN _ ?_ | refine Ext.trans ?_ (by assumption)))
  rw [hW1] at b0
  obtain ⟨CB, hCB⟩ : ∃ CB, w1.heap.size = CB := ⟨_, rfl⟩
  rw [hCB] at b0 hs1
  replace q0 := q0.ext hz
  replace q1 := q1.ext hz
  replace q2 := q2.ext hz
  replace hx1 := hx1.trans hz
  go_upto_region 2 with fail
  try rw [hCB]
  try rw [hW1]
  clear hW1 hz hCB
  have c00 : W1.cell? ⟨w.heap.size, 0, none⟩ = some (.int .i64 a1) := q0.cell 0
  have c01 : W1.cell? ⟨w.heap.size, 1, none⟩ = some (.int .i64 a2) := q0.cell 1
  have c10 : W1.cell? ⟨w.heap.size + 1, 0, none⟩ = some (.int .i64 b1) := q1.cell 0
  have c11 : W1.cell? ⟨w.heap.size + 1, 1, none⟩ = some (.int .i64 b2) := q1.cell 1
  have cc0 : W1.cell? ⟨CB, 0, none⟩ = some (.int .i64 p) := b0.cell 0
  have cc1 : W1.cell? ⟨CB, 1, none⟩ = some (.int .i64 q) := b0.cell 1
  have KE := fun W (h : Ext W1 W) => K1 W
  go_wp2_with fail
  have f20 := q2.frozen 0
  have f21 := q2.frozen 1
  go_still_tail 14, (by kernel_rfl)
  change wpList _ _ _ _ _ W1.drew
  obtain ⟨W2, hW2⟩ : ∃ W2, W1.drew = W2 := ⟨_, rfl⟩
  have hy : Ext W1 W2 := by rw [← hW2]; exact (by repeat (first | exact Ext.refl _ | assumption | refine Ext.alloc ?_ _ | refine Ext.drew ?_ | refine Ext.drewN _ ?_ | refine Ext.trans ?_ (by assumption)))
  rw [hW2]
  clear hW2 f20 f21 KE
  replace c00 := hy.cell c00
  replace c10 := hy.cell c10
  replace c11 := hy.cell c11
  replace cc1 := hy.cell cc1
  replace q2 := q2.ext hy
  replace hx1 := hx1.trans hy
  clear hy c01 cc0 b0 q0 q1
  go_wp2_with fail
  refine (K1 _).mono ?_
  rintro e w' ⟨rfl, hz⟩
  replace q2 := q2.ext hz
  replace hx1 := hx1.trans hz
  obtain ⟨R, hR⟩ : ∃ R, w.heap.size + 1 + 1 = R := ⟨_, rfl⟩
  have hRb : w.heap.size ≤ R := by omega
  rw [hR] at q2 ⊢
  clear hR hs1
  have f20 := q2.frozen 0
  have f21 := q2.frozen 1
  have d0 : w'.cell? ⟨R, 0, none⟩ = some (.int .i64 0) := q2.cell 0
  have d1 : w'.cell? ⟨R, 1, none⟩ = some (.int .i64 0) := q2.cell 1
  go_wp2_with fail
  have hC := (q2.set 0 (.int .i64 r.n)).set 1 (.int .i64 r.d)
  exact bodyPost_ret (results_cell_row rfl _ _ R _ _ _ _ rfl hC Try.underlying42 rfl (by kernel_rfl)) rfl ⟨rfl, (hx1.setCell (p := ⟨R, 0, none⟩) hRb _).setCell (p := ⟨R, 1, none⟩) hRb _⟩
end Go.Proofs.Ythopgonbndoidaa
namespace Go.Proofs.Ythopgonbndoidaa
open Go.RowKit Go.Shelf

theorem div_whole {k : Int} (h1 : 1 ≤ k) (h2 : k ≤ 24) : k * (5354228880 / k) = 5354228880 := by
  obtain ⟨n, rfl⟩ : ∃ n : Nat, k = (n : Int) + 1 := ⟨(k - 1).toNat, by omega⟩
  exact (by decide : ∀ n : Fin 24, ((n.1 : Int) + 1) * (5354228880 / ((n.1 : Int) + 1)) = 5354228880) ⟨n, by omega⟩
theorem wtA_ge {rs : List Rc} {l : List Py} (h : ∀ p ∈ l, 1 ≤ p.w) {p : Py} (hp : p ∈ l) {r : Nat} (hu : usB rs p.reach r = true) : p.w ≤ wtA rs l r := by
  induction l using snoc_ind with
  | h0 => simp at hp
  | h1 l q ih =>
    have hb := wtA_bd rs l (fun q hq => h q (by simp [hq])) r
    have hq := h q (by simp)
    rw [wtA_snoc]
    unfold wtS
    rcases List.mem_append.1 hp with hp | hp
    · have i := ih (fun q hq => h q (by simp [hq])) hp
      split <;> omega
    · obtain rfl : p = q := by simpa using hp
      rw [if_pos hu]; omega
/-- a piece, as parts of the whole -/
def pcX (T : Tr) (c w : Int) (r : Nat) : Int := c * w * (5354228880 / wtA T.rs T.ps r)
theorem pc_ratM (T : Tr) (c w : Int) {r : Nat} (h1 : 1 ≤ wtA T.rs T.ps r) (h2 : wtA T.rs T.ps r ≤ 24) : ratF (c * w) (wtA T.rs T.ps r) = ratM (pcX T c w r) :=
  ratM_of (by omega) (div_whole h1 h2)
theorem pcX_bd {T : Tr} {c w : Int} {r : Nat} (hc : 0 ≤ c ∧ c ≤ 65536) (h0 : 1 ≤ w) (hw : w ≤ wtA T.rs T.ps r) (h2 : wtA T.rs T.ps r ≤ 24) : 0 ≤ pcX T c w r ∧ pcX T c w r ≤ 350894743879680 := by
  have hd := div_whole (k := wtA T.rs T.ps r) (by omega) h2
  obtain ⟨d, hdd⟩ : ∃ d, 5354228880 / wtA T.rs T.ps r = d := ⟨_, rfl⟩
  unfold pcX
  rw [hdd] at hd ⊢
  obtain ⟨k, hk⟩ : ∃ k, wtA T.rs T.ps r = k := ⟨_, rfl⟩
  rw [hk] at hd hw h2
  have hd0 : 0 ≤ d := by
    by_cases h : 0 ≤ d
    · exact h
    · have := Int.mul_nonpos_of_nonneg_of_nonpos (a := k) (b := d) (by omega) (by omega)
      omega
  have a1 : 0 ≤ w * d := Int.mul_nonneg (by omega) hd0
  have a2 : w * d ≤ 5354228880 := by rw [← hd]; exact Int.mul_le_mul_of_nonneg_right hw hd0
  rw [Int.mul_assoc]
  refine ⟨Int.mul_nonneg hc.1 a1, ?_⟩
  have := Int.mul_le_mul hc.2 a2 a1 (by omega)
  omega
/-- the sum of pieces on a way -/
def shF (T : Tr) (w : Int) (l : List Int) : Int := l.foldl (fun s r => s + pcX T (cst T.rs r.toNat) w r.toNat) 0
theorem shF_snoc (T : Tr) (w : Int) (l : List Int) (r : Int) : shF T w (l ++ [r]) = shF T w l + pcX T (cst T.rs r.toNat) w r.toNat := by simp [shF]
def shX (T : Tr) (p : Py) : Int := shF T p.w (upL T.rs p.reach)
theorem shF_bd {T : Tr} {w : Int} {l : List Int} (h : ∀ r ∈ l, 0 ≤ pcX T (cst T.rs r.toNat) w r.toNat ∧ pcX T (cst T.rs r.toNat) w r.toNat ≤ 350894743879680) : 0 ≤ shF T w l ∧ shF T w l ≤ l.length * 350894743879680 := by
  induction l using snoc_ind with
  | h0 => simp [shF]
  | h1 l x ih =>
    have i := ih (fun r hr => h r (by simp [hr]))
    have j := h x (by simp)
    rw [shF_snoc, List.length_append, List.length_singleton]
    push_cast
    omega
/-- what holds of a payer of a tree that is right, at a reach on its way -/
theorem pay_facts {T : Tr} (hok : Ok T) {p : Py} (hp : p ∈ T.ps) {r : Int} (hr : r ∈ upL T.rs p.reach) :
    (0 ≤ r ∧ r < T.rs.length) ∧ (1 ≤ p.w ∧ p.w ≤ wtA T.rs T.ps r.toNat) ∧ wtA T.rs T.ps r.toNat ≤ 24 ∧ (0 ≤ cst T.rs r.toNat ∧ cst T.rs r.toNat ≤ 65536) := by
  have hv := hok.pv p hp
  have hi := upL_in hok.rv hv.2.1.2 r hr
  have hall : ∀ p ∈ T.ps, 1 ≤ p.w := fun p hp => (hok.pv p hp).2.2
  have hu : usB T.rs p.reach (r.toNat : Nat) = true := usB_t.2 (by rw [show ((r.toNat : Nat) : Int) = r by omega]; exact hr)
  have h1 := wtA_ge hall hp hu
  have h2 := (wtA_bd T.rs T.ps hall r.toNat).2
  have h3 := hok.sw
  exact ⟨hi, ⟨hv.2.2, h1⟩, by omega, cst_bd hok.rv _⟩
end Go.Proofs.Ythopgonbndoidaa
