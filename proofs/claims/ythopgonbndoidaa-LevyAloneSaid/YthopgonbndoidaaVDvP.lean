/- Divide of the program: what it computes, and words for its memory. -/
import Derived.Test.YthopgonbndoidaaVRndZ
namespace Go.Proofs.Ythopgonbndoidaa
open Go.RowKit Go.Shelf

/-- one payer pays of a reach what is left of it -/
def dvS (T : Tr) (r : Nat) (s : Int × List Int × List Int) (i : Nat) : Int × List Int × List Int :=
  if usB T.rs (T.ps.getD i ⟨0, 0, 0⟩).reach r = true then (s.1 - min s.1 (s.2.1.getD i 0), s.2.1.set i (s.2.1.getD i 0 - min s.1 (s.2.1.getD i 0)), s.2.2.set i (min s.1 (s.2.1.getD i 0))) else s
def dvD (T : Tr) (r : Nat) : Int := if wtA T.rs T.ps r = 0 then 0 else cst T.rs r
def dvJ (T : Tr) (r : Nat) (left : List Int) (j : Nat) : Int × List Int × List Int := (List.range j).foldl (dvS T r) (dvD T r, left, List.replicate T.ps.length 0)
theorem dvJ_succ (T : Tr) (r : Nat) (left : List Int) (j : Nat) : dvJ T r left (j + 1) = dvS T r (dvJ T r left j) j := by unfold dvJ; rw [List.range_succ, List.foldl_append]; rfl
def dvR (T : Tr) (s : List Int × (Nat → List Int)) (r : Nat) : List Int × (Nat → List Int) :=
  ((dvJ T r s.1 T.ps.length).2.1, fun k => if k = r then (dvJ T r s.1 T.ps.length).2.2 else s.2 k)
def dvF (T : Tr) (l : List Int) (pre : List Nat) : List Int × (Nat → List Int) := pre.foldl (dvR T) (l, fun _ => [])
theorem dvF_snoc (T : Tr) (l : List Int) (pre : List Nat) (r : Nat) : dvF T l (pre ++ [r]) = dvR T (dvF T l pre) r := by simp [dvF]
def dvM (T : Tr) (l : List Int) : List (List Int) := (List.range T.rs.length).map (dvF T l (bk T.rs.length)).2
def dvE (T : Tr) (l : List Int) : Int := if penE T l = 0 then (if faiB T l = true then 0 else 9) else penE T l
def dvX (T : Tr) (l : List Int) : List (List Int) := if dvE T l = 0 then dvM T l else []

/-- what the dividing keeps -/
structure DjV (n : Nat) (s : Int × List Int × List Int) : Prop where
  d : 0 ≤ s.1 ∧ s.1 ≤ 65536
  l : s.2.1.length = n
  b : ∀ x ∈ s.2.1, 0 ≤ x ∧ x ≤ 1073741824
  r : s.2.2.length = n
theorem getD_mem {l : List Int} {i : Nat} (h : i < l.length) : l.getD i 0 ∈ l := by
  rw [List.getD_eq_getElem?_getD, List.getElem?_eq_getElem h]; simp
theorem DjV.step {T : Tr} {r n : Nat} {s : Int × List Int × List Int} (h : DjV n s) {i : Nat} (hi : i < n) : DjV n (dvS T r s i) := by
  unfold dvS
  split
  · have hb := h.b _ (getD_mem (l := s.2.1) (i := i) (by rw [h.l]; exact hi))
    have hd := h.d
    refine ⟨by dsimp only; omega, by simp [h.l], fun x hx => ?_, by simp [h.r]⟩
    rcases mem_set_of hx with rfl | hx
    · omega
    · exact h.b x hx
  · exact h
theorem djV_at {T : Tr} (hok : Ok T) (r : Nat) {left : List Int} (hl : left.length = T.ps.length) (hb : ∀ x ∈ left, 0 ≤ x ∧ x ≤ 1073741824) : ∀ j, j ≤ T.ps.length → DjV T.ps.length (dvJ T r left j) := by
  intro j
  induction j with
  | zero =>
    intro _
    refine ⟨?_, hl, hb, by simp [dvJ]⟩
    have := cst_bd hok.rv r
    show 0 ≤ dvD T r ∧ dvD T r ≤ 65536
    unfold dvD
    split <;> omega
  | succ j ih => intro h; rw [dvJ_succ]; exact (ih (by omega)).step (by omega)
theorem dvF_bd {T : Tr} (hok : Ok T) {l : List Int} (hl : l.length = T.ps.length) (hb : ∀ x ∈ l, 0 ≤ x ∧ x ≤ 1073741824) (pre : List Nat) : (dvF T l pre).1.length = T.ps.length ∧ ∀ x ∈ (dvF T l pre).1, 0 ≤ x ∧ x ≤ 1073741824 := by
  induction pre using snoc_ind with
  | h0 => exact ⟨hl, hb⟩
  | h1 pre r ih =>
    rw [dvF_snoc]
    have h := djV_at hok r ih.1 ih.2 T.ps.length (Nat.le_refl _)
    exact ⟨h.l, h.b⟩

/-- an array of slices -/
def hdrs (m : Nat) (hs : Nat → Value) : Array Value := ((List.range m).map hs).toArray
theorem hdrs_get {m : Nat} (hs : Nat → Value) {i : Nat} (h : i < m) : (hdrs m hs)[i]? = some (hs i) := by simp [hdrs, h]
theorem hdrs_size (m : Nat) (hs : Nat → Value) : (hdrs m hs).size = m := by simp [hdrs]
theorem hdrs_set (m : Nat) (hs : Nat → Value) (i : Nat) (v : Value) : (hdrs m hs).setIfInBounds i v = hdrs m (fun r => if r = i then v else hs r) := by
  unfold hdrs
  rw [List.setIfInBounds_toArray]
  congr 1
  apply List.ext_getElem?
  intro k
  rw [List.getElem?_set]
  by_cases hk : i = k
  · subst hk
    by_cases h : i < m
    · simp [h]
    · simp [h]
  · rw [if_neg hk]
    by_cases h : k < m
    · simp [h, show ¬ k = i by omega]
    · simp [h]
/-- lists of integers in a slice of slices -/
def RowsAt (w : World) (v : Value) (L : List (List Int)) : Prop :=
  ∃ ao cap, v = .slice ao L.length cap ∧ L.length ≤ cap ∧ ∀ i (h : i < L.length), ∃ b o u, ao = some ⟨b, o, none⟩ ∧ w.cell? ⟨b, o + i, none⟩ = some u ∧ IntsAt w u L[i]
theorem RowsAt.ext {w w' : World} {v : Value} {L : List (List Int)} (h : RowsAt w v L) (x : Ext w w') : RowsAt w' v L := by
  obtain ⟨ao, cap, hv, hle, hc⟩ := h
  refine ⟨ao, cap, hv, hle, fun i hi => ?_⟩
  obtain ⟨b, o, u, h0, h1, h2⟩ := hc i hi
  exact ⟨b, o, u, h0, x.cell h1, h2.ext x⟩
theorem rowsAt_nil (w : World) : RowsAt w (.slice none 0 0) [] := ⟨none, 0, rfl, by simp, fun i hi => by simp at hi⟩
def RowsPost (w : World) (L : List (List Int)) (E : Int) (e : Ending) (w' : World) : Prop := ∃ v, e = .returned (.tuple #[v, .int .i64 E]) ∧ RowsAt w' v L ∧ Ext w w'

theorem rowI_cls {n₀ g : Nat} {l : List Int} {W : World} (h : RowI n₀ (.slice (some ⟨g, 0, none⟩) l.length l.length) l W) : Cls g 3 (cellsI l).toArray W := by
  rcases h.2 with ⟨h', _⟩ | ⟨g', cap, cur, h', _, h2, _, _, h5, h6⟩
  · simp at h'
  · simp only [Value.slice.injEq, Option.some.injEq, Addr.mk.injEq, and_true, true_and] at h'
    obtain ⟨rfl, rfl⟩ := h'
    have : cur = (cellsI l).toArray := by
      rw [← h6, List.take_of_length_le (by rw [Array.length_toList, h5]; exact Nat.le_refl _)]
    rw [← this]
    exact h2
theorem cls_ints {g n : Nat} {t : TypeId} {l : List Int} {W : World} (h : Cls g t (cellsI l).toArray W) (hn : l.length = n) : IntsAt W (.slice (some ⟨g, 0, none⟩) n n) l := by
  subst hn
  refine ⟨_, _, rfl, Nat.le_refl _, fun i hi => ⟨g, 0, rfl, ?_⟩⟩
  rw [Nat.zero_add, h.cell i, List.getElem?_toArray]
  exact cellsI_get l i hi
theorem cellsI_set (l : List Int) (i : Nat) (x : Int) : (cellsI l).toArray.setIfInBounds i (.int .i64 x) = (cellsI (l.set i x)).toArray := by
  rw [List.setIfInBounds_toArray]
  simp [cellsI, List.map_set]
theorem cls_cell {g : Nat} {t : TypeId} {l : List Int} {W : World} (h : Cls g t (cellsI l).toArray W) {i : Nat} (hi : i < l.length) : W.cell? ⟨g, i, none⟩ = some (.int .i64 l[i]) := by
  rw [h.cell i, List.getElem?_toArray]
  exact cellsI_get l i hi
theorem rowI_ownAny {β : Type} {n₀ : Nat} {v : Value} (f : β → List Int) : Own (fun s W => RowI n₀ v (f s) W) := fun s X Y row hs hg hrow => by
  refine rowI_kept hs hg ?_
  rcases hs.2 with ⟨rfl, _⟩ | ⟨g, cap, cur, rfl, _, h2, _⟩
  · exact .inl rfl
  · refine .inr fun e => ?_
    obtain ⟨o, ho, hc⟩ := hrow g e.symm
    rw [h2] at ho
    cases ho
    cases hc

/-- slices.Clone of integers -/
theorem clone_any (v : Value) (l : List Int) (w : World) (hl : IntsAt w v l) (hn : l.length ≤ 1000000) :
    Calls Try.prog 95 #[v] w fun e w' => ∃ u, e = .returned u ∧ RowI w.heap.size u l w' ∧ Ext w w' := by
  obtain ⟨ao, c, rfl, hc⟩ := hl.len
  cases ao with
  | none =>
    have h0 : l = [] := by
      cases l with
      | nil => rfl
      | cons x l => obtain ⟨b, o, h, _⟩ := hl.get 0 (by simp); cases h
    subst h0
    refine (Try.slices_Clone_int_nil _ _ w).mono ?_
    rintro e w' ⟨rfl, rfl⟩
    exact ⟨_, rfl, rowI_nil _ _, Ext.refl _⟩
  | some ad =>
    by_cases h0 : l.length = 0
    · have h0' : l = [] := List.eq_nil_of_length_eq_zero h0
      subst h0'
      refine (Try.slices_Clone_int_zero ad c w).mono ?_
      rintro e w' ⟨u, rfl, h1, _, h2⟩
      exact ⟨_, rfl, h1, h2⟩
    · obtain ⟨b, o, he, _⟩ := hl.get 0 (by omega)
      obtain rfl := Option.some.inj he
      refine (Try.slices_Clone_int b o l.length c l w (Nat.le_refl _) (by omega) (fun j hj => ?_)).mono ?_
      · obtain ⟨b2, o2, he2, h3⟩ := hl.get j hj
        simp only [Option.some.injEq, Addr.mk.injEq, and_true] at he2
        obtain ⟨rfl, rfl⟩ := he2
        rw [h3, List.getD_eq_getElem?_getD, List.getElem?_eq_getElem hj]
        rfl
      · rintro e w' ⟨u, rfl, h1, _, h2⟩
        rw [List.take_length] at h1
        exact ⟨_, rfl, h1, h2⟩

theorem wpListIn_makeFull {F : Fence} {n : Nat} {P : Program} (w : World) {ops : Array Oper} {rest : List Oper} {o : Oper} {a : Act} {Q : Exit → Act → World → Prop}
    (hg : o.guard = none) (l c : Operand) (t : TypeId) (hop : o.op = Op.makeSlice t l c)
    (base : Nat) (e : TypeId) (i : TypeInfo) (z : Value) (size : Nat) (h1 : P.underlying t = some (.slice e)) (h2 : P.info? e = some i) (h3 : i.zero = some z) (h4 : i.size = size)
    (kl kc : IntKind) (m : Nat) (hl : a.eval l = .int kl m) (hc : a.eval c = .int kc m) (b2 : i.bytes * m ≤ 281474976710656) (b3 : m ≤ maxLen) (b4 : base ≤ w.heap.size)
    (hK : ∀ w', w'.ownsRow base e size (.slice (some ⟨w.heap.size, 0, none⟩) m m) m (madeCells z.cells (m * size)).toList → w.grownBy w' none → wpListIn F n P ops Q rest (a.put o.dst (.slice (some ⟨w.heap.size, 0, none⟩) m m)) w') :
    wpListIn F n P ops Q (o :: rest) a w := by
  refine wpListIn_plain hg fun K hK' => ?_
  obtain ⟨w', hrun, r1, r2⟩ := run_make_full (P := P) w base t e i z size h1 h2 h3 h4 kl kc m b2 b3 b4
  unfold Oper.wpIn
  refine ⟨?_, ?_⟩
  · simp [Oper.about, hop]
  · rw [Oper.semAt_plain F _ _ (by rw [hop]; intro c hc'; cases hc')]
    simp [execOp, hop, hl, hc, hrun, Result.andThen]
    exact hK' _ _ (hK w' r1 r2)
theorem oper_makeFull {P : Program} {o : Oper} {a : Act} {w : World} {K : Act → World → Prop} {Q : Exit → Act → World → Prop} (l c : Operand) (t : TypeId) (hop : o.op = Op.makeSlice t l c)
    (base : Nat) (e : TypeId) (i : TypeInfo) (z : Value) (size : Nat) (h1 : P.underlying t = some (.slice e)) (h2 : P.info? e = some i) (h3 : i.zero = some z) (h4 : i.size = size)
    (kl kc : IntKind) (m : Nat) (hl : a.eval l = .int kl m) (hc : a.eval c = .int kc m) (b2 : i.bytes * m ≤ 281474976710656) (b3 : m ≤ maxLen) (b4 : base ≤ w.heap.size)
    (hK : ∀ w', w'.ownsRow base e size (.slice (some ⟨w.heap.size, 0, none⟩) m m) m (madeCells z.cells (m * size)).toList → w.grownBy w' none → K (a.put o.dst (.slice (some ⟨w.heap.size, 0, none⟩) m m)) w') : Oper.wp P o a w K Q := by
  obtain ⟨w', hrun, r1, r2⟩ := run_make_full (P := P) w base t e i z size h1 h2 h3 h4 kl kc m b2 b3 b4
  unfold Oper.wp execOp
  simp only [hop, hl, hc, hrun, Sem.run_bind, Sem.run_pure, Result.andThen_ok]
  exact hK _ r1 r2
theorem infoSl : (Try.prog.info? 34).map (fun i => (i.zero, i.size, i.bytes)) = some (some (.slice none 0 0), 1, 24) := by kernel_rfl
theorem undSs : (Try.prog).underlying 92 = some (.slice 34) := by kernel_rfl
theorem wpList_makeS {ops : Array Oper} {rest : List Oper} {o : Oper} {a : Act} {w : World} {Q : Exit → Act → World → Prop} (hg : o.guard = none) (l c : Operand) (hop : o.op = Op.makeSlice 92 l c)
    (kl kc : IntKind) (m : Nat) (hl : a.eval l = .int kl m) (hc : a.eval c = .int kc m) (hm : m ≤ 1000000)
    (hK : ∀ w', Cls w.heap.size 34 (hdrs m (fun _ => .slice none 0 0)) w' → Ext w w' → w.heap.size < w'.heap.size → wpList Try.prog ops Q rest (a.put o.dst (.slice (some ⟨w.heap.size, 0, none⟩) m m)) w') : wpList Try.prog ops Q (o :: rest) a w := by
  obtain ⟨i0, hi0, hz0, hz1, hz2⟩ := info_parts infoSl
  refine wpList_plain hg fun K hKK => ?_
  refine oper_makeFull l c 92 hop w.heap.size 34 i0 (.slice none 0 0) 1 undSs hi0 hz0 hz1 kl kc m hl hc (by rw [hz2]; omega) (by unfold maxLen; omega) (Nat.le_refl _) (fun w' r1 r2 => hKK _ _ ?_)
  have e : (madeCells (Value.slice none 0 0).cells (m * 1)).toList = (List.range m).map (fun _ => Value.slice none 0 0) := by
    rw [Nat.mul_one]
    show (madeCells #[Value.slice none 0 0] m).toList = _
    rw [toList_madeCells_one]
    exact (List.map_const' (l := List.range m) (b := Value.slice none 0 0)).symm ▸ (by rw [List.length_range])
  rw [e] at r1
  have hC : Cls w.heap.size 34 (hdrs m (fun _ => .slice none 0 0)) w' := by
    rcases r1.2 with ⟨h', _⟩ | ⟨g', cap, cur, h', _, h2, _, _, h5, h6⟩
    · simp at h'
    · simp only [Value.slice.injEq, Option.some.injEq, Addr.mk.injEq, and_true, true_and] at h'
      obtain ⟨h7, rfl⟩ := h'
      subst h7
      have : cur = hdrs m (fun _ => .slice none 0 0) := by
        unfold hdrs
        rw [← h6, List.take_of_length_le (by rw [Array.length_toList, h5]; exact Nat.le_refl _)]
      rw [← this]
      exact h2
  exact hK _ hC (Below.grown (Below.refl _ _) r2 (Nat.le_refl _) (fun k e => by cases e)) hC.lt
theorem oper_makeI {o : Oper} {a : Act} {w : World} {K : Act → World → Prop} {Q : Exit → Act → World → Prop} (l c : Operand) (hop : o.op = Op.makeSlice 34 l c)
    (kl kc : IntKind) (m : Nat) (hl : a.eval l = .int kl m) (hc : a.eval c = .int kc m) (hm : m ≤ 1000000)
    (hK : ∀ w', Cls w.heap.size 3 (cellsI (List.replicate m 0)).toArray w' → Ext w w' → w.heap.size < w'.heap.size → K (a.put o.dst (.slice (some ⟨w.heap.size, 0, none⟩) m m)) w') : Oper.wp Try.prog o a w K Q := by
  obtain ⟨i0, hi0, hz0, hz1, hz2⟩ := info_parts infoInt
  obtain ⟨w', hrun, r1, r2⟩ := run_make_full (P := Try.prog) w w.heap.size 34 3 i0 (.int .i64 0) 1 undInt hi0 hz0 hz1 kl kc m (by rw [hz2]; omega) (by unfold maxLen; omega) (Nat.le_refl _)
  unfold Oper.wp execOp
  simp only [hop, hl, hc, hrun, Sem.run_bind, Sem.run_pure, Result.andThen_ok]
  have e : (madeCells (Value.int .i64 0).cells (m * 1)).toList = cellsI (List.replicate m 0) := by
    rw [Nat.mul_one]
    show (madeCells #[Value.int .i64 0] m).toList = _
    rw [toList_madeCells_one]
    simp [cellsI]
  rw [e] at r1
  have hC := rowI_cls (l := List.replicate m 0) (by unfold RowI; simpa using r1)
  exact hK _ hC (Below.grown (Below.refl _ _) r2 (Nat.le_refl _) (fun k e => by cases e)) hC.lt
end Go.Proofs.Ythopgonbndoidaa
