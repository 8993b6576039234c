/- alone of the program: what some payers would pay alone. -/
import Derived.Test.YthopgonbndoidaaVSeq
import Derived.Test.YthopgonbndoidaaVChk
import Derived.Test.YthopgonbndoidaaVP
namespace Go.Proofs.Ythopgonbndoidaa
open Go.RowKit Go.Shelf

attribute [local go_sem] Oper.semAt_some

theorem KI : KL Try.prog 3 encI := intKL (by kernel_rfl)
theorem mapT : (Try.prog).underlying 101 = some (.map 3 4) := by kernel_rfl
theorem zeroBool (w : World) : (zeroValue 4).run Try.prog w = .ok (.bool false) w := by kernel_rfl
theorem mapAt_own {β κ : Type} {enc : κ → Value} {b B : Nat} (f : β → List (κ × Value)) (h : b < B) : OwnFrom B (fun s W => MapAt enc W b (f s)) := fun _ _ _ _ hs hg hr =>
  hs.grown hg (fun e => by have := (hr b e.symm).1; omega)
theorem mapAt_abide {β κ : Type} {enc : κ → Value} {b Br : Nat} (f : β → List (κ × Value)) (h : b ≠ Br) : AbidesBox Br (fun s W => MapAt enc W b (f s)) :=
  ⟨fun _ _ _ hs => hs.setCell h _, fun _ _ _ hs => hs.ext (by repeat (first | exact Ext.refl _ | assumption | refine Ext.alloc ?_ _ | refine Ext.drew ?_ | refine Ext.drewN _ ?_ | refine Ext.trans ?_ (by assumption)))⟩

theorem filter_lt {α : Type} (p q : α → Bool) : ∀ (l : List α), (∀ x ∈ l, q x = true → p x = true) → (∃ x ∈ l, p x = true ∧ q x = false) → (l.filter q).length < (l.filter p).length := by
  have hle : ∀ (l : List α), (∀ x ∈ l, q x = true → p x = true) → (l.filter q).length ≤ (l.filter p).length := by
    intro l
    induction l with
    | nil => intro _; exact Nat.le_refl _
    | cons x l ih =>
      intro h
      have := ih (fun y hy => h y (List.mem_cons_of_mem _ hy))
      have hx := h x (List.mem_cons_self ..)
      simp only [List.filter_cons]
      cases hq : q x
      · cases hp : p x <;> simp <;> omega
      · simp [hx hq]; omega
  intro l
  induction l with
  | nil => intro _ ⟨x, hx, _⟩; simp at hx
  | cons x l ih =>
    intro h ⟨y, hy, h1, h2⟩
    have hx := h x (List.mem_cons_self ..)
    have h' : ∀ z ∈ l, q z = true → p z = true := fun z hz => h z (List.mem_cons_of_mem _ hz)
    simp only [List.filter_cons]
    rcases List.mem_cons.1 hy with rfl | hy
    · have := hle l h'
      simp [h1, h2]; omega
    · have := ih h' ⟨y, hy, h1, h2⟩
      cases hq : q x
      · cases hp : p x <;> simp <;> omega
      · simp [hx hq]; omega
/-- how many keys are still to come -/
def leftK (L : List (Int × Value)) (d : List Int) : Nat := ((L.map (·.1)).filter (fun x => !decide (x ∈ d))).length
theorem leftK_lt {L : List (Int × Value)} {d : List Int} {k : Int} (h : k ∈ L.map (·.1)) (hd : k ∉ d) : leftK L (d ++ [k]) < leftK L d :=
  filter_lt _ _ _ (fun x _ hx => by simp at hx ⊢; exact hx.1) ⟨k, h, by simp [hd], by simp⟩
/-- the state of the loop over the payers -/
structure AL (w W : World) (a b : Value) (Ds : List Nat) (L : List (Int × Value)) : Prop where
  bx : Cls w.heap.size 25 #[a, b] W
  mb : Cls (w.heap.size + 1 + 1) 101 #[.map (some (w.heap.size + 1))] W
  mp : MapAt encI W (w.heap.size + 1) L
  mr : MarksAt w.heap.size Ds W
  ex : Ext w W
theorem AL.ext {w W W' : World} {a b : Value} {Ds : List Nat} {L : List (Int × Value)} (h : AL w W a b Ds L) (x : Ext W W') : AL w W' a b Ds L :=
  ⟨h.bx.ext x, h.mb.ext x, h.mp.ext x, h.mr.ext x, h.ex.trans x⟩
/-- what the map holds behind j payers -/
def AK (T : Tr) (tl : Py → Bool) (j : Nat) (L : List (Int × Value)) : Prop := ∀ r, r ∈ L.map (·.1) ↔ ∃ p ∈ T.ps.take j, tl p = true ∧ r ∈ upL T.rs p.reach
theorem updK_keys {l : List (Int × Value)} {k : Int} {v : Value} : ∀ r, r ∈ (updK l k v).map (·.1) ↔ r ∈ l.map (·.1) ∨ r = k := by
  intro r
  unfold updK
  by_cases h : (getK l k).isSome = true
  · rw [if_pos h]
    have hk : k ∈ l.map (·.1) := by
      unfold getK at h
      rw [Option.isSome_map, List.find?_isSome] at h
      obtain ⟨p, hp, hq⟩ := h
      exact List.mem_map.2 ⟨p, hp, by simpa using hq⟩
    have he : (l.map (fun p => if p.1 = k then (k, v) else p)).map (·.1) = l.map (·.1) := by
      rw [List.map_map]
      refine List.map_congr_left (fun p _ => ?_)
      simp only [Function.comp]
      split
      · rename_i e; exact e.symm
      · rfl
    rw [he]
    constructor
    · exact .inl
    · rintro (h1 | rfl)
      · exact h1
      · exact hk
  · rw [if_neg h, List.map_append, List.mem_append]
    simp
def addAll (L : List (Int × Value)) (l : List Int) : List (Int × Value) := l.foldl (fun m r => updK m r (.bool true)) L
theorem addAll_snoc (L : List (Int × Value)) (l : List Int) (r : Int) : addAll L (l ++ [r]) = updK (addAll L l) r (.bool true) := by simp [addAll]
theorem addAll_keys (L : List (Int × Value)) (l : List Int) : ∀ r, r ∈ (addAll L l).map (·.1) ↔ r ∈ L.map (·.1) ∨ r ∈ l := by
  induction l using snoc_ind with
  | h0 => intro r; simp [addAll]
  | h1 l x ih =>
    intro r
    rw [addAll_snoc, updK_keys, ih, List.mem_append, List.mem_singleton, or_assoc]
theorem AK.step {T : Tr} {tl : Py → Bool} {j : Nat} {L : List (Int × Value)} (h : j < T.ps.length) (hk : AK T tl j L) : AK T tl (j + 1) (if tl T.ps[j] = true then addAll L (upL T.rs T.ps[j].reach) else L) := by
  intro r
  rw [take_succ_get T.ps j h]
  by_cases ht : tl T.ps[j] = true
  · rw [if_pos ht, addAll_keys, hk r]
    constructor
    · rintro (⟨p, hp, h1, h2⟩ | h1)
      · exact ⟨p, List.mem_append.2 (.inl hp), h1, h2⟩
      · exact ⟨_, List.mem_append.2 (.inr (by simp)), ht, h1⟩
    · rintro ⟨p, hp, h1, h2⟩
      rcases List.mem_append.1 hp with hp | hp
      · exact .inl ⟨p, hp, h1, h2⟩
      · rw [List.mem_singleton] at hp; subst hp; exact .inr h2
  · rw [if_neg ht, hk r]
    constructor
    · rintro ⟨p, hp, h1, h2⟩; exact ⟨p, List.mem_append.2 (.inl hp), h1, h2⟩
    · rintro ⟨p, hp, h1, h2⟩
      rcases List.mem_append.1 hp with hp | hp
      · exact ⟨p, hp, h1, h2⟩
      · rw [List.mem_singleton] at hp; subst hp; exact absurd h1 ht

-- the closures
set_option maxRecDepth 100000 in
set_option maxHeartbeats 4000000 in
theorem alone_whole (a b : Value) (T : Tr) (hok : Ok T) (tl : Py → Bool) (w : World) (hT : TrAt w a b T)
    (htell : ∀ (x : Py) (W : World), Ext w W → Calls Try.prog 108 #[.agg #[.int .i64 x.id, .int .i64 x.reach, .int .i64 x.w]] W fun e W' => e = .returned (.bool (tl x)) ∧ Ext W W') :
    Calls Try.prog 57 #[.agg #[a, b], .func (.func 108) #[] #[]] w fun e w' => e = .returned (.int .i64 (alnE T tl)) ∧ Ext w w' := by
  obtain ⟨AE, hAE⟩ : ∃ AE, alnE T tl = AE := ⟨_, rfl⟩
  have HAE := Lib.hid hAE
  rw [hAE]
  clear hAE
  obtain ⟨aa, ca, rfl, hla⟩ := hT.r.len
  obtain ⟨ab, cb, rfl, hlb⟩ := hT.p.len
  have hmk := @run_makeMap Try.prog
  refine (callsIn_wide (n := 5)).1 ?_
  refine callsIn_of_wp_marks Try.func57 rfl trivial ?_ rfl; simp only [Try.ntmps57, List.size_toArray, List.length_cons, List.length_nil, Nat.reduceAdd, Nat.reduceSub, Array.replicate_succ, Array.replicate_zero, List.push_toArray, List.append_toArray, List.nil_append, List.cons_append]
  gi_wp2_with fail
  obtain ⟨W1, hW1⟩ : ∃ W1, ((w.alloc (.cells #[.slice aa T.rs.length ca, .slice ab T.ps.length cb] 25)).alloc (.map #[] 0)).alloc (.cells #[.map (some (w.heap.size + 1))] 101) = W1 := ⟨_, rfl⟩
  obtain ⟨q0, q2, qm, hx1⟩ : Cls w.heap.size 25 #[.slice aa T.rs.length ca, .slice ab T.ps.length cb] W1 ∧ Cls (w.heap.size + 1 + 1) 101 #[.map (some (w.heap.size + 1))] W1 ∧ MapAt encI W1 (w.heap.size + 1) [] ∧ Ext w W1 := by
    rw [← hW1]
    refine ⟨(Cls.new w _ _).ext (by repeat (first | exact Ext.refl _ | assumption | refine Ext.alloc ?_ _ | refine Ext.drew ?_ | refine Ext.drewN _ ?_ | refine Ext.trans ?_ (by assumption))), Cls.newAt _ _ _ (by simp), ?_, (by repeat (first | exact Ext.refl _ | assumption | refine Ext.alloc ?_ _ | refine Ext.drew ?_ | refine Ext.drewN _ ?_ | refine Ext.trans ?_ (by assumption)))⟩
    have h := mapAt_made encI (w.alloc (.cells #[.slice aa T.rs.length ca, .slice ab T.ps.length cb] 25))
    rw [World.size_alloc] at h
    exact h.ext (by repeat (first | exact Ext.refl _ | assumption | refine Ext.alloc ?_ _ | refine Ext.drew ?_ | refine Ext.drewN _ ?_ | refine Ext.trans ?_ (by assumption)))
  try rw [hW1]
  clear hW1 hmk
  refine wpIn_loopg (fun g a W => ∃ (j : Nat) (Ds : List Nat) (L : List (Int × Value)) (u7 u8 u16 u17 u18 u19 u20 u21 u22 u23 u24 u25 u26 u27 u28 u29 u30 : Value), a = { tmps := #[.agg #[.slice aa T.rs.length ca, .slice ab T.ps.length cb], .func (.func 108) #[] #[], .pointer (some ⟨w.heap.size, 0, none⟩), undef, .int .i64 0, .pointer (some ⟨w.heap.size + 1 + 1, 0, none⟩), undef, u7, u8, undef, undef, .map (some (w.heap.size + 1)), .pointer (some ⟨w.heap.size, 1, none⟩), .slice ab T.ps.length cb, .int .i64 T.ps.length, .int .i64 j, u16, u17, u18, u19, u20, u21, u22, u23, u24, u25, u26, u27, u28, u29, u30, undef, undef, undef, undef, undef, undef, undef, undef, undef, undef, undef, undef, undef, undef, undef], defers := marksOf Ds } ∧ j ≤ T.ps.length ∧ g = T.ps.length - j ∧ Hid (AL w W (.slice aa T.rs.length ca) (.slice ab T.ps.length cb) Ds L) ∧ Hid (AK T tl j L)) T.ps.length ?_ ?_
  · exact ⟨0, [], [], undef, undef, undef, undef, undef, undef, undef, undef, undef, undef, undef, undef, undef, undef, undef, undef, undef, rfl, Nat.zero_le _, rfl, Lib.hid ⟨q0, q2, qm, marks_nil _ _, hx1⟩, Lib.hid (by simp [AK])⟩
  · rintro g a W ⟨j, Ds, L, u7, u8, u16, u17, u18, u19, u20, u21, u22, u23, u24, u25, u26, u27, u28, u29, u30, rfl, hj, rfl, HA, HK⟩
    by_cases hlt : j < T.ps.length
    · obtain ⟨bb, oo, rfl, c0, c1, c2⟩ := (hT.p.ext HA.out.ex).get j hlt
      have hlp := hok.lp
      have hpv := hok.pv _ (List.getElem_mem hlt)
      have hstep := AK.step hlt HK.out
      have hid : T.ps[j] = ⟨T.ps[j].id, T.ps[j].reach, T.ps[j].w⟩ := rfl
      obtain ⟨x, hxx⟩ : ∃ x, T.ps[j].id = x := ⟨_, rfl⟩
      obtain ⟨y, hyy⟩ : ∃ y, T.ps[j].reach = y := ⟨_, rfl⟩
      obtain ⟨z, hzz⟩ : ∃ z, T.ps[j].w = z := ⟨_, rfl⟩
      rw [hxx] at c0 hid
      rw [hyy] at c1 hid hpv hstep
      rw [hzz] at c2 hid
      rw [hid] at hstep
      obtain ⟨tv, htv⟩ : ∃ tv, tl ⟨x, y, z⟩ = tv := ⟨_, rfl⟩
      rw [htv] at hstep
      have hy1 : y < T.rs.length := hpv.2.1.2
      have hy0 : -1 ≤ y := by have := hpv.2.1.1; omega
      have HTV := Lib.hid htv
      have HST := Lib.hid hstep
      clear hxx hyy hzz hid hpv hstep htv
      have d0 : W.cell? ⟨w.heap.size, 0, none⟩ = some (.slice aa T.rs.length ca) := HA.out.bx.cell 0
      have d1 : W.cell? ⟨w.heap.size, 1, none⟩ = some (.slice (some ⟨bb, oo, none⟩) T.ps.length cb) := HA.out.bx.cell 1
      gi_wp2_with fail
      obtain ⟨Y, hY⟩ : ∃ Y, W.alloc (.cells #[.int .i64 x, .int .i64 y, .int .i64 z] 45) = Y := ⟨_, rfl⟩
      have hxY : Ext W Y := by rw [← hY]; exact (by repeat (first | exact Ext.refl _ | assumption | refine Ext.alloc ?_ _ | refine Ext.drew ?_ | refine Ext.drewN _ ?_ | refine Ext.trans ?_ (by assumption)))
      have hbY : Cls W.heap.size 45 #[.int .i64 x, .int .i64 y, .int .i64 z] Y := by rw [← hY]; exact Cls.new _ _ _
      try rw [hY]
      clear hY d0 d1
      refine ⟨trivial, (callsIn_wide.2 (htell ⟨x, y, z⟩ _ (HA.out.ex.trans hxY))).mono ?_⟩
      rw [HTV.out]
      rintro e w2 ⟨rfl, hx2⟩
      have hA2 := (HA.out.ext hxY).ext hx2
      have hb2 := hbY.ext hx2
      cases tv
      · have hwj : wrap64 ((j : Int) + 1) = ((j + 1 : Nat) : Int) := by rw [IntWalk.wrap64_in _ (by omega)]; omega
        have hs := HST.out
        rw [if_neg (by decide)] at hs
        have HS := Lib.hid hs
        clear hs HST
        gi_wp2
        exact ⟨T.ps.length - (j + 1), by omega, j + 1, Ds, L, _, _, _, _, _, _, _, _, _, _, _, _, _, _, _, _, _, rfl, by omega, rfl, Lib.hid hA2, HS⟩
      · have hs := HST.out
        rw [if_pos rfl] at hs
        have HS := Lib.hid hs
        have e0 : w2.cell? ⟨w.heap.size, 0, none⟩ = some (.slice aa T.rs.length ca) := hA2.bx.cell 0
        have e1 : w2.cell? ⟨w.heap.size, 1, none⟩ = some (.slice (some ⟨bb, oo, none⟩) T.ps.length cb) := hA2.bx.cell 1
        have e2 : w2.cell? ⟨W.heap.size, 1, none⟩ = some (.int .i64 y) := hb2.cell 1
        clear hs HST
        gi_wp2_with fail
        refine ⟨trivial, (callsIn_wide.2 (up_any _ _ y _)).mono ?_⟩
        rintro e w3 ⟨rfl, hw3⟩
        obtain ⟨p0, p1, hx3, hs3⟩ := up_boxes hw3
        have hA3 := hA2.ext hx3
        have hz2 := hA2.ex.size
        have hm2 := hA2.mb.lt
        clear hw3 e0 e1 e2
        gi_wp2_with fail
        have hseq := up_seq w2.heap.size (w2.heap.size + 1) T hok.rv _ _ y hy0 hy1 w w3 hA3.ex _ _ (by omega) (by omega) p0 p1 hT.r
        have hbs : ∀ b ∈ [w2.heap.size, w2.heap.size + 1], b < w3.heap.size := by simp; omega
        have hIb : AbidesBox (w2.heap.size + 1) (fun (pre : List (RIx T.rs.length)) W => (Cls w.heap.size 25 #[.slice aa T.rs.length ca, .slice (some ⟨bb, oo, none⟩) T.ps.length cb] W ∧ Cls (w.heap.size + 1 + 1) 101 #[.map (some (w.heap.size + 1))] W) ∧ (MapAt encI W (w.heap.size + 1) (addAll L (vals pre)) ∧ MarksAt w.heap.size Ds W) ∧ Below w.heap.size w W ∧ w3.heap.size ≤ W.heap.size) :=
          ((abidesBox_cls _ (fun _ => #[.slice aa T.rs.length ca, .slice (some ⟨bb, oo, none⟩) T.ps.length cb]) (by omega)).and (abidesBox_cls _ (fun _ => #[.map (some (w.heap.size + 1))]) (by omega))).and (((mapAt_abide _ (by omega)).and marks_abide).and ((abidesBox_below (by omega) (Nat.le_refl _)).and (abidesBox_size _)))
        have hI : OwnFrom w3.heap.size (fun (pre : List (RIx T.rs.length)) W => (Cls w.heap.size 25 #[.slice aa T.rs.length ca, .slice (some ⟨bb, oo, none⟩) T.ps.length cb] W ∧ Cls (w.heap.size + 1 + 1) 101 #[.map (some (w.heap.size + 1))] W) ∧ (MapAt encI W (w.heap.size + 1) (addAll L (vals pre)) ∧ MarksAt w.heap.size Ds W) ∧ Below w.heap.size w W ∧ w3.heap.size ≤ W.heap.size) :=
          OwnFrom.and (OwnFrom.and ((Cls.own _ _ (fun _ => #[.slice aa T.rs.length ca, .slice (some ⟨bb, oo, none⟩) T.ps.length cb])).from _) ((Cls.own _ _ (fun _ => #[.map (some (w.heap.size + 1))])).from _)) (OwnFrom.and (OwnFrom.and (mapAt_own _ (by omega)) (marks_own (fun D hD => hA3.mr.lt D hD))) (OwnFrom.and (ownFrom_below (Nat.le_refl _) hA3.ex.size) (ownFrom_size _ _)))
        have hIx : ∀ c : Code, OwnFrom w3.heap.size (fun (_ : List (RIx T.rs.length)) (_ : World) => False) := fun c => fun _ _ _ _ hs _ _ => hs
        have h00 : (fun (pre : List (RIx T.rs.length)) W => (Cls w.heap.size 25 #[.slice aa T.rs.length ca, .slice (some ⟨bb, oo, none⟩) T.ps.length cb] W ∧ Cls (w.heap.size + 1 + 1) 101 #[.map (some (w.heap.size + 1))] W) ∧ (MapAt encI W (w.heap.size + 1) (addAll L (vals pre)) ∧ MarksAt w.heap.size Ds W) ∧ Below w.heap.size w W ∧ w3.heap.size ≤ W.heap.size) [] w3 := ⟨⟨hA3.bx, hA3.mb⟩, ⟨hA3.mp, hA3.mr⟩, hA3.ex, Nat.le_refl _⟩
        have hw3 : w.heap.size ≤ w3.heap.size := by omega
        have hm3 : w.heap.size + 1 < w3.heap.size := by omega
        refine range_own (gf := 117) (lb := #[.pointer (some ⟨w2.heap.size + 1, 0, none⟩), .pointer (some ⟨w2.heap.size, 0, none⟩)]) ?hg ?eg (n₀ := w.heap.size) (bs := [w2.heap.size, w2.heap.size + 1]) (Br := w2.heap.size + 1) hw3 hbs (by omega)
          hseq ?hps _ _ hI hIx hIb h00 ?round ?done ?stop
        case hg => rfl
        case eg => exact enters_of Try.func117 (by kernel_rfl) rfl
        case hps => exact fun _ => rfl
        case round =>
          apply Exists.intro
          constructor
          · intro l x W K hK
            dsimp only [encR]
            gi_wp2
            exact hK
          · rintro l pre x W ⟨⟨i0, i2⟩, ⟨i1, i3⟩, i4, i5⟩ _
            have j2 : W.cell? ⟨w.heap.size + 1 + 1, 0, none⟩ = some (.map (some (w.heap.size + 1))) := i2.cell 0
            gi_wp2_with (refine wpListIn_updateMap rfl _ _ _ rfl KI mapT rfl i1 x.1 (.bool true) rfl rfl ?_; intro w5 hM5 hg5)
            refine ⟨KeepsFrom.of_grownBy hg5 (fun j e => by cases e; omega), KpB.grown hg5 (by omega) (by simp; omega) (by omega), ⟨i0.kept hg5 (fun e => by have := Option.some.inj e; omega), i2.kept hg5 (fun e => by have := Option.some.inj e; omega)⟩, ⟨?_, i3.grown hg5 (by
              intro D hD e
              cases e
              have h1 := (i3.at_ _ hD).2
              obtain ⟨es, ck, h2, _⟩ := i1
              rw [h1] at h2; cases h2)⟩, ?_⟩
            · rw [vals_snoc, addAll_snoc]; exact hM5
            · exact ⟨i4.grown hg5 i4.size (fun k e => by cases e; omega), by have h1 := hg5.size; have h2 := i5; omega⟩
        case done =>
          rintro D xs W5 hD rfl ⟨⟨i0, i2⟩, ⟨i1, i3⟩, i4, i5⟩ hK
          rw [upS_vals] at i1
          gi_wp2
          exact ⟨T.ps.length - (j + 1), by omega, j + 1, D :: Ds, ⟨by omega, rfl⟩, by omega, rfl, _, Lib.hid ⟨i0, i2, i1, MarksAt.cons hA3.mr i3 (by omega) (by omega) hK, i4⟩, HS⟩
        case stop =>
          rintro D c pre W5 _ _ h _
          exact h.elim
    · obtain rfl : j = T.ps.length := by omega
      have m0 : W.cell? ⟨w.heap.size + 1 + 1, 0, none⟩ = some (.map (some (w.heap.size + 1))) := HA.out.mb.cell 0
      have hmp := HA.out.mp
      gi_wp2_with (refine wpListIn_rangeMap rfl _ rfl mapT rfl hmp ?_; intro w3 hR3 hx3)
      have hz1 := HA.out.mb.lt
      have hk0 : ∀ r : Int, r ∈ L.map (·.1) → 0 ≤ r ∧ r < T.rs.length := fun r hr => by
        obtain ⟨p, hp, _, h2⟩ := (HK.out r).1 hr
        exact upL_in hok.rv (hok.pv p (List.mem_of_mem_take hp)).2.1.2 r h2
      have HK0 := Lib.hid hk0
      have hA3 := HA.out.ext hx3
      clear hk0 hmp m0
      refine wpIn_loopg (fun g a W' => ∃ (d : List Int) (v10 v33 v34 v35 v36 v37 v38 v39 v40 v41 v42 v43 v44 : Value), a = { tmps := #[.agg #[.slice aa T.rs.length ca, .slice ab T.ps.length cb], .func (.func 108) #[] #[], .pointer (some ⟨w.heap.size, 0, none⟩), undef, .int .i64 0, .pointer (some ⟨w.heap.size + 1 + 1, 0, none⟩), undef, u7, u8, .int .i64 (sumL (cst T.rs) d), v10, .map (some (w.heap.size + 1)), .pointer (some ⟨w.heap.size, 1, none⟩), .slice ab T.ps.length cb, .int .i64 T.ps.length, .int .i64 T.ps.length, .bool false, u17, u18, u19, u20, u21, u22, u23, u24, u25, u26, u27, u28, u29, u30, .map (some (w.heap.size + 1)), .pointer (some ⟨W.heap.size, 0, none⟩), v33, v34, v35, v36, v37, v38, v39, v40, v41, v42, v43, v44, undef], defers := marksOf Ds } ∧ g = leftK L d ∧ Hid (RangeAt encI W' (w.heap.size + 1) W.heap.size L d) ∧ Hid (Cls w.heap.size 25 #[.slice aa T.rs.length ca, .slice ab T.ps.length cb] W' ∧ MarksAt w.heap.size Ds W' ∧ Ext w W')) (leftK L []) ?_ ?_
      · exact ⟨[], undef, undef, undef, undef, undef, undef, undef, undef, undef, undef, undef, undef, undef, rfl, rfl, Lib.hid hR3, Lib.hid ⟨hA3.bx, hA3.mr, hA3.ex⟩⟩
      · rintro g a W' ⟨d, v10, v33, v34, v35, v36, v37, v38, v39, v40, v41, v42, v43, v44, rfl, rfl, HR, HB⟩
        have hR := HR.out
        obtain ⟨hb0, hb1, hb2⟩ := HB.out
        have e0 : W'.cell? ⟨w.heap.size, 0, none⟩ = some (.slice aa T.rs.length ca) := hb0.cell 0
        have hdn := hR.2.2.1
        have hdk := hR.2.2.2
        have hsb := sumL_bd hok hdn (fun r hr => HK0.out r (hdk r hr))
        obtain ⟨s, hs⟩ : ∃ s, sumL (cst T.rs) d = s := ⟨_, rfl⟩
        rw [hs] at hsb ⊢
        have HS := Lib.hid hs
        have HDN := Lib.hid hdn
        have HDK := Lib.hid hdk
        clear hs hdn hdk
        rcases run_nextMap (P := Try.prog) encI_inj hR 0 with ⟨hall, hrun⟩ | ⟨r, v, w4, hrv, hrd, hrun, hR4, hg4, hent⟩
        · have HAll := Lib.hid hall
          clear hall
          gi_wp2_with (refine wpListIn_nextRun rfl _ rfl rfl hrun ?_)
          have hfin : s = AE := by
            rw [← HS.out, ← HAE.out]
            refine alnE_of hok tl HDN.out (fun r => ⟨fun h => ?_, fun h => ?_⟩)
            · have := (HK.out r).1 (HDK.out r h)
              rwa [List.take_length] at this
            · exact HAll.out r ((HK.out r).2 (by rw [List.take_length]; exact h))
          subst hfin
          show LeavesInM Fence.wide 5 Try.prog Try.f57 _ _ (marksOf Ds) .returning W'
          refine leaves_marks (n₀ := w.heap.size) (X := fun W => Below w.heap.size w W) (ownFrom_swept (I := fun (_ : Unit) W => Below w.heap.size w W) (ownFrom_below (Nat.le_refl _) (Nat.le_refl _)) ()) (fun W hW => ?_) Ds W' hb1 hb2
          exact ⟨_, results_tmp rfl _ _ _, rfl, hW⟩
        · have hkey : r ∈ L.map (·.1) := List.mem_map.2 ⟨_, hrv, rfl⟩
          have hkb := HK0.out r hkey
          obtain ⟨i, rfl⟩ : ∃ i : Nat, r = i := ⟨r.toNat, by omega⟩
          have hi : i < T.rs.length := by omega
          have HLK := Lib.hid (leftK_lt hkey hrd)
          have hx4 := hb2.grown hg4 (by omega)
          have hb4 := hb0.kept hg4 (fun e => by have := Option.some.inj e; omega)
          have hm4 := hb1.grown hg4 (fun D hD e => by
            have h1 := (hb1.at_ D hD).2
            obtain ⟨es, ck, si, c0, se, _, h2, _⟩ := hR.2.1
            rw [Option.some.inj e, h2] at h1
            cases h1)
          obtain ⟨bb, oo, rfl, c0, c1⟩ := (hT.r.ext hx4).get i hi
          have hsn := sumL_snoc (cst T.rs) d (i : Int)
          rw [HS.out, show ((i : Int).toNat) = i by omega, cst_get hi] at hsn
          have hcb := (hok.rv.v i hi).2
          obtain ⟨ct, hct⟩ : ∃ ct, T.rs[i].cost = ct := ⟨_, rfl⟩
          rw [hct] at c1 hsn hcb
          have HSN := Lib.hid hsn
          have g0 : w4.cell? ⟨w.heap.size, 0, none⟩ = some (.slice (some ⟨bb, oo, none⟩) T.rs.length ca) := hb4.cell 0
          have henc : encI (i : Int) = .int .i64 i := rfl
          rw [henc] at hrun hent
          clear hct hsn hkey hrd hrv e0 henc
          gi_wp2_with (refine wpListIn_nextRun rfl _ rfl rfl hrun ?_)
          exact ⟨leftK L (d ++ [(i : Int)]), HLK.out, d ++ [(i : Int)], _, _, _, _, _, _, _, _, _, _, _, _, _, by rw [HSN.out], rfl, Lib.hid hR4, Lib.hid ⟨hb4, hm4, hx4⟩⟩
set_option maxRecDepth 100000 in
set_option maxHeartbeats 4000000 in
theorem alone_Alone (a b : Value) (T : Tr) (hok : Ok T) (tl : Py → Bool) (cap : Value) (w : World) (hT : TrAt w a b T)
    (htell : ∀ (x : Py) (W : World), Ext w W → Calls Try.prog 58 #[.agg #[.int .i64 x.id, .int .i64 x.reach, .int .i64 x.w], cap] W fun e W' => e = .returned (.bool (tl x)) ∧ Ext W W') :
    Calls Try.prog 57 #[.agg #[a, b], .func (.func 58) #[] #[cap]] w fun e w' => e = .returned (.int .i64 (alnE T tl)) ∧ Ext w w' := by
  obtain ⟨AE, hAE⟩ : ∃ AE, alnE T tl = AE := ⟨_, rfl⟩
  have HAE := Lib.hid hAE
  rw [hAE]
  clear hAE
  obtain ⟨aa, ca, rfl, hla⟩ := hT.r.len
  obtain ⟨ab, cb, rfl, hlb⟩ := hT.p.len
  have hmk := @run_makeMap Try.prog
  refine (callsIn_wide (n := 5)).1 ?_
  refine callsIn_of_wp_marks Try.func57 rfl trivial ?_ rfl; simp only [Try.ntmps57, List.size_toArray, List.length_cons, List.length_nil, Nat.reduceAdd, Nat.reduceSub, Array.replicate_succ, Array.replicate_zero, List.push_toArray, List.append_toArray, List.nil_append, List.cons_append]
  gi_wp2_with fail
  obtain ⟨W1, hW1⟩ : ∃ W1, ((w.alloc (.cells #[.slice aa T.rs.length ca, .slice ab T.ps.length cb] 25)).alloc (.map #[] 0)).alloc (.cells #[.map (some (w.heap.size + 1))] 101) = W1 := ⟨_, rfl⟩
  obtain ⟨q0, q2, qm, hx1⟩ : Cls w.heap.size 25 #[.slice aa T.rs.length ca, .slice ab T.ps.length cb] W1 ∧ Cls (w.heap.size + 1 + 1) 101 #[.map (some (w.heap.size + 1))] W1 ∧ MapAt encI W1 (w.heap.size + 1) [] ∧ Ext w W1 := by
    rw [← hW1]
    refine ⟨(Cls.new w _ _).ext (by repeat (first | exact Ext.refl _ | assumption | refine Ext.alloc ?_ _ | refine Ext.drew ?_ | refine Ext.drewN _ ?_ | refine Ext.trans ?_ (by assumption))), Cls.newAt _ _ _ (by simp), ?_, (by repeat (first | exact Ext.refl _ | assumption | refine Ext.alloc ?_ _ | refine Ext.drew ?_ | refine Ext.drewN _ ?_ | refine Ext.trans ?_ (by assumption)))⟩
    have h := mapAt_made encI (w.alloc (.cells #[.slice aa T.rs.length ca, .slice ab T.ps.length cb] 25))
    rw [World.size_alloc] at h
    exact h.ext (by repeat (first | exact Ext.refl _ | assumption | refine Ext.alloc ?_ _ | refine Ext.drew ?_ | refine Ext.drewN _ ?_ | refine Ext.trans ?_ (by assumption)))
  try rw [hW1]
  clear hW1 hmk
  refine wpIn_loopg (fun g a W => ∃ (j : Nat) (Ds : List Nat) (L : List (Int × Value)) (u7 u8 u16 u17 u18 u19 u20 u21 u22 u23 u24 u25 u26 u27 u28 u29 u30 : Value), a = { tmps := #[.agg #[.slice aa T.rs.length ca, .slice ab T.ps.length cb], .func (.func 58) #[] #[cap], .pointer (some ⟨w.heap.size, 0, none⟩), undef, .int .i64 0, .pointer (some ⟨w.heap.size + 1 + 1, 0, none⟩), undef, u7, u8, undef, undef, .map (some (w.heap.size + 1)), .pointer (some ⟨w.heap.size, 1, none⟩), .slice ab T.ps.length cb, .int .i64 T.ps.length, .int .i64 j, u16, u17, u18, u19, u20, u21, u22, u23, u24, u25, u26, u27, u28, u29, u30, undef, undef, undef, undef, undef, undef, undef, undef, undef, undef, undef, undef, undef, undef, undef], defers := marksOf Ds } ∧ j ≤ T.ps.length ∧ g = T.ps.length - j ∧ Hid (AL w W (.slice aa T.rs.length ca) (.slice ab T.ps.length cb) Ds L) ∧ Hid (AK T tl j L)) T.ps.length ?_ ?_
  · exact ⟨0, [], [], undef, undef, undef, undef, undef, undef, undef, undef, undef, undef, undef, undef, undef, undef, undef, undef, undef, rfl, Nat.zero_le _, rfl, Lib.hid ⟨q0, q2, qm, marks_nil _ _, hx1⟩, Lib.hid (by simp [AK])⟩
  · rintro g a W ⟨j, Ds, L, u7, u8, u16, u17, u18, u19, u20, u21, u22, u23, u24, u25, u26, u27, u28, u29, u30, rfl, hj, rfl, HA, HK⟩
    by_cases hlt : j < T.ps.length
    · obtain ⟨bb, oo, rfl, c0, c1, c2⟩ := (hT.p.ext HA.out.ex).get j hlt
      have hlp := hok.lp
      have hpv := hok.pv _ (List.getElem_mem hlt)
      have hstep := AK.step hlt HK.out
      have hid : T.ps[j] = ⟨T.ps[j].id, T.ps[j].reach, T.ps[j].w⟩ := rfl
      obtain ⟨x, hxx⟩ : ∃ x, T.ps[j].id = x := ⟨_, rfl⟩
      obtain ⟨y, hyy⟩ : ∃ y, T.ps[j].reach = y := ⟨_, rfl⟩
      obtain ⟨z, hzz⟩ : ∃ z, T.ps[j].w = z := ⟨_, rfl⟩
      rw [hxx] at c0 hid
      rw [hyy] at c1 hid hpv hstep
      rw [hzz] at c2 hid
      rw [hid] at hstep
      obtain ⟨tv, htv⟩ : ∃ tv, tl ⟨x, y, z⟩ = tv := ⟨_, rfl⟩
      rw [htv] at hstep
      have hy1 : y < T.rs.length := hpv.2.1.2
      have hy0 : -1 ≤ y := by have := hpv.2.1.1; omega
      have HTV := Lib.hid htv
      have HST := Lib.hid hstep
      clear hxx hyy hzz hid hpv hstep htv
      have d0 : W.cell? ⟨w.heap.size, 0, none⟩ = some (.slice aa T.rs.length ca) := HA.out.bx.cell 0
      have d1 : W.cell? ⟨w.heap.size, 1, none⟩ = some (.slice (some ⟨bb, oo, none⟩) T.ps.length cb) := HA.out.bx.cell 1
      gi_wp2_with fail
      obtain ⟨Y, hY⟩ : ∃ Y, W.alloc (.cells #[.int .i64 x, .int .i64 y, .int .i64 z] 45) = Y := ⟨_, rfl⟩
      have hxY : Ext W Y := by rw [← hY]; exact (by repeat (first | exact Ext.refl _ | assumption | refine Ext.alloc ?_ _ | refine Ext.drew ?_ | refine Ext.drewN _ ?_ | refine Ext.trans ?_ (by assumption)))
      have hbY : Cls W.heap.size 45 #[.int .i64 x, .int .i64 y, .int .i64 z] Y := by rw [← hY]; exact Cls.new _ _ _
      try rw [hY]
      clear hY d0 d1
      refine ⟨trivial, (callsIn_wide.2 (htell ⟨x, y, z⟩ _ (HA.out.ex.trans hxY))).mono ?_⟩
      rw [HTV.out]
      rintro e w2 ⟨rfl, hx2⟩
      have hA2 := (HA.out.ext hxY).ext hx2
      have hb2 := hbY.ext hx2
      cases tv
      · have hwj : wrap64 ((j : Int) + 1) = ((j + 1 : Nat) : Int) := by rw [IntWalk.wrap64_in _ (by omega)]; omega
        have hs := HST.out
        rw [if_neg (by decide)] at hs
        have HS := Lib.hid hs
        clear hs HST
        gi_wp2
        exact ⟨T.ps.length - (j + 1), by omega, j + 1, Ds, L, _, _, _, _, _, _, _, _, _, _, _, _, _, _, _, _, _, rfl, by omega, rfl, Lib.hid hA2, HS⟩
      · have hs := HST.out
        rw [if_pos rfl] at hs
        have HS := Lib.hid hs
        have e0 : w2.cell? ⟨w.heap.size, 0, none⟩ = some (.slice aa T.rs.length ca) := hA2.bx.cell 0
        have e1 : w2.cell? ⟨w.heap.size, 1, none⟩ = some (.slice (some ⟨bb, oo, none⟩) T.ps.length cb) := hA2.bx.cell 1
        have e2 : w2.cell? ⟨W.heap.size, 1, none⟩ = some (.int .i64 y) := hb2.cell 1
        clear hs HST
        gi_wp2_with fail
        refine ⟨trivial, (callsIn_wide.2 (up_any _ _ y _)).mono ?_⟩
        rintro e w3 ⟨rfl, hw3⟩
        obtain ⟨p0, p1, hx3, hs3⟩ := up_boxes hw3
        have hA3 := hA2.ext hx3
        have hz2 := hA2.ex.size
        have hm2 := hA2.mb.lt
        clear hw3 e0 e1 e2
        gi_wp2_with fail
        have hseq := up_seq w2.heap.size (w2.heap.size + 1) T hok.rv _ _ y hy0 hy1 w w3 hA3.ex _ _ (by omega) (by omega) p0 p1 hT.r
        have hbs : ∀ b ∈ [w2.heap.size, w2.heap.size + 1], b < w3.heap.size := by simp; omega
        have hIb : AbidesBox (w2.heap.size + 1) (fun (pre : List (RIx T.rs.length)) W => (Cls w.heap.size 25 #[.slice aa T.rs.length ca, .slice (some ⟨bb, oo, none⟩) T.ps.length cb] W ∧ Cls (w.heap.size + 1 + 1) 101 #[.map (some (w.heap.size + 1))] W) ∧ (MapAt encI W (w.heap.size + 1) (addAll L (vals pre)) ∧ MarksAt w.heap.size Ds W) ∧ Below w.heap.size w W ∧ w3.heap.size ≤ W.heap.size) :=
          ((abidesBox_cls _ (fun _ => #[.slice aa T.rs.length ca, .slice (some ⟨bb, oo, none⟩) T.ps.length cb]) (by omega)).and (abidesBox_cls _ (fun _ => #[.map (some (w.heap.size + 1))]) (by omega))).and (((mapAt_abide _ (by omega)).and marks_abide).and ((abidesBox_below (by omega) (Nat.le_refl _)).and (abidesBox_size _)))
        have hI : OwnFrom w3.heap.size (fun (pre : List (RIx T.rs.length)) W => (Cls w.heap.size 25 #[.slice aa T.rs.length ca, .slice (some ⟨bb, oo, none⟩) T.ps.length cb] W ∧ Cls (w.heap.size + 1 + 1) 101 #[.map (some (w.heap.size + 1))] W) ∧ (MapAt encI W (w.heap.size + 1) (addAll L (vals pre)) ∧ MarksAt w.heap.size Ds W) ∧ Below w.heap.size w W ∧ w3.heap.size ≤ W.heap.size) :=
          OwnFrom.and (OwnFrom.and ((Cls.own _ _ (fun _ => #[.slice aa T.rs.length ca, .slice (some ⟨bb, oo, none⟩) T.ps.length cb])).from _) ((Cls.own _ _ (fun _ => #[.map (some (w.heap.size + 1))])).from _)) (OwnFrom.and (OwnFrom.and (mapAt_own _ (by omega)) (marks_own (fun D hD => hA3.mr.lt D hD))) (OwnFrom.and (ownFrom_below (Nat.le_refl _) hA3.ex.size) (ownFrom_size _ _)))
        have hIx : ∀ c : Code, OwnFrom w3.heap.size (fun (_ : List (RIx T.rs.length)) (_ : World) => False) := fun c => fun _ _ _ _ hs _ _ => hs
        have h00 : (fun (pre : List (RIx T.rs.length)) W => (Cls w.heap.size 25 #[.slice aa T.rs.length ca, .slice (some ⟨bb, oo, none⟩) T.ps.length cb] W ∧ Cls (w.heap.size + 1 + 1) 101 #[.map (some (w.heap.size + 1))] W) ∧ (MapAt encI W (w.heap.size + 1) (addAll L (vals pre)) ∧ MarksAt w.heap.size Ds W) ∧ Below w.heap.size w W ∧ w3.heap.size ≤ W.heap.size) [] w3 := ⟨⟨hA3.bx, hA3.mb⟩, ⟨hA3.mp, hA3.mr⟩, hA3.ex, Nat.le_refl _⟩
        have hw3 : w.heap.size ≤ w3.heap.size := by omega
        have hm3 : w.heap.size + 1 < w3.heap.size := by omega
        refine range_own (gf := 117) (lb := #[.pointer (some ⟨w2.heap.size + 1, 0, none⟩), .pointer (some ⟨w2.heap.size, 0, none⟩)]) ?hg ?eg (n₀ := w.heap.size) (bs := [w2.heap.size, w2.heap.size + 1]) (Br := w2.heap.size + 1) hw3 hbs (by omega)
          hseq ?hps _ _ hI hIx hIb h00 ?round ?done ?stop
        case hg => rfl
        case eg => exact enters_of Try.func117 (by kernel_rfl) rfl
        case hps => exact fun _ => rfl
        case round =>
          apply Exists.intro
          constructor
          · intro l x W K hK
            dsimp only [encR]
            gi_wp2
            exact hK
          · rintro l pre x W ⟨⟨i0, i2⟩, ⟨i1, i3⟩, i4, i5⟩ _
            have j2 : W.cell? ⟨w.heap.size + 1 + 1, 0, none⟩ = some (.map (some (w.heap.size + 1))) := i2.cell 0
            gi_wp2_with (refine wpListIn_updateMap rfl _ _ _ rfl KI mapT rfl i1 x.1 (.bool true) rfl rfl ?_; intro w5 hM5 hg5)
            refine ⟨KeepsFrom.of_grownBy hg5 (fun j e => by cases e; omega), KpB.grown hg5 (by omega) (by simp; omega) (by omega), ⟨i0.kept hg5 (fun e => by have := Option.some.inj e; omega), i2.kept hg5 (fun e => by have := Option.some.inj e; omega)⟩, ⟨?_, i3.grown hg5 (by
              intro D hD e
              cases e
              have h1 := (i3.at_ _ hD).2
              obtain ⟨es, ck, h2, _⟩ := i1
              rw [h1] at h2; cases h2)⟩, ?_⟩
            · rw [vals_snoc, addAll_snoc]; exact hM5
            · exact ⟨i4.grown hg5 i4.size (fun k e => by cases e; omega), by have h1 := hg5.size; have h2 := i5; omega⟩
        case done =>
          rintro D xs W5 hD rfl ⟨⟨i0, i2⟩, ⟨i1, i3⟩, i4, i5⟩ hK
          rw [upS_vals] at i1
          gi_wp2
          exact ⟨T.ps.length - (j + 1), by omega, j + 1, D :: Ds, ⟨by omega, rfl⟩, by omega, rfl, _, Lib.hid ⟨i0, i2, i1, MarksAt.cons hA3.mr i3 (by omega) (by omega) hK, i4⟩, HS⟩
        case stop =>
          rintro D c pre W5 _ _ h _
          exact h.elim
    · obtain rfl : j = T.ps.length := by omega
      have m0 : W.cell? ⟨w.heap.size + 1 + 1, 0, none⟩ = some (.map (some (w.heap.size + 1))) := HA.out.mb.cell 0
      have hmp := HA.out.mp
      gi_wp2_with (refine wpListIn_rangeMap rfl _ rfl mapT rfl hmp ?_; intro w3 hR3 hx3)
      have hz1 := HA.out.mb.lt
      have hk0 : ∀ r : Int, r ∈ L.map (·.1) → 0 ≤ r ∧ r < T.rs.length := fun r hr => by
        obtain ⟨p, hp, _, h2⟩ := (HK.out r).1 hr
        exact upL_in hok.rv (hok.pv p (List.mem_of_mem_take hp)).2.1.2 r h2
      have HK0 := Lib.hid hk0
      have hA3 := HA.out.ext hx3
      clear hk0 hmp m0
      refine wpIn_loopg (fun g a W' => ∃ (d : List Int) (v10 v33 v34 v35 v36 v37 v38 v39 v40 v41 v42 v43 v44 : Value), a = { tmps := #[.agg #[.slice aa T.rs.length ca, .slice ab T.ps.length cb], .func (.func 58) #[] #[cap], .pointer (some ⟨w.heap.size, 0, none⟩), undef, .int .i64 0, .pointer (some ⟨w.heap.size + 1 + 1, 0, none⟩), undef, u7, u8, .int .i64 (sumL (cst T.rs) d), v10, .map (some (w.heap.size + 1)), .pointer (some ⟨w.heap.size, 1, none⟩), .slice ab T.ps.length cb, .int .i64 T.ps.length, .int .i64 T.ps.length, .bool false, u17, u18, u19, u20, u21, u22, u23, u24, u25, u26, u27, u28, u29, u30, .map (some (w.heap.size + 1)), .pointer (some ⟨W.heap.size, 0, none⟩), v33, v34, v35, v36, v37, v38, v39, v40, v41, v42, v43, v44, undef], defers := marksOf Ds } ∧ g = leftK L d ∧ Hid (RangeAt encI W' (w.heap.size + 1) W.heap.size L d) ∧ Hid (Cls w.heap.size 25 #[.slice aa T.rs.length ca, .slice ab T.ps.length cb] W' ∧ MarksAt w.heap.size Ds W' ∧ Ext w W')) (leftK L []) ?_ ?_
      · exact ⟨[], undef, undef, undef, undef, undef, undef, undef, undef, undef, undef, undef, undef, undef, rfl, rfl, Lib.hid hR3, Lib.hid ⟨hA3.bx, hA3.mr, hA3.ex⟩⟩
      · rintro g a W' ⟨d, v10, v33, v34, v35, v36, v37, v38, v39, v40, v41, v42, v43, v44, rfl, rfl, HR, HB⟩
        have hR := HR.out
        obtain ⟨hb0, hb1, hb2⟩ := HB.out
        have e0 : W'.cell? ⟨w.heap.size, 0, none⟩ = some (.slice aa T.rs.length ca) := hb0.cell 0
        have hdn := hR.2.2.1
        have hdk := hR.2.2.2
        have hsb := sumL_bd hok hdn (fun r hr => HK0.out r (hdk r hr))
        obtain ⟨s, hs⟩ : ∃ s, sumL (cst T.rs) d = s := ⟨_, rfl⟩
        rw [hs] at hsb ⊢
        have HS := Lib.hid hs
        have HDN := Lib.hid hdn
        have HDK := Lib.hid hdk
        clear hs hdn hdk
        rcases run_nextMap (P := Try.prog) encI_inj hR 0 with ⟨hall, hrun⟩ | ⟨r, v, w4, hrv, hrd, hrun, hR4, hg4, hent⟩
        · have HAll := Lib.hid hall
          clear hall
          gi_wp2_with (refine wpListIn_nextRun rfl _ rfl rfl hrun ?_)
          have hfin : s = AE := by
            rw [← HS.out, ← HAE.out]
            refine alnE_of hok tl HDN.out (fun r => ⟨fun h => ?_, fun h => ?_⟩)
            · have := (HK.out r).1 (HDK.out r h)
              rwa [List.take_length] at this
            · exact HAll.out r ((HK.out r).2 (by rw [List.take_length]; exact h))
          subst hfin
          show LeavesInM Fence.wide 5 Try.prog Try.f57 _ _ (marksOf Ds) .returning W'
          refine leaves_marks (n₀ := w.heap.size) (X := fun W => Below w.heap.size w W) (ownFrom_swept (I := fun (_ : Unit) W => Below w.heap.size w W) (ownFrom_below (Nat.le_refl _) (Nat.le_refl _)) ()) (fun W hW => ?_) Ds W' hb1 hb2
          exact ⟨_, results_tmp rfl _ _ _, rfl, hW⟩
        · have hkey : r ∈ L.map (·.1) := List.mem_map.2 ⟨_, hrv, rfl⟩
          have hkb := HK0.out r hkey
          obtain ⟨i, rfl⟩ : ∃ i : Nat, r = i := ⟨r.toNat, by omega⟩
          have hi : i < T.rs.length := by omega
          have HLK := Lib.hid (leftK_lt hkey hrd)
          have hx4 := hb2.grown hg4 (by omega)
          have hb4 := hb0.kept hg4 (fun e => by have := Option.some.inj e; omega)
          have hm4 := hb1.grown hg4 (fun D hD e => by
            have h1 := (hb1.at_ D hD).2
            obtain ⟨es, ck, si, c0, se, _, h2, _⟩ := hR.2.1
            rw [Option.some.inj e, h2] at h1
            cases h1)
          obtain ⟨bb, oo, rfl, c0, c1⟩ := (hT.r.ext hx4).get i hi
          have hsn := sumL_snoc (cst T.rs) d (i : Int)
          rw [HS.out, show ((i : Int).toNat) = i by omega, cst_get hi] at hsn
          have hcb := (hok.rv.v i hi).2
          obtain ⟨ct, hct⟩ : ∃ ct, T.rs[i].cost = ct := ⟨_, rfl⟩
          rw [hct] at c1 hsn hcb
          have HSN := Lib.hid hsn
          have g0 : w4.cell? ⟨w.heap.size, 0, none⟩ = some (.slice (some ⟨bb, oo, none⟩) T.rs.length ca) := hb4.cell 0
          have henc : encI (i : Int) = .int .i64 i := rfl
          rw [henc] at hrun hent
          clear hct hsn hkey hrd hrv e0 henc
          gi_wp2_with (refine wpListIn_nextRun rfl _ rfl rfl hrun ?_)
          exact ⟨leftK L (d ++ [(i : Int)]), HLK.out, d ++ [(i : Int)], _, _, _, _, _, _, _, _, _, _, _, _, _, by rw [HSN.out], rfl, Lib.hid hR4, Lib.hid ⟨hb4, hm4, hx4⟩⟩
set_option maxRecDepth 100000 in
set_option maxHeartbeats 4000000 in
theorem alone_Saved (a b : Value) (T : Tr) (hok : Ok T) (tl : Py → Bool) (cap : Value) (w : World) (hT : TrAt w a b T)
    (htell : ∀ (x : Py) (W : World), Ext w W → Calls Try.prog 74 #[.agg #[.int .i64 x.id, .int .i64 x.reach, .int .i64 x.w], cap] W fun e W' => e = .returned (.bool (tl x)) ∧ Ext W W') :
    Calls Try.prog 57 #[.agg #[a, b], .func (.func 74) #[] #[cap]] w fun e w' => e = .returned (.int .i64 (alnE T tl)) ∧ Ext w w' := by
  obtain ⟨AE, hAE⟩ : ∃ AE, alnE T tl = AE := ⟨_, rfl⟩
  have HAE := Lib.hid hAE
  rw [hAE]
  clear hAE
  obtain ⟨aa, ca, rfl, hla⟩ := hT.r.len
  obtain ⟨ab, cb, rfl, hlb⟩ := hT.p.len
  have hmk := @run_makeMap Try.prog
  refine (callsIn_wide (n := 5)).1 ?_
  refine callsIn_of_wp_marks Try.func57 rfl trivial ?_ rfl; simp only [Try.ntmps57, List.size_toArray, List.length_cons, List.length_nil, Nat.reduceAdd, Nat.reduceSub, Array.replicate_succ, Array.replicate_zero, List.push_toArray, List.append_toArray, List.nil_append, List.cons_append]
  gi_wp2_with fail
  obtain ⟨W1, hW1⟩ : ∃ W1, ((w.alloc (.cells #[.slice aa T.rs.length ca, .slice ab T.ps.length cb] 25)).alloc (.map #[] 0)).alloc (.cells #[.map (some (w.heap.size + 1))] 101) = W1 := ⟨_, rfl⟩
  obtain ⟨q0, q2, qm, hx1⟩ : Cls w.heap.size 25 #[.slice aa T.rs.length ca, .slice ab T.ps.length cb] W1 ∧ Cls (w.heap.size + 1 + 1) 101 #[.map (some (w.heap.size + 1))] W1 ∧ MapAt encI W1 (w.heap.size + 1) [] ∧ Ext w W1 := by
    rw [← hW1]
    refine ⟨(Cls.new w _ _).ext (by repeat (first | exact Ext.refl _ | assumption | refine Ext.alloc ?_ _ | refine Ext.drew ?_ | refine Ext.drewN _ ?_ | refine Ext.trans ?_ (by assumption))), Cls.newAt _ _ _ (by simp), ?_, (by repeat (first | exact Ext.refl _ | assumption | refine Ext.alloc ?_ _ | refine Ext.drew ?_ | refine Ext.drewN _ ?_ | refine Ext.trans ?_ (by assumption)))⟩
    have h := mapAt_made encI (w.alloc (.cells #[.slice aa T.rs.length ca, .slice ab T.ps.length cb] 25))
    rw [World.size_alloc] at h
    exact h.ext (by repeat (first | exact Ext.refl _ | assumption | refine Ext.alloc ?_ _ | refine Ext.drew ?_ | refine Ext.drewN _ ?_ | refine Ext.trans ?_ (by assumption)))
  try rw [hW1]
  clear hW1 hmk
  refine wpIn_loopg (fun g a W => ∃ (j : Nat) (Ds : List Nat) (L : List (Int × Value)) (u7 u8 u16 u17 u18 u19 u20 u21 u22 u23 u24 u25 u26 u27 u28 u29 u30 : Value), a = { tmps := #[.agg #[.slice aa T.rs.length ca, .slice ab T.ps.length cb], .func (.func 74) #[] #[cap], .pointer (some ⟨w.heap.size, 0, none⟩), undef, .int .i64 0, .pointer (some ⟨w.heap.size + 1 + 1, 0, none⟩), undef, u7, u8, undef, undef, .map (some (w.heap.size + 1)), .pointer (some ⟨w.heap.size, 1, none⟩), .slice ab T.ps.length cb, .int .i64 T.ps.length, .int .i64 j, u16, u17, u18, u19, u20, u21, u22, u23, u24, u25, u26, u27, u28, u29, u30, undef, undef, undef, undef, undef, undef, undef, undef, undef, undef, undef, undef, undef, undef, undef], defers := marksOf Ds } ∧ j ≤ T.ps.length ∧ g = T.ps.length - j ∧ Hid (AL w W (.slice aa T.rs.length ca) (.slice ab T.ps.length cb) Ds L) ∧ Hid (AK T tl j L)) T.ps.length ?_ ?_
  · exact ⟨0, [], [], undef, undef, undef, undef, undef, undef, undef, undef, undef, undef, undef, undef, undef, undef, undef, undef, undef, rfl, Nat.zero_le _, rfl, Lib.hid ⟨q0, q2, qm, marks_nil _ _, hx1⟩, Lib.hid (by simp [AK])⟩
  · rintro g a W ⟨j, Ds, L, u7, u8, u16, u17, u18, u19, u20, u21, u22, u23, u24, u25, u26, u27, u28, u29, u30, rfl, hj, rfl, HA, HK⟩
    by_cases hlt : j < T.ps.length
    · obtain ⟨bb, oo, rfl, c0, c1, c2⟩ := (hT.p.ext HA.out.ex).get j hlt
      have hlp := hok.lp
      have hpv := hok.pv _ (List.getElem_mem hlt)
      have hstep := AK.step hlt HK.out
      have hid : T.ps[j] = ⟨T.ps[j].id, T.ps[j].reach, T.ps[j].w⟩ := rfl
      obtain ⟨x, hxx⟩ : ∃ x, T.ps[j].id = x := ⟨_, rfl⟩
      obtain ⟨y, hyy⟩ : ∃ y, T.ps[j].reach = y := ⟨_, rfl⟩
      obtain ⟨z, hzz⟩ : ∃ z, T.ps[j].w = z := ⟨_, rfl⟩
      rw [hxx] at c0 hid
      rw [hyy] at c1 hid hpv hstep
      rw [hzz] at c2 hid
      rw [hid] at hstep
      obtain ⟨tv, htv⟩ : ∃ tv, tl ⟨x, y, z⟩ = tv := ⟨_, rfl⟩
      rw [htv] at hstep
      have hy1 : y < T.rs.length := hpv.2.1.2
      have hy0 : -1 ≤ y := by have := hpv.2.1.1; omega
      have HTV := Lib.hid htv
      have HST := Lib.hid hstep
      clear hxx hyy hzz hid hpv hstep htv
      have d0 : W.cell? ⟨w.heap.size, 0, none⟩ = some (.slice aa T.rs.length ca) := HA.out.bx.cell 0
      have d1 : W.cell? ⟨w.heap.size, 1, none⟩ = some (.slice (some ⟨bb, oo, none⟩) T.ps.length cb) := HA.out.bx.cell 1
      gi_wp2_with fail
      obtain ⟨Y, hY⟩ : ∃ Y, W.alloc (.cells #[.int .i64 x, .int .i64 y, .int .i64 z] 45) = Y := ⟨_, rfl⟩
      have hxY : Ext W Y := by rw [← hY]; exact (by repeat (first | exact Ext.refl _ | assumption | refine Ext.alloc ?_ _ | refine Ext.drew ?_ | refine Ext.drewN _ ?_ | refine Ext.trans ?_ (by assumption)))
      have hbY : Cls W.heap.size 45 #[.int .i64 x, .int .i64 y, .int .i64 z] Y := by rw [← hY]; exact Cls.new _ _ _
      try rw [hY]
      clear hY d0 d1
      refine ⟨trivial, (callsIn_wide.2 (htell ⟨x, y, z⟩ _ (HA.out.ex.trans hxY))).mono ?_⟩
      rw [HTV.out]
      rintro e w2 ⟨rfl, hx2⟩
      have hA2 := (HA.out.ext hxY).ext hx2
      have hb2 := hbY.ext hx2
      cases tv
      · have hwj : wrap64 ((j : Int) + 1) = ((j + 1 : Nat) : Int) := by rw [IntWalk.wrap64_in _ (by omega)]; omega
        have hs := HST.out
        rw [if_neg (by decide)] at hs
        have HS := Lib.hid hs
        clear hs HST
        gi_wp2
        exact ⟨T.ps.length - (j + 1), by omega, j + 1, Ds, L, _, _, _, _, _, _, _, _, _, _, _, _, _, _, _, _, _, rfl, by omega, rfl, Lib.hid hA2, HS⟩
      · have hs := HST.out
        rw [if_pos rfl] at hs
        have HS := Lib.hid hs
        have e0 : w2.cell? ⟨w.heap.size, 0, none⟩ = some (.slice aa T.rs.length ca) := hA2.bx.cell 0
        have e1 : w2.cell? ⟨w.heap.size, 1, none⟩ = some (.slice (some ⟨bb, oo, none⟩) T.ps.length cb) := hA2.bx.cell 1
        have e2 : w2.cell? ⟨W.heap.size, 1, none⟩ = some (.int .i64 y) := hb2.cell 1
        clear hs HST
        gi_wp2_with fail
        refine ⟨trivial, (callsIn_wide.2 (up_any _ _ y _)).mono ?_⟩
        rintro e w3 ⟨rfl, hw3⟩
        obtain ⟨p0, p1, hx3, hs3⟩ := up_boxes hw3
        have hA3 := hA2.ext hx3
        have hz2 := hA2.ex.size
        have hm2 := hA2.mb.lt
        clear hw3 e0 e1 e2
        gi_wp2_with fail
        have hseq := up_seq w2.heap.size (w2.heap.size + 1) T hok.rv _ _ y hy0 hy1 w w3 hA3.ex _ _ (by omega) (by omega) p0 p1 hT.r
        have hbs : ∀ b ∈ [w2.heap.size, w2.heap.size + 1], b < w3.heap.size := by simp; omega
        have hIb : AbidesBox (w2.heap.size + 1) (fun (pre : List (RIx T.rs.length)) W => (Cls w.heap.size 25 #[.slice aa T.rs.length ca, .slice (some ⟨bb, oo, none⟩) T.ps.length cb] W ∧ Cls (w.heap.size + 1 + 1) 101 #[.map (some (w.heap.size + 1))] W) ∧ (MapAt encI W (w.heap.size + 1) (addAll L (vals pre)) ∧ MarksAt w.heap.size Ds W) ∧ Below w.heap.size w W ∧ w3.heap.size ≤ W.heap.size) :=
          ((abidesBox_cls _ (fun _ => #[.slice aa T.rs.length ca, .slice (some ⟨bb, oo, none⟩) T.ps.length cb]) (by omega)).and (abidesBox_cls _ (fun _ => #[.map (some (w.heap.size + 1))]) (by omega))).and (((mapAt_abide _ (by omega)).and marks_abide).and ((abidesBox_below (by omega) (Nat.le_refl _)).and (abidesBox_size _)))
        have hI : OwnFrom w3.heap.size (fun (pre : List (RIx T.rs.length)) W => (Cls w.heap.size 25 #[.slice aa T.rs.length ca, .slice (some ⟨bb, oo, none⟩) T.ps.length cb] W ∧ Cls (w.heap.size + 1 + 1) 101 #[.map (some (w.heap.size + 1))] W) ∧ (MapAt encI W (w.heap.size + 1) (addAll L (vals pre)) ∧ MarksAt w.heap.size Ds W) ∧ Below w.heap.size w W ∧ w3.heap.size ≤ W.heap.size) :=
          OwnFrom.and (OwnFrom.and ((Cls.own _ _ (fun _ => #[.slice aa T.rs.length ca, .slice (some ⟨bb, oo, none⟩) T.ps.length cb])).from _) ((Cls.own _ _ (fun _ => #[.map (some (w.heap.size + 1))])).from _)) (OwnFrom.and (OwnFrom.and (mapAt_own _ (by omega)) (marks_own (fun D hD => hA3.mr.lt D hD))) (OwnFrom.and (ownFrom_below (Nat.le_refl _) hA3.ex.size) (ownFrom_size _ _)))
        have hIx : ∀ c : Code, OwnFrom w3.heap.size (fun (_ : List (RIx T.rs.length)) (_ : World) => False) := fun c => fun _ _ _ _ hs _ _ => hs
        have h00 : (fun (pre : List (RIx T.rs.length)) W => (Cls w.heap.size 25 #[.slice aa T.rs.length ca, .slice (some ⟨bb, oo, none⟩) T.ps.length cb] W ∧ Cls (w.heap.size + 1 + 1) 101 #[.map (some (w.heap.size + 1))] W) ∧ (MapAt encI W (w.heap.size + 1) (addAll L (vals pre)) ∧ MarksAt w.heap.size Ds W) ∧ Below w.heap.size w W ∧ w3.heap.size ≤ W.heap.size) [] w3 := ⟨⟨hA3.bx, hA3.mb⟩, ⟨hA3.mp, hA3.mr⟩, hA3.ex, Nat.le_refl _⟩
        have hw3 : w.heap.size ≤ w3.heap.size := by omega
        have hm3 : w.heap.size + 1 < w3.heap.size := by omega
        refine range_own (gf := 117) (lb := #[.pointer (some ⟨w2.heap.size + 1, 0, none⟩), .pointer (some ⟨w2.heap.size, 0, none⟩)]) ?hg ?eg (n₀ := w.heap.size) (bs := [w2.heap.size, w2.heap.size + 1]) (Br := w2.heap.size + 1) hw3 hbs (by omega)
          hseq ?hps _ _ hI hIx hIb h00 ?round ?done ?stop
        case hg => rfl
        case eg => exact enters_of Try.func117 (by kernel_rfl) rfl
        case hps => exact fun _ => rfl
        case round =>
          apply Exists.intro
          constructor
          · intro l x W K hK
            dsimp only [encR]
            gi_wp2
            exact hK
          · rintro l pre x W ⟨⟨i0, i2⟩, ⟨i1, i3⟩, i4, i5⟩ _
            have j2 : W.cell? ⟨w.heap.size + 1 + 1, 0, none⟩ = some (.map (some (w.heap.size + 1))) := i2.cell 0
            gi_wp2_with (refine wpListIn_updateMap rfl _ _ _ rfl KI mapT rfl i1 x.1 (.bool true) rfl rfl ?_; intro w5 hM5 hg5)
            refine ⟨KeepsFrom.of_grownBy hg5 (fun j e => by cases e; omega), KpB.grown hg5 (by omega) (by simp; omega) (by omega), ⟨i0.kept hg5 (fun e => by have := Option.some.inj e; omega), i2.kept hg5 (fun e => by have := Option.some.inj e; omega)⟩, ⟨?_, i3.grown hg5 (by
              intro D hD e
              cases e
              have h1 := (i3.at_ _ hD).2
              obtain ⟨es, ck, h2, _⟩ := i1
              rw [h1] at h2; cases h2)⟩, ?_⟩
            · rw [vals_snoc, addAll_snoc]; exact hM5
            · exact ⟨i4.grown hg5 i4.size (fun k e => by cases e; omega), by have h1 := hg5.size; have h2 := i5; omega⟩
        case done =>
          rintro D xs W5 hD rfl ⟨⟨i0, i2⟩, ⟨i1, i3⟩, i4, i5⟩ hK
          rw [upS_vals] at i1
          gi_wp2
          exact ⟨T.ps.length - (j + 1), by omega, j + 1, D :: Ds, ⟨by omega, rfl⟩, by omega, rfl, _, Lib.hid ⟨i0, i2, i1, MarksAt.cons hA3.mr i3 (by omega) (by omega) hK, i4⟩, HS⟩
        case stop =>
          rintro D c pre W5 _ _ h _
          exact h.elim
    · obtain rfl : j = T.ps.length := by omega
      have m0 : W.cell? ⟨w.heap.size + 1 + 1, 0, none⟩ = some (.map (some (w.heap.size + 1))) := HA.out.mb.cell 0
      have hmp := HA.out.mp
      gi_wp2_with (refine wpListIn_rangeMap rfl _ rfl mapT rfl hmp ?_; intro w3 hR3 hx3)
      have hz1 := HA.out.mb.lt
      have hk0 : ∀ r : Int, r ∈ L.map (·.1) → 0 ≤ r ∧ r < T.rs.length := fun r hr => by
        obtain ⟨p, hp, _, h2⟩ := (HK.out r).1 hr
        exact upL_in hok.rv (hok.pv p (List.mem_of_mem_take hp)).2.1.2 r h2
      have HK0 := Lib.hid hk0
      have hA3 := HA.out.ext hx3
      clear hk0 hmp m0
      refine wpIn_loopg (fun g a W' => ∃ (d : List Int) (v10 v33 v34 v35 v36 v37 v38 v39 v40 v41 v42 v43 v44 : Value), a = { tmps := #[.agg #[.slice aa T.rs.length ca, .slice ab T.ps.length cb], .func (.func 74) #[] #[cap], .pointer (some ⟨w.heap.size, 0, none⟩), undef, .int .i64 0, .pointer (some ⟨w.heap.size + 1 + 1, 0, none⟩), undef, u7, u8, .int .i64 (sumL (cst T.rs) d), v10, .map (some (w.heap.size + 1)), .pointer (some ⟨w.heap.size, 1, none⟩), .slice ab T.ps.length cb, .int .i64 T.ps.length, .int .i64 T.ps.length, .bool false, u17, u18, u19, u20, u21, u22, u23, u24, u25, u26, u27, u28, u29, u30, .map (some (w.heap.size + 1)), .pointer (some ⟨W.heap.size, 0, none⟩), v33, v34, v35, v36, v37, v38, v39, v40, v41, v42, v43, v44, undef], defers := marksOf Ds } ∧ g = leftK L d ∧ Hid (RangeAt encI W' (w.heap.size + 1) W.heap.size L d) ∧ Hid (Cls w.heap.size 25 #[.slice aa T.rs.length ca, .slice ab T.ps.length cb] W' ∧ MarksAt w.heap.size Ds W' ∧ Ext w W')) (leftK L []) ?_ ?_
      · exact ⟨[], undef, undef, undef, undef, undef, undef, undef, undef, undef, undef, undef, undef, undef, rfl, rfl, Lib.hid hR3, Lib.hid ⟨hA3.bx, hA3.mr, hA3.ex⟩⟩
      · rintro g a W' ⟨d, v10, v33, v34, v35, v36, v37, v38, v39, v40, v41, v42, v43, v44, rfl, rfl, HR, HB⟩
        have hR := HR.out
        obtain ⟨hb0, hb1, hb2⟩ := HB.out
        have e0 : W'.cell? ⟨w.heap.size, 0, none⟩ = some (.slice aa T.rs.length ca) := hb0.cell 0
        have hdn := hR.2.2.1
        have hdk := hR.2.2.2
        have hsb := sumL_bd hok hdn (fun r hr => HK0.out r (hdk r hr))
        obtain ⟨s, hs⟩ : ∃ s, sumL (cst T.rs) d = s := ⟨_, rfl⟩
        rw [hs] at hsb ⊢
        have HS := Lib.hid hs
        have HDN := Lib.hid hdn
        have HDK := Lib.hid hdk
        clear hs hdn hdk
        rcases run_nextMap (P := Try.prog) encI_inj hR 0 with ⟨hall, hrun⟩ | ⟨r, v, w4, hrv, hrd, hrun, hR4, hg4, hent⟩
        · have HAll := Lib.hid hall
          clear hall
          gi_wp2_with (refine wpListIn_nextRun rfl _ rfl rfl hrun ?_)
          have hfin : s = AE := by
            rw [← HS.out, ← HAE.out]
            refine alnE_of hok tl HDN.out (fun r => ⟨fun h => ?_, fun h => ?_⟩)
            · have := (HK.out r).1 (HDK.out r h)
              rwa [List.take_length] at this
            · exact HAll.out r ((HK.out r).2 (by rw [List.take_length]; exact h))
          subst hfin
          show LeavesInM Fence.wide 5 Try.prog Try.f57 _ _ (marksOf Ds) .returning W'
          refine leaves_marks (n₀ := w.heap.size) (X := fun W => Below w.heap.size w W) (ownFrom_swept (I := fun (_ : Unit) W => Below w.heap.size w W) (ownFrom_below (Nat.le_refl _) (Nat.le_refl _)) ()) (fun W hW => ?_) Ds W' hb1 hb2
          exact ⟨_, results_tmp rfl _ _ _, rfl, hW⟩
        · have hkey : r ∈ L.map (·.1) := List.mem_map.2 ⟨_, hrv, rfl⟩
          have hkb := HK0.out r hkey
          obtain ⟨i, rfl⟩ : ∃ i : Nat, r = i := ⟨r.toNat, by omega⟩
          have hi : i < T.rs.length := by omega
          have HLK := Lib.hid (leftK_lt hkey hrd)
          have hx4 := hb2.grown hg4 (by omega)
          have hb4 := hb0.kept hg4 (fun e => by have := Option.some.inj e; omega)
          have hm4 := hb1.grown hg4 (fun D hD e => by
            have h1 := (hb1.at_ D hD).2
            obtain ⟨es, ck, si, c0, se, _, h2, _⟩ := hR.2.1
            rw [Option.some.inj e, h2] at h1
            cases h1)
          obtain ⟨bb, oo, rfl, c0, c1⟩ := (hT.r.ext hx4).get i hi
          have hsn := sumL_snoc (cst T.rs) d (i : Int)
          rw [HS.out, show ((i : Int).toNat) = i by omega, cst_get hi] at hsn
          have hcb := (hok.rv.v i hi).2
          obtain ⟨ct, hct⟩ : ∃ ct, T.rs[i].cost = ct := ⟨_, rfl⟩
          rw [hct] at c1 hsn hcb
          have HSN := Lib.hid hsn
          have g0 : w4.cell? ⟨w.heap.size, 0, none⟩ = some (.slice (some ⟨bb, oo, none⟩) T.rs.length ca) := hb4.cell 0
          have henc : encI (i : Int) = .int .i64 i := rfl
          rw [henc] at hrun hent
          clear hct hsn hkey hrd hrv e0 henc
          gi_wp2_with (refine wpListIn_nextRun rfl _ rfl rfl hrun ?_)
          exact ⟨leftK L (d ++ [(i : Int)]), HLK.out, d ++ [(i : Int)], _, _, _, _, _, _, _, _, _, _, _, _, _, by rw [HSN.out], rfl, Lib.hid hR4, Lib.hid ⟨hb4, hm4, hx4⟩⟩
set_option maxRecDepth 100000 in
set_option maxHeartbeats 4000000 in
theorem alone_single (a b : Value) (T : Tr) (hok : Ok T) (tl : Py → Bool) (cap : Value) (w : World) (hT : TrAt w a b T)
    (htell : ∀ (x : Py) (W : World), Ext w W → Calls Try.prog 107 #[.agg #[.int .i64 x.id, .int .i64 x.reach, .int .i64 x.w], cap] W fun e W' => e = .returned (.bool (tl x)) ∧ Ext W W') :
    Calls Try.prog 57 #[.agg #[a, b], .func (.func 107) #[] #[cap]] w fun e w' => e = .returned (.int .i64 (alnE T tl)) ∧ Ext w w' := by
  obtain ⟨AE, hAE⟩ : ∃ AE, alnE T tl = AE := ⟨_, rfl⟩
  have HAE := Lib.hid hAE
  rw [hAE]
  clear hAE
  obtain ⟨aa, ca, rfl, hla⟩ := hT.r.len
  obtain ⟨ab, cb, rfl, hlb⟩ := hT.p.len
  have hmk := @run_makeMap Try.prog
  refine (callsIn_wide (n := 5)).1 ?_
  refine callsIn_of_wp_marks Try.func57 rfl trivial ?_ rfl; simp only [Try.ntmps57, List.size_toArray, List.length_cons, List.length_nil, Nat.reduceAdd, Nat.reduceSub, Array.replicate_succ, Array.replicate_zero, List.push_toArray, List.append_toArray, List.nil_append, List.cons_append]
  gi_wp2_with fail
  obtain ⟨W1, hW1⟩ : ∃ W1, ((w.alloc (.cells #[.slice aa T.rs.length ca, .slice ab T.ps.length cb] 25)).alloc (.map #[] 0)).alloc (.cells #[.map (some (w.heap.size + 1))] 101) = W1 := ⟨_, rfl⟩
  obtain ⟨q0, q2, qm, hx1⟩ : Cls w.heap.size 25 #[.slice aa T.rs.length ca, .slice ab T.ps.length cb] W1 ∧ Cls (w.heap.size + 1 + 1) 101 #[.map (some (w.heap.size + 1))] W1 ∧ MapAt encI W1 (w.heap.size + 1) [] ∧ Ext w W1 := by
    rw [← hW1]
    refine ⟨(Cls.new w _ _).ext (by repeat (first | exact Ext.refl _ | assumption | refine Ext.alloc ?_ _ | refine Ext.drew ?_ | refine Ext.drewN _ ?_ | refine Ext.trans ?_ (by assumption))), Cls.newAt _ _ _ (by simp), ?_, (by repeat (first | exact Ext.refl _ | assumption | refine Ext.alloc ?_ _ | refine Ext.drew ?_ | refine Ext.drewN _ ?_ | refine Ext.trans ?_ (by assumption)))⟩
    have h := mapAt_made encI (w.alloc (.cells #[.slice aa T.rs.length ca, .slice ab T.ps.length cb] 25))
    rw [World.size_alloc] at h
    exact h.ext (by repeat (first | exact Ext.refl _ | assumption | refine Ext.alloc ?_ _ | refine Ext.drew ?_ | refine Ext.drewN _ ?_ | refine Ext.trans ?_ (by assumption)))
  try rw [hW1]
  clear hW1 hmk
  refine wpIn_loopg (fun g a W => ∃ (j : Nat) (Ds : List Nat) (L : List (Int × Value)) (u7 u8 u16 u17 u18 u19 u20 u21 u22 u23 u24 u25 u26 u27 u28 u29 u30 : Value), a = { tmps := #[.agg #[.slice aa T.rs.length ca, .slice ab T.ps.length cb], .func (.func 107) #[] #[cap], .pointer (some ⟨w.heap.size, 0, none⟩), undef, .int .i64 0, .pointer (some ⟨w.heap.size + 1 + 1, 0, none⟩), undef, u7, u8, undef, undef, .map (some (w.heap.size + 1)), .pointer (some ⟨w.heap.size, 1, none⟩), .slice ab T.ps.length cb, .int .i64 T.ps.length, .int .i64 j, u16, u17, u18, u19, u20, u21, u22, u23, u24, u25, u26, u27, u28, u29, u30, undef, undef, undef, undef, undef, undef, undef, undef, undef, undef, undef, undef, undef, undef, undef], defers := marksOf Ds } ∧ j ≤ T.ps.length ∧ g = T.ps.length - j ∧ Hid (AL w W (.slice aa T.rs.length ca) (.slice ab T.ps.length cb) Ds L) ∧ Hid (AK T tl j L)) T.ps.length ?_ ?_
  · exact ⟨0, [], [], undef, undef, undef, undef, undef, undef, undef, undef, undef, undef, undef, undef, undef, undef, undef, undef, undef, rfl, Nat.zero_le _, rfl, Lib.hid ⟨q0, q2, qm, marks_nil _ _, hx1⟩, Lib.hid (by simp [AK])⟩
  · rintro g a W ⟨j, Ds, L, u7, u8, u16, u17, u18, u19, u20, u21, u22, u23, u24, u25, u26, u27, u28, u29, u30, rfl, hj, rfl, HA, HK⟩
    by_cases hlt : j < T.ps.length
    · obtain ⟨bb, oo, rfl, c0, c1, c2⟩ := (hT.p.ext HA.out.ex).get j hlt
      have hlp := hok.lp
      have hpv := hok.pv _ (List.getElem_mem hlt)
      have hstep := AK.step hlt HK.out
      have hid : T.ps[j] = ⟨T.ps[j].id, T.ps[j].reach, T.ps[j].w⟩ := rfl
      obtain ⟨x, hxx⟩ : ∃ x, T.ps[j].id = x := ⟨_, rfl⟩
      obtain ⟨y, hyy⟩ : ∃ y, T.ps[j].reach = y := ⟨_, rfl⟩
      obtain ⟨z, hzz⟩ : ∃ z, T.ps[j].w = z := ⟨_, rfl⟩
      rw [hxx] at c0 hid
      rw [hyy] at c1 hid hpv hstep
      rw [hzz] at c2 hid
      rw [hid] at hstep
      obtain ⟨tv, htv⟩ : ∃ tv, tl ⟨x, y, z⟩ = tv := ⟨_, rfl⟩
      rw [htv] at hstep
      have hy1 : y < T.rs.length := hpv.2.1.2
      have hy0 : -1 ≤ y := by have := hpv.2.1.1; omega
      have HTV := Lib.hid htv
      have HST := Lib.hid hstep
      clear hxx hyy hzz hid hpv hstep htv
      have d0 : W.cell? ⟨w.heap.size, 0, none⟩ = some (.slice aa T.rs.length ca) := HA.out.bx.cell 0
      have d1 : W.cell? ⟨w.heap.size, 1, none⟩ = some (.slice (some ⟨bb, oo, none⟩) T.ps.length cb) := HA.out.bx.cell 1
      gi_wp2_with fail
      obtain ⟨Y, hY⟩ : ∃ Y, W.alloc (.cells #[.int .i64 x, .int .i64 y, .int .i64 z] 45) = Y := ⟨_, rfl⟩
      have hxY : Ext W Y := by rw [← hY]; exact (by repeat (first | exact Ext.refl _ | assumption | refine Ext.alloc ?_ _ | refine Ext.drew ?_ | refine Ext.drewN _ ?_ | refine Ext.trans ?_ (by assumption)))
      have hbY : Cls W.heap.size 45 #[.int .i64 x, .int .i64 y, .int .i64 z] Y := by rw [← hY]; exact Cls.new _ _ _
      try rw [hY]
      clear hY d0 d1
      refine ⟨trivial, (callsIn_wide.2 (htell ⟨x, y, z⟩ _ (HA.out.ex.trans hxY))).mono ?_⟩
      rw [HTV.out]
      rintro e w2 ⟨rfl, hx2⟩
      have hA2 := (HA.out.ext hxY).ext hx2
      have hb2 := hbY.ext hx2
      cases tv
      · have hwj : wrap64 ((j : Int) + 1) = ((j + 1 : Nat) : Int) := by rw [IntWalk.wrap64_in _ (by omega)]; omega
        have hs := HST.out
        rw [if_neg (by decide)] at hs
        have HS := Lib.hid hs
        clear hs HST
        gi_wp2
        exact ⟨T.ps.length - (j + 1), by omega, j + 1, Ds, L, _, _, _, _, _, _, _, _, _, _, _, _, _, _, _, _, _, rfl, by omega, rfl, Lib.hid hA2, HS⟩
      · have hs := HST.out
        rw [if_pos rfl] at hs
        have HS := Lib.hid hs
        have e0 : w2.cell? ⟨w.heap.size, 0, none⟩ = some (.slice aa T.rs.length ca) := hA2.bx.cell 0
        have e1 : w2.cell? ⟨w.heap.size, 1, none⟩ = some (.slice (some ⟨bb, oo, none⟩) T.ps.length cb) := hA2.bx.cell 1
        have e2 : w2.cell? ⟨W.heap.size, 1, none⟩ = some (.int .i64 y) := hb2.cell 1
        clear hs HST
        gi_wp2_with fail
        refine ⟨trivial, (callsIn_wide.2 (up_any _ _ y _)).mono ?_⟩
        rintro e w3 ⟨rfl, hw3⟩
        obtain ⟨p0, p1, hx3, hs3⟩ := up_boxes hw3
        have hA3 := hA2.ext hx3
        have hz2 := hA2.ex.size
        have hm2 := hA2.mb.lt
        clear hw3 e0 e1 e2
        gi_wp2_with fail
        have hseq := up_seq w2.heap.size (w2.heap.size + 1) T hok.rv _ _ y hy0 hy1 w w3 hA3.ex _ _ (by omega) (by omega) p0 p1 hT.r
        have hbs : ∀ b ∈ [w2.heap.size, w2.heap.size + 1], b < w3.heap.size := by simp; omega
        have hIb : AbidesBox (w2.heap.size + 1) (fun (pre : List (RIx T.rs.length)) W => (Cls w.heap.size 25 #[.slice aa T.rs.length ca, .slice (some ⟨bb, oo, none⟩) T.ps.length cb] W ∧ Cls (w.heap.size + 1 + 1) 101 #[.map (some (w.heap.size + 1))] W) ∧ (MapAt encI W (w.heap.size + 1) (addAll L (vals pre)) ∧ MarksAt w.heap.size Ds W) ∧ Below w.heap.size w W ∧ w3.heap.size ≤ W.heap.size) :=
          ((abidesBox_cls _ (fun _ => #[.slice aa T.rs.length ca, .slice (some ⟨bb, oo, none⟩) T.ps.length cb]) (by omega)).and (abidesBox_cls _ (fun _ => #[.map (some (w.heap.size + 1))]) (by omega))).and (((mapAt_abide _ (by omega)).and marks_abide).and ((abidesBox_below (by omega) (Nat.le_refl _)).and (abidesBox_size _)))
        have hI : OwnFrom w3.heap.size (fun (pre : List (RIx T.rs.length)) W => (Cls w.heap.size 25 #[.slice aa T.rs.length ca, .slice (some ⟨bb, oo, none⟩) T.ps.length cb] W ∧ Cls (w.heap.size + 1 + 1) 101 #[.map (some (w.heap.size + 1))] W) ∧ (MapAt encI W (w.heap.size + 1) (addAll L (vals pre)) ∧ MarksAt w.heap.size Ds W) ∧ Below w.heap.size w W ∧ w3.heap.size ≤ W.heap.size) :=
          OwnFrom.and (OwnFrom.and ((Cls.own _ _ (fun _ => #[.slice aa T.rs.length ca, .slice (some ⟨bb, oo, none⟩) T.ps.length cb])).from _) ((Cls.own _ _ (fun _ => #[.map (some (w.heap.size + 1))])).from _)) (OwnFrom.and (OwnFrom.and (mapAt_own _ (by omega)) (marks_own (fun D hD => hA3.mr.lt D hD))) (OwnFrom.and (ownFrom_below (Nat.le_refl _) hA3.ex.size) (ownFrom_size _ _)))
        have hIx : ∀ c : Code, OwnFrom w3.heap.size (fun (_ : List (RIx T.rs.length)) (_ : World) => False) := fun c => fun _ _ _ _ hs _ _ => hs
        have h00 : (fun (pre : List (RIx T.rs.length)) W => (Cls w.heap.size 25 #[.slice aa T.rs.length ca, .slice (some ⟨bb, oo, none⟩) T.ps.length cb] W ∧ Cls (w.heap.size + 1 + 1) 101 #[.map (some (w.heap.size + 1))] W) ∧ (MapAt encI W (w.heap.size + 1) (addAll L (vals pre)) ∧ MarksAt w.heap.size Ds W) ∧ Below w.heap.size w W ∧ w3.heap.size ≤ W.heap.size) [] w3 := ⟨⟨hA3.bx, hA3.mb⟩, ⟨hA3.mp, hA3.mr⟩, hA3.ex, Nat.le_refl _⟩
        have hw3 : w.heap.size ≤ w3.heap.size := by omega
        have hm3 : w.heap.size + 1 < w3.heap.size := by omega
        refine range_own (gf := 117) (lb := #[.pointer (some ⟨w2.heap.size + 1, 0, none⟩), .pointer (some ⟨w2.heap.size, 0, none⟩)]) ?hg ?eg (n₀ := w.heap.size) (bs := [w2.heap.size, w2.heap.size + 1]) (Br := w2.heap.size + 1) hw3 hbs (by omega)
          hseq ?hps _ _ hI hIx hIb h00 ?round ?done ?stop
        case hg => rfl
        case eg => exact enters_of Try.func117 (by kernel_rfl) rfl
        case hps => exact fun _ => rfl
        case round =>
          apply Exists.intro
          constructor
          · intro l x W K hK
            dsimp only [encR]
            gi_wp2
            exact hK
          · rintro l pre x W ⟨⟨i0, i2⟩, ⟨i1, i3⟩, i4, i5⟩ _
            have j2 : W.cell? ⟨w.heap.size + 1 + 1, 0, none⟩ = some (.map (some (w.heap.size + 1))) := i2.cell 0
            gi_wp2_with (refine wpListIn_updateMap rfl _ _ _ rfl KI mapT rfl i1 x.1 (.bool true) rfl rfl ?_; intro w5 hM5 hg5)
            refine ⟨KeepsFrom.of_grownBy hg5 (fun j e => by cases e; omega), KpB.grown hg5 (by omega) (by simp; omega) (by omega), ⟨i0.kept hg5 (fun e => by have := Option.some.inj e; omega), i2.kept hg5 (fun e => by have := Option.some.inj e; omega)⟩, ⟨?_, i3.grown hg5 (by
              intro D hD e
              cases e
              have h1 := (i3.at_ _ hD).2
              obtain ⟨es, ck, h2, _⟩ := i1
              rw [h1] at h2; cases h2)⟩, ?_⟩
            · rw [vals_snoc, addAll_snoc]; exact hM5
            · exact ⟨i4.grown hg5 i4.size (fun k e => by cases e; omega), by have h1 := hg5.size; have h2 := i5; omega⟩
        case done =>
          rintro D xs W5 hD rfl ⟨⟨i0, i2⟩, ⟨i1, i3⟩, i4, i5⟩ hK
          rw [upS_vals] at i1
          gi_wp2
          exact ⟨T.ps.length - (j + 1), by omega, j + 1, D :: Ds, ⟨by omega, rfl⟩, by omega, rfl, _, Lib.hid ⟨i0, i2, i1, MarksAt.cons hA3.mr i3 (by omega) (by omega) hK, i4⟩, HS⟩
        case stop =>
          rintro D c pre W5 _ _ h _
          exact h.elim
    · obtain rfl : j = T.ps.length := by omega
      have m0 : W.cell? ⟨w.heap.size + 1 + 1, 0, none⟩ = some (.map (some (w.heap.size + 1))) := HA.out.mb.cell 0
      have hmp := HA.out.mp
      gi_wp2_with (refine wpListIn_rangeMap rfl _ rfl mapT rfl hmp ?_; intro w3 hR3 hx3)
      have hz1 := HA.out.mb.lt
      have hk0 : ∀ r : Int, r ∈ L.map (·.1) → 0 ≤ r ∧ r < T.rs.length := fun r hr => by
        obtain ⟨p, hp, _, h2⟩ := (HK.out r).1 hr
        exact upL_in hok.rv (hok.pv p (List.mem_of_mem_take hp)).2.1.2 r h2
      have HK0 := Lib.hid hk0
      have hA3 := HA.out.ext hx3
      clear hk0 hmp m0
      refine wpIn_loopg (fun g a W' => ∃ (d : List Int) (v10 v33 v34 v35 v36 v37 v38 v39 v40 v41 v42 v43 v44 : Value), a = { tmps := #[.agg #[.slice aa T.rs.length ca, .slice ab T.ps.length cb], .func (.func 107) #[] #[cap], .pointer (some ⟨w.heap.size, 0, none⟩), undef, .int .i64 0, .pointer (some ⟨w.heap.size + 1 + 1, 0, none⟩), undef, u7, u8, .int .i64 (sumL (cst T.rs) d), v10, .map (some (w.heap.size + 1)), .pointer (some ⟨w.heap.size, 1, none⟩), .slice ab T.ps.length cb, .int .i64 T.ps.length, .int .i64 T.ps.length, .bool false, u17, u18, u19, u20, u21, u22, u23, u24, u25, u26, u27, u28, u29, u30, .map (some (w.heap.size + 1)), .pointer (some ⟨W.heap.size, 0, none⟩), v33, v34, v35, v36, v37, v38, v39, v40, v41, v42, v43, v44, undef], defers := marksOf Ds } ∧ g = leftK L d ∧ Hid (RangeAt encI W' (w.heap.size + 1) W.heap.size L d) ∧ Hid (Cls w.heap.size 25 #[.slice aa T.rs.length ca, .slice ab T.ps.length cb] W' ∧ MarksAt w.heap.size Ds W' ∧ Ext w W')) (leftK L []) ?_ ?_
      · exact ⟨[], undef, undef, undef, undef, undef, undef, undef, undef, undef, undef, undef, undef, undef, rfl, rfl, Lib.hid hR3, Lib.hid ⟨hA3.bx, hA3.mr, hA3.ex⟩⟩
      · rintro g a W' ⟨d, v10, v33, v34, v35, v36, v37, v38, v39, v40, v41, v42, v43, v44, rfl, rfl, HR, HB⟩
        have hR := HR.out
        obtain ⟨hb0, hb1, hb2⟩ := HB.out
        have e0 : W'.cell? ⟨w.heap.size, 0, none⟩ = some (.slice aa T.rs.length ca) := hb0.cell 0
        have hdn := hR.2.2.1
        have hdk := hR.2.2.2
        have hsb := sumL_bd hok hdn (fun r hr => HK0.out r (hdk r hr))
        obtain ⟨s, hs⟩ : ∃ s, sumL (cst T.rs) d = s := ⟨_, rfl⟩
        rw [hs] at hsb ⊢
        have HS := Lib.hid hs
        have HDN := Lib.hid hdn
        have HDK := Lib.hid hdk
        clear hs hdn hdk
        rcases run_nextMap (P := Try.prog) encI_inj hR 0 with ⟨hall, hrun⟩ | ⟨r, v, w4, hrv, hrd, hrun, hR4, hg4, hent⟩
        · have HAll := Lib.hid hall
          clear hall
          gi_wp2_with (refine wpListIn_nextRun rfl _ rfl rfl hrun ?_)
          have hfin : s = AE := by
            rw [← HS.out, ← HAE.out]
            refine alnE_of hok tl HDN.out (fun r => ⟨fun h => ?_, fun h => ?_⟩)
            · have := (HK.out r).1 (HDK.out r h)
              rwa [List.take_length] at this
            · exact HAll.out r ((HK.out r).2 (by rw [List.take_length]; exact h))
          subst hfin
          show LeavesInM Fence.wide 5 Try.prog Try.f57 _ _ (marksOf Ds) .returning W'
          refine leaves_marks (n₀ := w.heap.size) (X := fun W => Below w.heap.size w W) (ownFrom_swept (I := fun (_ : Unit) W => Below w.heap.size w W) (ownFrom_below (Nat.le_refl _) (Nat.le_refl _)) ()) (fun W hW => ?_) Ds W' hb1 hb2
          exact ⟨_, results_tmp rfl _ _ _, rfl, hW⟩
        · have hkey : r ∈ L.map (·.1) := List.mem_map.2 ⟨_, hrv, rfl⟩
          have hkb := HK0.out r hkey
          obtain ⟨i, rfl⟩ : ∃ i : Nat, r = i := ⟨r.toNat, by omega⟩
          have hi : i < T.rs.length := by omega
          have HLK := Lib.hid (leftK_lt hkey hrd)
          have hx4 := hb2.grown hg4 (by omega)
          have hb4 := hb0.kept hg4 (fun e => by have := Option.some.inj e; omega)
          have hm4 := hb1.grown hg4 (fun D hD e => by
            have h1 := (hb1.at_ D hD).2
            obtain ⟨es, ck, si, c0, se, _, h2, _⟩ := hR.2.1
            rw [Option.some.inj e, h2] at h1
            cases h1)
          obtain ⟨bb, oo, rfl, c0, c1⟩ := (hT.r.ext hx4).get i hi
          have hsn := sumL_snoc (cst T.rs) d (i : Int)
          rw [HS.out, show ((i : Int).toNat) = i by omega, cst_get hi] at hsn
          have hcb := (hok.rv.v i hi).2
          obtain ⟨ct, hct⟩ : ∃ ct, T.rs[i].cost = ct := ⟨_, rfl⟩
          rw [hct] at c1 hsn hcb
          have HSN := Lib.hid hsn
          have g0 : w4.cell? ⟨w.heap.size, 0, none⟩ = some (.slice (some ⟨bb, oo, none⟩) T.rs.length ca) := hb4.cell 0
          have henc : encI (i : Int) = .int .i64 i := rfl
          rw [henc] at hrun hent
          clear hct hsn hkey hrd hrv e0 henc
          gi_wp2_with (refine wpListIn_nextRun rfl _ rfl rfl hrun ?_)
          exact ⟨leftK L (d ++ [(i : Int)]), HLK.out, d ++ [(i : Int)], _, _, _, _, _, _, _, _, _, _, _, _, _, by rw [HSN.out], rfl, Lib.hid hR4, Lib.hid ⟨hb4, hm4, hx4⟩⟩
set_option maxRecDepth 100000 in
set_option maxHeartbeats 4000000 in
theorem alone_Least (a b : Value) (T : Tr) (hok : Ok T) (tl : Py → Bool) (cap : Value) (w : World) (hT : TrAt w a b T)
    (htell : ∀ (x : Py) (W : World), Ext w W → Calls Try.prog 71 #[.agg #[.int .i64 x.id, .int .i64 x.reach, .int .i64 x.w], cap] W fun e W' => e = .returned (.bool (tl x)) ∧ Ext W W') :
    Calls Try.prog 57 #[.agg #[a, b], .func (.func 71) #[] #[cap]] w fun e w' => e = .returned (.int .i64 (alnE T tl)) ∧ Ext w w' := by
  obtain ⟨AE, hAE⟩ : ∃ AE, alnE T tl = AE := ⟨_, rfl⟩
  have HAE := Lib.hid hAE
  rw [hAE]
  clear hAE
  obtain ⟨aa, ca, rfl, hla⟩ := hT.r.len
  obtain ⟨ab, cb, rfl, hlb⟩ := hT.p.len
  have hmk := @run_makeMap Try.prog
  refine (callsIn_wide (n := 5)).1 ?_
  refine callsIn_of_wp_marks Try.func57 rfl trivial ?_ rfl; simp only [Try.ntmps57, List.size_toArray, List.length_cons, List.length_nil, Nat.reduceAdd, Nat.reduceSub, Array.replicate_succ, Array.replicate_zero, List.push_toArray, List.append_toArray, List.nil_append, List.cons_append]
  gi_wp2_with fail
  obtain ⟨W1, hW1⟩ : ∃ W1, ((w.alloc (.cells #[.slice aa T.rs.length ca, .slice ab T.ps.length cb] 25)).alloc (.map #[] 0)).alloc (.cells #[.map (some (w.heap.size + 1))] 101) = W1 := ⟨_, rfl⟩
  obtain ⟨q0, q2, qm, hx1⟩ : Cls w.heap.size 25 #[.slice aa T.rs.length ca, .slice ab T.ps.length cb] W1 ∧ Cls (w.heap.size + 1 + 1) 101 #[.map (some (w.heap.size + 1))] W1 ∧ MapAt encI W1 (w.heap.size + 1) [] ∧ Ext w W1 := by
    rw [← hW1]
    refine ⟨(Cls.new w _ _).ext (by repeat (first | exact Ext.refl _ | assumption | refine Ext.alloc ?_ _ | refine Ext.drew ?_ | refine Ext.drewN _ ?_ | refine Ext.trans ?_ (by assumption))), Cls.newAt _ _ _ (by simp), ?_, (by repeat (first | exact Ext.refl _ | assumption | refine Ext.alloc ?_ _ | refine Ext.drew ?_ | refine Ext.drewN _ ?_ | refine Ext.trans ?_ (by assumption)))⟩
    have h := mapAt_made encI (w.alloc (.cells #[.slice aa T.rs.length ca, .slice ab T.ps.length cb] 25))
    rw [World.size_alloc] at h
    exact h.ext (by repeat (first | exact Ext.refl _ | assumption | refine Ext.alloc ?_ _ | refine Ext.drew ?_ | refine Ext.drewN _ ?_ | refine Ext.trans ?_ (by assumption)))
  try rw [hW1]
  clear hW1 hmk
  refine wpIn_loopg (fun g a W => ∃ (j : Nat) (Ds : List Nat) (L : List (Int × Value)) (u7 u8 u16 u17 u18 u19 u20 u21 u22 u23 u24 u25 u26 u27 u28 u29 u30 : Value), a = { tmps := #[.agg #[.slice aa T.rs.length ca, .slice ab T.ps.length cb], .func (.func 71) #[] #[cap], .pointer (some ⟨w.heap.size, 0, none⟩), undef, .int .i64 0, .pointer (some ⟨w.heap.size + 1 + 1, 0, none⟩), undef, u7, u8, undef, undef, .map (some (w.heap.size + 1)), .pointer (some ⟨w.heap.size, 1, none⟩), .slice ab T.ps.length cb, .int .i64 T.ps.length, .int .i64 j, u16, u17, u18, u19, u20, u21, u22, u23, u24, u25, u26, u27, u28, u29, u30, undef, undef, undef, undef, undef, undef, undef, undef, undef, undef, undef, undef, undef, undef, undef], defers := marksOf Ds } ∧ j ≤ T.ps.length ∧ g = T.ps.length - j ∧ Hid (AL w W (.slice aa T.rs.length ca) (.slice ab T.ps.length cb) Ds L) ∧ Hid (AK T tl j L)) T.ps.length ?_ ?_
  · exact ⟨0, [], [], undef, undef, undef, undef, undef, undef, undef, undef, undef, undef, undef, undef, undef, undef, undef, undef, undef, rfl, Nat.zero_le _, rfl, Lib.hid ⟨q0, q2, qm, marks_nil _ _, hx1⟩, Lib.hid (by simp [AK])⟩
  · rintro g a W ⟨j, Ds, L, u7, u8, u16, u17, u18, u19, u20, u21, u22, u23, u24, u25, u26, u27, u28, u29, u30, rfl, hj, rfl, HA, HK⟩
    by_cases hlt : j < T.ps.length
    · obtain ⟨bb, oo, rfl, c0, c1, c2⟩ := (hT.p.ext HA.out.ex).get j hlt
      have hlp := hok.lp
      have hpv := hok.pv _ (List.getElem_mem hlt)
      have hstep := AK.step hlt HK.out
      have hid : T.ps[j] = ⟨T.ps[j].id, T.ps[j].reach, T.ps[j].w⟩ := rfl
      obtain ⟨x, hxx⟩ : ∃ x, T.ps[j].id = x := ⟨_, rfl⟩
      obtain ⟨y, hyy⟩ : ∃ y, T.ps[j].reach = y := ⟨_, rfl⟩
      obtain ⟨z, hzz⟩ : ∃ z, T.ps[j].w = z := ⟨_, rfl⟩
      rw [hxx] at c0 hid
      rw [hyy] at c1 hid hpv hstep
      rw [hzz] at c2 hid
      rw [hid] at hstep
      obtain ⟨tv, htv⟩ : ∃ tv, tl ⟨x, y, z⟩ = tv := ⟨_, rfl⟩
      rw [htv] at hstep
      have hy1 : y < T.rs.length := hpv.2.1.2
      have hy0 : -1 ≤ y := by have := hpv.2.1.1; omega
      have HTV := Lib.hid htv
      have HST := Lib.hid hstep
      clear hxx hyy hzz hid hpv hstep htv
      have d0 : W.cell? ⟨w.heap.size, 0, none⟩ = some (.slice aa T.rs.length ca) := HA.out.bx.cell 0
      have d1 : W.cell? ⟨w.heap.size, 1, none⟩ = some (.slice (some ⟨bb, oo, none⟩) T.ps.length cb) := HA.out.bx.cell 1
      gi_wp2_with fail
      obtain ⟨Y, hY⟩ : ∃ Y, W.alloc (.cells #[.int .i64 x, .int .i64 y, .int .i64 z] 45) = Y := ⟨_, rfl⟩
      have hxY : Ext W Y := by rw [← hY]; exact (by repeat (first | exact Ext.refl _ | assumption | refine Ext.alloc ?_ _ | refine Ext.drew ?_ | refine Ext.drewN _ ?_ | refine Ext.trans ?_ (by assumption)))
      have hbY : Cls W.heap.size 45 #[.int .i64 x, .int .i64 y, .int .i64 z] Y := by rw [← hY]; exact Cls.new _ _ _
      try rw [hY]
      clear hY d0 d1
      refine ⟨trivial, (callsIn_wide.2 (htell ⟨x, y, z⟩ _ (HA.out.ex.trans hxY))).mono ?_⟩
      rw [HTV.out]
      rintro e w2 ⟨rfl, hx2⟩
      have hA2 := (HA.out.ext hxY).ext hx2
      have hb2 := hbY.ext hx2
      cases tv
      · have hwj : wrap64 ((j : Int) + 1) = ((j + 1 : Nat) : Int) := by rw [IntWalk.wrap64_in _ (by omega)]; omega
        have hs := HST.out
        rw [if_neg (by decide)] at hs
        have HS := Lib.hid hs
        clear hs HST
        gi_wp2
        exact ⟨T.ps.length - (j + 1), by omega, j + 1, Ds, L, _, _, _, _, _, _, _, _, _, _, _, _, _, _, _, _, _, rfl, by omega, rfl, Lib.hid hA2, HS⟩
      · have hs := HST.out
        rw [if_pos rfl] at hs
        have HS := Lib.hid hs
        have e0 : w2.cell? ⟨w.heap.size, 0, none⟩ = some (.slice aa T.rs.length ca) := hA2.bx.cell 0
        have e1 : w2.cell? ⟨w.heap.size, 1, none⟩ = some (.slice (some ⟨bb, oo, none⟩) T.ps.length cb) := hA2.bx.cell 1
        have e2 : w2.cell? ⟨W.heap.size, 1, none⟩ = some (.int .i64 y) := hb2.cell 1
        clear hs HST
        gi_wp2_with fail
        refine ⟨trivial, (callsIn_wide.2 (up_any _ _ y _)).mono ?_⟩
        rintro e w3 ⟨rfl, hw3⟩
        obtain ⟨p0, p1, hx3, hs3⟩ := up_boxes hw3
        have hA3 := hA2.ext hx3
        have hz2 := hA2.ex.size
        have hm2 := hA2.mb.lt
        clear hw3 e0 e1 e2
        gi_wp2_with fail
        have hseq := up_seq w2.heap.size (w2.heap.size + 1) T hok.rv _ _ y hy0 hy1 w w3 hA3.ex _ _ (by omega) (by omega) p0 p1 hT.r
        have hbs : ∀ b ∈ [w2.heap.size, w2.heap.size + 1], b < w3.heap.size := by simp; omega
        have hIb : AbidesBox (w2.heap.size + 1) (fun (pre : List (RIx T.rs.length)) W => (Cls w.heap.size 25 #[.slice aa T.rs.length ca, .slice (some ⟨bb, oo, none⟩) T.ps.length cb] W ∧ Cls (w.heap.size + 1 + 1) 101 #[.map (some (w.heap.size + 1))] W) ∧ (MapAt encI W (w.heap.size + 1) (addAll L (vals pre)) ∧ MarksAt w.heap.size Ds W) ∧ Below w.heap.size w W ∧ w3.heap.size ≤ W.heap.size) :=
          ((abidesBox_cls _ (fun _ => #[.slice aa T.rs.length ca, .slice (some ⟨bb, oo, none⟩) T.ps.length cb]) (by omega)).and (abidesBox_cls _ (fun _ => #[.map (some (w.heap.size + 1))]) (by omega))).and (((mapAt_abide _ (by omega)).and marks_abide).and ((abidesBox_below (by omega) (Nat.le_refl _)).and (abidesBox_size _)))
        have hI : OwnFrom w3.heap.size (fun (pre : List (RIx T.rs.length)) W => (Cls w.heap.size 25 #[.slice aa T.rs.length ca, .slice (some ⟨bb, oo, none⟩) T.ps.length cb] W ∧ Cls (w.heap.size + 1 + 1) 101 #[.map (some (w.heap.size + 1))] W) ∧ (MapAt encI W (w.heap.size + 1) (addAll L (vals pre)) ∧ MarksAt w.heap.size Ds W) ∧ Below w.heap.size w W ∧ w3.heap.size ≤ W.heap.size) :=
          OwnFrom.and (OwnFrom.and ((Cls.own _ _ (fun _ => #[.slice aa T.rs.length ca, .slice (some ⟨bb, oo, none⟩) T.ps.length cb])).from _) ((Cls.own _ _ (fun _ => #[.map (some (w.heap.size + 1))])).from _)) (OwnFrom.and (OwnFrom.and (mapAt_own _ (by omega)) (marks_own (fun D hD => hA3.mr.lt D hD))) (OwnFrom.and (ownFrom_below (Nat.le_refl _) hA3.ex.size) (ownFrom_size _ _)))
        have hIx : ∀ c : Code, OwnFrom w3.heap.size (fun (_ : List (RIx T.rs.length)) (_ : World) => False) := fun c => fun _ _ _ _ hs _ _ => hs
        have h00 : (fun (pre : List (RIx T.rs.length)) W => (Cls w.heap.size 25 #[.slice aa T.rs.length ca, .slice (some ⟨bb, oo, none⟩) T.ps.length cb] W ∧ Cls (w.heap.size + 1 + 1) 101 #[.map (some (w.heap.size + 1))] W) ∧ (MapAt encI W (w.heap.size + 1) (addAll L (vals pre)) ∧ MarksAt w.heap.size Ds W) ∧ Below w.heap.size w W ∧ w3.heap.size ≤ W.heap.size) [] w3 := ⟨⟨hA3.bx, hA3.mb⟩, ⟨hA3.mp, hA3.mr⟩, hA3.ex, Nat.le_refl _⟩
        have hw3 : w.heap.size ≤ w3.heap.size := by omega
        have hm3 : w.heap.size + 1 < w3.heap.size := by omega
        refine range_own (gf := 117) (lb := #[.pointer (some ⟨w2.heap.size + 1, 0, none⟩), .pointer (some ⟨w2.heap.size, 0, none⟩)]) ?hg ?eg (n₀ := w.heap.size) (bs := [w2.heap.size, w2.heap.size + 1]) (Br := w2.heap.size + 1) hw3 hbs (by omega)
          hseq ?hps _ _ hI hIx hIb h00 ?round ?done ?stop
        case hg => rfl
        case eg => exact enters_of Try.func117 (by kernel_rfl) rfl
        case hps => exact fun _ => rfl
        case round =>
          apply Exists.intro
          constructor
          · intro l x W K hK
            dsimp only [encR]
            gi_wp2
            exact hK
          · rintro l pre x W ⟨⟨i0, i2⟩, ⟨i1, i3⟩, i4, i5⟩ _
            have j2 : W.cell? ⟨w.heap.size + 1 + 1, 0, none⟩ = some (.map (some (w.heap.size + 1))) := i2.cell 0
            gi_wp2_with (refine wpListIn_updateMap rfl _ _ _ rfl KI mapT rfl i1 x.1 (.bool true) rfl rfl ?_; intro w5 hM5 hg5)
            refine ⟨KeepsFrom.of_grownBy hg5 (fun j e => by cases e; omega), KpB.grown hg5 (by omega) (by simp; omega) (by omega), ⟨i0.kept hg5 (fun e => by have := Option.some.inj e; omega), i2.kept hg5 (fun e => by have := Option.some.inj e; omega)⟩, ⟨?_, i3.grown hg5 (by
              intro D hD e
              cases e
              have h1 := (i3.at_ _ hD).2
              obtain ⟨es, ck, h2, _⟩ := i1
              rw [h1] at h2; cases h2)⟩, ?_⟩
            · rw [vals_snoc, addAll_snoc]; exact hM5
            · exact ⟨i4.grown hg5 i4.size (fun k e => by cases e; omega), by have h1 := hg5.size; have h2 := i5; omega⟩
        case done =>
          rintro D xs W5 hD rfl ⟨⟨i0, i2⟩, ⟨i1, i3⟩, i4, i5⟩ hK
          rw [upS_vals] at i1
          gi_wp2
          exact ⟨T.ps.length - (j + 1), by omega, j + 1, D :: Ds, ⟨by omega, rfl⟩, by omega, rfl, _, Lib.hid ⟨i0, i2, i1, MarksAt.cons hA3.mr i3 (by omega) (by omega) hK, i4⟩, HS⟩
        case stop =>
          rintro D c pre W5 _ _ h _
          exact h.elim
    · obtain rfl : j = T.ps.length := by omega
      have m0 : W.cell? ⟨w.heap.size + 1 + 1, 0, none⟩ = some (.map (some (w.heap.size + 1))) := HA.out.mb.cell 0
      have hmp := HA.out.mp
      gi_wp2_with (refine wpListIn_rangeMap rfl _ rfl mapT rfl hmp ?_; intro w3 hR3 hx3)
      have hz1 := HA.out.mb.lt
      have hk0 : ∀ r : Int, r ∈ L.map (·.1) → 0 ≤ r ∧ r < T.rs.length := fun r hr => by
        obtain ⟨p, hp, _, h2⟩ := (HK.out r).1 hr
        exact upL_in hok.rv (hok.pv p (List.mem_of_mem_take hp)).2.1.2 r h2
      have HK0 := Lib.hid hk0
      have hA3 := HA.out.ext hx3
      clear hk0 hmp m0
      refine wpIn_loopg (fun g a W' => ∃ (d : List Int) (v10 v33 v34 v35 v36 v37 v38 v39 v40 v41 v42 v43 v44 : Value), a = { tmps := #[.agg #[.slice aa T.rs.length ca, .slice ab T.ps.length cb], .func (.func 71) #[] #[cap], .pointer (some ⟨w.heap.size, 0, none⟩), undef, .int .i64 0, .pointer (some ⟨w.heap.size + 1 + 1, 0, none⟩), undef, u7, u8, .int .i64 (sumL (cst T.rs) d), v10, .map (some (w.heap.size + 1)), .pointer (some ⟨w.heap.size, 1, none⟩), .slice ab T.ps.length cb, .int .i64 T.ps.length, .int .i64 T.ps.length, .bool false, u17, u18, u19, u20, u21, u22, u23, u24, u25, u26, u27, u28, u29, u30, .map (some (w.heap.size + 1)), .pointer (some ⟨W.heap.size, 0, none⟩), v33, v34, v35, v36, v37, v38, v39, v40, v41, v42, v43, v44, undef], defers := marksOf Ds } ∧ g = leftK L d ∧ Hid (RangeAt encI W' (w.heap.size + 1) W.heap.size L d) ∧ Hid (Cls w.heap.size 25 #[.slice aa T.rs.length ca, .slice ab T.ps.length cb] W' ∧ MarksAt w.heap.size Ds W' ∧ Ext w W')) (leftK L []) ?_ ?_
      · exact ⟨[], undef, undef, undef, undef, undef, undef, undef, undef, undef, undef, undef, undef, undef, rfl, rfl, Lib.hid hR3, Lib.hid ⟨hA3.bx, hA3.mr, hA3.ex⟩⟩
      · rintro g a W' ⟨d, v10, v33, v34, v35, v36, v37, v38, v39, v40, v41, v42, v43, v44, rfl, rfl, HR, HB⟩
        have hR := HR.out
        obtain ⟨hb0, hb1, hb2⟩ := HB.out
        have e0 : W'.cell? ⟨w.heap.size, 0, none⟩ = some (.slice aa T.rs.length ca) := hb0.cell 0
        have hdn := hR.2.2.1
        have hdk := hR.2.2.2
        have hsb := sumL_bd hok hdn (fun r hr => HK0.out r (hdk r hr))
        obtain ⟨s, hs⟩ : ∃ s, sumL (cst T.rs) d = s := ⟨_, rfl⟩
        rw [hs] at hsb ⊢
        have HS := Lib.hid hs
        have HDN := Lib.hid hdn
        have HDK := Lib.hid hdk
        clear hs hdn hdk
        rcases run_nextMap (P := Try.prog) encI_inj hR 0 with ⟨hall, hrun⟩ | ⟨r, v, w4, hrv, hrd, hrun, hR4, hg4, hent⟩
        · have HAll := Lib.hid hall
          clear hall
          gi_wp2_with (refine wpListIn_nextRun rfl _ rfl rfl hrun ?_)
          have hfin : s = AE := by
            rw [← HS.out, ← HAE.out]
            refine alnE_of hok tl HDN.out (fun r => ⟨fun h => ?_, fun h => ?_⟩)
            · have := (HK.out r).1 (HDK.out r h)
              rwa [List.take_length] at this
            · exact HAll.out r ((HK.out r).2 (by rw [List.take_length]; exact h))
          subst hfin
          show LeavesInM Fence.wide 5 Try.prog Try.f57 _ _ (marksOf Ds) .returning W'
          refine leaves_marks (n₀ := w.heap.size) (X := fun W => Below w.heap.size w W) (ownFrom_swept (I := fun (_ : Unit) W => Below w.heap.size w W) (ownFrom_below (Nat.le_refl _) (Nat.le_refl _)) ()) (fun W hW => ?_) Ds W' hb1 hb2
          exact ⟨_, results_tmp rfl _ _ _, rfl, hW⟩
        · have hkey : r ∈ L.map (·.1) := List.mem_map.2 ⟨_, hrv, rfl⟩
          have hkb := HK0.out r hkey
          obtain ⟨i, rfl⟩ : ∃ i : Nat, r = i := ⟨r.toNat, by omega⟩
          have hi : i < T.rs.length := by omega
          have HLK := Lib.hid (leftK_lt hkey hrd)
          have hx4 := hb2.grown hg4 (by omega)
          have hb4 := hb0.kept hg4 (fun e => by have := Option.some.inj e; omega)
          have hm4 := hb1.grown hg4 (fun D hD e => by
            have h1 := (hb1.at_ D hD).2
            obtain ⟨es, ck, si, c0, se, _, h2, _⟩ := hR.2.1
            rw [Option.some.inj e, h2] at h1
            cases h1)
          obtain ⟨bb, oo, rfl, c0, c1⟩ := (hT.r.ext hx4).get i hi
          have hsn := sumL_snoc (cst T.rs) d (i : Int)
          rw [HS.out, show ((i : Int).toNat) = i by omega, cst_get hi] at hsn
          have hcb := (hok.rv.v i hi).2
          obtain ⟨ct, hct⟩ : ∃ ct, T.rs[i].cost = ct := ⟨_, rfl⟩
          rw [hct] at c1 hsn hcb
          have HSN := Lib.hid hsn
          have g0 : w4.cell? ⟨w.heap.size, 0, none⟩ = some (.slice (some ⟨bb, oo, none⟩) T.rs.length ca) := hb4.cell 0
          have henc : encI (i : Int) = .int .i64 i := rfl
          rw [henc] at hrun hent
          clear hct hsn hkey hrd hrv e0 henc
          gi_wp2_with (refine wpListIn_nextRun rfl _ rfl rfl hrun ?_)
          exact ⟨leftK L (d ++ [(i : Int)]), HLK.out, d ++ [(i : Int)], _, _, _, _, _, _, _, _, _, _, _, _, _, by rw [HSN.out], rfl, Lib.hid hR4, Lib.hid ⟨hb4, hm4, hx4⟩⟩
set_option maxRecDepth 100000 in
set_option maxHeartbeats 4000000 in
theorem alone_Obj (a b : Value) (T : Tr) (hok : Ok T) (tl : Py → Bool) (cap : Value) (w : World) (hT : TrAt w a b T)
    (htell : ∀ (x : Py) (W : World), Ext w W → Calls Try.prog 85 #[.agg #[.int .i64 x.id, .int .i64 x.reach, .int .i64 x.w], cap] W fun e W' => e = .returned (.bool (tl x)) ∧ Ext W W') :
    Calls Try.prog 57 #[.agg #[a, b], .func (.func 85) #[] #[cap]] w fun e w' => e = .returned (.int .i64 (alnE T tl)) ∧ Ext w w' := by
  obtain ⟨AE, hAE⟩ : ∃ AE, alnE T tl = AE := ⟨_, rfl⟩
  have HAE := Lib.hid hAE
  rw [hAE]
  clear hAE
  obtain ⟨aa, ca, rfl, hla⟩ := hT.r.len
  obtain ⟨ab, cb, rfl, hlb⟩ := hT.p.len
  have hmk := @run_makeMap Try.prog
  refine (callsIn_wide (n := 5)).1 ?_
  refine callsIn_of_wp_marks Try.func57 rfl trivial ?_ rfl; simp only [Try.ntmps57, List.size_toArray, List.length_cons, List.length_nil, Nat.reduceAdd, Nat.reduceSub, Array.replicate_succ, Array.replicate_zero, List.push_toArray, List.append_toArray, List.nil_append, List.cons_append]
  gi_wp2_with fail
  obtain ⟨W1, hW1⟩ : ∃ W1, ((w.alloc (.cells #[.slice aa T.rs.length ca, .slice ab T.ps.length cb] 25)).alloc (.map #[] 0)).alloc (.cells #[.map (some (w.heap.size + 1))] 101) = W1 := ⟨_, rfl⟩
  obtain ⟨q0, q2, qm, hx1⟩ : Cls w.heap.size 25 #[.slice aa T.rs.length ca, .slice ab T.ps.length cb] W1 ∧ Cls (w.heap.size + 1 + 1) 101 #[.map (some (w.heap.size + 1))] W1 ∧ MapAt encI W1 (w.heap.size + 1) [] ∧ Ext w W1 := by
    rw [← hW1]
    refine ⟨(Cls.new w _ _).ext (by repeat (first | exact Ext.refl _ | assumption | refine Ext.alloc ?_ _ | refine Ext.drew ?_ | refine Ext.drewN _ ?_ | refine Ext.trans ?_ (by assumption))), Cls.newAt _ _ _ (by simp), ?_, (by repeat (first | exact Ext.refl _ | assumption | refine Ext.alloc ?_ _ | refine Ext.drew ?_ | refine Ext.drewN _ ?_ | refine Ext.trans ?_ (by assumption)))⟩
    have h := mapAt_made encI (w.alloc (.cells #[.slice aa T.rs.length ca, .slice ab T.ps.length cb] 25))
    rw [World.size_alloc] at h
    exact h.ext (by repeat (first | exact Ext.refl _ | assumption | refine Ext.alloc ?_ _ | refine Ext.drew ?_ | refine Ext.drewN _ ?_ | refine Ext.trans ?_ (by assumption)))
  try rw [hW1]
  clear hW1 hmk
  refine wpIn_loopg (fun g a W => ∃ (j : Nat) (Ds : List Nat) (L : List (Int × Value)) (u7 u8 u16 u17 u18 u19 u20 u21 u22 u23 u24 u25 u26 u27 u28 u29 u30 : Value), a = { tmps := #[.agg #[.slice aa T.rs.length ca, .slice ab T.ps.length cb], .func (.func 85) #[] #[cap], .pointer (some ⟨w.heap.size, 0, none⟩), undef, .int .i64 0, .pointer (some ⟨w.heap.size + 1 + 1, 0, none⟩), undef, u7, u8, undef, undef, .map (some (w.heap.size + 1)), .pointer (some ⟨w.heap.size, 1, none⟩), .slice ab T.ps.length cb, .int .i64 T.ps.length, .int .i64 j, u16, u17, u18, u19, u20, u21, u22, u23, u24, u25, u26, u27, u28, u29, u30, undef, undef, undef, undef, undef, undef, undef, undef, undef, undef, undef, undef, undef, undef, undef], defers := marksOf Ds } ∧ j ≤ T.ps.length ∧ g = T.ps.length - j ∧ Hid (AL w W (.slice aa T.rs.length ca) (.slice ab T.ps.length cb) Ds L) ∧ Hid (AK T tl j L)) T.ps.length ?_ ?_
  · exact ⟨0, [], [], undef, undef, undef, undef, undef, undef, undef, undef, undef, undef, undef, undef, undef, undef, undef, undef, undef, rfl, Nat.zero_le _, rfl, Lib.hid ⟨q0, q2, qm, marks_nil _ _, hx1⟩, Lib.hid (by simp [AK])⟩
  · rintro g a W ⟨j, Ds, L, u7, u8, u16, u17, u18, u19, u20, u21, u22, u23, u24, u25, u26, u27, u28, u29, u30, rfl, hj, rfl, HA, HK⟩
    by_cases hlt : j < T.ps.length
    · obtain ⟨bb, oo, rfl, c0, c1, c2⟩ := (hT.p.ext HA.out.ex).get j hlt
      have hlp := hok.lp
      have hpv := hok.pv _ (List.getElem_mem hlt)
      have hstep := AK.step hlt HK.out
      have hid : T.ps[j] = ⟨T.ps[j].id, T.ps[j].reach, T.ps[j].w⟩ := rfl
      obtain ⟨x, hxx⟩ : ∃ x, T.ps[j].id = x := ⟨_, rfl⟩
      obtain ⟨y, hyy⟩ : ∃ y, T.ps[j].reach = y := ⟨_, rfl⟩
      obtain ⟨z, hzz⟩ : ∃ z, T.ps[j].w = z := ⟨_, rfl⟩
      rw [hxx] at c0 hid
      rw [hyy] at c1 hid hpv hstep
      rw [hzz] at c2 hid
      rw [hid] at hstep
      obtain ⟨tv, htv⟩ : ∃ tv, tl ⟨x, y, z⟩ = tv := ⟨_, rfl⟩
      rw [htv] at hstep
      have hy1 : y < T.rs.length := hpv.2.1.2
      have hy0 : -1 ≤ y := by have := hpv.2.1.1; omega
      have HTV := Lib.hid htv
      have HST := Lib.hid hstep
      clear hxx hyy hzz hid hpv hstep htv
      have d0 : W.cell? ⟨w.heap.size, 0, none⟩ = some (.slice aa T.rs.length ca) := HA.out.bx.cell 0
      have d1 : W.cell? ⟨w.heap.size, 1, none⟩ = some (.slice (some ⟨bb, oo, none⟩) T.ps.length cb) := HA.out.bx.cell 1
      gi_wp2_with fail
      obtain ⟨Y, hY⟩ : ∃ Y, W.alloc (.cells #[.int .i64 x, .int .i64 y, .int .i64 z] 45) = Y := ⟨_, rfl⟩
      have hxY : Ext W Y := by rw [← hY]; exact (by repeat (first | exact Ext.refl _ | assumption | refine Ext.alloc ?_ _ | refine Ext.drew ?_ | refine Ext.drewN _ ?_ | refine Ext.trans ?_ (by assumption)))
      have hbY : Cls W.heap.size 45 #[.int .i64 x, .int .i64 y, .int .i64 z] Y := by rw [← hY]; exact Cls.new _ _ _
      try rw [hY]
      clear hY d0 d1
      refine ⟨trivial, (callsIn_wide.2 (htell ⟨x, y, z⟩ _ (HA.out.ex.trans hxY))).mono ?_⟩
      rw [HTV.out]
      rintro e w2 ⟨rfl, hx2⟩
      have hA2 := (HA.out.ext hxY).ext hx2
      have hb2 := hbY.ext hx2
      cases tv
      · have hwj : wrap64 ((j : Int) + 1) = ((j + 1 : Nat) : Int) := by rw [IntWalk.wrap64_in _ (by omega)]; omega
        have hs := HST.out
        rw [if_neg (by decide)] at hs
        have HS := Lib.hid hs
        clear hs HST
        gi_wp2
        exact ⟨T.ps.length - (j + 1), by omega, j + 1, Ds, L, _, _, _, _, _, _, _, _, _, _, _, _, _, _, _, _, _, rfl, by omega, rfl, Lib.hid hA2, HS⟩
      · have hs := HST.out
        rw [if_pos rfl] at hs
        have HS := Lib.hid hs
        have e0 : w2.cell? ⟨w.heap.size, 0, none⟩ = some (.slice aa T.rs.length ca) := hA2.bx.cell 0
        have e1 : w2.cell? ⟨w.heap.size, 1, none⟩ = some (.slice (some ⟨bb, oo, none⟩) T.ps.length cb) := hA2.bx.cell 1
        have e2 : w2.cell? ⟨W.heap.size, 1, none⟩ = some (.int .i64 y) := hb2.cell 1
        clear hs HST
        gi_wp2_with fail
        refine ⟨trivial, (callsIn_wide.2 (up_any _ _ y _)).mono ?_⟩
        rintro e w3 ⟨rfl, hw3⟩
        obtain ⟨p0, p1, hx3, hs3⟩ := up_boxes hw3
        have hA3 := hA2.ext hx3
        have hz2 := hA2.ex.size
        have hm2 := hA2.mb.lt
        clear hw3 e0 e1 e2
        gi_wp2_with fail
        have hseq := up_seq w2.heap.size (w2.heap.size + 1) T hok.rv _ _ y hy0 hy1 w w3 hA3.ex _ _ (by omega) (by omega) p0 p1 hT.r
        have hbs : ∀ b ∈ [w2.heap.size, w2.heap.size + 1], b < w3.heap.size := by simp; omega
        have hIb : AbidesBox (w2.heap.size + 1) (fun (pre : List (RIx T.rs.length)) W => (Cls w.heap.size 25 #[.slice aa T.rs.length ca, .slice (some ⟨bb, oo, none⟩) T.ps.length cb] W ∧ Cls (w.heap.size + 1 + 1) 101 #[.map (some (w.heap.size + 1))] W) ∧ (MapAt encI W (w.heap.size + 1) (addAll L (vals pre)) ∧ MarksAt w.heap.size Ds W) ∧ Below w.heap.size w W ∧ w3.heap.size ≤ W.heap.size) :=
          ((abidesBox_cls _ (fun _ => #[.slice aa T.rs.length ca, .slice (some ⟨bb, oo, none⟩) T.ps.length cb]) (by omega)).and (abidesBox_cls _ (fun _ => #[.map (some (w.heap.size + 1))]) (by omega))).and (((mapAt_abide _ (by omega)).and marks_abide).and ((abidesBox_below (by omega) (Nat.le_refl _)).and (abidesBox_size _)))
        have hI : OwnFrom w3.heap.size (fun (pre : List (RIx T.rs.length)) W => (Cls w.heap.size 25 #[.slice aa T.rs.length ca, .slice (some ⟨bb, oo, none⟩) T.ps.length cb] W ∧ Cls (w.heap.size + 1 + 1) 101 #[.map (some (w.heap.size + 1))] W) ∧ (MapAt encI W (w.heap.size + 1) (addAll L (vals pre)) ∧ MarksAt w.heap.size Ds W) ∧ Below w.heap.size w W ∧ w3.heap.size ≤ W.heap.size) :=
          OwnFrom.and (OwnFrom.and ((Cls.own _ _ (fun _ => #[.slice aa T.rs.length ca, .slice (some ⟨bb, oo, none⟩) T.ps.length cb])).from _) ((Cls.own _ _ (fun _ => #[.map (some (w.heap.size + 1))])).from _)) (OwnFrom.and (OwnFrom.and (mapAt_own _ (by omega)) (marks_own (fun D hD => hA3.mr.lt D hD))) (OwnFrom.and (ownFrom_below (Nat.le_refl _) hA3.ex.size) (ownFrom_size _ _)))
        have hIx : ∀ c : Code, OwnFrom w3.heap.size (fun (_ : List (RIx T.rs.length)) (_ : World) => False) := fun c => fun _ _ _ _ hs _ _ => hs
        have h00 : (fun (pre : List (RIx T.rs.length)) W => (Cls w.heap.size 25 #[.slice aa T.rs.length ca, .slice (some ⟨bb, oo, none⟩) T.ps.length cb] W ∧ Cls (w.heap.size + 1 + 1) 101 #[.map (some (w.heap.size + 1))] W) ∧ (MapAt encI W (w.heap.size + 1) (addAll L (vals pre)) ∧ MarksAt w.heap.size Ds W) ∧ Below w.heap.size w W ∧ w3.heap.size ≤ W.heap.size) [] w3 := ⟨⟨hA3.bx, hA3.mb⟩, ⟨hA3.mp, hA3.mr⟩, hA3.ex, Nat.le_refl _⟩
        have hw3 : w.heap.size ≤ w3.heap.size := by omega
        have hm3 : w.heap.size + 1 < w3.heap.size := by omega
        refine range_own (gf := 117) (lb := #[.pointer (some ⟨w2.heap.size + 1, 0, none⟩), .pointer (some ⟨w2.heap.size, 0, none⟩)]) ?hg ?eg (n₀ := w.heap.size) (bs := [w2.heap.size, w2.heap.size + 1]) (Br := w2.heap.size + 1) hw3 hbs (by omega)
          hseq ?hps _ _ hI hIx hIb h00 ?round ?done ?stop
        case hg => rfl
        case eg => exact enters_of Try.func117 (by kernel_rfl) rfl
        case hps => exact fun _ => rfl
        case round =>
          apply Exists.intro
          constructor
          · intro l x W K hK
            dsimp only [encR]
            gi_wp2
            exact hK
          · rintro l pre x W ⟨⟨i0, i2⟩, ⟨i1, i3⟩, i4, i5⟩ _
            have j2 : W.cell? ⟨w.heap.size + 1 + 1, 0, none⟩ = some (.map (some (w.heap.size + 1))) := i2.cell 0
            gi_wp2_with (refine wpListIn_updateMap rfl _ _ _ rfl KI mapT rfl i1 x.1 (.bool true) rfl rfl ?_; intro w5 hM5 hg5)
            refine ⟨KeepsFrom.of_grownBy hg5 (fun j e => by cases e; omega), KpB.grown hg5 (by omega) (by simp; omega) (by omega), ⟨i0.kept hg5 (fun e => by have := Option.some.inj e; omega), i2.kept hg5 (fun e => by have := Option.some.inj e; omega)⟩, ⟨?_, i3.grown hg5 (by
              intro D hD e
              cases e
              have h1 := (i3.at_ _ hD).2
              obtain ⟨es, ck, h2, _⟩ := i1
              rw [h1] at h2; cases h2)⟩, ?_⟩
            · rw [vals_snoc, addAll_snoc]; exact hM5
            · exact ⟨i4.grown hg5 i4.size (fun k e => by cases e; omega), by have h1 := hg5.size; have h2 := i5; omega⟩
        case done =>
          rintro D xs W5 hD rfl ⟨⟨i0, i2⟩, ⟨i1, i3⟩, i4, i5⟩ hK
          rw [upS_vals] at i1
          gi_wp2
          exact ⟨T.ps.length - (j + 1), by omega, j + 1, D :: Ds, ⟨by omega, rfl⟩, by omega, rfl, _, Lib.hid ⟨i0, i2, i1, MarksAt.cons hA3.mr i3 (by omega) (by omega) hK, i4⟩, HS⟩
        case stop =>
          rintro D c pre W5 _ _ h _
          exact h.elim
    · obtain rfl : j = T.ps.length := by omega
      have m0 : W.cell? ⟨w.heap.size + 1 + 1, 0, none⟩ = some (.map (some (w.heap.size + 1))) := HA.out.mb.cell 0
      have hmp := HA.out.mp
      gi_wp2_with (refine wpListIn_rangeMap rfl _ rfl mapT rfl hmp ?_; intro w3 hR3 hx3)
      have hz1 := HA.out.mb.lt
      have hk0 : ∀ r : Int, r ∈ L.map (·.1) → 0 ≤ r ∧ r < T.rs.length := fun r hr => by
        obtain ⟨p, hp, _, h2⟩ := (HK.out r).1 hr
        exact upL_in hok.rv (hok.pv p (List.mem_of_mem_take hp)).2.1.2 r h2
      have HK0 := Lib.hid hk0
      have hA3 := HA.out.ext hx3
      clear hk0 hmp m0
      refine wpIn_loopg (fun g a W' => ∃ (d : List Int) (v10 v33 v34 v35 v36 v37 v38 v39 v40 v41 v42 v43 v44 : Value), a = { tmps := #[.agg #[.slice aa T.rs.length ca, .slice ab T.ps.length cb], .func (.func 85) #[] #[cap], .pointer (some ⟨w.heap.size, 0, none⟩), undef, .int .i64 0, .pointer (some ⟨w.heap.size + 1 + 1, 0, none⟩), undef, u7, u8, .int .i64 (sumL (cst T.rs) d), v10, .map (some (w.heap.size + 1)), .pointer (some ⟨w.heap.size, 1, none⟩), .slice ab T.ps.length cb, .int .i64 T.ps.length, .int .i64 T.ps.length, .bool false, u17, u18, u19, u20, u21, u22, u23, u24, u25, u26, u27, u28, u29, u30, .map (some (w.heap.size + 1)), .pointer (some ⟨W.heap.size, 0, none⟩), v33, v34, v35, v36, v37, v38, v39, v40, v41, v42, v43, v44, undef], defers := marksOf Ds } ∧ g = leftK L d ∧ Hid (RangeAt encI W' (w.heap.size + 1) W.heap.size L d) ∧ Hid (Cls w.heap.size 25 #[.slice aa T.rs.length ca, .slice ab T.ps.length cb] W' ∧ MarksAt w.heap.size Ds W' ∧ Ext w W')) (leftK L []) ?_ ?_
      · exact ⟨[], undef, undef, undef, undef, undef, undef, undef, undef, undef, undef, undef, undef, undef, rfl, rfl, Lib.hid hR3, Lib.hid ⟨hA3.bx, hA3.mr, hA3.ex⟩⟩
      · rintro g a W' ⟨d, v10, v33, v34, v35, v36, v37, v38, v39, v40, v41, v42, v43, v44, rfl, rfl, HR, HB⟩
        have hR := HR.out
        obtain ⟨hb0, hb1, hb2⟩ := HB.out
        have e0 : W'.cell? ⟨w.heap.size, 0, none⟩ = some (.slice aa T.rs.length ca) := hb0.cell 0
        have hdn := hR.2.2.1
        have hdk := hR.2.2.2
        have hsb := sumL_bd hok hdn (fun r hr => HK0.out r (hdk r hr))
        obtain ⟨s, hs⟩ : ∃ s, sumL (cst T.rs) d = s := ⟨_, rfl⟩
        rw [hs] at hsb ⊢
        have HS := Lib.hid hs
        have HDN := Lib.hid hdn
        have HDK := Lib.hid hdk
        clear hs hdn hdk
        rcases run_nextMap (P := Try.prog) encI_inj hR 0 with ⟨hall, hrun⟩ | ⟨r, v, w4, hrv, hrd, hrun, hR4, hg4, hent⟩
        · have HAll := Lib.hid hall
          clear hall
          gi_wp2_with (refine wpListIn_nextRun rfl _ rfl rfl hrun ?_)
          have hfin : s = AE := by
            rw [← HS.out, ← HAE.out]
            refine alnE_of hok tl HDN.out (fun r => ⟨fun h => ?_, fun h => ?_⟩)
            · have := (HK.out r).1 (HDK.out r h)
              rwa [List.take_length] at this
            · exact HAll.out r ((HK.out r).2 (by rw [List.take_length]; exact h))
          subst hfin
          show LeavesInM Fence.wide 5 Try.prog Try.f57 _ _ (marksOf Ds) .returning W'
          refine leaves_marks (n₀ := w.heap.size) (X := fun W => Below w.heap.size w W) (ownFrom_swept (I := fun (_ : Unit) W => Below w.heap.size w W) (ownFrom_below (Nat.le_refl _) (Nat.le_refl _)) ()) (fun W hW => ?_) Ds W' hb1 hb2
          exact ⟨_, results_tmp rfl _ _ _, rfl, hW⟩
        · have hkey : r ∈ L.map (·.1) := List.mem_map.2 ⟨_, hrv, rfl⟩
          have hkb := HK0.out r hkey
          obtain ⟨i, rfl⟩ : ∃ i : Nat, r = i := ⟨r.toNat, by omega⟩
          have hi : i < T.rs.length := by omega
          have HLK := Lib.hid (leftK_lt hkey hrd)
          have hx4 := hb2.grown hg4 (by omega)
          have hb4 := hb0.kept hg4 (fun e => by have := Option.some.inj e; omega)
          have hm4 := hb1.grown hg4 (fun D hD e => by
            have h1 := (hb1.at_ D hD).2
            obtain ⟨es, ck, si, c0, se, _, h2, _⟩ := hR.2.1
            rw [Option.some.inj e, h2] at h1
            cases h1)
          obtain ⟨bb, oo, rfl, c0, c1⟩ := (hT.r.ext hx4).get i hi
          have hsn := sumL_snoc (cst T.rs) d (i : Int)
          rw [HS.out, show ((i : Int).toNat) = i by omega, cst_get hi] at hsn
          have hcb := (hok.rv.v i hi).2
          obtain ⟨ct, hct⟩ : ∃ ct, T.rs[i].cost = ct := ⟨_, rfl⟩
          rw [hct] at c1 hsn hcb
          have HSN := Lib.hid hsn
          have g0 : w4.cell? ⟨w.heap.size, 0, none⟩ = some (.slice (some ⟨bb, oo, none⟩) T.rs.length ca) := hb4.cell 0
          have henc : encI (i : Int) = .int .i64 i := rfl
          rw [henc] at hrun hent
          clear hct hsn hkey hrd hrv e0 henc
          gi_wp2_with (refine wpListIn_nextRun rfl _ rfl rfl hrun ?_)
          exact ⟨leftK L (d ++ [(i : Int)]), HLK.out, d ++ [(i : Int)], _, _, _, _, _, _, _, _, _, _, _, _, _, by rw [HSN.out], rfl, Lib.hid hR4, Lib.hid ⟨hb4, hm4, hx4⟩⟩
end Go.Proofs.Ythopgonbndoidaa
