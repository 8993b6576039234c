/- Maps that the call makes, as lists of keys and values: made, looked up, written, ranged over. For keys of any type whose law is shown ('KL'), over any program. -/
import Derived.Test.YtiofdfjcaklmcaaBase
import Derived.Maps.OwnIn
import Derived.Maps.RangeRun
import Derived.Maps.RangeWalk
import Derived.RangeFuncRecord
import Derived.RangeFuncWrites
namespace Go.Proofs.Ytiofdfjcaklmcaa
open Go.RowKit Go.Maps
open Go.ChangeMaps (setBlock heap_setBlock_same heap_setBlock_other)

/-- keys of one type: how they lie, and that the model finds them -/
structure KL (P : Program) (kt : TypeId) {κ : Type} (enc : κ → Value) : Prop where
  inj : ∀ a b, enc a = enc b → a = b
  check : ∀ (w : World) (em : Bool) (k : κ), (Instr.checkKey em 10000 kt (enc k)).run P w = .ok () w
  find : ∀ (w : World) (k : κ) (es : List MapEntry), (∀ e ∈ es, ∃ c, e.key = enc c) →
    ((Instr.findKey kt (enc k) es).run P w = .ok none w ∧ ∀ e ∈ es, e.key ≠ enc k) ∨ ∃ j e, (Instr.findKey kt (enc k) es).run P w = .ok (some (j, e.val)) w ∧ es[j]? = some e ∧ e.key = enc k
  stays : ∀ (w : World) (k : κ), (Instr.keyThatStays (enc k) (enc k)).run P w = .ok (enc k) w

theorem KL.of_keyed {P : Program} {kt : TypeId} {κ : Type} {enc : κ → Value} (K : Keyed P kt) (hi : ∀ a b, enc a = enc b → a = b) (hk : ∀ k, ∃ l, keyOf P kt (enc k) = some l) : KL P kt enc where
  inj := hi
  check w em k := by obtain ⟨l, h⟩ := hk k; exact K.check w em h
  find w k es he := by
    obtain ⟨l, h⟩ := hk k
    exact K.find w h es (fun e hm => by obtain ⟨c, hc⟩ := he e hm; rw [hc]; exact hk c)
  stays w k := by obtain ⟨l, h⟩ := hk k; exact K.stays w h

section
variable {P : Program} {κ : Type} {enc : κ → Value} {kt et mt : TypeId} {w : World} {b : Nat} {l : List (κ × Value)}

/-- block b is a map that holds these keys, in this order, with these values -/
def MapAt (enc : κ → Value) (w : World) (b : Nat) (l : List (κ × Value)) : Prop :=
  ∃ es clock, w.heap[b]? = some (.map es clock) ∧ es.toList.map (fun e => (e.key, e.val)) = l.map (fun p => (enc p.1, p.2)) ∧ (l.map (·.1)).Nodup ∧ (es.toList.map (·.born)).Nodup ∧ ∀ e ∈ es.toList, e.born < clock

def getK [DecidableEq κ] (l : List (κ × Value)) (k : κ) : Option Value := (l.find? (fun p => decide (p.1 = k))).map (·.2)
def updK [DecidableEq κ] (l : List (κ × Value)) (k : κ) (v : Value) : List (κ × Value) := if (getK l k).isSome = true then l.map (fun p => if p.1 = k then (k, v) else p) else l ++ [(k, v)]

theorem MapAt.lt (h : MapAt enc w b l) : b < w.heap.size := by
  obtain ⟨es, clock, hb, _⟩ := h
  exact (Array.getElem?_eq_some_iff.1 hb).1
theorem MapAt.same {w' : World} (h : MapAt enc w b l) (e : w'.heap[b]? = w.heap[b]?) : MapAt enc w' b l := by
  obtain ⟨es, clock, hb, r⟩ := h
  exact ⟨es, clock, e.trans hb, r⟩
theorem MapAt.ext {w' : World} (h : MapAt enc w b l) (x : Ext w w') : MapAt enc w' b l := h.same (Below.block x b h.lt)
theorem MapAt.grown {w' : World} {row : Option Nat} (h : MapAt enc w b l) (hg : w.grownBy w' row) (hne : some b ≠ row) : MapAt enc w' b l := h.same (hg.block b h.lt (fun e => hne (e ▸ rfl)))
theorem mapAt_made (enc : κ → Value) (w : World) : MapAt enc (w.alloc (.map #[] 0)) w.heap.size [] :=
  ⟨#[], 0, World.alloc_heap_new w _, rfl, List.nodup_nil, List.nodup_nil, fun e he => by simp at he⟩
theorem MapAt.setCell (h : MapAt enc w b l) {a : Addr} (ha : b ≠ a.block) (u : Value) : MapAt enc (w.setCell a u) b l := h.same (Below.heap_setCell _ _ _ _ ha)

theorem getK_none [DecidableEq κ] {l : List (κ × Value)} {k : κ} (h : ∀ p ∈ l, p.1 ≠ k) : getK l k = none := by
  unfold getK
  rw [List.find?_eq_none.2 (fun p hp => by simpa using h p hp)]
  rfl
theorem getK_some [DecidableEq κ] {l : List (κ × Value)} {k : κ} {v : Value} (hn : (l.map (·.1)).Nodup) (h : (k, v) ∈ l) : getK l k = some v := by
  induction l with
  | nil => simp at h
  | cons p l ih =>
    unfold getK
    simp only [List.find?_cons]
    simp only [List.map_cons, List.nodup_cons] at hn
    rcases List.mem_cons.1 h with rfl | h
    · simp
    · have hne : p.1 ≠ k := fun e => hn.1 (e ▸ List.mem_map.2 ⟨_, h, rfl⟩)
      simp only [hne, decide_false]
      exact ih hn.2 h

theorem MapAt.keys (h : MapAt enc w b l) {es : Array MapEntry} {clock : Nat} (hb : w.heap[b]? = some (.map es clock)) : (∀ e ∈ es.toList, ∃ c, e.key = enc c) := by
  obtain ⟨es', clock', hb', hm, _⟩ := h
  rw [hb] at hb'
  simp only [Option.some.injEq, Obj.map.injEq] at hb'
  obtain ⟨rfl, rfl⟩ := hb'
  intro e he
  have : (e.key, e.val) ∈ l.map (fun p => (enc p.1, p.2)) := by rw [← hm]; exact List.mem_map.2 ⟨e, he, rfl⟩
  obtain ⟨p, _, hp⟩ := List.mem_map.1 this
  exact ⟨p.1, (Prod.mk.inj hp).1.symm⟩

/-- what is looked up -/
theorem run_findMap [DecidableEq κ] (K : KL P kt enc) (h : MapAt enc w b l) {es : Array MapEntry} {clock : Nat} (hb : w.heap[b]? = some (.map es clock)) (k : κ) :
    (getK l k = none ∧ (Instr.findKey kt (enc k) es.toList).run P w = .ok none w ∧ ∀ p ∈ l, p.1 ≠ k) ∨ ∃ j e v, getK l k = some v ∧ (Instr.findKey kt (enc k) es.toList).run P w = .ok (some (j, v)) w ∧ es.toList[j]? = some e ∧ e.key = enc k ∧ l[j]? = some (k, v) := by
  have hk := h.keys hb
  obtain ⟨es', clock', hb', hm, hn, _⟩ := h
  rw [hb] at hb'
  simp only [Option.some.injEq, Obj.map.injEq] at hb'
  obtain ⟨rfl, rfl⟩ := hb'
  rcases K.find w k es.toList hk with ⟨h1, h2⟩ | ⟨j, e, h1, h2, h3⟩
  · left
    have hne : ∀ p ∈ l, p.1 ≠ k := by
      intro p hp e
      have : (enc p.1, p.2) ∈ es.toList.map (fun e => (e.key, e.val)) := by rw [hm]; exact List.mem_map.2 ⟨p, hp, rfl⟩
      obtain ⟨x, hx, hxe⟩ := List.mem_map.1 this
      exact h2 x hx (by rw [(Prod.mk.inj hxe).1, e])
    exact ⟨getK_none hne, h1, hne⟩
  · right
    have hj : (es.toList.map (fun e => (e.key, e.val)))[j]? = some (e.key, e.val) := by rw [List.getElem?_map, h2]; rfl
    rw [hm, List.getElem?_map] at hj
    obtain ⟨p, hp, hpe⟩ := Option.map_eq_some_iff.1 hj
    simp only [Prod.mk.injEq] at hpe
    have hpk : p.1 = k := K.inj _ _ (by rw [hpe.1, h3])
    have hp' : l[j]? = some (k, e.val) := by rw [hp, ← hpk, ← hpe.2]
    exact ⟨j, e, e.val, getK_some hn (List.mem_of_getElem? hp'), h1, h2, h3, hp'⟩

theorem run_lookupMap [DecidableEq κ] (K : KL P kt enc) (ht : P.underlying mt = some (.map kt et)) (h : MapAt enc w b l) (k : κ) {z : Value} (hz : (zeroValue et).run P w = .ok z w) (ok : Bool) :
    (Instr.lookup mt (.map (some b)) (enc k) ok).run P w = .ok (if ok then .tuple #[(getK l k).getD z, .bool (getK l k).isSome] else (getK l k).getD z) w := by
  have h' := h
  obtain ⟨es, clock, hb, _⟩ := h'
  rcases run_findMap K h hb k with ⟨h1, h2, _⟩ | ⟨j, e, v, h1, h2, _, _⟩
  · cases ok <;> simp [Instr.lookup, run_underlying ht, MapKept.run_getObj_map hb, K.check, h2, hz, Result.andThen, h1]
  · cases ok <;> simp [Instr.lookup, run_underlying ht, MapKept.run_getObj_map hb, K.check, h2, Result.andThen, h1]

theorem run_updateMap [DecidableEq κ] (K : KL P kt enc) (ht : P.underlying mt = some (.map kt et)) (h : MapAt enc w b l) (k : κ) (v : Value) :
    ∃ w', (Instr.mapUpdate mt (.map (some b)) (enc k) v).run P w = .ok () w' ∧ MapAt enc w' b (updK l k v) ∧ w.grownBy w' (some b) := by
  have h' := h
  obtain ⟨es, clock, hb, hm, hn, hbn, hlt⟩ := h'
  have hlen : es.toList.length = l.length := by simpa using congrArg List.length hm
  have hgr : ∀ o, w.grownBy (setBlock w b o) (some b) := fun o => ⟨rfl, rfl, rfl, by simp [setBlock], fun i _ hi => heap_setBlock_other hb _ (fun e => hi (by rw [e]))⟩
  rcases run_findMap K h hb k with ⟨h1, h2, h3⟩ | ⟨j, e, u, h1, h2, h3, h4, h5⟩
  · refine ⟨setBlock w b (.map (es.push ⟨enc k, v, clock⟩) (clock + 1)), ?_, ⟨_, _, heap_setBlock_same hb _, ?_, ?_, ?_, ?_⟩, hgr _⟩
    · simp [Instr.mapUpdate, run_underlying ht, MapKept.run_getObj_map hb, K.check, h2, MapKept.run_setObj_map _ hb, Result.andThen, setBlock]
    · simp [updK, h1, hm]
    · rw [updK, h1]
      simp only [Option.isSome_none, Bool.false_eq_true, if_false, List.map_append, List.map_cons, List.map_nil]
      rw [List.nodup_append]
      refine ⟨hn, by simp, fun a ha c hc => ?_⟩
      simp only [List.mem_singleton] at hc
      subst hc
      obtain ⟨p, hp, rfl⟩ := List.mem_map.1 ha
      exact h3 p hp
    · simp only [Array.toList_push, List.map_append, List.map_cons, List.map_nil]
      rw [List.nodup_append]
      refine ⟨hbn, by simp, fun a ha c hc => ?_⟩
      simp only [List.mem_singleton] at hc
      subst hc
      obtain ⟨x, hx, rfl⟩ := List.mem_map.1 ha
      have := hlt x hx
      omega
    · intro x hx
      simp only [Array.toList_push, List.mem_append, List.mem_singleton] at hx
      rcases hx with hx | rfl
      · have := hlt x hx; omega
      · simp
  · have hj : j < es.size := by
      rcases Nat.lt_or_ge j es.size with hj | hj
      · exact hj
      · rw [List.getElem?_eq_none (by simpa using hj)] at h3; cases h3
    have hej : es[j] = e := by
      rw [List.getElem?_eq_getElem (by simpa using hj)] at h3
      simpa using h3
    refine ⟨setBlock w b (.map (es.modify j fun e => { e with key := enc k, val := v }) clock), ?_, ⟨_, _, heap_setBlock_same hb _, ?_, ?_, ?_, ?_⟩, hgr _⟩
    · have hk' : ((es[j]?).map (·.key)).getD (enc k) = enc k := by rw [Array.getElem?_eq_getElem hj, hej]; exact h4
      simp [Instr.mapUpdate, run_underlying ht, MapKept.run_getObj_map hb, K.check, h2, Result.andThen]
      rw [show (Option.map (fun x => x.key) es[j]?).getD (enc k) = enc k from hk']
      simp [K.stays, MapKept.run_setObj_map _ hb, setBlock]
    · rw [updK, h1]
      simp only [Option.isSome_some, if_true, List.map_map]
      apply List.ext_getElem?
      intro i
      have hmi : (es.toList.map (fun e => (e.key, e.val)))[i]? = (l.map (fun p => (enc p.1, p.2)))[i]? := by rw [hm]
      simp only [List.getElem?_map, Array.getElem?_toList, Array.getElem?_modify] at hmi ⊢
      by_cases hij : j = i
      · subst hij
        simp only [if_true, Array.getElem?_eq_getElem hj, Option.map_some, h5, Function.comp]
      · rw [if_neg hij, hmi]
        cases hli : l[i]? with
        | none => rfl
        | some p =>
          simp only [Option.map_some, Function.comp]
          have hpk : p.1 ≠ k := by
            intro e'
            have hi1 : (l.map (·.1))[i]? = some k := by rw [List.getElem?_map, hli, ← e']; rfl
            have hj1 : (l.map (·.1))[j]? = some k := by rw [List.getElem?_map, h5]; rfl
            have hil : i < (l.map (·.1)).length := (List.getElem?_eq_some_iff.1 hi1).1
            exact hij ((List.getElem?_inj hil hn).1 (hi1.trans hj1.symm)).symm
          rw [if_neg hpk]
    · rw [updK, h1]
      simp only [Option.isSome_some, if_true, List.map_map]
      have : (fun p : κ × Value => p.1) ∘ (fun p => if p.1 = k then (k, v) else p) = fun p => p.1 := by
        funext p
        by_cases e : p.1 = k
        · simp [e]
        · simp [e]
      rw [this]
      exact hn
    · have : (es.modify j fun e => { e with key := enc k, val := v }).toList.map (·.born) = es.toList.map (·.born) := by
        apply List.ext_getElem?
        intro i
        simp only [List.getElem?_map, Array.getElem?_toList, Array.getElem?_modify]
        split
        · cases es[i]? <;> rfl
        · rfl
      rw [this]
      exact hbn
    · intro x hx
      obtain ⟨i, hi, rfl⟩ := List.getElem_of_mem hx
      simp only [Array.getElem_toList, Array.getElem_modify]
      have hi' : i < es.size := by simpa using hi
      have := hlt es[i] (by simp)
      split
      · exact this
      · exact this

theorem nodup_map {α β : Type} {f : α → β} (hi : ∀ a c, f a = f c → a = c) {l : List α} (h : l.Nodup) : (l.map f).Nodup := by
  unfold List.Nodup at *
  rw [List.pairwise_map]
  exact List.Pairwise.imp_of_mem (fun _ _ h e => h (hi _ _ e)) h

/-- a range over the map is under way: the keys in 'd' have come -/
def RangeAt (enc : κ → Value) (w : World) (b r : Nat) (l : List (κ × Value)) (d : List κ) : Prop :=
  MapAt enc w b l ∧ (∃ es clock since c0 seen, w.heap[b]? = some (.map es clock) ∧ w.heap[r]? = some (.mapIter (some b) since seen c0) ∧ (∀ x ∈ es.toList, x.born < since) ∧ (since ≤ c0 ∧ since ≤ clock) ∧
    (∀ e ∈ es.toList, e.born ∈ seen.toList ↔ ∃ k ∈ d, enc k = e.key)) ∧ d.Nodup ∧ ∀ k ∈ d, k ∈ l.map (·.1)

theorem RangeAt.ext {w' : World} {r : Nat} {d : List κ} (h : RangeAt enc w b r l d) (x : Ext w w') : RangeAt enc w' b r l d := by
  obtain ⟨hM, ⟨es, clock, since, c0, seen, hb, hr, rest⟩, hd⟩ := h
  exact ⟨hM.ext x, ⟨es, clock, since, c0, seen, (Below.block x b (Array.getElem?_eq_some_iff.1 hb).1).trans hb, (Below.block x r (Array.getElem?_eq_some_iff.1 hr).1).trans hr, rest⟩, hd⟩
theorem RangeAt.ne {r : Nat} {d : List κ} (h : RangeAt enc w b r l d) : r ≠ b := by
  obtain ⟨_, ⟨es, clock, since, c0, seen, hb, hr, _⟩, _⟩ := h
  rintro rfl
  rw [hb] at hr
  cases hr

theorem run_rangeMap (ht : P.underlying mt = some (.map kt et)) (h : MapAt enc w b l) :
    ∃ w', (Instr.range mt (.map (some b))).run P w = .ok (.pointer (some ⟨w.heap.size, 0, none⟩)) w' ∧ RangeAt enc w' b w.heap.size l [] ∧ Ext w w' := by
  have h' := h
  obtain ⟨es, clock, hb, hm, hn, hbn, hlt⟩ := h'
  have hx : Ext w (w.alloc (.mapIter (some b) clock #[] clock)) := (Ext.refl _).alloc _
  exact ⟨_, run_range_map w mt kt et b es clock ht hb, ⟨h.ext hx, ⟨es, clock, clock, clock, #[], (Below.block hx b h.lt).trans hb, World.alloc_heap_new _ _, hlt, ⟨Nat.le_refl _, Nat.le_refl _⟩, fun e he => by simp⟩, List.nodup_nil, fun k hk => by simp at hk⟩, hx⟩

theorem sb_same {w : World} {b : Nat} (h : b < w.heap.size) (o : Obj) : (setBlock w b o).heap[b]? = some o := by simp [setBlock, h]
theorem sb_other {w : World} {b i : Nat} (o : Obj) (h : i ≠ b) : (setBlock w b o).heap[i]? = w.heap[i]? := by
  simp only [setBlock]
  rw [Array.getElem?_setIfInBounds_ne (by omega)]
theorem run_nextMap {r : Nat} {d : List κ} (hi : ∀ a c, enc a = enc c → a = c) (h : RangeAt enc w b r l d) (ty : TypeId) :
    ((∀ k ∈ l.map (·.1), k ∈ d) ∧ (Instr.next (.pointer (some ⟨r, 0, none⟩)) false ty).run P w = .ok (.tuple #[.bool false]) w) ∨
    ∃ k v w', (k, v) ∈ l ∧ k ∉ d ∧ (Instr.next (.pointer (some ⟨r, 0, none⟩)) false ty).run P w = .ok (.tuple #[.bool true, enc k, v]) w' ∧ RangeAt enc w' b r l (d ++ [k]) ∧ w.grownBy w' (some r) ∧
      (Instr.entry (.pointer (some ⟨r, 0, none⟩))).run P w' = .ok (.tuple #[enc k, v]) w' := by
  have hne := h.ne
  obtain ⟨hM, ⟨es, clock, since, c0, seen, hb, hr, hold, ⟨hsc, hsk⟩, hsn⟩, hd1, hd2⟩ := h
  have hM' := hM
  obtain ⟨es', clock', hb', hm, hn, hbn, hlt⟩ := hM'
  rw [hb] at hb'
  simp only [Option.some.injEq, Obj.map.injEq] at hb'
  obtain ⟨rfl, rfl⟩ := hb'
  have hof : ∀ e ∈ es.toList, ∃ p ∈ l, enc p.1 = e.key ∧ p.2 = e.val := by
    intro e he
    have : (e.key, e.val) ∈ l.map (fun p => (enc p.1, p.2)) := by rw [← hm]; exact List.mem_map.2 ⟨e, he, rfl⟩
    obtain ⟨p, hp, hpe⟩ := List.mem_map.1 this
    exact ⟨p, hp, (Prod.mk.inj hpe).1, (Prod.mk.inj hpe).2⟩
  rcases run_next_at (P := P) w ty r b since c0 seen es clock hr hb hold hsc with ⟨h0, hrun⟩ | ⟨e, he, w1, hw1, hrun⟩
  · left
    refine ⟨fun k hk => ?_, hrun⟩
    obtain ⟨p, hp, rfl⟩ := List.mem_map.1 hk
    have : (enc p.1, p.2) ∈ es.toList.map (fun e => (e.key, e.val)) := by rw [hm]; exact List.mem_map.2 ⟨p, hp, rfl⟩
    obtain ⟨e, he, hee⟩ := List.mem_map.1 this
    have hs : e.born ∈ seen.toList := by
      rcases Classical.em (e.born ∈ seen.toList) with hs | hs
      · exact hs
      · exfalso
        have hmem : e ∈ leftOf es seen := by
          unfold leftOf
          rw [Array.mem_filter]
          refine ⟨by simpa using he, ?_⟩
          simpa using hs
        have := Array.size_pos_of_mem hmem
        omega
    obtain ⟨k', hk', hke⟩ := (hsn e he).1 hs
    have : k' = p.1 := hi _ _ (by rw [hke, (Prod.mk.inj hee).1])
    exact this ▸ hk'
  · right
    have he' : e ∈ es.toList ∧ e.born ∉ seen.toList := by
      have hm2 : e ∈ leftOf es seen := by simpa using he
      unfold leftOf at hm2
      rw [Array.mem_filter] at hm2
      exact ⟨by simpa using hm2.1, by simpa using hm2.2⟩
    obtain ⟨p, hp, hpk, hpv⟩ := hof e he'.1
    have hnd : p.1 ∉ d := fun hc => he'.2 ((hsn e he'.1).2 ⟨p.1, hc, hpk⟩)
    have hr1 : w1.heap[r]? = some (.mapIter (some b) since seen c0) := by rcases hw1 with rfl | rfl <;> exact hr
    have hb1 : w1.heap[b]? = some (.map es clock) := by rcases hw1 with rfl | rfl <;> exact hb
    have hg1 : w.grownBy (setBlock w1 r (.mapIter (some b) since (seen.push e.born) clock)) (some r) := by
      refine ⟨by rcases hw1 with rfl | rfl <;> rfl, by rcases hw1 with rfl | rfl <;> rfl, by rcases hw1 with rfl | rfl <;> rfl, by rcases hw1 with rfl | rfl <;> simp [setBlock], fun i _ hi' => ?_⟩
      rw [sb_other _ (fun e => hi' (by rw [e]))]
      rcases hw1 with rfl | rfl <;> rfl
    have hbs : (setBlock w1 r (.mapIter (some b) since (seen.push e.born) clock)).heap[b]? = some (.map es clock) := by
      rw [sb_other _ (fun e => hne e.symm)]; exact hb1
    have hrs := sb_same (Array.getElem?_eq_some_iff.1 hr1).1 (.mapIter (some b) since (seen.push e.born) clock)
    refine ⟨p.1, p.2, _, hp, hnd, by rw [hpk, hpv]; exact hrun, ⟨hM.same (hbs.trans hb.symm), ⟨es, clock, since, clock, seen.push e.born, hbs, hrs, hold, ?_, ?_⟩, ?_, ?_⟩, hg1, ?_⟩
    · exact ⟨hsk, hsk⟩
    · intro x hx
      simp only [Array.toList_push, List.mem_append, List.mem_singleton]
      constructor
      · rintro (h1 | h1)
        · obtain ⟨k', hk', hke⟩ := (hsn x hx).1 h1
          exact ⟨k', .inl hk', hke⟩
        · have hxe : x = e := by
            have hn' := hbn
            obtain ⟨i, hi1, rfl⟩ := List.getElem_of_mem hx
            obtain ⟨j, hj1, rfl⟩ := List.getElem_of_mem he'.1
            have hij : (es.toList.map (·.born))[i]? = (es.toList.map (·.born))[j]? := by
              rw [List.getElem?_map, List.getElem?_map, List.getElem?_eq_getElem hi1, List.getElem?_eq_getElem hj1]
              simp only [Option.map_some, h1]
            have := (List.getElem?_inj (by simpa using hi1) hn').1 hij
            subst this; rfl
          exact ⟨p.1, .inr rfl, by rw [hpk, hxe]⟩
      · rintro ⟨k', hk' | hk', hke⟩
        · exact .inl ((hsn x hx).2 ⟨k', hk', hke⟩)
        · right
          subst hk'
          have hxe : x = e := by
            obtain ⟨i, hi1, rfl⟩ := List.getElem_of_mem hx
            obtain ⟨j, hj1, rfl⟩ := List.getElem_of_mem he'.1
            have hkeys : es.toList.map (·.key) = (l.map (·.1)).map enc := by
              have := congrArg (List.map Prod.fst) hm
              simpa [List.map_map, Function.comp_def] using this
            have hnk : (es.toList.map (·.key)).Nodup := by
              rw [hkeys]
              exact nodup_map hi hn
            have hij : (es.toList.map (·.key))[i]? = (es.toList.map (·.key))[j]? := by
              rw [List.getElem?_map, List.getElem?_map, List.getElem?_eq_getElem hi1, List.getElem?_eq_getElem hj1]
              simp only [Option.map_some, ← hke, hpk]
            have := (List.getElem?_inj (by simpa using hi1) hnk).1 hij
            subst this; rfl
          rw [hxe]
    · rw [List.nodup_append]
      exact ⟨hd1, by simp, fun a ha c hc => by simp only [List.mem_singleton] at hc; subst hc; exact fun e => hnd (e ▸ ha)⟩
    · intro k hk
      simp only [List.mem_append, List.mem_singleton] at hk
      rcases hk with hk | rfl
      · exact hd2 k hk
      · exact List.mem_map.2 ⟨p, hp, rfl⟩
    · rw [hpk, hpv]
      exact run_entry_at _ r b since seen es clock e hrs hbs he'.1 hbn


/-! ### AT THE OPERATION, FOR THE WALK -/
variable {ops : Array Oper} {rest : List Oper} {o : Oper} {a : Act} {Q : Exit → Act → World → Prop}

theorem wpList_lookupMap [DecidableEq κ] (hg : o.guard = none) (m x : Operand) (ok : Bool) (hop : o.op = Op.lookup mt m x ok) (K : KL P kt enc) (ht : P.underlying mt = some (.map kt et))
    (hm : a.eval m = .map (some b)) (h : MapAt enc w b l) (k : κ) (hx : a.eval x = enc k) {z : Value} (hz : (zeroValue et).run P w = .ok z w)
    (hK : wpList P ops Q rest (a.put o.dst (if ok then .tuple #[(getK l k).getD z, .bool (getK l k).isSome] else (getK l k).getD z)) w) : wpList P ops Q (o :: rest) a w := by
  refine wpList_plain hg fun K' hK' => ?_
  have hrun := run_lookupMap K ht h k hz ok
  unfold Oper.wp
  simp [execOp, hop, hm, hx, hrun, Result.andThen]
  exact hK' _ _ hK

theorem wpList_updateMap [DecidableEq κ] (hg : o.guard = none) (m x v : Operand) (hop : o.op = Op.mapUpdate mt m x v) (K : KL P kt enc) (ht : P.underlying mt = some (.map kt et))
    (hm : a.eval m = .map (some b)) (h : MapAt enc w b l) (k : κ) (val : Value) (hx : a.eval x = enc k) (hv : a.eval v = val)
    (hK : ∀ w', MapAt enc w' b (updK l k val) → w.grownBy w' (some b) → wpList P ops Q rest (a.put o.dst undef) w') : wpList P ops Q (o :: rest) a w := by
  refine wpList_plain hg fun K' hK' => ?_
  obtain ⟨w', hrun, r1, r2⟩ := run_updateMap K ht h k val
  unfold Oper.wp
  simp [execOp, hop, hm, hx, hv, hrun, Result.andThen]
  exact hK' _ _ (hK w' r1 r2)

theorem wpList_rangeMap (hg : o.guard = none) (m : Operand) (hop : o.op = Op.range mt m) (ht : P.underlying mt = some (.map kt et)) (hm : a.eval m = .map (some b)) (h : MapAt enc w b l)
    (hK : ∀ w', RangeAt enc w' b w.heap.size l [] → Ext w w' → wpList P ops Q rest (a.put o.dst (.pointer (some ⟨w.heap.size, 0, none⟩))) w') : wpList P ops Q (o :: rest) a w := by
  refine wpList_plain hg fun K' hK' => ?_
  obtain ⟨w', hrun, r1, r2⟩ := run_rangeMap ht h
  unfold Oper.wp
  simp [execOp, hop, hm, hrun, Result.andThen]
  exact hK' _ _ (hK w' r1 r2)

theorem wpList_nextMap {r : Nat} {d : List κ} (hg : o.guard = none) (it : Operand) (hop : o.op = Op.next it false) (hi : ∀ a c, enc a = enc c → a = c) (hit : a.eval it = .pointer (some ⟨r, 0, none⟩)) (h : RangeAt enc w b r l d)
    (hDone : (∀ k ∈ l.map (·.1), k ∈ d) → wpList P ops Q rest (a.put o.dst (.tuple #[.bool false])) w)
    (hMore : ∀ k v w', (k, v) ∈ l → k ∉ d → RangeAt enc w' b r l (d ++ [k]) → w.grownBy w' (some r) → (Instr.entry (.pointer (some ⟨r, 0, none⟩))).run P w' = .ok (.tuple #[enc k, v]) w' → wpList P ops Q rest (a.put o.dst (.tuple #[.bool true, enc k, v])) w') :
    wpList P ops Q (o :: rest) a w := by
  refine wpList_plain hg fun K' hK' => ?_
  unfold Oper.wp
  rcases run_nextMap (P := P) hi h o.type with ⟨h0, hrun⟩ | ⟨k, v, w', h1, h2, hrun, h3, h4, h5⟩
  · simp [execOp, hop, hit, hrun, Result.andThen]
    exact hK' _ _ (hDone h0)
  · simp [execOp, hop, hit, hrun, Result.andThen]
    exact hK' _ _ (hMore k v w' h1 h2 h3 h4 h5)

variable {F : Fence} {nF : Nat}
theorem wpListIn_lookupMap [DecidableEq κ] (hg : o.guard = none) (m x : Operand) (ok : Bool) (hop : o.op = Op.lookup mt m x ok) (K : KL P kt enc) (ht : P.underlying mt = some (.map kt et))
    (hm : a.eval m = .map (some b)) (h : MapAt enc w b l) (k : κ) (hx : a.eval x = enc k) {z : Value} (hz : (zeroValue et).run P w = .ok z w)
    (hK : wpListIn F nF P ops Q rest (a.put o.dst (if ok then .tuple #[(getK l k).getD z, .bool (getK l k).isSome] else (getK l k).getD z)) w) : wpListIn F nF P ops Q (o :: rest) a w := by
  refine wpListIn_plain hg fun K' hK' => ?_
  have hrun := run_lookupMap K ht h k hz ok
  unfold Oper.wpIn
  refine ⟨by simp [Oper.about, hop], ?_⟩
  rw [Oper.semAt_plain F _ _ (by rw [hop]; intro c hc'; cases hc')]
  simp [execOp, hop, hm, hx, hrun, Result.andThen]
  exact hK' _ _ hK

theorem wpListIn_updateMap [DecidableEq κ] (hg : o.guard = none) (m x v : Operand) (hop : o.op = Op.mapUpdate mt m x v) (K : KL P kt enc) (ht : P.underlying mt = some (.map kt et))
    (hm : a.eval m = .map (some b)) (h : MapAt enc w b l) (k : κ) (val : Value) (hx : a.eval x = enc k) (hv : a.eval v = val)
    (hK : ∀ w', MapAt enc w' b (updK l k val) → w.grownBy w' (some b) → wpListIn F nF P ops Q rest (a.put o.dst undef) w') : wpListIn F nF P ops Q (o :: rest) a w := by
  refine wpListIn_plain hg fun K' hK' => ?_
  obtain ⟨w', hrun, r1, r2⟩ := run_updateMap K ht h k val
  unfold Oper.wpIn
  refine ⟨by simp [Oper.about, hop], ?_⟩
  rw [Oper.semAt_plain F _ _ (by rw [hop]; intro c hc'; cases hc')]
  simp [execOp, hop, hm, hx, hv, hrun, Result.andThen]
  exact hK' _ _ (hK w' r1 r2)

end


/-- keys that are ints -/
def encI (x : Int) : Value := .int .i64 x
theorem encI_inj (a b : Int) (h : encI a = encI b) : a = b := by
  simp only [encI, Value.int.injEq, true_and] at h; exact h
theorem findNow_int (q : IntKind) (k : Int) : ∀ (es : List MapEntry) (i : Nat), (∀ e ∈ es, ∃ c : Int, e.key = .int .i64 c) →
    (Instr.findNow (.int q) (.int .i64 k) es i = some none ∧ ∀ e ∈ es, e.key ≠ .int .i64 k) ∨ ∃ j e, Instr.findNow (.int q) (.int .i64 k) es i = some (some (i + j, e.val)) ∧ es[j]? = some e ∧ e.key = .int .i64 k := by
  intro es
  induction es with
  | nil => intro i _; exact .inl ⟨rfl, fun e he => by simp at he⟩
  | cons x es ih =>
    intro i h
    obtain ⟨c, hc⟩ := h x (List.mem_cons_self ..)
    by_cases e : k = c
    · subst e
      exact .inr ⟨0, x, by simp [Instr.findNow, Instr.sameNow, hc], rfl, hc⟩
    · have hs : Instr.sameNow (.int q) (.int .i64 k) x.key = some false := by rw [hc]; simp [Instr.sameNow, e]
      rcases ih (i + 1) (fun y hy => h y (List.mem_cons_of_mem _ hy)) with ⟨h1, h2⟩ | ⟨j, y, h1, h2, h3⟩
      · left
        refine ⟨by simp only [Instr.findNow, hs]; exact h1, fun y hy => ?_⟩
        rcases List.mem_cons.1 hy with rfl | hy
        · rw [hc]; simp only [ne_eq, Value.int.injEq, true_and]; exact fun h => e h.symm
        · exact h2 y hy
      · right
        exact ⟨j + 1, y, by simp only [Instr.findNow, hs]; rw [h1, show i + 1 + j = i + (j + 1) from by omega], by simpa using h2, h3⟩
theorem intKL {P : Program} {kt : TypeId} (hk : P.underlying kt = some (.int .i64)) : KL P kt encI where
  inj := encI_inj
  check w em k := by
    obtain ⟨n, hn⟩ : ∃ n, 10000 = n + 1 := ⟨9999, rfl⟩
    rw [hn]
    simp [encI, Instr.checkKey, run_underlying hk]
  stays w k := by
    have hs : ∀ n, Instr.sameBits n (encI k) (encI k) = true := fun n => by cases n <;> simp [encI, Instr.sameBits]
    unfold Instr.keyThatStays
    rw [hs]
    rfl
  find w k es he := by
    rcases findNow_int .i64 k es 0 he with ⟨h1, h2⟩ | ⟨j, e, h1, h2, h3⟩
    · exact .inl ⟨by simp [encI, Instr.findKey, run_underlying hk, h1], h2⟩
    · exact .inr ⟨j, e, by simp [encI, Instr.findKey, run_underlying hk, h1], h2, h3⟩

end Go.Proofs.Ytiofdfjcaklmcaa
