/- A loop over an iterator with a loop variable in a block of its own, where a round keeps what any relation says; the entry of a map's literal. No program in sight. moves of the program: the iterator over the shifts away from one, for every loop body that keeps what lay before, its boxes, and slots. ways of the program: who is found by shifts, and the ways there. -/
import Derived.Test.YtiofdfjcaklmcaaVBase
import Derived.Test.YtiofdfjcaklmcaaFBs
namespace Go.Proofs.Ytiofdfjcaklmcaa
open Go.RowKit Go.Shelf Go.Maps

attribute [local go_sem] Oper.semAt_some

/-- what a round keeps: all that lay below n₀, some blocks, and each block of one type -/
def KpT (n₀ : Nat) (bs : List Nat) (ty : TypeId) (W W' : World) : Prop := KpB n₀ bs W W' ∧ ∀ b cs, Cls b ty cs W → Cls b ty cs W'
theorem KpT.trans {n₀ : Nat} {bs : List Nat} {ty : TypeId} {A B C : World} (h : KpT n₀ bs ty A B) (k : KpT n₀ bs ty B C) : KpT n₀ bs ty A C := ⟨h.1.trans k.1, fun b cs hb => k.2 b cs (h.2 b cs hb)⟩
theorem KpT.refl (n₀ : Nat) (bs : List Nat) (ty : TypeId) (A : World) : KpT n₀ bs ty A A := ⟨KpB.refl _ _ _, fun _ _ h => h⟩
theorem KpT.ext {n₀ : Nat} {bs : List Nat} {ty : TypeId} {A B : World} (h : Ext A B) (h1 : n₀ ≤ A.heap.size) (h2 : ∀ b ∈ bs, b < A.heap.size) : KpT n₀ bs ty A B := ⟨KpB.ext h h1 h2, fun _ _ hc => hc.ext h⟩
theorem KpT.grown {n₀ : Nat} {bs : List Nat} {ty : TypeId} {A B : World} {b : Nat} (hg : A.grownBy B (some b)) (hb : n₀ ≤ b) (hbs : ∀ x ∈ bs, x < A.heap.size ∧ x ≠ b) (hn : n₀ ≤ A.heap.size) (hne : ∀ cs, ¬ Cls b ty cs A) : KpT n₀ bs ty A B :=
  ⟨KpB.grown hg hb hbs hn, fun c cs hc => hc.kept hg (fun e => by cases e; exact hne cs hc)⟩
theorem KpT.grownO {n₀ : Nat} {bs : List Nat} {ty : TypeId} {A B : World} {r : Option Nat} (hg : A.grownBy B r) (hb : ∀ b, r = some b → n₀ ≤ b ∧ (∀ x ∈ bs, x ≠ b) ∧ ∀ cs, ¬ Cls b ty cs A) (hbs : ∀ x ∈ bs, x < A.heap.size) (hn : n₀ ≤ A.heap.size) : KpT n₀ bs ty A B := by
  cases r with
  | none => exact ⟨⟨⟨hg.os, hg.tape, hg.output, hg.size, fun i hi => hg.block i (by omega) (by simp)⟩, fun x hx => hg.block x (hbs x hx) (by simp)⟩, fun c cs hc => hc.kept hg (by simp)⟩
  | some b =>
    obtain ⟨h1, h2, h3⟩ := hb b rfl
    exact KpT.grown hg h1 (fun x hx => ⟨hbs x hx, h2 x hx⟩) hn h3
theorem KpT.set {n₀ : Nat} {bs : List Nat} {ty t : TypeId} {A : World} {B : Nat} {v : Value} (hp : n₀ ≤ B) (hb : B ∉ bs) (hc : Cls B t #[v] A) (hne : t ≠ ty) (u : Value) : KpT n₀ bs ty A (A.setCell ⟨B, 0, none⟩ u) :=
  ⟨KpB.set A (p := ⟨B, 0, none⟩) hp hb u, fun c cs h => h.other (fun e => by
    subst e
    have := Option.some.inj (h.symm.trans hc)
    simp only [Obj.cells.injEq] at this
    exact hne this.2.1.symm) 0 u⟩
theorem kpT_put {n₀ : Nat} {bs : List Nat} {ty : TypeId} {w : World} (h1 : n₀ ≤ w.heap.size) (h2 : ∀ b ∈ bs, b < w.heap.size) : ∀ (W : World) (l : Nat) (o o' : Obj), w.heap.size ≤ l → W.heap[l]? = some o → o.isCells = false → o.isWalk = false → KpT n₀ bs ty W (W.putObj l o') :=
  fun W l o o' hl ho hc hw => ⟨kpB_b h1 h2 W l o o' hl ho hc hw, fun _ _ h => h.putObj o' ho hc⟩
theorem kpT_all {n₀ : Nat} {bs : List Nat} {ty : TypeId} {w : World} (h1 : n₀ ≤ w.heap.size) (h2 : ∀ b ∈ bs, b < w.heap.size) : ∀ (W : World) (o : Obj), w.heap.size ≤ W.heap.size → KpT n₀ bs ty W (W.alloc o) :=
  fun W o h => KpT.ext (by repeat (first | exact Ext.refl _ | assumption | refine Ext.alloc ?_ _ | refine Ext.drew ?_ | refine Ext.drewN _ ?_ | refine Ext.trans ?_ (by assumption))) (by omega) (fun b hb => by have := h2 b hb; omega)
theorem KpT.below {n₀ : Nat} {bs : List Nat} {ty : TypeId} {A B : World} (h : KpT n₀ bs ty A B) : Below n₀ A B := h.1.1
theorem KpT.cls {n₀ : Nat} {bs : List Nat} {ty t : TypeId} {A B : World} {b : Nat} {cs : Array Value} (h : KpT n₀ bs ty A B) (hb : b ∈ bs) (hc : Cls b t cs A) : Cls b t cs B := h.1.cls hb hc
theorem KpT.ty {n₀ : Nat} {bs : List Nat} {ty : TypeId} {A B : World} {b : Nat} {cs : Array Value} (h : KpT n₀ bs ty A B) (hc : Cls b ty cs A) : Cls b ty cs B := h.2 b cs hc

/-- what stays true when the world only grows -/
def AbidesX {β : Type} (J : β → World → Prop) : Prop := ∀ s W W', Ext W W' → J s W → J s W'
theorem AbidesX.and {β : Type} {J K : β → World → Prop} (h : AbidesX J) (k : AbidesX K) : AbidesX (fun s W => J s W ∧ K s W) := fun s W W' x hs => ⟨h s W W' x hs.1, k s W W' x hs.2⟩
theorem abidesX_block {β : Type} {L : Nat} (o : Obj) : AbidesX (fun (_ : β) (W : World) => W.heap[L]? = some o) := fun _ _ _ x hs => (Below.block x L (Array.getElem?_eq_some_iff.1 hs).1).trans hs
/-- the contract of an iterator that keeps no state: whatever the round does that keeps 'Kp' -/
def SeqX {α : Type} (n : Nat) (P : Program) (g : Nat) (lb : Array Value) (encs : α → Array Value) (Kp : World → World → Prop) (S Sp : List α → Prop) (N : List α → α → Prop) (w : World) : Prop :=
  ∀ (l : Nat) (J Jx : List α → World → Prop) (W : World), Below w.heap.size w W → AbidesX J →
    (∀ pre x W1, J pre W1 → N pre x → YieldAt Fence.wide (n - 1) P l (encs x) W1 fun e W' =>
      (e = .returned (.bool true) ∧ J (pre ++ [x]) W' ∧ Kp W1 W') ∨ (e = .returned (.bool false) ∧ Jx (pre ++ [x]) W')) →
    J [] W →
    CallsIn Fence.wide n P g (#[.func (.yield l) #[] #[]] ++ lb) W fun e W' => (∃ v, e = .returned v) ∧ ((∃ xs, S xs ∧ J xs W') ∨ (∃ pre, Sp pre ∧ Jx pre W'))

set_option maxHeartbeats 1000000 in
/-- A loop over an iterator, its loop variable in a block of its own; what a round keeps is any relation that goes on. -/
theorem range_own3 {α : Type} {P : Program} {g : Operand} {ps : Array Tmp} {assign body : Code} {Q : Exit → Act → World → Prop} {a : Act} {w : World}
    {gf : Nat} {lb : Array Value} (hg : a.eval g = .func (.func gf) #[] lb) (eg : ∀ args w, (callFunc gf args).run P w = .ok (.enter gf args) w)
    {Kp : World → World → Prop} (ktr : ∀ A B C, Kp A B → Kp B C → Kp A C) (kput : ∀ (W : World) (l : Nat) (o o' : Obj), w.heap.size ≤ l → W.heap[l]? = some o → o.isCells = false → o.isWalk = false → Kp W (W.putObj l o')) (kall : ∀ (W : World) (o : Obj), w.heap.size ≤ W.heap.size → Kp W (W.alloc o))
    {encs : α → Array Value} {S Sp : List α → Prop} {N : List α → α → Prop} (hseq : SeqX 4 P gf lb encs Kp S Sp N w)
    (hps : ∀ x, (encs x).size = ps.size)
    (I : List α → World → Prop) (Ix : Code → List α → World → Prop) (hI : OwnFrom w.heap.size I) (hIx : ∀ c, OwnFrom w.heap.size (Ix c)) (hIb : AbidesX I) (h0 : I [] w)
    (ob : α → Obj)
    (hr : ∃ a₁ : α → World → Act, (∀ (l : Nat) (x : α) (W : World) (K : Act → World → Prop), K (a₁ x W) (W.alloc (ob x)) →
      assign.wpIn (Fence.wide.inRound l) 3 P (Exit.then K (fun _ _ _ => False)) { tmps := (ps.zip (encs x)).foldl (fun t (p, v) => t.setIfInBounds p v) a.tmps, defers := [] } W) ∧
      (∀ (l : Nat) (pre : List α) (x : α) (W0 W : World), I pre W → N pre x → W.heap[W0.heap.size]? = some (ob x) → w.heap.size ≤ W0.heap.size → body.wpIn (Fence.wide.inRound l) 3 P (ownPostG w.heap.size Kp I Ix (pre ++ [x]) W) (a₁ x W0) W))
    (hdone : ∀ (D : Nat) (xs : List α) (W : World), w.heap.size ≤ D → S xs → I xs W → W.heap[D]? = some (.deferred (some [])) → Q .normal { a with defers := { target := .collected D, args := #[] } :: a.defers } W)
    (hstop : ∀ (D : Nat) (c : Code) (pre : List α) (W : World), w.heap.size ≤ D → Sp pre → Ix c pre W → W.heap[D]? = some (.deferred (some [])) → c.wpIn Fence.wide 5 P Q { a with defers := { target := .collected D, args := #[] } :: a.defers } W) :
    (Code.rangeFunc g ps assign body).wpIn Fence.wide 5 P Q a w := by
  obtain ⟨a₁, hass, hbody⟩ := hr
  refine wpIn_rangeFunc fun fn hfn => ?_
  let D := w.heap.size
  let L := w.heap.size + 1
  let rc : LoopState → Option Code → Obj := fun st pe => .loop { state := st, pending := pe, fn, tmps := a.tmps, params := ps, assign, body, defers := D }
  let W1 := (w.alloc (.deferred (some []))).alloc (rc .ready none)
  have bL : W1.heap[L]? = some (rc .ready none) := by
    have h := World.alloc_heap_new (w.alloc (.deferred (some []))) (rc .ready none)
    rwa [World.size_alloc] at h
  have bD : W1.heap[D]? = some (.deferred (some [])) := (Below.heap_alloc _ _ _ (by simp [D])).trans (World.alloc_heap_new w _)
  have bW : Below w.heap.size w W1 := ((Below.refl _ w).alloc (Nat.le_refl _) _).alloc (by simp) _
  have put := kput
  refine ⟨L, [{ target := .collected D, args := #[] }], W1, { target := .fn (.func gf) lb, args := #[.func (.yield L) #[] #[]] }, W1, gf, #[.func (.yield L) #[] #[]] ++ lb, W1,
    run_enterLoop_outer _ _ _ _ _, by simp only [resolve, hg]; simp [go_sem], fun f' hf' => by simp [Target.leads] at hf'; subst hf'; exact trivial, by simp [invoke, go_sem, eg], fun _ => by omega, ?_⟩
  refine (hseq L (fun pre W => I pre W ∧ W.heap[L]? = some (rc .ready none) ∧ W.heap[D]? = some (.deferred (some [])))
    (fun pre W => ∃ c, Ix c pre W ∧ W.heap[L]? = some (rc .done (some c)) ∧ W.heap[D]? = some (.deferred (some []))) W1 bW
    (hIb.and ((abidesX_block _).and (abidesX_block _))) ?_ ⟨hI.alloc _ (hI.alloc _ h0), bL, bD⟩).mono ?_
  · rintro pre x W ⟨hi, hl0, hk0⟩ hlen
    have hltW : L < W.heap.size := (Array.getElem?_eq_some_iff.1 hl0).1
    let Wa := W.alloc (ob x)
    have hl : Wa.heap[L]? = some (rc .ready none) := (Below.heap_alloc W (ob x) L hltW).trans hl0
    have hk : Wa.heap[D]? = some (.deferred (some [])) := (Below.heap_alloc W (ob x) D (by simp only [D, L] at *; omega)).trans hk0
    have hbx : Wa.heap[W.heap.size]? = some (ob x) := World.alloc_heap_new W (ob x)
    have hKa : Kp W Wa := kall W (ob x) (by simp only [L] at hltW; omega)
    refine ⟨fn, _, assign, body, run_yield hl0 (hps x), roundIn_of_wpIn hfn (hass _ x W _ ⟨_, run_beginRound hl rfl, ?_⟩)⟩
    have hlt : L < Wa.heap.size := (Array.getElem?_eq_some_iff.1 hl).1
    let W2 := Wa.putObj L (rc .busy none)
    have hl2 : W2.heap[L]? = some (rc .busy none) := World.putObj_heap_same hlt
    have hk2 : W2.heap[D]? = some (.deferred (some [])) := (World.putObj_heap_other (by simp [D, L])).trans hk
    have hbx2 : W2.heap[W.heap.size]? = some (ob x) := (World.putObj_heap_other (by omega)).trans hbx
    refine wpIn_mono (hbody _ pre x W _ (hI.putObj _ (hI.alloc _ hi) (by simp [L]) hl rfl) hlen hbx2 (by simp only [L] at hltW; omega)) ?_
    have fin : ∀ (j : Option Code) (W3 : World), KeepsFrom w.heap.size W2 W3 →
        (Instr.endRound L j).run P W3 = .ok (.bool j.isNone) (W3.putObj L (rc (if j.isNone then .ready else .done) j)) ∧ W3.heap[L]? = some (rc .busy none) ∧
        (W3.putObj L (rc (if j.isNone then .ready else .done) j)).heap[L]? = some (rc (if j.isNone then .ready else .done) j) ∧ (W3.putObj L (rc (if j.isNone then .ready else .done) j)).heap[D]? = some (.deferred (some [])) := fun j W3 hk3 => by
      have e := hk3.same _ _ (by simp [L]) hl2 rfl
      exact ⟨run_endRound j e, e, World.putObj_heap_same (Array.getElem?_eq_some_iff.1 e).1, (World.putObj_heap_other (by simp [D, L])).trans (hk3.same _ _ (by simp [D]) hk2 rfl)⟩
    rintro e a3 W3 hp
    cases e with
    | normal =>
      obtain ⟨p1, p2, p3⟩ := hp
      obtain ⟨f1, f2, f3, f4⟩ := fin none W3 p1
      exact ⟨_, _, f1, .inl ⟨rfl, ⟨hI.putObj _ p3 (by simp [L]) f2 rfl, f3, f4⟩, ktr _ _ _ (ktr _ _ _ (ktr _ _ _ hKa (put Wa L _ _ (by simp [L]) hl rfl rfl)) p2) (put _ _ _ _ (by simp [L]) f2 rfl rfl)⟩⟩
    | ret =>
      obtain ⟨f1, f2, f3, f4⟩ := fin (some .ret) W3 hp.1
      exact ⟨_, _, f1, .inr ⟨rfl, .ret, (hIx _).putObj _ hp.2 (by simp [L]) f2 rfl, f3, f4⟩⟩
    | exit id =>
      obtain ⟨f1, f2, f3, f4⟩ := fin (some (.exit id)) W3 hp.1
      exact ⟨_, _, f1, .inr ⟨rfl, .exit id, (hIx _).putObj _ hp.2 (by simp [L]) f2 rfl, f3, f4⟩⟩
    | goto t =>
      obtain ⟨f1, f2, f3, f4⟩ := fin (some (.goto t)) W3 hp.1
      exact ⟨_, _, f1, .inr ⟨rfl, .goto t, (hIx _).putObj _ hp.2 (by simp [L]) f2 rfl, f3, f4⟩⟩
    | panic ch => exact hp.elim
    | outgrown => exact hp.elim
  · rintro e W2 ⟨⟨v, rfl⟩, (⟨xs, hS, hi, hl, hk⟩ | ⟨pre, hSp, c, hi, hl, hk⟩)⟩
    · exact ⟨none, _, run_endLoop hl (by simp), hdone _ xs _ (Nat.le_refl _) hS (hI.putObj _ hi (by simp [L]) hl rfl) ((World.putObj_heap_other (by simp [D, L])).trans hk)⟩
    · exact ⟨some c, _, run_endLoop hl (by simp), hstop _ c pre _ (Nat.le_refl _) hSp ((hIx c).putObj _ hi (by simp [L]) hl rfl) ((World.putObj_heap_other (by simp [D, L])).trans hk)⟩


section
variable {P : Program} {κ : Type} {enc : κ → Value} {kt et mt : TypeId} {w : World} {b : Nat} {l : List (κ × Value)}
variable {ops : Array Oper} {rest : List Oper} {o : Oper} {a : Act} {Q : Exit → Act → World → Prop}
theorem wpList_insertMap [DecidableEq κ] (hg : o.guard = none) (m x v : Operand) (hop : o.op = Op.insert mt m x v) (K : KL P kt enc) (ht : P.underlying mt = some (.map kt et))
    (hm : a.eval m = .map (some b)) (h : MapAt enc w b l) (k : κ) (val : Value) (hx : a.eval x = enc k) (hv : a.eval v = val)
    (hK : ∀ w', MapAt enc w' b (updK l k val) → w.grownBy w' (some b) → wpList P ops Q rest (a.put o.dst undef) w') : wpList P ops Q (o :: rest) a w := by
  refine wpList_plain hg fun K' hK' => ?_
  obtain ⟨w', hrun, r1, r2⟩ := run_updateMap K ht h k val
  unfold Oper.wp
  simp [execOp, hop, hm, hx, hv, hrun, Result.andThen]
  exact hK' _ _ (hK w' r1 r2)
theorem wpListIn_insertMap {F : Fence} {nF : Nat} [DecidableEq κ] (hg : o.guard = none) (m x v : Operand) (hop : o.op = Op.insert mt m x v) (K : KL P kt enc) (ht : P.underlying mt = some (.map kt et))
    (hm : a.eval m = .map (some b)) (h : MapAt enc w b l) (k : κ) (val : Value) (hx : a.eval x = enc k) (hv : a.eval v = val)
    (hK : ∀ w', MapAt enc w' b (updK l k val) → w.grownBy w' (some b) → wpListIn F nF P ops Q rest (a.put o.dst undef) w') : wpListIn F nF P ops Q (o :: rest) a w := by
  refine wpListIn_plain hg fun K' hK' => ?_
  obtain ⟨w', hrun, r1, r2⟩ := run_updateMap K ht h k val
  unfold Oper.wpIn
  refine ⟨by simp [Oper.about, hop], ?_⟩
  rw [Oper.semAt_plain F _ _ (by rw [hop]; intro c hc'; cases hc')]
  simp [execOp, hop, hm, hx, hv, hrun, Result.andThen]
  exact hK' _ _ (hK w' r1 r2)
end
end Go.Proofs.Ytiofdfjcaklmcaa
namespace Go.Proofs.Ytiofdfjcaklmcaa
open Go.RowKit Go.Shelf

attribute [local go_sem] Oper.semAt_some

/-- what is left of the shifts: from slot i on; of the users from j on -/
def mvR (P : Po) (g : List Int) (a : Int) (i : Nat) : List (Nat × Int) := ((List.range P.ss.length).drop i).flatMap (movS P g a)
def mvJ (us : List Int) (a : Int) (i j : Nat) : List (Nat × Int) := ((us.drop j).filter (fun u => decide (u ≠ a))).map (fun u => (i, u))
theorem mvR_zero (P : Po) (g : List Int) (a : Int) : mvR P g a 0 = movL P g a := rfl
theorem mvR_end (P : Po) (g : List Int) (a : Int) : mvR P g a P.ss.length = [] := by
  unfold mvR
  rw [List.drop_eq_nil_of_le (by simp)]; rfl
theorem mvR_step {P : Po} {g : List Int} {a : Int} {i : Nat} (h : i < P.ss.length) : mvR P g a i = movS P g a i ++ mvR P g a (i + 1) := by
  unfold mvR
  rw [drop_cons (List.range P.ss.length) i (by simpa using h)]
  simp
theorem movS_no {P : Po} {g : List Int} {a : Int} {i : Nat} (h : i < g.length) (hne : g[i] ≠ a) : movS P g a i = [] := by
  unfold movS
  rw [if_neg]
  simpa [h] using hne
theorem movS_yes {P : Po} {g : List Int} {a : Int} {i : Nat} (h : i < g.length) (h' : i < P.ss.length) (he : g[i] = a) : movS P g a i = mvJ P.ss[i].us a i 0 := by
  unfold movS mvJ
  rw [if_pos (by simpa [h] using he)]
  simp [h']
theorem mvJ_end (us : List Int) (a : Int) (i : Nat) : mvJ us a i us.length = [] := by simp [mvJ]
theorem mvJ_yes {us : List Int} {a : Int} {i j : Nat} (h : j < us.length) (hne : us[j] ≠ a) : mvJ us a i j = (i, us[j]) :: mvJ us a i (j + 1) := by
  unfold mvJ
  rw [drop_cons us j h, List.filter_cons, if_pos (by simpa using hne)]
  rfl
theorem mvJ_no {us : List Int} {a : Int} {i j : Nat} (h : j < us.length) (he : us[j] = a) : mvJ us a i j = mvJ us a i (j + 1) := by
  unfold mvJ
  rw [drop_cons us j h, List.filter_cons, if_neg (by simpa using he)]
def sid (P : Po) (i : Nat) : Int := (P.ss.getD i ⟨0, []⟩).id
theorem sid_at {P : Po} {i : Nat} (h : i < P.ss.length) : sid P i = P.ss[i].id := by simp [sid, h]
def encM (P : Po) (m : Nat × Int) : Array Value := #[.agg #[.int .i64 (sid P m.1), .int .i64 m.2]]

set_option maxHeartbeats 1000000 in
theorem moves_any (a b : Value) (A : Option Addr) (n c : Nat) (r : Int) (w : World) :
    Calls Try.prog 119 #[.agg #[a, b], .slice A n c, .int .i64 r] w fun e w' => e = .returned (.func (.func 138) #[] #[.pointer (some ⟨w.heap.size, 0, none⟩), .pointer (some ⟨w.heap.size + 1, 0, none⟩), .pointer (some ⟨w.heap.size + 2, 0, none⟩)]) ∧ ((w.alloc (.cells #[a, b] 25)).alloc (.cells #[.slice A n c] 46)).alloc (.cells #[.int .i64 r] 3) = w' := by
  go_enter Try.func119, Try.ntmps119
  go_wp2
  go_ret
  exact ⟨rfl, rfl⟩
theorem moves_boxes {w w1 : World} {a b v : Value} {r : Int} (h : ((w.alloc (.cells #[a, b] 25)).alloc (.cells #[v] 46)).alloc (.cells #[.int .i64 r] 3) = w1) :
    Cls w.heap.size 25 #[a, b] w1 ∧ Cls (w.heap.size + 1) 46 #[v] w1 ∧ Cls (w.heap.size + 2) 3 #[.int .i64 r] w1 ∧ Ext w w1 ∧ w1.heap.size = w.heap.size + 3 := by
  subst h
  exact ⟨(Cls.new _ _ _).ext (by repeat (first | exact Ext.refl _ | assumption | refine Ext.alloc ?_ _ | refine Ext.drew ?_ | refine Ext.drewN _ ?_ | refine Ext.trans ?_ (by assumption))), (Cls.newAt (w.alloc (.cells #[a, b] 25)) _ _ (by simp)).ext (by repeat (first | exact Ext.refl _ | assumption | refine Ext.alloc ?_ _ | refine Ext.drew ?_ | refine Ext.drewN _ ?_ | refine Ext.trans ?_ (by assumption))), Cls.newAt _ _ _ (by simp), (by repeat (first | exact Ext.refl _ | assumption | refine Ext.alloc ?_ _ | refine Ext.drew ?_ | refine Ext.drewN _ ?_ | refine Ext.trans ?_ (by assumption))), by simp⟩

set_option maxRecDepth 100000 in
set_option maxHeartbeats 4000000 in
theorem moves1_in (l n Bp Bg Bw : Nat) (hn : 1 ≤ n) (P : Po) (g : List Int) (hls : P.ss.length ≤ 40) (hul : ∀ s ∈ P.ss, s.us.length ≤ 12) (hgl : g.length = P.ss.length) (who : Int) (a b v : Value) (w0 w1 : World) (hw1 : Ext w0 w1)
    (hB : Cls Bp 25 #[a, b] w1) (hG : Cls Bg 46 #[v] w1) (hW : Cls Bw 3 #[.int .i64 who] w1) (hT : SlsAt w0 b P.ss) (hg : IntsAt w0 v g)
    (J Jx : List (Nat × Int) → World → Prop) (hJ : AbidesX J)
    (hY : ∀ pre x W, J pre W → pre ++ [x] <+: movL P g who → YieldAt Fence.wide (n - 1) Try.prog l (encM P x) W fun e W' =>
      (e = .returned (.bool true) ∧ J (pre ++ [x]) W' ∧ KpT w0.heap.size [Bp, Bg, Bw] 48 W W') ∨ (e = .returned (.bool false) ∧ Jx (pre ++ [x]) W'))
    (W : World) (hWW : Ext w1 W) (hJ0 : J [] W) :
    CallsIn Fence.wide n Try.prog 138 #[.func (.yield l) #[] #[], .pointer (some ⟨Bp, 0, none⟩), .pointer (some ⟨Bg, 0, none⟩), .pointer (some ⟨Bw, 0, none⟩)] W fun e W' => (∃ v, e = .returned v) ∧
      ((∃ ys, ys = movL P g who ∧ J ys W') ∨ (∃ pre, pre <+: movL P g who ∧ Jx pre W')) := by
  obtain ⟨A, c, rfl, _⟩ := hT.len
  obtain ⟨ag, cg, rfl, _⟩ := hg.len
  have hxW := hw1.trans hWW
  have hBW := hB.ext hWW
  have hGW := hG.ext hWW
  have hWW2 := hW.ext hWW
  have hM := mvR_zero P g who
  obtain ⟨M, hMM⟩ : ∃ M, movL P g who = M := ⟨_, rfl⟩
  rw [hMM] at hM hY ⊢
  have HM := Lib.hid hM
  have HGL := Lib.hid hgl
  have hmx : Try.prog.follows .mixedOrders = true := by kernel_rfl
  clear hM hMM hB hG hW hWW hgl
  refine callsIn_of_wp Try.func138 rfl trivial ?_ rfl
  simp only [Try.ntmps138, List.size_toArray, List.length_cons, List.length_nil, Nat.reduceAdd, Nat.reduceSub, Array.replicate_succ, Array.replicate_zero, List.push_toArray, List.append_toArray, List.nil_append, List.cons_append]
  have d1 : W.cell? ⟨Bp, 1, none⟩ = some (.slice A P.ss.length c) := hBW.cell 1
  gi_wp2_with fail
  gi_loopw [12] (fun i wr => ∃ (pre : List (Nat × Int)) (k : Nat), M = pre ++ mvR P g who k ∧ k ≤ P.ss.length ∧ i = .int .i64 k ∧ J pre wr ∧ Ext w0 wr ∧ Cls Bp 25 #[a, .slice A P.ss.length c] wr ∧ Cls Bg 46 #[.slice ag g.length cg] wr ∧ Cls Bw 3 #[.int .i64 who] wr) (fun i _ => P.ss.length - (intOf i).toNat)
  case atStart => exact ⟨[], 0, HM.out.symm, Nat.zero_le _, rfl, hJ0, hxW, hBW, hGW, hWW2⟩
  case round =>
    clear d1 hBW hGW hWW2 hxW hJ0
    obtain ⟨pre, k, hspl, hk, rfl, hJs, hx, hB, hG, hW⟩ := hrel
    by_cases hlt : k < P.ss.length
    · have hkg : k < g.length := by have := HGL.out; omega
      obtain ⟨bb, oo, ua, uc, rfl, c0, c1, hul1, hU⟩ := hT.get k hlt
      replace c0 := hx.cell c0
      replace c1 := hx.cell c1
      obtain ⟨b2, o2, rfl, g0⟩ := (hg.ext hx).get k hkg
      have hu12 := hul _ (List.getElem_mem hlt)
      have hs := mvR_step (P := P) (g := g) (a := who) hlt
      have hno := movS_no (P := P) (a := who) hkg
      have hyes := movS_yes (a := who) hkg hlt
      have hsid := sid_at hlt
      obtain ⟨x, hxx⟩ : ∃ x, g[k] = x := ⟨_, rfl⟩
      obtain ⟨s, hss⟩ : ∃ s, P.ss[k].id = s := ⟨_, rfl⟩
      obtain ⟨us, huu⟩ : ∃ s, P.ss[k].us = s := ⟨_, rfl⟩
      rw [hxx] at g0 hno hyes
      rw [hss] at c0 hsid
      rw [huu] at c1 hul1 hU hu12 hyes
      obtain ⟨PB, hPB⟩ : ∃ PB, wr.heap.size = PB := ⟨_, rfl⟩
      obtain ⟨Y, hYY⟩ : ∃ Y, wr.alloc (.cells #[.int .i64 s, .slice ua us.length uc] 48) = Y := ⟨_, rfl⟩
      have hxY : Ext wr Y := by rw [← hYY]; exact (by repeat (first | exact Ext.refl _ | assumption | refine Ext.alloc ?_ _ | refine Ext.drew ?_ | refine Ext.drewN _ ?_ | refine Ext.trans ?_ (by assumption)))
      have hbY : Cls PB 48 #[.int .i64 s, .slice ua us.length uc] Y := by rw [← hYY]; exact Cls.newAt _ _ _ hPB.symm
      have hJY : J pre Y := hJ _ _ _ hxY hJs
      have hx' := hx.trans hxY
      have hB' := hB.ext hxY
      have hG' := hG.ext hxY
      have hW' := hW.ext hxY
      have e0 : Y.cell? ⟨PB, 0, none⟩ = some (.int .i64 s) := hbY.cell 0
      have e1 : Y.cell? ⟨PB, 1, none⟩ = some (.slice ua us.length uc) := hbY.cell 1
      have d2 : Y.cell? ⟨Bg, 0, none⟩ = some (.slice (some ⟨b2, o2, none⟩) g.length cg) := hG'.cell 0
      have d3 : Y.cell? ⟨Bw, 0, none⟩ = some (.int .i64 who) := hW'.cell 0
      replace g0 := hxY.cell g0
      have HS := Lib.hid hs
      have HSP := Lib.hid hspl
      have HSI := Lib.hid hsid
      clear hs hspl hsid hxx hss huu hB hG hW hx hJs
      by_cases hq : x = who
      · have hb : (x != who) = false := by simp [hq]
        have HY := Lib.hid (hyes hq)
        clear hno hyes hq
        gi_wp2_with fail
        gi_region_o
        all_goals gi_wp2_with fail
        have hsp0 : Hid (M = pre ++ (mvJ us who k 0 ++ mvR P g who (k + 1))) := Lib.hid (by rw [HSP.out, HS.out, HY.out])
        have hZ : Ext Y Y.drew := (by repeat (first | exact Ext.refl _ | assumption | refine Ext.alloc ?_ _ | refine Ext.drew ?_ | refine Ext.drewN _ ?_ | refine Ext.trans ?_ (by assumption)))
        have hB2 := hB'.ext hZ
        have hG2 := hG'.ext hZ
        have hW2 := hW'.ext hZ
        have hS2 := hbY.ext hZ
        have hxZ := hx'.trans hZ
        have hJZ : J pre Y.drew := hJ _ _ _ hZ hJY
        clear hB' hG' hW' hbY hZ hx' hJY e0 e1 d2 d3 g0 HS HSP HY
        gi_loopw [26] (fun i wr => ∃ (pre : List (Nat × Int)) (j : Nat), Hid (M = pre ++ (mvJ us who k j ++ mvR P g who (k + 1))) ∧ j ≤ us.length ∧ i = .int .i64 j ∧ J pre wr ∧ Ext w0 wr ∧ Cls Bp 25 #[a, .slice (some ⟨bb, oo, none⟩) P.ss.length c] wr ∧ Cls Bg 46 #[.slice (some ⟨b2, o2, none⟩) g.length cg] wr ∧ Cls Bw 3 #[.int .i64 who] wr ∧ Cls PB 48 #[.int .i64 s, .slice ua us.length uc] wr) (fun i _ => us.length - (intOf i).toNat)
        case atStart => exact ⟨pre, 0, hsp0, Nat.zero_le _, rfl, hJZ, hxZ, hB2, hG2, hW2, hS2⟩
        case round =>
          clear hsp0 hJZ hxZ hB2 hG2 hW2 hS2
          obtain ⟨pre, j, hspl, hj, rfl, hJs, hx, hB, hG, hW, hS⟩ := hrel
          have d3 : wr.cell? ⟨Bw, 0, none⟩ = some (.int .i64 who) := hW.cell 0
          have e0 : wr.cell? ⟨PB, 0, none⟩ = some (.int .i64 s) := hS.cell 0
          by_cases hlj : j < us.length
          · obtain ⟨b3, o3, rfl, u0⟩ := (hU.ext hx).get j hlj
            have hyes := mvJ_yes (a := who) (i := k) hlj
            have hno := mvJ_no (a := who) (i := k) hlj
            obtain ⟨u, huu⟩ : ∃ u, us[j] = u := ⟨_, rfl⟩
            rw [huu] at u0 hyes hno
            by_cases hq : u = who
            · have hb : (u != who) = false := by simp [hq]
              have hs : Hid (M = pre ++ (mvJ us who k (j + 1) ++ mvR P g who (k + 1))) := Lib.hid (by rw [hspl.out, hno hq])
              clear hyes hno huu hq hspl
              gi_wp2_with fail
              refine ⟨fun _ h => (by cases h), ?_⟩
              gi_wp2_with fail
              go_roundw
              case rel => exact ⟨pre, j + 1, hs, by omega, by go_num, hJs, hx, hB, hG, hW, hS⟩
              case measure => simp [intOf]; omega
            · have hb : (u != who) = true := by simp [hq]
              have hs : Hid (M = (pre ++ [(k, u)]) ++ (mvJ us who k (j + 1) ++ mvR P g who (k + 1))) := Lib.hid (by rw [hspl.out, hyes hq]; simp)
              obtain ⟨fn, tmps, assign, body, hy, hR⟩ := hY pre (k, u) wr hJs ⟨mvJ us who k (j + 1) ++ mvR P g who (k + 1), hs.out.symm⟩
              simp only [encM] at hy
              rw [HSI.out] at hy
              clear hyes hno huu hq hspl
              gi_wp2_with fail
              refine hR.mono ?_
              rintro e W3 (⟨rfl, hJ3, hk3⟩ | ⟨rfl, hJx3⟩)
              · have hx3 : Ext w0 W3 := hx.trans' hk3.below
                have hB3 := hk3.cls (by simp) hB
                have hG3 := hk3.cls (by simp) hG
                have hW3 := hk3.cls (by simp) hW
                have hS3 := hk3.ty hS
                gi_wp2_with fail
                go_roundw
                case rel => exact ⟨pre ++ [(k, u)], j + 1, hs, by omega, by go_num, hJ3, hx3, hB3, hG3, hW3, hS3⟩
                case measure => simp [intOf]; omega
              · gi_wp2_with fail
                exact bodyPost_ret (results_none rfl _ _ _) rfl ⟨⟨_, rfl⟩, .inr ⟨pre ++ [(k, u)], ⟨_, hs.out.symm⟩, hJx3⟩⟩
          · obtain rfl : j = us.length := by omega
            have hs : Hid (M = pre ++ mvR P g who (k + 1)) := Lib.hid (by rw [hspl.out, mvJ_end]; rfl)
            clear hspl hj hlj
            gi_wp2_with fail
            go_roundw
            case rel => exact ⟨pre, k + 1, hs.out, by omega, by go_num, hJs, hx, hB, hG, hW⟩
            case measure => simp [intOf]; omega
      · have hb : (x != who) = true := by simp [hq]
        have hs : Hid (M = pre ++ mvR P g who (k + 1)) := Lib.hid (by rw [HSP.out, HS.out, hno hq]; rfl)
        have hZ : Ext Y Y.drew := (by repeat (first | exact Ext.refl _ | assumption | refine Ext.alloc ?_ _ | refine Ext.drew ?_ | refine Ext.drewN _ ?_ | refine Ext.trans ?_ (by assumption)))
        clear hno hyes hq HSP HS
        gi_wp2_with fail
        gi_region_o
        all_goals gi_wp2_with fail
        go_roundw
        case rel => exact ⟨pre, k + 1, hs.out, by omega, by go_num, hJ _ _ _ hZ hJY, hx'.trans hZ, hB'.ext hZ, hG'.ext hZ, hW'.ext hZ⟩
        case measure => simp [intOf]; omega
    · obtain rfl : k = P.ss.length := by omega
      rw [mvR_end, List.append_nil] at hspl
      have HS := Lib.hid hspl
      clear hspl hk hlt
      gi_wp2_with fail
      go_end0
      exact ⟨⟨_, rfl⟩, .inl ⟨pre, HS.out.symm, hJs⟩⟩
/-- THE SHIFTS AWAY FROM ONE -/
theorem moves_seq (Bp Bg Bw : Nat) (P : Po) (g : List Int) (hok : OkP P) (hgl : g.length = P.ss.length) (who : Int) (a b v : Value) (w0 w1 : World) (hw1 : Ext w0 w1)
    (hB : Cls Bp 25 #[a, b] w1) (hG : Cls Bg 46 #[v] w1) (hW : Cls Bw 3 #[.int .i64 who] w1) (hT : SlsAt w0 b P.ss) (hg : IntsAt w0 v g) :
    SeqX 4 Try.prog 138 #[.pointer (some ⟨Bp, 0, none⟩), .pointer (some ⟨Bg, 0, none⟩), .pointer (some ⟨Bw, 0, none⟩)] (encM P) (KpT w0.heap.size [Bp, Bg, Bw] 48) (fun ys => ys = movL P g who) (fun ys => ys <+: movL P g who) (fun pre x => pre ++ [x] <+: movL P g who) w1 :=
  fun l J Jx W hWW hJ hY h0 => moves1_in l 4 Bp Bg Bw (by omega) P g hok.ls hok.ul hgl who a b v w0 w1 hw1 hB hG hW hT hg J Jx hJ hY W hWW h0
end Go.Proofs.Ytiofdfjcaklmcaa
namespace Go.Proofs.Ytiofdfjcaklmcaa
open Go.RowKit Go.Shelf

attribute [local go_sem] Oper.semAt_some

theorem mapTs : (Try.prog).underlying 117 = some (.map 3 35) := by kernel_rfl
theorem zeroSs (w : World) : (zeroValue 35).run Try.prog w = .ok (.slice none 0 0) w := by kernel_rfl
theorem grown_cellO {w w' : World} {r : Option Nat} (hg : w.grownBy w' r) {p : Addr} {v : Value} (h : w.cell? p = some v) (hne : ∀ b, r = some b → p.block ≠ b) : w'.cell? p = some v := by
  have hb := cell_lt h
  exact (World.cell?_of_block (hg.block p.block hb (fun e => hne _ e.symm rfl))).trans h
/-- a way, by the slots' names -/
def shW (P : Po) (l : List (Nat × Int)) : List (Int × Int) := l.map (fun m => (sid P m.1, m.2))
theorem shW_len (P : Po) (l : List (Nat × Int)) : (shW P l).length = l.length := by simp [shW]
theorem shW_snoc (P : Po) (l : List (Nat × Int)) (m : Nat × Int) : shW P (l ++ [m]) = shW P l ++ [(sid P m.1, m.2)] := by simp [shW]
/-- the map's entries hold the ways -/
def FndR (P : Po) (n₀ : Nat) (W : World) : List (Int × Value) → Fnd → Prop
  | [], [] => True
  | p :: l, q :: F => (p.1 = q.1 ∧ RowS n₀ p.2 (shW P q.2) W) ∧ FndR P n₀ W l F
  | _, _ => False
theorem FndR.mono {P : Po} {n₀ : Nat} {W W' : World} (h : ∀ v l, RowS n₀ v l W → RowS n₀ v l W') : ∀ {l : List (Int × Value)} {F : Fnd}, FndR P n₀ W l F → FndR P n₀ W' l F
  | [], [], _ => trivial
  | [], _ :: _, hf => hf.elim
  | _ :: _, [], hf => hf.elim
  | _ :: _, _ :: _, hf => ⟨⟨hf.1.1, h _ _ hf.1.2⟩, FndR.mono h hf.2⟩
theorem FndR.ext {P : Po} {n₀ : Nat} {W W' : World} {l : List (Int × Value)} {F : Fnd} (h : FndR P n₀ W l F) (x : Ext W W') : FndR P n₀ W' l F := h.mono (fun _ _ hr => hr.ext x)
theorem rowS_kept {n₀ : Nat} {v : Value} {l : List (Int × Int)} {W W' : World} {row : Option Nat} (hr : RowS n₀ v l W) (hg : W.grownBy W' row) (hne : ∀ b, row = some b → ∀ cs, ¬ Cls b 58 cs W) : RowS n₀ v l W' := by
  refine RowK.kept hr hg ?_
  rcases hr.2 with ⟨rfl, _⟩ | ⟨g, cap, cur, rfl, _, h1, _⟩
  · exact .inl rfl
  · refine .inr fun e => ?_
    simp only [Value.ownBlock] at e
    exact hne g e.symm _ h1
theorem FndR.kept {P : Po} {n₀ : Nat} {W W' : World} {row : Option Nat} {l : List (Int × Value)} {F : Fnd} (h : FndR P n₀ W l F) (hg : W.grownBy W' row) (hne : ∀ b, row = some b → ∀ cs, ¬ Cls b 58 cs W) : FndR P n₀ W' l F :=
  h.mono (fun _ _ hr => rowS_kept hr hg hne)
theorem FndR.snoc {P : Po} {n₀ : Nat} {W : World} {b : Int} {v : Value} {w : List (Nat × Int)} (hv : RowS n₀ v (shW P w) W) : ∀ {l : List (Int × Value)} {F : Fnd}, FndR P n₀ W l F → FndR P n₀ W (l ++ [(b, v)]) (F ++ [(b, w)])
  | [], [], _ => ⟨⟨rfl, hv⟩, trivial⟩
  | [], _ :: _, hf => hf.elim
  | _ :: _, [], hf => hf.elim
  | _ :: _, _ :: _, hf => ⟨hf.1, FndR.snoc hv hf.2⟩
theorem FndR.keys {P : Po} {n₀ : Nat} {W : World} : ∀ {l : List (Int × Value)} {F : Fnd}, FndR P n₀ W l F → l.map (·.1) = F.map (·.1)
  | [], [], _ => rfl
  | [], _ :: _, hf => hf.elim
  | _ :: _, [], hf => hf.elim
  | _ :: _, _ :: _, hf => by rw [List.map_cons, List.map_cons, hf.1.1, FndR.keys hf.2]
theorem FndR.lookN {P : Po} {n₀ : Nat} {W : World} {l : List (Int × Value)} {F : Fnd} (h : FndR P n₀ W l F) {b : Int} (hb : b ∉ F.map (·.1)) : getK l b = none := by
  refine getK_none (fun p hp e => hb ?_)
  rw [← h.keys, ← e]
  exact List.mem_map_of_mem hp
theorem FndR.lookS {P : Po} {n₀ : Nat} {W : World} {b : Int} {w : List (Nat × Int)} : ∀ {l : List (Int × Value)} {F : Fnd}, FndR P n₀ W l F → wayTo F b = some w → ∃ v, getK l b = some v ∧ RowS n₀ v (shW P w) W
  | [], [], _, hw => by simp [wayTo] at hw
  | [], _ :: _, hf, _ => hf.elim
  | _ :: _, [], hf, _ => hf.elim
  | p :: l, q :: F, hf, hw => by
    unfold wayTo at hw
    unfold getK
    rw [List.find?_cons] at hw ⊢
    by_cases hq : q.1 = b
    · have hp : p.1 = b := hf.1.1.trans hq
      simp only [hq, decide_true, Option.map_some, Option.some.injEq] at hw
      subst hw
      simp only [hp, decide_true, Option.map_some]
      exact ⟨_, rfl, hf.1.2⟩
    · have hp : ¬ p.1 = b := fun e => hq (hf.1.1.symm.trans e)
      simp only [hq, decide_false] at hw
      simp only [hp, decide_false]
      exact FndR.lookS hf.2 hw
theorem FndR.wayNone {F : Fnd} {b : Int} (h : wayTo F b = none) : b ∉ F.map (·.1) := wayTo_none h
theorem wayTo_of {F : Fnd} (hn : (F.map (·.1)).Nodup) : ∀ {k : Nat} {q : Int × List (Nat × Int)}, F[k]? = some q → wayTo F q.1 = some q.2 := by
  induction F with
  | nil => intro k q h; simp at h
  | cons p F ih =>
    intro k q h
    rw [List.map_cons, List.nodup_cons] at hn
    unfold wayTo
    rw [List.find?_cons]
    cases k with
    | zero =>
      simp only [List.getElem?_cons_zero, Option.some.injEq] at h
      subst h
      simp
    | succ k =>
      simp only [List.getElem?_cons_succ] at h
      have hne : ¬ p.1 = q.1 := fun e => hn.1 (e ▸ List.mem_map_of_mem (List.mem_of_getElem? h))
      simp only [hne, decide_false]
      exact ih hn.2 h
theorem bfs_stable {P : Po} {g : List Int} {a : Int} {k : Nat} (h : (bfsF P g a k).length ≤ k) : ∀ m, k ≤ m → bfsF P g a m = bfsF P g a k := by
  intro m
  induction m with
  | zero => intro hm; rw [show k = 0 by omega]
  | succ m ih =>
    intro hm
    by_cases he : k = m + 1
    · rw [he]
    · have h1 := ih (by omega)
      show goF P g (bfsF P g a m) m = _
      unfold goF
      rw [h1, List.getElem?_eq_none (by omega)]
theorem fold_len {w : List (Nat × Int)} : ∀ (l : List (Nat × Int)) (W : Fnd), W.length ≤ (l.foldl (addF w) W).length
  | [], _ => Nat.le_refl _
  | m :: l, W => by
    rw [List.foldl_cons]
    refine Nat.le_trans ?_ (fold_len l _)
    unfold addF
    split
    · exact Nat.le_refl _
    · simp
theorem bfs_mono1 {P : Po} {g : List Int} {a : Int} {k : Nat} : (bfsF P g a k).length ≤ (bfsF P g a (k + 1)).length := by
  show _ ≤ (goF P g (bfsF P g a k) k).length
  unfold goF
  split
  · exact fold_len _ _
  · exact Nat.le_refl _
theorem FndR.base {P : Po} {n₀ n₁ : Nat} {W : World} (hn : n₁ ≤ n₀) : ∀ {l : List (Int × Value)} {F : Fnd}, FndR P n₀ W l F → FndR P n₁ W l F
  | [], [], _ => trivial
  | [], _ :: _, hf => hf.elim
  | _ :: _, [], hf => hf.elim
  | _ :: _, _ :: _, hf => ⟨⟨hf.1.1, RowK.base hf.1.2 hn⟩, FndR.base hn hf.2⟩
/-- what stands in a world of the search -/
structure WayA (P : Po) (w W : World) (Z : Nat) (a b : Value) (Ds : List Nat) (l : List (Int × Value)) (F : Fnd) (K : List Int) (qv : Value) : Prop where
  bx : Cls w.heap.size 25 #[a, b] W
  mb : Cls Z 117 #[.map (some (w.heap.size + 1))] W
  qb : Cls (Z + 2) 46 #[qv] W
  qr : RowI w.heap.size qv K W
  mp : MapAt encI W (w.heap.size + 1) l
  fr : FndR P w.heap.size W l F
  mr : MarksAt w.heap.size Ds W
  ex : Ext w W
theorem WayA.ext {P : Po} {w W W' : World} {Z : Nat} {a b : Value} {Ds : List Nat} {l : List (Int × Value)} {F : Fnd} {K : List Int} {qv : Value} (h : WayA P w W Z a b Ds l F K qv) (x : Ext W W') : WayA P w W' Z a b Ds l F K qv :=
  ⟨h.bx.ext x, h.mb.ext x, h.qb.ext x, rowI_ext h.qr x, h.mp.ext x, h.fr.ext x, h.mr.ext x, h.ex.trans x⟩
theorem not_cls {W : World} {b : Nat} {o : Obj} {t : TypeId} (h : W.heap[b]? = some o) (hc : o.isCells = false) : ∀ cs, ¬ Cls b t cs W := fun cs h2 => by
  rw [show W.heap[b]? = _ from h2] at h
  cases h; cases hc
theorem rowI_not {n₀ : Nat} {v : Value} {l : List Int} {W : World} (h : RowI n₀ v l W) {b : Nat} (hb : v.ownBlock = some b) : ∃ cs, Cls b 3 cs W := by
  rcases h.2 with ⟨rfl, _⟩ | ⟨g, cap, cur, rfl, _, h1, _⟩
  · cases hb
  · simp only [Value.ownBlock, Option.some.injEq] at hb
    subst hb
    exact ⟨_, h1⟩
theorem cls_uniq {W : World} {b : Nat} {t t' : TypeId} {cs cs' : Array Value} (h : Cls b t cs W) (h' : Cls b t' cs' W) : t = t' := by
  have := Option.some.inj (h.symm.trans h')
  simp only [Obj.cells.injEq] at this
  exact this.2.1
theorem WayA.keptN {P : Po} {w W W' : World} {Z B : Nat} {a b : Value} {Ds : List Nat} {l : List (Int × Value)} {F : Fnd} {K : List Int} {qv : Value} (h : WayA P w W Z a b Ds l F K qv) {row : Option Nat} (hg : W.grownBy W' row)
    (hr : ∀ r, row = some r → B ≤ r ∧ ∃ o, W.heap[r]? = some o ∧ o.isCells = false) (hB : w.heap.size + 1 < B) (hD : ∀ D ∈ Ds, D < B) : WayA P w W' Z a b Ds l F K qv := by
  have hc : ∀ {c : Nat} {t : TypeId} {cs : Array Value}, Cls c t cs W → some c ≠ row := fun hcl e => by
    obtain ⟨_, o, h1, h2⟩ := hr _ e.symm
    exact not_cls h1 h2 _ hcl
  refine ⟨h.bx.kept hg (hc h.bx), h.mb.kept hg (hc h.mb), h.qb.kept hg (hc h.qb), rowI_kept h.qr hg ?_, h.mp.grown hg (fun e => by have := (hr _ e.symm).1; omega), h.fr.kept hg (fun r e cs hcl => hc hcl e.symm), h.mr.grown hg (fun D hDm e => by have := (hr _ e.symm).1; have := hD D hDm; omega), ?_⟩
  · cases hq : qv.ownBlock with
    | none => exact .inl rfl
    | some r =>
      obtain ⟨cs, hcl⟩ := rowI_not h.qr hq
      exact .inr (hc hcl)
  · exact Below.grown h.ex hg h.ex.size (fun r e => by have := (hr r e).1; omega)
theorem WayA.push {P : Po} {w W w1 : World} {Z : Nat} {a b : Value} {Ds : List Nat} {l : List (Int × Value)} {F : Fnd} {K : List Int} {qv qv' : Value} {x u : Int} (h : WayA P w W Z a b Ds l F K qv) (hZ : w.heap.size + 1 < Z)
    (hg : (W.alloc (.cells #[.int .i64 u] 3)).grownBy w1 qv.ownBlock) (hr : RowI w.heap.size qv' (K ++ [x]) w1) : WayA P w (w1.setCell ⟨Z + 2, 0, none⟩ qv') Z a b Ds l F (K ++ [x]) qv' := by
  have hA := h.ext (W' := W.alloc (.cells #[.int .i64 u] 3)) (by repeat (first | exact Ext.refl _ | assumption | refine Ext.alloc ?_ _ | refine Ext.drew ?_ | refine Ext.drewN _ ?_ | refine Ext.trans ?_ (by assumption)))
  have hne : ∀ {c : Nat} {t : TypeId} {cs : Array Value}, t ≠ 3 → Cls c t cs (W.alloc (.cells #[.int .i64 u] 3)) → some c ≠ qv.ownBlock := fun ht hc e => by
    obtain ⟨cs', h2⟩ := rowI_not hA.qr e.symm
    exact ht (cls_uniq hc h2)
  have hsh : ∀ r, qv.ownBlock = some r → ∀ cs, ¬ Cls r 58 cs (W.alloc (.cells #[.int .i64 u] 3)) := fun r e cs hc => hne (by decide) hc e.symm
  have b1 := hA.bx.kept hg (hne (by decide) hA.bx)
  have m1 := hA.mb.kept hg (hne (by decide) hA.mb)
  have q1 := hA.qb.kept hg (hne (by decide) hA.qb)
  have hM1 : MapAt encI w1 (w.heap.size + 1) l := hA.mp.grown hg (fun e => by
    obtain ⟨cs', h2⟩ := rowI_not hA.qr e.symm
    obtain ⟨es, ck, h3, _⟩ := hA.mp
    rw [show (W.alloc (.cells #[.int .i64 u] 3)).heap[w.heap.size + 1]? = _ from h2] at h3
    cases h3)
  have d1 := hA.mr.grown hg (fun D hD e => by
    obtain ⟨cs', h2⟩ := rowI_not hA.qr e.symm
    exact not_cls (hA.mr.at_ D hD).2 rfl _ h2)
  have f1 := hA.fr.kept hg hsh
  have x1 : Ext w w1 := Below.grown hA.ex hg hA.ex.size (fun r e => (hA.qr.lt r e).1)
  have hsetS : ∀ r, some (Z + 2) = some r → ∀ cs, ¬ Cls r 58 cs w1 := fun r e cs hc => by
    obtain rfl := Option.some.inj e
    exact absurd (cls_uniq hc q1) (by decide)
  refine ⟨b1.other (by omega) 0 _, m1.other (by omega) 0 _, q1.set 0 _, rowI_kept hr (grownBy_setCell' w1 (Z + 2) qv') ?_, hM1.setCell (by simp; omega) _, f1.kept (grownBy_setCell' w1 (Z + 2) qv') hsetS, d1.kept (KeepsOthers.setCell _ _ _), x1.setCell (by simp; omega) _⟩
  cases hq : qv'.ownBlock with
  | none => exact .inl rfl
  | some r =>
    refine .inr fun e => ?_
    obtain ⟨cs', h2⟩ := rowI_not hr (hq.trans e)
    exact absurd (cls_uniq h2 q1) (by decide)
theorem WayA.upd {P : Po} {w W W' : World} {Z : Nat} {a b : Value} {Ds : List Nat} {l : List (Int × Value)} {F : Fnd} {K : List Int} {qv v1 : Value} {u : Int} {wy : List (Nat × Int)} (h : WayA P w W Z a b Ds l F K qv) (hZ : w.heap.size + 1 < Z)
    (hg : W.grownBy W' (some (w.heap.size + 1))) (hM : MapAt encI W' (w.heap.size + 1) (l ++ [(u, v1)])) (hr : RowS w.heap.size v1 (shW P wy) W) : WayA P w W' Z a b Ds (l ++ [(u, v1)]) (F ++ [(u, wy)]) K qv := by
  obtain ⟨es, ck, h3, _⟩ := h.mp
  have hno : ∀ {t : TypeId} cs, ¬ Cls (w.heap.size + 1) t cs W := fun cs => not_cls h3 rfl cs
  refine ⟨h.bx.kept hg (fun e => by have := Option.some.inj e; omega), h.mb.kept hg (fun e => by have := Option.some.inj e; omega), h.qb.kept hg (fun e => by have := Option.some.inj e; omega), rowI_kept h.qr hg ?_, hM,
    FndR.snoc (rowS_kept hr hg (fun r e cs hc => by obtain rfl := Option.some.inj e; exact hno cs hc)) (h.fr.kept hg (fun r e cs hc => by obtain rfl := Option.some.inj e; exact hno cs hc)), h.mr.grown hg (fun D hD e => by
      have h4 := (h.mr.at_ D hD).2
      obtain rfl := Option.some.inj e
      rw [h3] at h4; cases h4), Below.grown h.ex hg h.ex.size (fun r e => by obtain rfl := Option.some.inj e; omega)⟩
  cases hq : qv.ownBlock with
  | none => exact .inl rfl
  | some r =>
    refine .inr fun e => ?_
    obtain ⟨cs', h2⟩ := rowI_not h.qr (hq.trans e)
    exact hno _ h2
section
variable {P : Program} {md : Region.Mode} {ops : Array Oper} {Q : Exit → Act → World → Prop} {S : World → Prop} {z : Nat}
theorem wpAnyL_two {i j : Nat} {o o' : Oper} {fuel : Nat} {listed : Array Bool} {a : Act} {w : World} (hr : Region.ready md ops listed = [i, j]) (ho : ops[i]? = some o) (ho' : ops[j]? = some o')
    (h : ∀ K' : Act → World → Prop, Shut (∀ a w, (i ≠ z → S w) → ((i ≠ z → S w) → wpAnyL P md ops Q S z fuel (listed.setIfInBounds i true) a w) → K' a w) → if Region.wanted o (yielded ops a.tmps) = true then Oper.wp P o a w K' Q else K' (a.put o.dst undef) w)
    (h' : ∀ K' : Act → World → Prop, Shut (∀ a w, (j ≠ z → S w) → ((j ≠ z → S w) → wpAnyL P md ops Q S z fuel (listed.setIfInBounds j true) a w) → K' a w) → if Region.wanted o' (yielded ops a.tmps) = true then Oper.wp P o' a w K' Q else K' (a.put o'.dst undef) w) :
    wpAnyL P md ops Q S z (fuel + 1) listed a w :=
  ⟨fun h0 => (by rw [hr] at h0; cases h0), fun k hk => by
    rw [hr] at hk
    rcases List.mem_cons.1 hk with rfl | hk
    · exact wpOp_step ho (fun K' hK => h K' (fun a w hS hW => hK a w ⟨hS, hW hS⟩))
    · obtain rfl : k = j := by simpa using hk
      exact wpOp_step ho' (fun K' hK => h' K' (fun a w hS hW => hK a w ⟨hS, hW hS⟩))⟩
theorem oper_append {P : Program} {o : Oper} {a : Act} {w : World} {K : Act → World → Prop} {Q : Exit → Act → World → Prop} (s x : Operand) (t : TypeId)
    (ho : o.op = .call { callee := .builtin .append, args := #[s, x], argTypes := #[t, t] }) (v u v' : Value) (w' : World) (hs : a.eval s = v) (hx : a.eval x = u)
    (hr : (Builtin.append_ #[t, t] o.type #[v, u]).run P w = .ok v' w') (h : K (a.put o.dst v') w') : Oper.wp P o a w K Q := by
  unfold Oper.wp execOp
  simp only [ho, resolve, invoke, builtin, Sem.run_bind, Sem.run_pure, Result.andThen_ok, List.map_toArray, List.map_cons, List.map_nil, hs, hx, hr]
  exact h
theorem oper_update {P : Program} {o : Oper} {a : Act} {w : World} {K : Act → World → Prop} {Q : Exit → Act → World → Prop} (m x v : Operand) (t : TypeId)
    (ho : o.op = Op.mapUpdate t m x v) (mv xv vv : Value) (w' : World) (hm : a.eval m = mv) (hx : a.eval x = xv) (hv : a.eval v = vv)
    (hr : (Instr.mapUpdate t mv xv vv).run P w = .ok () w') (h : K (a.put o.dst undef) w') : Oper.wp P o a w K Q := by
  unfold Oper.wp
  simp [execOp, ho, hm, hx, hv, hr, Result.andThen]
  exact h
end
set_option maxRecDepth 100000 in
set_option maxHeartbeats 16000000 in
theorem ways_any (a b v : Value) (P : Po) (g : List Int) (fr : Int) (hok : OkP P) (hgl : g.length = P.ss.length) (w : World) (hT : PoAt w a b P) (hg : IntsAt w v g) :
    Calls Try.prog 76 #[.agg #[a, b], v, .int .i64 fr] w fun e w' => ∃ M l, e = .returned (.map (some M)) ∧ w.heap.size ≤ M ∧ MapAt encI w' M l ∧ FndR P w.heap.size w' l (wayF P g fr) ∧ Ext w w' := by
  obtain ⟨aa, ca, rfl, hla⟩ := hT.t.len
  obtain ⟨ab, cb, rfl, hlb⟩ := hT.s.len
  obtain ⟨ag, cg, rfl, hlc⟩ := hg.len
  have HGL := Lib.hid hgl
  have hfl := fun k => bfs_len hok.pv hgl fr k
  have hBV := fun k => bfs_V (P := P) hgl fr k
  have HFL := Lib.hid hfl
  have HBV := Lib.hid hBV
  have hlt := hok.lt
  clear hgl hfl hBV
  have hmk := @run_makeMap Try.prog
  refine (callsIn_wide (n := 5)).1 ?_
  refine callsIn_of_wp_marks Try.func76 rfl trivial ?_ rfl; simp only [Try.ntmps76, List.size_toArray, List.length_cons, List.length_nil, Nat.reduceAdd, Nat.reduceSub, Array.replicate_succ, Array.replicate_zero, List.push_toArray, List.append_toArray, List.nil_append, List.cons_append]
  have hM0 := mapAt_made encI (w.alloc (.cells #[.slice aa P.ts.length ca, .slice ab P.ss.length cb] 25))
  have hs0 : (w.alloc (.cells #[.slice aa P.ts.length ca, .slice ab P.ss.length cb] 25)).heap.size = w.heap.size + 1 := by simp
  rw [hs0] at hM0
  clear hs0
  gi_wp2_with (refine wpListIn_insertMap rfl _ _ _ rfl KI mapTs rfl hM0 fr (.slice none 0 0) rfl rfl ?_; intro w5 hM5 hg5)
  obtain ⟨Z, hZ⟩ : ∃ Z, w5.heap.size = Z := ⟨_, rfl⟩
  have hZ1 : w.heap.size + 1 < Z := by rw [← hZ]; exact hM5.lt
  have hx5 : Ext w w5 := Ext.grown (w := (w.alloc (.cells #[.slice aa P.ts.length ca, .slice ab P.ss.length cb] 25)).alloc (.map #[] 0)) (by repeat (first | exact Ext.refl _ | assumption | refine Ext.alloc ?_ _ | refine Ext.drew ?_ | refine Ext.drewN _ ?_ | refine Ext.trans ?_ (by assumption))) hg5 (by omega)
  have qx : Cls w.heap.size 25 #[.slice aa P.ts.length ca, .slice ab P.ss.length cb] w5 := Cls.kept (W := (w.alloc (.cells #[.slice aa P.ts.length ca, .slice ab P.ss.length cb] 25)).alloc (.map #[] 0)) ((Cls.new _ _ _).ext (by repeat (first | exact Ext.refl _ | assumption | refine Ext.alloc ?_ _ | refine Ext.drew ?_ | refine Ext.drewN _ ?_ | refine Ext.trans ?_ (by assumption)))) hg5 (fun e => by have := Option.some.inj e; omega)
  obtain ⟨W1, hW1⟩ : ∃ W1, ((w5.alloc (.cells #[.map (some (w.heap.size + 1))] 117)).alloc (.cells #[.int .i64 fr] 3)).alloc (.cells #[.slice (some ⟨w5.heap.size + 1, 0, none⟩) 1 1] 46) = W1 := ⟨_, rfl⟩
  have hA0 : WayA P w W1 Z (.slice aa P.ts.length ca) (.slice ab P.ss.length cb) [] [(fr, .slice none 0 0)] (bfsF P g fr 0) ((bfsF P g fr 0).map (·.1)) (.slice (some ⟨Z + 1, 0, none⟩) 1 1) := by
    have hxa : Ext w5 W1 := by rw [← hW1]; exact (by repeat (first | exact Ext.refl _ | assumption | refine Ext.alloc ?_ _ | refine Ext.drew ?_ | refine Ext.drewN _ ?_ | refine Ext.trans ?_ (by assumption)))
    have hm5 : updK [] fr (Value.slice none 0 0) = [(fr, Value.slice none 0 0)] := by simp [updK, getK]
    rw [hm5] at hM5
    refine ⟨qx.ext hxa, ?_, ?_, ?_, hM5.ext hxa, ⟨⟨rfl, RowK.nil _ _ _ _ _⟩, trivial⟩, marks_nil _ _, hx5.trans hxa⟩
    · rw [← hW1, ← hZ]
      exact (Cls.new _ _ _).ext (by repeat (first | exact Ext.refl _ | assumption | refine Ext.alloc ?_ _ | refine Ext.drew ?_ | refine Ext.drewN _ ?_ | refine Ext.trans ?_ (by assumption)))
    · rw [← hW1, ← hZ]
      exact Cls.newAt _ _ _ (by simp)
    · rw [← hW1, ← hZ]
      have h := World.ownsRow_lit (base := w.heap.size) (e := 3) (size := 1) (w5.alloc (.cells #[.map (some (w.heap.size + 1))] 117)) #[.int .i64 fr] 1 (by have := hx5.size; simp; omega) (by decide) (by simp)
      have hs : (w5.alloc (.cells #[.map (some (w.heap.size + 1))] 117)).heap.size = w5.heap.size + 1 := by simp
      rw [hs] at h
      exact rowI_ext (l := [fr]) h (by repeat (first | exact Ext.refl _ | assumption | refine Ext.alloc ?_ _ | refine Ext.drew ?_ | refine Ext.drewN _ ?_ | refine Ext.trans ?_ (by assumption)))
  try rw [hW1]
  try rw [hZ]
  clear hW1 hmk hM0 hM5 hg5 hx5 qx hZ
  refine wpIn_loopg (fun gg A W => ∃ (k : Nat) (Ds : List Nat) (l : List (Int × Value)) (qv u10 u19 u20 u21 u22 u23 u24 u25 u26 u27 u28 u29 u30 u31 u32 : Value), A = { tmps := #[.agg #[.slice aa P.ts.length ca, .slice ab P.ss.length cb], .slice ag g.length cg, .int .i64 fr, .pointer (some ⟨w.heap.size, 0, none⟩), undef, undef, .map none, .pointer (some ⟨Z, 0, none⟩), .pointer (some ⟨Z + 2, 0, none⟩), .int .i64 (k : Nat), u10, undef, undef, undef, .map (some (w.heap.size + 1)), .int .i64 fr, .map (some (w.heap.size + 1)), .int .i64 fr, .slice (some ⟨Z + 1, 0, none⟩) 1 1, u19, u20, u21, u22, u23, u24, u25, u26, u27, u28, u29, u30, u31, u32, undef, undef, undef, undef, undef, undef, undef, undef, undef, undef, undef, undef, undef, undef, undef, undef, undef, undef, undef, undef, undef, undef, undef, undef, undef, undef], defers := marksOf Ds } ∧ k ≤ (bfsF P g fr k).length ∧ gg = P.ts.length + 1 - k ∧ Hid (WayA P w W Z (.slice aa P.ts.length ca) (.slice ab P.ss.length cb) Ds l (bfsF P g fr k) ((bfsF P g fr k).map (·.1)) qv)) (P.ts.length + 1) ?_ ?_
  · exact ⟨0, [], _, _, undef, undef, undef, undef, undef, undef, undef, undef, undef, undef, undef, undef, undef, undef, undef, rfl, Nat.zero_le _, rfl, Lib.hid hA0⟩
  · clear hA0
    rintro gg A W ⟨k, Ds, l, qv, u10, u19, u20, u21, u22, u23, u24, u25, u26, u27, u28, u29, u30, u31, u32, rfl, hk, rfl, HA⟩
    have hFk := HFL.out k
    have hVk := HBV.out k
    have hnext : bfsF P g fr (k + 1) = goF P g (bfsF P g fr k) k := rfl
    have hstb := fun h => bfs_stable (P := P) (g := g) (a := fr) (k := k) h
    obtain ⟨qA, qc, hqv⟩ := HA.out.qr.form
    obtain ⟨F, hF⟩ : ∃ F, bfsF P g fr k = F := ⟨_, rfl⟩
    rw [hF] at hk HA hFk hVk hnext hstb hqv
    have hkl : (F.map (·.1)).length = F.length := List.length_map ..
    rw [hkl] at hqv
    subst hqv
    have e2 : W.cell? ⟨Z + 2, 0, none⟩ = some (.slice qA F.length qc) := HA.out.qb.cell 0
    by_cases hlk : k < F.length
    · have hq : F[k]? = some F[k] := List.getElem?_eq_getElem hlk
      obtain ⟨bq, oq, hqe, cq⟩ := HA.out.qr.at_.get k (by rw [hkl]; exact hlk)
      rw [List.getElem_map] at cq
      subst hqe
      unfold goF at hnext
      rw [hq] at hnext
      dsimp only at hnext
      obtain ⟨q, hqq⟩ : ∃ q, F[k] = q := ⟨_, rfl⟩
      rw [hqq] at hq hnext cq
      obtain ⟨q1, hq1⟩ : ∃ q1, q.1 = q1 := ⟨_, rfl⟩
      rw [hq1] at hnext cq
      have HN := Lib.hid hnext
      have HQ := Lib.hid hq
      have HQ1 := Lib.hid hq1
      have HVK := Lib.hid hVk
      have HFk := Lib.hid hFk
      have HF := Lib.hid hF
      clear hnext hqq hq hq1 hVk hF hstb hkl hFk
      have hxY0 : Ext W (W.alloc (.cells #[.int .i64 q1] 3)) := (by repeat (first | exact Ext.refl _ | assumption | refine Ext.alloc ?_ _ | refine Ext.drew ?_ | refine Ext.drewN _ ?_ | refine Ext.trans ?_ (by assumption)))
      have d0 : (W.alloc (.cells #[.int .i64 q1] 3)).cell? ⟨w.heap.size, 0, none⟩ = some (.slice aa P.ts.length ca) := hxY0.cell (HA.out.bx.cell 0)
      have d1 : (W.alloc (.cells #[.int .i64 q1] 3)).cell? ⟨w.heap.size, 1, none⟩ = some (.slice ab P.ss.length cb) := hxY0.cell (HA.out.bx.cell 1)
      clear hxY0
      gi_wp2_with fail
      obtain ⟨PB, hPB⟩ : ∃ PB, W.heap.size = PB := ⟨_, rfl⟩
      obtain ⟨Y, hY⟩ : ∃ Y, W.alloc (.cells #[.int .i64 q1] 3) = Y := ⟨_, rfl⟩
      have hxY : Ext W Y := by rw [← hY]; exact (by repeat (first | exact Ext.refl _ | assumption | refine Ext.alloc ?_ _ | refine Ext.drew ?_ | refine Ext.drewN _ ?_ | refine Ext.trans ?_ (by assumption)))
      have hbY : Cls PB 3 #[.int .i64 q1] Y := by rw [← hY]; exact Cls.newAt _ _ _ hPB.symm
      have hAY := HA.out.ext hxY
      have hPBM : w.heap.size + 1 < PB := by rw [← hPB]; exact HA.out.mp.lt
      have hPBZ : Z + 2 < PB := by rw [← hPB]; exact HA.out.qb.lt
      have hqlt : ∀ r, (Value.slice (some ⟨bq, oq, none⟩) F.length qc).ownBlock = some r → r < PB := fun r hr => by rw [← hPB]; exact (HA.out.qr.lt r hr).2
      try rw [hY]
      try rw [hPB]
      clear hY hPB hxY e2 cq d0 d1
      refine ⟨trivial, (callsIn_wide.2 (moves_any _ _ _ _ _ q1 _)).mono ?_⟩
      rintro e w3 ⟨rfl, hw3⟩
      obtain ⟨p0, p1, p2, hx3, hs3⟩ := moves_boxes hw3
      have hA3 := hAY.ext hx3
      have hb3 := hbY.ext hx3
      have hYs : w.heap.size + 1 < Y.heap.size := hAY.mp.lt
      clear hw3
      gi_wp2_with fail
      have hseq := moves_seq Y.heap.size (Y.heap.size + 1) (Y.heap.size + 2) P g hok HGL.out q1 _ _ _ w w3 hA3.ex p0 p1 p2 hT.s hg
      have hMb : w.heap.size + 1 < w3.heap.size := by omega
      have hDs : ∀ D ∈ Ds, D < w3.heap.size := hA3.mr.lt
      have hbs : ∀ b ∈ [Y.heap.size, Y.heap.size + 1, Y.heap.size + 2], b < w3.heap.size := by simp; omega
      have hI : OwnFrom w3.heap.size (fun (pre : List (Nat × Int)) W' => ∃ l' qv', WayA P w W' Z (.slice aa P.ts.length ca) (.slice ab P.ss.length cb) Ds l' (pre.foldl (addF q.2) F) ((pre.foldl (addF q.2) F).map (·.1)) qv' ∧ Cls PB 3 #[.int .i64 q1] W' ∧ w3.heap.size ≤ W'.heap.size ∧ ∀ r, qv'.ownBlock = some r → r < PB ∨ w3.heap.size ≤ r) := by
        rintro pre X X' row ⟨l', qv', hA, hb, hs, hqb⟩ hg' hr
        exact ⟨l', qv', hA.keptN hg' hr hMb hDs, hb.kept hg' (fun e => by
          obtain ⟨o, h1, h2⟩ := (hr _ e.symm).2
          exact not_cls h1 h2 _ hb), Nat.le_trans hs hg'.size, hqb⟩
      have hIx : ∀ c : Code, OwnFrom w3.heap.size (fun (_ : List (Nat × Int)) (_ : World) => False) := fun c => fun _ _ _ _ hs _ _ => hs
      have hIb : AbidesX (fun (pre : List (Nat × Int)) W' => ∃ l' qv', WayA P w W' Z (.slice aa P.ts.length ca) (.slice ab P.ss.length cb) Ds l' (pre.foldl (addF q.2) F) ((pre.foldl (addF q.2) F).map (·.1)) qv' ∧ Cls PB 3 #[.int .i64 q1] W' ∧ w3.heap.size ≤ W'.heap.size ∧ ∀ r, qv'.ownBlock = some r → r < PB ∨ w3.heap.size ≤ r) := by
        rintro pre X X' x ⟨l', qv', hA, hb, hs, hqb⟩
        exact ⟨l', qv', hA.ext x, hb.ext x, Nat.le_trans hs x.size, hqb⟩
      have h00 : (fun (pre : List (Nat × Int)) W' => ∃ l' qv', WayA P w W' Z (.slice aa P.ts.length ca) (.slice ab P.ss.length cb) Ds l' (pre.foldl (addF q.2) F) ((pre.foldl (addF q.2) F).map (·.1)) qv' ∧ Cls PB 3 #[.int .i64 q1] W' ∧ w3.heap.size ≤ W'.heap.size ∧ ∀ r, qv'.ownBlock = some r → r < PB ∨ w3.heap.size ≤ r) [] w3 := ⟨_, _, hA3, hb3, Nat.le_refl _, fun r hr => .inl (hqlt r hr)⟩
      have hn0 : w.heap.size ≤ w3.heap.size := by omega
      have HS3 := Lib.hid hs3
      have hPBY : PB < w3.heap.size := hb3.lt
      have hPBn : PB ∉ [Y.heap.size, Y.heap.size + 1, Y.heap.size + 2] := by have := hbY.lt; simp; omega
      have hZn : Z + 2 ∉ [Y.heap.size, Y.heap.size + 1, Y.heap.size + 2] := by have := hAY.qb.lt; simp; omega
      have hMn : w.heap.size + 1 ∉ [Y.heap.size, Y.heap.size + 1, Y.heap.size + 2] := by simp; omega
      have hYZ : Y.heap.size ≤ w3.heap.size := hx3.size
      have hPBl : PB < Y.heap.size := hbY.lt
      have hAYs := hAY.ex.size
      clear p0 p1 p2 hx3 hs3 hb3 hbY hAY
      refine range_own3 (gf := 138) (lb := #[.pointer (some ⟨Y.heap.size, 0, none⟩), .pointer (some ⟨Y.heap.size + 1, 0, none⟩), .pointer (some ⟨Y.heap.size + 2, 0, none⟩)]) ?hg ?eg (Kp := KpT w.heap.size [Y.heap.size, Y.heap.size + 1, Y.heap.size + 2] 48) (fun _ _ _ h k => h.trans k) (kpT_put hn0 hbs) (kpT_all hn0 hbs)
        hseq ?hps _ _ hI hIx hIb h00 (fun x => .cells #[.int .i64 (sid P x.1), .int .i64 x.2] 58) ?round ?done ?stop
      case hg => rfl
      case eg => exact enters_of Try.func138 (by kernel_rfl) rfl
      case hps => exact fun _ => rfl
      case round =>
        clear hI hIx hIb h00 hseq hA3
        apply Exists.intro
        constructor
        · intro l x W K hK
          dsimp only [encM]
          gi_wp2
          exact hK
        · rintro lp pre ⟨i, u⟩ W0 W ⟨l', qv', hA, hb, hsz, hqb⟩ hpre hob hW0
          have hm0 : Cls W0.heap.size 58 #[.int .i64 (sid P i), .int .i64 u] W := hob
          have hVp : BfV P g fr (pre.foldl (addF q.2) F) := fold_V HGL.out HVK.out HQ.out (fun m hm => by
            rw [HQ1.out]
            exact hpre.subset (List.mem_append.2 (.inl hm)))
          have hqp : (pre.foldl (addF q.2) F)[k]? = some q := fold_mono HQ.out
          have hway := wayTo_of hVp.nd hqp
          have hsn : (pre ++ [(i, u)]).foldl (addF q.2) F = addF q.2 (pre.foldl (addF q.2) F) (i, u) := by rw [List.foldl_append]; rfl
          have hql := (hVp.way q (List.mem_of_getElem? hqp)).2.2
          have hFl : (pre.foldl (addF q.2) F).length ≤ 1000 := by
            have hnd := hVp.nd
            have h3 := len_sub (m := fr :: P.ts.map (·.id)) hnd (fun x hx => by
              obtain ⟨r, hr, rfl⟩ := List.mem_map.1 hx
              have hw := hVp.way r hr
              rcases reach_id hok.pv (hw.1.reach) with e | ⟨t, ht, e⟩
              · rw [← hw.2.1, e]; simp
              · rw [← hw.2.1, ← e]; exact List.mem_cons_of_mem _ (List.mem_map_of_mem ht))
            simp only [List.length_map, List.length_cons] at h3
            omega
          have hq2 : q.2.length ≤ 1000 := by
            have hnd := hql.1
            rw [List.nodup_cons] at hnd
            have h3 := len_sub hnd.2 hql.2
            simp only [List.length_map] at h3
            omega
          obtain ⟨Fp, hFp⟩ : ∃ Fp, pre.foldl (addF q.2) F = Fp := ⟨_, rfl⟩
          obtain ⟨s, hs⟩ : ∃ s, sid P i = s := ⟨_, rfl⟩
          obtain ⟨MB, hMB⟩ : ∃ MB, W0.heap.size = MB := ⟨_, rfl⟩
          rw [hFp] at hA hway hsn hFl
          rw [HQ1.out] at hway
          rw [hs, hMB] at hm0
          rw [hMB] at hW0
          rw [hMB]
          obtain ⟨vq, hgq, hrq⟩ := hA.fr.lookS hway
          have c0 : W.cell? ⟨MB, 0, none⟩ = some (.int .i64 s) := hm0.cell 0
          have c1 : W.cell? ⟨MB, 1, none⟩ = some (.int .i64 u) := hm0.cell 1
          have c2 : W.cell? ⟨Z, 0, none⟩ = some (.map (some (w.heap.size + 1))) := hA.mb.cell 0
          have c3 : W.cell? ⟨PB, 0, none⟩ = some (.int .i64 q1) := hb.cell 0
          have hmp := hA.mp
          have HSN := Lib.hid hsn
          have HSI := Lib.hid hs
          have HGQ := Lib.hid hgq
          have HA1 := Lib.hid hA
          clear hVp hqp hway hsn hql hs hMB hgq hFp hob hA
          cases hwu : wayTo Fp u with
          | some wu =>
            obtain ⟨vu, hgu, hru⟩ := HA1.out.fr.lookS hwu
            have hsame : addF q.2 Fp (i, u) = Fp := by
              unfold addF
              rw [if_pos]
              have := wayTo_some hwu
              simpa using ⟨_, this⟩
            have HSM := Lib.hid hsame
            have HG := Lib.hid hgu
            obtain ⟨uA, uc, huf, _⟩ := hru.at_.len
            subst huf
            clear hwu hgu hsame hru
            gi_wp2_with (refine wpListIn_lookupMap rfl _ _ true rfl KI mapTs rfl hmp u rfl (zeroSs _) ?_; simp only [if_true]; rw [HG.out])
            exact ⟨KeepsFrom.refl _ _, KpT.refl _ _ _ _, l', qv', by rw [HSN.out, HSM.out]; exact HA1.out, hb, hsz, hqb⟩
          | none =>
            have hnk := wayTo_none hwu
            have hgu := HA1.out.fr.lookN hnk
            have hnew : addF q.2 Fp (i, u) = Fp ++ [(u, q.2 ++ [(i, u)])] := by
              unfold addF
              rw [if_neg]
              intro h
              exact hnk (by simpa using h)
            have HNW := Lib.hid hnew
            have HG := Lib.hid hgu
            have HNK := Lib.hid hnk
            have hmx : (Try.prog).follows .mixedOrders = true := by kernel_rfl
            clear hwu hgu hnew hnk
            gi_wp2_with (refine wpListIn_lookupMap rfl _ _ true rfl KI mapTs rfl hmp u rfl (zeroSs _) ?_; simp only [if_true]; rw [HG.out])
            refine wpIn_round_last (z := 10) (S := fun W' => W'.cell? ⟨MB, 0, none⟩ = some (.int .i64 s) ∧ W'.cell? ⟨MB, 1, none⟩ = some (.int .i64 u) ∧ W'.cell? ⟨Z, 0, none⟩ = some (.map (some (w.heap.size + 1))) ∧ W'.cell? ⟨PB, 0, none⟩ = some (.int .i64 q1) ∧ Ext W W') (by kernel_rfl) (by kernel_rfl) (by rintro ⟨_, _, h⟩; exact h) ?_ (fun hHeld => ?_)
            · exact ⟨c0, c1, c2, c3, Ext.drew (Ext.refl _)⟩
            clear c0 c1 c2 c3
            obtain ⟨V, hV⟩ : ∃ V, W.drew = V := ⟨_, rfl⟩
            rw [hV] at hHeld ⊢
            clear hV
            (refine tkL (i := 0) (v := ?_) rfl ?_ ?_; rotate_left 1; (focus (intro w hSw; (try dsimp only at hSw); go_simp; try (with_reducible rfl))))
            try simp only [Act.put, xA1, xA2, xA4, xA5, xA6]
            (refine tkL (i := 1) (v := ?_) rfl ?_ ?_; rotate_left 1; (focus (intro w hSw; (try dsimp only at hSw); go_simp; try (with_reducible rfl))))
            try simp only [Act.put, xA1, xA2, xA3, xA4, xA5, xA6]
            (refine tkL (i := 2) (v := ?_) rfl ?_ ?_; rotate_left 1; (focus (intro w hSw; (try dsimp only at hSw); go_simp; try (with_reducible rfl))))
            try simp only [Act.put, xA1, xA2, xA3, xA4, xA5, xA6]
            (refine tkL (i := 3) (v := ?_) rfl ?_ ?_; rotate_left 1; (focus (intro w hSw; (try dsimp only at hSw); go_simp; try (with_reducible rfl))))
            try simp only [Act.put, xA1, xA2, xA3, xA4, xA5, xA6]
            (refine tkL (i := 4) (v := ?_) rfl ?_ ?_; rotate_left 1; (focus (intro w hSw; (try dsimp only at hSw); go_simp; try (with_reducible rfl))))
            try simp only [Act.put, xA1, xA2, xA3, xA4, xA5, xA6]
            (refine tkL (i := 7) (v := ?_) rfl ?_ ?_; rotate_left 1; (focus (intro w hSw; (try dsimp only at hSw); go_simp; try (with_reducible rfl))))
            try simp only [Act.put, xA1, xA2, xA3, xA4, xA5, xA6]
            refine wpAnyL_take (i := 5) (v := vq) rfl (by kernel_rfl) (by kernel_rfl) (by kernel_rfl) (by kernel_rfl) (fun _ _ _ h => h) (Or.inl ⟨by rfl, ?_⟩) (by assumption) ?_
            · intro V' hSV
              have hrun := run_lookupMap KI mapTs (hmp.ext hSV.2.2.2.2) q1 (zeroSs V') false
              rw [HGQ.out] at hrun
              simp only [Bool.false_eq_true, if_false, Option.getD_some, encI] at hrun
              clear hmp hb hm0 hrq
              go_simp
            try simp only [Act.put, xA1, xA2, xA3, xA4, xA5, xA6]
            refine wpAnyL_two (i := 6) (j := 8) (by kernel_rfl) rfl rfl (fun K hK => ?_) (fun K hK => ?_)
            · have hVs := hHeld.2.2.2.2.size
              go_simp
              go_at_call 120; refine (cloneS_any vq (shW P q.2) V (hrq.at_.ext hHeld.2.2.2.2) (by rw [shW_len]; omega)).mono ?_; rintro e V1 ⟨ur, rfl, hur, hz⟩
              refine hK.out _ _ (fun _ => ?_) (fun hHeld => ?_)
              · exact ⟨Ext.cell hz hHeld.1, Ext.cell hz hHeld.2.1, Ext.cell hz hHeld.2.2.1, Ext.cell hz hHeld.2.2.2.1, hHeld.2.2.2.2.trans hz⟩
              replace hHeld := hHeld (by decide)
              clear hK K
              try simp only [Act.put, xA1, xA2, xA3, xA4, xA5, xA6]
              have hV1 := hz
              clear hz
              refine wpAnyL_one (i := 8) (by kernel_rfl) rfl (fun K hK => ?_)
              go_simp
              obtain ⟨NB, hNB⟩ : ∃ N, V1.heap.size = N := ⟨_, rfl⟩
              obtain ⟨V2, hN⟩ : ∃ X, V1.alloc (.cells #[.int .i64 s, .int .i64 u] 58) = X := ⟨_, rfl⟩
              have hz : Ext V1 V2 := by rw [← hN]; exact (by repeat (first | exact Ext.refl _ | assumption | refine Ext.alloc ?_ _ | refine Ext.drew ?_ | refine Ext.drewN _ ?_ | refine Ext.trans ?_ (by assumption)))
              have hone : Cls NB 58 #[.int .i64 s, .int .i64 u] V2 := by rw [← hN]; exact Cls.newAt _ _ _ hNB.symm
              rw [hN, hNB]
              refine hK.out _ _ (fun _ => ?_) (fun hHeld => ?_)
              · exact ⟨Ext.cell hz hHeld.1, Ext.cell hz hHeld.2.1, Ext.cell hz hHeld.2.2.1, Ext.cell hz hHeld.2.2.2.1, hHeld.2.2.2.2.trans hz⟩
              replace hHeld := hHeld (by decide)
              clear hK K hN
              try simp only [Act.put, xA1, xA2, xA3, xA4, xA5, xA6]
              replace hur := RowS.ext hur hz
              have hBR2 : V.heap.size ≤ V2.heap.size := Nat.le_trans hV1.size hz.size
              clear hz hV1
              obtain ⟨BR, hBR0⟩ : ∃ BR, V.heap.size = BR := ⟨_, rfl⟩
              rw [hBR0] at hur hVs hBR2
              have hBR : W.heap.size ≤ BR := hVs
              have c0 : W.cell? ⟨MB, 0, none⟩ = some (.int .i64 s) := hm0.cell 0
              have c1 : W.cell? ⟨MB, 1, none⟩ = some (.int .i64 u) := hm0.cell 1
              have c2 : W.cell? ⟨Z, 0, none⟩ = some (.map (some (w.heap.size + 1))) := HA1.out.mb.cell 0
              have c3 : W.cell? ⟨PB, 0, none⟩ = some (.int .i64 q1) := hb.cell 0
              refine wpAnyL_one (i := 9) (by kernel_rfl) rfl (fun K hK => ?_)
              rw [if_pos (by rfl)]
              obtain ⟨v1, V3, hrun, hr3, hg3, _⟩ := run_append_sfs V2 35 BR _ _ (shW P q.2) [(s, u)] hur (sfs_one hone) hBR2 (by rw [shW_len]; simp; omega)
              refine oper_append _ _ 35 rfl _ _ v1 V3 rfl rfl hrun ?_
              have hz : Ext W V3 := ext_own hHeld.2.2.2.2 hur hBR hg3
              refine hK.out _ _ (fun _ => ?_) (fun hHeld => ?_)
              · exact ⟨Ext.cell hz c0, Ext.cell hz c1, Ext.cell hz c2, Ext.cell hz c3, hz⟩
              replace hHeld := hHeld (by decide)
              clear hK K hrun hg3 hur hone hHeld
              try simp only [Act.put, xA1, xA2, xA3, xA4, xA5, xA6]
              refine wpAnyL_one (i := 10) (by kernel_rfl) rfl (fun K hK => ?_)
              rw [if_pos (by rfl)]
              obtain ⟨V4, hrun, hM4, hg4⟩ := run_updateMap KI mapTs (hmp.ext hz) u v1
              refine oper_update _ _ _ _ rfl _ _ _ V4 rfl rfl rfl hrun ?_
              refine hK.out _ _ (fun h => absurd rfl h) (fun _ => ?_)
              clear hK K hrun
              try simp only [Act.put, xA1, xA2, xA3]
              refine wpAnyL_done (by kernel_rfl) ?_ _
              have hm3 := hm0.ext hz
              have hb3 := hb.ext hz
              have hA3 := HA1.out.ext hz
              have hr3' : RowS w.heap.size v1 (shW P (q.2 ++ [(i, u)])) V3 := by rw [shW_snoc, HSI.out]; exact RowK.base hr3 (Nat.le_trans HA1.out.ex.size hBR)
              have hup : updK l' u v1 = l' ++ [(u, v1)] := by unfold updK; rw [HG.out]; simp
              rw [hup] at hM4
              have hA4 := hA3.upd hZ1 hg4 hM4 hr3'
              have hm4 := hm3.kept hg4 (fun e => by have := Option.some.inj e; omega)
              have hb4 := hb3.kept hg4 (fun e => by have := Option.some.inj e; omega)
              have hk4 : KeepsFrom w3.heap.size W V4 := ((ext_keeps hz).from _).trans (KeepsFrom.of_grownBy hg4 (fun j e => by cases e; omega))
              have hp4 : KpT w.heap.size [Y.heap.size, Y.heap.size + 1, Y.heap.size + 2] 48 W V4 := (KpT.ext hz HA1.out.ex.size (fun c hc => Nat.lt_of_lt_of_le (hbs c hc) hsz)).trans (KpT.grown hg4 (by omega) (fun c hc => ⟨Nat.lt_of_lt_of_le (hbs c hc) (Nat.le_trans hsz hz.size), fun e => hMn (e ▸ hc)⟩) hA3.ex.size (by
                obtain ⟨es, ck, h3, _⟩ := hA3.mp
                exact not_cls h3 rfl))
              have hs4 : w3.heap.size ≤ V4.heap.size := Nat.le_trans hsz (Nat.le_trans hz.size hg4.size)
              obtain ⟨qA', qc', hqf⟩ := hA4.qr.form
              subst hqf
              have e2 : V4.cell? ⟨Z + 2, 0, none⟩ = some (.slice qA' (Fp.map (·.1)).length qc') := hA4.qb.cell 0
              have f2 := hA4.qb.frozen 0
              have e1 : V4.cell? ⟨MB, 1, none⟩ = some (.int .i64 u) := hm4.cell 1
              have hQ4 := hA4.qr
              have hKl : (Fp.map (·.1)).length ≤ 1000 := by rw [List.length_map]; exact hFl
              obtain ⟨KL, hKL⟩ : ∃ KL, Fp.map (·.1) = KL := ⟨_, rfl⟩
              have HKL := Lib.hid hKL
              rw [hKL] at e2 hQ4 hKl hA4 hqb
              have hQ5 : RowI w.heap.size (.slice qA' KL.length qc') KL (V4.alloc (.cells #[.int .i64 u] 3)) := rowI_ext hQ4 (by repeat (first | exact Ext.refl _ | assumption | refine Ext.alloc ?_ _ | refine Ext.drew ?_ | refine Ext.drewN _ ?_ | refine Ext.trans ?_ (by assumption)))
              have hqb5 : Cls (Z + 2) 46 #[.slice qA' KL.length qc'] (V4.alloc (.cells #[.int .i64 u] 3)) := hA4.qb.ext (by repeat (first | exact Ext.refl _ | assumption | refine Ext.alloc ?_ _ | refine Ext.drew ?_ | refine Ext.drewN _ ?_ | refine Ext.trans ?_ (by assumption)))
              clear hKL hm3 hb3 hA3 hr3' hup hM4 hr3 hg4 c0 c1 c2 c3 hmp hm0 hb hrq hm4
              gi_wp2_with (refine appendIn_ints rfl _ _ rfl w.heap.size (.slice qA' KL.length qc') _ KL [u] rfl hQ5 rfl (ints_oneAt _ _ _ rfl) (by have := hA4.ex.size; simp; omega) (by simp; omega) ?_; intro v5 V5 hr5 hg5 hob5; obtain ⟨nA, nc, hv5⟩ := hr5.form; rw [List.length_append, List.length_singleton] at hv5; subst hv5; have e5 : V5.cell? ⟨Z + 2, 0, none⟩ = some (.slice qA' KL.length qc') := grown_cellO hg5 (hqb5.cell 0) (fun r e => by obtain ⟨cs', h2⟩ := rowI_not hQ5 e; intro e3; subst e3; exact absurd (cls_uniq h2 hqb5) (by decide)); have f5 : V5.frozen? ⟨Z + 2, 0, none⟩ = false := (Cls.kept hqb5 hg5 (fun e => by obtain ⟨cs', h2⟩ := rowI_not hQ5 e.symm; exact absurd (cls_uniq h2 hqb5) (by decide))).frozen 0)
              have hA6 := hA4.push hZ1 hg5 hr5
              have hb5 : Cls PB 3 #[.int .i64 q1] V5 := Cls.kept (hb4.ext (by repeat (first | exact Ext.refl _ | assumption | refine Ext.alloc ?_ _ | refine Ext.drew ?_ | refine Ext.drewN _ ?_ | refine Ext.trans ?_ (by assumption)))) hg5 (fun e => by
                rcases hqb PB e.symm with h | h <;> omega)
              have ha4 : KeepsOthers V4 (V4.alloc (.cells #[.int .i64 u] 3)) := KeepsOthers.alloc _ _
              have hk5 : KeepsOthers (V4.alloc (.cells #[.int .i64 u] 3)) V5 := KeepsOthers.of_grownBy hg5 (fun j o ej hj => by
                obtain ⟨cs', h2⟩ := rowI_not hQ5 ej
                rw [show (V4.alloc (.cells #[.int .i64 u] 3)).heap[j]? = _ from h2] at hj
                cases hj; rfl)
              have hbs4 : ∀ c ∈ [Y.heap.size, Y.heap.size + 1, Y.heap.size + 2], c < V4.heap.size := fun c hc => Nat.lt_of_lt_of_le (hbs c hc) hs4
              have hp5 : KpT w.heap.size [Y.heap.size, Y.heap.size + 1, Y.heap.size + 2] 48 (V4.alloc (.cells #[.int .i64 u] 3)) V5 := KpT.grownO hg5 (fun r e => by
                obtain ⟨cs', h2⟩ := rowI_not hQ5 e
                refine ⟨(hQ4.lt r e).1, fun c hc ec => ?_, fun cs hc => absurd (cls_uniq hc h2) (by decide)⟩
                subst ec
                have hc2 := hbs c hc
                have hc3 : Y.heap.size ≤ c := by simp only [List.mem_cons, List.not_mem_nil, or_false] at hc; omega
                rcases hqb c e with h | h <;> omega) (fun c hc => by have := hbs4 c hc; simp; omega) (by have := hA4.ex.size; simp; omega)
              have hq5 := hqb5.kept hg5 (fun e => by obtain ⟨cs', h2⟩ := rowI_not hQ5 e.symm; exact absurd (cls_uniq h2 hqb5) (by decide))
              refine ⟨((hk4.trans (ha4.from _)).trans (hk5.from _)).trans ((KeepsOthers.setCell _ _ _).from _), ((hp4.trans (KpT.ext (by repeat (first | exact Ext.refl _ | assumption | refine Ext.alloc ?_ _ | refine Ext.drew ?_ | refine Ext.drewN _ ?_ | refine Ext.trans ?_ (by assumption))) hA4.ex.size hbs4)).trans hp5).trans (KpT.set (by omega) hZn hq5 (by decide) _), l' ++ [(u, v1)], .slice nA (KL.length + 1) nc, ?_, ?_, ?_, ?_⟩
              · rw [HSN.out, HNW.out, List.map_append, HKL.out]
                exact hA6
              · exact hb5.other (by omega) 0 _
              · have h1 := hg5.size
                simp only [World.size_alloc] at h1
                simp [World.setCell]
                omega
              · intro r hr
                rcases hob5 with h | h
                · exact hqb r (h.symm.trans hr)
                · right
                  rw [h] at hr
                  have := Option.some.inj hr
                  simp only [World.size_alloc] at this
                  omega
            · have hVs := hHeld.2.2.2.2.size
              go_simp
              obtain ⟨NB, hNB⟩ : ∃ N, V.heap.size = N := ⟨_, rfl⟩
              obtain ⟨V1, hN⟩ : ∃ X, V.alloc (.cells #[.int .i64 s, .int .i64 u] 58) = X := ⟨_, rfl⟩
              have hz : Ext V V1 := by rw [← hN]; exact (by repeat (first | exact Ext.refl _ | assumption | refine Ext.alloc ?_ _ | refine Ext.drew ?_ | refine Ext.drewN _ ?_ | refine Ext.trans ?_ (by assumption)))
              have hone : Cls NB 58 #[.int .i64 s, .int .i64 u] V1 := by rw [← hN]; exact Cls.newAt _ _ _ hNB.symm
              rw [hN, hNB]
              refine hK.out _ _ (fun _ => ?_) (fun hHeld => ?_)
              · exact ⟨Ext.cell hz hHeld.1, Ext.cell hz hHeld.2.1, Ext.cell hz hHeld.2.2.1, Ext.cell hz hHeld.2.2.2.1, hHeld.2.2.2.2.trans hz⟩
              replace hHeld := hHeld (by decide)
              clear hK K hN
              try simp only [Act.put, xA1, xA2, xA3, xA4, xA5, xA6]
              have hV1 := hz
              clear hz
              refine wpAnyL_one (i := 6) (by kernel_rfl) rfl (fun K hK => ?_)
              go_simp
              go_at_call 120; refine (cloneS_any vq (shW P q.2) V1 (hrq.at_.ext hHeld.2.2.2.2) (by rw [shW_len]; omega)).mono ?_; rintro e V2 ⟨ur, rfl, hur, hz⟩
              refine hK.out _ _ (fun _ => ?_) (fun hHeld => ?_)
              · exact ⟨Ext.cell hz hHeld.1, Ext.cell hz hHeld.2.1, Ext.cell hz hHeld.2.2.1, Ext.cell hz hHeld.2.2.2.1, hHeld.2.2.2.2.trans hz⟩
              replace hHeld := hHeld (by decide)
              clear hK K
              try simp only [Act.put, xA1, xA2, xA3, xA4, xA5, xA6]
              replace hone := hone.ext hz
              have hBR2 : V1.heap.size ≤ V2.heap.size := hz.size
              replace hVs := Nat.le_trans hVs hV1.size
              clear hz hV1
              obtain ⟨BR, hBR0⟩ : ∃ BR, V1.heap.size = BR := ⟨_, rfl⟩
              rw [hBR0] at hur hVs hBR2
              have hBR : W.heap.size ≤ BR := hVs
              have c0 : W.cell? ⟨MB, 0, none⟩ = some (.int .i64 s) := hm0.cell 0
              have c1 : W.cell? ⟨MB, 1, none⟩ = some (.int .i64 u) := hm0.cell 1
              have c2 : W.cell? ⟨Z, 0, none⟩ = some (.map (some (w.heap.size + 1))) := HA1.out.mb.cell 0
              have c3 : W.cell? ⟨PB, 0, none⟩ = some (.int .i64 q1) := hb.cell 0
              refine wpAnyL_one (i := 9) (by kernel_rfl) rfl (fun K hK => ?_)
              rw [if_pos (by rfl)]
              obtain ⟨v1, V3, hrun, hr3, hg3, _⟩ := run_append_sfs V2 35 BR _ _ (shW P q.2) [(s, u)] hur (sfs_one hone) hBR2 (by rw [shW_len]; simp; omega)
              refine oper_append _ _ 35 rfl _ _ v1 V3 rfl rfl hrun ?_
              have hz : Ext W V3 := ext_own hHeld.2.2.2.2 hur hBR hg3
              refine hK.out _ _ (fun _ => ?_) (fun hHeld => ?_)
              · exact ⟨Ext.cell hz c0, Ext.cell hz c1, Ext.cell hz c2, Ext.cell hz c3, hz⟩
              replace hHeld := hHeld (by decide)
              clear hK K hrun hg3 hur hone hHeld
              try simp only [Act.put, xA1, xA2, xA3, xA4, xA5, xA6]
              refine wpAnyL_one (i := 10) (by kernel_rfl) rfl (fun K hK => ?_)
              rw [if_pos (by rfl)]
              obtain ⟨V4, hrun, hM4, hg4⟩ := run_updateMap KI mapTs (hmp.ext hz) u v1
              refine oper_update _ _ _ _ rfl _ _ _ V4 rfl rfl rfl hrun ?_
              refine hK.out _ _ (fun h => absurd rfl h) (fun _ => ?_)
              clear hK K hrun
              try simp only [Act.put, xA1, xA2, xA3]
              refine wpAnyL_done (by kernel_rfl) ?_ _
              have hm3 := hm0.ext hz
              have hb3 := hb.ext hz
              have hA3 := HA1.out.ext hz
              have hr3' : RowS w.heap.size v1 (shW P (q.2 ++ [(i, u)])) V3 := by rw [shW_snoc, HSI.out]; exact RowK.base hr3 (Nat.le_trans HA1.out.ex.size hBR)
              have hup : updK l' u v1 = l' ++ [(u, v1)] := by unfold updK; rw [HG.out]; simp
              rw [hup] at hM4
              have hA4 := hA3.upd hZ1 hg4 hM4 hr3'
              have hm4 := hm3.kept hg4 (fun e => by have := Option.some.inj e; omega)
              have hb4 := hb3.kept hg4 (fun e => by have := Option.some.inj e; omega)
              have hk4 : KeepsFrom w3.heap.size W V4 := ((ext_keeps hz).from _).trans (KeepsFrom.of_grownBy hg4 (fun j e => by cases e; omega))
              have hp4 : KpT w.heap.size [Y.heap.size, Y.heap.size + 1, Y.heap.size + 2] 48 W V4 := (KpT.ext hz HA1.out.ex.size (fun c hc => Nat.lt_of_lt_of_le (hbs c hc) hsz)).trans (KpT.grown hg4 (by omega) (fun c hc => ⟨Nat.lt_of_lt_of_le (hbs c hc) (Nat.le_trans hsz hz.size), fun e => hMn (e ▸ hc)⟩) hA3.ex.size (by
                obtain ⟨es, ck, h3, _⟩ := hA3.mp
                exact not_cls h3 rfl))
              have hs4 : w3.heap.size ≤ V4.heap.size := Nat.le_trans hsz (Nat.le_trans hz.size hg4.size)
              obtain ⟨qA', qc', hqf⟩ := hA4.qr.form
              subst hqf
              have e2 : V4.cell? ⟨Z + 2, 0, none⟩ = some (.slice qA' (Fp.map (·.1)).length qc') := hA4.qb.cell 0
              have f2 := hA4.qb.frozen 0
              have e1 : V4.cell? ⟨MB, 1, none⟩ = some (.int .i64 u) := hm4.cell 1
              have hQ4 := hA4.qr
              have hKl : (Fp.map (·.1)).length ≤ 1000 := by rw [List.length_map]; exact hFl
              obtain ⟨KL, hKL⟩ : ∃ KL, Fp.map (·.1) = KL := ⟨_, rfl⟩
              have HKL := Lib.hid hKL
              rw [hKL] at e2 hQ4 hKl hA4 hqb
              have hQ5 : RowI w.heap.size (.slice qA' KL.length qc') KL (V4.alloc (.cells #[.int .i64 u] 3)) := rowI_ext hQ4 (by repeat (first | exact Ext.refl _ | assumption | refine Ext.alloc ?_ _ | refine Ext.drew ?_ | refine Ext.drewN _ ?_ | refine Ext.trans ?_ (by assumption)))
              have hqb5 : Cls (Z + 2) 46 #[.slice qA' KL.length qc'] (V4.alloc (.cells #[.int .i64 u] 3)) := hA4.qb.ext (by repeat (first | exact Ext.refl _ | assumption | refine Ext.alloc ?_ _ | refine Ext.drew ?_ | refine Ext.drewN _ ?_ | refine Ext.trans ?_ (by assumption)))
              clear hKL hm3 hb3 hA3 hr3' hup hM4 hr3 hg4 c0 c1 c2 c3 hmp hm0 hb hrq hm4
              gi_wp2_with (refine appendIn_ints rfl _ _ rfl w.heap.size (.slice qA' KL.length qc') _ KL [u] rfl hQ5 rfl (ints_oneAt _ _ _ rfl) (by have := hA4.ex.size; simp; omega) (by simp; omega) ?_; intro v5 V5 hr5 hg5 hob5; obtain ⟨nA, nc, hv5⟩ := hr5.form; rw [List.length_append, List.length_singleton] at hv5; subst hv5; have e5 : V5.cell? ⟨Z + 2, 0, none⟩ = some (.slice qA' KL.length qc') := grown_cellO hg5 (hqb5.cell 0) (fun r e => by obtain ⟨cs', h2⟩ := rowI_not hQ5 e; intro e3; subst e3; exact absurd (cls_uniq h2 hqb5) (by decide)); have f5 : V5.frozen? ⟨Z + 2, 0, none⟩ = false := (Cls.kept hqb5 hg5 (fun e => by obtain ⟨cs', h2⟩ := rowI_not hQ5 e.symm; exact absurd (cls_uniq h2 hqb5) (by decide))).frozen 0)
              have hA6 := hA4.push hZ1 hg5 hr5
              have hb5 : Cls PB 3 #[.int .i64 q1] V5 := Cls.kept (hb4.ext (by repeat (first | exact Ext.refl _ | assumption | refine Ext.alloc ?_ _ | refine Ext.drew ?_ | refine Ext.drewN _ ?_ | refine Ext.trans ?_ (by assumption)))) hg5 (fun e => by
                rcases hqb PB e.symm with h | h <;> omega)
              have ha4 : KeepsOthers V4 (V4.alloc (.cells #[.int .i64 u] 3)) := KeepsOthers.alloc _ _
              have hk5 : KeepsOthers (V4.alloc (.cells #[.int .i64 u] 3)) V5 := KeepsOthers.of_grownBy hg5 (fun j o ej hj => by
                obtain ⟨cs', h2⟩ := rowI_not hQ5 ej
                rw [show (V4.alloc (.cells #[.int .i64 u] 3)).heap[j]? = _ from h2] at hj
                cases hj; rfl)
              have hbs4 : ∀ c ∈ [Y.heap.size, Y.heap.size + 1, Y.heap.size + 2], c < V4.heap.size := fun c hc => Nat.lt_of_lt_of_le (hbs c hc) hs4
              have hp5 : KpT w.heap.size [Y.heap.size, Y.heap.size + 1, Y.heap.size + 2] 48 (V4.alloc (.cells #[.int .i64 u] 3)) V5 := KpT.grownO hg5 (fun r e => by
                obtain ⟨cs', h2⟩ := rowI_not hQ5 e
                refine ⟨(hQ4.lt r e).1, fun c hc ec => ?_, fun cs hc => absurd (cls_uniq hc h2) (by decide)⟩
                subst ec
                have hc2 := hbs c hc
                have hc3 : Y.heap.size ≤ c := by simp only [List.mem_cons, List.not_mem_nil, or_false] at hc; omega
                rcases hqb c e with h | h <;> omega) (fun c hc => by have := hbs4 c hc; simp; omega) (by have := hA4.ex.size; simp; omega)
              have hq5 := hqb5.kept hg5 (fun e => by obtain ⟨cs', h2⟩ := rowI_not hQ5 e.symm; exact absurd (cls_uniq h2 hqb5) (by decide))
              refine ⟨((hk4.trans (ha4.from _)).trans (hk5.from _)).trans ((KeepsOthers.setCell _ _ _).from _), ((hp4.trans (KpT.ext (by repeat (first | exact Ext.refl _ | assumption | refine Ext.alloc ?_ _ | refine Ext.drew ?_ | refine Ext.drewN _ ?_ | refine Ext.trans ?_ (by assumption))) hA4.ex.size hbs4)).trans hp5).trans (KpT.set (by omega) hZn hq5 (by decide) _), l' ++ [(u, v1)], .slice nA (KL.length + 1) nc, ?_, ?_, ?_, ?_⟩
              · rw [HSN.out, HNW.out, List.map_append, HKL.out]
                exact hA6
              · exact hb5.other (by omega) 0 _
              · have h1 := hg5.size
                simp only [World.size_alloc] at h1
                simp [World.setCell]
                omega
              · intro r hr
                rcases hob5 with h | h
                · exact hqb r (h.symm.trans hr)
                · right
                  rw [h] at hr
                  have := Option.some.inj hr
                  simp only [World.size_alloc] at this
                  omega
      case done =>
        rintro D xs W5 hD rfl ⟨l', qv', hA, hb, hsz, _⟩ hK
        rw [← HN.out] at hA
        have HA5 := Lib.hid hA
        clear hA hI hIx hIb h00 hseq
        have hFk' := HFL.out (k + 1)
        have hk1 : k + 1 ≤ (bfsF P g fr (k + 1)).length := by
          have h := bfs_mono1 (P := P) (g := g) (a := fr) (k := k)
          rw [HF.out] at h
          omega
        gi_wp2_with fail
        exact ⟨P.ts.length + 1 - (k + 1), by have := HFk.out; omega, k + 1, D :: Ds, l', qv', _, _, _, _, _, _, _, _, _, _, _, _, _, _, _, rfl, hk1, rfl, Lib.hid ⟨HA5.out.bx, HA5.out.mb, HA5.out.qb, HA5.out.qr, HA5.out.mp, HA5.out.fr, MarksAt.cons hA3.mr HA5.out.mr hD (by omega) hK, HA5.out.ex⟩⟩
      case stop =>
        rintro D c pre W5 _ _ h _
        exact h.elim
    · obtain rfl : k = F.length := by omega
      have hst := hstb (Nat.le_refl _)
      have hway : wayF P g fr = F := hst _ hFk
      have d7 : W.cell? ⟨Z, 0, none⟩ = some (.map (some (w.heap.size + 1))) := HA.out.mb.cell 0
      have HWY := Lib.hid hway
      clear hst hstb hway hnext hVk hF hkl hFk
      gi_wp2_with fail
      show LeavesInM Fence.wide 5 Try.prog Try.f76 _ _ (marksOf Ds) .returning W
      refine leaves_marks (n₀ := w.heap.size) (X := fun W => MapAt encI W (w.heap.size + 1) l ∧ FndR P w.heap.size W l F ∧ Ext w W) ?_ (fun W' hW' => ?_) Ds W HA.out.mr ⟨HA.out.mp, HA.out.fr, HA.out.ex⟩
      · rintro W' D hD hK ⟨x1, x2, x3⟩
        have hgP := grownBy_putObj' W' D (.deferred none)
        refine ⟨x1.grown hgP (fun e => ?_), x2.kept hgP (fun r e => ?_), x3.trans' (belowK_b (w := w) (Nat.le_refl _) W' D _ _ hD hK rfl rfl)⟩
        · obtain ⟨es, ck, h3, _⟩ := x1
          obtain rfl := Option.some.inj e
          rw [hK] at h3; cases h3
        · obtain rfl := Option.some.inj e
          exact not_cls hK rfl
      · refine ⟨_, results_tmp rfl _ _ _, w.heap.size + 1, l, rfl, by omega, hW'.1, ?_, hW'.2.2⟩
        rw [HWY.out]
        exact hW'.2.1
end Go.Proofs.Ytiofdfjcaklmcaa
