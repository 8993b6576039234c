/- Plain, for Fair: the first of which a function says so; what Check answers, and what it means. No program in sight. Plain, for Fair: counts as they add up; whether a list is a sharing. No program in sight. Plain, for Fair: the best chain up to a source and a tenant. No program in sight. Plain, for Fair: what CheckFair answers. No program in sight. Plain, for Fair: a pool with other users of one slot; what Could and Surely tell. No program in sight. Plain, for Fair: whether shifts are a chain; the first chain of one shift. No program in sight. Plain, for Fair: the least and the greatest count that Spread tells: whatever the order in which ways are looked at. No program in sight. -/
import Derived.Test.YtiofdfjcaklmcaaFPa
namespace Go.Proofs.Ytiofdfjcaklmcaa

def inB (n lo hi : Int) : Bool := decide (lo ≤ n) && decide (n ≤ hi)
theorem inB_t {n lo hi : Int} : inB n lo hi = true ↔ lo ≤ n ∧ n ≤ hi := by simp [inB]
theorem inB_f {n lo hi : Int} : inB n lo hi = false ↔ ¬ (lo ≤ n ∧ n ≤ hi) := by
  rw [← inB_t]; simp
/-- the first of which a function says so -/
def ixF {α : Type} (p : α → Bool) : Nat → List α → Int
  | _, [] => -1
  | i, x :: l => if p x = true then i else ixF p (i + 1) l
theorem ixF_lo {α : Type} {p : α → Bool} {l : List α} : ∀ {i : Nat}, ixF p i l = -1 ∨ (i ≤ ixF p i l ∧ ixF p i l < i + l.length) := by
  induction l with
  | nil => intro i; left; rfl
  | cons q l ih =>
    intro i
    rw [ixF]
    split
    · right; simp; omega
    · rcases ih (i := i + 1) with h | h
      · left; exact h
      · right; simp only [List.length_cons]; omega
theorem drop_cons {α : Type} (l : List α) (k : Nat) (h : k < l.length) : l.drop k = l[k] :: l.drop (k + 1) := List.drop_eq_getElem_cons h
theorem ixF_hit {α : Type} {p : α → Bool} {l : List α} {k : Nat} (h : k < l.length) (hq : p l[k] = true) : ixF p k (l.drop k) = k := by
  rw [drop_cons l k h, ixF, if_pos hq]
theorem ixF_miss {α : Type} {p : α → Bool} {l : List α} {k : Nat} (h : k < l.length) (hq : p l[k] = false) : ixF p k (l.drop k) = ixF p (k + 1) (l.drop (k + 1)) := by
  rw [drop_cons l k h, ixF, if_neg (by rw [hq]; decide)]
theorem ixF_end {α : Type} {p : α → Bool} {l : List α} : ixF p l.length (l.drop l.length) = -1 := by simp [ixF]
theorem ixF_none {α : Type} {p : α → Bool} {l : List α} : ∀ {i : Nat}, ixF p i l < 0 ↔ ∀ x ∈ l, p x = false := by
  induction l with
  | nil => intro i; simp [ixF]
  | cons q l ih =>
    intro i
    rw [ixF]
    by_cases h : p q = true
    · rw [if_pos h]
      constructor
      · intro hn; omega
      · intro hn; have := hn q (by simp); rw [h] at this; cases this
    · rw [if_neg h, ih]
      simp [h]
theorem ixF_some {α : Type} {p : α → Bool} {l : List α} : ∀ {i : Nat}, 0 ≤ ixF p i l → ∃ k, ∃ (h : k < l.length), ixF p i l = ((i + k : Nat) : Int) ∧ p l[k] = true := by
  induction l with
  | nil => intro i h; simp [ixF] at h
  | cons q l ih =>
    intro i h
    rw [ixF] at h ⊢
    by_cases hq : p q = true
    · rw [if_pos hq]; exact ⟨0, by simp, by simp, by simpa using hq⟩
    · rw [if_neg hq] at h ⊢
      obtain ⟨k, hk, h1, h2⟩ := ih h
      exact ⟨k + 1, by simp; omega, by rw [h1]; omega, by simpa using h2⟩
/-- where the things have different names -/
theorem ixF_at {α : Type} {f : α → Int} {l : List α} (hn : (l.map f).Nodup) : ∀ {i : Nat} {k : Nat} (h : k < l.length), ixF (fun x => f x == f l[k]) i l = ((i + k : Nat) : Int) := by
  induction l with
  | nil => intro i k h; simp at h
  | cons q l ih =>
    intro i k h
    rw [List.map_cons, List.nodup_cons] at hn
    cases k with
    | zero => rw [ixF, if_pos (by simp)]; simp
    | succ k =>
      have hk : k < l.length := by simpa using h
      rw [ixF, if_neg, List.getElem_cons_succ, ih hn.2 hk]
      · omega
      · simp only [List.getElem_cons_succ, beq_iff_eq]
        intro e
        exact hn.1 (e ▸ List.mem_map_of_mem (List.getElem_mem hk))
/-- no earlier one has the same name -/
theorem ixF_first {α : Type} {f : α → Int} {l : List α} : (∀ k (h : k < l.length), ¬ ixF (fun x => f x == f l[k]) 0 l < k) ↔ (l.map f).Nodup := by
  constructor
  · intro h
    rw [List.nodup_iff_pairwise_ne, List.pairwise_iff_getElem]
    intro i j hi hj hij
    rw [List.length_map] at hi hj
    rw [List.getElem_map, List.getElem_map]
    intro e
    have key : ∀ (l : List α) (n i : Nat) (hi : i < l.length) (v : Int), f l[i] = v → 0 ≤ ixF (fun x => f x == v) n l ∧ ixF (fun x => f x == v) n l ≤ n + i := by
      intro l
      induction l with
      | nil => intro n i hi; simp at hi
      | cons q l ih =>
        intro n i hi v hv
        rw [ixF]
        by_cases hq : f q == v
        · rw [if_pos hq]; omega
        · rw [if_neg hq]
          cases i with
          | zero => simp at hv; simp [hv] at hq
          | succ i =>
            have := ih (n + 1) i (by simpa using hi) v (by simpa using hv)
            omega
    have h1 := h j hj
    have h2 := key l 0 i hi (f l[j]) e
    omega
  · intro hn k hk
    rw [ixF_at hn hk]
    omega
theorem ixF_congr {α : Type} {p q : α → Bool} (h : ∀ x, p x = q x) (i : Nat) (l : List α) : ixF p i l = ixF q i l := by
  rw [show p = q from funext h]
def tnI (P : Po) (id : Int) : Int := ixF (fun t : Te => t.id == id) 0 P.ts
def slI (P : Po) (id : Int) : Int := ixF (fun s : Sl => s.id == id) 0 P.ss
theorem tnI_none {P : Po} {id : Int} : tnI P id < 0 ↔ ∀ t ∈ P.ts, t.id ≠ id := by
  unfold tnI; rw [ixF_none]; simp
theorem slI_none {P : Po} {id : Int} : slI P id < 0 ↔ ∀ s ∈ P.ss, s.id ≠ id := by
  unfold slI; rw [ixF_none]; simp
/-- whether users are wrong -/
def usB (P : Po) : Int → List Int → Bool
  | _, [] => false
  | last, u :: l => decide (u ≤ last) || decide (tnI P u < 0) || usB P u l
def teE (P : Po) : Nat → List Te → Int
  | _, [] => 0
  | i, t :: l => if inB t.id 1 1099511627776 = true ∧ inB t.most 0 40 = true then (if tnI P t.id < i then 6 else teE P (i + 1) l) else 1
def slE (P : Po) : Nat → List Sl → Int
  | _, [] => 0
  | i, s :: l => if inB s.id 1 1099511627776 = true then (if usB P 0 s.us = true then 1 else if slI P s.id < i then 6 else slE P (i + 1) l) else 1
/-- what Check answers -/
def chkE (P : Po) : Int := if 12 < P.ts.length ∨ 40 < P.ss.length then 2 else if teE P 0 P.ts = 0 then slE P 0 P.ss else teE P 0 P.ts
structure OkP (P : Po) : Prop where
  lt : P.ts.length ≤ 12
  ls : P.ss.length ≤ 40
  nd : (P.ts.map (·.id)).Nodup
  ti : ∀ t ∈ P.ts, (1 ≤ t.id ∧ t.id ≤ 1099511627776) ∧ 0 ≤ t.most ∧ t.most ≤ 40
  sn : (P.ss.map (·.id)).Nodup
  si : ∀ s ∈ P.ss, 1 ≤ s.id ∧ s.id ≤ 1099511627776
  us : ∀ s ∈ P.ss, ∀ u ∈ s.us, ∃ t ∈ P.ts, t.id = u
  up : ∀ s ∈ P.ss, s.us.Pairwise (· < ·)
theorem OkP.pv {P : Po} (h : OkP P) : PoV P := ⟨h.nd, fun t ht => ⟨(h.ti t ht).1.1, (h.ti t ht).2⟩, h.us⟩
theorem usB_iff {P : Po} (hp : ∀ t ∈ P.ts, 1 ≤ t.id) : ∀ (l : List Int) (last : Int), usB P last l = false ↔ (∀ u ∈ l, ∃ t ∈ P.ts, t.id = u) ∧ (∀ u ∈ l, last < u) ∧ l.Pairwise (· < ·)
  | [], last => by simp [usB]
  | u :: l, last => by
    have ht : tnI P u < 0 ↔ ¬ ∃ t ∈ P.ts, t.id = u := by rw [tnI_none]; simp
    rw [usB, Bool.or_eq_false_iff, Bool.or_eq_false_iff, usB_iff hp l u, decide_eq_false_iff_not, decide_eq_false_iff_not, ht, List.pairwise_cons]
    constructor
    · rintro ⟨⟨h1, h2⟩, h3, h4, h5⟩
      refine ⟨fun x hx => ?_, fun x hx => ?_, h4, h5⟩
      · rcases List.mem_cons.1 hx with rfl | hx
        · exact Classical.not_not.1 h2
        · exact h3 x hx
      · rcases List.mem_cons.1 hx with rfl | hx
        · omega
        · have := h4 x hx; omega
    · rintro ⟨h1, h2, h3, h4⟩
      refine ⟨⟨by have := h2 u (by simp); omega, fun h => h (h1 u (by simp))⟩, fun x hx => h1 x (by simp [hx]), h3, h4⟩
theorem teE_iff {P : Po} : ∀ (l : List Te) (i : Nat), teE P i l = 0 ↔ ∀ k (h : k < l.length), (inB l[k].id 1 1099511627776 = true ∧ inB l[k].most 0 40 = true) ∧ ¬ tnI P l[k].id < ((i + k : Nat) : Int)
  | [], i => by simp [teE]
  | t :: l, i => by
    rw [teE]
    constructor
    · intro h k hk
      split at h
      · rename_i h1
        split at h
        · cases h
        · rename_i h2
          cases k with
          | zero => exact ⟨h1, by simpa using h2⟩
          | succ k =>
            have := (teE_iff l (i + 1)).1 h k (by simpa using hk)
            refine ⟨by simpa using this.1, ?_⟩
            have h3 := this.2
            simp only [List.getElem_cons_succ]
            omega
      · cases h
    · intro h
      have h0 := h 0 (by simp)
      rw [if_pos (by simpa using h0.1), if_neg (by simpa using h0.2), teE_iff l (i + 1)]
      intro k hk
      have := h (k + 1) (by simpa using hk)
      refine ⟨by simpa using this.1, ?_⟩
      have h3 := this.2
      simp only [List.getElem_cons_succ] at h3
      omega
theorem slE_iff {P : Po} : ∀ (l : List Sl) (i : Nat), slE P i l = 0 ↔ ∀ k (h : k < l.length), (inB l[k].id 1 1099511627776 = true ∧ usB P 0 l[k].us = false) ∧ ¬ slI P l[k].id < ((i + k : Nat) : Int)
  | [], i => by simp [slE]
  | t :: l, i => by
    rw [slE]
    constructor
    · intro h k hk
      split at h
      · rename_i h1
        split at h
        · cases h
        · rename_i h4
          split at h
          · cases h
          · rename_i h2
            cases k with
            | zero => exact ⟨⟨h1, by simpa using h4⟩, by simpa using h2⟩
            | succ k =>
              have := (slE_iff l (i + 1)).1 h k (by simpa using hk)
              refine ⟨by simpa using this.1, ?_⟩
              have h3 := this.2
              simp only [List.getElem_cons_succ]
              omega
      · cases h
    · intro h
      have h0 := h 0 (by simp)
      rw [if_pos (by simpa using h0.1.1), if_neg (by have := h0.1.2; simp only [List.getElem_cons_zero] at this; rw [this]; decide), if_neg (by simpa using h0.2), slE_iff l (i + 1)]
      intro k hk
      have := h (k + 1) (by simpa using hk)
      refine ⟨by simpa using this.1, ?_⟩
      have h3 := this.2
      simp only [List.getElem_cons_succ] at h3
      omega
theorem chk_ok {P : Po} : chkE P = 0 ↔ OkP P := by
  unfold chkE
  constructor
  · intro h
    split at h
    · cases h
    · rename_i hl
      split at h
      · rename_i ht
        rw [teE_iff] at ht
        rw [slE_iff] at h
        have h1 : ∀ t ∈ P.ts, (1 ≤ t.id ∧ t.id ≤ 1099511627776) ∧ 0 ≤ t.most ∧ t.most ≤ 40 := fun t hm => by
          obtain ⟨k, hk, rfl⟩ := List.getElem_of_mem hm
          have := (ht k hk).1
          rw [inB_t, inB_t] at this
          exact this
        have h2 : ∀ s ∈ P.ss, (1 ≤ s.id ∧ s.id ≤ 1099511627776) ∧ usB P 0 s.us = false := fun s hm => by
          obtain ⟨k, hk, rfl⟩ := List.getElem_of_mem hm
          have := (h k hk).1
          rw [inB_t] at this
          exact this
        have hp : ∀ t ∈ P.ts, 1 ≤ t.id := fun t ht => (h1 t ht).1.1
        refine ⟨by omega, by omega, ixF_first.1 (fun k hk => ?_), h1, ixF_first.1 (fun k hk => ?_), fun s hs => (h2 s hs).1, fun s hs => ((usB_iff hp _ _).1 (h2 s hs).2).1, fun s hs => ((usB_iff hp _ _).1 (h2 s hs).2).2.2⟩
        · have := (ht k hk).2; simpa [tnI] using this
        · have := (h k hk).2; simpa [slI] using this
      · rename_i ht; exact absurd h ht
  · intro h
    have hp : ∀ t ∈ P.ts, 1 ≤ t.id := fun t ht => (h.ti t ht).1.1
    have ht : teE P 0 P.ts = 0 := by
      rw [teE_iff]
      intro k hk
      have h1 := h.ti _ (List.getElem_mem hk)
      refine ⟨by rw [inB_t, inB_t]; exact h1, ?_⟩
      have := ixF_first.2 h.nd k hk
      simpa [tnI] using this
    rw [if_neg (by have := h.lt; have := h.ls; omega), if_pos ht, slE_iff]
    intro k hk
    have hm := List.getElem_mem hk
    refine ⟨⟨by rw [inB_t]; exact h.si _ hm, (usB_iff hp _ _).2 ⟨h.us _ hm, fun u hu => ?_, h.up _ hm⟩⟩, ?_⟩
    · obtain ⟨t, ht, rfl⟩ := h.us _ hm u hu
      have := hp t ht; omega
    · have := ixF_first.2 h.sn k hk
      simpa [slI] using this
instance (P : Po) : Decidable (OkP P) := decidable_of_iff (chkE P = 0) chk_ok
theorem tn_at {P : Po} (h : OkP P) {k : Nat} (hk : k < P.ts.length) : tnI P P.ts[k].id = k := by
  have := ixF_at (f := fun t : Te => t.id) h.nd (i := 0) hk
  simpa [tnI] using this
theorem sl_at {P : Po} (h : OkP P) {k : Nat} (hk : k < P.ss.length) : slI P P.ss[k].id = k := by
  have := ixF_at (f := fun t : Sl => t.id) h.sn (i := 0) hk
  simpa [slI] using this
end Go.Proofs.Ytiofdfjcaklmcaa
namespace Go.Proofs.Ytiofdfjcaklmcaa

theorem cntI_append (a b : List Int) (x : Int) : cntI (a ++ b) x = cntI a x + cntI b x := by
  unfold cntI
  induction a with
  | nil => simp [sumF]
  | cons y a ih => rw [List.cons_append, sumF_cons, sumF_cons, ih]; omega
theorem cntI_take {g : List Int} {j : Nat} (h : j < g.length) (x : Int) : cntI (g.take (j + 1)) x = cntI (g.take j) x + (if g[j] = x then 1 else 0) := by
  rw [List.take_succ_eq_append_getElem h, cntI_append]
  congr 1
  show (if g[j] = x then 1 else 0) + 0 = _
  omega
theorem cntI_take_le (g : List Int) (j : Nat) (x : Int) : 0 ≤ cntI (g.take j) x ∧ cntI (g.take j) x ≤ g.length := by
  have := cntI_nn (g.take j) x
  rw [List.length_take] at this
  omega
theorem cntT_len (P : Po) (g : List Int) : (cntT P g).length = P.ts.length := by simp [cntT]
theorem cntT_get (P : Po) (g : List Int) (i : Nat) (h : i < (cntT P g).length) (h' : i < P.ts.length) : (cntT P g)[i] = cntI g P.ts[i].id := by simp [cntT]
/-- one slot is given to nobody, or to one who can use it -/
def pU (P : Po) (g : List Int) (i : Nat) : Bool := g.getD i 0 == 0 || (P.ss.getD i ⟨0, []⟩).us.contains (g.getD i 0)
def pM (g : List Int) (t : Te) : Bool := decide (cntI g t.id ≤ t.most)
/-- whether a list is a sharing -/
def shrB (P : Po) (g : List Int) : Bool := decide (g.length = P.ss.length) && ((List.range g.length).all (pU P g) && P.ts.all (pM g))
theorem shr_iff {P : Po} {g : List Int} : shrB P g = true ↔ ShrV P g := by
  unfold shrB
  rw [Bool.and_eq_true, Bool.and_eq_true, decide_eq_true_eq, List.all_eq_true, List.all_eq_true]
  constructor
  · rintro ⟨h1, h2, h3⟩
    refine ⟨h1, fun i hi hi' => ?_, fun t ht => by simpa [pM] using h3 t ht⟩
    have := h2 i (List.mem_range.2 hi)
    unfold pU at this
    rw [Bool.or_eq_true] at this
    simpa [hi, hi'] using this
  · rintro ⟨h1, h2, h3⟩
    refine ⟨h1, fun i hi => ?_, fun t ht => by simpa [pM] using h3 t ht⟩
    have hi1 := List.mem_range.1 hi
    have hi2 : i < P.ss.length := by omega
    have := h2 i hi1 hi2
    unfold pU
    rw [Bool.or_eq_true]
    simpa [hi1, hi2] using this
theorem shr_fU {P : Po} {g : List Int} {i : Nat} (hi : i < g.length) (h : pU P g i = false) : shrB P g = false := by
  unfold shrB
  have : (List.range g.length).all (pU P g) = false := by
    rw [List.all_eq_false]
    exact ⟨i, List.mem_range.2 hi, by rw [h]; decide⟩
  rw [this]; simp
theorem shr_fM {P : Po} {g : List Int} {j : Nat} (hj : j < P.ts.length) (h : pM g P.ts[j] = false) : shrB P g = false := by
  unfold shrB
  have : P.ts.all (pM g) = false := by
    rw [List.all_eq_false]
    exact ⟨_, List.getElem_mem hj, by rw [h]; decide⟩
  rw [this]; simp
theorem shr_fL {P : Po} {g : List Int} (h : g.length ≠ P.ss.length) : shrB P g = false := by
  unfold shrB
  rw [decide_eq_false h]; rfl
theorem shr_t {P : Po} {g : List Int} (hl : g.length = P.ss.length) (h1 : ∀ i, i < g.length → pU P g i = true) (h2 : ∀ j (h : j < P.ts.length), pM g P.ts[j] = true) : shrB P g = true := by
  unfold shrB
  rw [Bool.and_eq_true, Bool.and_eq_true, decide_eq_true_eq, List.all_eq_true, List.all_eq_true]
  refine ⟨hl, fun i hi => h1 i (List.mem_range.1 hi), fun t ht => ?_⟩
  obtain ⟨j, hj, rfl⟩ := List.getElem_of_mem ht
  exact h2 j hj
theorem pU_at {P : Po} {g : List Int} {i : Nat} (hi : i < g.length) (hi' : i < P.ss.length) : pU P g i = (g[i] == 0 || P.ss[i].us.contains g[i]) := by
  unfold pU
  simp [hi, hi']
/-- what CheckGiven answers -/
def cgE (P : Po) (g : List Int) : Int := if chkE P = 0 then (if shrB P g = true then 0 else 1) else chkE P
theorem cg_ok {P : Po} {g : List Int} : cgE P g = 0 ↔ OkP P ∧ ShrV P g := by
  unfold cgE
  rw [← chk_ok, ← shr_iff]
  split
  · rename_i h
    rw [h]
    by_cases hs : shrB P g = true
    · rw [if_pos hs]; simp [hs]
    · rw [if_neg hs]; simp [hs]
  · rename_i h
    constructor
    · intro h2; exact absurd h2 h
    · intro h2; exact absurd h2.1 h
theorem ShrV.le {P : Po} {g : List Int} (hP : OkP P) (h : ShrV P g) : g.length ≤ 40 := by rw [h.len]; exact hP.ls
theorem cntT_bd {P : Po} (g : List Int) (hg : g.length ≤ 100000) : ∀ x ∈ cntT P g, 0 ≤ x ∧ x ≤ 100000 := by
  intro x hx
  obtain ⟨t, _, rfl⟩ := List.mem_map.1 hx
  have := cntI_nn g t.id
  omega
def cntsX (P : Po) (g : List Int) : List Int := if cgE P g = 0 then cntT P g else []
def cmpE (P : Po) (a b : List Int) : Int := if cgE P a = 0 then cgE P b else cgE P a
def cmpX (P : Po) (a b : List Int) : Int := if cmpE P a b = 0 then cmpL (ladL P a) (ladL P b) else 0
theorem OkP.ul {P : Po} (h : OkP P) : ∀ s ∈ P.ss, s.us.length ≤ 12 := fun s hs => by
  have h1 : s.us.Nodup := by
    rw [List.nodup_iff_pairwise_ne]
    exact (h.up s hs).imp (fun h => by omega)
  have h2 := len_sub (l := s.us) (m := P.ts.map (·.id)) h1 (fun x hx => by
    obtain ⟨t, ht, rfl⟩ := h.us s hs x hx
    exact List.mem_map_of_mem ht)
  have := h.lt
  simp at h2
  omega
end Go.Proofs.Ytiofdfjcaklmcaa
namespace Go.Proofs.Ytiofdfjcaklmcaa

def srcL (P : Po) : List Int := 0 :: P.ts.map (·.id)
theorem srcL_len (P : Po) : (srcL P).length = P.ts.length + 1 := by simp [srcL]
theorem srcL_zero (P : Po) (h : 0 < (srcL P).length) : (srcL P)[0] = 0 := rfl
theorem srcL_succ (P : Po) (k : Nat) (h : k + 1 < (srcL P).length) (h' : k < P.ts.length) : (srcL P)[k + 1] = P.ts[k].id := by simp [srcL]
def bestO (P : Po) (g : List Int) (k : Nat) : List (Nat × Int) := (((srcL P).take k).flatMap (fun a => P.ts.map (fun t => (a, t)))).foldl (stC P g) []
def bestI (P : Po) (g : List Int) (B : List (Nat × Int)) (a : Int) (j : Nat) : List (Nat × Int) := ((P.ts.take j).map (fun t => (a, t))).foldl (stC P g) B
theorem bestI_zero (P : Po) (g : List Int) (B : List (Nat × Int)) (a : Int) : bestI P g B a 0 = B := rfl
theorem bestI_step {P : Po} {g : List Int} {B : List (Nat × Int)} {a : Int} {j : Nat} (h : j < P.ts.length) : bestI P g B a (j + 1) = stC P g (bestI P g B a j) (a, P.ts[j]) := by
  unfold bestI
  rw [List.take_succ_eq_append_getElem h, List.map_append, List.foldl_append]
  rfl
theorem bestO_step {P : Po} {g : List Int} {k : Nat} (h : k < (srcL P).length) : bestO P g (k + 1) = bestI P g (bestO P g k) (srcL P)[k] P.ts.length := by
  unfold bestO bestI
  rw [List.take_succ_eq_append_getElem h, List.flatMap_append, List.foldl_append, List.take_length]
  simp
theorem bestO_end (P : Po) (g : List Int) : bestO P g (srcL P).length = chnL P g := by
  unfold bestO chnL prC
  rw [List.take_length]
  rfl
/-- a step, by its tests -/
theorem stC_no {P : Po} {g : List Int} {B : List (Nat × Int)} {a : Int} {t : Te} (h : wayTo (wayF P g a) t.id = none) : stC P g B (a, t) = B := by
  unfold stC; rw [h]
theorem stC_some {P : Po} {g : List Int} {B l : List (Nat × Int)} {a : Int} {t : Te} (h : wayTo (wayF P g a) t.id = some l) : stC P g B (a, t) = if okC g a t = true ∧ 0 < l.length ∧ (B.length = 0 ∨ l.length < B.length) then l else B := by
  unfold stC; rw [h]
/-- the lengths of ways -/
theorem way_len {P : Po} (hok : OkP P) {g : List Int} (hg : g.length = P.ss.length) {a b : Int} {l : List (Nat × Int)} (h : wayTo (wayF P g a) b = some l) : l.length ≤ 13 := by
  have hV := bfs_V hg a (P.ts.length + 1)
  have hw := (hV.way _ (wayTo_some h)).2.2
  have hl := bfs_len hok.pv hg a (P.ts.length + 1)
  have h1 := hw.1
  rw [List.nodup_cons] at h1
  have h3 := len_sub h1.2 hw.2
  simp only [List.length_map] at h3
  have := hok.lt
  have h4 : l.length ≤ (bfsF P g a (P.ts.length + 1)).length := h3
  omega
theorem chn_len {P : Po} (hok : OkP P) {g : List Int} (hg : g.length = P.ss.length) : (chnL P g).length ≤ 13 := by
  rcases chn_is P g with h | ⟨q, _, _, hw, _⟩
  · rw [h]; simp
  · exact way_len hok hg hw
/-- the slots of a way are slots -/
theorem way_ix {P : Po} {g : List Int} {a : Int} {l : List (Nat × Int)} (h : WayP P g a l) : ∀ m ∈ l, m.1 < g.length ∧ m.1 < P.ss.length := by
  induction h with
  | nil => intro m hm; cases hm
  | cons h h' _ _ _ ih =>
    intro m hm
    rcases List.mem_cons.1 hm with rfl | hm
    · exact ⟨h, h'⟩
    · exact ih m hm
theorem chn_ix {P : Po} {g : List Int} (hg : g.length = P.ss.length) : ∀ m ∈ chnL P g, m.1 < g.length ∧ m.1 < P.ss.length := by
  rcases chn_is P g with h | ⟨q, _, _, hw, _⟩
  · rw [h]; intro m hm; cases hm
  · exact way_ix (way_ok hg hw).1
end Go.Proofs.Ytiofdfjcaklmcaa
namespace Go.Proofs.Ytiofdfjcaklmcaa

def lbOf (P : Po) (L : List Int) (id : Int) : Int := L.getD (tnI P id).toNat 0
def lbI (P : Po) (g L : List Int) (i : Nat) : Bool := inB (L.getD i 0) 0 41 && decide ((cntT P g).getD i 0 ≤ L.getD i 0 + 1) && (!(decide ((cntT P g).getD i 0 < (P.ts.getD i ⟨0, 0⟩).most)) || decide (L.getD i 0 ≤ (cntT P g).getD i 0))
def lowF (P : Po) (L : List Int) (id : Int) : Int := if id = 0 then 41 else lbOf P L id
def loI (P : Po) (g L : List Int) (i : Nat) : Bool := (P.ss.getD i ⟨0, []⟩).us.all (fun u => decide (lowF P L (g.getD i 0) ≤ lbOf P L u))
def cfB (P : Po) (g L : List Int) : Bool := (List.range P.ts.length).all (lbI P g L) && (List.range g.length).all (loI P g L)
def cfE (P : Po) (g L : List Int) : Int := if chkE P = 0 then (if shrB P g = true ∧ L.length = P.ts.length ∧ cfB P g L = true then 0 else 8) else chkE P
theorem lbI_at {P : Po} {g L : List Int} {i : Nat} (h : i < P.ts.length) (hl : i < L.length) : lbI P g L i = (inB L[i] 0 41 && decide (cntI g P.ts[i].id ≤ L[i] + 1) && (!(decide (cntI g P.ts[i].id < P.ts[i].most)) || decide (L[i] ≤ cntI g P.ts[i].id))) := by
  unfold lbI
  have e1 : L.getD i 0 = L[i] := by simp [hl]
  have e2 : (cntT P g).getD i 0 = cntI g P.ts[i].id := by
    have hc : i < (cntT P g).length := by rw [cntT_len]; exact h
    rw [List.getD_eq_getElem?_getD, List.getElem?_eq_getElem hc, Option.getD_some, cntT_get P g i hc h]
  have e3 : P.ts.getD i ⟨0, 0⟩ = P.ts[i] := by simp [h]
  rw [e1, e2, e3]
theorem loI_at {P : Po} {g L : List Int} {i : Nat} (h : i < g.length) (h' : i < P.ss.length) : loI P g L i = P.ss[i].us.all (fun u => decide (lowF P L g[i] ≤ lbOf P L u)) := by
  unfold loI
  have e1 : g.getD i 0 = g[i] := by simp [h]
  have e2 : P.ss.getD i ⟨0, []⟩ = P.ss[i] := by simp [h']
  rw [e1, e2]
theorem cf_f1 {P : Po} {g L : List Int} (hc : chkE P = 0) {i : Nat} (h : i < P.ts.length) (hb : lbI P g L i = false) : cfE P g L = 8 := by
  unfold cfE
  rw [if_pos hc, if_neg]
  rintro ⟨_, _, h3⟩
  unfold cfB at h3
  rw [Bool.and_eq_true, List.all_eq_true] at h3
  have := h3.1 i (List.mem_range.2 h)
  rw [hb] at this; cases this
theorem cf_f2 {P : Po} {g L : List Int} (hc : chkE P = 0) {i : Nat} (h : i < g.length) (hb : loI P g L i = false) : cfE P g L = 8 := by
  unfold cfE
  rw [if_pos hc, if_neg]
  rintro ⟨_, _, h3⟩
  unfold cfB at h3
  rw [Bool.and_eq_true, List.all_eq_true, List.all_eq_true] at h3
  have := h3.2 i (List.mem_range.2 h)
  rw [hb] at this; cases this
theorem cf_fS {P : Po} {g L : List Int} (hc : chkE P = 0) (hb : shrB P g = false) : cfE P g L = 8 := by
  unfold cfE
  rw [if_pos hc, if_neg]
  rintro ⟨h1, _, _⟩
  rw [hb] at h1; cases h1
theorem cf_fL {P : Po} {g L : List Int} (hc : chkE P = 0) (hb : L.length ≠ P.ts.length) : cfE P g L = 8 := by
  unfold cfE
  rw [if_pos hc, if_neg]
  rintro ⟨_, h1, _⟩
  exact hb h1
theorem cf_t {P : Po} {g L : List Int} (hc : chkE P = 0) (hs : shrB P g = true) (hl : L.length = P.ts.length) (h1 : ∀ i, i < P.ts.length → lbI P g L i = true) (h2 : ∀ i, i < g.length → loI P g L i = true) : cfE P g L = 0 := by
  unfold cfE
  rw [if_pos hc, if_pos]
  refine ⟨hs, hl, ?_⟩
  unfold cfB
  rw [Bool.and_eq_true, List.all_eq_true, List.all_eq_true]
  exact ⟨fun i hi => h1 i (List.mem_range.1 hi), fun i hi => h2 i (List.mem_range.1 hi)⟩
theorem cf_e {P : Po} {g L : List Int} (hc : chkE P ≠ 0) : cfE P g L = chkE P := by unfold cfE; rw [if_neg hc]
theorem cf_ok {P : Po} {g L : List Int} (h : cfE P g L = 0) : OkP P ∧ ShrV P g ∧ L.length = P.ts.length ∧ cfB P g L = true := by
  unfold cfE at h
  split at h
  · rename_i hc
    split at h
    · rename_i h2
      exact ⟨chk_ok.1 hc, shr_iff.1 h2.1, h2.2.1, h2.2.2⟩
    · cases h
  · rename_i hc; exact absurd h hc
/-- labels that are accepted prove the sharing -/
theorem cf_lab {P : Po} {g L : List Int} (h : cfE P g L = 0) : OkP P ∧ ShrV P g ∧ LabV P g (lbOf P L) := by
  obtain ⟨hok, hS, hl, hb⟩ := cf_ok h
  unfold cfB at hb
  rw [Bool.and_eq_true, List.all_eq_true, List.all_eq_true] at hb
  have hat : ∀ i (hi : i < P.ts.length), lbOf P L P.ts[i].id = L[i] := fun i hi => by
    unfold lbOf
    rw [tn_at hok hi]
    simp [hl, hi]
  refine ⟨hok, hS, fun t ht => ?_, fun t ht hr => ?_, fun i hi hi' u hu => ?_⟩
  · obtain ⟨i, hi, rfl⟩ := List.getElem_of_mem ht
    have h1 := hb.1 i (List.mem_range.2 hi)
    rw [lbI_at hi (by omega)] at h1
    rw [hat i hi]
    simp only [Bool.and_eq_true, decide_eq_true_eq] at h1
    exact h1.1.2
  · obtain ⟨i, hi, rfl⟩ := List.getElem_of_mem ht
    have h1 := hb.1 i (List.mem_range.2 hi)
    rw [lbI_at hi (by omega)] at h1
    rw [hat i hi]
    simp only [Bool.and_eq_true, Bool.or_eq_true, Bool.not_eq_true', decide_eq_true_eq, decide_eq_false_iff_not] at h1
    rcases h1.2 with h2 | h2
    · exact absurd hr h2
    · exact h2
  · have h1 := hb.2 i (List.mem_range.2 hi)
    rw [loI_at hi hi', List.all_eq_true] at h1
    exact of_decide_eq_true (h1 u hu)
end Go.Proofs.Ytiofdfjcaklmcaa
namespace Go.Proofs.Ytiofdfjcaklmcaa

/-- a pool with other users of one slot -/
def setU (P : Po) (i : Nat) (us : List Int) : Po := ⟨P.ts, P.ss.set i ⟨(P.ss.getD i ⟨0, []⟩).id, us⟩⟩
theorem setU_ss {P : Po} {i j : Nat} {us : List Int} (h : j < P.ss.length) (h' : j < (setU P i us).ss.length) : (setU P i us).ss[j] = if i = j then ⟨P.ss[j].id, us⟩ else P.ss[j] := by
  have e := List.getElem_set (l := P.ss) (i := i) (a := ⟨(P.ss.getD i ⟨0, []⟩).id, us⟩) h'
  rw [show (setU P i us).ss[j] = (P.ss.set i ⟨(P.ss.getD i ⟨0, []⟩).id, us⟩)[j] from rfl, e]
  by_cases hij : i = j
  · subst hij
    rw [if_pos rfl, if_pos rfl]
    simp [h]
  · rw [if_neg hij, if_neg hij]
theorem setU_len (P : Po) (i : Nat) (us : List Int) : (setU P i us).ss.length = P.ss.length := List.length_set ..
theorem setU_ts (P : Po) (i : Nat) (us : List Int) : (setU P i us).ts = P.ts := rfl
theorem setU_ids (P : Po) (i : Nat) (us : List Int) : (setU P i us).ss.map (·.id) = P.ss.map (·.id) := by
  refine List.ext_getElem (by simp [setU_len]) (fun j h1 h2 => ?_)
  rw [List.length_map] at h1 h2
  rw [List.getElem_map, List.getElem_map, setU_ss h2 h1]
  split <;> rfl
theorem setU_ok {P : Po} (h : OkP P) {i : Nat} {us : List Int} (h1 : ∀ u ∈ us, ∃ t ∈ P.ts, t.id = u) (h2 : us.Pairwise (· < ·)) : OkP (setU P i us) := by
  have key : ∀ s ∈ (setU P i us).ss, ∃ r ∈ P.ss, s.id = r.id ∧ (s.us = us ∨ s.us = r.us) := fun s hs => by
    obtain ⟨j, hj, rfl⟩ := List.getElem_of_mem hs
    have hj2 : j < P.ss.length := by rw [← setU_len P i us]; exact hj
    rw [setU_ss hj2 hj]
    by_cases e : i = j
    · rw [if_pos e]; exact ⟨_, List.getElem_mem hj2, rfl, .inl rfl⟩
    · rw [if_neg e]; exact ⟨_, List.getElem_mem hj2, rfl, .inr rfl⟩
  refine ⟨h.lt, by rw [setU_len]; exact h.ls, h.nd, h.ti, by rw [setU_ids]; exact h.sn, fun s hs => ?_, fun s hs u hu => ?_, fun s hs => ?_⟩
  · obtain ⟨r, hr, e, _⟩ := key s hs
    rw [e]; exact h.si r hr
  · obtain ⟨r, hr, _, e | e⟩ := key s hs
    · rw [e] at hu; exact h1 u hu
    · rw [e] at hu; exact h.us r hr u hu
  · obtain ⟨r, hr, _, e | e⟩ := key s hs
    · rw [e]; exact h2
    · rw [e]; exact h.up r hr
def mostOf (P : Po) (id : Int) : Int := (P.ts.getD (tnI P id).toNat ⟨0, 0⟩).most
def usOf (P : Po) (i : Nat) : List Int := (P.ss.getD i ⟨0, []⟩).us
theorem usOf_at {P : Po} {i : Nat} (h : i < P.ss.length) : usOf P i = P.ss[i].us := by simp [usOf, h]
/-- the sharing in which one slot is given -/
def oneG (P : Po) (i : Nat) (tn : Int) : List Int := (zerL P).set i tn
theorem cntI_zer (n : Nat) (x : Int) (hx : x ≠ 0) : cntI (List.replicate n 0) x = 0 := cnt_zero n hx
theorem oneG_V {P : Po} (h : OkP P) {i : Nat} (hi : i < P.ss.length) {tn : Int} (_ht : tn ≠ 0) (hm : ∀ t ∈ P.ts, t.id = tn → 1 ≤ t.most) : ShrV (setU P i [tn]) (oneG P i tn) := by
  have hz : i < (zerL P).length := by simp [zerL]; exact hi
  refine ⟨by simp [oneG, zerL, setU_len], fun j hj hj' => ?_, fun t htm => ?_⟩
  · have hj2 : j < P.ss.length := by rw [← setU_len P i [tn]]; exact hj'
    unfold oneG at hj ⊢
    rw [List.getElem_set, setU_ss hj2 hj']
    by_cases e : i = j
    · rw [if_pos e, if_pos e]; right; simp
    · rw [if_neg e]; left; simp [zerL]
  · have htm' : t ∈ P.ts := htm
    have hid := (h.ti t htm').1.1
    unfold oneG
    rw [cntI_set hz]
    have h0 : cntI (zerL P) t.id = 0 := cnt_zero _ (by omega)
    have hz0 : (zerL P)[i] = 0 := by simp [zerL]
    rw [h0, hz0, if_neg (by omega)]
    by_cases e : tn = t.id
    · rw [if_pos e]; have := hm t htm' e.symm; omega
    · rw [if_neg e]; have := (h.ti t htm').2.1; omega
/-- what could tells -/
def couX (P : Po) (i : Nat) (tn : Int) (best : List Int) : Bool :=
  if tn ≠ 0 ∧ (usOf P i).contains tn = false then false
  else if tn = 0 then ladL (setU P i []) (faiG (setU P i [])) == best
  else if mostOf P tn = 0 then false
  else ladL (setU P i [tn]) (setL (setU P i [tn]) (oneG P i tn)) == best
def cldE (P : Po) (slot tn : Int) : Int := if chkE P = 0 then (if slI P slot < 0 ∨ tn ≠ 0 ∧ tnI P tn < 0 then 5 else 0) else chkE P
def cldX (P : Po) (slot tn : Int) : Bool := if cldE P slot tn = 0 then couX P (slI P slot).toNat tn (ladL P (faiG P)) else false
def whoL (P : Po) (i : Nat) (best : List Int) (l : List Int) : List Int := l.filter (fun u => couX P i u best)
theorem whoL_snoc (P : Po) (i : Nat) (best l : List Int) (u : Int) : whoL P i best (l ++ [u]) = if couX P i u best = true then whoL P i best l ++ [u] else whoL P i best l := by
  unfold whoL
  rw [List.filter_append]
  by_cases h : couX P i u best = true <;> simp [h]
def surS (P : Po) (best : List Int) (i : Nat) : List (Int × Int) := match whoL P i best (0 :: usOf P i) with
  | [x] => if x = 0 then [] else [((P.ss.getD i ⟨0, []⟩).id, x)]
  | _ => []
def surL (P : Po) (best : List Int) (k : Nat) : List (Int × Int) := (List.range k).flatMap (surS P best)
theorem surL_succ (P : Po) (best : List Int) (k : Nat) : surL P best (k + 1) = surL P best k ++ surS P best k := by
  unfold surL
  rw [List.range_succ, List.flatMap_append]
  simp
theorem surL_len (P : Po) (best : List Int) (k : Nat) : (surL P best k).length ≤ k := by
  induction k with
  | zero => exact Nat.le_refl _
  | succ k ih =>
    rw [surL_succ, List.length_append]
    have : (surS P best k).length ≤ 1 := by
      unfold surS
      split
      · split <;> simp
      · simp
    omega
theorem surS_one {P : Po} {best : List Int} {i : Nat} {x : Int} (h : whoL P i best (0 :: usOf P i) = [x]) (hx : x ≠ 0) : surS P best i = [((P.ss.getD i ⟨0, []⟩).id, x)] := by
  unfold surS; rw [h]; dsimp only; rw [if_neg hx]
theorem surS_no {P : Po} {best : List Int} {i : Nat} (h : ∀ x, whoL P i best (0 :: usOf P i) = [x] → x = 0) : surS P best i = [] := by
  unfold surS
  split
  · rename_i x hw
    rw [if_pos (h x hw)]
  · rfl
def surX (P : Po) : List (Int × Int) := if chkE P = 0 then surL P (ladL P (faiG P)) P.ss.length else []
def ladX (P : Po) : List Int := if chkE P = 0 then ladL P (faiG P) else []
end Go.Proofs.Ytiofdfjcaklmcaa
namespace Go.Proofs.Ytiofdfjcaklmcaa

def gAt (P : Po) (g : List Int) (s : Int) : Int := g.getD (slI P s).toNat 0
def endG (P : Po) (g : List Int) (so a : Int) : Bool := decide (cntI g a < mostOf P a) && (decide (so = 0) || decide (cntI g a + 2 ≤ cntI g so))
def lnkG (P : Po) (g : List Int) : Nat → Int → Int → List (Int × Int) → List (Int × Int) → Bool
  | _, so, a, _, [] => endG P g so a
  | k, so, a, se, m :: l =>
    if slI P m.1 < 0 then false else if (usOf P (slI P m.1).toNat).contains m.2 = false then false else if gAt P g m.1 = m.2 then false else if 0 < k ∧ gAt P g m.1 ≠ a then false
    else if m.2 = (if k = 0 then gAt P g m.1 else so) then false else if (m.1, 0) ∈ se then false else if (0, m.2) ∈ se then false
    else lnkG P g (k + 1) (if k = 0 then gAt P g m.1 else so) m.2 (se ++ [(m.1, 0), (0, m.2)]) l
/-- whether shifts are a chain -/
def lnkB (P : Po) (g : List Int) (l : List (Int × Int)) : Bool := if l.length = 0 then false else lnkG P g 0 0 0 [] l
theorem lnk_step {P : Po} {g : List Int} {k : Nat} {so a : Int} {se l : List (Int × Int)} (h : k < l.length) : lnkG P g k so a se (l.drop k) =
    if slI P l[k].1 < 0 then false else if (usOf P (slI P l[k].1).toNat).contains l[k].2 = false then false else if gAt P g l[k].1 = l[k].2 then false else if 0 < k ∧ gAt P g l[k].1 ≠ a then false
    else if l[k].2 = (if k = 0 then gAt P g l[k].1 else so) then false else if (l[k].1, 0) ∈ se then false else if (0, l[k].2) ∈ se then false
    else lnkG P g (k + 1) (if k = 0 then gAt P g l[k].1 else so) l[k].2 (se ++ [(l[k].1, 0), (0, l[k].2)]) (l.drop (k + 1)) := by
  rw [drop_cons l k h, lnkG]
theorem lnk_end {P : Po} {g : List Int} {so a : Int} {se l : List (Int × Int)} : lnkG P g l.length so a se (l.drop l.length) = endG P g so a := by
  rw [List.drop_length]; cases l <;> rfl
def envT (P : Po) (g : List Int) (i : Nat) (u : Int) : Bool := !(decide (g.getD i 0 = u)) && lnkB P g [((P.ss.getD i ⟨0, []⟩).id, u)]
/-- the first chain of one shift -/
def envU (P : Po) (g : List Int) (i : Nat) : List Int → Option (Int × Int)
  | [] => none
  | u :: l => if envT P g i u = true then some ((P.ss.getD i ⟨0, []⟩).id, u) else envU P g i l
def envS (P : Po) (g : List Int) : Nat → List Sl → Option (Int × Int)
  | _, [] => none
  | i, s :: l => match envU P g i s.us with
    | some m => some m
    | none => envS P g (i + 1) l
def envX (P : Po) (g : List Int) : Option (Int × Int) := if cgE P g = 0 then envS P g 0 P.ss else none
theorem envU_step {P : Po} {g : List Int} {i k : Nat} {l : List Int} (h : k < l.length) : envU P g i (l.drop k) = if envT P g i l[k] = true then some ((P.ss.getD i ⟨0, []⟩).id, l[k]) else envU P g i (l.drop (k + 1)) := by
  rw [drop_cons l k h, envU]
theorem envS_step {P : Po} {g : List Int} {k : Nat} (h : k < P.ss.length) : envS P g k (P.ss.drop k) = match envU P g k P.ss[k].us with
    | some m => some m
    | none => envS P g (k + 1) (P.ss.drop (k + 1)) := by
  rw [drop_cons P.ss k h, envS]
/-- what slots and tenants of shifts are -/
theorem us_slot {P : Po} (hok : OkP P) {s u : Int} (hs : ¬ slI P s < 0) (hu : (usOf P (slI P s).toNat).contains u = true) : ∃ i, ∃ (h : i < P.ss.length), slI P s = i ∧ P.ss[i].id = s ∧ u ∈ P.ss[i].us ∧ usOf P (slI P s).toNat = P.ss[i].us ∧ (∃ t ∈ P.ts, t.id = u) := by
  obtain ⟨i, hi, h1, h2⟩ := ixF_some (show 0 ≤ ixF (fun x : Sl => x.id == s) 0 P.ss from (by have h : slI P s = ixF (fun x : Sl => x.id == s) 0 P.ss := rfl; omega))
  have h1' : slI P s = i := by have h : slI P s = ixF (fun x : Sl => x.id == s) 0 P.ss := rfl; omega
  have h3 : usOf P (slI P s).toNat = P.ss[i].us := by rw [h1', Int.toNat_natCast, usOf_at hi]
  rw [h3] at hu
  have hu' : u ∈ P.ss[i].us := by simpa using hu
  exact ⟨i, hi, h1', by simpa using h2, hu', h3, hok.us _ (List.getElem_mem hi) u hu'⟩
end Go.Proofs.Ytiofdfjcaklmcaa
namespace Go.Proofs.Ytiofdfjcaklmcaa

/-- what one way adds -/
def spT (P : Po) (g : List Int) (tn a : Int) (q : Int × List (Nat × Int)) : Bool :=
  !(decide (q.2.length = 0)) && decide (cntI g q.1 < mostOf P q.1) && (decide (q.1 = tn) || decide (a = tn)) && (ladL P (appW g q.2) == ladL P g)
def spS (P : Po) (g : List Int) (tn a : Int) (s : Int × Int) (q : Int × List (Nat × Int)) : Int × Int :=
  if spT P g tn a q = true then (min s.1 (cntI (appW g q.2) tn), max s.2 (cntI (appW g q.2) tn)) else s
def spL (P : Po) (g : List Int) (tn a : Int) (s : Int × Int) (F : Fnd) : Int × Int := F.foldl (spS P g tn a) s
theorem spS_comm (P : Po) (g : List Int) (tn a : Int) (s : Int × Int) (q r : Int × List (Nat × Int)) : spS P g tn a (spS P g tn a s q) r = spS P g tn a (spS P g tn a s r) q := by
  unfold spS
  by_cases h1 : spT P g tn a q = true
  · by_cases h2 : spT P g tn a r = true
    · simp only [h1, h2, if_true]
      exact Prod.ext (by simp only; omega) (by simp only; omega)
    · simp only [h1, h2, if_true, if_false, Bool.false_eq_true]
  · by_cases h2 : spT P g tn a r = true
    · simp only [h1, h2, if_true, if_false, Bool.false_eq_true]
    · simp only [h1, h2, if_false, Bool.false_eq_true]
theorem spL_perm {P : Po} {g : List Int} {tn a : Int} {F G : Fnd} (h : F.Perm G) : ∀ s, spL P g tn a s F = spL P g tn a s G := by
  unfold spL
  induction h with
  | nil => intro s; rfl
  | cons x _ ih => intro s; rw [List.foldl_cons, List.foldl_cons]; exact ih _
  | swap x y l => intro s; rw [List.foldl_cons, List.foldl_cons, List.foldl_cons, List.foldl_cons, spS_comm]
  | trans _ _ h1 h2 => intro s; rw [h1, h2]
/-- the entries of some keys -/
def entF (F : Fnd) (d : List Int) : Fnd := d.map (fun b => (b, (wayTo F b).getD []))
theorem entF_snoc (F : Fnd) (d : List Int) (b : Int) : entF F (d ++ [b]) = entF F d ++ [(b, (wayTo F b).getD [])] := by simp [entF]
theorem wayTo_mem {F : Fnd} : (F.map (·.1)).Nodup → ∀ q ∈ F, wayTo F q.1 = some q.2 := by
  induction F with
  | nil => intro _ q hq; cases hq
  | cons p F ih =>
    intro hn q hq
    rw [List.map_cons, List.nodup_cons] at hn
    unfold wayTo
    rw [List.find?_cons]
    rcases List.mem_cons.1 hq with rfl | hq
    · simp
    · have hne : ¬ p.1 = q.1 := fun e => hn.1 (e ▸ List.mem_map_of_mem hq)
      simp only [hne, decide_false]
      exact ih hn.2 q hq
theorem entF_self {F : Fnd} (hn : (F.map (·.1)).Nodup) : entF F (F.map (·.1)) = F := by
  have key : ∀ (G : Fnd), (∀ q ∈ G, wayTo F q.1 = some q.2) → (G.map (·.1)).map (fun b => (b, (wayTo F b).getD [])) = G := fun G => by
    induction G with
    | nil => intro _; rfl
    | cons q G ih =>
      intro h
      rw [List.map_cons, List.map_cons, ih (fun r hr => h r (by simp [hr])), h q (by simp)]
      rfl
  exact key F (wayTo_mem hn)
theorem spL_all {P : Po} {g : List Int} {tn a : Int} {F : Fnd} (hn : (F.map (·.1)).Nodup) {d : List Int} (hd : d.Nodup) (h1 : ∀ b ∈ d, b ∈ F.map (·.1)) (h2 : ∀ b ∈ F.map (·.1), b ∈ d) (s : Int × Int) : spL P g tn a s (entF F d) = spL P g tn a s F := by
  have hp : d.Perm (F.map (·.1)) := (List.perm_ext_iff_of_nodup hd hn).2 (fun b => ⟨h1 b, h2 b⟩)
  have h3 : (entF F d).Perm (entF F (F.map (·.1))) := hp.map _
  rw [entF_self hn] at h3
  exact spL_perm h3 s
def spO (P : Po) (g : List Int) (tn : Int) (k : Nat) : Int × Int := (P.ts.take k).foldl (fun s t => spL P g tn t.id s (wayF P g t.id)) (cntI g tn, cntI g tn)
theorem spO_step {P : Po} {g : List Int} {tn : Int} {k : Nat} (h : k < P.ts.length) : spO P g tn (k + 1) = spL P g tn P.ts[k].id (spO P g tn k) (wayF P g P.ts[k].id) := by
  unfold spO
  rw [List.take_succ_eq_append_getElem h, List.foldl_append]
  rfl
def spdE (P : Po) (tn : Int) : Int := if chkE P = 0 then (if tnI P tn < 0 then 5 else 0) else chkE P
def spdX (P : Po) (tn : Int) : Int × Int := if spdE P tn = 0 then spO P (faiG P) tn P.ts.length else (0, 0)
end Go.Proofs.Ytiofdfjcaklmcaa
