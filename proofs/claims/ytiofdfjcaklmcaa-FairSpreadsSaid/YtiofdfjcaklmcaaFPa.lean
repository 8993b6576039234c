/- Plain, for Fair: a sharing in which, for each bound, the counts cut at it are together no less, has a ladder that is no less. No program in sight. Plain, for Fair: pools, sharings, labels; a sharing with labels that prove it has a ladder that is no less than any other's. No program in sight. Plain, for Fair: a sharing without a chain has labels that prove it; so all sharings without a chain have the same ladder. No program in sight. Plain, for Fair: shifts along a way: what is given behind them, and that it goes on for so long only. No program in sight. Plain, for Fair: the search by breadth: what is found, by which ways, and that nothing that can be reached is left. No program in sight. Plain, for Fair: the chain that is looked for, and the sharing that is reached. No program in sight. Plain, for Fair: the sharing that is reached chain by chain; its ladder is that of every sharing without a chain. No program in sight. Plain, for Fair: behind a chain the ladder is better; a sharing with the best ladder has no chain. No program in sight. Plain, for Fair: the labels that are returned. No program in sight. Plain, for Fair: what two fairest sharings have alike. No program in sight. Plain, for Fair: who has one slot more in another fairest sharing can be reached from one who has just one more. No program in sight. -/
import Derived.Lib.Hide
namespace Go.Proofs.Ytiofdfjcaklmcaa

/-- the counts cut at a bound, together -/
def cutS (c : Int) (l : List Int) : Int := l.foldr (fun x s => min x c + s) 0
theorem cutS_cons (c x : Int) (l : List Int) : cutS c (x :: l) = min x c + cutS c l := rfl
theorem cutS_perm {c : Int} {l r : List Int} (h : l.Perm r) : cutS c l = cutS c r := by
  induction h with
  | nil => rfl
  | cons x _ ih => rw [cutS_cons, cutS_cons, ih]
  | swap x y l => rw [cutS_cons, cutS_cons, cutS_cons, cutS_cons]; omega
  | trans _ _ h1 h2 => exact h1.trans h2
theorem cutS_le (c : Int) (l : List Int) : cutS c l ≤ l.length * c := by
  induction l with
  | nil => simp [cutS]
  | cons x l ih =>
    have h : ((l.length + 1 : Nat) : Int) * c = l.length * c + c := by rw [Int.natCast_add, Int.add_mul]; simp
    rw [cutS_cons, List.length_cons, h]
    omega
theorem cutS_full {c : Int} {l : List Int} (h : ∀ x ∈ l, c ≤ x) : cutS c l = l.length * c := by
  induction l with
  | nil => simp [cutS]
  | cons x l ih =>
    have h2 : ((l.length + 1 : Nat) : Int) * c = l.length * c + c := by rw [Int.natCast_add, Int.add_mul]; simp
    have h1 := h x (by simp)
    rw [cutS_cons, List.length_cons, h2, ih (fun y hy => h y (by simp [hy]))]
    omega
/-- how two lists compare, the first difference counting -/
def cmpL : List Int → List Int → Int
  | x :: a, y :: b => if x < y then -1 else if y < x then 1 else cmpL a b
  | [], [] => 0
  | [], _ :: _ => -1
  | _ :: _, [] => 1
theorem cmpL_self (l : List Int) : cmpL l l = 0 := by
  induction l with
  | nil => rfl
  | cons x l ih => rw [cmpL, if_neg (Int.lt_irrefl x), if_neg (Int.lt_irrefl x), ih]
theorem cmpL_anti {a : List Int} : ∀ {b : List Int}, a.length = b.length → 0 ≤ cmpL a b → 0 ≤ cmpL b a → a = b := by
  induction a with
  | nil => intro b h _ _; cases b with
    | nil => rfl
    | cons => simp at h
  | cons x a ih =>
    intro b h h1 h2
    cases b with
    | nil => simp at h
    | cons y b =>
      rw [cmpL] at h1 h2
      by_cases h3 : x < y
      · rw [if_pos h3] at h1; omega
      · by_cases h4 : y < x
        · rw [if_pos h4] at h2; omega
        · rw [if_neg h3, if_neg h4] at h1
          rw [if_neg h4, if_neg h3] at h2
          have : x = y := by omega
          rw [this, ih (by simpa using h) h1 h2]
theorem lex_of_cut {a : List Int} : ∀ {b : List Int}, a.length = b.length → a.Pairwise (· ≤ ·) → b.Pairwise (· ≤ ·) → (∀ c, cutS c b ≤ cutS c a) → 0 ≤ cmpL a b := by
  induction a with
  | nil => intro b h _ _ _; cases b with
    | nil => exact Int.le_refl _
    | cons => simp at h
  | cons x a ih =>
    intro b h ha hb hc
    cases b with
    | nil => simp at h
    | cons y b =>
      rw [List.pairwise_cons] at ha hb
      rw [cmpL]
      have hl : a.length = b.length := by simpa using h
      by_cases h3 : x < y
      · exfalso
        have h1 := hc (x + 1)
        rw [cutS_cons, cutS_cons, cutS_full (fun z hz => by have := hb.1 z hz; omega)] at h1
        have h2 := cutS_le (x + 1) a
        rw [hl] at h2
        omega
      · rw [if_neg h3]
        by_cases h4 : y < x
        · rw [if_pos h4]; decide
        · rw [if_neg h4]
          refine ih hl ha.2 hb.2 (fun c => ?_)
          have := hc c
          rw [cutS_cons, cutS_cons, show x = y by omega] at this
          omega
end Go.Proofs.Ytiofdfjcaklmcaa
namespace Go.Proofs.Ytiofdfjcaklmcaa

/-- a tenant; a slot and its users; a pool -/
structure Te where
  id : Int
  most : Int
structure Sl where
  id : Int
  us : List Int
structure Po where
  ts : List Te
  ss : List Sl
def sumF {α : Type} (f : α → Int) (l : List α) : Int := l.foldr (fun x s => f x + s) 0
theorem sumF_cons {α : Type} (f : α → Int) (x : α) (l : List α) : sumF f (x :: l) = f x + sumF f l := rfl
theorem sumF_le {α : Type} {f g : α → Int} {l : List α} (h : ∀ x ∈ l, f x ≤ g x) : sumF f l ≤ sumF g l := by
  induction l with
  | nil => exact Int.le_refl _
  | cons x l ih =>
    have h1 := h x (by simp)
    have h2 := ih (fun y hy => h y (by simp [hy]))
    rw [sumF_cons, sumF_cons]; omega
theorem sumF_congr {α : Type} {f g : α → Int} {l : List α} (h : ∀ x ∈ l, f x = g x) : sumF f l = sumF g l := by
  induction l with
  | nil => rfl
  | cons x l ih => rw [sumF_cons, sumF_cons, h x (by simp), ih (fun y hy => h y (by simp [hy]))]
theorem sumF_add {α : Type} (f g : α → Int) (l : List α) : sumF (fun x => f x + g x) l = sumF f l + sumF g l := by
  induction l with
  | nil => rfl
  | cons x l ih => rw [sumF_cons, sumF_cons, sumF_cons, ih]; omega
theorem cutS_map {α : Type} (c : Int) (f : α → Int) (l : List α) : cutS c (l.map f) = sumF (fun x => min (f x) c) l := by
  induction l with
  | nil => rfl
  | cons x l ih => rw [List.map_cons, cutS_cons, sumF_cons, ih]
/-- how many slots an ID has -/
def cntI (g : List Int) (id : Int) : Int := sumF (fun x => if x = id then 1 else 0) g
theorem cntI_nn (g : List Int) (id : Int) : 0 ≤ cntI g id ∧ cntI g id ≤ g.length := by
  induction g with
  | nil => exact ⟨Int.le_refl _, Int.le_refl _⟩
  | cons x g ih =>
    unfold cntI at ih ⊢
    rw [sumF_cons, List.length_cons]
    push_cast
    split <;> omega
/-- the counts of the tenants -/
def cntT (P : Po) (g : List Int) : List Int := P.ts.map (fun t => cntI g t.id)
/-- a sharing -/
structure ShrV (P : Po) (g : List Int) : Prop where
  len : g.length = P.ss.length
  us : ∀ i (h : i < g.length) (h' : i < P.ss.length), g[i] = 0 ∨ g[i] ∈ P.ss[i].us
  mo : ∀ t ∈ P.ts, cntI g t.id ≤ t.most
/-- a pool that is right -/
structure PoV (P : Po) : Prop where
  nd : (P.ts.map (·.id)).Nodup
  ti : ∀ t ∈ P.ts, 1 ≤ t.id ∧ 0 ≤ t.most ∧ t.most ≤ 40
  us : ∀ s ∈ P.ss, ∀ u ∈ s.us, ∃ t ∈ P.ts, t.id = u
/-- labels that prove a sharing -/
structure LabV (P : Po) (g : List Int) (lab : Int → Int) : Prop where
  up : ∀ t ∈ P.ts, cntI g t.id ≤ lab t.id + 1
  room : ∀ t ∈ P.ts, cntI g t.id < t.most → lab t.id ≤ cntI g t.id
  low : ∀ i (h : i < g.length) (h' : i < P.ss.length), ∀ u ∈ P.ss[i].us, (if g[i] = 0 then 41 else lab g[i]) ≤ lab u
/-- what the tenants of whom a function says so have together -/
theorem sum_cnt (p : Int → Bool) : ∀ (ts : List Te) (g : List Int), (ts.map (·.id)).Nodup →
    sumF (fun t => if p t.id = true then cntI g t.id else 0) ts = sumF (fun x => if ts.any (fun t => p t.id && decide (t.id = x)) = true then 1 else 0) g
  | ts, [], _ => by
    have : sumF (fun t : Te => if p t.id = true then cntI [] t.id else 0) ts = sumF (fun _ => 0) ts := sumF_congr (fun t _ => by
      show (if p t.id = true then (0 : Int) else 0) = 0
      split <;> rfl)
    rw [this]
    have h0 : ∀ l : List Te, sumF (fun _ => 0) l = 0 := fun l => by
      induction l with
      | nil => rfl
      | cons x l ih => rw [sumF_cons, ih]; rfl
    exact h0 ts
  | ts, x :: g, hn => by
    have ih := sum_cnt p ts g hn
    rw [sumF_cons, ← ih]
    have h1 : sumF (fun t : Te => if p t.id = true then cntI (x :: g) t.id else 0) ts = sumF (fun t => (if (p t.id && decide (t.id = x)) = true then 1 else 0) + (if p t.id = true then cntI g t.id else 0)) ts := sumF_congr (fun t _ => by
      have : cntI (x :: g) t.id = (if x = t.id then 1 else 0) + cntI g t.id := rfl
      rw [this]
      by_cases hp : p t.id = true
      · by_cases hx : t.id = x
        · subst hx; simp [hp]
        · have : ¬ x = t.id := fun e => hx e.symm
          simp [hp, hx, this]
      · simp [hp])
    rw [h1, sumF_add]
    congr 1
    have h2 : ∀ l : List Te, (l.map (·.id)).Nodup → sumF (fun t : Te => if (p t.id && decide (t.id = x)) = true then (1 : Int) else 0) l = if l.any (fun t => p t.id && decide (t.id = x)) = true then 1 else 0 := fun l => by
      induction l with
      | nil => intro _; rfl
      | cons t l ih =>
        intro hn
        rw [List.map_cons, List.nodup_cons] at hn
        rw [sumF_cons, ih hn.2, List.any_cons]
        by_cases ht : (p t.id && decide (t.id = x)) = true
        · have hno : l.any (fun t => p t.id && decide (t.id = x)) = false := by
            rw [List.any_eq_false]
            intro q hq hq2
            rw [Bool.and_eq_true, decide_eq_true_eq] at hq2
            rw [Bool.and_eq_true, decide_eq_true_eq] at ht
            exact hn.1 (by rw [ht.2, ← hq2.2]; exact List.mem_map_of_mem hq)
          rw [if_pos ht, ht, hno]
          rfl
        · rw [if_neg ht, show (p t.id && decide (t.id = x)) = false by simpa using ht, Bool.false_or]
          omega
    exact h2 ts hn
theorem sumF_index {f g : Int → Int} : ∀ {a b : List Int}, a.length = b.length → (∀ i (h : i < a.length) (h' : i < b.length), f a[i] ≤ g b[i]) → sumF f a ≤ sumF g b
  | [], [], _, _ => Int.le_refl _
  | x :: a, y :: b, hl, h => by
    have h0 := h 0 (by simp) (by simp)
    have := sumF_index (f := f) (g := g) (a := a) (b := b) (by simpa using hl) (fun i h1 h2 => by
      have := h (i + 1) (by simpa using h1) (by simpa using h2)
      simpa using this)
    rw [sumF_cons, sumF_cons]
    simp only [List.getElem_cons_zero] at h0
    omega
  | [], _ :: _, hl, _ => by simp at hl
  | _ :: _, [], hl, _ => by simp at hl
theorem cutS_top {c : Int} {l : List Int} (h : ∀ x ∈ l, x ≤ 40) (hc : 40 ≤ c) : cutS c l = cutS 40 l := by
  induction l with
  | nil => rfl
  | cons x l ih =>
    have := h x (by simp)
    rw [cutS_cons, cutS_cons, ih (fun y hy => h y (by simp [hy]))]
    omega
/-- labels prove: cut at any bound, no other sharing has more -/
theorem lab_cut {P : Po} (hP : PoV P) {A B : List Int} (hA : ShrV P A) (hB : ShrV P B) {lab : Int → Int} (hL : LabV P A lab) (c : Int) : cutS c (cntT P B) ≤ cutS c (cntT P A) := by
  have key : ∀ c, c ≤ 40 → cutS c (cntT P B) ≤ cutS c (cntT P A) := fun c hc => by
    unfold cntT
    rw [cutS_map, cutS_map]
    -- low: the labels below c
    have h1 : sumF (fun t : Te => min (cntI B t.id) c) P.ts ≤ sumF (fun t => (if decide (lab t.id < c) = true then cntI B t.id else 0) + (if lab t.id < c then 0 else min (cntI A t.id) c)) P.ts := sumF_le (fun t ht => by
      have hb := hB.mo t ht
      have ha := hA.mo t ht
      have hr := hL.room t ht
      by_cases hl : lab t.id < c
      · simp only [hl, decide_true, if_true]; omega
      · simp only [hl, decide_false, if_false, Bool.false_eq_true]; omega)
    have h2 : sumF (fun t : Te => (if decide (lab t.id < c) = true then cntI A t.id else 0) + (if lab t.id < c then 0 else min (cntI A t.id) c)) P.ts ≤ sumF (fun t => min (cntI A t.id) c) P.ts := sumF_le (fun t ht => by
      have hu := hL.up t ht
      by_cases hl : lab t.id < c
      · simp only [hl, decide_true, if_true]; omega
      · simp only [hl, decide_false, if_false, Bool.false_eq_true]; omega)
    rw [sumF_add] at h1 h2
    have h3 : sumF (fun t : Te => if decide (lab t.id < c) = true then cntI B t.id else 0) P.ts ≤ sumF (fun t => if decide (lab t.id < c) = true then cntI A t.id else 0) P.ts := by
      rw [sum_cnt (fun id => decide (lab id < c)) P.ts B hP.nd, sum_cnt (fun id => decide (lab id < c)) P.ts A hP.nd]
      refine sumF_index (by rw [hA.len, hB.len]) (fun i hi hi' => ?_)
      by_cases hb : (P.ts.any fun t => decide (lab t.id < c) && decide (t.id = B[i])) = true
      · rw [if_pos hb, if_pos]
        · exact Int.le_refl _
        rw [List.any_eq_true] at hb
        obtain ⟨t, ht, hq⟩ := hb
        rw [Bool.and_eq_true, decide_eq_true_eq, decide_eq_true_eq] at hq
        have his : i < P.ss.length := by rw [← hA.len]; exact hi'
        have hid := (hP.ti t ht).1
        have hu : B[i] ∈ P.ss[i].us := by
          rcases hB.us i hi his with h | h
          · omega
          · exact h
        have hlow := hL.low i hi' his _ hu
        rw [← hq.2] at hlow
        have hA0 : A[i] ≠ 0 := fun e => by rw [if_pos e] at hlow; omega
        rw [if_neg hA0] at hlow
        have hua : A[i] ∈ P.ss[i].us := by
          rcases hA.us i hi' his with h | h
          · exact absurd h hA0
          · exact h
        obtain ⟨q, hq1, hq2⟩ := hP.us _ (List.getElem_mem his) _ hua
        rw [List.any_eq_true]
        exact ⟨q, hq1, by rw [Bool.and_eq_true, decide_eq_true_eq, decide_eq_true_eq, hq2]; exact ⟨by omega, rfl⟩⟩
      · rw [if_neg hb]
        split <;> omega
    omega
  by_cases hc : c ≤ 40
  · exact key c hc
  · have hb : ∀ g : List Int, ShrV P g → ∀ x ∈ cntT P g, x ≤ 40 := fun g hg x hx => by
      obtain ⟨t, ht, rfl⟩ := List.mem_map.1 hx
      have := hg.mo t ht
      have := (hP.ti t ht).2.2
      omega
    rw [cutS_top (hb A hA) (by omega), cutS_top (hb B hB) (by omega)]
    exact key 40 (Int.le_refl _)
/-- the ladder of a sharing -/
def ladL (P : Po) (g : List Int) : List Int := (cntT P g).mergeSort (fun x y => decide (x ≤ y))
theorem ladL_perm (P : Po) (g : List Int) : (ladL P g).Perm (cntT P g) := List.mergeSort_perm _ _
theorem ladL_srt (P : Po) (g : List Int) : (ladL P g).Pairwise (· ≤ ·) := by
  have h := List.pairwise_mergeSort (le := fun x y : Int => decide (x ≤ y)) (fun a b c h1 h2 => by simp at *; omega) (fun a b => by simp; omega) (cntT P g)
  exact h.imp (fun h => by simpa using h)
theorem ladL_len (P : Po) (g : List Int) : (ladL P g).length = P.ts.length := by rw [(ladL_perm P g).length_eq]; simp [cntT]
/-- no sharing is better than one that labels prove -/
theorem lab_best {P : Po} (hP : PoV P) {A B : List Int} (hA : ShrV P A) (hB : ShrV P B) {lab : Int → Int} (hL : LabV P A lab) : 0 ≤ cmpL (ladL P A) (ladL P B) :=
  lex_of_cut (by rw [ladL_len, ladL_len]) (ladL_srt P A) (ladL_srt P B) (fun c => by rw [cutS_perm (ladL_perm P A), cutS_perm (ladL_perm P B)]; exact lab_cut hP hA hB hL c)
/-- two sharings that labels prove have the same ladder -/
theorem lab_same {P : Po} (hP : PoV P) {A B : List Int} (hA : ShrV P A) (hB : ShrV P B) {la lb : Int → Int} (hLa : LabV P A la) (hLb : LabV P B lb) : ladL P A = ladL P B :=
  cmpL_anti (by rw [ladL_len, ladL_len]) (lab_best hP hA hB hLa) (lab_best hP hB hA hLb)
end Go.Proofs.Ytiofdfjcaklmcaa
namespace Go.Proofs.Ytiofdfjcaklmcaa

/-- a slot of the first one can go to the second one -/
def EdgeP (P : Po) (g : List Int) (a b : Int) : Prop := ∃ i, ∃ (h : i < g.length) (h' : i < P.ss.length), g[i] = a ∧ b ∈ P.ss[i].us
/-- by shifts -/
inductive ReachP (P : Po) (g : List Int) : Int → Int → Prop
  | refl (a : Int) : ReachP P g a a
  | step {a b c : Int} : EdgeP P g a b → ReachP P g b c → ReachP P g a c
theorem ReachP.trans {P : Po} {g : List Int} {a b c : Int} (h : ReachP P g a b) (k : ReachP P g b c) : ReachP P g a c := by
  induction h with
  | refl => exact k
  | step e _ ih => exact .step e (ih k)
/-- no chain: who can be reached and has room has nearly as much -/
structure NoChn (P : Po) (g : List Int) : Prop where
  zero : ∀ t ∈ P.ts, ReachP P g 0 t.id → ¬ cntI g t.id < t.most
  ten : ∀ s ∈ P.ts, ∀ t ∈ P.ts, s.id ≠ t.id → ReachP P g s.id t.id → cntI g t.id < t.most → cntI g s.id < cntI g t.id + 2
open Classical in
noncomputable def labC (P : Po) (g : List Int) (a : Int) : Int := P.ts.foldr (fun t m => if cntI g t.id < t.most ∧ ReachP P g a t.id then min (cntI g t.id) m else m) 41
theorem labC_le {P : Po} {g : List Int} {a : Int} {t : Te} (ht : t ∈ P.ts) (h : cntI g t.id < t.most) (hr : ReachP P g a t.id) : labC P g a ≤ cntI g t.id := by
  unfold labC
  generalize P.ts = ts at ht ⊢
  induction ts with
  | nil => cases ht
  | cons q ts ih =>
    rw [List.foldr_cons]
    rcases List.mem_cons.1 ht with rfl | ht
    · rw [if_pos ⟨h, hr⟩]; omega
    · have := ih ht
      split <;> omega
theorem labC_top (P : Po) (g : List Int) (a : Int) : labC P g a ≤ 41 := by
  unfold labC
  induction P.ts with
  | nil => exact Int.le_refl _
  | cons q ts ih => rw [List.foldr_cons]; split <;> omega
theorem labC_is (P : Po) (g : List Int) (a : Int) : labC P g a = 41 ∨ ∃ t ∈ P.ts, cntI g t.id < t.most ∧ ReachP P g a t.id ∧ labC P g a = cntI g t.id := by
  unfold labC
  induction P.ts with
  | nil => exact .inl rfl
  | cons q ts ih =>
    rw [List.foldr_cons]
    split
    · rename_i h
      rcases ih with h1 | ⟨t, ht, h1, h2, h3⟩
      · by_cases hq : cntI g q.id ≤ 41
        · exact .inr ⟨q, by simp, h.1, h.2, by rw [h1]; omega⟩
        · exact .inl (by rw [h1]; omega)
      · by_cases hq : cntI g q.id ≤ cntI g t.id
        · exact .inr ⟨q, by simp, h.1, h.2, by rw [h3]; omega⟩
        · exact .inr ⟨t, by simp [ht], h1, h2, by rw [h3]; omega⟩
    · rcases ih with h1 | ⟨t, ht, h1, h2, h3⟩
      · exact .inl h1
      · exact .inr ⟨t, by simp [ht], h1, h2, h3⟩
theorem nochn_lab {P : Po} (hP : PoV P) {g : List Int} (hS : ShrV P g) (h : NoChn P g) : LabV P g (labC P g) := by
  refine ⟨fun t ht => ?_, fun t ht hr => labC_le ht hr (.refl _), fun i hi hi' u hu => ?_⟩
  · rcases labC_is P g t.id with h1 | ⟨q, hq, h1, h2, h3⟩
    · have := hS.mo t ht
      have := (hP.ti t ht).2.2
      omega
    · by_cases he : t.id = q.id
      · rw [he] at h3 ⊢; omega
      · have := h.ten t ht q hq he h2 h1
        omega
  · have hed : EdgeP P g g[i] u := ⟨i, hi, hi', rfl, hu⟩
    by_cases h0 : g[i] = 0
    · rw [if_pos h0]
      rcases labC_is P g u with h1 | ⟨q, hq, h1, h2, h3⟩
      · omega
      · rw [h0] at hed
        exact absurd h1 (h.zero q hq (.step hed h2))
    · rw [if_neg h0]
      rcases labC_is P g u with h1 | ⟨q, hq, h1, h2, h3⟩
      · rw [h1]; exact labC_top P g _
      · rw [h3]; exact labC_le hq h1 (.step hed h2)
/-- without a chain: the same ladder, and no better one -/
theorem nochn_same {P : Po} (hP : PoV P) {A B : List Int} (hA : ShrV P A) (hB : ShrV P B) (ha : NoChn P A) (hb : NoChn P B) : ladL P A = ladL P B :=
  lab_same hP hA hB (nochn_lab hP hA ha) (nochn_lab hP hB hb)
theorem nochn_best {P : Po} (hP : PoV P) {A B : List Int} (hA : ShrV P A) (hB : ShrV P B) (ha : NoChn P A) : 0 ≤ cmpL (ladL P A) (ladL P B) :=
  lab_best hP hA hB (nochn_lab hP hA ha)
end Go.Proofs.Ytiofdfjcaklmcaa
namespace Go.Proofs.Ytiofdfjcaklmcaa

/-- a way: slots (indices) and to whom they go, from one on -/
inductive WayP (P : Po) (g : List Int) : Int → List (Nat × Int) → Prop
  | nil (a : Int) : WayP P g a []
  | cons {a : Int} {i : Nat} {b : Int} {l : List (Nat × Int)} (h : i < g.length) (h' : i < P.ss.length) (ha : g[i] = a) (hb : b ∈ P.ss[i].us) (hl : WayP P g b l) : WayP P g a ((i, b) :: l)
def lstW (a : Int) : List (Nat × Int) → Int
  | [] => a
  | q :: l => lstW q.2 l
def appW (g : List Int) (l : List (Nat × Int)) : List Int := l.foldl (fun g q => g.set q.1 q.2) g
theorem appW_cons (g : List Int) (q : Nat × Int) (l : List (Nat × Int)) : appW g (q :: l) = appW (g.set q.1 q.2) l := rfl
theorem appW_len (g : List Int) (l : List (Nat × Int)) : (appW g l).length = g.length := by
  induction l generalizing g with
  | nil => rfl
  | cons q l ih => rw [appW_cons, ih, List.length_set]
theorem cntI_set {g : List Int} {i : Nat} (h : i < g.length) (b x : Int) : cntI (g.set i b) x = cntI g x - (if g[i] = x then 1 else 0) + (if b = x then 1 else 0) := by
  induction g generalizing i with
  | nil => simp at h
  | cons y g ih =>
    have hc : ∀ z (l : List Int), cntI (z :: l) x = (if z = x then 1 else 0) + cntI l x := fun _ _ => rfl
    cases i with
    | zero => rw [List.set_cons_zero, hc, hc]; simp only [List.getElem_cons_zero]; omega
    | succ i =>
      rw [List.set_cons_succ, hc, hc, ih (by simpa using h)]
      simp only [List.getElem_cons_succ]
      omega
theorem WayP.reach {P : Po} {g : List Int} {a : Int} {l : List (Nat × Int)} (h : WayP P g a l) : ReachP P g a (lstW a l) := by
  induction h with
  | nil a => exact .refl a
  | cons h h' ha hb _ ih => exact .step ⟨_, h, h', ha, hb⟩ ih
theorem WayP.set {P : Po} {g : List Int} {c : Int} {l : List (Nat × Int)} (h : WayP P g c l) {i : Nat} (hi : i < g.length) (v : Int) (hc : c ≠ g[i]) (hl : g[i] ∉ l.map (·.2)) : WayP P (g.set i v) c l := by
  induction h with
  | nil a => exact .nil a
  | @cons a j b l h h' ha hb hw ih =>
    simp only [List.map_cons, List.mem_cons, not_or] at hl
    have hne : i ≠ j := fun e => by subst e; exact hc ha.symm
    refine .cons (by rw [List.length_set]; exact h) h' ?_ hb (ih (fun e => hl.1 e.symm) hl.2)
    rw [List.getElem_set_ne hne]
    exact ha
/-- the counts behind a way -/
theorem way_cnt {P : Po} {l : List (Nat × Int)} : ∀ {g : List Int} {a : Int}, WayP P g a l → (a :: l.map (·.2)).Nodup → ∀ x, cntI (appW g l) x = cntI g x + (if x = lstW a l then 1 else 0) - (if x = a then 1 else 0) := by
  induction l with
  | nil => intro g a _ _ x; show cntI g x = cntI g x + (if x = a then 1 else 0) - _; omega
  | cons q l ih =>
    intro g a h hn x
    cases h with
    | cons h h' ha hb hw =>
      rename_i i b
      rw [List.map_cons, List.nodup_cons] at hn
      have hab : a ≠ b := fun e => hn.1 (by simp [e])
      have hal : a ∉ l.map (·.2) := fun e => hn.1 (by simp [e])
      have hw2 : WayP P (g.set i b) b l := hw.set h b (by rw [ha]; exact fun e => hab e.symm) (by rw [ha]; exact hal)
      rw [appW_cons, ih hw2 hn.2 x, cntI_set h, ha]
      show _ = cntI g x + (if x = lstW b l then 1 else 0) - _
      have e1 : (if a = x then (1 : Int) else 0) = if x = a then 1 else 0 := by
        by_cases e : a = x
        · rw [if_pos e, if_pos e.symm]
        · rw [if_neg e, if_neg (fun h => e h.symm)]
      have e2 : (if b = x then (1 : Int) else 0) = if x = b then 1 else 0 := by
        by_cases e : b = x
        · rw [if_pos e, if_pos e.symm]
        · rw [if_neg e, if_neg (fun h => e h.symm)]
      rw [e1, e2]
      omega
theorem way_us {P : Po} {l : List (Nat × Int)} : ∀ {g : List Int} {a : Int}, WayP P g a l → (a :: l.map (·.2)).Nodup → (∀ i (h : i < g.length) (h' : i < P.ss.length), g[i] = 0 ∨ g[i] ∈ P.ss[i].us) → ∀ i (h : i < (appW g l).length) (h' : i < P.ss.length), (appW g l)[i] = 0 ∨ (appW g l)[i] ∈ P.ss[i].us := by
  induction l with
  | nil => intro g a _ _ hu; exact hu
  | cons q l ih =>
    intro g a h hn hu
    cases h with
    | cons h h' ha hb hw =>
      rename_i i b
      rw [List.map_cons, List.nodup_cons] at hn
      have hab : a ≠ b := fun e => hn.1 (by simp [e])
      have hal : a ∉ l.map (·.2) := fun e => hn.1 (by simp [e])
      have hw2 : WayP P (g.set i b) b l := hw.set h b (by rw [ha]; exact fun e => hab e.symm) (by rw [ha]; exact hal)
      rw [appW_cons]
      refine ih hw2 hn.2 (fun j hj hj' => ?_)
      by_cases e : i = j
      · subst e
        rw [List.getElem_set_self]
        exact .inr hb
      · rw [List.getElem_set_ne e]
        exact hu j (by rw [List.length_set] at hj; exact hj) hj'
/-- behind a way to one with room there is a sharing -/
theorem way_shr {P : Po} {g : List Int} {a : Int} {l : List (Nat × Int)} (hS : ShrV P g) (h : WayP P g a l) (hn : (a :: l.map (·.2)).Nodup) (hr : ∀ t ∈ P.ts, t.id = lstW a l → cntI g t.id < t.most) : ShrV P (appW g l) := by
  refine ⟨by rw [appW_len]; exact hS.len, way_us h hn hS.us, fun t ht => ?_⟩
  rw [way_cnt h hn]
  have h1 := hS.mo t ht
  by_cases e : t.id = lstW a l
  · have := hr t ht e
    rw [if_pos e]
    split <;> omega
  · rw [if_neg e]
    split <;> omega
/-- what falls behind each chain -/
def potZ (P : Po) (g : List Int) : Int := cntI g 0 * 10000 + sumF (fun t => cntI g t.id * cntI g t.id) P.ts
theorem potZ_nn (P : Po) (g : List Int) : 0 ≤ potZ P g := by
  have h1 := (cntI_nn g 0).1
  have h2 : ∀ l : List Te, 0 ≤ sumF (fun t => cntI g t.id * cntI g t.id) l := fun l => by
    induction l with
    | nil => exact Int.le_refl _
    | cons x l ih =>
      rw [sumF_cons]
      have := Int.mul_nonneg (cntI_nn g x.id).1 (cntI_nn g x.id).1
      omega
  have := h2 P.ts
  unfold potZ
  omega
theorem sumF_pick {f : Te → Int} : ∀ {l : List Te} {x : Int}, (l.map (·.id)).Nodup → ∀ t ∈ l, t.id = x → sumF (fun q => if q.id = x then f q else 0) l = f t
  | [], _, _, t, ht, _ => by cases ht
  | q :: l, x, hn, t, ht, hx => by
    rw [List.map_cons, List.nodup_cons] at hn
    rw [sumF_cons]
    rcases List.mem_cons.1 ht with rfl | ht
    · have h0 : sumF (fun q => if q.id = x then f q else 0) l = sumF (fun _ => 0) l := sumF_congr (fun r hr => by
        rw [if_neg]
        intro e
        exact hn.1 (by rw [hx, ← e]; exact List.mem_map_of_mem hr))
      have h1 : ∀ l : List Te, sumF (fun _ => 0) l = 0 := fun l => by
        induction l with
        | nil => rfl
        | cons _ _ ih => rw [sumF_cons, ih]; rfl
      rw [if_pos hx, h0, h1]; omega
    · rw [if_neg, sumF_pick hn.2 t ht hx]
      · omega
      · intro e
        exact hn.1 (by rw [e, ← hx]; exact List.mem_map_of_mem ht)
theorem pot_fall {P : Po} (hP : PoV P) {g : List Int} {a : Int} {l : List (Nat × Int)} (hS : ShrV P g) (h : WayP P g a l) (hn : (a :: l.map (·.2)).Nodup) (hl : a ≠ lstW a l) {t : Te} (ht : t ∈ P.ts) (hti : t.id = lstW a l) (hr : cntI g t.id < t.most)
    (hs : a = 0 ∨ ∃ s ∈ P.ts, s.id = a ∧ cntI g t.id + 2 ≤ cntI g s.id) : potZ P (appW g l) < potZ P g := by
  have hc := way_cnt h hn
  have hid := (hP.ti t ht)
  have hm := hS.mo t ht
  have hnn := (cntI_nn g t.id).1
  have hsq : sumF (fun q : Te => cntI (appW g l) q.id * cntI (appW g l) q.id) P.ts = sumF (fun q => cntI g q.id * cntI g q.id) P.ts + (2 * cntI g t.id + 1) - (if a = 0 then 0 else 2 * cntI g a - 1) := by
    have e1 := sumF_pick (f := fun q => 2 * cntI g q.id + 1) (x := lstW a l) hP.nd t ht hti
    have e2 : sumF (fun q : Te => if q.id = a then 2 * cntI g q.id - 1 else 0) P.ts = if a = 0 then 0 else 2 * cntI g a - 1 := by
      rcases hs with h0 | ⟨s, hs1, hs2, _⟩
      · rw [if_pos h0, sumF_congr (g := fun _ => 0) (fun q hq => by rw [if_neg]; have := (hP.ti q hq).1; omega)]
        generalize P.ts = ts
        induction ts with
        | nil => rfl
        | cons _ _ ih => rw [sumF_cons, ih]; rfl
      · have := (hP.ti s hs1).1
        rw [if_neg (by omega), ← hs2]
        exact sumF_pick (f := fun q => 2 * cntI g q.id - 1) (x := s.id) hP.nd s hs1 rfl
    have e3 : sumF (fun q : Te => cntI (appW g l) q.id * cntI (appW g l) q.id + (if q.id = a then 2 * cntI g q.id - 1 else 0)) P.ts = sumF (fun q => cntI g q.id * cntI g q.id + (if q.id = lstW a l then 2 * cntI g q.id + 1 else 0)) P.ts := sumF_congr (fun q _ => by
      rw [hc q.id]
      generalize cntI g q.id = n
      have h2 : (n + 1) * (n + 1) = n * n + (2 * n + 1) := by rw [Int.add_mul, Int.mul_add]; omega
      have h3 : (n - 1) * (n - 1) = n * n - (2 * n - 1) := by rw [Int.sub_mul, Int.mul_sub, Int.one_mul]; omega
      by_cases hq1 : q.id = lstW a l
      · have hq2 : ¬ q.id = a := fun e => hl (e.symm.trans hq1)
        rw [if_pos hq1, if_neg hq2, if_pos hq1, if_neg hq2, show n + 1 - 0 = n + 1 by omega, h2]; omega
      · by_cases hq2 : q.id = a
        · rw [if_neg hq1, if_pos hq2, if_neg hq1, if_pos hq2, show n + 0 - 1 = n - 1 by omega, h3]; omega
        · rw [if_neg hq1, if_neg hq2, if_neg hq1, if_neg hq2, show n + 0 - 0 = n by omega])
    rw [sumF_add, sumF_add, e2, e1, hti] at e3
    rw [hti]
    omega
  have h0 := hc 0
  unfold potZ
  rw [hsq, h0]
  have ht0 : ¬ (0 = lstW a l) := by rw [← hti]; omega
  rw [if_neg ht0]
  rcases hs with ha | ⟨s, hs1, hs2, hs3⟩
  · rw [if_pos ha.symm, if_pos ha]
    have := hid.2.2
    omega
  · have := (hP.ti s hs1).1
    have ha : ¬ a = 0 := by omega
    rw [if_neg (fun e => ha e.symm), if_neg ha, ← hs2]
    omega
end Go.Proofs.Ytiofdfjcaklmcaa
namespace Go.Proofs.Ytiofdfjcaklmcaa

/-- the shifts away from one, in order: slots (indices) and to whom -/
def movS (P : Po) (g : List Int) (a : Int) (i : Nat) : List (Nat × Int) :=
  if g.getD i 0 = a then ((P.ss.getD i ⟨0, []⟩).us.filter (fun u => decide (u ≠ a))).map (fun u => (i, u)) else []
def movL (P : Po) (g : List Int) (a : Int) : List (Nat × Int) := (List.range P.ss.length).flatMap (movS P g a)
/-- who was found, and the way there, in the order of finding -/
abbrev Fnd := List (Int × List (Nat × Int))
def addF (w : List (Nat × Int)) (W : Fnd) (m : Nat × Int) : Fnd := if (W.map (·.1)).contains m.2 = true then W else W ++ [(m.2, w ++ [m])]
def goF (P : Po) (g : List Int) (W : Fnd) (k : Nat) : Fnd := match W[k]? with
  | some q => (movL P g q.1).foldl (addF q.2) W
  | none => W
def bfsF (P : Po) (g : List Int) (a : Int) : Nat → Fnd
  | 0 => [(a, [])]
  | k + 1 => goF P g (bfsF P g a k) k

theorem mov_mem {P : Po} {g : List Int} {a : Int} {i : Nat} {b : Int} (hg : g.length = P.ss.length) : (i, b) ∈ movL P g a ↔ ∃ (h : i < g.length) (h' : i < P.ss.length), g[i] = a ∧ b ∈ P.ss[i].us ∧ b ≠ a := by
  unfold movL
  rw [List.mem_flatMap]
  constructor
  · rintro ⟨j, hj, hm⟩
    have hj' := List.mem_range.1 hj
    unfold movS at hm
    split at hm
    · rename_i hga
      obtain ⟨u, hu, he⟩ := List.mem_map.1 hm
      simp only [Prod.mk.injEq] at he
      obtain ⟨rfl, rfl⟩ := he
      have hjg : j < g.length := by omega
      rw [List.mem_filter] at hu
      rw [List.getD_eq_getElem?_getD, List.getElem?_eq_getElem hjg] at hga
      rw [List.getD_eq_getElem?_getD, List.getElem?_eq_getElem hj'] at hu
      exact ⟨hjg, hj', hga, hu.1, by simpa using hu.2⟩
    · cases hm
  · rintro ⟨h, h', ha, hb, hne⟩
    refine ⟨i, List.mem_range.2 h', ?_⟩
    unfold movS
    rw [if_pos (by rw [List.getD_eq_getElem?_getD, List.getElem?_eq_getElem h]; exact ha)]
    refine List.mem_map.2 ⟨b, List.mem_filter.2 ⟨?_, by simpa using hne⟩, rfl⟩
    rw [List.getD_eq_getElem?_getD, List.getElem?_eq_getElem h']
    exact hb
theorem WayP.snoc {P : Po} {g : List Int} {a : Int} {l : List (Nat × Int)} (h : WayP P g a l) {i : Nat} {b : Int} (hi : i < g.length) (hi' : i < P.ss.length) (hl : g[i] = lstW a l) (hb : b ∈ P.ss[i].us) : WayP P g a (l ++ [(i, b)]) := by
  induction h with
  | nil a => exact .cons hi hi' hl hb (.nil b)
  | cons h h' ha hb' _ ih => exact .cons h h' ha hb' (ih hl)
theorem lstW_snoc (a : Int) (l : List (Nat × Int)) (q : Nat × Int) : lstW a (l ++ [q]) = q.2 := by
  induction l generalizing a with
  | nil => rfl
  | cons p l ih => exact ih p.2
theorem lstW_mem (a : Int) (l : List (Nat × Int)) : lstW a l ∈ a :: l.map (·.2) := by
  induction l generalizing a with
  | nil => simp [lstW]
  | cons p l ih =>
    have := ih p.2
    rw [List.map_cons]
    exact List.mem_cons_of_mem _ this
/-- what the search keeps -/
structure BfV (P : Po) (g : List Int) (a : Int) (W : Fnd) : Prop where
  nd : (W.map (·.1)).Nodup
  at0 : W[0]? = some (a, [])
  way : ∀ q ∈ W, WayP P g a q.2 ∧ lstW a q.2 = q.1 ∧ (a :: q.2.map (·.2)).Nodup ∧ ∀ y ∈ q.2.map (·.2), y ∈ W.map (·.1)
theorem BfV.add {P : Po} {g : List Int} {a : Int} {W : Fnd} (h : BfV P g a W) {q : Int × List (Nat × Int)} (hq : q ∈ W) {m : Nat × Int} (h1 : m.1 < g.length) (h2 : m.1 < P.ss.length) (h3 : g[m.1] = q.1) (h4 : m.2 ∈ P.ss[m.1].us) : BfV P g a (addF q.2 W m) := by
  unfold addF
  split
  · exact h
  · rename_i hc
    have hno : m.2 ∉ W.map (·.1) := fun e => hc (by simpa using e)
    obtain ⟨w1, w2, w3, w4⟩ := h.way q hq
    have ha : a ∈ W.map (·.1) := by
      have := h.at0
      exact List.mem_map.2 ⟨(a, []), List.mem_of_getElem? this, rfl⟩
    refine ⟨?_, ?_, fun r hr => ?_⟩
    · rw [List.map_append, List.map_cons, List.map_nil, List.nodup_append]
      exact ⟨h.nd, by simp, fun x hx y hy e => by
        obtain rfl : y = m.2 := by simpa using hy
        exact hno (e ▸ hx)⟩
    · cases W with
      | nil => cases hq
      | cons p W => exact h.at0
    · rcases List.mem_append.1 hr with hr | hr
      · obtain ⟨r1, r2, r3, r4⟩ := h.way r hr
        exact ⟨r1, r2, r3, fun y hy => by rw [List.map_append]; exact List.mem_append.2 (.inl (r4 y hy))⟩
      · obtain rfl : r = (m.2, q.2 ++ [m]) := by simpa using hr
        refine ⟨w1.snoc h1 h2 (h3.trans w2.symm) h4, lstW_snoc _ _ _, ?_, fun y hy => ?_⟩
        · show (a :: (q.2 ++ [m]).map (·.2)).Nodup
          rw [List.map_append, List.map_cons, List.map_nil, ← List.cons_append, List.nodup_append]
          refine ⟨w3, by simp, fun x hx y hy e => ?_⟩
          obtain rfl : y = m.2 := by simpa using hy
          rcases List.mem_cons.1 hx with rfl | hx
          · exact hno (e ▸ ha)
          · exact hno (e ▸ w4 x hx)
        · rw [List.map_append] at hy ⊢
          rcases List.mem_append.1 hy with hy | hy
          · exact List.mem_append.2 (.inl (w4 y hy))
          · exact List.mem_append.2 (.inr (by simpa using hy))
theorem addF_mono {w : List (Nat × Int)} {W : Fnd} {m : Nat × Int} {k : Nat} {q : Int × List (Nat × Int)} (h : W[k]? = some q) : (addF w W m)[k]? = some q := by
  unfold addF
  split
  · exact h
  · have hk : k < W.length := (List.getElem?_eq_some_iff.1 h).1
    rw [List.getElem?_append_left hk]; exact h
theorem addF_has (w : List (Nat × Int)) (W : Fnd) (m : Nat × Int) : m.2 ∈ (addF w W m).map (·.1) := by
  unfold addF
  split
  · rename_i h; simpa using h
  · rw [List.map_append]; exact List.mem_append.2 (.inr (by simp))
theorem addF_keeps {w : List (Nat × Int)} {W : Fnd} {m : Nat × Int} {x : Int} (h : x ∈ W.map (·.1)) : x ∈ (addF w W m).map (·.1) := by
  unfold addF
  split
  · exact h
  · rw [List.map_append]; exact List.mem_append.2 (.inl h)
theorem fold_keeps {w : List (Nat × Int)} : ∀ {l : List (Nat × Int)} {W : Fnd} {x : Int}, x ∈ W.map (·.1) → x ∈ (l.foldl (addF w) W).map (·.1)
  | [], _, _, h => h
  | m :: l, W, x, h => by rw [List.foldl_cons]; exact fold_keeps (addF_keeps h)
theorem fold_mono {w : List (Nat × Int)} : ∀ {l : List (Nat × Int)} {W : Fnd} {k : Nat} {q : Int × List (Nat × Int)}, W[k]? = some q → (l.foldl (addF w) W)[k]? = some q
  | [], _, _, _, h => h
  | m :: l, W, k, q, h => by rw [List.foldl_cons]; exact fold_mono (addF_mono h)
theorem fold_has {w : List (Nat × Int)} : ∀ {l : List (Nat × Int)} {W : Fnd} {m : Nat × Int}, m ∈ l → m.2 ∈ (l.foldl (addF w) W).map (·.1)
  | p :: l, W, m, h => by
    rw [List.foldl_cons]
    rcases List.mem_cons.1 h with rfl | h
    · exact fold_keeps (addF_has _ _ _)
    · exact fold_has h
theorem fold_V {P : Po} {g : List Int} (hg : g.length = P.ss.length) {a : Int} {k : Nat} {q : Int × List (Nat × Int)} : ∀ {l : List (Nat × Int)} {W : Fnd}, BfV P g a W → W[k]? = some q → (∀ m ∈ l, m ∈ movL P g q.1) → BfV P g a (l.foldl (addF q.2) W)
  | [], _, h, _, _ => h
  | m :: l, W, h, hq, hl => by
    rw [List.foldl_cons]
    obtain ⟨h1, h2, h3, h4, _⟩ := (mov_mem hg).1 (hl m (by simp))
    exact fold_V hg (h.add (List.mem_of_getElem? hq) h1 h2 h3 h4) (addF_mono hq) (fun p hp => hl p (by simp [hp]))
theorem bfs_V {P : Po} {g : List Int} (hg : g.length = P.ss.length) (a : Int) : ∀ k, BfV P g a (bfsF P g a k)
  | 0 => ⟨by simp [bfsF], rfl, fun q hq => by
      obtain rfl : q = (a, []) := by simpa [bfsF] using hq
      exact ⟨.nil a, rfl, by simp, fun y hy => by cases hy⟩⟩
  | k + 1 => by
    have ih := bfs_V hg a k
    show BfV P g a (goF P g (bfsF P g a k) k)
    unfold goF
    split
    · rename_i q hq
      exact fold_V hg ih hq (fun m hm => hm)
    · exact ih
/-- the first ones have been searched from -/
theorem bfs_done {P : Po} {g : List Int} (hg : g.length = P.ss.length) (a : Int) : ∀ k j, j < k → ∀ q, (bfsF P g a k)[j]? = some q → ∀ m ∈ movL P g q.1, m.2 ∈ (bfsF P g a k).map (·.1)
  | 0, j, h => by omega
  | k + 1, j, h => fun q hq m hm => by
    have hstep : ∀ (n : Nat) (r : Int × List (Nat × Int)), (bfsF P g a k)[n]? = some r → (bfsF P g a (k + 1))[n]? = some r := fun n r hr => by
      show (goF P g (bfsF P g a k) k)[n]? = some r
      unfold goF
      split
      · exact fold_mono hr
      · exact hr
    by_cases hjk : j = k
    · subst hjk
      show m.2 ∈ (goF P g (bfsF P g a j) j).map (·.1)
      cases hk : (bfsF P g a j)[j]? with
      | some r =>
        have := hstep j r hk
        rw [hq] at this
        obtain rfl : q = r := by simpa using this
        unfold goF
        rw [hk]
        exact fold_has hm
      | none =>
        have : (bfsF P g a (j + 1))[j]? = none := by
          show (goF P g (bfsF P g a j) j)[j]? = none
          unfold goF
          rw [hk]
          exact hk
        rw [this] at hq
        cases hq
    · have hlen : j < (bfsF P g a k).length ∨ (bfsF P g a k).length ≤ j := by omega
      rcases hlen with hj | hj
      · have hr := List.getElem?_eq_getElem hj
        have := hstep j _ hr
        rw [hq] at this
        have hqr : q = (bfsF P g a k)[j] := by simpa using this
        have ih := bfs_done hg a k j (by omega) _ hr m (by rw [← hqr]; exact hm)
        show m.2 ∈ (goF P g (bfsF P g a k) k).map (·.1)
        unfold goF
        split
        · exact fold_keeps ih
        · exact ih
      · have hk : (bfsF P g a k)[k]? = none := List.getElem?_eq_none (by omega)
        have he : bfsF P g a (k + 1) = bfsF P g a k := by
          show goF P g (bfsF P g a k) k = _
          unfold goF
          rw [hk]
        rw [he, List.getElem?_eq_none hj] at hq
        cases hq
/-- at the end, all that can be reached is found -/
theorem bfs_all {P : Po} {g : List Int} (hg : g.length = P.ss.length) {a : Int} {k : Nat} (hk : (bfsF P g a k).length ≤ k) {b : Int} (h : ReachP P g a b) : b ∈ (bfsF P g a k).map (·.1) := by
  have ha : a ∈ (bfsF P g a k).map (·.1) := List.mem_map.2 ⟨(a, []), List.mem_of_getElem? (bfs_V hg a k).at0, rfl⟩
  have key : ∀ x y, ReachP P g x y → x ∈ (bfsF P g a k).map (·.1) → y ∈ (bfsF P g a k).map (·.1) := fun x y h => by
    induction h with
    | refl => exact id
    | @step x y z e _ ih =>
      intro hx
      refine ih ?_
      obtain ⟨i, hi, hi', hgi, hu⟩ := e
      by_cases hxy : y = x
      · rw [hxy]; exact hx
      · obtain ⟨q, hq, rfl⟩ := List.mem_map.1 hx
        obtain ⟨j, hj, he⟩ := List.mem_iff_getElem.1 hq
        exact bfs_done hg a k j (by omega) q (by rw [List.getElem?_eq_getElem hj, he]) (i, y) ((mov_mem hg).2 ⟨hi, hi', hgi, hu, hxy⟩)
  exact key a b h ha
/-- who is found can be reached -/
theorem bfs_reach {P : Po} {g : List Int} (hg : g.length = P.ss.length) {a : Int} {k : Nat} {q : Int × List (Nat × Int)} (h : q ∈ bfsF P g a k) : ReachP P g a q.1 := by
  obtain ⟨h1, h2, _⟩ := (bfs_V hg a k).way q h
  rw [← h2]
  exact h1.reach
end Go.Proofs.Ytiofdfjcaklmcaa
namespace Go.Proofs.Ytiofdfjcaklmcaa

theorem len_sub : ∀ {l m : List Int}, l.Nodup → (∀ x ∈ l, x ∈ m) → l.length ≤ m.length
  | [], _, _, _ => Nat.zero_le _
  | x :: l, m, hn, h => by
    rw [List.nodup_cons] at hn
    have hx := h x (by simp)
    have := len_sub (l := l) (m := m.erase x) hn.2 (fun y hy => by
      have hne : y ≠ x := fun e => hn.1 (e ▸ hy)
      exact (List.mem_erase_of_ne hne).2 (h y (by simp [hy])))
    have h2 := List.length_erase_of_mem hx
    have h3 : 0 < m.length := List.length_pos_of_mem hx
    rw [List.length_cons]
    omega
theorem reach_id {P : Po} (hP : PoV P) {g : List Int} {a b : Int} (h : ReachP P g a b) : b = a ∨ ∃ t ∈ P.ts, t.id = b := by
  induction h with
  | refl => exact .inl rfl
  | @step a b c e _ ih =>
    obtain ⟨i, _, hi', _, hu⟩ := e
    rcases ih with rfl | h
    · exact .inr (hP.us _ (List.getElem_mem hi') _ hu)
    · exact .inr h
theorem bfs_len {P : Po} (hP : PoV P) {g : List Int} (hg : g.length = P.ss.length) (a : Int) (k : Nat) : (bfsF P g a k).length ≤ P.ts.length + 1 := by
  have h := len_sub (l := (bfsF P g a k).map (·.1)) (m := a :: P.ts.map (·.id)) (bfs_V hg a k).nd (fun x hx => by
    obtain ⟨q, hq, rfl⟩ := List.mem_map.1 hx
    rcases reach_id hP (bfs_reach hg hq) with e | ⟨t, ht, e⟩
    · rw [e]; simp
    · exact List.mem_cons_of_mem _ (e ▸ List.mem_map_of_mem ht))
  simpa using h
/-- all that is found from one -/
def wayF (P : Po) (g : List Int) (a : Int) : Fnd := bfsF P g a (P.ts.length + 1)
def wayTo (W : Fnd) (b : Int) : Option (List (Nat × Int)) := (W.find? (fun q => decide (q.1 = b))).map (·.2)
theorem wayTo_some {W : Fnd} {b : Int} {l : List (Nat × Int)} (h : wayTo W b = some l) : (b, l) ∈ W := by
  unfold wayTo at h
  cases hf : W.find? (fun q => decide (q.1 = b)) with
  | none => rw [hf] at h; cases h
  | some q =>
    rw [hf] at h
    have h1 : q.2 = l := by simpa using h
    have h2 : q.1 = b := by simpa using List.find?_some hf
    have := List.mem_of_find?_eq_some hf
    rw [← h1, ← h2]
    exact this
theorem wayTo_none {W : Fnd} {b : Int} (h : wayTo W b = none) : b ∉ W.map (·.1) := by
  unfold wayTo at h
  intro hm
  obtain ⟨q, hq, rfl⟩ := List.mem_map.1 hm
  have : (W.find? (fun r => decide (r.1 = q.1))).isSome = true := by
    rw [List.find?_isSome]
    exact ⟨q, hq, by simp⟩
  cases hf : W.find? (fun r => decide (r.1 = q.1)) with
  | none => rw [hf] at this; cases this
  | some r => rw [hf] at h; cases h
theorem way_ok {P : Po} {g : List Int} (hg : g.length = P.ss.length) {a b : Int} {l : List (Nat × Int)} (h : wayTo (wayF P g a) b = some l) : WayP P g a l ∧ lstW a l = b ∧ (a :: l.map (·.2)).Nodup := by
  obtain ⟨h1, h2, h3, _⟩ := (bfs_V hg a _).way _ (wayTo_some h)
  exact ⟨h1, h2, h3⟩
theorem way_all {P : Po} (hP : PoV P) {g : List Int} (hg : g.length = P.ss.length) {a b : Int} (h : ReachP P g a b) : ∃ l, wayTo (wayF P g a) b = some l := by
  cases hw : wayTo (wayF P g a) b with
  | some l => exact ⟨l, rfl⟩
  | none => exact absurd (bfs_all hg (bfs_len hP hg a _) h) (wayTo_none hw)
/-- whether a way is a chain to a tenant -/
def okC (g : List Int) (a : Int) (t : Te) : Bool := !(decide (t.id = a)) && decide (cntI g t.id < t.most) && (decide (a = 0) || decide (cntI g t.id + 2 ≤ cntI g a))
def stC (P : Po) (g : List Int) (best : List (Nat × Int)) (q : Int × Te) : List (Nat × Int) := match wayTo (wayF P g q.1) q.2.id with
  | some l => if okC g q.1 q.2 = true ∧ 0 < l.length ∧ (best.length = 0 ∨ l.length < best.length) then l else best
  | none => best
def prC (P : Po) : List (Int × Te) := (0 :: P.ts.map (·.id)).flatMap (fun a => P.ts.map (fun t => (a, t)))
def chnL (P : Po) (g : List Int) : List (Nat × Int) := (prC P).foldl (stC P g) []
theorem prC_mem {P : Po} {a : Int} {t : Te} : (a, t) ∈ prC P ↔ (a = 0 ∨ ∃ s ∈ P.ts, s.id = a) ∧ t ∈ P.ts := by
  unfold prC
  rw [List.mem_flatMap]
  constructor
  · rintro ⟨b, hb, hm⟩
    obtain ⟨q, hq, he⟩ := List.mem_map.1 hm
    simp only [Prod.mk.injEq] at he
    obtain ⟨rfl, rfl⟩ := he
    refine ⟨?_, hq⟩
    rcases List.mem_cons.1 hb with h | h
    · exact .inl h
    · obtain ⟨s, hs, e⟩ := List.mem_map.1 h
      exact .inr ⟨s, hs, e⟩
  · rintro ⟨h, ht⟩
    refine ⟨a, ?_, List.mem_map.2 ⟨t, ht, rfl⟩⟩
    rcases h with h | ⟨s, hs, e⟩
    · rw [h]; simp
    · exact List.mem_cons_of_mem _ (e ▸ List.mem_map_of_mem hs)
/-- what was looked for is none, or a chain -/
theorem chn_is (P : Po) (g : List Int) : chnL P g = [] ∨ ∃ q ∈ prC P, okC g q.1 q.2 = true ∧ wayTo (wayF P g q.1) q.2.id = some (chnL P g) ∧ 0 < (chnL P g).length := by
  have key : ∀ (l : List (Int × Te)) (best : List (Nat × Int)), (∀ q ∈ l, q ∈ prC P) → (best = [] ∨ ∃ q ∈ prC P, okC g q.1 q.2 = true ∧ wayTo (wayF P g q.1) q.2.id = some best ∧ 0 < best.length) →
      (l.foldl (stC P g) best = [] ∨ ∃ q ∈ prC P, okC g q.1 q.2 = true ∧ wayTo (wayF P g q.1) q.2.id = some (l.foldl (stC P g) best) ∧ 0 < (l.foldl (stC P g) best).length) := fun l => by
    induction l with
    | nil => intro best _ h; exact h
    | cons q l ih =>
      intro best hl h
      rw [List.foldl_cons]
      refine ih _ (fun r hr => hl r (by simp [hr])) ?_
      unfold stC
      split
      · rename_i w hw
        split
        · rename_i hc
          exact .inr ⟨q, hl q (by simp), hc.1, hw, hc.2.1⟩
        · exact h
      · exact h
  exact key (prC P) [] (fun q hq => hq) (.inl rfl)
theorem chn_keeps (P : Po) (g : List Int) : ∀ (l : List (Int × Te)) (best : List (Nat × Int)), 0 < best.length → 0 < (l.foldl (stC P g) best).length
  | [], _, h => h
  | q :: l, best, h => by
    rw [List.foldl_cons]
    refine chn_keeps P g l _ ?_
    unfold stC
    split
    · split
      · rename_i hc; exact hc.2.1
      · exact h
    · exact h
theorem chn_none {P : Po} {g : List Int} (h : chnL P g = []) : ∀ q ∈ prC P, okC g q.1 q.2 = true → ∀ l, wayTo (wayF P g q.1) q.2.id = some l → l.length = 0 := by
  intro q hq hok l hl
  refine Classical.byContradiction (fun hne => ?_)
  have key : ∀ (r : List (Int × Te)) (best : List (Nat × Int)), q ∈ r → 0 < (r.foldl (stC P g) best).length := fun r => by
    induction r with
    | nil => intro best h; cases h
    | cons p r ih =>
      intro best hm
      rw [List.foldl_cons]
      rcases List.mem_cons.1 hm with rfl | hm
      · refine chn_keeps P g r _ ?_
        unfold stC
        rw [hl]
        show 0 < (if okC g q.1 q.2 = true ∧ 0 < l.length ∧ (best.length = 0 ∨ l.length < best.length) then l else best).length
        split
        · omega
        · rename_i hc
          have : ¬ (best.length = 0 ∨ l.length < best.length) := fun e => hc ⟨hok, by omega, e⟩
          omega
      · exact ih _ hm
  have := key (prC P) [] hq
  unfold chnL at h
  rw [h] at this
  simp at this
/-- no chain was found: there is none -/
theorem chn_no {P : Po} (hP : PoV P) {g : List Int} (hg : g.length = P.ss.length) (h : chnL P g = []) : NoChn P g := by
  have hl0 : ∀ {a : Int} {t : Te}, (a, t) ∈ prC P → t.id ≠ a → okC g a t = true → ¬ ReachP P g a t.id := fun {a t} hq hne hok hr => by
    obtain ⟨l, hl⟩ := way_all hP hg hr
    have h0 := chn_none h (a, t) hq hok l hl
    have hw := (way_ok hg hl).2.1
    have : l = [] := List.eq_nil_of_length_eq_zero h0
    subst this
    exact hne hw.symm
  refine ⟨fun t ht hr hm => ?_, fun s hs t ht hne hr hm => ?_⟩
  · have := (hP.ti t ht).1
    refine hl0 (prC_mem.2 ⟨.inl rfl, ht⟩) (by omega) ?_ hr
    unfold okC
    rw [decide_eq_false (by omega), decide_eq_true hm]
    rfl
  · refine Int.not_le.1 (fun hle => hl0 (prC_mem.2 ⟨.inr ⟨s, hs, rfl⟩, ht⟩) (fun e => hne e.symm) ?_ hr)
    unfold okC
    rw [decide_eq_false (fun e => hne e.symm), decide_eq_true hm, decide_eq_true hle, Bool.or_true]
    rfl
/-- what is given behind the chain that was found -/
theorem chn_ok {P : Po} (hP : PoV P) {g : List Int} (hS : ShrV P g) (h : chnL P g ≠ []) : ShrV P (appW g (chnL P g)) ∧ potZ P (appW g (chnL P g)) < potZ P g := by
  rcases chn_is P g with h0 | ⟨⟨a, t⟩, hq, hok, hw, _⟩
  · exact absurd h0 h
  · obtain ⟨w1, w2, w3⟩ := way_ok hS.len hw
    obtain ⟨hs, ht⟩ := prC_mem.1 hq
    unfold okC at hok
    rw [Bool.and_eq_true, Bool.and_eq_true, Bool.or_eq_true] at hok
    obtain ⟨⟨h1, h2⟩, h3⟩ := hok
    have h1' : t.id ≠ a := by simpa using h1
    have h2' : cntI g t.id < t.most := by simpa using h2
    have hl : lstW a (chnL P g) = t.id := w2
    refine ⟨way_shr hS w1 w3 (fun q hq he => ?_), pot_fall hP hS w1 w3 (by rw [hl]; exact fun e => h1' e.symm) ht hl.symm h2' ?_⟩
    · have : q = t := by
        have hn := hP.nd
        have key : ∀ l : List Te, (l.map (·.id)).Nodup → ∀ q ∈ l, ∀ t ∈ l, q.id = t.id → q = t := fun l => by
          induction l with
          | nil => intro _ q hq; cases hq
          | cons x l ih =>
            intro hn q hq t ht he
            rw [List.map_cons, List.nodup_cons] at hn
            rcases List.mem_cons.1 hq with e1 | hq1
            · rcases List.mem_cons.1 ht with e2 | ht1
              · rw [e1, e2]
              · rw [e1] at he
                exact absurd (he ▸ List.mem_map_of_mem ht1) hn.1
            · rcases List.mem_cons.1 ht with e2 | ht1
              · rw [e2] at he
                exact absurd (he ▸ List.mem_map_of_mem hq1) hn.1
              · exact ih hn.2 q hq1 t ht1 he
        exact key P.ts hn q hq t ht (he.trans hl)
      rw [this]; exact h2'
    · rcases h3 with h3 | h3
      · exact .inl (by simpa using h3)
      · rcases hs with h0 | ⟨s, hs1, hs2⟩
        · exact .inl h0
        · exact .inr ⟨s, hs1, hs2, by rw [hs2]; simpa using h3⟩
end Go.Proofs.Ytiofdfjcaklmcaa
namespace Go.Proofs.Ytiofdfjcaklmcaa

def setF (P : Po) : Nat → List Int → List Int
  | 0, g => g
  | n + 1, g => if (chnL P g).isEmpty = true then g else setF P n (appW g (chnL P g))
/-- chain by chain, to the end -/
def setL (P : Po) (g : List Int) : List Int := setF P ((potZ P g).toNat + 1) g
theorem emp_iff {l : List (Nat × Int)} : l.isEmpty = true ↔ l = [] := by cases l <;> simp
theorem setF_same {P : Po} (hP : PoV P) : ∀ (n m : Nat) (g : List Int), ShrV P g → potZ P g < n → potZ P g < m → setF P n g = setF P m g
  | 0, _, g, _, h, _ => by have := potZ_nn P g; omega
  | _ + 1, 0, g, _, _, h => by have := potZ_nn P g; omega
  | n + 1, m + 1, g, hS, h1, h2 => by
    show (if _ then _ else _) = (if _ then _ else _)
    by_cases hc : (chnL P g).isEmpty = true
    · rw [if_pos hc, if_pos hc]
    · rw [if_neg hc, if_neg hc]
      obtain ⟨h3, h4⟩ := chn_ok hP hS (fun e => hc (emp_iff.2 e))
      exact setF_same hP n m _ h3 (by omega) (by omega)
theorem setL_end {P : Po} {g : List Int} (h : chnL P g = []) : setL P g = g := by
  show (if _ then _ else _) = _
  rw [if_pos (emp_iff.2 h)]
theorem setL_step {P : Po} (hP : PoV P) {g : List Int} (hS : ShrV P g) (h : chnL P g ≠ []) : setL P g = setL P (appW g (chnL P g)) := by
  obtain ⟨h3, h4⟩ := chn_ok hP hS h
  have h5 := potZ_nn P (appW g (chnL P g))
  show (if _ then _ else _) = _
  rw [if_neg (fun e => h (emp_iff.1 e))]
  exact setF_same hP _ _ _ h3 (by omega) (by omega)
theorem setL_ok {P : Po} (hP : PoV P) : ∀ (n : Nat) (g : List Int), ShrV P g → potZ P g < n → ShrV P (setL P g) ∧ NoChn P (setL P g)
  | 0, g, _, h => by have := potZ_nn P g; omega
  | n + 1, g, hS, h => by
    by_cases hc : chnL P g = []
    · rw [setL_end hc]
      exact ⟨hS, chn_no hP hS.len hc⟩
    · rw [setL_step hP hS hc]
      obtain ⟨h3, h4⟩ := chn_ok hP hS hc
      exact setL_ok hP n _ h3 (by omega)
theorem setL_V {P : Po} (hP : PoV P) {g : List Int} (hS : ShrV P g) : ShrV P (setL P g) ∧ NoChn P (setL P g) := setL_ok hP ((potZ P g).toNat + 1) g hS (by have := potZ_nn P g; omega)
def zerL (P : Po) : List Int := List.replicate P.ss.length 0
theorem cnt_zero (n : Nat) {x : Int} (h : x ≠ 0) : cntI (List.replicate n 0) x = 0 := by
  induction n with
  | zero => rfl
  | succ n ih =>
    rw [List.replicate_succ]
    show (if (0 : Int) = x then 1 else 0) + cntI (List.replicate n 0) x = 0
    rw [if_neg (fun e => h e.symm), ih]; rfl
theorem zer_V {P : Po} (hP : PoV P) : ShrV P (zerL P) :=
  ⟨by simp [zerL], fun i h h' => .inl (by simp [zerL]), fun t ht => by
    have h1 := hP.ti t ht
    have h2 := cnt_zero P.ss.length (x := t.id) (by omega)
    unfold zerL
    omega⟩
/-- the fairest sharing that is returned -/
def faiG (P : Po) : List Int := setL P (zerL P)
theorem faiG_V {P : Po} (hP : PoV P) : ShrV P (faiG P) ∧ NoChn P (faiG P) := setL_V hP (zer_V hP)
theorem fai_lad {P : Po} (hP : PoV P) {g : List Int} (hS : ShrV P g) (hN : NoChn P g) : ladL P g = ladL P (faiG P) := nochn_same hP hS (faiG_V hP).1 hN (faiG_V hP).2
/-- a sharing with the best ladder has no chain -/
theorem fai_best {P : Po} (hP : PoV P) {g : List Int} (hS : ShrV P g) : 0 ≤ cmpL (ladL P (faiG P)) (ladL P g) := nochn_best hP (faiG_V hP).1 hS (faiG_V hP).2
end Go.Proofs.Ytiofdfjcaklmcaa
namespace Go.Proofs.Ytiofdfjcaklmcaa

theorem way_cut {P : Po} (hP : PoV P) {g : List Int} {a : Int} {l : List (Nat × Int)} (h : WayP P g a l) (hn : (a :: l.map (·.2)).Nodup) (hl : a ≠ lstW a l) {t : Te} (ht : t ∈ P.ts) (hti : t.id = lstW a l) (hs : a = 0 ∨ ∃ s ∈ P.ts, s.id = a) (b : Int) :
    cutS b (cntT P (appW g l)) + (if a = 0 then 0 else min (cntI g a) b - min (cntI g a - 1) b) = cutS b (cntT P g) + (min (cntI g t.id + 1) b - min (cntI g t.id) b) := by
  have hc := way_cnt h hn
  unfold cntT
  rw [cutS_map, cutS_map]
  have e1 := sumF_pick (f := fun q => min (cntI g q.id + 1) b - min (cntI g q.id) b) (x := lstW a l) hP.nd t ht hti
  have e2 : sumF (fun q : Te => if q.id = a then min (cntI g q.id) b - min (cntI g q.id - 1) b else 0) P.ts = if a = 0 then 0 else min (cntI g a) b - min (cntI g a - 1) b := by
    rcases hs with h0 | ⟨s, hs1, hs2⟩
    · rw [if_pos h0, sumF_congr (g := fun _ => 0) (fun q hq => by rw [if_neg]; have := (hP.ti q hq).1; omega)]
      generalize P.ts = ts
      induction ts with
      | nil => rfl
      | cons _ _ ih => rw [sumF_cons, ih]; rfl
    · have := (hP.ti s hs1).1
      rw [if_neg (by omega), ← hs2]
      exact sumF_pick (f := fun q => min (cntI g q.id) b - min (cntI g q.id - 1) b) (x := s.id) hP.nd s hs1 rfl
  have e3 : sumF (fun q : Te => min (cntI (appW g l) q.id) b + (if q.id = a then min (cntI g q.id) b - min (cntI g q.id - 1) b else 0)) P.ts = sumF (fun q => min (cntI g q.id) b + (if q.id = lstW a l then min (cntI g q.id + 1) b - min (cntI g q.id) b else 0)) P.ts := sumF_congr (fun q _ => by
    rw [hc q.id]
    generalize cntI g q.id = n
    by_cases hq1 : q.id = lstW a l
    · have hq2 : ¬ q.id = a := fun e => hl (e.symm.trans hq1)
      rw [if_pos hq1, if_neg hq2, if_pos hq1, if_neg hq2, show n + 1 - 0 = n + 1 by omega]; omega
    · by_cases hq2 : q.id = a
      · rw [if_neg hq1, if_pos hq2, if_neg hq1, if_pos hq2, show n + 0 - 1 = n - 1 by omega]; omega
      · rw [if_neg hq1, if_neg hq2, if_neg hq1, if_neg hq2, show n + 0 - 0 = n by omega])
  rw [sumF_add, sumF_add, e2, e1] at e3
  exact e3
/-- behind a chain the ladder is better -/
theorem way_better {P : Po} (hP : PoV P) {g : List Int} {a : Int} {l : List (Nat × Int)} (h : WayP P g a l) (hn : (a :: l.map (·.2)).Nodup) (hl : a ≠ lstW a l) {t : Te} (ht : t ∈ P.ts) (hti : t.id = lstW a l)
    (hs : a = 0 ∨ ∃ s ∈ P.ts, s.id = a ∧ cntI g t.id + 2 ≤ cntI g s.id) : 0 < cmpL (ladL P (appW g l)) (ladL P g) := by
  have hs' : a = 0 ∨ ∃ s ∈ P.ts, s.id = a := by
    rcases hs with h0 | ⟨s, h1, h2, _⟩
    · exact .inl h0
    · exact .inr ⟨s, h1, h2⟩
  have hge : a = 0 ∨ cntI g t.id + 2 ≤ cntI g a := by
    rcases hs with h0 | ⟨s, _, h2, h3⟩
    · exact .inl h0
    · exact .inr (by rw [← h2]; exact h3)
  have hcut := way_cut hP h hn hl ht hti hs'
  have h1 : 0 ≤ cmpL (ladL P (appW g l)) (ladL P g) := lex_of_cut (by rw [ladL_len, ladL_len]) (ladL_srt _ _) (ladL_srt _ _) (fun b => by
    rw [cutS_perm (ladL_perm P g), cutS_perm (ladL_perm P (appW g l))]
    have := hcut b
    rcases hge with h0 | h0
    · rw [if_pos h0] at this; omega
    · by_cases ha : a = 0
      · rw [if_pos ha] at this; omega
      · rw [if_neg ha] at this; omega)
  refine Int.not_le.1 (fun hle => ?_)
  have h2 : cmpL (ladL P (appW g l)) (ladL P g) = 0 := by omega
  have hz : ∀ {a b : List Int}, cmpL a b = 0 → a.length = b.length → a = b := fun {a} => by
    induction a with
    | nil => intro b _ hl; cases b with
      | nil => rfl
      | cons => simp at hl
    | cons x a ih =>
      intro b h hl
      cases b with
      | nil => simp at hl
      | cons y b =>
        rw [cmpL] at h
        by_cases h3 : x < y
        · rw [if_pos h3] at h; omega
        · rw [if_neg h3] at h
          by_cases h4 : y < x
          · rw [if_pos h4] at h; omega
          · rw [if_neg h4] at h
            rw [show x = y by omega, ih h (by simpa using hl)]
  have he := hz h2 (by rw [ladL_len, ladL_len])
  have hb := hcut (cntI g t.id + 1)
  rw [← cutS_perm (ladL_perm P g), ← cutS_perm (ladL_perm P (appW g l)), he] at hb
  rcases hge with h0 | h0
  · rw [if_pos h0] at hb; omega
  · by_cases ha : a = 0
    · rw [if_pos ha] at hb; omega
    · rw [if_neg ha] at hb; omega
theorem chn_better {P : Po} (hP : PoV P) {g : List Int} (hS : ShrV P g) (h : chnL P g ≠ []) : 0 < cmpL (ladL P (appW g (chnL P g))) (ladL P g) := by
  rcases chn_is P g with h0 | ⟨⟨a, t⟩, hq, hok, hw, _⟩
  · exact absurd h0 h
  · obtain ⟨w1, w2, w3⟩ := way_ok hS.len hw
    obtain ⟨hs, ht⟩ := prC_mem.1 hq
    unfold okC at hok
    rw [Bool.and_eq_true, Bool.and_eq_true, Bool.or_eq_true] at hok
    obtain ⟨⟨h1, _⟩, h3⟩ := hok
    have h1' : t.id ≠ a := by simpa using h1
    have hl : lstW a (chnL P g) = t.id := w2
    refine way_better hP w1 w3 (by rw [hl]; exact fun e => h1' e.symm) ht hl.symm ?_
    rcases h3 with h3 | h3
    · exact .inl (by simpa using h3)
    · rcases hs with h0 | ⟨s, hs1, hs2⟩
      · exact .inl h0
      · exact .inr ⟨s, hs1, hs2, by rw [hs2]; simpa using h3⟩
/-- a sharing whose ladder is the best one has no chain -/
theorem best_no {P : Po} (hP : PoV P) {g : List Int} (hS : ShrV P g) (h : ladL P g = ladL P (faiG P)) : NoChn P g := by
  refine chn_no hP hS.len (Classical.byContradiction (fun hc => ?_))
  have h1 := chn_better hP hS hc
  have h2 := fai_best hP (chn_ok hP hS hc).1
  rw [h] at h1
  have hanti : ∀ (a b : List Int), 0 < cmpL a b → cmpL b a < 0 := fun a => by
    induction a with
    | nil => intro b h; cases b with
      | nil => exact absurd h (by decide)
      | cons => exact absurd h (by simp [cmpL])
    | cons x a ih =>
      intro b h
      cases b with
      | nil => simp [cmpL]
      | cons y b =>
        rw [cmpL] at h ⊢
        by_cases h3 : x < y
        · rw [if_pos h3] at h; omega
        · rw [if_neg h3] at h
          by_cases h4 : y < x
          · rw [if_pos h4]; omega
          · rw [if_neg h4] at h
            rw [if_neg h4, if_neg h3]
            exact ih b h
  have := hanti _ _ h1
  omega
end Go.Proofs.Ytiofdfjcaklmcaa
namespace Go.Proofs.Ytiofdfjcaklmcaa

/-- the label of one: the least count, of those with room, that was found -/
def lblS (P : Po) (g : List Int) (a : Int) (m : Int) (t : Te) : Int := min m (if (wayTo (wayF P g a) t.id).isSome = true ∧ cntI g t.id < t.most then cntI g t.id else 41)
def lblX (P : Po) (g : List Int) (a : Int) : Int := P.ts.foldl (lblS P g a) 41
theorem reach_way {P : Po} (hP : PoV P) {g : List Int} (hg : g.length = P.ss.length) {a b : Int} : (wayTo (wayF P g a) b).isSome = true ↔ ReachP P g a b := by
  constructor
  · intro h
    obtain ⟨l, hl⟩ := Option.isSome_iff_exists.1 h
    have := bfs_reach hg (wayTo_some hl)
    exact this
  · intro h
    obtain ⟨l, hl⟩ := way_all hP hg h
    rw [hl]; rfl
theorem lbl_fold (P : Po) (g : List Int) (a : Int) : ∀ (l : List Te) (m : Int), l.foldl (lblS P g a) m = min m (l.foldl (lblS P g a) 41) ∨ 41 < m
  | [], m => by show m = min m 41 ∨ _; omega
  | t :: l, m => by
    rw [List.foldl_cons, List.foldl_cons]
    have h1 := lbl_fold P g a l (lblS P g a m t)
    have h2 := lbl_fold P g a l (lblS P g a 41 t)
    by_cases h : 41 < m
    · exact .inr h
    · left
      unfold lblS at h1 h2 ⊢
      generalize (if (wayTo (wayF P g a) t.id).isSome = true ∧ cntI g t.id < t.most then cntI g t.id else 41) = v at h1 h2 ⊢
      rcases h1 with h1 | h1
      · rcases h2 with h2 | h2
        · omega
        · omega
      · omega
/-- it is that by what can be reached -/
theorem lbl_is {P : Po} (hP : PoV P) {g : List Int} (hS : ShrV P g) (a : Int) : lblX P g a = labC P g a := by
  have hm : ∀ t ∈ P.ts, cntI g t.id ≤ 40 := fun t ht => by
    have := hS.mo t ht
    have := (hP.ti t ht).2.2
    omega
  unfold lblX labC
  generalize hts : P.ts = ts
  have hm' : ∀ t ∈ ts, cntI g t.id ≤ 40 := by rw [← hts]; exact hm
  clear hm hts
  induction ts with
  | nil => rfl
  | cons t ts ih =>
    have i := ih (fun q hq => hm' q (by simp [hq]))
    have ht := hm' t (by simp)
    have hf := lbl_fold P g a ts (lblS P g a 41 t)
    rw [List.foldl_cons, List.foldr_cons, ← i]
    by_cases h : cntI g t.id < t.most ∧ ReachP P g a t.id
    · rw [if_pos h]
      have e : lblS P g a 41 t = cntI g t.id := by
        unfold lblS
        rw [if_pos ⟨(reach_way hP hS.len).2 h.2, h.1⟩]; omega
      rw [e] at hf ⊢
      rcases hf with hf | hf
      · exact hf
      · omega
    · rw [if_neg h]
      have e : lblS P g a 41 t = 41 := by
        unfold lblS
        rw [if_neg (fun q => h ⟨q.2, (reach_way hP hS.len).1 q.1⟩)]; omega
      rw [e]
/-- the labels that are returned with the fairest sharing prove it -/
theorem lbl_prove {P : Po} (hP : PoV P) {g : List Int} (hS : ShrV P g) (hN : NoChn P g) : LabV P g (lblX P g) := by
  have h := nochn_lab hP hS hN
  have e : lblX P g = labC P g := funext (lbl_is hP hS)
  rw [e]
  exact h
end Go.Proofs.Ytiofdfjcaklmcaa
namespace Go.Proofs.Ytiofdfjcaklmcaa

theorem sumF_eq_of {α : Type} {f g : α → Int} : ∀ {l : List α}, (∀ x ∈ l, f x ≤ g x) → sumF g l ≤ sumF f l → ∀ x ∈ l, f x = g x
  | [], _, _, x, hx => by cases hx
  | y :: l, h, he, x, hx => by
    rw [sumF_cons, sumF_cons] at he
    have h1 := h y (by simp)
    have h2 : sumF f l ≤ sumF g l := sumF_le (fun z hz => h z (by simp [hz]))
    rcases List.mem_cons.1 hx with rfl | hx
    · omega
    · exact sumF_eq_of (fun z hz => h z (by simp [hz])) (by omega) x hx
/-- what those with a label below c have together -/
def lowS (P : Po) (lab : Int → Int) (c : Int) (g : List Int) : Int := sumF (fun t => if decide (lab t.id < c) = true then cntI g t.id else 0) P.ts
theorem low_le {P : Po} (hP : PoV P) {A B : List Int} (hA : ShrV P A) (hB : ShrV P B) {lab : Int → Int} (hL : LabV P A lab) {c : Int} (hc : c ≤ 40) : lowS P lab c B ≤ lowS P lab c A := by
  unfold lowS
  rw [sum_cnt (fun id => decide (lab id < c)) P.ts B hP.nd, sum_cnt (fun id => decide (lab id < c)) P.ts A hP.nd]
  refine sumF_index (by rw [hA.len, hB.len]) (fun i hi hi' => ?_)
  by_cases hb : (P.ts.any fun t => decide (lab t.id < c) && decide (t.id = B[i])) = true
  · rw [if_pos hb, if_pos]
    · exact Int.le_refl _
    rw [List.any_eq_true] at hb
    obtain ⟨t, ht, hq⟩ := hb
    rw [Bool.and_eq_true, decide_eq_true_eq, decide_eq_true_eq] at hq
    have his : i < P.ss.length := by rw [← hA.len]; exact hi'
    have hid := (hP.ti t ht).1
    have hu : B[i] ∈ P.ss[i].us := by
      rcases hB.us i hi his with h | h
      · omega
      · exact h
    have hlow := hL.low i hi' his _ hu
    rw [← hq.2] at hlow
    have hA0 : A[i] ≠ 0 := fun e => by rw [if_pos e] at hlow; omega
    rw [if_neg hA0] at hlow
    have hua : A[i] ∈ P.ss[i].us := by
      rcases hA.us i hi' his with h | h
      · exact absurd h hA0
      · exact h
    obtain ⟨q, hq1, hq2⟩ := hP.us _ (List.getElem_mem his) _ hua
    rw [List.any_eq_true]
    exact ⟨q, hq1, by rw [Bool.and_eq_true, decide_eq_true_eq, decide_eq_true_eq, hq2]; exact ⟨by omega, rfl⟩⟩
  · rw [if_neg hb]
    split <;> omega
/-- two that are equal, cut at any bound: alike below and above each label -/
theorem cut_alike {P : Po} (hP : PoV P) {A B : List Int} (hA : ShrV P A) (hB : ShrV P B) {lab : Int → Int} (hL : LabV P A lab) {c : Int} (hc : c ≤ 40) (he : cutS c (cntT P A) ≤ cutS c (cntT P B)) :
    lowS P lab c B = lowS P lab c A ∧ (∀ t ∈ P.ts, lab t.id < c → cntI B t.id ≤ c) ∧ ∀ t ∈ P.ts, ¬ lab t.id < c → min (cntI B t.id) c = min (cntI A t.id) c := by
  unfold cntT at he
  rw [cutS_map, cutS_map] at he
  have hl := low_le hP hA hB hL hc
  have hA2 : sumF (fun t : Te => (if decide (lab t.id < c) = true then cntI A t.id else 0) + (if lab t.id < c then 0 else min (cntI A t.id) c)) P.ts = sumF (fun t => min (cntI A t.id) c) P.ts := sumF_congr (fun t ht => by
    have hu := hL.up t ht
    by_cases hl : lab t.id < c
    · simp only [hl, decide_true, if_true]; omega
    · simp only [hl, decide_false, if_false, Bool.false_eq_true]; omega)
  have hB1 : ∀ t ∈ P.ts, min (cntI B t.id) c ≤ (if decide (lab t.id < c) = true then cntI B t.id else 0) + (if lab t.id < c then 0 else min (cntI B t.id) c) := fun t _ => by
    by_cases hl : lab t.id < c
    · simp only [hl, decide_true, if_true]; omega
    · simp only [hl, decide_false, if_false, Bool.false_eq_true]; omega
  have hB2 : ∀ t ∈ P.ts, (if lab t.id < c then 0 else min (cntI B t.id) c) ≤ (if lab t.id < c then 0 else min (cntI A t.id) c) := fun t ht => by
    have hb := hB.mo t ht
    have ha := hA.mo t ht
    have hr := hL.room t ht
    by_cases hl : lab t.id < c
    · simp only [hl, if_true]; omega
    · simp only [hl, if_false]; omega
  have s1 := sumF_le hB1
  have s2 := sumF_le hB2
  rw [sumF_add] at s1 hA2
  have hlB : sumF (fun t : Te => if decide (lab t.id < c) = true then cntI B t.id else 0) P.ts = lowS P lab c B := rfl
  have hlA : sumF (fun t : Te => if decide (lab t.id < c) = true then cntI A t.id else 0) P.ts = lowS P lab c A := rfl
  rw [hlB] at s1
  rw [hlA] at hA2
  refine ⟨by omega, fun t ht htl => ?_, fun t ht htl => ?_⟩
  · have h := sumF_eq_of hB1 (by rw [sumF_add, hlB]; omega) t ht
    simp only [htl, decide_true, if_true] at h
    omega
  · have h := sumF_eq_of hB2 (by omega) t ht
    simpa only [htl, if_false] using h
/-- counts in two fairest sharings differ by at most 1 -/
theorem spread_one {P : Po} (hP : PoV P) {A B : List Int} (hA : ShrV P A) (hB : ShrV P B) (hNA : NoChn P A) (hNB : NoChn P B) {t : Te} (ht : t ∈ P.ts) : cntI B t.id ≤ cntI A t.id + 1 := by
  refine Int.not_lt.1 (fun hlt => ?_)
  have hL := nochn_lab hP hA hNA
  have hbm := hB.mo t ht
  have h40 := (hP.ti t ht).2.2
  have hr := hL.room t ht (by omega)
  have he : cutS (cntI A t.id + 1) (cntT P A) ≤ cutS (cntI A t.id + 1) (cntT P B) := by
    rw [← cutS_perm (ladL_perm P A), ← cutS_perm (ladL_perm P B), nochn_same hP hA hB hNA hNB]
    exact Int.le_refl _
  have := (cut_alike hP hA hB hL (by omega) he).2.1 t ht (by omega)
  omega
end Go.Proofs.Ytiofdfjcaklmcaa
namespace Go.Proofs.Ytiofdfjcaklmcaa

open Classical in
theorem spread_up {P : Po} (hP : PoV P) {A B : List Int} (hA : ShrV P A) (hB : ShrV P B) (hNA : NoChn P A) (hNB : NoChn P B) {t : Te} (ht : t ∈ P.ts) (h1 : cntI B t.id = cntI A t.id + 1) :
    ∃ s ∈ P.ts, s.id ≠ t.id ∧ ReachP P A s.id t.id ∧ cntI A s.id = cntI A t.id + 1 := by
  refine Classical.byContradiction (fun hno => ?_)
  have hL := nochn_lab hP hA hNA
  generalize labC P A = lab at hL
  have hbm := hB.mo t ht
  have h40 := (hP.ti t ht).2.2
  have hroom : cntI A t.id < t.most := by omega
  obtain ⟨m, hm⟩ : ∃ m, cntI A t.id = m := ⟨_, rfl⟩
  have he : cutS m (cntT P A) ≤ cutS m (cntT P B) := by
    rw [← cutS_perm (ladL_perm P A), ← cutS_perm (ladL_perm P B), nochn_same hP hA hB hNA hNB]
    exact Int.le_refl _
  obtain ⟨c1, c2, c3⟩ := cut_alike hP hA hB hL (c := m) (by omega) he
  have htl : ¬ lab t.id < m := fun h => by have := c2 t ht h; omega
  have hR : ∀ s ∈ P.ts, ReachP P A s.id t.id → cntI A s.id ≤ m := fun s hs hr => by
    by_cases e : s.id = t.id
    · rw [e]; omega
    · have := hNA.ten s hs t ht e hr hroom
      have : cntI A s.id ≠ cntI A t.id + 1 := fun h => hno ⟨s, hs, e, hr, h⟩
      omega
  -- those with a low label, and those who reach t
  have hup : sumF (fun q : Te => if decide (lab q.id < m ∨ ReachP P A q.id t.id) = true then cntI B q.id else 0) P.ts ≤ sumF (fun q => if decide (lab q.id < m ∨ ReachP P A q.id t.id) = true then cntI A q.id else 0) P.ts := by
    rw [sum_cnt (fun id => decide (lab id < m ∨ ReachP P A id t.id)) P.ts B hP.nd, sum_cnt (fun id => decide (lab id < m ∨ ReachP P A id t.id)) P.ts A hP.nd]
    refine sumF_index (by rw [hA.len, hB.len]) (fun i hi hi' => ?_)
    by_cases hb : (P.ts.any fun q => decide (lab q.id < m ∨ ReachP P A q.id t.id) && decide (q.id = B[i])) = true
    · rw [if_pos hb, if_pos]
      · exact Int.le_refl _
      rw [List.any_eq_true] at hb
      obtain ⟨q, hq, hq2⟩ := hb
      rw [Bool.and_eq_true, decide_eq_true_eq, decide_eq_true_eq] at hq2
      have his : i < P.ss.length := by rw [← hA.len]; exact hi'
      have hid := (hP.ti q hq).1
      have hu : B[i] ∈ P.ss[i].us := by
        rcases hB.us i hi his with h | h
        · omega
        · exact h
      have hlow := hL.low i hi' his _ hu
      rw [← hq2.2] at hlow
      have hed : EdgeP P A A[i] q.id := ⟨i, hi', his, rfl, by rw [hq2.2]; exact hu⟩
      have hA0 : A[i] ≠ 0 := fun e => by
        rcases hq2.1 with h | h
        · rw [if_pos e] at hlow; omega
        · exact hNA.zero t ht (.step (e ▸ hed) h) hroom
      rw [if_neg hA0] at hlow
      have hua : A[i] ∈ P.ss[i].us := by
        rcases hA.us i hi' his with h | h
        · exact absurd h hA0
        · exact h
      obtain ⟨r, hr1, hr2⟩ := hP.us _ (List.getElem_mem his) _ hua
      rw [List.any_eq_true]
      refine ⟨r, hr1, ?_⟩
      rw [Bool.and_eq_true, decide_eq_true_eq, decide_eq_true_eq, hr2]
      refine ⟨?_, rfl⟩
      rcases hq2.1 with h | h
      · exact .inl (by omega)
      · exact .inr (.step hed h)
    · rw [if_neg hb]
      split <;> omega
  have hlo : sumF (fun q : Te => (if decide (lab q.id < m) = true then cntI A q.id else 0) + ((if ¬ lab q.id < m ∧ ReachP P A q.id t.id then cntI A q.id else 0) + (if q.id = t.id then 1 else 0))) P.ts ≤
      sumF (fun q => (if decide (lab q.id < m) = true then cntI A q.id else 0) + (if ¬ lab q.id < m ∧ ReachP P A q.id t.id then cntI B q.id else 0)) P.ts := sumF_le (fun q hq => by
    by_cases hl : lab q.id < m
    · have hqt : ¬ q.id = t.id := fun e => htl (by rw [← e]; exact hl)
      simp only [hl, hqt, decide_true, if_true, not_true, false_and, if_false]; omega
    · by_cases hr : ReachP P A q.id t.id
      · have h3 := c3 q hq hl
        have h4 := hR q hq hr
        by_cases hqt : q.id = t.id
        · have e1 : cntI B q.id = cntI A q.id + 1 := by rw [hqt]; exact h1
          have e2 : (if q.id = t.id then (1 : Int) else 0) = 1 := if_pos hqt
          rw [e2]
          simp only [hl, hr, decide_false, not_false_eq_true, and_self, if_true, if_false, Bool.false_eq_true]
          omega
        · simp only [hl, hr, hqt, decide_false, not_false_eq_true, and_self, if_true, if_false, Bool.false_eq_true]; omega
      · have hqt : ¬ q.id = t.id := fun e => hr (e ▸ .refl _)
        simp only [hl, hr, hqt, decide_false, and_false, if_false, Bool.false_eq_true]; omega)
  rw [sumF_add, sumF_add, sumF_add] at hlo
  have hone := sumF_pick (f := fun _ => 1) (x := t.id) hP.nd t ht rfl
  have hspl : ∀ g : List Int, sumF (fun q : Te => if decide (lab q.id < m ∨ ReachP P A q.id t.id) = true then cntI g q.id else 0) P.ts = lowS P lab m g + sumF (fun q => if ¬ lab q.id < m ∧ ReachP P A q.id t.id then cntI g q.id else 0) P.ts := fun g => by
    unfold lowS
    rw [← sumF_add]
    refine sumF_congr (fun q _ => ?_)
    by_cases hl : lab q.id < m
    · simp [hl]
    · by_cases hr : ReachP P A q.id t.id
      · simp [hl, hr]
      · simp [hl, hr]
  rw [hspl A, hspl B] at hup
  omega
/-- who has one slot less in another fairest sharing reaches one with room who has just one less -/
theorem spread_down {P : Po} (hP : PoV P) {A B : List Int} (hA : ShrV P A) (hB : ShrV P B) (hNA : NoChn P A) (hNB : NoChn P B) {t : Te} (ht : t ∈ P.ts) (h1 : cntI B t.id + 1 = cntI A t.id) :
    ∃ q ∈ P.ts, q.id ≠ t.id ∧ ReachP P A t.id q.id ∧ cntI A q.id < q.most ∧ cntI A q.id + 1 = cntI A t.id := by
  refine Classical.byContradiction (fun hno => ?_)
  have hL := nochn_lab hP hA hNA
  have ham := hA.mo t ht
  have h40 := (hP.ti t ht).2.2
  obtain ⟨m, hm⟩ : ∃ m, cntI A t.id = m := ⟨_, rfl⟩
  have he : cutS m (cntT P A) ≤ cutS m (cntT P B) := by
    rw [← cutS_perm (ladL_perm P A), ← cutS_perm (ladL_perm P B), nochn_same hP hA hB hNA hNB]
    exact Int.le_refl _
  have hlab : ¬ labC P A t.id < m := by
    rcases labC_is P A t.id with h | ⟨q, hq, hr, hw, h⟩
    · omega
    · by_cases e : q.id = t.id
      · rw [e] at h; omega
      · have := hNA.ten t ht q hq (fun h => e h.symm) hw hr
        have : cntI A q.id + 1 ≠ cntI A t.id := fun h => hno ⟨q, hq, e, hw, hr, h⟩
        omega
  have := (cut_alike hP hA hB hL (c := m) (by omega) he).2.2 t ht hlab
  omega
/-- a way between two whose counts differ by 1 leaves the ladder as it is: so it leads to a fairest sharing -/
theorem way_same {P : Po} (hP : PoV P) {g : List Int} {a : Int} {l : List (Nat × Int)} (h : WayP P g a l) (hn : (a :: l.map (·.2)).Nodup) (hl : a ≠ lstW a l) {s t : Te} (hs : s ∈ P.ts) (hsi : s.id = a) (ht : t ∈ P.ts) (hti : t.id = lstW a l) (hd : cntI g s.id = cntI g t.id + 1) : ladL P (appW g l) = ladL P g := by
  have hc := fun b => way_cut hP h hn hl ht hti (.inr ⟨s, hs, hsi⟩) b
  have h0 : ¬ a = 0 := by have := (hP.ti s hs).1; omega
  rw [hsi] at hd
  have he : ∀ b, cutS b (ladL P (appW g l)) = cutS b (ladL P g) := fun b => by
    rw [cutS_perm (ladL_perm P g), cutS_perm (ladL_perm P (appW g l))]
    have := hc b
    rw [if_neg h0] at this
    rw [show cntI g a - 1 = cntI g t.id by omega, hd] at this
    omega
  exact cmpL_anti (by rw [ladL_len, ladL_len]) (lex_of_cut (by rw [ladL_len, ladL_len]) (ladL_srt _ _) (ladL_srt _ _) (fun b => Int.le_of_eq (he b).symm)) (lex_of_cut (by rw [ladL_len, ladL_len]) (ladL_srt _ _) (ladL_srt _ _) (fun b => Int.le_of_eq (he b)))
end Go.Proofs.Ytiofdfjcaklmcaa
