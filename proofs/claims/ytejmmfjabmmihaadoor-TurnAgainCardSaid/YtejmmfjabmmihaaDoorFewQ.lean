/- The plain law of Fewest, second part: what it returns; its own period. -/
import Derived.Test.YtejmmfjabmmihaaDoorFewP
namespace Go.Proofs.YtejmmfjabmmihaaDoor
open Go.RowKit Go.Shelf

/-- the least period as a natural number -/
def perI (S : Mn) : Nat := (perX S).toNat
theorem perI_least {S : Mn} (h : whlE S = 0) : perX S = perI S ∧ Least (whlF S) (perI S) ∧ perI S ≤ 40320 ∧ (perI S : Int) ≤ allL S.ts ∧ (allL S.ts).toNat % perI S = 0 := by
  obtain ⟨p, h1, h2, h3, h4, h5⟩ := perX_least h
  have e : perI S = p := by unfold perI; rw [h1]; rfl
  rw [e]; exact ⟨h1, h2, h3, h4, h5⟩
def fewT (S : Mn) : List Tn := fewL (whlF S) (perI S)
def fewX (S : Mn) : Mn := if whlE S = 0 then (if 24 < (fewT S).length then ⟨[], []⟩ else ⟨fewT S, []⟩) else ⟨[], []⟩
def fewE (S : Mn) : Int := if whlE S = 0 then (if 24 < (fewT S).length then 2 else 0) else whlE S
theorem whl_has {S : Mn} (h : whlE S = 0) : ∃ n : Nat, whlF S n = true := by
  obtain ⟨hok, _, h0, _, _⟩ := whl_ok h
  obtain ⟨t, ht⟩ : ∃ t, t ∈ S.ts := ⟨S.ts[0], List.getElem_mem _⟩
  have hv := tnB_t (hok.t t ht)
  refine ⟨t.f.toNat, ?_⟩
  unfold whlF
  rw [List.any_eq_true]
  refine ⟨t, ht, ?_⟩
  unfold tnIn
  rw [show ((t.f.toNat : Nat) : Int) - t.f = 0 by omega, decide_eq_true_iff, Int.zero_emod]
  omega
/-- with the period 1 all is in it -/
theorem few_one {S : Mn} (h : whlE S = 0) (hp : perI S = 1) : fewT S = [⟨1, 0, 1⟩] ∧ ∀ n, whlF S n = true := by
  obtain ⟨_, hl, _⟩ := perI_least h
  obtain ⟨n, hn⟩ := whl_has h
  rw [hp] at hl
  have h0 : whlF S 0 = true := by rw [← hl.again.mod n, Nat.mod_one] at hn; exact hn
  refine ⟨?_, fun n => by rw [← hl.again.mod n, Nat.mod_one]; exact h0⟩
  unfold fewT fewL
  rw [hp, fewU_t (by simp [startB, h0])]
  have hr := runP_spec (whlF S) (p := 1) (by omega) 0
  rw [show runP (whlF S) 1 0 = 1 by omega]
  rfl
theorem fewT_ok {S : Mn} (h : whlE S = 0) : ∀ t ∈ fewT S, tnB t.p t.f t.l = true ∧ t.p = perI S := by
  obtain ⟨_, hl, hle, _⟩ := perI_least h
  intro t ht
  obtain ⟨i, hi, _, rfl⟩ := fewL_mem.1 ht
  obtain ⟨r1, r2, _⟩ := runP_spec (whlF S) hl.pos i
  refine ⟨?_, rfl⟩
  have := hl.pos
  simp only [tnB, Bool.and_eq_true, inB_iff]
  omega
theorem fewT_ne {S : Mn} (h : whlE S = 0) : fewT S ≠ [] := by
  obtain ⟨_, hl, _⟩ := perI_least h
  obtain ⟨n, hn⟩ := whl_has h
  rw [← few_row hl n] at hn
  intro e
  change (fewT S).any _ = true at hn
  rw [e] at hn; cases hn
theorem lcmI_same {p : Int} (hp : 1 ≤ p) : lcmI p p = p ∧ lcmI 1 p = p := by
  obtain ⟨a, rfl⟩ : ∃ a : Nat, p = a := ⟨p.toNat, by omega⟩
  constructor
  · unfold lcmI
    rw [gcdI_nat, Nat.gcd_self, Int.ediv_self (by omega), Int.one_mul]
  · unfold lcmI
    rw [show (1 : Int) = ((1 : Nat) : Int) by rfl, gcdI_nat, Nat.gcd_one_left]
    simp
theorem allL_same {p : Int} (hp : 1 ≤ p) : ∀ (l : List Tn), (∀ t ∈ l, t.p = p) → l.foldl (fun a t => lcmI a t.p) p = p := by
  intro l
  induction l with
  | nil => intro _; rfl
  | cons t l ih =>
    intro h
    rw [List.foldl_cons, h t (by simp), (lcmI_same hp).1]
    exact ih fun t ht => h t (by simp [ht])
theorem allL_few {p : Int} (hp : 1 ≤ p) {l : List Tn} (hne : l ≠ []) (h : ∀ t ∈ l, t.p = p) : allL l = p := by
  cases l with
  | nil => exact absurd rfl hne
  | cons t l =>
    unfold allL
    rw [List.foldl_cons, h t (by simp), (lcmI_same hp).2]
    exact allL_same hp l fun t ht => h t (by simp [ht])
/-- the set of the fewest turns -/
theorem few_set {S : Mn} (h : whlE S = 0) (hl : (fewT S).length ≤ 24) : whlE ⟨fewT S, []⟩ = 0 ∧ (∀ n, whlF ⟨fewT S, []⟩ n = whlF S n) ∧ allL (fewT S) = perI S ∧ perX ⟨fewT S, []⟩ = perI S ∧ chkE ⟨fewT S, []⟩ = 0 := by
  obtain ⟨_, hL, hle, _⟩ := perI_least h
  have hok := fewT_ok h
  have hne := fewT_ne h
  have hall : allL (fewT S) = perI S := allL_few (by have := hL.pos; omega) hne fun t ht => (hok t ht).2
  have hc : chkE ⟨fewT S, []⟩ = 0 := by
    refine (chkE_ok (S := ⟨fewT S, []⟩) hl (by simp) ?_).symm
    rw [Bool.or_eq_false_iff]
    refine ⟨?_, rfl⟩
    unfold badT; rw [List.any_eq_false]
    intro t ht; rw [(hok t ht).1]; simp
  have hw : whlE ⟨fewT S, []⟩ = 0 := by
    unfold whlE
    have h0 : (fewT S).length ≠ 0 := fun e => hne (List.eq_nil_of_length_eq_zero e)
    rw [if_neg (by omega), if_neg (by simp; exact hne)]
    show (if 40320 < allL (fewT S) then _ else _) = _
    rw [hall, if_neg (by omega)]
  have hF : ∀ n, whlF ⟨fewT S, []⟩ n = whlF S n := fun n => few_row hL n
  refine ⟨hw, hF, hall, ?_, hc⟩
  rw [whlF_perX hw]
  show perV _ (allL (fewT S)).toNat = _
  rw [hall]
  exact perV_of_least hL hF
end Go.Proofs.YtejmmfjabmmihaaDoor
