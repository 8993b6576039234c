/- Plain words for costs: sums over reaches, whatever the order; what some payers would pay alone. No program in sight. -/
import Derived.Test.YthopgonbndoidaaVP
namespace Go.Proofs.Ythopgonbndoidaa
open Go.RowKit Go.Shelf

/-- a sum over the numbers below n -/
def sumR : Nat → (Nat → Int) → Int
  | 0, _ => 0
  | n + 1, f => sumR n f + f n
theorem sumR_congr {n : Nat} {f g : Nat → Int} (h : ∀ k, k < n → f k = g k) : sumR n f = sumR n g := by
  induction n with
  | zero => rfl
  | succ n ih => rw [sumR, sumR, ih (fun k hk => h k (by omega)), h n (by omega)]
theorem sumR_one {n x : Nat} (h : x < n) (g : Nat → Int) (c : Int) : sumR n (fun k => if k = x then g k + c else g k) = sumR n g + c := by
  induction n with
  | zero => omega
  | succ n ih =>
    rw [sumR, sumR]
    by_cases hx : n = x
    · subst hx
      rw [if_pos rfl, sumR_congr (f := fun k => if k = n then g k + c else g k) (g := g) (fun k hk => by rw [if_neg (by omega)])]
      omega
    · rw [if_neg hx, ih (by omega)]; omega
theorem sumR_bd {n : Nat} {f : Nat → Int} {M : Int} (h : ∀ k, k < n → 0 ≤ f k ∧ f k ≤ M) : 0 ≤ sumR n f ∧ sumR n f ≤ n * M := by
  induction n with
  | zero => simp [sumR]
  | succ n ih =>
    have h1 := ih (fun k hk => h k (by omega))
    have h2 := h n (by omega)
    rw [sumR]
    push_cast
    rw [Int.add_mul, Int.one_mul]
    omega
/-- a sum over some of them, in whatever order -/
def sumL (f : Nat → Int) (d : List Int) : Int := d.foldl (fun s r => s + f r.toNat) 0
theorem sumL_snoc (f : Nat → Int) (d : List Int) (r : Int) : sumL f (d ++ [r]) = sumL f d + f r.toNat := by simp [sumL]
theorem sumL_eq {n : Nat} (f : Nat → Int) (d : List Int) (hn : d.Nodup) (hb : ∀ r ∈ d, 0 ≤ r ∧ r < n) : sumL f d = sumR n (fun k => if (k : Int) ∈ d then f k else 0) := by
  induction d using snoc_ind with
  | h0 =>
    rw [sumR_congr (g := fun _ => 0) (fun k _ => by simp)]
    have : ∀ n : Nat, sumR n (fun _ => 0) = 0 := by
      intro n; induction n with
      | zero => rfl
      | succ n ih => rw [sumR, ih]; rfl
    rw [this]; rfl
  | h1 d x ih =>
    rw [List.nodup_append] at hn
    have hx := hb x (by simp)
    have hnx : x ∉ d := fun hm => hn.2.2 x hm x (by simp) rfl
    rw [sumL_snoc, ih hn.1 (fun r hr => hb r (by simp [hr]))]
    obtain ⟨m, rfl⟩ : ∃ m : Nat, x = m := ⟨x.toNat, by omega⟩
    rw [show ((m : Int).toNat) = m by omega, ← sumR_one (show m < n by omega) (fun k => if (k : Int) ∈ d then f k else 0) (f m)]
    refine sumR_congr (fun k _ => ?_)
    by_cases hk : k = m
    · subst hk; rw [if_pos rfl, if_neg hnx, if_pos (by simp)]; omega
    · rw [if_neg hk]
      by_cases hm : (k : Int) ∈ d
      · rw [if_pos hm, if_pos (by simp [hm])]
      · rw [if_neg hm, if_neg (by simp [hm]; omega)]
/-- the cost of a reach -/
def cst (rs : List Rc) (k : Nat) : Int := match rs[k]? with
  | some c => c.cost
  | none => 0
theorem cst_get {rs : List Rc} {k : Nat} (h : k < rs.length) : cst rs k = rs[k].cost := by simp [cst, h]
theorem cst_bd {rs : List Rc} (hV : RsV rs) (k : Nat) : 0 ≤ cst rs k ∧ cst rs k ≤ 65536 := by
  by_cases h : k < rs.length
  · rw [cst_get h]; exact (hV.v k h).2
  · simp [cst, h]
/-- what some payers would pay alone -/
def alnE (T : Tr) (tl : Py → Bool) : Int := sumR T.rs.length (fun k => if T.ps.any (fun p => tl p && usB T.rs p.reach k) = true then cst T.rs k else 0)
theorem alnE_bd {T : Tr} (h : Ok T) (tl : Py → Bool) : 0 ≤ alnE T tl ∧ alnE T tl ≤ 1572864 := by
  have h1 := sumR_bd (n := T.rs.length) (f := fun k => if T.ps.any (fun p => tl p && usB T.rs p.reach k) = true then cst T.rs k else 0) (M := 65536) (fun k _ => by
    have := cst_bd h.rv k
    split <;> omega)
  have h2 := h.lr
  unfold alnE
  omega
theorem sumL_bd {T : Tr} (h : Ok T) {d : List Int} (hn : d.Nodup) (hb : ∀ r ∈ d, 0 ≤ r ∧ r < T.rs.length) : 0 ≤ sumL (cst T.rs) d ∧ sumL (cst T.rs) d ≤ 1572864 := by
  rw [sumL_eq (n := T.rs.length) _ d hn hb]
  have h1 := sumR_bd (n := T.rs.length) (f := fun k => if (k : Int) ∈ d then cst T.rs k else 0) (M := 65536) (fun k _ => by
    have := cst_bd h.rv k
    split <;> omega)
  have h2 := h.lr
  omega
theorem alnE_of {T : Tr} (h : Ok T) (tl : Py → Bool) {d : List Int} (hn : d.Nodup) (hd : ∀ r, r ∈ d ↔ ∃ p ∈ T.ps, tl p = true ∧ r ∈ upL T.rs p.reach) : sumL (cst T.rs) d = alnE T tl := by
  rw [sumL_eq (n := T.rs.length) _ d hn (fun r hr => by
    obtain ⟨p, hp, _, h2⟩ := (hd r).1 hr
    exact upL_in h.rv (h.pv p hp).2.1.2 r h2)]
  refine sumR_congr (fun k _ => ?_)
  have : ((k : Int) ∈ d) = (T.ps.any (fun p => tl p && usB T.rs p.reach k) = true) := by
    rw [hd, List.any_eq_true]
    simp only [Bool.and_eq_true, usB_t]
  simp only [this]
end Go.Proofs.Ythopgonbndoidaa
