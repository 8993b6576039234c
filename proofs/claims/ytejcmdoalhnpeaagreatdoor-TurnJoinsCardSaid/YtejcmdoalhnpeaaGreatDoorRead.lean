/- The reader of a text, as functions on lists of bytes: words, numbers, turns, spans, the whole. No program in sight. -/
import Derived.Test.YtejcmdoalhnpeaaGreatDoorAsk
namespace Go.Proofs.YtejcmdoalhnpeaaGreatDoor

/-- where a reader stands; whether the byte there does not fit -/
structure Rd where
  at_ : Nat
  bad : Bool
def wordR (x : List UInt8) : List UInt8 → Rd → Rd
  | [], r => r
  | c :: w, r => if r.bad then r else if x[r.at_]? = some c then wordR x w ⟨r.at_ + 1, false⟩ else ⟨r.at_, true⟩
/-- whether some number from lo to hi begins with these digits -/
def begF (lo hi : Int) : Nat → Int → Int → Bool
  | 0, _, _ => false
  | k + 1, f, t => if f ≤ hi then (if lo ≤ t then true else begF lo hi k (10 * f) (10 * t + 9)) else false
def begB (n lo hi : Int) : Bool := if n = 0 then decide (lo = 0) else begF lo hi 9 n n
def isDig (c : UInt8) : Bool := 48 ≤ c && c ≤ 57
def numFin (lo hi n : Int) (d : Nat) (r : Rd) : Int × Rd := if d = 0 ∨ inB n lo hi = false then (n, ⟨r.at_, true⟩) else (n, r)
def numL (x : List UInt8) (lo hi : Int) : Nat → Int → Nat → Rd → Int × Rd
  | 0, n, d, r => numFin lo hi n d r
  | k + 1, n, d, r => match x[r.at_]? with
    | some c => if isDig c then
        (if (0 < d ∧ n = 0) ∨ begB (10 * n + ((c.toNat : Int) - 48)) lo hi = false then (0, ⟨r.at_, true⟩)
         else numL x lo hi k (10 * n + ((c.toNat : Int) - 48)) (d + 1) ⟨r.at_ + 1, false⟩)
      else numFin lo hi n d r
    | none => numFin lo hi n d r
def numR (x : List UInt8) (lo hi : Int) (r : Rd) : Int × Rd := if r.bad then (0, r) else numL x lo hi (x.length + 1 - r.at_) 0 0 r
def turnR (x : List UInt8) (r : Rd) : Tn × Rd :=
  let r1 := wordR x [101, 118, 101, 114, 121, 32] r
  let a := numR x 1 40320 r1
  let r3 := wordR x [32, 102, 114, 111, 109, 32] a.2
  let b := numR x 0 (a.1 - 1) r3
  let r5 := wordR x [32, 102, 111, 114, 32] b.2
  let c := numR x 1 a.1 r5
  (⟨a.1, b.1, c.1⟩, wordR x [59, 10] c.2)
def spanR (x : List UInt8) (r : Rd) : Sp × Rd :=
  let r1 := wordR x [98, 101, 116, 119, 101, 101, 110, 32] r
  let a := numR x 0 1048576 r1
  let r3 := wordR x [32, 97, 110, 100, 32] a.2
  let b := numR x a.1 1048576 r3
  (⟨a.1, b.1⟩, wordR x [59, 10] b.2)
def leftR (x : List UInt8) (r : Rd) : Bool := !r.bad && decide (r.at_ < x.length)
def goT (x : List UInt8) (r : Rd) : Bool := leftR x r && !(x[r.at_]? == some 98)
def parT (x : List UInt8) : Nat → List Tn → Rd → List Tn × Rd
  | 0, ts, r => (ts, r)
  | k + 1, ts, r => if goT x r then parT x k (ts ++ [(turnR x r).1]) (turnR x r).2 else (ts, r)
def parS (x : List UInt8) : Nat → List Sp → Rd → List Sp × Rd
  | 0, ss, r => (ss, r)
  | k + 1, ss, r => if leftR x r then parS x k (ss ++ [(spanR x r).1]) (spanR x r).2 else (ss, r)
def parA (x : List UInt8) : List Tn × Rd := parT x (x.length + 1) [] ⟨0, false⟩
def parB (x : List UInt8) : List Sp × Rd := parS x (x.length + 1) [] (parA x).2
def prsE (x : List UInt8) : Int := if 3000 < x.length then 2 else if (parB x).2.bad then 7 else if 24 < (parA x).1.length ∨ 40 < (parB x).1.length then 2 else 0
def prsX (x : List UInt8) : Mn := if prsE x = 0 then ⟨(parA x).1, (parB x).1⟩ else ⟨[], []⟩
def prsA (x : List UInt8) : Int := if 3000 < x.length then 0 else if (parB x).2.bad then (parB x).2.at_ else 0

theorem wordR_bad (x w : List UInt8) (r : Rd) (h : r.bad = true) : wordR x w r = r := by cases w <;> simp [wordR, h]
theorem wordR_mono (x w : List UInt8) : ∀ r : Rd, r.at_ ≤ (wordR x w r).at_ ∧ (r.at_ ≤ x.length → (wordR x w r).at_ ≤ x.length) ∧ ((wordR x w r).bad = false → r.bad = false ∧ (wordR x w r).at_ = r.at_ + w.length) := by
  induction w with
  | nil => intro r; simp [wordR]
  | cons c w ih =>
    intro r
    simp only [wordR]
    split
    · rename_i h; simp [h]
    · rename_i h
      split
      · rename_i h2
        obtain ⟨h3, h4, h5⟩ := ih ⟨r.at_ + 1, false⟩
        have hlt : r.at_ < x.length := by
          have := List.getElem?_eq_some_iff.1 h2
          exact this.1
        refine ⟨by simp at h3; omega, fun _ => h4 (by simp; omega), fun h6 => ?_⟩
        have := h5 h6
        simp only [List.length_cons]
        simp at this h
        exact ⟨h, by omega⟩
      · simp
theorem numFin_mono (lo hi n : Int) (d : Nat) (r : Rd) : (numFin lo hi n d r).2.at_ = r.at_ ∧ (numFin lo hi n d r).1 = n := by
  unfold numFin; split <;> simp
theorem begF_le (lo hi : Int) (k : Nat) : ∀ f t, begF lo hi k f t = true → f ≤ hi := by
  intro f t h
  cases k with
  | zero => simp [begF] at h
  | succ k =>
    simp only [begF] at h
    split at h
    · assumption
    · cases h
theorem begB_le {n lo hi : Int} (h : begB n lo hi = true) (hh : 0 ≤ hi) : n ≤ hi := by
  unfold begB at h
  split at h
  · omega
  · exact begF_le _ _ _ _ _ h
theorem dig_range {c : UInt8} (h : isDig c = true) : 0 ≤ (c.toNat : Int) - 48 ∧ (c.toNat : Int) - 48 ≤ 9 := by
  simp only [isDig, Bool.and_eq_true, decide_eq_true_eq, UInt8.le_iff_toNat_le] at h
  have h1 : (48 : UInt8).toNat = 48 := rfl
  have h2 : (57 : UInt8).toNat = 57 := rfl
  omega
theorem numL_mono (x : List UInt8) (lo hi : Int) (k : Nat) : ∀ (n : Int) (d : Nat) (r : Rd), 0 ≤ n → n ≤ max 0 hi → r.at_ ≤ (numL x lo hi k n d r).2.at_ ∧ (r.at_ ≤ x.length → (numL x lo hi k n d r).2.at_ ≤ x.length) ∧ 0 ≤ (numL x lo hi k n d r).1 ∧ (numL x lo hi k n d r).1 ≤ max 0 hi := by
  induction k with
  | zero => intro n d r h1 h2; obtain ⟨e1, e2⟩ := numFin_mono lo hi n d r; simp only [numL, e1, e2]; exact ⟨Nat.le_refl _, fun h => h, h1, h2⟩
  | succ k ih =>
    intro n d r h1 h2
    simp only [numL]
    split
    · rename_i c hc
      have hlt := (List.getElem?_eq_some_iff.1 hc).1
      split
      · rename_i hd
        have hd2 := dig_range hd
        split
        · exact ⟨Nat.le_refl _, fun h => h, by simp, by simp; omega⟩
        · rename_i hb
          have hb2 : begB (10 * n + ((c.toNat : Int) - 48)) lo hi = true := by
            cases hx : begB (10 * n + ((c.toNat : Int) - 48)) lo hi
            · exact absurd (.inr hx) hb
            · rfl
          have hm : 10 * n + ((c.toNat : Int) - 48) ≤ max 0 hi := by
            by_cases h0 : 0 ≤ hi
            · have := begB_le hb2 h0; omega
            · unfold begB at hb2
              split at hb2
              · omega
              · have := begF_le _ _ _ _ _ hb2; omega
          obtain ⟨i1, i2, i3, i4⟩ := ih _ (d + 1) ⟨r.at_ + 1, false⟩ (by omega) hm
          simp only at i1
          exact ⟨by omega, fun _ => i2 (by simp; omega), i3, i4⟩
      · obtain ⟨e1, e2⟩ := numFin_mono lo hi n d r
        rw [e1, e2]
        exact ⟨Nat.le_refl _, fun h => h, h1, h2⟩
    · obtain ⟨e1, e2⟩ := numFin_mono lo hi n d r
      rw [e1, e2]
      exact ⟨Nat.le_refl _, fun h => h, h1, h2⟩
theorem numR_mono (x : List UInt8) (lo hi : Int) (r : Rd) : r.at_ ≤ (numR x lo hi r).2.at_ ∧ (r.at_ ≤ x.length → (numR x lo hi r).2.at_ ≤ x.length) ∧ 0 ≤ (numR x lo hi r).1 ∧ (numR x lo hi r).1 ≤ max 0 hi := by
  unfold numR
  split
  · exact ⟨Nat.le_refl _, fun h => h, by simp, by simp; omega⟩
  · exact numL_mono x lo hi _ 0 0 r (by omega) (by omega)
theorem numR_bad (x : List UInt8) (lo hi : Int) (r : Rd) (h : r.bad = true) : numR x lo hi r = (0, r) := by simp [numR, h]
theorem numR_ok {x : List UInt8} {lo hi : Int} {r : Rd} (h : (numR x lo hi r).2.bad = false) : r.bad = false := by
  cases hb : r.bad
  · rfl
  · rw [numR_bad x lo hi r hb] at h; simp [hb] at h
theorem turnR_step (x : List UInt8) (r : Rd) (hr : r.at_ ≤ x.length) : (turnR x r).2.at_ ≤ x.length ∧ ((turnR x r).2.bad = false → r.at_ < (turnR x r).2.at_) := by
  simp only [turnR]
  obtain ⟨a1, a2, a3⟩ := wordR_mono x [101, 118, 101, 114, 121, 32] r
  obtain ⟨b1, b2, _⟩ := numR_mono x 1 40320 (wordR x [101, 118, 101, 114, 121, 32] r)
  have b3 := @numR_ok x 1 40320 (wordR x [101, 118, 101, 114, 121, 32] r)
  generalize wordR x [101, 118, 101, 114, 121, 32] r = r1 at *
  generalize numR x 1 40320 r1 = a at *
  obtain ⟨c1, c2, c3⟩ := wordR_mono x [32, 102, 114, 111, 109, 32] a.2
  generalize wordR x [32, 102, 114, 111, 109, 32] a.2 = r3 at *
  obtain ⟨d1, d2, _⟩ := numR_mono x 0 (a.1 - 1) r3
  have d3 := @numR_ok x 0 (a.1 - 1) r3
  generalize numR x 0 (a.1 - 1) r3 = b at *
  obtain ⟨e1, e2, e3⟩ := wordR_mono x [32, 102, 111, 114, 32] b.2
  generalize wordR x [32, 102, 111, 114, 32] b.2 = r5 at *
  obtain ⟨f1, f2, _⟩ := numR_mono x 1 a.1 r5
  have f3 := @numR_ok x 1 a.1 r5
  generalize numR x 1 a.1 r5 = c at *
  obtain ⟨g1, g2, g3⟩ := wordR_mono x [59, 10] c.2
  generalize wordR x [59, 10] c.2 = r7 at *
  refine ⟨g2 (f2 (e2 (d2 (c2 (b2 (a2 hr)))))), fun h => ?_⟩
  have h1 := g3 h
  have h2 := e3 (f3 h1.1)
  have h3 := c3 (d3 h2.1)
  have h4 := a3 (b3 h3.1)
  simp at h4
  omega
theorem spanR_step (x : List UInt8) (r : Rd) (hr : r.at_ ≤ x.length) : (spanR x r).2.at_ ≤ x.length ∧ ((spanR x r).2.bad = false → r.at_ < (spanR x r).2.at_) := by
  simp only [spanR]
  obtain ⟨a1, a2, a3⟩ := wordR_mono x [98, 101, 116, 119, 101, 101, 110, 32] r
  generalize wordR x [98, 101, 116, 119, 101, 101, 110, 32] r = r1 at *
  obtain ⟨b1, b2, _⟩ := numR_mono x 0 1048576 r1
  have b3 := @numR_ok x 0 1048576 r1
  generalize numR x 0 1048576 r1 = a at *
  obtain ⟨c1, c2, c3⟩ := wordR_mono x [32, 97, 110, 100, 32] a.2
  generalize wordR x [32, 97, 110, 100, 32] a.2 = r3 at *
  obtain ⟨d1, d2, _⟩ := numR_mono x a.1 1048576 r3
  have d3 := @numR_ok x a.1 1048576 r3
  generalize numR x a.1 1048576 r3 = b at *
  obtain ⟨g1, g2, g3⟩ := wordR_mono x [59, 10] b.2
  generalize wordR x [59, 10] b.2 = r7 at *
  refine ⟨g2 (d2 (c2 (b2 (a2 hr)))), fun h => ?_⟩
  have h1 := g3 h
  have h3 := c3 (d3 h1.1)
  have h4 := a3 (b3 h3.1)
  simp at h4
  omega

end Go.Proofs.YtejcmdoalhnpeaaGreatDoor
