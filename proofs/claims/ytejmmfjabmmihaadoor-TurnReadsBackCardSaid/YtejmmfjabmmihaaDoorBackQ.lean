/- TurnReadsBack, the plain law, second part: Print of what Parse takes is the text; the beginning of a text up to an error is not refused earlier. -/
import Derived.Test.YtejmmfjabmmihaaDoorBackP
namespace Go.Proofs.YtejmmfjabmmihaaDoor
open Go.RowKit Go.Shelf

theorem AtR.push {x t : List UInt8} {r : Rd} {c : UInt8} (hb : r.bad = false) (hc : x[r.at_]? = some c) (h : AtR x ⟨r.at_ + 1, false⟩ t) : AtR x r (c :: t) := by
  have hlt := (List.getElem?_eq_some_iff.1 hc).1
  have he := (List.getElem?_eq_some_iff.1 hc).2
  refine ⟨hb, by omega, ?_⟩
  rw [List.drop_eq_getElem_cons hlt, he, h.2.2]
theorem wordR_inv {x : List UInt8} : ∀ (w : List UInt8) (r : Rd), r.at_ ≤ x.length → (wordR x w r).bad = false → AtR x r (w ++ x.drop (wordR x w r).at_) ∧ AtR x (wordR x w r) (x.drop (wordR x w r).at_) := by
  intro w
  induction w with
  | nil => intro r h hb; exact ⟨AtR.mk_ hb h, AtR.mk_ hb h⟩
  | cons c w ih =>
    intro r h hb
    simp only [wordR] at hb ⊢
    by_cases hr : r.bad = true
    · rw [if_pos hr, hr] at hb; cases hb
    · rw [if_neg hr] at hb ⊢
      by_cases hc : x[r.at_]? = some c
      · rw [if_pos hc] at hb ⊢
        have hlt := (List.getElem?_eq_some_iff.1 hc).1
        obtain ⟨h1, h2⟩ := ih ⟨r.at_ + 1, false⟩ (by simp; omega) hb
        exact ⟨AtR.push (by simpa using hr) hc h1, h2⟩
      · rw [if_neg hc] at hb; cases hb
theorem ofNat_dig {c : UInt8} {b : Nat} (h : (c.toNat : Int) - 48 = b) : UInt8.ofNat (48 + b) = c := by
  have hl := c.toNat_lt
  apply UInt8.toNat_inj.1
  rw [UInt8.toNat_ofNat']
  omega
theorem dg_step {v : Int} {c : UInt8} (hv : 0 < v) (hc : isDig c = true) : dg (10 * v + ((c.toNat : Int) - 48)) = dg v ++ [c] := by
  have hr := dig_range hc
  obtain ⟨a, ha⟩ : ∃ a : Nat, v = a := ⟨v.toNat, by omega⟩
  obtain ⟨b, hb⟩ : ∃ b : Nat, (c.toNat : Int) - 48 = b := ⟨((c.toNat : Int) - 48).toNat, by omega⟩
  have ho := ofNat_dig hb
  rw [hb]
  subst ha
  unfold dg
  rw [show (10 * (a : Int) + (b : Int)).toNat = 10 * a + b by omega, decD_big (by omega), show (10 * a + b) / 10 = a by omega, show (10 * a + b) % 10 = b by omega, ho]
  simp
theorem dg_one {c : UInt8} (hc : isDig c = true) : dg ((c.toNat : Int) - 48) = [c] := by
  have hr := dig_range hc
  obtain ⟨b, hb⟩ : ∃ b : Nat, (c.toNat : Int) - 48 = b := ⟨((c.toNat : Int) - 48).toNat, by omega⟩
  have ho := ofNat_dig hb
  rw [hb]
  unfold dg
  rw [show ((b : Nat) : Int).toNat = b by omega, decD_small (by omega), ho]
theorem numFin_inv {lo hi n : Int} {d : Nat} {r : Rd} (h : (numFin lo hi n d r).2.bad = false) : 0 < d ∧ lo ≤ n ∧ n ≤ hi ∧ numFin lo hi n d r = (n, r) := by
  unfold numFin at h ⊢
  split at h
  · cases h
  · rename_i hn
    rw [if_neg hn]
    refine ⟨by omega, ?_, ?_, rfl⟩
    all_goals
      have := (inB_iff n lo hi).1 (by cases e : inB n lo hi <;> simp_all)
      omega
theorem numL_inv {x : List UInt8} {lo hi : Int} : ∀ (k : Nat) (v : Int) (d : Nat) (r : Rd) (ds : List UInt8), r.at_ ≤ x.length → r.bad = false → 0 ≤ v → (d = 0 → v = 0 ∧ ds = []) → (0 < d → ds = dg v) → (numL x lo hi k v d r).2.bad = false →
    lo ≤ (numL x lo hi k v d r).1 ∧ (numL x lo hi k v d r).1 ≤ hi ∧ AtR x (numL x lo hi k v d r).2 (x.drop (numL x lo hi k v d r).2.at_) ∧ ∃ ms, AtR x r (ms ++ x.drop (numL x lo hi k v d r).2.at_) ∧ ds ++ ms = dg (numL x lo hi k v d r).1 := by
  have hfin : ∀ (v : Int) (d : Nat) (r : Rd) (ds : List UInt8), r.at_ ≤ x.length → r.bad = false → (0 < d → ds = dg v) → (numFin lo hi v d r).2.bad = false →
      lo ≤ (numFin lo hi v d r).1 ∧ (numFin lo hi v d r).1 ≤ hi ∧ AtR x (numFin lo hi v d r).2 (x.drop (numFin lo hi v d r).2.at_) ∧ ∃ ms, AtR x r (ms ++ x.drop (numFin lo hi v d r).2.at_) ∧ ds ++ ms = dg (numFin lo hi v d r).1 := by
    intro v d r ds hr hb hd h
    obtain ⟨h1, h2, h3, h4⟩ := numFin_inv h
    rw [h4]
    exact ⟨h2, h3, AtR.mk_ hb hr, [], AtR.mk_ hb hr, by rw [hd h1]; simp⟩
  intro k
  induction k with
  | zero => intro v d r ds hr hb _ _ h2 h; exact hfin v d r ds hr hb h2 h
  | succ k ih =>
    intro v d r ds hr hb hv h1 h2 h
    cases hc : x[r.at_]? with
    | none =>
      rw [numL_none hc] at h ⊢
      exact hfin v d r ds hr hb h2 h
    | some c =>
      cases hd : isDig c
      · rw [numL_other hc hd] at h ⊢
        exact hfin v d r ds hr hb h2 h
      · by_cases hf : (0 < d ∧ v = 0) ∨ begB (10 * v + ((c.toNat : Int) - 48)) lo hi = false
        · rw [numL_fail hc hd hf] at h; cases h
        · rw [numL_step hc hd hf] at h ⊢
          have hlt := (List.getElem?_eq_some_iff.1 hc).1
          have hrg := dig_range hd
          obtain ⟨i1, i2, i3, ms, i4, i5⟩ := ih _ (d + 1) ⟨r.at_ + 1, false⟩ (ds ++ [c]) (by simp; omega) rfl (by omega) (by omega) (fun _ => by
            by_cases h0 : d = 0
            · obtain ⟨e1, e2⟩ := h1 h0
              subst e1; subst e2
              rw [show 10 * (0 : Int) + ((c.toNat : Int) - 48) = (c.toNat : Int) - 48 by omega, dg_one hd]; rfl
            · rw [h2 (by omega), dg_step (by omega) hd]) h
          exact ⟨i1, i2, i3, c :: ms, AtR.push hb hc i4, by rw [← i5]; simp⟩
theorem numR_inv {x : List UInt8} {lo hi : Int} {r : Rd} (hr : r.at_ ≤ x.length) (h : (numR x lo hi r).2.bad = false) :
    lo ≤ (numR x lo hi r).1 ∧ (numR x lo hi r).1 ≤ hi ∧ AtR x r (dg (numR x lo hi r).1 ++ x.drop (numR x lo hi r).2.at_) ∧ AtR x (numR x lo hi r).2 (x.drop (numR x lo hi r).2.at_) := by
  have hb := numR_ok h
  unfold numR at h ⊢
  rw [if_neg (by simp [hb])] at h ⊢
  obtain ⟨h1, h2, h3, ms, h4, h5⟩ := numL_inv (x.length + 1 - r.at_) 0 0 r [] hr hb (by omega) (fun _ => ⟨rfl, rfl⟩) (by omega) h
  rw [List.nil_append] at h5
  rw [← h5]
  exact ⟨h1, h2, h4, h3⟩
theorem turnR_inv {x : List UInt8} {r : Rd} (hr : r.at_ ≤ x.length) (h : (turnR x r).2.bad = false) :
    tnB (turnR x r).1.p (turnR x r).1.f (turnR x r).1.l = true ∧ AtR x r (tnTxt (turnR x r).1 ++ x.drop (turnR x r).2.at_) ∧ AtR x (turnR x r).2 (x.drop (turnR x r).2.at_) := by
  simp only [turnR] at h ⊢
  obtain ⟨_, a2, a3⟩ := wordR_mono x [101, 118, 101, 114, 121, 32] r
  have a4 := wordR_inv (x := x) [101, 118, 101, 114, 121, 32] r hr
  generalize wordR x [101, 118, 101, 114, 121, 32] r = r1 at *
  obtain ⟨_, b2, _⟩ := numR_mono x 1 40320 r1
  have b3 := @numR_ok x 1 40320 r1
  have b4 := @numR_inv x 1 40320 r1
  generalize numR x 1 40320 r1 = a at *
  obtain ⟨_, c2, c3⟩ := wordR_mono x [32, 102, 114, 111, 109, 32] a.2
  have c4 := wordR_inv (x := x) [32, 102, 114, 111, 109, 32] a.2
  generalize wordR x [32, 102, 114, 111, 109, 32] a.2 = r3 at *
  obtain ⟨_, d2, _⟩ := numR_mono x 0 (a.1 - 1) r3
  have d3 := @numR_ok x 0 (a.1 - 1) r3
  have d4 := @numR_inv x 0 (a.1 - 1) r3
  generalize numR x 0 (a.1 - 1) r3 = b at *
  obtain ⟨_, e2, e3⟩ := wordR_mono x [32, 102, 111, 114, 32] b.2
  have e4 := wordR_inv (x := x) [32, 102, 111, 114, 32] b.2
  generalize wordR x [32, 102, 111, 114, 32] b.2 = r5 at *
  obtain ⟨_, f2, _⟩ := numR_mono x 1 a.1 r5
  have f3 := @numR_ok x 1 a.1 r5
  have f4 := @numR_inv x 1 a.1 r5
  generalize numR x 1 a.1 r5 = c at *
  obtain ⟨_, g2, g3⟩ := wordR_mono x [59, 10] c.2
  have g4 := wordR_inv (x := x) [59, 10] c.2
  generalize wordR x [59, 10] c.2 = r7 at *
  have l1 := a2 hr
  have l2 := b2 l1
  have l3 := c2 l2
  have l4 := d2 l3
  have l5 := e2 l4
  have l6 := f2 l5
  have k6 := (g3 h).1
  have k5 := f3 k6
  have k4 := (e3 k5).1
  have k3 := d3 k4
  have k2 := (c3 k3).1
  have k1 := b3 k2
  obtain ⟨g5, g6⟩ := g4 l6 h
  obtain ⟨f5, f6, f7, f8⟩ := f4 l5 k6
  obtain ⟨e5, e6⟩ := e4 l4 k5
  obtain ⟨d5, d6, d7, d8⟩ := d4 l3 k4
  obtain ⟨c5, c6⟩ := c4 l2 k3
  obtain ⟨b5, b6, b7, b8⟩ := b4 l1 k2
  obtain ⟨a5, a6⟩ := a4 k1
  refine ⟨?_, ?_, g6⟩
  · simp only [tnB, Bool.and_eq_true, inB_iff]; omega
  · rw [b7.2.2, c5.2.2, d7.2.2, e5.2.2, f7.2.2, g5.2.2] at a5
    simpa [tnTxt] using a5
theorem spanR_inv {x : List UInt8} {r : Rd} (hr : r.at_ ≤ x.length) (h : (spanR x r).2.bad = false) :
    spB (spanR x r).1.lo (spanR x r).1.hi = true ∧ AtR x r (spTxt (spanR x r).1 ++ x.drop (spanR x r).2.at_) ∧ AtR x (spanR x r).2 (x.drop (spanR x r).2.at_) := by
  simp only [spanR] at h ⊢
  obtain ⟨_, a2, a3⟩ := wordR_mono x [98, 101, 116, 119, 101, 101, 110, 32] r
  have a4 := wordR_inv (x := x) [98, 101, 116, 119, 101, 101, 110, 32] r hr
  generalize wordR x [98, 101, 116, 119, 101, 101, 110, 32] r = r1 at *
  obtain ⟨_, b2, _⟩ := numR_mono x 0 1048576 r1
  have b3 := @numR_ok x 0 1048576 r1
  have b4 := @numR_inv x 0 1048576 r1
  generalize numR x 0 1048576 r1 = a at *
  obtain ⟨_, c2, c3⟩ := wordR_mono x [32, 97, 110, 100, 32] a.2
  have c4 := wordR_inv (x := x) [32, 97, 110, 100, 32] a.2
  generalize wordR x [32, 97, 110, 100, 32] a.2 = r3 at *
  obtain ⟨_, d2, _⟩ := numR_mono x a.1 1048576 r3
  have d3 := @numR_ok x a.1 1048576 r3
  have d4 := @numR_inv x a.1 1048576 r3
  generalize numR x a.1 1048576 r3 = b at *
  obtain ⟨_, g2, g3⟩ := wordR_mono x [59, 10] b.2
  have g4 := wordR_inv (x := x) [59, 10] b.2
  generalize wordR x [59, 10] b.2 = r7 at *
  have l1 := a2 hr
  have l2 := b2 l1
  have l3 := c2 l2
  have l4 := d2 l3
  have k4 := (g3 h).1
  have k3 := d3 k4
  have k2 := (c3 k3).1
  have k1 := b3 k2
  obtain ⟨g5, g6⟩ := g4 l4 h
  obtain ⟨d5, d6, d7, d8⟩ := d4 l3 k4
  obtain ⟨c5, c6⟩ := c4 l2 k3
  obtain ⟨b5, b6, b7, b8⟩ := b4 l1 k2
  obtain ⟨a5, a6⟩ := a4 k1
  refine ⟨?_, ?_, g6⟩
  · exact spB_mk (by omega)
  · rw [b7.2.2, c5.2.2, d7.2.2, g5.2.2] at a5
    simpa [spTxt] using a5
theorem parT_bad {x : List UInt8} {k : Nat} {acc : List Tn} {r : Rd} (h : r.bad = true) : parT x k acc r = (acc, r) := by
  cases k with
  | zero => rfl
  | succ k => simp [parT, goT, leftR, h]
theorem parS_bad {x : List UInt8} {k : Nat} {acc : List Sp} {r : Rd} (h : r.bad = true) : parS x k acc r = (acc, r) := by
  cases k with
  | zero => rfl
  | succ k => simp [parS, leftR, h]
theorem parT_inv {x : List UInt8} : ∀ (k : Nat) (acc : List Tn) (r : Rd), r.at_ ≤ x.length → (parT x k acc r).2.bad = false →
    ∃ l, (parT x k acc r).1 = acc ++ l ∧ (∀ t ∈ l, tnB t.p t.f t.l = true) ∧ AtR x r (l.flatMap tnTxt ++ x.drop (parT x k acc r).2.at_) ∧ AtR x (parT x k acc r).2 (x.drop (parT x k acc r).2.at_) := by
  intro k
  induction k with
  | zero => intro acc r hr h; exact ⟨[], by simp [parT], by simp, AtR.mk_ h hr, AtR.mk_ h hr⟩
  | succ k ih =>
    intro acc r hr h
    simp only [parT] at h ⊢
    by_cases hg : goT x r = true
    · rw [if_pos hg] at h ⊢
      have hb : (turnR x r).2.bad = false := by
        cases hb : (turnR x r).2.bad
        · rfl
        · rw [parT_bad hb, hb] at h; cases h
      obtain ⟨h1, h2, h3⟩ := turnR_inv hr hb
      obtain ⟨l, i1, i2, i3, i4⟩ := ih _ _ (turnR_step x r hr).1 h
      refine ⟨(turnR x r).1 :: l, by rw [i1]; simp, ?_, ?_, i4⟩
      · intro t ht
        rcases List.mem_cons.1 ht with rfl | ht
        · exact h1
        · exact i2 t ht
      · rw [i3.2.2] at h2
        simpa using h2
    · rw [if_neg hg] at h ⊢
      exact ⟨[], by simp, by simp, AtR.mk_ h hr, AtR.mk_ h hr⟩
theorem parS_inv {x : List UInt8} : ∀ (k : Nat) (acc : List Sp) (r : Rd), r.at_ ≤ x.length → (parS x k acc r).2.bad = false →
    ∃ l, (parS x k acc r).1 = acc ++ l ∧ (∀ t ∈ l, spB t.lo t.hi = true) ∧ AtR x r (l.flatMap spTxt ++ x.drop (parS x k acc r).2.at_) ∧ AtR x (parS x k acc r).2 (x.drop (parS x k acc r).2.at_) := by
  intro k
  induction k with
  | zero => intro acc r hr h; exact ⟨[], by simp [parS], by simp, AtR.mk_ h hr, AtR.mk_ h hr⟩
  | succ k ih =>
    intro acc r hr h
    simp only [parS] at h ⊢
    by_cases hg : leftR x r = true
    · rw [if_pos hg] at h ⊢
      have hb : (spanR x r).2.bad = false := by
        cases hb : (spanR x r).2.bad
        · rfl
        · rw [parS_bad hb, hb] at h; cases h
      obtain ⟨h1, h2, h3⟩ := spanR_inv hr hb
      obtain ⟨l, i1, i2, i3, i4⟩ := ih _ _ (spanR_step x r hr).1 h
      refine ⟨(spanR x r).1 :: l, by rw [i1]; simp, ?_, ?_, i4⟩
      · intro t ht
        rcases List.mem_cons.1 ht with rfl | ht
        · exact h1
        · exact i2 t ht
      · rw [i3.2.2] at h2
        simpa using h2
    · rw [if_neg hg] at h ⊢
      exact ⟨[], by simp, by simp, AtR.mk_ h hr, AtR.mk_ h hr⟩
theorem parT_le {x : List UInt8} : ∀ (k : Nat) (acc : List Tn) (r : Rd), r.at_ ≤ x.length → (parT x k acc r).2.at_ ≤ x.length := by
  intro k
  induction k with
  | zero => intro acc r hr; exact hr
  | succ k ih =>
    intro acc r hr
    simp only [parT]
    split
    · exact ih _ _ (turnR_step x r hr).1
    · exact hr
theorem parS_le {x : List UInt8} : ∀ (k : Nat) (acc : List Sp) (r : Rd), r.at_ ≤ x.length → (parS x k acc r).2.at_ ≤ x.length := by
  intro k
  induction k with
  | zero => intro acc r hr; exact hr
  | succ k ih =>
    intro acc r hr
    simp only [parS]
    split
    · exact ih _ _ (spanR_step x r hr).1
    · exact hr
theorem parS_done {x : List UInt8} : ∀ (k : Nat) (acc : List Sp) (r : Rd), r.at_ ≤ x.length → x.length < k + r.at_ → leftR x (parS x k acc r).2 = false := by
  intro k
  induction k with
  | zero => intro acc r hr h; simp only [parS, leftR]; simp; omega
  | succ k ih =>
    intro acc r hr h
    simp only [parS]
    split
    · obtain ⟨h1, h2⟩ := spanR_step x r hr
      cases hb : (spanR x r).2.bad
      · have := h2 hb
        exact ih _ _ h1 (by omega)
      · rw [parS_bad hb]; simp [leftR, hb]
    · rename_i hn; simpa using hn
theorem parA_le (x : List UInt8) : (parA x).2.at_ ≤ x.length := parT_le _ _ _ (Nat.zero_le _)
theorem parB_le (x : List UInt8) : (parB x).2.at_ ≤ x.length := parS_le _ _ _ (parA_le x)
/-- Print of what Parse takes is the text -/
theorem back_text {x : List UInt8} (h : prsE x = 0) : Ok (prsX x) ∧ txt (prsX x) = x := by
  have hE := h
  unfold prsE at h
  split at h
  · cases h
  · split at h
    · cases h
    · split at h
      · cases h
      · rename_i h1 h2 h3
        have hb : (parB x).2.bad = false := by simpa using h2
        have hbA : (parA x).2.bad = false := by
          cases hA : (parA x).2.bad
          · rfl
          · unfold parB at hb; rw [parS_bad hA, hA] at hb; cases hb
        obtain ⟨ts, t1, t2, t3, t4⟩ := parT_inv (x := x) (x.length + 1) [] ⟨0, false⟩ (Nat.zero_le _) hbA
        obtain ⟨ss, s1, s2, s3, s4⟩ := parS_inv (x := x) (x.length + 1) [] (parA x).2 (parA_le x) hb
        have hd := parS_done (x := x) (x.length + 1) [] (parA x).2 (parA_le x) (by omega)
        have e1 : (parA x).1 = ts := by simpa [parA] using t1
        have e2 : (parB x).1 = ss := by simpa [parB] using s1
        have hend : x.drop (parB x).2.at_ = [] := by
          refine List.drop_eq_nil_of_le ?_
          change leftR x (parB x).2 = false at hd
          unfold leftR at hd
          rw [hb] at hd
          simpa using hd
        change AtR x (parA x).2 (ss.flatMap spTxt ++ x.drop (parB x).2.at_) at s3
        rw [hend, List.append_nil] at s3
        change AtR x ⟨0, false⟩ (ts.flatMap tnTxt ++ x.drop (parA x).2.at_) at t3
        rw [s3.2.2] at t3
        have hx : prsX x = ⟨ts, ss⟩ := by unfold prsX; rw [if_pos hE, e1, e2]
        rw [hx]
        rw [e1, e2] at h3
        refine ⟨⟨t2, s2, by show ts.length ≤ 24; omega, by show ss.length ≤ 40; omega⟩, ?_⟩
        have := t3.2.2
        simp only [List.drop_zero] at this
        exact this.symm
/-! the beginning of a text -/
theorem take_get {x : List UInt8} {a i : Nat} (h : i < a) : (x.take a)[i]? = x[i]? := by rw [List.getElem?_take]; simp [h]
theorem wordR_take {x : List UInt8} {a : Nat} (ha : a ≤ x.length) : ∀ (w : List UInt8) (r : Rd), r.bad = false → r.at_ ≤ a → 
    ((wordR x w r).bad = false → (wordR x w r).at_ ≤ a → wordR (x.take a) w r = wordR x w r) ∧ ((wordR x w r).bad = true → (wordR x w r).at_ = a → (wordR (x.take a) w r).at_ = a) := by
  intro w
  induction w with
  | nil => intro r hb hr; exact ⟨fun _ _ => rfl, fun _ h => h⟩
  | cons c w ih =>
    intro r hb hr
    simp only [wordR, hb, Bool.false_eq_true, if_false]
    by_cases hlt : r.at_ < a
    · rw [take_get hlt]
      by_cases hc : x[r.at_]? = some c
      · simp only [hc, if_true]
        exact ih _ rfl (by simp; omega)
      · simp only [hc, if_false]
        exact ⟨fun _ _ => trivial, fun _ h => h⟩
    · have hn : (x.take a)[r.at_]? = none := by rw [List.getElem?_eq_none_iff]; simp; omega
      rw [hn]
      simp only [if_false, reduceCtorEq]
      by_cases hc : x[r.at_]? = some c
      · simp only [hc, if_true]
        have hm := wordR_mono x w ⟨r.at_ + 1, false⟩
        exact ⟨fun _ h => absurd hm.1 (by simp; omega), fun _ h => absurd hm.1 (by simp; omega)⟩
      · simp only [hc, if_false]
        exact ⟨(fun h => by cases h), fun _ h => h⟩
theorem numL_take {x : List UInt8} {a : Nat} (ha : a ≤ x.length) {lo hi : Int} : ∀ (k k' : Nat) (v : Int) (d : Nat) (r : Rd), r.at_ ≤ a → 0 ≤ v → v ≤ max 0 hi → x.length < k + r.at_ → a < k' + r.at_ →
    ((numL x lo hi k v d r).2.bad = false → (numL x lo hi k v d r).2.at_ ≤ a → numL (x.take a) lo hi k' v d r = numL x lo hi k v d r) ∧ ((numL x lo hi k v d r).2.bad = true → (numL x lo hi k v d r).2.at_ = a → (numL (x.take a) lo hi k' v d r).2.at_ = a) := by
  intro k
  induction k with
  | zero => intro k' v d r hr _ _ h1 h2; omega
  | succ k ih =>
    intro k' v d r hr hv0 hv1 h1 h2
    obtain ⟨k', rfl⟩ : ∃ n, k' = n + 1 := ⟨k' - 1, by omega⟩
    by_cases hlt : r.at_ < a
    · have hg := take_get (x := x) hlt
      cases hc : x[r.at_]? with
      | none => rw [numL_none hc, numL_none (hg.trans hc)]; exact ⟨fun _ _ => rfl, fun _ h => h⟩
      | some c =>
        cases hd : isDig c
        · rw [numL_other hc hd, numL_other (hg.trans hc) hd]; exact ⟨fun _ _ => rfl, fun _ h => h⟩
        · by_cases hf : (0 < d ∧ v = 0) ∨ begB (10 * v + ((c.toNat : Int) - 48)) lo hi = false
          · rw [numL_fail hc hd hf, numL_fail (hg.trans hc) hd hf]; exact ⟨fun _ _ => rfl, fun _ h => h⟩
          · rw [numL_step hc hd hf, numL_step (hg.trans hc) hd hf]
            have hrg := dig_range hd
            have hb2 : begB (10 * v + ((c.toNat : Int) - 48)) lo hi = true := by
              cases hx : begB (10 * v + ((c.toNat : Int) - 48)) lo hi
              · exact absurd (.inr hx) hf
              · rfl
            have hm : 10 * v + ((c.toNat : Int) - 48) ≤ max 0 hi := by
              by_cases h0 : 0 ≤ hi
              · have := begB_le hb2 h0; omega
              · unfold begB at hb2
                split at hb2
                · omega
                · have := begF_le _ _ _ _ _ hb2; omega
            exact ih k' _ (d + 1) _ (by simp; omega) (by omega) hm (by simp; omega) (by simp; omega)
    · have hn : (x.take a)[r.at_]? = none := by rw [List.getElem?_eq_none_iff]; simp; omega
      rw [numL_none hn]
      have hra : r.at_ = a := by omega
      refine ⟨fun h h' => ?_, fun _ _ => by rw [(numFin_mono lo hi v d r).1, hra]⟩
      cases hc : x[r.at_]? with
      | none => rw [numL_none hc]
      | some c =>
        cases hd : isDig c
        · rw [numL_other hc hd]
        · by_cases hf : (0 < d ∧ v = 0) ∨ begB (10 * v + ((c.toNat : Int) - 48)) lo hi = false
          · rw [numL_fail hc hd hf] at h; cases h
          · rw [numL_step hc hd hf] at h'
            have hrg := dig_range hd
            have hb2 : begB (10 * v + ((c.toNat : Int) - 48)) lo hi = true := by
              cases hx : begB (10 * v + ((c.toNat : Int) - 48)) lo hi
              · exact absurd (.inr hx) hf
              · rfl
            have hm : 10 * v + ((c.toNat : Int) - 48) ≤ max 0 hi := by
              by_cases h0 : 0 ≤ hi
              · have := begB_le hb2 h0; omega
              · unfold begB at hb2
                split at hb2
                · omega
                · have := begF_le _ _ _ _ _ hb2; omega
            have := (numL_mono x lo hi k (10 * v + ((c.toNat : Int) - 48)) (d + 1) ⟨r.at_ + 1, false⟩ (by omega) hm).1
            simp only at this
            omega
theorem numR_take {x : List UInt8} {a : Nat} (ha : a ≤ x.length) {lo hi : Int} {r : Rd} (hb : r.bad = false) (hr : r.at_ ≤ a) :
    ((numR x lo hi r).2.bad = false → (numR x lo hi r).2.at_ ≤ a → numR (x.take a) lo hi r = numR x lo hi r) ∧ ((numR x lo hi r).2.bad = true → (numR x lo hi r).2.at_ = a → (numR (x.take a) lo hi r).2.at_ = a) := by
  unfold numR
  rw [if_neg (by simp [hb]), if_neg (by simp [hb])]
  exact numL_take ha _ _ 0 0 r hr (by omega) (by omega) (by omega) (by simp; omega)
/-- at the end of a text nothing goes on -/
theorem wordR_stay {x : List UInt8} {a : Nat} (ha : a ≤ x.length) (w : List UInt8) {r : Rd} (hr : r.at_ = a) : (wordR (x.take a) w r).at_ = a := by
  obtain ⟨h1, h2, _⟩ := wordR_mono (x.take a) w r
  have h3 : (x.take a).length = a := by simp; omega
  have := h2 (by omega)
  omega
theorem numR_stay {x : List UInt8} {a : Nat} (ha : a ≤ x.length) (lo hi : Int) {r : Rd} (hr : r.at_ = a) : (numR (x.take a) lo hi r).2.at_ = a := by
  obtain ⟨h1, h2, _⟩ := numR_mono (x.take a) lo hi r
  have h3 : (x.take a).length = a := by simp; omega
  have := h2 (by omega)
  omega
/-- a stage of reading: on a text, and on its beginning -/
structure Stg {α : Type} (a : Nat) (fx fy : Rd → α × Rd) : Prop where
  same : ∀ r, r.bad = false → r.at_ ≤ a → (fx r).2.bad = false → (fx r).2.at_ ≤ a → fy r = fx r
  stop : ∀ r, r.bad = false → r.at_ ≤ a → (fx r).2.bad = true → (fx r).2.at_ = a → (fy r).2.at_ = a
  mono : ∀ r, r.at_ ≤ (fx r).2.at_
  bad : ∀ r, r.bad = true → (fx r).2 = r
  stay : ∀ r, r.at_ = a → (fy r).2.at_ = a
def bnd {α β : Type} (f : Rd → α × Rd) (g : α → Rd → β × Rd) (r : Rd) : β × Rd := g (f r).1 (f r).2
theorem Stg.bind {α β : Type} {a : Nat} {fx fy : Rd → α × Rd} {gx gy : α → Rd → β × Rd} (h : Stg a fx fy) (k : ∀ v, Stg a (gx v) (gy v)) : Stg a (bnd fx gx) (bnd fy gy) where
  same r hb hr h1 h2 := by
    unfold bnd at *
    have hm := (k (fx r).1).mono (fx r).2
    have hs : (fx r).2.bad = false := by
      cases e : (fx r).2.bad
      · rfl
      · rw [(k _).bad _ e, e] at h1; cases h1
    rw [h.same r hb hr hs (by omega), (k _).same _ hs (by omega) h1 h2]
  stop r hb hr h1 h2 := by
    unfold bnd at *
    cases e : (fx r).2.bad
    · have hm := (k (fx r).1).mono (fx r).2
      rw [h.same r hb hr e (by omega)]
      exact (k _).stop _ e (by omega) h1 h2
    · rw [(k _).bad _ e] at h2
      exact (k _).stay _ (h.stop r hb hr e h2)
  mono r := Nat.le_trans (h.mono r) ((k _).mono _)
  bad r hb := by
    unfold bnd
    rw [(k _).bad _ (by rw [h.bad r hb]; exact hb), h.bad r hb]
  stay r hr := (k _).stay _ (h.stay r hr)
theorem Stg.pure_ {α : Type} (a : Nat) (v : α) : Stg a (fun r => (v, r)) (fun r => (v, r)) where
  same _ _ _ _ _ := rfl
  stop _ _ _ _ h := h
  mono _ := Nat.le_refl _
  bad _ _ := rfl
  stay _ h := h
theorem stg_word {x : List UInt8} {a : Nat} (ha : a ≤ x.length) (w : List UInt8) : Stg a (fun r => ((), wordR x w r)) (fun r => ((), wordR (x.take a) w r)) where
  same r hb hr h1 h2 := by rw [(wordR_take ha w r hb hr).1 h1 h2]
  stop r hb hr h1 h2 := (wordR_take ha w r hb hr).2 h1 h2
  mono r := (wordR_mono x w r).1
  bad r hb := wordR_bad x w r hb
  stay r hr := wordR_stay ha w hr
theorem stg_num {x : List UInt8} {a : Nat} (ha : a ≤ x.length) (lo hi : Int) : Stg a (numR x lo hi) (numR (x.take a) lo hi) where
  same r hb hr h1 h2 := (numR_take ha hb hr).1 h1 h2
  stop r hb hr h1 h2 := (numR_take ha hb hr).2 h1 h2
  mono r := (numR_mono x lo hi r).1
  bad r hb := by rw [numR_bad x lo hi r hb]
  stay r hr := numR_stay ha lo hi hr
def wd (x w : List UInt8) (r : Rd) : Unit × Rd := ((), wordR x w r)
def turnM (x : List UInt8) : Rd → Tn × Rd :=
  bnd (wd x [101, 118, 101, 114, 121, 32]) fun _ => bnd (numR x 1 40320) fun p => bnd (wd x [32, 102, 114, 111, 109, 32]) fun _ => bnd (numR x 0 (p - 1)) fun f => bnd (wd x [32, 102, 111, 114, 32]) fun _ => bnd (numR x 1 p) fun l => bnd (wd x [59, 10]) fun _ => fun r => (⟨p, f, l⟩, r)
def spanM (x : List UInt8) : Rd → Sp × Rd :=
  bnd (wd x [98, 101, 116, 119, 101, 101, 110, 32]) fun _ => bnd (numR x 0 1048576) fun p => bnd (wd x [32, 97, 110, 100, 32]) fun _ => bnd (numR x p 1048576) fun f => bnd (wd x [59, 10]) fun _ => fun r => (⟨p, f⟩, r)
theorem turnR_M (x : List UInt8) : turnR x = turnM x := rfl
theorem spanR_M (x : List UInt8) : spanR x = spanM x := rfl
theorem stg_turn {x : List UInt8} {a : Nat} (ha : a ≤ x.length) : Stg a (turnR x) (turnR (x.take a)) := by
  rw [turnR_M, turnR_M]
  exact (stg_word ha _).bind fun _ => (stg_num ha _ _).bind fun _ => (stg_word ha _).bind fun _ => (stg_num ha _ _).bind fun _ => (stg_word ha _).bind fun _ => (stg_num ha _ _).bind fun _ => (stg_word ha _).bind fun _ => Stg.pure_ _ _
theorem stg_span {x : List UInt8} {a : Nat} (ha : a ≤ x.length) : Stg a (spanR x) (spanR (x.take a)) := by
  rw [spanR_M, spanR_M]
  exact (stg_word ha _).bind fun _ => (stg_num ha _ _).bind fun _ => (stg_word ha _).bind fun _ => (stg_num ha _ _).bind fun _ => (stg_word ha _).bind fun _ => Stg.pure_ _ _
theorem leftR_take {x : List UInt8} {a : Nat} (ha : a ≤ x.length) {r : Rd} : (r.at_ < a → leftR (x.take a) r = leftR x r) ∧ (a ≤ r.at_ → leftR (x.take a) r = false) := by
  have h3 : (x.take a).length = a := by simp; omega
  unfold leftR
  rw [h3]
  refine ⟨fun h => ?_, fun h => ?_⟩
  · rw [decide_eq_true h, decide_eq_true (show r.at_ < x.length by omega)]
  · rw [decide_eq_false (by omega), Bool.and_false]
theorem goT_take {x : List UInt8} {a : Nat} (ha : a ≤ x.length) {r : Rd} : (r.at_ < a → goT (x.take a) r = goT x r) ∧ (a ≤ r.at_ → goT (x.take a) r = false) := by
  unfold goT
  refine ⟨fun h => ?_, fun h => ?_⟩
  · rw [(leftR_take ha).1 h, take_get h]
  · rw [(leftR_take ha).2 h, Bool.false_and]
theorem parT_stay {x : List UInt8} {a : Nat} (ha : a ≤ x.length) {k : Nat} {acc : List Tn} {r : Rd} (h : a ≤ r.at_) : parT (x.take a) k acc r = (acc, r) := by
  cases k with
  | zero => rfl
  | succ k => simp only [parT, (goT_take ha).2 h, Bool.false_eq_true, if_false]
theorem parS_stay {x : List UInt8} {a : Nat} (ha : a ≤ x.length) {k : Nat} {acc : List Sp} {r : Rd} (h : a ≤ r.at_) : parS (x.take a) k acc r = (acc, r) := by
  cases k with
  | zero => rfl
  | succ k => simp only [parS, (leftR_take ha).2 h, Bool.false_eq_true, if_false]
theorem parT_mono {x : List UInt8} : ∀ (k : Nat) (acc : List Tn) (r : Rd), r.at_ ≤ (parT x k acc r).2.at_ := by
  intro k
  induction k with
  | zero => intro acc r; exact Nat.le_refl _
  | succ k ih =>
    intro acc r
    simp only [parT]
    split
    · exact Nat.le_trans ((stg_turn (Nat.le_refl _)).mono r) (ih _ _)
    · exact Nat.le_refl _
theorem parS_mono {x : List UInt8} : ∀ (k : Nat) (acc : List Sp) (r : Rd), r.at_ ≤ (parS x k acc r).2.at_ := by
  intro k
  induction k with
  | zero => intro acc r; exact Nat.le_refl _
  | succ k ih =>
    intro acc r
    simp only [parS]
    split
    · exact Nat.le_trans ((stg_span (Nat.le_refl _)).mono r) (ih _ _)
    · exact Nat.le_refl _
theorem parT_take {x : List UInt8} {a : Nat} (ha : a ≤ x.length) : ∀ (k k' : Nat) (acc : List Tn) (r : Rd), r.bad = false → r.at_ ≤ a → x.length < k + r.at_ → a < k' + r.at_ →
    ((parT x k acc r).2.bad = false → (parT x k acc r).2.at_ ≤ a → parT (x.take a) k' acc r = parT x k acc r ∨ (parT (x.take a) k' acc r).2.at_ = a) ∧
    ((parT x k acc r).2.bad = true → (parT x k acc r).2.at_ = a → (parT (x.take a) k' acc r).2.at_ = a) := by
  intro k
  induction k with
  | zero => intro k' acc r hb hr h1 h2; omega
  | succ k ih =>
    intro k' acc r hb hr h1 h2
    obtain ⟨k', rfl⟩ : ∃ n, k' = n + 1 := ⟨k' - 1, by omega⟩
    by_cases hlt : r.at_ < a
    · simp only [parT, (goT_take ha).1 hlt]
      by_cases hg : goT x r = true
      · simp only [hg, if_true]
        have hm := parT_mono (x := x) k (acc ++ [(turnR x r).1]) (turnR x r).2
        cases hs : (turnR x r).2.bad
        · obtain ⟨s1, s2⟩ := turnR_step x r (by omega)
          have hp := s2 hs
          refine ⟨fun g1 g2 => ?_, fun g1 g2 => ?_⟩
          · rw [(stg_turn ha).same r hb hr hs (by omega)]
            exact (ih k' _ _ hs (by omega) (by omega) (by omega)).1 g1 g2
          · rw [(stg_turn ha).same r hb hr hs (by omega)]
            exact (ih k' _ _ hs (by omega) (by omega) (by omega)).2 g1 g2
        · rw [parT_bad hs]
          refine ⟨(fun g1 _ => by rw [hs] at g1; cases g1), fun _ g2 => ?_⟩
          have := (stg_turn ha).stop r hb hr hs g2
          rw [parT_stay ha (by omega)]; exact this
      · rw [if_neg hg, if_neg hg]
        exact ⟨fun _ _ => .inl rfl, fun _ h => h⟩
    · rw [parT_stay ha (by omega)]
      exact ⟨fun _ _ => .inr (by simp; omega), fun _ _ => by simp; omega⟩
theorem parS_take {x : List UInt8} {a : Nat} (ha : a ≤ x.length) : ∀ (k k' : Nat) (acc : List Sp) (r : Rd), r.bad = false → r.at_ ≤ a → x.length < k + r.at_ → a < k' + r.at_ →
    ((parS x k acc r).2.bad = true → (parS x k acc r).2.at_ = a → (parS (x.take a) k' acc r).2.at_ = a) := by
  intro k
  induction k with
  | zero => intro k' acc r hb hr h1 h2; omega
  | succ k ih =>
    intro k' acc r hb hr h1 h2
    obtain ⟨k', rfl⟩ : ∃ n, k' = n + 1 := ⟨k' - 1, by omega⟩
    by_cases hlt : r.at_ < a
    · simp only [parS, (leftR_take ha).1 hlt]
      by_cases hg : leftR x r = true
      · simp only [hg, if_true]
        have hm := parS_mono (x := x) k (acc ++ [(spanR x r).1]) (spanR x r).2
        cases hs : (spanR x r).2.bad
        · obtain ⟨s1, s2⟩ := spanR_step x r (by omega)
          have hp := s2 hs
          intro g1 g2
          rw [(stg_span ha).same r hb hr hs (by omega)]
          exact ih k' _ _ hs (by omega) (by omega) (by omega) g1 g2
        · rw [parS_bad hs]
          intro _ g2
          have := (stg_span ha).stop r hb hr hs g2
          rw [parS_stay ha (by omega)]; exact this
      · rw [if_neg hg, if_neg hg]
        exact fun _ h => h
    · rw [parS_stay ha (by omega)]
      exact fun _ _ => by simp; omega
/-- the beginning of a text up to an error is not refused earlier -/
theorem back_begin {x : List UInt8} (h : prsE x = 7) : ∃ a : Nat, prsA x = a ∧ a ≤ x.length ∧ (prsE (x.take a) = 7 → prsA (x.take a) = a) := by
  unfold prsE at h
  split at h
  · cases h
  · split at h
    · rename_i hl hb
      refine ⟨(parB x).2.at_, by unfold prsA; rw [if_neg hl, if_pos hb], parB_le x, ?_⟩
      obtain ⟨a, hae⟩ : ∃ a, (parB x).2.at_ = a := ⟨_, rfl⟩
      have ha : a ≤ x.length := by rw [← hae]; exact parB_le x
      have hla : (x.take a).length = a := by simp; omega
      rw [hae]
      have hfin : (parB (x.take a)).2.at_ = a := by
        have hstay : (parA (x.take a)).2.at_ = a → (parB (x.take a)).2.at_ = a := by
          intro e
          unfold parB
          rw [parS_stay ha (by omega)]; exact e
        have hm : (parA x).2.at_ ≤ (parB x).2.at_ := parS_mono _ _ _
        obtain ⟨t1, t2⟩ := parT_take ha (x.length + 1) ((x.take a).length + 1) [] ⟨0, false⟩ rfl (Nat.zero_le _) (by simp) (by rw [hla]; simp)
        cases hA : (parA x).2.bad
        · rcases t1 hA (by change (parA x).2.at_ ≤ a; omega) with e | e
          · change parA (x.take a) = parA x at e
            by_cases hlt : (parA x).2.at_ = a
            · exact hstay (by rw [e]; exact hlt)
            · have := parS_take ha (x.length + 1) ((x.take a).length + 1) [] (parA x).2 hA (by omega) (by omega) (by rw [hla]; omega) hb hae
              unfold parB; rw [e]; exact this
          · exact hstay e
        · have : (parB x).2 = (parA x).2 := by unfold parB; rw [parS_bad hA]
          rw [this] at hae
          exact hstay (t2 hA hae)
      intro h7
      unfold prsE at h7
      rw [hla] at h7
      unfold prsA
      rw [hla]
      have : ¬ 3000 < a := by omega
      rw [if_neg this] at h7 ⊢
      split at h7
      · rename_i hb7; rw [if_pos hb7, hfin]
      · split at h7 <;> cases h7
    · split at h <;> cases h
end Go.Proofs.YtejmmfjabmmihaaDoor
