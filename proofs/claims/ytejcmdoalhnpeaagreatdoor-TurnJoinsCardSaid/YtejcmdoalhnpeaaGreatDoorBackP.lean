/- TurnReadsBack, the plain law: Parse of Print is the set; Print of what Parse takes is the text; the beginning of a text up to an error is not refused earlier. -/
import Derived.Test.YtejcmdoalhnpeaaGreatDoorNum
import Derived.Test.YtejcmdoalhnpeaaGreatDoorPrint
namespace Go.Proofs.YtejcmdoalhnpeaaGreatDoor
open Go.RowKit Go.Shelf

/-- the text from here on -/
def AtR (x : List UInt8) (r : Rd) (t : List UInt8) : Prop := r.bad = false ∧ r.at_ ≤ x.length ∧ x.drop r.at_ = t
theorem AtR.get {x t : List UInt8} {c : UInt8} {r : Rd} (h : AtR x r (c :: t)) : x[r.at_]? = some c ∧ r.at_ < x.length ∧ AtR x ⟨r.at_ + 1, false⟩ t := by
  obtain ⟨h1, h2, h3⟩ := h
  have hlt : r.at_ < x.length := by
    rcases Nat.lt_or_ge r.at_ x.length with h | h
    · exact h
    · rw [List.drop_eq_nil_of_le h] at h3; cases h3
  have hd := List.drop_eq_getElem_cons hlt
  rw [hd] at h3
  injection h3 with h4 h5
  exact ⟨by rw [List.getElem?_eq_getElem hlt, h4], hlt, rfl, by simp; omega, h5⟩
theorem AtR.mk_ {x : List UInt8} {r : Rd} (h : r.bad = false) (h2 : r.at_ ≤ x.length) : AtR x r (x.drop r.at_) := ⟨h, h2, rfl⟩
theorem AtR.word {x : List UInt8} : ∀ (w : List UInt8) {t : List UInt8} {r : Rd}, AtR x r (w ++ t) → AtR x (wordR x w r) t := by
  intro w
  induction w with
  | nil => intro t r h; exact h
  | cons c w ih =>
    intro t r h
    obtain ⟨h1, h2, h3⟩ := h.get
    simp only [wordR, h.1, Bool.false_eq_true, if_false, h1, if_true]
    exact ih h3
theorem AtR.bad_ {x t : List UInt8} {r : Rd} (h : AtR x r t) : r.bad = false := h.1
theorem AtR.len {x t : List UInt8} {r : Rd} (h : AtR x r t) : r.at_ + t.length = x.length := by
  obtain ⟨_, h2, h3⟩ := h
  rw [← h3, List.length_drop]; omega
/-- what digits say, behind a number -/
def valD (v : Int) (ds : List UInt8) : Int := ds.foldl (fun a c => 10 * a + ((c.toNat : Int) - 48)) v
theorem valD_snoc (v : Int) (ds : List UInt8) (c : UInt8) : valD v (ds ++ [c]) = 10 * valD v ds + ((c.toNat : Int) - 48) := by simp [valD]
theorem valD_cons (v : Int) (ds : List UInt8) (c : UInt8) : valD v (c :: ds) = valD (10 * v + ((c.toNat : Int) - 48)) ds := rfl
theorem dig_byte {u : Nat} (h : u < 10) : isDig (UInt8.ofNat (48 + u)) = true ∧ ((UInt8.ofNat (48 + u)).toNat : Int) - 48 = u := by
  have e : (UInt8.ofNat (48 + u)).toNat = 48 + u := by simp [UInt8.toNat_ofNat']; omega
  refine ⟨?_, by omega⟩
  simp only [isDig, Bool.and_eq_true, decide_eq_true_eq, UInt8.le_iff_toNat_le, e]
  have h1 : (48 : UInt8).toNat = 48 := rfl
  have h2 : (57 : UInt8).toNat = 57 := rfl
  omega
theorem decD_small {u : Nat} (h : u < 10) : Lib.decDigits u = [UInt8.ofNat (48 + u)] := by rw [Lib.decDigits]; simp [h]
theorem decD_big {u : Nat} (h : ¬ u < 10) : Lib.decDigits u = Lib.decDigits (u / 10) ++ [UInt8.ofNat (48 + u % 10)] := by rw [Lib.decDigits]; simp [h]
/-- the digits of a number: they are digits, they say it, they are some, and the first is not 0 where there are more -/
theorem decD_spec (u : Nat) : (∀ c ∈ Lib.decDigits u, isDig c = true) ∧ valD 0 (Lib.decDigits u) = u ∧ ∃ c ds, Lib.decDigits u = c :: ds ∧ (ds ≠ [] → 0 < (c.toNat : Int) - 48) ∧ (0 < u → 0 < (c.toNat : Int) - 48) := by
  induction u using Nat.strongRecOn with
  | _ u ih =>
    by_cases h : u < 10
    · rw [decD_small h]
      obtain ⟨h1, h2⟩ := dig_byte h
      exact ⟨by simpa using h1, by show 10 * (0 : Int) + (((UInt8.ofNat (48 + u)).toNat : Int) - 48) = u; omega, _, [], rfl, by simp, fun h0 => by omega⟩
    · rw [decD_big h]
      obtain ⟨i1, i2, c, ds, i3, i4, i5⟩ := ih (u / 10) (by omega)
      obtain ⟨h1, h2⟩ := dig_byte (show u % 10 < 10 by omega)
      refine ⟨?_, ?_, c, ds ++ [UInt8.ofNat (48 + u % 10)], by rw [i3]; rfl, fun _ => i5 (by omega), fun _ => i5 (by omega)⟩
      · intro d hd
        rw [List.mem_append] at hd
        rcases hd with hd | hd
        · exact i1 d hd
        · simp only [List.mem_singleton] at hd; rw [hd]; exact h1
      · rw [valD_snoc, i2, h2]; omega
theorem valD_ge : ∀ (ds : List UInt8) (v : Int), 0 ≤ v → (∀ c ∈ ds, isDig c = true) → v ≤ valD v ds := by
  intro ds
  induction ds with
  | nil => intro v _ _; exact Int.le_refl _
  | cons c ds ih =>
    intro v hv hd
    have hc := dig_range (hd c (by simp))
    have h1 := ih (10 * v + ((c.toNat : Int) - 48)) (by omega) (fun d h => hd d (by simp [h]))
    rw [valD_cons]; omega
theorem begF_pref {lo hi : Int} : ∀ (ds : List UInt8) (fuel : Nat) (f t v : Int), ds.length < fuel → 0 ≤ f → f ≤ v → v ≤ t → (∀ c ∈ ds, isDig c = true) → lo ≤ valD v ds → valD v ds ≤ hi → begF lo hi fuel f t = true := by
  intro ds
  induction ds with
  | nil =>
    intro fuel f t v hk h0 h1 h2 _ h3 h4
    have e : valD v [] = v := rfl
    rw [e] at h3 h4
    obtain ⟨k, rfl⟩ : ∃ k, fuel = k + 1 := ⟨fuel - 1, by omega⟩
    simp only [begF]
    rw [if_pos (by omega), if_pos (by omega)]
  | cons c ds ih =>
    intro fuel f t v hk h0 h1 h2 hd h3 h4
    have hge := valD_ge (c :: ds) v (by omega) hd
    have hc := dig_range (hd c (by simp))
    obtain ⟨k, rfl⟩ : ∃ k, fuel = k + 1 := ⟨fuel - 1, by omega⟩
    simp only [begF]
    rw [if_pos (by omega)]
    split
    · rfl
    · simp only [List.length_cons] at hk
      exact ih k (10 * f) (10 * t + 9) (10 * v + ((c.toNat : Int) - 48)) (by omega) (by omega) (by omega) (by omega) (fun d h => hd d (by simp [h])) (by rw [← valD_cons]; exact h3) (by rw [← valD_cons]; exact h4)
theorem begB_pref {lo hi u : Int} {ds : List UInt8} (h0 : 0 ≤ lo) (hu : 0 ≤ u) (hl : ds.length < 9) (hd : ∀ c ∈ ds, isDig c = true) (hz : ds ≠ [] → 0 < u) (h3 : lo ≤ valD u ds) (h4 : valD u ds ≤ hi) : begB u lo hi = true := by
  unfold begB
  split
  · rename_i e
    cases ds with
    | nil => have e2 : valD u [] = u := rfl; rw [e2] at h3; simp; omega
    | cons c ds => exact absurd (hz (by simp)) (by omega)
  · exact begF_pref ds 9 u u u hl hu (by omega) (by omega) hd h3 h4

/-- no digit stands next -/
def NoDig (t : List UInt8) : Prop := ∀ c t', t = c :: t' → isDig c = false
theorem numL_end {x t : List UInt8} {r : Rd} (h : AtR x r t) (ht : NoDig t) (lo hi n : Int) (k d : Nat) : numL x lo hi k n d r = numFin lo hi n d r := by
  cases k with
  | zero => rfl
  | succ k =>
    simp only [numL]
    cases t with
    | nil =>
      have hn : x[r.at_]? = none := by
        have := h.len
        rw [List.getElem?_eq_none_iff]; simp at this; omega
      rw [hn]
    | cons c t =>
      rw [(h.get).1]
      simp only [ht c t rfl, Bool.false_eq_true, if_false]
theorem numL_digits {x t : List UInt8} {lo hi : Int} (h0 : 0 ≤ lo) (ht : NoDig t) : ∀ (ds : List UInt8) (k : Nat) (v : Int) (d : Nat) (r : Rd), AtR x r (ds ++ t) → (∀ c ∈ ds, isDig c = true) → ds.length ≤ k → ds.length ≤ 9 → 0 ≤ v →
    (0 < d + ds.length) → (ds ≠ [] → 0 < d → 0 < v) → (∀ c ds', ds = c :: ds' → ds' ≠ [] → 0 < 10 * v + ((c.toNat : Int) - 48)) → lo ≤ valD v ds → valD v ds ≤ hi →
    (numL x lo hi k v d r).1 = valD v ds ∧ AtR x (numL x lo hi k v d r).2 t := by
  intro ds
  induction ds with
  | nil =>
    intro k v d r hr _ _ _ _ hd _ _ h1 h2
    rw [numL_end hr ht]
    have e : valD v [] = v := rfl
    rw [e] at h1 h2
    rw [numFin, if_neg (by simp [inB_iff]; simp at hd; exact ⟨by omega, h1, h2⟩)]
    exact ⟨rfl, hr⟩
  | cons c ds ih =>
    intro k v d r hr hdg hk h9 hv hd hz hz2 h1 h2
    obtain ⟨g1, g2, g3⟩ := AtR.get (t := ds ++ t) hr
    have hc := dig_range (hdg c (by simp))
    obtain ⟨k, rfl⟩ : ∃ k', k = k' + 1 := ⟨k - 1, by simp at hk; omega⟩
    rw [valD_cons] at h1 h2
    have hb : begB (10 * v + ((c.toNat : Int) - 48)) lo hi = true := begB_pref h0 (by omega) (by simp at h9; omega) (fun d h => hdg d (by simp [h])) (hz2 c ds rfl) h1 h2
    have hnf : ¬ ((0 < d ∧ v = 0) ∨ begB (10 * v + ((c.toNat : Int) - 48)) lo hi = false) := by
      rw [hb]
      rintro (⟨p1, p2⟩ | p)
      · have := hz (by simp) p1; omega
      · cases p
    simp only [numL, g1, hdg c (by simp), if_true]
    rw [if_neg hnf, valD_cons]
    simp only [List.length_cons] at hk h9
    refine ih k _ (d + 1) _ g3 (fun d h => hdg d (by simp [h])) (by omega) (by omega) (by omega) (by omega) (fun hne _ => hz2 c ds rfl hne) (fun c' ds' e hne => ?_) h1 h2
    have hp := hz2 c ds rfl (by rw [e]; simp)
    have hc' := dig_range (hdg c' (by rw [e]; simp))
    omega
theorem dg_list {n : Int} (h0 : 0 ≤ n) : (∀ c ∈ dg n, isDig c = true) ∧ valD 0 (dg n) = n ∧ ∃ c ds, dg n = c :: ds ∧ (ds ≠ [] → 0 < (c.toNat : Int) - 48) ∧ (0 < n → 0 < (c.toNat : Int) - 48) := by
  obtain ⟨h1, h2, c, ds, h3, h4, h5⟩ := decD_spec n.toNat
  exact ⟨h1, by unfold dg; rw [h2]; omega, c, ds, h3, h4, fun h => h5 (by omega)⟩
theorem AtR.num {x t : List UInt8} {r : Rd} {n lo hi : Int} (h : AtR x r (dg n ++ t)) (ht : NoDig t) (h0 : 0 ≤ lo) (h1 : lo ≤ n) (h2 : n ≤ hi) (h3 : n ≤ 9999999) : (numR x lo hi r).1 = n ∧ AtR x (numR x lo hi r).2 t := by
  obtain ⟨g1, g2, c, ds, g3, g4, _⟩ := dg_list (show 0 ≤ n by omega)
  have hl := dg_len n h3
  have hlen := h.len
  simp only [List.length_append] at hlen
  unfold numR
  rw [if_neg (by simp [h.bad_])]
  have := numL_digits h0 ht (dg n) (x.length + 1 - r.at_) 0 0 r h g1 (by omega) (by omega) (by omega) (by rw [g3]; simp) (fun _ h => absurd h (by omega)) (fun c' ds' e hne => by
    rw [g3] at e; injection e with e1 e2; subst e1; subst e2; have := g4 hne; omega) (by rw [g2]; exact h1) (by rw [g2]; exact h2)
  rw [g2] at this
  exact this
theorem noDig_of {c : UInt8} {t : List UInt8} (h : isDig c = false) : NoDig (c :: t) := by
  intro c' t' e; injection e with e1 _; rw [← e1]; exact h
theorem AtR.turn {x t : List UInt8} {r : Rd} {u : Tn} (hv : tnB u.p u.f u.l = true) (h : AtR x r (tnTxt u ++ t)) : (turnR x r).1 = u ∧ AtR x (turnR x r).2 t := by
  have hb := tnB_t hv
  simp only [tnTxt, List.append_assoc] at h
  have a1 := h.word
  obtain ⟨b1, b2⟩ := a1.num (lo := 1) (hi := 40320) (noDig_of (by decide)) (by omega) (by omega) (by omega) (by omega)
  have a2 := b2.word
  obtain ⟨c1, c2⟩ := a2.num (lo := 0) (hi := u.p - 1) (noDig_of (by decide)) (by omega) (by omega) (by omega) (by omega)
  have a3 := c2.word
  obtain ⟨d1, d2⟩ := a3.num (lo := 1) (hi := u.p) (noDig_of (by decide)) (by omega) (by omega) (by omega) (by omega)
  have a4 := d2.word
  simp only [turnR]
  rw [b1, c1, d1]
  exact ⟨rfl, a4⟩
theorem AtR.span {x t : List UInt8} {r : Rd} {u : Sp} (hv : spB u.lo u.hi = true) (h : AtR x r (spTxt u ++ t)) : (spanR x r).1 = u ∧ AtR x (spanR x r).2 t := by
  have hb := spB_t hv
  simp only [spTxt, List.append_assoc] at h
  have a1 := h.word
  obtain ⟨b1, b2⟩ := a1.num (lo := 0) (hi := 1048576) (noDig_of (by decide)) (by omega) (by omega) (by omega) (by omega)
  have a2 := b2.word
  obtain ⟨c1, c2⟩ := a2.num (lo := u.lo) (hi := 1048576) (noDig_of (by decide)) (by omega) (by omega) (by omega) (by omega)
  have a4 := c2.word
  simp only [spanR]
  rw [b1, c1]
  exact ⟨rfl, a4⟩
theorem AtR.left {x t : List UInt8} {r : Rd} (h : AtR x r t) : leftR x r = !t.isEmpty := by
  have hl := h.len
  unfold leftR
  rw [h.bad_]
  cases t with
  | nil => simp at hl; simp; omega
  | cons c t => simp at hl; simp; omega
theorem parT_back {x u : List UInt8} (hu : u = [] ∨ ∃ u', u = 98 :: u') : ∀ (ts acc : List Tn) (r : Rd) (k : Nat), (∀ t ∈ ts, tnB t.p t.f t.l = true) → AtR x r (ts.flatMap tnTxt ++ u) → ts.length < k →
    (parT x k acc r).1 = acc ++ ts ∧ AtR x (parT x k acc r).2 u := by
  intro ts
  induction ts with
  | nil =>
    intro acc r k _ h hk
    obtain ⟨k, rfl⟩ : ∃ k', k = k' + 1 := ⟨k - 1, by simp at hk; omega⟩
    have hg : goT x r = false := by
      unfold goT
      rw [h.left]
      rcases hu with rfl | ⟨u', rfl⟩
      · rfl
      · have := (AtR.get (t := u') h).1
        rw [this]; simp
    simp only [parT, hg, Bool.false_eq_true, if_false]
    exact ⟨by simp, h⟩
  | cons t ts ih =>
    intro acc r k hv h hk
    obtain ⟨k, rfl⟩ : ∃ k', k = k' + 1 := ⟨k - 1, by simp at hk; omega⟩
    rw [List.flatMap_cons, List.append_assoc] at h
    have hg : goT x r = true := by
      unfold goT
      rw [h.left]
      have := (AtR.get (c := 101) (t := [118, 101, 114, 121, 32] ++ (dg t.p ++ ([32, 102, 114, 111, 109, 32] ++ (dg t.f ++ ([32, 102, 111, 114, 32] ++ (dg t.l ++ ([59, 10] ++ (ts.flatMap tnTxt ++ u)))))))) (by simpa [tnTxt] using h)).1
      rw [this]
      simp [tnTxt]
    obtain ⟨e1, e2⟩ := AtR.turn (hv t (by simp)) h
    simp only [parT, hg, if_true]
    rw [e1]
    have := ih (acc ++ [t]) _ k (fun s hs => hv s (by simp [hs])) e2 (by simp at hk; omega)
    simpa using this
theorem parS_back {x : List UInt8} : ∀ (ss acc : List Sp) (r : Rd) (k : Nat), (∀ t ∈ ss, spB t.lo t.hi = true) → AtR x r (ss.flatMap spTxt) → ss.length < k →
    (parS x k acc r).1 = acc ++ ss ∧ AtR x (parS x k acc r).2 [] := by
  intro ss
  induction ss with
  | nil =>
    intro acc r k _ h hk
    obtain ⟨k, rfl⟩ : ∃ k', k = k' + 1 := ⟨k - 1, by simp at hk; omega⟩
    have hg : leftR x r = false := by rw [h.left]; rfl
    simp only [parS, hg, Bool.false_eq_true, if_false]
    exact ⟨by simp, h⟩
  | cons t ss ih =>
    intro acc r k hv h hk
    obtain ⟨k, rfl⟩ : ∃ k', k = k' + 1 := ⟨k - 1, by simp at hk; omega⟩
    rw [List.flatMap_cons] at h
    have hg : leftR x r = true := by rw [h.left]; simp [spTxt]
    obtain ⟨e1, e2⟩ := AtR.span (hv t (by simp)) h
    simp only [parS, hg, if_true]
    rw [e1]
    have := ih (acc ++ [t]) _ k (fun s hs => hv s (by simp [hs])) e2 (by simp at hk; omega)
    simpa using this
theorem flat_ge {α : Type} (f : α → List UInt8) (l : List α) (h : ∀ x, 1 ≤ (f x).length) : l.length ≤ (l.flatMap f).length := by
  induction l with
  | nil => simp
  | cons x l ih => have := h x; simp only [List.flatMap_cons, List.length_append, List.length_cons]; omega
theorem Ok.chk {S : Mn} (h : Ok S) : chkE S = 0 := by
  have h1 := h.lt
  have h2 := h.ls
  refine (chkE_ok h1 h2 ?_).symm
  rw [Bool.or_eq_false_iff]
  constructor
  · unfold badT; rw [List.any_eq_false]; intro t ht; rw [h.t t ht]; simp
  · unfold badS; rw [List.any_eq_false]; intro t ht; rw [h.s t ht]; simp
/-- Parse of Print is the set -/
theorem back_set {S : Mn} (h : Ok S) : prsE (txt S) = 0 ∧ prsA (txt S) = 0 ∧ prsX (txt S) = S ∧ (txt S).length ≤ 2560 := by
  have h1 := flat_len tnTxt S.ts (fun t ht => tnTxt_len t (h.t t ht))
  have h2 := flat_len spTxt S.ss (fun t ht => spTxt_len t (h.s t ht))
  have h3 := h.lt
  have h4 := h.ls
  have hlen : (txt S).length ≤ 2560 := by unfold txt; rw [List.length_append]; omega
  have g1 := flat_ge tnTxt S.ts (fun x => by simp [tnTxt])
  have g2 := flat_ge spTxt S.ss (fun x => by simp [spTxt])
  have hl : (txt S).length = (S.ts.flatMap tnTxt).length + (S.ss.flatMap spTxt).length := by unfold txt; rw [List.length_append]
  have hA : AtR (txt S) ⟨0, false⟩ (S.ts.flatMap tnTxt ++ S.ss.flatMap spTxt) := ⟨rfl, Nat.zero_le _, rfl⟩
  have hu : S.ss.flatMap spTxt = [] ∨ ∃ u', S.ss.flatMap spTxt = 98 :: u' := by
    cases S.ss with
    | nil => exact .inl rfl
    | cons s ss => right; exact ⟨_, by simp only [List.flatMap_cons, spTxt, List.cons_append, List.append_assoc]; rfl⟩
  obtain ⟨p1, p2⟩ := parT_back hu S.ts [] ⟨0, false⟩ ((txt S).length + 1) h.t hA (by omega)
  obtain ⟨q1, q2⟩ := parS_back S.ss [] _ ((txt S).length + 1) h.s p2 (by omega)
  have e1 : (parA (txt S)).1 = S.ts := by unfold parA; rw [p1]; rfl
  have e2 : (parB (txt S)).1 = S.ss := by unfold parB parA; rw [q1]; rfl
  have e3 : (parB (txt S)).2.bad = false := by unfold parB parA; exact q2.bad_
  have hE : prsE (txt S) = 0 := by
    unfold prsE
    rw [if_neg (by omega), if_neg (by simp [e3]), if_neg (by rw [e1, e2]; omega)]
  refine ⟨hE, ?_, ?_, hlen⟩
  · unfold prsA; rw [if_neg (by omega), if_neg (by simp [e3])]
  · unfold prsX; rw [if_pos hE, e1, e2]
end Go.Proofs.YtejcmdoalhnpeaaGreatDoor
