/- Plain words for trees of reaches and those who pay for them: what is checked, the way up from a reach, who uses it. No program in sight. Plain words for costs: sums over reaches, whatever the order; what some payers would pay alone. No program in sight. Fractions in lowest terms. No program in sight. -/
import Derived.Test.YthopgonbndoidaaVBase
namespace Go.Proofs.Ythopgonbndoidaa
open Go.RowKit Go.Shelf

/-- a reach; a payer; a tree -/
structure Rc where
  above : Int
  cost : Int
structure Py where
  id : Int
  reach : Int
  w : Int
structure Tr where
  rs : List Rc
  ps : List Py

def inB (n lo hi : Int) : Bool := decide (lo ≤ n) && decide (n ≤ hi)
theorem inB_t {n lo hi : Int} (h : inB n lo hi = true) : lo ≤ n ∧ n ≤ hi := by simpa [inB] using h
theorem inB_f {n lo hi : Int} (h : inB n lo hi = false) : ¬ (lo ≤ n ∧ n ≤ hi) := by
  intro ⟨a, b⟩; simp [inB, a, b] at h
def rcB (i : Nat) (r : Rc) : Bool := inB r.above (-1) ((i : Int) - 1) && inB r.cost 0 65536
def pyB (n : Nat) (p : Py) : Bool := inB p.id 1 1099511627776 && inB p.reach 0 ((n : Int) - 1) && decide (1 ≤ p.w)
def rsE : Nat → List Rc → Bool
  | _, [] => true
  | i, r :: l => rcB i r && rsE (i + 1) l
/-- the index of a payer, from a number on; -1 if there is none -/
def fndF (id : Int) : Nat → List Py → Int
  | _, [] => -1
  | i, p :: l => if p.id == id then (i : Int) else fndF id (i + 1) l
def fnd (l : List Py) (id : Int) : Int := fndF id 0 l
def psE (n : Nat) : List Py → List Py → Int
  | _, [] => 0
  | s, p :: l => if pyB n p then (if 0 ≤ fnd s p.id then 6 else psE n (s ++ [p]) l) else 1
def sumW (l : List Py) : Int := l.foldl (fun n p => n + p.w) 0
def chkE (T : Tr) : Int :=
  if 24 < T.rs.length ∨ 24 < T.ps.length then 2 else if rsE 0 T.rs = false then 1 else if psE T.rs.length [] T.ps ≠ 0 then psE T.rs.length [] T.ps else if 24 < sumW T.ps then 2 else 0

theorem sumW_snoc (l : List Py) (p : Py) : sumW (l ++ [p]) = sumW l + p.w := by simp [sumW]
theorem sumW_take {l : List Py} {k : Nat} (h : k < l.length) : sumW (l.take (k + 1)) = sumW (l.take k) + l[k].w := by rw [take_succ_get l k h, sumW_snoc]
theorem sumW_from (l : List Py) (n : Int) : l.foldl (fun n p => n + p.w) n = n + sumW l := by
  induction l generalizing n with
  | nil => simp [sumW]
  | cons p l ih => simp only [List.foldl_cons, sumW]; rw [ih, ih (0 + p.w)]; omega
theorem sumW_cons (p : Py) (l : List Py) : sumW (p :: l) = p.w + sumW l := by
  show (p :: l).foldl _ 0 = _
  rw [List.foldl_cons, sumW_from]; omega
theorem sumW_nonneg {l : List Py} (h : ∀ p ∈ l, 1 ≤ p.w) : 0 ≤ sumW l ∧ (l.length : Int) ≤ sumW l := by
  induction l with
  | nil => simp [sumW]
  | cons p l ih =>
    have := ih (fun q hq => h q (by simp [hq]))
    have := h p (by simp)
    rw [sumW_cons]; simp; omega
/-- the same sum, each weight cut short -/
def sumM (l : List Py) : Int := l.foldl (fun n p => n + min p.w 100) 0
theorem sumM_snoc (l : List Py) (p : Py) : sumM (l ++ [p]) = sumM l + min p.w 100 := by simp [sumM]
theorem sumM_take {l : List Py} {k : Nat} (h : k < l.length) : sumM (l.take (k + 1)) = sumM (l.take k) + min l[k].w 100 := by rw [take_succ_get l k h, sumM_snoc]
theorem sumM_spec (l : List Py) (h : ∀ p ∈ l, 1 ≤ p.w) : 0 ≤ sumM l ∧ sumM l ≤ 100 * l.length ∧ sumM l ≤ sumW l ∧ (24 < sumM l ↔ 24 < sumW l) ∧ (sumW l ≤ 24 → sumM l = sumW l) := by
  induction l using snoc_ind with
  | h0 => simp [sumM, sumW]
  | h1 l p ih =>
    have i := ih (fun q hq => h q (by simp [hq]))
    have j := h p (by simp)
    rw [sumM_snoc, sumW_snoc, List.length_append, List.length_singleton]
    have := sumW_nonneg (l := l) (fun q hq => h q (by simp [hq]))
    omega
theorem capW (s w h : Int) (hs : 0 ≤ s) (hw : 1 ≤ w) (hh : h = min s 25) : min (h + min w 25) 25 = min (s + w) 25 := by omega

theorem rsE_step {l : List Rc} {k : Nat} (h : k < l.length) (hb : rcB k l[k] = true) : rsE k (l.drop k) = rsE (k + 1) (l.drop (k + 1)) := by
  rw [drop_get l k h, rsE, hb, Bool.true_and]
theorem rsE_bad {l : List Rc} {k : Nat} (h : k < l.length) (hb : rcB k l[k] = false) : rsE k (l.drop k) = false := by
  rw [drop_get l k h, rsE, hb, Bool.false_and]
theorem psE_bad {l : List Py} {k n : Nat} {s : List Py} (h : k < l.length) (hb : pyB n l[k] = false) : psE n s (l.drop k) = 1 := by
  rw [drop_get l k h, psE, if_neg (by rw [hb]; decide)]
theorem psE_twice {l : List Py} {k n : Nat} {s : List Py} (h : k < l.length) (hb : pyB n l[k] = true) (hf : 0 ≤ fnd s l[k].id) : psE n s (l.drop k) = 6 := by
  rw [drop_get l k h, psE, if_pos hb, if_pos hf]
theorem psE_step {l : List Py} {k n : Nat} (h : k < l.length) (hb : pyB n l[k] = true) (hf : ¬ 0 ≤ fnd (l.take k) l[k].id) : psE n (l.take k) (l.drop k) = psE n (l.take (k + 1)) (l.drop (k + 1)) := by
  rw [drop_get l k h, psE, if_pos hb, if_neg hf, take_succ_get l k h]

/-- what a tree that is right has -/
structure RsV (rs : List Rc) : Prop where
  v : ∀ i (h : i < rs.length), (-1 ≤ rs[i].above ∧ rs[i].above ≤ (i : Int) - 1) ∧ 0 ≤ rs[i].cost ∧ rs[i].cost ≤ 65536
theorem rsE_all {l : List Rc} : ∀ {i : Nat}, rsE i l = true → ∀ k (h : k < l.length), rcB (i + k) l[k] = true := by
  induction l with
  | nil => intro i _ k h; simp at h
  | cons r l ih =>
    intro i h k hk
    rw [rsE, Bool.and_eq_true] at h
    cases k with
    | zero => exact h.1
    | succ k =>
      have := ih h.2 k (by simpa using hk)
      rw [show i + (k + 1) = i + 1 + k by omega]
      exact this
theorem rsV_of {l : List Rc} (h : rsE 0 l = true) : RsV l := ⟨fun i hi => by
  have := rsE_all h i hi
  simp only [rcB, Bool.and_eq_true, Nat.zero_add] at this
  have a := inB_t this.1
  have b := inB_t this.2
  omega⟩
theorem psE_ok {n : Nat} {l : List Py} : ∀ {s : List Py}, psE n s l = 0 → ∀ p ∈ l, pyB n p = true := by
  induction l with
  | nil => intro s _ p hp; simp at hp
  | cons q l ih =>
    intro s h p hp
    rw [psE] at h
    split at h
    · rename_i hq
      split at h
      · cases h
      · rcases List.mem_cons.1 hp with rfl | hp
        · exact hq
        · exact ih h p hp
    · cases h
theorem fndF_none {id : Int} {l : List Py} : ∀ {i : Nat}, fndF id i l < 0 ↔ ∀ p ∈ l, p.id ≠ id := by
  induction l with
  | nil => intro i; simp [fndF]
  | cons q l ih =>
    intro i
    rw [fndF]
    by_cases h : q.id = id
    · simp [h]
    · simp [h]; exact ih
theorem psE_nodup {n : Nat} {l : List Py} : ∀ {s : List Py}, (s.map (·.id)).Nodup → psE n s l = 0 → ((s ++ l).map (·.id)).Nodup := by
  induction l with
  | nil => intro s h _; simpa using h
  | cons q l ih =>
    intro s h h0
    rw [psE] at h0
    split at h0
    · split at h0
      · cases h0
      · rename_i hf
        have hn : ∀ p ∈ s, p.id ≠ q.id := fndF_none.1 (show fnd s q.id < 0 by omega)
        have h2 : ((s ++ [q]).map (·.id)).Nodup := by
          rw [List.map_append, List.nodup_append]
          refine ⟨h, by simp, fun a ha b hb => ?_⟩
          simp only [List.map_cons, List.map_nil, List.mem_singleton] at hb
          subst hb
          obtain ⟨p, hp, rfl⟩ := List.mem_map.1 ha
          exact hn p hp
        have := ih h2 h0
        simpa using this
    · cases h0
/-- a tree that is right -/
structure Ok (T : Tr) : Prop where
  lr : T.rs.length ≤ 24
  lp : T.ps.length ≤ 24
  rv : RsV T.rs
  pv : ∀ p ∈ T.ps, (1 ≤ p.id ∧ p.id ≤ 1099511627776) ∧ (0 ≤ p.reach ∧ p.reach < T.rs.length) ∧ 1 ≤ p.w
  nd : (T.ps.map (·.id)).Nodup
  sw : sumW T.ps ≤ 24
theorem Ok.of {T : Tr} (h : chkE T = 0) : Ok T := by
  unfold chkE at h
  split at h
  · cases h
  · split at h
    · cases h
    · split at h
      · exact absurd h (by assumption)
      · split at h
        · cases h
        · rename_i h1 h2 h3 h4
          have h3' : psE T.rs.length [] T.ps = 0 := by simpa using h3
          refine ⟨by omega, by omega, rsV_of (by simpa using h2), fun p hp => ?_, by simpa using psE_nodup (s := []) (by simp) h3', by omega⟩
          have := psE_ok h3' p hp
          simp only [pyB, Bool.and_eq_true, decide_eq_true_eq] at this
          have a := inB_t this.1.1
          have b := inB_t this.1.2
          omega

/-- the way up from a reach -/
def abv (rs : List Rc) (r : Int) : Int := match rs[r.toNat]? with
  | some c => c.above
  | none => -1
def upF (rs : List Rc) : Nat → Int → List Int
  | 0, _ => []
  | n + 1, r => if 0 ≤ r then r :: upF rs n (abv rs r) else []
def upL (rs : List Rc) (r : Int) : List Int := upF rs (r.toNat + 1) r
theorem abv_get {rs : List Rc} {i : Nat} (h : i < rs.length) : abv rs i = rs[i].above := by simp [abv, h]
theorem upF_neg (rs : List Rc) (n : Nat) {r : Int} (h : r < 0) : upF rs n r = [] := by
  cases n with
  | zero => rfl
  | succ n => rw [upF, if_neg (by omega)]
theorem upL_neg (rs : List Rc) {r : Int} (h : r < 0) : upL rs r = [] := upF_neg _ _ h
theorem upF_fuel {rs : List Rc} (hV : RsV rs) : ∀ (n m : Nat) (r : Int), r < rs.length → r < n → r < m → upF rs n r = upF rs m r := by
  intro n
  induction n with
  | zero => intro m r _ h1 h2; rw [upF_neg _ _ (by omega), upF_neg _ _ (by omega)]
  | succ n ih =>
    intro m r h h1 h2
    by_cases h0 : 0 ≤ r
    · cases m with
      | zero => omega
      | succ m =>
        rw [upF, upF, if_pos h0, if_pos h0]
        obtain ⟨i, rfl⟩ : ∃ i : Nat, r = i := ⟨r.toNat, by omega⟩
        have hi : i < rs.length := by omega
        have := hV.v i hi
        rw [abv_get hi, ih m _ (by omega) (by omega) (by omega)]
    · rw [upF_neg _ _ (by omega), upF_neg _ _ (by omega)]
theorem upL_step {rs : List Rc} (hV : RsV rs) {i : Nat} (h : i < rs.length) : upL rs i = (i : Int) :: upL rs rs[i].above := by
  have hv := hV.v i h
  unfold upL
  rw [show ((i : Int).toNat + 1) = i + 1 by omega, upF, if_pos (by omega), abv_get h]
  rw [upF_fuel hV i (rs[i].above.toNat + 1) _ (by omega) (by omega) (by omega)]
theorem upL_bd {rs : List Rc} (hV : RsV rs) : ∀ (n : Nat) (r : Int), r < n → r < rs.length → ∀ x ∈ upL rs r, 0 ≤ x ∧ x ≤ r := by
  intro n
  induction n with
  | zero => intro r h _ x hx; rw [upL_neg _ (by omega)] at hx; simp at hx
  | succ n ih =>
    intro r h h1 x hx
    by_cases h0 : 0 ≤ r
    · obtain ⟨i, rfl⟩ : ∃ i : Nat, r = i := ⟨r.toNat, by omega⟩
      have hi : i < rs.length := by omega
      have hv := hV.v i hi
      rw [upL_step hV hi] at hx
      rcases List.mem_cons.1 hx with rfl | hx
      · omega
      · have := ih rs[i].above (by omega) (by omega) x hx
        omega
    · rw [upL_neg _ (by omega)] at hx; simp at hx
theorem upL_in {rs : List Rc} (hV : RsV rs) {r : Int} (h : r < rs.length) : ∀ x ∈ upL rs r, 0 ≤ x ∧ x < rs.length := fun x hx => by
  have := upL_bd hV (r.toNat + 1) r (by omega) h x hx
  omega
theorem upL_len {rs : List Rc} (hV : RsV rs) : ∀ (n : Nat) (r : Int), r < n → r < rs.length → (upL rs r).length ≤ n := by
  intro n
  induction n with
  | zero => intro r h _; rw [upL_neg _ (by omega)]; simp
  | succ n ih =>
    intro r h h1
    by_cases h0 : 0 ≤ r
    · obtain ⟨i, rfl⟩ : ∃ i : Nat, r = i := ⟨r.toNat, by omega⟩
      have hi : i < rs.length := by omega
      have hv := hV.v i hi
      rw [upL_step hV hi]
      have := ih rs[i].above (by omega) (by omega)
      simp; omega
    · rw [upL_neg _ (by omega)]; simp
theorem upL_nodup {rs : List Rc} (hV : RsV rs) : ∀ (n : Nat) (r : Int), r < n → r < rs.length → (upL rs r).Pairwise (fun a b => b < a) := by
  intro n
  induction n with
  | zero => intro r h _; rw [upL_neg _ (by omega)]; exact List.Pairwise.nil
  | succ n ih =>
    intro r h h1
    by_cases h0 : 0 ≤ r
    · obtain ⟨i, rfl⟩ : ∃ i : Nat, r = i := ⟨r.toNat, by omega⟩
      have hi : i < rs.length := by omega
      have hv := hV.v i hi
      rw [upL_step hV hi, List.pairwise_cons]
      refine ⟨fun x hx => ?_, ih _ (by omega) (by omega)⟩
      have := upL_bd hV (rs[i].above.toNat + 1) rs[i].above (by omega) (by omega) x hx
      omega
    · rw [upL_neg _ (by omega)]; exact List.Pairwise.nil
/-- a reach is used from another one on -/
def usB (rs : List Rc) (fr k : Int) : Bool := (upL rs fr).any (fun r => r == k)
theorem usB_t {rs : List Rc} {fr k : Int} : usB rs fr k = true ↔ k ∈ upL rs fr := by
  simp [usB]
end Go.Proofs.Ythopgonbndoidaa
namespace Go.Proofs.Ythopgonbndoidaa
open Go.RowKit Go.Shelf

/-- a sum over the numbers below n -/
def sumR : Nat → (Nat → Int) → Int
  | 0, _ => 0
  | n + 1, f => sumR n f + f n
theorem sumR_congr {n : Nat} {f g : Nat → Int} (h : ∀ k, k < n → f k = g k) : sumR n f = sumR n g := by
  induction n with
  | zero => rfl
  | succ n ih => rw [sumR, sumR, ih (fun k hk => h k (by omega)), h n (by omega)]
theorem sumR_one {n x : Nat} (h : x < n) (g : Nat → Int) (c : Int) : sumR n (fun k => if k = x then g k + c else g k) = sumR n g + c := by
  induction n with
  | zero => omega
  | succ n ih =>
    rw [sumR, sumR]
    by_cases hx : n = x
    · subst hx
      rw [if_pos rfl, sumR_congr (f := fun k => if k = n then g k + c else g k) (g := g) (fun k hk => by rw [if_neg (by omega)])]
      omega
    · rw [if_neg hx, ih (by omega)]; omega
theorem sumR_bd {n : Nat} {f : Nat → Int} {M : Int} (h : ∀ k, k < n → 0 ≤ f k ∧ f k ≤ M) : 0 ≤ sumR n f ∧ sumR n f ≤ n * M := by
  induction n with
  | zero => simp [sumR]
  | succ n ih =>
    have h1 := ih (fun k hk => h k (by omega))
    have h2 := h n (by omega)
    rw [sumR]
    push_cast
    rw [Int.add_mul, Int.one_mul]
    omega
/-- a sum over some of them, in whatever order -/
def sumL (f : Nat → Int) (d : List Int) : Int := d.foldl (fun s r => s + f r.toNat) 0
theorem sumL_snoc (f : Nat → Int) (d : List Int) (r : Int) : sumL f (d ++ [r]) = sumL f d + f r.toNat := by simp [sumL]
theorem sumL_eq {n : Nat} (f : Nat → Int) (d : List Int) (hn : d.Nodup) (hb : ∀ r ∈ d, 0 ≤ r ∧ r < n) : sumL f d = sumR n (fun k => if (k : Int) ∈ d then f k else 0) := by
  induction d using snoc_ind with
  | h0 =>
    rw [sumR_congr (g := fun _ => 0) (fun k _ => by simp)]
    have : ∀ n : Nat, sumR n (fun _ => 0) = 0 := by
      intro n; induction n with
      | zero => rfl
      | succ n ih => rw [sumR, ih]; rfl
    rw [this]; rfl
  | h1 d x ih =>
    rw [List.nodup_append] at hn
    have hx := hb x (by simp)
    have hnx : x ∉ d := fun hm => hn.2.2 x hm x (by simp) rfl
    rw [sumL_snoc, ih hn.1 (fun r hr => hb r (by simp [hr]))]
    obtain ⟨m, rfl⟩ : ∃ m : Nat, x = m := ⟨x.toNat, by omega⟩
    rw [show ((m : Int).toNat) = m by omega, ← sumR_one (show m < n by omega) (fun k => if (k : Int) ∈ d then f k else 0) (f m)]
    refine sumR_congr (fun k _ => ?_)
    by_cases hk : k = m
    · subst hk; rw [if_pos rfl, if_neg hnx, if_pos (by simp)]; omega
    · rw [if_neg hk]
      by_cases hm : (k : Int) ∈ d
      · rw [if_pos hm, if_pos (by simp [hm])]
      · rw [if_neg hm, if_neg (by simp [hm]; omega)]
/-- the cost of a reach -/
def cst (rs : List Rc) (k : Nat) : Int := match rs[k]? with
  | some c => c.cost
  | none => 0
theorem cst_get {rs : List Rc} {k : Nat} (h : k < rs.length) : cst rs k = rs[k].cost := by simp [cst, h]
theorem cst_bd {rs : List Rc} (hV : RsV rs) (k : Nat) : 0 ≤ cst rs k ∧ cst rs k ≤ 65536 := by
  by_cases h : k < rs.length
  · rw [cst_get h]; exact (hV.v k h).2
  · simp [cst, h]
/-- what some payers would pay alone -/
def alnE (T : Tr) (tl : Py → Bool) : Int := sumR T.rs.length (fun k => if T.ps.any (fun p => tl p && usB T.rs p.reach k) = true then cst T.rs k else 0)
theorem alnE_bd {T : Tr} (h : Ok T) (tl : Py → Bool) : 0 ≤ alnE T tl ∧ alnE T tl ≤ 1572864 := by
  have h1 := sumR_bd (n := T.rs.length) (f := fun k => if T.ps.any (fun p => tl p && usB T.rs p.reach k) = true then cst T.rs k else 0) (M := 65536) (fun k _ => by
    have := cst_bd h.rv k
    split <;> omega)
  have h2 := h.lr
  unfold alnE
  omega
theorem sumL_bd {T : Tr} (h : Ok T) {d : List Int} (hn : d.Nodup) (hb : ∀ r ∈ d, 0 ≤ r ∧ r < T.rs.length) : 0 ≤ sumL (cst T.rs) d ∧ sumL (cst T.rs) d ≤ 1572864 := by
  rw [sumL_eq (n := T.rs.length) _ d hn hb]
  have h1 := sumR_bd (n := T.rs.length) (f := fun k => if (k : Int) ∈ d then cst T.rs k else 0) (M := 65536) (fun k _ => by
    have := cst_bd h.rv k
    split <;> omega)
  have h2 := h.lr
  omega
theorem alnE_of {T : Tr} (h : Ok T) (tl : Py → Bool) {d : List Int} (hn : d.Nodup) (hd : ∀ r, r ∈ d ↔ ∃ p ∈ T.ps, tl p = true ∧ r ∈ upL T.rs p.reach) : sumL (cst T.rs) d = alnE T tl := by
  rw [sumL_eq (n := T.rs.length) _ d hn (fun r hr => by
    obtain ⟨p, hp, _, h2⟩ := (hd r).1 hr
    exact upL_in h.rv (h.pv p hp).2.1.2 r h2)]
  refine sumR_congr (fun k _ => ?_)
  have : ((k : Int) ∈ d) = (T.ps.any (fun p => tl p && usB T.rs p.reach k) = true) := by
    rw [hd, List.any_eq_true]
    simp only [Bool.and_eq_true, usB_t]
  simp only [this]
end Go.Proofs.Ythopgonbndoidaa
namespace Go.Proofs.Ythopgonbndoidaa
open Go.RowKit Go.Shelf

/-- a fraction -/
structure Ra where
  n : Int
  d : Int
/-- a fraction in lowest terms -/
def ratF (n d : Int) : Ra := ⟨n / (Int.gcd n d : Int), d / (Int.gcd n d : Int)⟩
theorem gcd_pos {n d : Int} (h : 0 < d) : 0 < Int.gcd n d := Int.gcd_pos_of_ne_zero_right _ (by omega)
/-- the parts of a fraction -/
theorem ratF_parts {n d : Int} (h : 0 < d) : ∃ g a b : Int, 0 < g ∧ n = g * a ∧ d = g * b ∧ 0 < b ∧ Int.gcd a b = 1 ∧ ratF n d = ⟨a, b⟩ := by
  obtain ⟨a, ha⟩ : (Int.gcd n d : Int) ∣ n := Int.gcd_dvd_left _ _
  obtain ⟨b, hb⟩ : (Int.gcd n d : Int) ∣ d := Int.gcd_dvd_right _ _
  have hp : 0 < Int.gcd n d := gcd_pos h
  obtain ⟨g, hg⟩ : ∃ g, Int.gcd n d = g := ⟨_, rfl⟩
  have hr : ratF n d = ⟨n / (g : Int), d / (g : Int)⟩ := by unfold ratF; rw [hg]
  rw [hg] at ha hb hp
  have hgp : (0 : Int) < g := by omega
  have hb0 : 0 < b := by
    by_cases hc : 0 < b
    · exact hc
    · have h1 : (g : Int) * b ≤ 0 := Int.mul_nonpos_of_nonneg_of_nonpos (by omega) (by omega)
      omega
  have hc : Int.gcd a b = 1 := by
    have h2 : Int.gcd ((g : Int) * a) ((g : Int) * b) = g * Int.gcd a b := by rw [Int.gcd_mul_left]; simp
    rw [← ha, ← hb, hg] at h2
    exact (Nat.mul_eq_left (by omega)).1 h2.symm
  refine ⟨g, a, b, hgp, ha, hb, hb0, hc, ?_⟩
  rw [hr, ha, hb, Int.mul_ediv_cancel_left _ (by omega), Int.mul_ediv_cancel_left _ (by omega)]
theorem ratF_den {n d : Int} (h : 0 < d) : 0 < (ratF n d).d := by
  obtain ⟨g, a, b, _, _, _, h4, _, h6⟩ := ratF_parts (n := n) h
  rw [h6]; exact h4
/-- the value is kept -/
theorem ratF_val {n d : Int} (h : 0 < d) : (ratF n d).n * d = n * (ratF n d).d := by
  obtain ⟨g, a, b, _, h2, h3, h4, _, h6⟩ := ratF_parts (n := n) h
  rw [h6]
  show a * d = n * b
  rw [h2, h3]
  ac_rfl
theorem ratF_cop {n d : Int} (h : 0 < d) : Int.gcd (ratF n d).n (ratF n d).d = 1 := by
  obtain ⟨g, a, b, _, _, _, _, h5, h6⟩ := ratF_parts (n := n) h
  rw [h6]; exact h5
theorem euclid {a b d : Int} (h1 : Int.gcd a b = 1) (h : b ∣ a * d) : b ∣ d := by
  have h2 : b.natAbs ∣ a.natAbs * d.natAbs := by rw [← Int.natAbs_mul]; exact Int.natAbs_dvd_natAbs.2 h
  have h3 : Nat.Coprime b.natAbs a.natAbs := by unfold Nat.Coprime; rw [Nat.gcd_comm]; exact h1
  exact Int.natAbs_dvd_natAbs.1 (h3.dvd_of_dvd_mul_left h2)
/-- lowest terms are told by the value -/
theorem low_eq {a b c d : Int} (h1 : Int.gcd a b = 1) (h2 : Int.gcd c d = 1) (hb : 0 < b) (hd : 0 < d) (h : a * d = c * b) : a = c ∧ b = d := by
  have e1 : b ∣ d := by
    have : b ∣ a * d := ⟨c, by rw [h]; exact Int.mul_comm _ _⟩
    exact euclid h1 this
  have e2 : d ∣ b := by
    have : d ∣ c * b := ⟨a, by rw [← h]; exact Int.mul_comm _ _⟩
    exact euclid h2 this
  have hbd : b = d := Int.dvd_antisymm (by omega) (by omega) e1 e2
  subst hbd
  exact ⟨Int.eq_of_mul_eq_mul_right (by omega) h, rfl⟩
theorem ratF_eq {n d m e : Int} (hd : 0 < d) (he : 0 < e) (h : n * e = m * d) : ratF n d = ratF m e := by
  have a := ratF_val (n := n) hd
  have b := ratF_val (n := m) he
  have hda := ratF_den (n := n) hd
  have hdb := ratF_den (n := m) he
  have key : (ratF n d).n * (ratF m e).d = (ratF m e).n * (ratF n d).d := by
    have h1 : ((ratF n d).n * (ratF m e).d) * (d * e) = ((ratF m e).n * (ratF n d).d) * (d * e) := by
      calc ((ratF n d).n * (ratF m e).d) * (d * e) = ((ratF n d).n * d) * ((ratF m e).d * e) := by ac_rfl
        _ = (n * (ratF n d).d) * ((ratF m e).d * e) := by rw [a]
        _ = (n * e) * ((ratF n d).d * (ratF m e).d) := by ac_rfl
        _ = (m * d) * ((ratF n d).d * (ratF m e).d) := by rw [h]
        _ = (m * (ratF m e).d) * (d * (ratF n d).d) := by ac_rfl
        _ = ((ratF m e).n * e) * (d * (ratF n d).d) := by rw [b]
        _ = ((ratF m e).n * (ratF n d).d) * (d * e) := by ac_rfl
    have hpos : 0 < d * e := Int.mul_pos hd he
    exact Int.eq_of_mul_eq_mul_right (by omega) h1
  obtain ⟨k1, k2⟩ := low_eq (ratF_cop hd) (ratF_cop he) hda hdb key
  cases h1 : ratF n d
  cases h2 : ratF m e
  rw [h1, h2] at k1 k2
  simp only at k1 k2
  rw [k1, k2]
/-- what is lowest is its own -/
theorem ratF_self {a b : Int} (h : Int.gcd a b = 1) : ratF a b = ⟨a, b⟩ := by
  unfold ratF; rw [h]; simp
end Go.Proofs.Ythopgonbndoidaa
