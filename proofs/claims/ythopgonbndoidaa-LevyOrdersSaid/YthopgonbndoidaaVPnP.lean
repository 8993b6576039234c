/- Plain: there are fair pence between two lists, by the program exactly when by the specification. -/
import Derived.Test.YthopgonbndoidaaVObP
namespace Go.Proofs.Ythopgonbndoidaa
open Go.RowKit Go.Shelf

theorem sumR_add (n : Nat) (f g : Nat → Int) : sumR n (fun k => f k + g k) = sumR n f + sumR n g := by
  induction n with
  | zero => rfl
  | succ n ih => rw [sumR, sumR, sumR, ih]; omega
theorem sumR_nil (n : Nat) : sumR n (fun _ => 0) = 0 := by
  induction n with
  | zero => rfl
  | succ n ih => rw [sumR, ih]; rfl
theorem sumR_sub (n : Nat) (f g : Nat → Int) : sumR n (fun k => f k - g k) = sumR n f - sumR n g := by
  induction n with
  | zero => rfl
  | succ n ih => rw [sumR, sumR, sumR, ih]; omega
theorem sumR_le {n : Nat} {f g : Nat → Int} (h : ∀ k, k < n → f k ≤ g k) : sumR n f ≤ sumR n g := by
  induction n with
  | zero => exact Int.le_refl _
  | succ n ih => have h1 := ih (fun k hk => h k (by omega)); have h2 := h n (by omega); rw [sumR, sumR]; omega
theorem sumR_eq_of {n : Nat} {f g : Nat → Int} (h : ∀ k, k < n → f k ≤ g k) (he : sumR n g ≤ sumR n f) : ∀ k, k < n → f k = g k := by
  induction n with
  | zero => intro k hk; omega
  | succ n ih =>
    intro k hk
    have h1 := sumR_le (n := n) (fun k hk => h k (by omega))
    have h2 := h n (by omega)
    rw [sumR, sumR] at he
    by_cases hkn : k = n
    · subst hkn; omega
    · exact ih (fun k hk => h k (by omega)) (by omega) k (by omega)
theorem sumR_swap (n m : Nat) (f : Nat → Nat → Int) : sumR n (fun a => sumR m (fun b => f a b)) = sumR m (fun b => sumR n (fun a => f a b)) := by
  induction n with
  | zero => rw [sumR]; exact (sumR_nil m).symm
  | succ n ih =>
    rw [sumR, ih, ← sumR_add]
    rfl
/-- a sum with one term -/
theorem sumR_pick {n x : Nat} (h : x < n) (c : Int) : sumR n (fun k => if k = x then c else 0) = c := by
  have := sumR_one h (fun _ => 0) c
  rw [sumR_nil] at this
  rw [show (fun k => if k = x then c else (0 : Int)) = (fun k => if k = x then 0 + c else 0) from funext (fun k => by split <;> omega), this]
  omega
theorem sumR_none {n x : Nat} (h : n ≤ x) (c : Int) : sumR n (fun k => if k = x then c else 0) = 0 := by
  rw [sumR_congr (g := fun _ => 0) (fun k hk => by rw [if_neg (by omega)]), sumR_nil]

/-- who uses a reach is there or right below it -/
theorem usB_split {rs : List Rc} (hV : RsV rs) {k : Nat} (_hk : k < rs.length) (x : Int) : ∀ (n y : Nat), y < n → y < rs.length →
    (if usB rs y k = true then x else 0) = (if y = k then x else 0) + sumR rs.length (fun c => if abv rs c = (k : Int) then (if usB rs y c = true then x else 0) else 0) := by
  intro n
  induction n with
  | zero => intro y h; omega
  | succ n ih =>
    intro y hy hl
    have hv := hV.v y hl
    have ha : abv rs y = rs[y].above := abv_get hl
    have hs : ∀ c : Nat, usB rs y c = ((y : Int) == (c : Int) || usB rs rs[y].above c) := fun c => by
      unfold usB; rw [upL_step hV hl, List.any_cons]
    have hno : usB rs rs[y].above y = false := by
      rw [Bool.eq_false_iff]
      intro h
      have := upL_bd hV (rs[y].above.toNat + 1) rs[y].above (by omega) (by omega) _ (usB_t.1 h)
      omega
    have hsum : sumR rs.length (fun c => if abv rs c = (k : Int) then (if usB rs y c = true then x else 0) else 0) = (if rs[y].above = (k : Int) then x else 0) + sumR rs.length (fun c => if abv rs c = (k : Int) then (if usB rs rs[y].above c = true then x else 0) else 0) := by
      have e : ∀ c, c < rs.length → (if abv rs c = (k : Int) then (if usB rs y c = true then x else 0) else 0) = (if c = y then (if rs[y].above = (k : Int) then x else 0) else 0) + (if abv rs c = (k : Int) then (if usB rs rs[y].above c = true then x else 0) else 0) := fun c _ => by
        by_cases hc : c = y
        · subst hc
          rw [if_pos rfl, hs, hno, ha]
          by_cases h1 : rs[c].above = (k : Int)
          · simp [h1]
          · simp [h1]
        · have : ((y : Int) == (c : Int)) = false := by rw [beq_eq_false_iff_ne]; omega
          rw [if_neg hc, hs, this, Bool.false_or]; omega
      rw [sumR_congr e, sumR_add, sumR_pick hl]
    rw [hsum, hs]
    by_cases h0 : 0 ≤ rs[y].above
    · obtain ⟨z, hz⟩ : ∃ z : Nat, rs[y].above = z := ⟨rs[y].above.toNat, by omega⟩
      have h1 := ih z (by omega) (by omega)
      rw [hz]
      rw [hz] at hno
      by_cases hyk : y = k
      · subst hyk
        have h2 : ¬ z = y := by omega
        rw [hno, if_neg (by decide), if_neg h2] at h1
        simp only [beq_self_eq_true, Bool.true_or, if_true]
        have h3 : ¬ ((z : Int) = (y : Int)) := by omega
        rw [if_neg h3]
        omega
      · have : ((y : Int) == (k : Int)) = false := by rw [beq_eq_false_iff_ne]; omega
        rw [this, Bool.false_or, if_neg hyk, h1]
        by_cases hzk : z = k
        · rw [if_pos hzk, if_pos (by omega)]; omega
        · rw [if_neg hzk, if_neg (by omega)]; omega
    · have hn : ∀ c : Int, usB rs rs[y].above c = false := fun c => by unfold usB; rw [upL_neg _ (by omega)]; rfl
      have h2 : ¬ (rs[y].above = (k : Int)) := by omega
      rw [if_neg h2, hn, Bool.or_false]
      rw [sumR_congr (g := fun _ => 0) (fun c _ => by rw [hn]; simp), sumR_nil]
      by_cases hyk : y = k
      · subst hyk; simp
      · have : ((y : Int) == (k : Int)) = false := by rw [beq_eq_false_iff_ne]; omega
        rw [this, if_neg hyk]; simp

def usedB (T : Tr) (k : Nat) : Bool := T.ps.any (fun p => usB T.rs p.reach k)
/-- the pence of those who use a reach -/
def hsS (T : Tr) (k : Nat) (n : Int) (q : Py × Int) : Int := if usB T.rs q.1.reach k = true then n + q.2 else n
def hsL (T : Tr) (k : Nat) (z : List (Py × Int)) : Int := z.foldl (hsS T k) 0
theorem hsL_snoc (T : Tr) (k : Nat) (z : List (Py × Int)) (q : Py × Int) : hsL T k (z ++ [q]) = hsS T k (hsL T k z) q := by simp [hsL]
/-- the costs of the used reaches from a reach on -/
def csF (T : Tr) (k x : Nat) : Int := if (usB T.rs x k && usedB T x) = true then cst T.rs x else 0
def csK (T : Tr) (k n : Nat) : Int := sumR n (csF T k)
def uC (T : Tr) (k : Nat) : Int := if usedB T k = true then cst T.rs k else 0
def dX (T : Tr) (l : List Int) (k : Nat) : Int := hsL T k (T.ps.zip l) - csK T k T.rs.length
theorem hsL_rec {T : Tr} (hok : Ok T) {k : Nat} (hk : k < T.rs.length) (z : List (Py × Int)) (hz : ∀ q ∈ z, q.1 ∈ T.ps) : hsL T k z = atP z k + sumR T.rs.length (fun c => if abv T.rs c = (k : Int) then hsL T c z else 0) := by
  induction z using snoc_ind with
  | h0 =>
    show (0 : Int) = 0 + sumR T.rs.length (fun c => if abv T.rs c = (k : Int) then (0 : Int) else 0)
    rw [sumR_congr (g := fun _ => 0) (fun c _ => by split <;> rfl), sumR_nil]; rfl
  | h1 z q ih =>
    have ih := ih (fun q hq => hz q (by simp [hq]))
    have hpv := (hok.pv _ (hz q (by simp))).2.1
    have hsp := usB_split hok.rv hk q.2 (q.1.reach.toNat + 1) q.1.reach.toNat (by omega) (by omega)
    rw [show ((q.1.reach.toNat : Nat) : Int) = q.1.reach by omega] at hsp
    have hstep : ∀ c, hsL T c (z ++ [q]) = hsL T c z + (if usB T.rs q.1.reach c = true then q.2 else 0) := fun c => by
      rw [hsL_snoc]; unfold hsS; split <;> omega
    have hat : atP (z ++ [q]) k = atP z k + (if q.1.reach.toNat = k then q.2 else 0) := by
      rw [atP_snoc]
      show (if k = q.1.reach.toNat then _ else _) = _
      by_cases h : k = q.1.reach.toNat
      · rw [if_pos h, if_pos h.symm]
      · rw [if_neg h, if_neg (fun e => h e.symm)]; omega
    rw [hstep, hat, ih, hsp]
    have e : sumR T.rs.length (fun c => if abv T.rs c = (k : Int) then hsL T c (z ++ [q]) else 0) = sumR T.rs.length (fun c => if abv T.rs c = (k : Int) then hsL T c z else 0) + sumR T.rs.length (fun c => if abv T.rs c = (k : Int) then (if usB T.rs q.1.reach c = true then q.2 else 0) else 0) := by
      rw [← sumR_add]
      refine sumR_congr (fun c _ => ?_)
      rw [hstep]
      split <;> omega
    rw [e]
    omega
theorem csK_rec {T : Tr} (hok : Ok T) {k : Nat} (hk : k < T.rs.length) : ∀ n, n ≤ T.rs.length → csK T k n = (if k < n then uC T k else 0) + sumR T.rs.length (fun c => if abv T.rs c = (k : Int) then csK T c n else 0)
  | 0, _ => by
    show (0 : Int) = (if k < 0 then _ else 0) + sumR T.rs.length (fun c => if abv T.rs c = (k : Int) then (0 : Int) else 0)
    rw [if_neg (by omega), sumR_congr (g := fun _ => 0) (fun c _ => by split <;> rfl), sumR_nil]; rfl
  | n + 1, hn => by
    have ih := csK_rec hok hk n (by omega)
    have hsp := usB_split hok.rv hk (uC T n) (n + 1) n (by omega) (by omega)
    have hF : ∀ c, csF T c n = if usB T.rs n c = true then uC T n else 0 := fun c => by
      unfold csF uC
      by_cases h1 : usB T.rs n c = true
      · rw [h1, Bool.true_and, if_pos rfl]
      · rw [if_neg h1, if_neg (by simp [h1])]
    have e : sumR T.rs.length (fun c => if abv T.rs c = (k : Int) then csK T c (n + 1) else 0) = sumR T.rs.length (fun c => if abv T.rs c = (k : Int) then csK T c n else 0) + sumR T.rs.length (fun c => if abv T.rs c = (k : Int) then (if usB T.rs n c = true then uC T n else 0) else 0) := by
      rw [← sumR_add]
      refine sumR_congr (fun c _ => ?_)
      show (if abv T.rs c = (k : Int) then csK T c n + csF T c n else 0) = _
      rw [hF]
      by_cases ha : abv T.rs c = (k : Int)
      · rw [if_pos ha, if_pos ha, if_pos ha]
      · rw [if_neg ha, if_neg ha, if_neg ha]; rfl
    show csK T k n + csF T k n = _
    rw [e, ih, hF, hsp]
    by_cases hkn : n = k
    · subst hkn
      rw [if_pos rfl, if_neg (by omega), if_pos (by omega)]; omega
    · rw [if_neg hkn]
      by_cases hlt : k < n
      · rw [if_pos hlt, if_pos (by omega)]; omega
      · rw [if_neg hlt, if_neg (by omega)]; omega
theorem dX_rec {T : Tr} (hok : Ok T) (l : List Int) {k : Nat} (hk : k < T.rs.length) : dX T l k = atP (T.ps.zip l) k - uC T k + chS T.rs (dX T l) k T.rs.length := by
  have h1 := hsL_rec hok hk (T.ps.zip l) (fun q hq => (List.of_mem_zip (show (q.1, q.2) ∈ T.ps.zip l from hq)).1)
  have h2 := csK_rec hok hk T.rs.length (Nat.le_refl _)
  rw [if_pos hk] at h2
  have e : chS T.rs (dX T l) k T.rs.length = sumR T.rs.length (fun c => if abv T.rs c = (k : Int) then hsL T c (T.ps.zip l) else 0) - sumR T.rs.length (fun c => if abv T.rs c = (k : Int) then csK T c T.rs.length else 0) := by
    unfold chS
    rw [← sumR_sub]
    refine sumR_congr (fun c _ => ?_)
    unfold dX
    split <;> omega
  rw [e]
  unfold dX
  omega
/-- what lies above a used reach is used -/
theorem up_abv {rs : List Rc} (hV : RsV rs) {x : Int} : ∀ (n y : Nat), y < n → y < rs.length → x ∈ upL rs y → 0 ≤ abv rs x → abv rs x ∈ upL rs y := by
  intro n
  induction n with
  | zero => intro y h; omega
  | succ n ih =>
    intro y hy hl hx h0
    have hv := hV.v y hl
    rw [upL_step hV hl] at hx ⊢
    rcases List.mem_cons.1 hx with rfl | hx
    · rw [abv_get hl] at h0 ⊢
      obtain ⟨z, hz⟩ : ∃ z : Nat, rs[y].above = z := ⟨rs[y].above.toNat, by omega⟩
      rw [hz, upL_step hV (by omega)]
      simp
    · by_cases hn : 0 ≤ rs[y].above
      · obtain ⟨z, hz⟩ : ∃ z : Nat, rs[y].above = z := ⟨rs[y].above.toNat, by omega⟩
        rw [hz] at hx ⊢
        exact List.mem_cons_of_mem _ (ih z (by omega) (by omega) hx h0)
      · rw [upL_neg _ (by omega)] at hx; cases hx
theorem used_abv {T : Tr} (hok : Ok T) {c k : Nat} (ha : abv T.rs c = (k : Int)) (hc : usedB T c = true) : usedB T k = true := by
  unfold usedB at *
  rw [List.any_eq_true] at *
  obtain ⟨p, hp, hu⟩ := hc
  have hpv := (hok.pv p hp).2.1
  refine ⟨p, hp, usB_t.2 ?_⟩
  have h := up_abv hok.rv (x := (c : Int)) (p.reach.toNat + 1) p.reach.toNat (by omega) (by omega) (by rw [show ((p.reach.toNat : Nat) : Int) = p.reach by omega]; exact usB_t.1 hu) (by omega)
  rw [show ((p.reach.toNat : Nat) : Int) = p.reach by omega, ha] at h
  exact h
theorem chS_congr {rs : List Rc} (hV : RsV rs) {o o' : Nat → Int} {k : Nat} (h : ∀ c, c < rs.length → k < c → abv rs c = (k : Int) → o c = o' c) : chS rs o k rs.length = chS rs o' k rs.length := by
  unfold chS
  refine sumR_congr (fun c hc => ?_)
  by_cases ha : abv rs c = (k : Int)
  · have hv := hV.v c hc
    rw [← abv_get hc] at hv
    rw [if_pos ha, if_pos ha, h c hc (by omega) ha]
  · rw [if_neg ha, if_neg ha]
theorem chS_zero {rs : List Rc} (hV : RsV rs) {o : Nat → Int} {k : Nat} (h : ∀ c, c < rs.length → k < c → abv rs c = (k : Int) → o c = 0) : chS rs o k rs.length = 0 := by
  rw [chS_congr hV (o' := fun _ => 0) h]
  unfold chS
  rw [sumR_congr (g := fun _ => 0) (fun c _ => by split <;> rfl), sumR_nil]
theorem atP_unused {T : Tr} (hok : Ok T) (l : List Int) {k : Nat} (hk : k < T.rs.length) (hu : usedB T k = false) : atP (T.ps.zip l) k = 0 := by
  have key : ∀ z : List (Py × Int), (∀ q ∈ z, q.1 ∈ T.ps) → atP z k = 0 := fun z => by
    induction z using snoc_ind with
    | h0 => intro _; rfl
    | h1 z q ih =>
      intro hz
      rw [atP_snoc]
      show (if k = q.1.reach.toNat then _ else _) = _
      have hq := hz q (by simp)
      have hpv := (hok.pv _ hq).2.1
      rw [if_neg, ih (fun q hq => hz q (by simp [hq]))]
      intro he
      have : usedB T k = true := by
        unfold usedB
        rw [List.any_eq_true]
        refine ⟨q.1, hq, usB_t.2 ?_⟩
        rw [show q.1.reach = (k : Int) by omega, upL_step hok.rv hk]
        simp
      rw [this] at hu; cases hu
  exact key _ (fun q hq => (List.of_mem_zip (show (q.1, q.2) ∈ T.ps.zip l from hq)).1)
theorem unused_zero {T : Tr} (hok : Ok T) (l : List Int) : ∀ (d k : Nat), k < T.rs.length → T.rs.length - k ≤ d → usedB T k = false → dX T l k = 0 ∧ objX T l k = 0 := by
  intro d
  induction d with
  | zero => intro k h1 h2; omega
  | succ d ih =>
    intro k hk hd hu
    have hch : ∀ c, c < T.rs.length → k < c → abv T.rs c = (k : Int) → dX T l c = 0 ∧ objX T l c = 0 := fun c hc hkc ha => ih c hc (by omega) (by
      cases h : usedB T c with
      | false => rfl
      | true => rw [used_abv hok ha h] at hu; cases hu)
    have hat := atP_unused hok l hk hu
    have hc := (cst_bd hok.rv k).1
    constructor
    · rw [dX_rec hok l hk, hat, chS_zero hok.rv (fun c h1 h2 h3 => (hch c h1 h2 h3).1)]
      unfold uC; rw [hu]; rfl
    · rw [objX_ex hok l hk]
      unfold exX
      rw [hat, chS_zero hok.rv (fun c h1 h2 h3 => (hch c h1 h2 h3).2)]
      omega
theorem chS_le {rs : List Rc} (hV : RsV rs) {o o' : Nat → Int} {k : Nat} (h : ∀ c, c < rs.length → k < c → abv rs c = (k : Int) → o c ≤ o' c) : chS rs o k rs.length ≤ chS rs o' k rs.length := by
  unfold chS
  refine sumR_le (fun c hc => ?_)
  by_cases ha : abv rs c = (k : Int)
  · have hv := hV.v c hc
    rw [← abv_get hc] at hv
    rw [if_pos ha, if_pos ha]
    exact h c hc (by omega) ha
  · rw [if_neg ha, if_neg ha]; exact Int.le_refl _
theorem dX_le {T : Tr} (hok : Ok T) (l : List Int) : ∀ (d k : Nat), k < T.rs.length → T.rs.length - k ≤ d → dX T l k ≤ objX T l k := by
  intro d
  induction d with
  | zero => intro k h1 h2; omega
  | succ d ih =>
    intro k hk hd
    cases hu : usedB T k with
    | false => have := unused_zero hok l _ k hk (Nat.le_refl _) hu; omega
    | true =>
      have hle := chS_le hok.rv (k := k) (fun c h1 h2 _ => ih c h1 (by omega))
      rw [dX_rec hok l hk, objX_ex hok l hk]
      have hU : uC T k = cst T.rs k := by unfold uC; rw [if_pos hu]
      unfold exX
      omega
theorem dX_all {T : Tr} (hok : Ok T) (l : List Int) (h : ∀ k, k < T.rs.length → usedB T k = true → 0 ≤ dX T l k) : ∀ (d k : Nat), k < T.rs.length → T.rs.length - k ≤ d → objX T l k = dX T l k := by
  intro d
  induction d with
  | zero => intro k h1 h2; omega
  | succ d ih =>
    intro k hk hd
    cases hu : usedB T k with
    | false => have := unused_zero hok l _ k hk (Nat.le_refl _) hu; omega
    | true =>
      have hch := chS_congr hok.rv (k := k) (fun c h1 h2 _ => ih c h1 (by omega))
      have h0 := h k hk hu
      have hr := dX_rec hok l hk
      have hU : uC T k = cst T.rs k := by unfold uC; rw [if_pos hu]
      rw [objX_ex hok l hk]
      unfold exX
      rw [hch]
      omega
def rtS (rs : List Rc) (f : Nat → Int) (n : Nat) : Int := sumR n (fun k => if abv rs k < 0 then f k else 0)
theorem ovS_rt {rs : List Rc} (o : Nat → Int) : ∀ n, n ≤ rs.length → ovS rs o n = rtS rs o n
  | 0, _ => rfl
  | n + 1, h => by
    show ovS rs o n + (if n < rs.length ∧ abv rs n < 0 then o n else 0) = rtS rs o n + (if abv rs n < 0 then o n else 0)
    rw [ovS_rt o n (by omega)]
    by_cases ha : abv rs n < 0
    · rw [if_pos ⟨by omega, ha⟩, if_pos ha]
    · rw [if_neg (fun h => ha h.2), if_neg ha]
theorem sumI_at {T : Tr} (hok : Ok T) : ∀ (z : List (Py × Int)), (∀ q ∈ z, q.1 ∈ T.ps) → sumR T.rs.length (atP z) = sumI (z.map (·.2)) := fun z => by
  induction z using snoc_ind with
  | h0 => intro _; exact sumR_nil _
  | h1 z q ih =>
    intro hz
    have hpv := (hok.pv _ (hz q (by simp))).2.1
    rw [List.map_append, List.map_cons, List.map_nil, sumI_snoc, ← ih (fun q hq => hz q (by simp [hq]))]
    rw [show atP (z ++ [q]) = fun k => if k = q.1.reach.toNat then atP z k + q.2 else atP z k by rw [atP_snoc]; rfl]
    rw [sumR_one (by omega)]
theorem rt_sum {T : Tr} (hok : Ok T) {l : List Int} (hlen : l.length = T.ps.length) : rtS T.rs (dX T l) T.rs.length = sumI l - alnE T (fun _ => true) := by
  have h1 : sumR T.rs.length (dX T l) = sumR T.rs.length (atP (T.ps.zip l)) - sumR T.rs.length (uC T) + sumR T.rs.length (fun k => chS T.rs (dX T l) k T.rs.length) := by
    rw [← sumR_sub, ← sumR_add]
    exact sumR_congr (fun k hk => dX_rec hok l hk)
  have h2 : sumR T.rs.length (fun k => chS T.rs (dX T l) k T.rs.length) = sumR T.rs.length (fun c => if abv T.rs c < 0 then 0 else dX T l c) := by
    unfold chS
    rw [sumR_swap]
    refine sumR_congr (fun c hc => ?_)
    have hv := hok.rv.v c hc
    rw [← abv_get hc] at hv
    by_cases ha : abv T.rs c < 0
    · rw [if_pos ha, sumR_congr (g := fun _ => 0) (fun k _ => by rw [if_neg (by omega)]), sumR_nil]
    · obtain ⟨z, hz⟩ : ∃ z : Nat, abv T.rs c = z := ⟨(abv T.rs c).toNat, by omega⟩
      rw [if_neg ha, hz, sumR_congr (g := fun k => if k = z then dX T l c else 0) (fun k _ => by
        by_cases h : k = z
        · rw [if_pos h, if_pos (by omega)]
        · rw [if_neg h, if_neg (by omega)]), sumR_pick (by omega)]
  have h3 : sumR T.rs.length (dX T l) = rtS T.rs (dX T l) T.rs.length + sumR T.rs.length (fun c => if abv T.rs c < 0 then 0 else dX T l c) := by
    unfold rtS
    rw [← sumR_add]
    refine sumR_congr (fun k _ => ?_)
    split <;> omega
  have h4 := sumI_at hok (T.ps.zip l) (fun q hq => (List.of_mem_zip (show (q.1, q.2) ∈ T.ps.zip l from hq)).1)
  have h5 : (T.ps.zip l).map (·.2) = l := List.map_snd_zip (by omega)
  have h6 : sumR T.rs.length (uC T) = alnE T (fun _ => true) := by
    unfold alnE
    refine sumR_congr (fun k _ => ?_)
    unfold uC usedB
    simp only [Bool.true_and]
  rw [h5] at h4
  omega
theorem dX_iff {T : Tr} (hok : Ok T) {l : List Int} (hlen : l.length = T.ps.length) : ovX T l ≤ sumI l - alnE T (fun _ => true) ↔ ∀ k, k < T.rs.length → usedB T k = true → 0 ≤ dX T l k := by
  rw [ovX_len hok, ovS_rt _ _ (Nat.le_refl _), ← rt_sum hok hlen]
  constructor
  · intro h
    have hle : ∀ k, k < T.rs.length → dX T l k ≤ objX T l k := fun k hk => dX_le hok l _ k hk (Nat.le_refl _)
    have hroot := sumR_eq_of (n := T.rs.length) (f := fun k => if abv T.rs k < 0 then dX T l k else 0) (g := fun k => if abv T.rs k < 0 then objX T l k else 0) (fun k hk => by
      have := hle k hk
      split <;> omega) h
    have all : ∀ n k, k < n → k < T.rs.length → dX T l k = objX T l k := by
      intro n
      induction n with
      | zero => intro k hk; omega
      | succ n ih =>
        intro c hcn hc
        have hv := hok.rv.v c hc
        rw [← abv_get hc] at hv
        by_cases ha : abv T.rs c < 0
        · have := hroot c hc
          rwa [if_pos ha, if_pos ha] at this
        · obtain ⟨z, hz⟩ : ∃ z : Nat, abv T.rs c = z := ⟨(abv T.rs c).toNat, by omega⟩
          have hzl : z < T.rs.length := by omega
          have hp := ih z (by omega) hzl
          cases hu : usedB T z with
          | false =>
            have hcu : usedB T c = false := by
              cases h : usedB T c with
              | false => rfl
              | true => rw [used_abv hok hz h] at hu; cases hu
            have := unused_zero hok l _ c hc (Nat.le_refl _) hcu
            omega
          | true =>
            have hr := dX_rec hok l hzl
            have ho := objX_ex hok l hzl
            have hU : uC T z = cst T.rs z := by unfold uC; rw [if_pos hu]
            unfold exX at ho
            have hcs : chS T.rs (objX T l) z T.rs.length ≤ chS T.rs (dX T l) z T.rs.length := by omega
            have := sumR_eq_of (n := T.rs.length) (f := fun k => if abv T.rs k = (z : Int) then dX T l k else 0) (g := fun k => if abv T.rs k = (z : Int) then objX T l k else 0) (fun k hk => by
              have := hle k hk
              split <;> omega) hcs c hc
            rwa [if_pos hz, if_pos hz] at this
    intro k hk _
    rw [all (k + 1) k (by omega) hk, objX_ex hok l hk]
    omega
  · intro h
    refine sumR_le (fun k hk => ?_)
    rw [dX_all hok l h _ k hk (Nat.le_refl _)]
    exact Int.le_refl _
/-- by the specification -/
def enB (T : Tr) (lo hi : List Int) : Bool := ovX T lo == 0 && (List.range T.rs.length).all (fun k => !usedB T k || decide (0 ≤ dX T hi k))
theorem btw_en {T : Tr} (hok : Ok T) {lo hi : List Int} (hlen : hi.length = T.ps.length) : btwB T lo hi = enB T lo hi := by
  unfold btwB enB
  congr 1
  rw [Bool.eq_iff_iff, decide_eq_true_eq, List.all_eq_true, dX_iff hok hlen]
  constructor
  · intro h k hk
    have hk := List.mem_range.1 hk
    cases hu : usedB T k with
    | false => rfl
    | true => simp [h k hk hu]
  · intro h k hk hu
    have := h k (List.mem_range.2 hk)
    simpa [hu] using this
end Go.Proofs.Ythopgonbndoidaa
