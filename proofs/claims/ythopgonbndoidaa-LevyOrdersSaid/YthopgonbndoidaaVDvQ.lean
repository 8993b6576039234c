/- Plain: the division of fair pence is right by the specification. -/
import Derived.Test.YthopgonbndoidaaVUsP
import Derived.Test.YthopgonbndoidaaVRDv
namespace Go.Proofs.Ythopgonbndoidaa
open Go.RowKit Go.Shelf

def reP (T : Tr) (i : Nat) : Nat := (T.ps.getD i ⟨0, 0, 0⟩).reach.toNat
def usI (T : Tr) (k i : Nat) : Bool := usB T.rs (T.ps.getD i ⟨0, 0, 0⟩).reach k
def LS (T : Tr) (k : Nat) (L : List Int) : Int := sumR T.ps.length (fun i => if usI T k i = true then L.getD i 0 else 0)
theorem reP_bd {T : Tr} (hok : Ok T) {i : Nat} (h : i < T.ps.length) : (T.ps.getD i ⟨0, 0, 0⟩).reach = (reP T i : Int) ∧ reP T i < T.rs.length := by
  have e : T.ps.getD i ⟨0, 0, 0⟩ = T.ps[i] := by rw [List.getD_eq_getElem?_getD, List.getElem?_eq_getElem h]; rfl
  have hv := (hok.pv T.ps[i] (List.getElem_mem h)).2.1
  unfold reP
  rw [e]
  omega
theorem setD_get (L : List Int) (i k : Nat) (x : Int) : (L.set i x).getD k 0 = if k = i ∧ i < L.length then x else L.getD k 0 := by
  rw [List.getD_eq_getElem?_getD, List.getD_eq_getElem?_getD, List.getElem?_set]
  by_cases h : i = k
  · subst h
    by_cases h2 : i < L.length
    · simp [h2]
    · simp [h2]
  · rw [if_neg h, if_neg (fun q => h q.1.symm)]
theorem LS_rec {T : Tr} (hok : Ok T) {k : Nat} (hk : k < T.rs.length) (L : List Int) : LS T k L = sumR T.ps.length (fun i => if reP T i = k then L.getD i 0 else 0) + chS T.rs (fun c => LS T c L) k T.rs.length := by
  have h1 : LS T k L = sumR T.ps.length (fun i => (if reP T i = k then L.getD i 0 else 0) + sumR T.rs.length (fun c => if abv T.rs c = (k : Int) then (if usI T c i = true then L.getD i 0 else 0) else 0)) := by
    refine sumR_congr (fun i hi => ?_)
    have hr := reP_bd hok hi
    have := usB_split hok.rv hk (L.getD i 0) (reP T i + 1) (reP T i) (by omega) hr.2
    rw [← hr.1] at this
    exact this
  rw [h1, sumR_add, sumR_swap]
  congr 1
  refine sumR_congr (fun c _ => ?_)
  by_cases ha : abv T.rs c = (k : Int)
  · simp only [ha, if_true]; rfl
  · simp only [ha, if_false]; exact sumR_nil _
theorem sumR_snocL (z : List Int) : sumI z = sumR z.length (fun i => z.getD i 0) := by
  induction z using snoc_ind with
  | h0 => rfl
  | h1 z x ih =>
    rw [sumI_snoc, ih, List.length_append, List.length_singleton, sumR]
    congr 1
    · exact sumR_congr (fun i hi => by rw [List.getD_eq_getElem?_getD, List.getD_eq_getElem?_getD, List.getElem?_append_left hi])
    · simp
theorem sumI_range (g : Nat → Int) (n : Nat) : sumI ((List.range n).map g) = sumR n g := by
  induction n with
  | zero => rfl
  | succ n ih => rw [List.range_succ, List.map_append, List.map_cons, List.map_nil, sumI_snoc, ih]; rfl
theorem atP_map (z : List (Py × Int)) (k : Nat) : atP z k = sumI (z.map (fun q => if k = q.1.reach.toNat then q.2 else 0)) := by
  induction z using snoc_ind with
  | h0 => rfl
  | h1 z q ih =>
    rw [atP_snoc, List.map_append, List.map_cons, List.map_nil, sumI_snoc, ← ih]
    unfold atS
    split <;> omega
theorem atP_sum {T : Tr} {l : List Int} (hlen : l.length = T.ps.length) (k : Nat) : atP (T.ps.zip l) k = sumR T.ps.length (fun i => if reP T i = k then l.getD i 0 else 0) := by
  rw [atP_map, sumR_snocL, List.length_map, List.length_zip, hlen, Nat.min_self]
  refine sumR_congr (fun i hi => ?_)
  have hi2 : i < l.length := by omega
  unfold reP
  simp only [List.getD_eq_getElem?_getD, List.getElem?_map, List.zip, List.getElem?_zipWith, List.getElem?_eq_getElem hi, List.getElem?_eq_getElem hi2, Option.map_some, Option.getD_some]
  by_cases h : k = T.ps[i].reach.toNat
  · rw [if_pos h, if_pos h.symm]
  · rw [if_neg h, if_neg (fun q => h q.symm)]
theorem wt_unused {T : Tr} (hok : Ok T) (r : Nat) : (wtA T.rs T.ps r = 0 ↔ usedB T r = false) := by
  have hw : ∀ p ∈ T.ps, 1 ≤ p.w := fun p hp => (hok.pv p hp).2.2
  constructor
  · intro h
    unfold usedB
    rw [List.any_eq_false]
    intro p hp hu
    have := wtA_ge hw hp hu
    have := hw p hp
    omega
  · intro h
    unfold usedB at h
    rw [List.any_eq_false] at h
    have : ∀ l : List Py, (∀ p ∈ l, ¬ usB T.rs p.reach r = true) → wtA T.rs l r = 0 := fun l => by
      induction l using snoc_ind with
      | h0 => intro _; rfl
      | h1 l p ih =>
        intro h
        rw [wtA_snoc]
        unfold wtS
        rw [if_neg (h p (by simp))]
        exact ih (fun q hq => h q (by simp [hq]))
    exact this T.ps h
theorem dvD_uC {T : Tr} (hok : Ok T) (r : Nat) : dvD T r = uC T r := by
  unfold dvD uC
  cases h : usedB T r with
  | false => rw [if_pos ((wt_unused hok r).2 h)]; rfl
  | true => rw [if_neg (fun q => by have := (wt_unused hok r).1 q; rw [h] at this; cases this)]; rfl
/-- one reach's dividing, at a payer -/
structure DI (T : Tr) (r : Nat) (left : List Int) (j : Nat) (s : Int × List Int × List Int) : Prop where
  ll : s.2.1.length = T.ps.length
  lr : s.2.2.length = T.ps.length
  d : s.1 = max 0 (dvD T r - sumR j (fun i => if usI T r i = true then left.getD i 0 else 0))
  a : ∀ i, s.2.2.getD i 0 + s.2.1.getD i 0 = left.getD i 0
  p : ∀ i, 0 ≤ s.2.2.getD i 0 ∧ 0 ≤ s.2.1.getD i 0
  u : ∀ i, usI T r i = false → s.2.2.getD i 0 = 0
  z : ∀ i, j ≤ i → s.2.2.getD i 0 = 0
  sm : sumR j (fun i => s.2.2.getD i 0) = dvD T r - s.1
theorem dvJ_inv {T : Tr} {r : Nat} {left : List Int} (hl : left.length = T.ps.length) (hb : ∀ i, 0 ≤ left.getD i 0) (hD : 0 ≤ dvD T r) : ∀ j, j ≤ T.ps.length → DI T r left j (dvJ T r left j) := by
  intro j
  induction j with
  | zero =>
    intro _
    have hz : ∀ i, (List.replicate T.ps.length (0 : Int)).getD i 0 = 0 := fun i => by
      rw [List.getD_eq_getElem?_getD, List.getElem?_replicate]; split <;> rfl
    refine ⟨hl, by simp [dvJ], ?_, fun i => ?_, fun i => ?_, fun i _ => hz i, fun i _ => hz i, ?_⟩
    · show dvD T r = max 0 (dvD T r - 0); omega
    · show (List.replicate T.ps.length (0 : Int)).getD i 0 + left.getD i 0 = _; rw [hz]; omega
    · exact ⟨by show 0 ≤ (List.replicate T.ps.length (0 : Int)).getD i 0; rw [hz]; omega, hb i⟩
    · show 0 = dvD T r - dvD T r; omega
  | succ j ih =>
    intro hj
    have I := ih (by omega)
    rw [dvJ_succ]
    generalize dvJ T r left j = s at I
    obtain ⟨due, L, R⟩ := s
    have hIl := I.ll
    have hIr := I.lr
    have hd := I.d
    have ha := I.a
    have hp := I.p
    have hs := I.sm
    have hz := I.z
    dsimp only at hIl hIr hd ha hp hs hz
    have hLj : L.getD j 0 = left.getD j 0 := by have := ha j; have := hz j (Nat.le_refl _); omega
    have hbj := hb j
    unfold dvS
    dsimp only
    by_cases hu : usI T r j = true
    · have hu' : usB T.rs (T.ps.getD j ⟨0, 0, 0⟩).reach r = true := hu
      rw [if_pos hu']
      obtain ⟨x, hx⟩ : ∃ x, min due (L.getD j 0) = x := ⟨_, rfl⟩
      rw [hx]
      have hRs : sumR j (fun i => (R.set j x).getD i 0) = sumR j (fun i => R.getD i 0) := sumR_congr (fun i hi => by rw [setD_get, if_neg (by omega)])
      refine ⟨by simp [hIl], by simp [hIr], ?_, fun i => ?_, fun i => ?_, fun i h => ?_, fun i h => ?_, ?_⟩
      · show due - x = _
        rw [sumR, if_pos hu]
        omega
      · show (R.set j x).getD i 0 + (L.set j (L.getD j 0 - x)).getD i 0 = _
        rw [setD_get, setD_get]
        by_cases h : i = j
        · rw [if_pos ⟨h, by omega⟩, if_pos ⟨h, by omega⟩, h]; omega
        · rw [if_neg (fun q => h q.1), if_neg (fun q => h q.1)]; exact ha i
      · show 0 ≤ (R.set j x).getD i 0 ∧ 0 ≤ (L.set j (L.getD j 0 - x)).getD i 0
        have := hp i
        rw [setD_get, setD_get]
        constructor
        · split <;> omega
        · split <;> omega
      · show (R.set j x).getD i 0 = 0
        rw [setD_get, if_neg (fun q => by rw [q.1, hu] at h; cases h)]
        exact I.u i h
      · show (R.set j x).getD i 0 = 0
        rw [setD_get, if_neg (by omega)]
        exact hz i (by omega)
      · show sumR (j + 1) (fun i => (R.set j x).getD i 0) = dvD T r - (due - x)
        rw [sumR, hRs, hs, setD_get, if_pos ⟨rfl, by omega⟩]
        omega
    · have hu' : ¬ usB T.rs (T.ps.getD j ⟨0, 0, 0⟩).reach r = true := hu
      rw [if_neg hu']
      refine ⟨hIl, hIr, ?_, ha, hp, I.u, fun i h => hz i (by omega), ?_⟩
      · show due = _
        rw [sumR, if_neg hu]
        omega
      · show sumR (j + 1) (fun i => R.getD i 0) = dvD T r - due
        rw [sumR, hs, hz j (Nat.le_refl _)]
        omega
theorem no_use {rs : List Rc} (hV : RsV rs) {c r : Nat} (hc : c < rs.length) (hr : r < c) (ha : abv rs c < r) : ∀ (n y : Nat), y < n → y < rs.length → usB rs y c = true → usB rs y r = false := by
  intro n
  induction n with
  | zero => intro y h; omega
  | succ n ih =>
    intro y hy hl hu
    have hv := hV.v y hl
    have hs : ∀ c : Nat, usB rs y c = ((y : Int) == (c : Int) || usB rs rs[y].above c) := fun c => by
      unfold usB; rw [upL_step hV hl, List.any_cons]
    by_cases e : y = c
    · subst e
      rw [abv_get hl] at ha
      rw [hs, Bool.or_eq_false_iff]
      refine ⟨by simp; omega, ?_⟩
      cases hq : usB rs rs[y].above r with
      | false => rfl
      | true =>
        have := usB_t.1 hq
        have := upL_bd hV (rs[y].above.toNat + 1) rs[y].above (by omega) (by omega) _ this
        omega
    · rw [hs] at hu
      have hu2 : usB rs rs[y].above c = true := by
        rw [Bool.or_eq_true] at hu
        rcases hu with h | h
        · have : (y : Int) = (c : Int) := by simpa using h
          omega
        · exact h
      have hm := usB_t.1 hu2
      have hb := upL_bd hV (rs[y].above.toNat + 1) rs[y].above (by omega) (by omega) _ hm
      obtain ⟨a, hA⟩ : ∃ a : Nat, rs[y].above = a := ⟨rs[y].above.toNat, by omega⟩
      rw [hA] at hu2 hb
      rw [hs, hA, Bool.or_eq_false_iff]
      exact ⟨by simp; omega, ih a (by omega) (by omega) hu2⟩
/-- what is left and paid, the reaches from m on being divided -/
structure DO (T : Tr) (l : List Int) (m : Nat) (s : List Int × (Nat → List Int)) : Prop where
  len : s.1.length = T.ps.length
  pos : ∀ i, 0 ≤ s.1.getD i 0 ∧ s.1.getD i 0 ≤ 1073741824
  low : ∀ i, i < T.ps.length → reP T i < m → s.1.getD i 0 = l.getD i 0
  fr : ∀ c, m ≤ c → c < T.rs.length → abv T.rs c < m → LS T c s.1 = objX T l c
  col : ∀ i, s.1.getD i 0 + sumR T.rs.length (fun k => if m ≤ k then (s.2 k).getD i 0 else 0) = l.getD i 0
  row : ∀ k, m ≤ k → k < T.rs.length → (s.2 k).length = T.ps.length ∧ (∀ i, 0 ≤ (s.2 k).getD i 0 ∧ (s.2 k).getD i 0 ≤ 1073741824 ∧ (usI T k i = false → (s.2 k).getD i 0 = 0)) ∧ sumR T.ps.length (fun i => (s.2 k).getD i 0) ≤ uC T k
theorem DO.step {T : Tr} (hok : Ok T) {l : List Int} (hlen : l.length = T.ps.length) {r : Nat} (hr : r < T.rs.length) {s : List Int × (Nat → List Int)} (h : DO T l (r + 1) s) : DO T l r (dvR T s r) := by
  obtain ⟨L, R⟩ := s
  have hLl := h.len
  have hpos := h.pos
  have hlow := h.low
  have hfr := h.fr
  have hcol := h.col
  have hrow := h.row
  dsimp only at hLl hpos hlow hfr hcol hrow
  have hcb := cst_bd hok.rv r
  have hD0 : 0 ≤ dvD T r := by unfold dvD; split <;> omega
  have I := dvJ_inv (T := T) (r := r) hLl (fun i => (hpos i).1) hD0 T.ps.length (Nat.le_refl _)
  unfold dvR
  dsimp only
  generalize dvJ T r L T.ps.length = q at I
  obtain ⟨due, L', R'⟩ := q
  have hIl := I.ll
  have hIr := I.lr
  have hd := I.d
  have ha := I.a
  have hp := I.p
  have hu := I.u
  have hs := I.sm
  dsimp only at hIl hIr hd ha hp hu hs ⊢
  have hLS : LS T r L = sumR T.ps.length (fun i => if usI T r i = true then L.getD i 0 else 0) := rfl
  have hLS' : LS T r L' = LS T r L - sumR T.ps.length (fun i => R'.getD i 0) := by
    unfold LS
    rw [← sumR_sub]
    refine sumR_congr (fun i _ => ?_)
    have := ha i
    by_cases hx : usI T r i = true
    · rw [if_pos hx, if_pos hx]; omega
    · rw [if_neg hx, if_neg hx, hu i (by simpa using hx)]; omega
  refine ⟨hIl, fun i => ?_, fun i hi hm => ?_, fun c h1 h2 h3 => ?_, fun i => ?_, fun k h1 h2 => ?_⟩ <;> dsimp only
  · have := ha i; have := hp i; have := hpos i; omega
  · have hx : usI T r i = false := by
      have hb := reP_bd hok hi
      cases hq : usI T r i with
      | false => rfl
      | true =>
        unfold usI at hq
        rw [hb.1] at hq
        have := upL_bd hok.rv (reP T i + 1) (reP T i) (by omega) (by omega) _ (usB_t.1 hq)
        omega
    have := ha i
    have := hu i hx
    have := hlow i hi (by omega)
    omega
  · by_cases e : c = r
    · subst e
      have hrec := LS_rec hok h2 L
      rw [sumR_congr (g := fun i => if reP T i = c then l.getD i 0 else 0) (fun i hi => by
        by_cases hq : reP T i = c
        · rw [if_pos hq, if_pos hq]; exact hlow i hi (by omega)
        · rw [if_neg hq, if_neg hq]), ← atP_sum hlen] at hrec
      rw [chS_congr hok.rv (o' := objX T l) (fun x hx hcx hax => hfr x (by omega) hx (by omega))] at hrec
      have hX : exX T l c = atP (T.ps.zip l) c + chS T.rs (objX T l) c T.rs.length - cst T.rs c := rfl
      have hO := objX_ex hok l h2
      rw [hLS', hs, hd, ← hLS]
      have hDu := dvD_uC hok c
      unfold uC at hDu
      cases hub : usedB T c with
      | true =>
        rw [hub, if_pos rfl] at hDu
        omega
      | false =>
        rw [hub, if_neg (by decide)] at hDu
        have hz := (unused_zero hok l (T.rs.length) c h2 (by omega) hub).2
        have hL0 : LS T c L = 0 := by
          unfold LS
          rw [sumR_congr (g := fun _ => 0) (fun i hi => ?_), sumR_nil]
          refine if_neg (fun hq => ?_)
          unfold usedB at hub
          rw [List.any_eq_false] at hub
          refine hub _ (List.getElem_mem hi) ?_
          have e : T.ps.getD i ⟨0, 0, 0⟩ = T.ps[i] := by rw [List.getD_eq_getElem?_getD, List.getElem?_eq_getElem hi]; rfl
          unfold usI at hq
          rw [e] at hq
          exact hq
        omega
    · have hrc : r < c := by omega
      rw [← hfr c (by omega) h2 (by omega)]
      unfold LS
      refine sumR_congr (fun i hi => ?_)
      by_cases hx : usI T c i = true
      · rw [if_pos hx, if_pos hx]
        have hb := reP_bd hok hi
        have hn : usI T r i = false := by
          unfold usI at hx ⊢
          rw [hb.1] at hx ⊢
          exact no_use hok.rv h2 hrc h3 (reP T i + 1) (reP T i) (by omega) hb.2 hx
        have := ha i
        have := hu i hn
        omega
      · rw [if_neg hx, if_neg hx]
  · have h1 : sumR T.rs.length (fun k => if r ≤ k then (if k = r then R' else R k).getD i 0 else 0) = sumR T.rs.length (fun k => if r + 1 ≤ k then (R k).getD i 0 else 0) + R'.getD i 0 := by
      rw [← sumR_one hr]
      refine sumR_congr (fun k hk => ?_)
      by_cases e : k = r
      · subst e
        rw [if_pos (Nat.le_refl _), if_pos rfl, if_pos rfl, if_neg (by omega)]; omega
      · rw [if_neg e, if_neg e]
        by_cases e2 : r ≤ k
        · rw [if_pos e2, if_pos (by omega)]
        · rw [if_neg e2, if_neg (by omega)]
    rw [h1]
    have := ha i
    have := hcol i
    omega
  · by_cases e : k = r
    · subst e
      rw [if_pos rfl]
      refine ⟨hIr, fun i => ⟨(hp i).1, ?_, hu i⟩, ?_⟩
      · have := ha i; have := hp i; have := hpos i; omega
      · rw [hs, ← dvD_uC hok]; omega
    · rw [if_neg e]
      exact hrow k (by omega) h2
theorem dvF_DO {T : Tr} (hok : Ok T) {l : List Int} (hlen : l.length = T.ps.length) : ∀ m, m ≤ T.rs.length → ∀ s, DO T l m s → DO T l 0 ((bk m).foldl (dvR T) s)
  | 0, _, s, h => h
  | m + 1, hm, s, h => dvF_DO hok hlen m (by omega) _ (h.step hok hlen (by omega))
theorem getD_bd {l : List Int} (hb : ∀ n ∈ l, 0 ≤ n ∧ n ≤ 1073741824) (i : Nat) : 0 ≤ l.getD i 0 ∧ l.getD i 0 ≤ 1073741824 := by
  rw [List.getD_eq_getElem?_getD]
  by_cases h : i < l.length
  · rw [List.getElem?_eq_getElem h]; exact hb _ (List.getElem_mem h)
  · rw [List.getElem?_eq_none (by omega)]; simp
theorem dvF_end {T : Tr} (hok : Ok T) {l : List Int} (hlen : l.length = T.ps.length) (hb : ∀ n ∈ l, 0 ≤ n ∧ n ≤ 1073741824) : DO T l 0 (dvF T l (bk T.rs.length)) := by
  refine dvF_DO hok hlen _ (Nat.le_refl _) _ ⟨hlen, getD_bd hb, fun _ _ _ => rfl, fun c h1 h2 => by omega, fun i => ?_, fun k h1 h2 => by omega⟩
  rw [sumR_congr (g := fun _ => 0) (fun k hk => by rw [if_neg (by omega)]), sumR_nil]
  show l.getD i 0 + 0 = _
  omega
theorem dv_good {T : Tr} {l : List Int} (h : dvE T l = 0) : dvdB T l (dvX T l) = true := by
  have hX : dvX T l = dvM T l := by unfold dvX; rw [if_pos h]
  rw [hX]
  have hpf : penE T l = 0 ∧ faiB T l = true := by
    unfold dvE at h
    split at h
    · rename_i h0
      split at h
      · rename_i h1; exact ⟨h0, h1⟩
      · cases h
    · exact absurd h (by assumption)
  obtain ⟨hok, hlen, hb⟩ := penE_ok hpf.1
  have hf := hpf.2
  unfold faiB at hf
  rw [Bool.and_eq_true] at hf
  have hsum : sumI l = alnE T (fun _ => true) := by simpa using hf.1
  have hov : ovX T l = 0 := by simpa using hf.2
  have hal : alnE T (fun _ => true) = sumR T.rs.length (uC T) := by
    unfold alnE
    refine sumR_congr (fun k _ => ?_)
    unfold uC usedB
    simp only [Bool.true_and]
  have D := dvF_end hok hlen hb
  have hM : dvM T l = (List.range T.rs.length).map (dvF T l (bk T.rs.length)).2 := rfl
  rw [hM]
  clear hM
  generalize dvF T l (bk T.rs.length) = s at D
  obtain ⟨L, R⟩ := s
  have hpos := D.pos
  have hfr := D.fr
  have hcol := D.col
  have hrow := D.row
  dsimp only at hpos hfr hcol hrow ⊢
  have hL0 : ∀ i, i < T.ps.length → L.getD i 0 = 0 := by
    intro i hi
    have hbp := reP_bd hok hi
    obtain ⟨x, hx, hxr⟩ := upL_root hok.rv (reP T i + 1) (reP T i) (by omega) (by omega) (by omega)
    have hxb := upL_in hok.rv (by omega) x hx
    obtain ⟨k, rfl⟩ : ∃ k : Nat, x = k := ⟨x.toNat, by omega⟩
    rw [ovX_len hok] at hov
    have hz := ovS_zero (fun k => (objX_bd hok hb k).1) _ hov k (by omega) (by omega) hxr
    have hLS := hfr k (by omega) (by omega) (by omega)
    rw [hz] at hLS
    have := sumR_eq_of (n := T.ps.length) (f := fun _ => 0) (g := fun i => if usI T k i = true then L.getD i 0 else 0) (fun j _ => by
      have := hpos j
      split <;> omega) (by rw [sumR_nil]; exact Int.le_of_eq hLS) i hi
    rw [if_pos (by unfold usI; rw [hbp.1]; exact usB_t.2 hx)] at this
    exact this.symm
  have hcol2 : ∀ i, i < T.ps.length → sumR T.rs.length (fun k => (R k).getD i 0) = l.getD i 0 := fun i hi => by
    have := hcol i
    rw [hL0 i hi] at this
    rw [← this]
    simp
  have hrs : ∀ k, k < T.rs.length → sumR T.ps.length (fun i => (R k).getD i 0) = uC T k := by
    refine sumR_eq_of (fun k hk => (hrow k (by omega) hk).2.2) ?_
    rw [sumR_swap, sumR_congr hcol2, ← hal, ← hsum, sumR_snocL, hlen]
    exact Int.le_refl _
  refine dvd_ok (by simp) (fun k hk => ?_) (fun i hi => ?_)
  · have hk' : k < T.rs.length := by simpa using hk
    have hrk := hrow k (by omega) hk'
    rw [List.getElem_map, List.getElem_range]
    unfold linB
    rw [Bool.and_eq_true, Bool.and_eq_true]
    refine ⟨decide_eq_true (by rw [hrk.1, hlen]), row_ok (fun i hi => ?_), ?_⟩
    · have e : (R k)[i] = (R k).getD i 0 := by rw [List.getD_eq_getElem?_getD, List.getElem?_eq_getElem hi]; rfl
      rw [e]
      have hc := hrk.2.1 i
      unfold celB
      rw [Bool.and_eq_true]
      refine ⟨by unfold inB; rw [Bool.and_eq_true]; exact ⟨decide_eq_true hc.1, decide_eq_true hc.2.1⟩, ?_⟩
      cases hu : usB T.rs (T.ps.getD i ⟨0, 0, 0⟩).reach k with
      | true => rfl
      | false => rw [hc.2.2 hu]; rfl
    · unfold toB
      rw [sumR_snocL, hrk.1, hrs k hk']
      unfold uC
      cases hu : usedB T k with
      | true => rw [if_pos rfl]; simp
      | false =>
        have : ¬ 0 < (usrL T.rs k T.ps).length := fun q => by rw [(usrL_used T k).1 q] at hu; cases hu
        rw [decide_eq_false this]; rfl
  · rw [hlen] at hi
    unfold colS
    rw [List.map_map, sumI_range]
    show l.getD i 0 - sumR T.rs.length (fun k => (R k).getD i 0) = 0
    rw [hcol2 i hi]
    omega
end Go.Proofs.Ythopgonbndoidaa
