/- Plain: what a reach's group pays too much, by the specification and by the program; groups in order. -/
import Derived.Test.YthopgonbndoidaaVRPen
import Derived.Test.YthopgonbndoidaaVBtw
namespace Go.Proofs.Ythopgonbndoidaa
open Go.RowKit Go.Shelf

/-- what comes up from the reaches right below -/
def chS (rs : List Rc) (o : Nat → Int) (r : Nat) (j : Nat) : Int := sumR j (fun k => if abv rs k = (r : Int) then o k else 0)
theorem chS_succ (rs : List Rc) (o : Nat → Int) (r j : Nat) : chS rs o r (j + 1) = chS rs o r j + (if abv rs j = (r : Int) then o j else 0) := rfl
theorem chS_low {rs : List Rc} (hV : RsV rs) (o : Nat → Int) {r : Nat} : ∀ j, j ≤ r + 1 → j ≤ rs.length → chS rs o r j = 0
  | 0, _, _ => rfl
  | j + 1, h, hl => by
    have hv := hV.v j (by omega)
    rw [chS_succ, chS_low hV o j (by omega) (by omega), abv_get (by omega), if_neg (by omega)]; rfl
/-- how much those at a reach and below pay more than it costs -/
def exX (T : Tr) (l : List Int) (r : Nat) : Int := atP (T.ps.zip l) r + chS T.rs (objX T l) r T.rs.length - cst T.rs r

theorem bk_get : ∀ {m d : Nat}, d < m → (bk m)[d]? = some (m - 1 - d)
  | 0, d, h => by omega
  | m + 1, 0, _ => by simp [bk]
  | m + 1, d + 1, h => by
    have := bk_get (m := m) (d := d) (by omega)
    simp only [bk, List.getElem?_cons_succ, this]
    congr 1; omega
theorem bk_take {m d : Nat} (h : d < m) : (bk m).take (d + 1) = (bk m).take d ++ [m - 1 - d] := by
  rw [List.take_add_one, bk_get h]; rfl
/-- the state behind d reaches -/
def obD (rs : List Rc) (f : Nat → Int) (d : Nat) : (Nat → Int) × (Nat → Int) := obF rs f ((bk rs.length).take d)
theorem obD_succ {rs : List Rc} {f : Nat → Int} {d : Nat} (h : d < rs.length) : obD rs f (d + 1) = obS rs (obD rs f d) (rs.length - 1 - d) := by
  unfold obD; rw [bk_take h, obF_snoc]
theorem obD_low {rs : List Rc} {f : Nat → Int} : ∀ (d : Nat), d ≤ rs.length → ∀ k, k < rs.length - d → (obD rs f d).2 k = 0
  | 0, _, k, _ => rfl
  | d + 1, h, k, hk => by
    rw [obD_succ (by omega)]
    show (if k = rs.length - 1 - d then _ else (obD rs f d).2 k) = 0
    rw [if_neg (by omega)]
    exact obD_low d (by omega) k (by omega)
theorem obD_stay {rs : List Rc} {f : Nat → Int} {d k : Nat} (hk : rs.length - d ≤ k) : ∀ (e : Nat), d + e ≤ rs.length → (obD rs f (d + e)).2 k = (obD rs f d).2 k
  | 0, _ => rfl
  | e + 1, h => by
    rw [show d + (e + 1) = (d + e) + 1 by omega, obD_succ (by omega)]
    show (if k = rs.length - 1 - (d + e) then _ else (obD rs f (d + e)).2 k) = _
    rw [if_neg (by omega)]
    exact obD_stay hk e (by omega)
theorem obD_at {rs : List Rc} (hV : RsV rs) {f : Nat → Int} : ∀ (d : Nat), d ≤ rs.length → ∀ r, (obD rs f d).1 r = f r + sumR rs.length (fun k => if rs.length - d ≤ k ∧ abv rs k = (r : Int) then (obD rs f d).2 k else 0)
  | 0, _, r => by
    have : sumR rs.length (fun k => if rs.length - 0 ≤ k ∧ abv rs k = (r : Int) then (obD rs f 0).2 k else 0) = 0 := by
      have e : ∀ k, k < rs.length → (if rs.length - 0 ≤ k ∧ abv rs k = (r : Int) then (obD rs f 0).2 k else 0) = (0 : Int) := fun k hk => by rw [if_neg (by omega)]
      rw [sumR_congr e]
      have z : ∀ n, sumR n (fun _ => (0 : Int)) = 0 := fun n => by induction n with
        | zero => rfl
        | succ n ih => rw [sumR, ih]; rfl
      exact z _
    rw [this]
    show f r = f r + 0
    omega
  | d + 1, h, r => by
    have ih := obD_at hV (f := f) d (by omega) r
    have hk0 : rs.length - 1 - d < rs.length := by omega
    have hs := sumR_one hk0 (fun k => if rs.length - d ≤ k ∧ abv rs k = (r : Int) then (obD rs f d).2 k else 0) (if abv rs ((rs.length - 1 - d : Nat) : Int) = (r : Int) then obO rs (obD rs f d).1 (rs.length - 1 - d) else 0)
    have e : sumR rs.length (fun k => if rs.length - (d + 1) ≤ k ∧ abv rs k = (r : Int) then (obD rs f (d + 1)).2 k else 0) = sumR rs.length (fun k => if k = rs.length - 1 - d then (if rs.length - d ≤ k ∧ abv rs k = (r : Int) then (obD rs f d).2 k else 0) + (if abv rs ((rs.length - 1 - d : Nat) : Int) = (r : Int) then obO rs (obD rs f d).1 (rs.length - 1 - d) else 0) else (if rs.length - d ≤ k ∧ abv rs k = (r : Int) then (obD rs f d).2 k else 0)) := by
      refine sumR_congr (fun k hk => ?_)
      have hst : (obD rs f (d + 1)).2 k = if k = rs.length - 1 - d then obO rs (obD rs f d).1 (rs.length - 1 - d) else (obD rs f d).2 k := by
        rw [obD_succ (by omega)]; rfl
      rw [hst]
      by_cases hkk : k = rs.length - 1 - d
      · subst hkk
        rw [if_pos rfl, if_pos rfl]
        have h1 : ¬ (rs.length - d ≤ rs.length - 1 - d ∧ abv rs ((rs.length - 1 - d : Nat) : Int) = (r : Int)) := by omega
        rw [if_neg h1]
        by_cases ha : abv rs ((rs.length - 1 - d : Nat) : Int) = (r : Int)
        · rw [if_pos ⟨by omega, ha⟩, if_pos ha]; omega
        · rw [if_neg (fun h => ha h.2), if_neg ha]; omega
      · rw [if_neg hkk, if_neg hkk]
        by_cases ha : abv rs k = (r : Int)
        · by_cases hd : rs.length - d ≤ k
          · rw [if_pos ⟨by omega, ha⟩, if_pos ⟨hd, ha⟩]
          · rw [if_neg (by omega), if_neg (by omega)]
        · rw [if_neg (fun h => ha h.2), if_neg (fun h => ha h.2)]
    rw [e, hs]
    have hf : (obD rs f (d + 1)).1 r = (obD rs f d).1 r + (if abv rs ((rs.length - 1 - d : Nat) : Int) = (r : Int) then obO rs (obD rs f d).1 (rs.length - 1 - d) else 0) := by
      rw [obD_succ (by omega)]
      show obA rs (obD rs f d).1 (rs.length - 1 - d) r = _
      unfold obA
      by_cases h0 : 0 ≤ abv rs ((rs.length - 1 - d : Nat) : Int)
      · rw [if_pos h0]
        by_cases ha : abv rs ((rs.length - 1 - d : Nat) : Int) = (r : Int)
        · show (if r = (abv rs ((rs.length - 1 - d : Nat) : Int)).toNat then _ else _) = _
          rw [if_pos ha, if_pos (by omega)]
        · show (if r = (abv rs ((rs.length - 1 - d : Nat) : Int)).toNat then _ else _) = _
          rw [if_neg ha, if_neg (by omega)]; omega
      · rw [if_neg h0, if_neg (by omega)]; omega
    rw [hf, ih]
    omega
theorem objX_ex {T : Tr} (hok : Ok T) (l : List Int) {r : Nat} (hr : r < T.rs.length) : objX T l r = max 0 (exX T l r) := by
  have hV := hok.rv
  have hd : T.rs.length - 1 - (T.rs.length - 1 - r) = r := by omega
  have e0 : objX T l = (obD T.rs (atP (T.ps.zip l)) T.rs.length).2 := by
    unfold objX obD
    rw [List.take_of_length_le (by rw [bk_len]; omega)]
  have hst : ∀ d k, d ≤ T.rs.length → T.rs.length - d ≤ k → (obD T.rs (atP (T.ps.zip l)) d).2 k = objX T l k := fun d k h1 h2 => by
    have := obD_stay (rs := T.rs) (f := atP (T.ps.zip l)) h2 (T.rs.length - d) (by omega)
    rw [show d + (T.rs.length - d) = T.rs.length by omega] at this
    rw [e0, this]
  rw [← hst (T.rs.length - 1 - r + 1) r (by omega) (by omega), obD_succ (by omega), hd]
  show (if r = r then obO T.rs (obD T.rs (atP (T.ps.zip l)) (T.rs.length - 1 - r)).1 r else _) = _
  rw [if_pos rfl]
  unfold obO exX
  rw [obD_at hV _ (by omega)]
  have e : sumR T.rs.length (fun k => if T.rs.length - (T.rs.length - 1 - r) ≤ k ∧ abv T.rs k = (r : Int) then (obD T.rs (atP (T.ps.zip l)) (T.rs.length - 1 - r)).2 k else 0) = chS T.rs (objX T l) r T.rs.length := by
    unfold chS
    refine sumR_congr (fun k hk => ?_)
    have hv := hV.v k hk
    rw [abv_get hk]
    by_cases ha : T.rs[k].above = (r : Int)
    · rw [if_pos ⟨by omega, ha⟩, if_pos ha, hst _ k (by omega) (by omega)]
    · rw [if_neg (fun h => ha h.2), if_neg ha]
  rw [e]
/-- bounds: what comes up -/
theorem chS_bd {T : Tr} (hok : Ok T) {l : List Int} (hb : ∀ n ∈ l, 0 ≤ n ∧ n ≤ 1073741824) (r : Nat) : ∀ j, j ≤ T.rs.length → 0 ≤ chS T.rs (objX T l) r j ∧ chS T.rs (objX T l) r j ≤ 864691128455135232 - 25769803776 * 2 ^ (25 - j)
  | 0, _ => by show (0 : Int) ≤ 0 ∧ (0 : Int) ≤ 864691128455135232 - 25769803776 * 2 ^ 25; decide
  | j + 1, h => by
    have ih := chS_bd hok hb r j (by omega)
    have ho := objX_bd hok hb j
    have hlr := hok.lr
    have h1 : (2 : Int) ^ (25 - j) = 2 * 2 ^ (24 - j) := by rw [show 25 - j = (24 - j) + 1 by omega, Int.pow_succ, Int.mul_comm]
    have h2 : 25 - (j + 1) = 24 - j := by omega
    rw [chS_succ, h2]
    rw [h1] at ih
    generalize (2 : Int) ^ (24 - j) = q at *
    split <;> omega
/-- the sum of what the whole pays too much -/
theorem ovS_end {rs : List Rc} {o : Nat → Int} : ∀ d, ovS rs o (rs.length + d) = ovS rs o rs.length
  | 0 => rfl
  | d + 1 => by
    show ovS rs o (rs.length + d) + (if rs.length + d < rs.length ∧ abv rs ((rs.length + d : Nat) : Int) < 0 then o (rs.length + d) else 0) = _
    rw [ovS_end d, if_neg (by omega)]; omega
theorem ovX_len {T : Tr} (hok : Ok T) (l : List Int) : ovX T l = ovS T.rs (objX T l) T.rs.length := by
  have := hok.lr
  unfold ovX
  rw [show 24 = T.rs.length + (24 - T.rs.length) by omega, ovS_end]

/-- the group, put together in order -/
def gprS (T : Tr) (o : Nat → Int) (s : List Int) (q : Py × Int) : List Int := if onB T o q = true then putL s q.1.id else s
def gprL (T : Tr) (o : Nat → Int) (z : List (Py × Int)) : List Int := z.foldl (gprS T o) []
theorem gprL_snoc (T : Tr) (o : Nat → Int) (z : List (Py × Int)) (q : Py × Int) : gprL T o (z ++ [q]) = gprS T o (gprL T o z) q := by simp [gprL]
theorem putL_mem' {l : List Int} {n x : Int} : x ∈ putL l n ↔ x = n ∨ x ∈ l := by
  rw [(putL_perm l n).mem_iff]; simp
theorem putL_srt {l : List Int} (n : Int) (h : l.Pairwise (· ≤ ·)) : (putL l n).Pairwise (· ≤ ·) := by
  induction l with
  | nil => simp [putL]
  | cons a l ih =>
    have ha := List.pairwise_cons.1 h
    by_cases hc : a < n
    · have e : putL (a :: l) n = a :: putL l n := by simp [putL, hc]
      rw [e]
      refine List.pairwise_cons.2 ⟨fun x hx => ?_, ih ha.2⟩
      rcases putL_mem'.1 hx with rfl | hx
      · omega
      · exact ha.1 x hx
    · have e : putL (a :: l) n = n :: a :: l := by simp [putL, hc]
      rw [e]
      refine List.pairwise_cons.2 ⟨fun x hx => ?_, h⟩
      rcases List.mem_cons.1 hx with rfl | hx
      · omega
      · have := ha.1 x hx; omega
theorem srt_eq {l r : List Int} (h : l.Perm r) (hr : r.Pairwise (· ≤ ·)) : srtI l = r :=
  ((srtI_perm l).trans h).eq_of_pairwise (fun a b _ _ h1 h2 => by omega) (srtI_sorted l) hr
theorem gprL_sorted (T : Tr) (o : Nat → Int) (z : List (Py × Int)) : (gprL T o z).Pairwise (· ≤ ·) := by
  induction z using snoc_ind with
  | h0 => simp [gprL]
  | h1 z q ih =>
    rw [gprL_snoc]
    unfold gprS
    split
    · exact putL_srt _ ih
    · exact ih
theorem gprL_perm (T : Tr) (o : Nat → Int) (z : List (Py × Int)) : (gpL T o z).Perm (gprL T o z) := by
  induction z using snoc_ind with
  | h0 => simp [gpL, gprL]
  | h1 z q ih =>
    rw [gpL_snoc, gprL_snoc]
    unfold gprS
    split
    · exact (List.perm_append_singleton _ _).trans ((List.Perm.cons _ ih).trans (putL_perm _ _).symm)
    · exact ih
theorem gpX_same (T : Tr) (l : List Int) : gpX T l = gprL T (objX T l) (T.ps.zip l) := srt_eq (gprL_perm _ _ _) (gprL_sorted _ _ _)
theorem gprL_len (T : Tr) (o : Nat → Int) (z : List (Py × Int)) : (gprL T o z).length ≤ z.length := by
  rw [← (gprL_perm T o z).length_eq]; exact gpL_len T o z
/-- a way up ends at the river -/
theorem upL_root {rs : List Rc} (hV : RsV rs) : ∀ (n : Nat) (r : Int), 0 ≤ r → r < n → r < rs.length → ∃ x ∈ upL rs r, abv rs x < 0 := by
  intro n
  induction n with
  | zero => intro r h0 h; omega
  | succ n ih =>
    intro r h0 h h1
    obtain ⟨i, rfl⟩ : ∃ i : Nat, r = i := ⟨r.toNat, by omega⟩
    have hi : i < rs.length := by omega
    have hv := hV.v i hi
    rw [upL_step hV hi]
    by_cases ha : rs[i].above < 0
    · exact ⟨i, by simp, by rw [abv_get hi]; exact ha⟩
    · obtain ⟨x, hx, hxr⟩ := ih rs[i].above (by omega) (by omega) (by omega)
      exact ⟨x, by simp [hx], hxr⟩
theorem ovS_zero {rs : List Rc} {o : Nat → Int} (h : ∀ k, 0 ≤ o k) : ∀ n, ovS rs o n = 0 → ∀ k, k < n → k < rs.length → abv rs k < 0 → o k = 0
  | 0, _, k, hk, _, _ => by omega
  | n + 1, hz, k, hk, hl, ha => by
    have hn : ∀ m, 0 ≤ ovS rs o m := fun m => by
      induction m with
      | zero => exact Int.le_refl _
      | succ m ih => have := h m; show 0 ≤ ovS rs o m + _; split <;> omega
    have h1 := hn n
    have h2 : ovS rs o n + (if n < rs.length ∧ abv rs n < 0 then o n else 0) = 0 := hz
    have h3 := h n
    by_cases hkn : k = n
    · subst hkn
      rw [if_pos ⟨hl, ha⟩] at h2
      omega
    · refine ovS_zero h n ?_ k (by omega) hl ha
      split at h2 <;> omega
theorem gpr_none {T : Tr} (hok : Ok T) {l : List Int} (hb : ∀ n ∈ l, 0 ≤ n ∧ n ≤ 1073741824) (h0 : ovX T l = 0) : gpX T l = [] := by
  have hn : gpL T (objX T l) (T.ps.zip l) = [] := by
    unfold gpL
    rw [List.map_eq_nil_iff, List.filter_eq_nil_iff]
    intro q hq
    have hp : q.1 ∈ T.ps := (List.of_mem_zip (show (q.1, q.2) ∈ T.ps.zip l from hq)).1
    have hpv := (hok.pv _ hp).2.1
    obtain ⟨x, hx, hxr⟩ := upL_root hok.rv (q.1.reach.toNat + 1) q.1.reach hpv.1 (by omega) hpv.2
    have hxb := upL_in hok.rv hpv.2 x hx
    rw [ovX_len hok] at h0
    have hz := ovS_zero (fun k => (objX_bd hok hb k).1) _ h0 x.toNat (by omega) (by omega) (by rw [show ((x.toNat : Nat) : Int) = x by omega]; exact hxr)
    have hzr : zrB (objX T l) (upL T.rs q.1.reach) = true := by
      unfold zrB
      rw [List.any_eq_true]
      exact ⟨x, hx, by simp [hz]⟩
    simp [onB, hzr]
  unfold gpX
  rw [hn]
  exact srt_eq (List.Perm.refl _) List.Pairwise.nil
end Go.Proofs.Ythopgonbndoidaa
