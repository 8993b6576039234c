/- Plain: no group pays more too much than the most; the group that is returned does so. -/
import Derived.Test.YthopgonbndoidaaVPnF
namespace Go.Proofs.Ythopgonbndoidaa
open Go.RowKit Go.Shelf

/-- what some payers pay -/
def pdT (T : Tr) (s : Nat → Int) (tl : Py → Bool) : Int := sumR T.ps.length (fun i => if tl (T.ps.getD i ⟨0, 0, 0⟩) = true then s i else 0)
theorem alnE_all (T : Tr) : alnE T (fun _ => true) = sumR T.rs.length (uC T) := by
  unfold alnE
  refine sumR_congr (fun k _ => ?_)
  unfold uC usedB
  simp only [Bool.true_and]
theorem ps_mem {T : Tr} {i : Nat} (h : i < T.ps.length) : T.ps.getD i ⟨0, 0, 0⟩ ∈ T.ps := by rw [ps_get h]; exact List.getElem_mem h
theorem dvm_group {T : Tr} {M : Int} (_hM : 0 ≤ M) {s : Nat → Int} {R : Nat → Nat → Int} (h : DvM T M s R) (tl : Py → Bool) : pdT T s tl ≤ M * alnE T tl := by
  unfold pdT
  have h1 : sumR T.ps.length (fun i => if tl (T.ps.getD i ⟨0, 0, 0⟩) = true then s i else 0) = sumR T.rs.length (fun k => sumR T.ps.length (fun i => if tl (T.ps.getD i ⟨0, 0, 0⟩) = true then R k i else 0)) := by
    rw [sumR_swap]
    refine sumR_congr (fun i hi => ?_)
    by_cases hg : tl (T.ps.getD i ⟨0, 0, 0⟩) = true
    · simp only [hg, if_true]; exact h.col i hi
    · simp only [hg]; exact (sumR_nil _).symm
  rw [h1]
  unfold alnE
  rw [← sumR_mul]
  refine sumR_le (fun k hk => ?_)
  by_cases hu : T.ps.any (fun p => tl p && usB T.rs p.reach k) = true
  · rw [if_pos hu]
    have h2 : sumR T.ps.length (fun i => if tl (T.ps.getD i ⟨0, 0, 0⟩) = true then R k i else 0) ≤ sumR T.ps.length (R k) := sumR_le (fun i hi => by
      have := h.nn k hk i hi
      split <;> omega)
    have h3 : uC T k = cst T.rs k := by
      unfold uC
      refine if_pos ?_
      unfold usedB
      rw [List.any_eq_true] at hu ⊢
      obtain ⟨p, hp, hq⟩ := hu
      exact ⟨p, hp, (Bool.and_eq_true _ _ ▸ hq).2⟩
    rw [h.row k hk, h3] at h2
    exact h2
  · rw [if_neg hu, Int.mul_zero]
    refine Int.le_of_eq ?_
    rw [sumR_congr (g := fun _ => 0) (fun i hi => ?_), sumR_nil]
    by_cases hg : tl (T.ps.getD i ⟨0, 0, 0⟩) = true
    · rw [if_pos hg]
      refine h.us k hk i hi ?_
      cases hq : usI T k i with
      | false => rfl
      | true =>
        exfalso
        refine hu (List.any_eq_true.2 ⟨T.ps.getD i ⟨0, 0, 0⟩, ps_mem hi, ?_⟩)
        rw [Bool.and_eq_true]; exact ⟨hg, hq⟩
    · rw [if_neg hg]
theorem pdT_all (T : Tr) (s : Nat → Int) : pdT T s (fun _ => true) = sumR T.ps.length s := by
  unfold pdT
  exact sumR_congr (fun i _ => by simp)
theorem dvm_all {T : Tr} {M : Int} {s : Nat → Int} {R : Nat → Nat → Int} (h : DvM T M s R) : sumR T.ps.length s = M * alnE T (fun _ => true) := by
  rw [alnE_all, ← sumR_mul, sumR_congr h.col, ← sumR_swap]
  exact sumR_congr h.row
theorem pdT_split (T : Tr) (s : Nat → Int) (tl : Py → Bool) : pdT T s tl + pdT T s (fun p => !tl p) = sumR T.ps.length s := by
  unfold pdT
  rw [← sumR_add]
  refine sumR_congr (fun i _ => ?_)
  generalize T.ps.getD i ⟨0, 0, 0⟩ = p
  by_cases h : tl p = true <;> simp [h]
/-- a group pays by shares at least what it saves -/
theorem dvm_saved {T : Tr} {M : Int} (hM : 0 ≤ M) {s : Nat → Int} {R : Nat → Nat → Int} (h : DvM T M s R) (tl : Py → Bool) : M * (alnE T (fun _ => true) - alnE T (fun p => !tl p)) ≤ pdT T s tl := by
  have h1 := dvm_group hM h (fun p => !tl p)
  have h2 := pdT_split T s tl
  have h3 := dvm_all h
  rw [Int.mul_sub]
  omega

theorem sumW_filter (l : List Py) (f : Py → Bool) (h : ∀ p ∈ l, 1 ≤ p.w) : sumW (l.filter f) ≤ sumW l := by
  induction l with
  | nil => exact Int.le_refl _
  | cons p l ih =>
    have i := ih (fun q hq => h q (by simp [hq]))
    have j := h p (by simp)
    rw [List.filter_cons, sumW_cons]
    split
    · rw [sumW_cons]; omega
    · omega
def sbT (T : Tr) (tl : Py → Bool) : Tr := ⟨T.rs, T.ps.filter tl⟩
theorem sbT_ok {T : Tr} (hok : Ok T) (tl : Py → Bool) : Ok (sbT T tl) :=
  ⟨hok.lr, Nat.le_trans (List.length_filter_le _ _) hok.lp, hok.rv, fun p hp => hok.pv p (List.mem_filter.1 hp).1, hok.nd.sublist (List.filter_sublist.map _),
    Int.le_trans (sumW_filter _ _ (fun p hp => (hok.pv p hp).2.2)) hok.sw⟩
theorem sbT_aln (T : Tr) (tl : Py → Bool) : alnE (sbT T tl) (fun _ => true) = alnE T tl := by
  unfold alnE sbT
  refine sumR_congr (fun k _ => ?_)
  simp only [List.any_filter, Bool.true_and]
theorem zip_self {α β : Type} : ∀ z : List (α × β), (z.map (·.1)).zip (z.map (·.2)) = z
  | [] => rfl
  | q :: z => by simp only [List.map_cons, List.zip_cons_cons, zip_self z]
def sbZ (T : Tr) (l : List Int) (tl : Py → Bool) : List (Py × Int) := (T.ps.zip l).filter (fun q => tl q.1)
def sbL (T : Tr) (l : List Int) (tl : Py → Bool) : List Int := (sbZ T l tl).map (·.2)
theorem sbZ_fst {T : Tr} {l : List Int} (hlen : l.length = T.ps.length) (tl : Py → Bool) : (sbZ T l tl).map (·.1) = (sbT T tl).ps := by
  unfold sbZ sbT
  show List.map Prod.fst (List.filter (tl ∘ Prod.fst) _) = _
  rw [← List.filter_map, List.map_fst_zip (by omega)]
theorem sb_zip {T : Tr} {l : List Int} (hlen : l.length = T.ps.length) (tl : Py → Bool) : (sbT T tl).ps.zip (sbL T l tl) = sbZ T l tl := by
  rw [← sbZ_fst hlen]
  exact zip_self _
theorem sbL_len {T : Tr} {l : List Int} (hlen : l.length = T.ps.length) (tl : Py → Bool) : (sbL T l tl).length = (sbT T tl).ps.length := by
  rw [← sbZ_fst hlen]
  unfold sbL
  rw [List.length_map, List.length_map]
theorem sumI_filter (z : List (Py × Int)) (f : Py × Int → Bool) : sumI ((z.filter f).map (·.2)) = sumI (z.map (fun q => if f q = true then q.2 else 0)) := by
  induction z using snoc_ind with
  | h0 => rfl
  | h1 z q ih =>
    rw [List.filter_append, List.map_append, List.map_append, List.map_cons, List.map_nil, sumI_snoc, ← ih]
    by_cases h : f q = true
    · rw [List.filter_cons, if_pos h, if_pos h, List.filter_nil, List.map_cons, List.map_nil, sumI_snoc]
    · rw [List.filter_cons, if_neg h, if_neg h, List.filter_nil, List.map_nil, List.append_nil]; omega
theorem sumI_zip {T : Tr} {l : List Int} (hlen : l.length = T.ps.length) (f : Py → Int → Int) : sumI ((T.ps.zip l).map (fun q => f q.1 q.2)) = sumR T.ps.length (fun i => f (T.ps.getD i ⟨0, 0, 0⟩) (l.getD i 0)) := by
  rw [sumR_snocL, List.length_map, List.length_zip, hlen, Nat.min_self]
  refine sumR_congr (fun i hi => ?_)
  have hi2 : i < l.length := by omega
  simp only [List.getD_eq_getElem?_getD, List.getElem?_map, List.zip, List.getElem?_zipWith, List.getElem?_eq_getElem hi, List.getElem?_eq_getElem hi2, Option.map_some, Option.getD_some]
theorem sbL_sum {T : Tr} {l : List Int} (hlen : l.length = T.ps.length) (tl : Py → Bool) : sumI (sbL T l tl) = pdT T (fun i => l.getD i 0) tl := by
  unfold sbL sbZ pdT
  rw [sumI_filter]
  exact sumI_zip hlen (fun p x => if tl p = true then x else 0)
theorem pdL_pdT {T : Tr} {l : List Int} (hlen : l.length = T.ps.length) (g : List Int) : pdL g (T.ps.zip l) = pdT T (fun i => l.getD i 0) (fun p => decide (p.id ∈ g)) := by
  rw [pdL_sum hlen]
  unfold pdT idI
  simp only [decide_eq_true_eq]
theorem atP_filter (z : List (Py × Int)) (f : Py × Int → Bool) (h : ∀ q ∈ z, 0 ≤ q.2) (k : Nat) : atP (z.filter f) k ≤ atP z k := by
  induction z using snoc_ind with
  | h0 => exact Int.le_refl _
  | h1 z q ih =>
    have i := ih (fun m hm => h m (by simp [hm]))
    have j := h q (by simp)
    rw [List.filter_append, atP_snoc]
    by_cases e : f q = true
    · rw [List.filter_cons, if_pos e, List.filter_nil, atP_snoc]
      unfold atS
      split <;> omega
    · rw [List.filter_cons, if_neg e, List.filter_nil, List.append_nil]
      unfold atS
      split <;> omega
theorem zip_nn {T : Tr} {l : List Int} (hb : ∀ n ∈ l, 0 ≤ n ∧ n ≤ 1073741824) : ∀ q ∈ T.ps.zip l, 0 ≤ q.2 := fun q hq => (hb q.2 (List.of_mem_zip (show (q.1, q.2) ∈ T.ps.zip l from hq)).2).1
theorem sb_obj {T : Tr} (hok : Ok T) {l : List Int} (hlen : l.length = T.ps.length) (hb : ∀ n ∈ l, 0 ≤ n ∧ n ≤ 1073741824) (tl : Py → Bool) :
    ∀ (d k : Nat), k < T.rs.length → T.rs.length - k ≤ d → objX (sbT T tl) (sbL T l tl) k ≤ objX T l k := by
  intro d
  induction d with
  | zero => intro k h1 h2; omega
  | succ d ih =>
    intro k hk hd
    have hch : chS T.rs (objX (sbT T tl) (sbL T l tl)) k T.rs.length ≤ chS T.rs (objX T l) k T.rs.length := chS_le hok.rv (fun c h1 h2 _ => ih c h1 (by omega))
    have ha : atP ((sbT T tl).ps.zip (sbL T l tl)) k ≤ atP (T.ps.zip l) k := by rw [sb_zip hlen]; exact atP_filter _ _ (zip_nn hb) k
    rw [objX_ex (sbT_ok hok tl) _ (show k < (sbT T tl).rs.length from hk), objX_ex hok l hk]
    have e1 : exX (sbT T tl) (sbL T l tl) k = atP ((sbT T tl).ps.zip (sbL T l tl)) k + chS T.rs (objX (sbT T tl) (sbL T l tl)) k T.rs.length - cst T.rs k := rfl
    have e2 : exX T l k = atP (T.ps.zip l) k + chS T.rs (objX T l) k T.rs.length - cst T.rs k := rfl
    omega
theorem rtS_le {rs : List Rc} {f g : Nat → Int} (h : ∀ k, k < rs.length → abv rs k < 0 → f k ≤ g k) : rtS rs f rs.length ≤ rtS rs g rs.length := sumR_le (fun k hk => by
  by_cases ha : abv rs k < 0
  · rw [if_pos ha, if_pos ha]; exact h k hk ha
  · rw [if_neg ha, if_neg ha]; exact Int.le_refl _)
/-- nobody pays too much by more -/
theorem group_le {T : Tr} (hok : Ok T) {l : List Int} (hlen : l.length = T.ps.length) (hb : ∀ n ∈ l, 0 ≤ n ∧ n ≤ 1073741824) (tl : Py → Bool) : pdT T (fun i => l.getD i 0) tl ≤ alnE T tl + ovX T l := by
  have h1 := rt_sum (sbT_ok hok tl) (sbL_len hlen tl)
  rw [sbL_sum hlen, sbT_aln] at h1
  have h2 : rtS T.rs (dX (sbT T tl) (sbL T l tl)) T.rs.length ≤ rtS T.rs (objX T l) T.rs.length := rtS_le (fun k hk _ =>
    Int.le_trans (dX_le (sbT_ok hok tl) _ _ k hk (Nat.le_refl _)) (sb_obj hok hlen hb tl _ k hk (Nat.le_refl _)))
  rw [ovX_len hok, ovS_rt _ _ (Nat.le_refl _)]
  have h3 : rtS (sbT T tl).rs (dX (sbT T tl) (sbL T l tl)) (sbT T tl).rs.length = rtS T.rs (dX (sbT T tl) (sbL T l tl)) T.rs.length := rfl
  omega
theorem inj_of_nodup {α β : Type} {f : α → β} : ∀ {z : List α}, (z.map f).Nodup → ∀ {q r : α}, q ∈ z → r ∈ z → f q = f r → q = r
  | [], _, _, _, h, _, _ => by cases h
  | x :: z, hn, q, r, hq, hr, he => by
    rw [List.map_cons, List.nodup_cons] at hn
    rcases List.mem_cons.1 hq with rfl | hq'
    · rcases List.mem_cons.1 hr with rfl | hr'
      · rfl
      · exact absurd (he ▸ List.mem_map_of_mem hr') hn.1
    · rcases List.mem_cons.1 hr with rfl | hr'
      · exact absurd (he ▸ List.mem_map_of_mem hq') hn.1
      · exact inj_of_nodup hn.2 hq' hr' he
theorem up_trans {rs : List Rc} (hV : RsV rs) {k : Nat} {x : Int} : ∀ (n y : Nat), y < n → y < rs.length → k < rs.length → (k : Int) ∈ upL rs y → x ∈ upL rs k → x ∈ upL rs y := by
  intro n
  induction n with
  | zero => intro y h; omega
  | succ n ih =>
    intro y hy hl hk hx h0
    have hv := hV.v y hl
    rw [upL_step hV hl] at hx ⊢
    rcases List.mem_cons.1 hx with e | hx
    · obtain rfl : k = y := by omega
      rw [upL_step hV hl] at h0
      exact h0
    · refine List.mem_cons_of_mem _ ?_
      by_cases hn : 0 ≤ rs[y].above
      · obtain ⟨z, hz⟩ : ∃ z : Nat, rs[y].above = z := ⟨rs[y].above.toNat, by omega⟩
        rw [hz] at hx ⊢
        exact ih z (by omega) (by omega) hk hx h0
      · rw [upL_neg _ (by omega)] at hx; cases hx
theorem srtI_mem {l : List Int} {x : Int} : x ∈ srtI l ↔ x ∈ l := (List.mergeSort_perm l _).mem_iff
theorem gp_mem {T : Tr} (hok : Ok T) {l : List Int} (hlen : l.length = T.ps.length) {q : Py × Int} (hq : q ∈ T.ps.zip l) : q.1.id ∈ gpX T l ↔ onB T (objX T l) q = true := by
  unfold gpX gpL
  rw [srtI_mem, List.mem_map]
  constructor
  · rintro ⟨r, hr, he⟩
    obtain ⟨hr1, hr2⟩ := List.mem_filter.1 hr
    have hn : ((T.ps.zip l).map (fun q => q.1.id)).Nodup := by
      have e : (T.ps.zip l).map (fun q => q.1.id) = T.ps.map (·.id) := by
        rw [show (fun q : Py × Int => q.1.id) = Py.id ∘ Prod.fst from rfl, ← List.map_map, List.map_fst_zip (by omega)]
      rw [e]; exact hok.nd
    rw [inj_of_nodup hn hq hr1 he.symm]; exact hr2
  · intro h
    exact ⟨q, List.mem_filter.2 ⟨hq, h⟩, rfl⟩
/-- the group that is returned pays too much by the most -/
theorem group_ge {T : Tr} (hok : Ok T) {l : List Int} (hlen : l.length = T.ps.length) (hb : ∀ n ∈ l, 0 ≤ n ∧ n ≤ 1073741824) :
    ovX T l ≤ pdT T (fun i => l.getD i 0) (fun p => decide (p.id ∈ gpX T l)) - alnE T (fun p => decide (p.id ∈ gpX T l)) := by
  obtain ⟨tl, htl⟩ : ∃ tl : Py → Bool, (fun p : Py => decide (p.id ∈ gpX T l)) = tl := ⟨_, rfl⟩
  rw [htl]
  have h1 := rt_sum (sbT_ok hok tl) (sbL_len hlen tl)
  rw [sbL_sum hlen, sbT_aln] at h1
  have hz : sbZ T l tl = (T.ps.zip l).filter (onB T (objX T l)) := by
    unfold sbZ
    refine List.filter_congr (fun q hq => ?_)
    rw [← htl]
    have := gp_mem hok hlen hq
    cases h : onB T (objX T l) q with
    | true => exact decide_eq_true (this.2 h)
    | false => exact decide_eq_false (fun e => by rw [this.1 e] at h; cases h)
  have h0 := fun k => (objX_bd hok hb k).1
  -- a dead reach is used by nobody of the group
  have hdead : ∀ k, k < T.rs.length → zrB (objX T l) (upL T.rs k) = true → usedB (sbT T tl) k = false := fun k hk hd => by
    unfold usedB
    rw [List.any_eq_false]
    intro p hp hu
    have hp' : p ∈ (sbZ T l tl).map (·.1) := by rw [sbZ_fst hlen]; exact hp
    obtain ⟨q, hq, rfl⟩ := List.mem_map.1 hp'
    rw [hz] at hq
    have hon := (List.mem_filter.1 hq).2
    unfold onB at hon
    rw [Bool.and_eq_true] at hon
    have hzr : zrB (objX T l) (upL T.rs q.1.reach) = false := by simpa using hon.2
    have hpv := (hok.pv q.1 (List.mem_filter.1 hp).1).2.1
    obtain ⟨y, hy⟩ : ∃ y : Nat, q.1.reach = y := ⟨q.1.reach.toNat, by omega⟩
    have hku : (k : Int) ∈ upL T.rs q.1.reach := usB_t.1 hu
    unfold zrB at hd hzr
    rw [List.any_eq_true] at hd
    rw [List.any_eq_false] at hzr
    obtain ⟨x, hx, hx0⟩ := hd
    exact hzr x (by rw [hy] at hku ⊢; exact up_trans hok.rv (y + 1) y (by omega) (by omega) hk hku hx) hx0
  have key : ∀ (d k : Nat), k < T.rs.length → T.rs.length - k ≤ d → zrB (objX T l) (upL T.rs k) = false → objX T l k ≤ dX (sbT T tl) (sbL T l tl) k := by
    intro d
    induction d with
    | zero => intro k h1 h2; omega
    | succ d ih =>
      intro k hk hd hal
      have hk0 : objX T l k ≠ 0 := fun e => by
        unfold zrB at hal
        rw [List.any_eq_false] at hal
        exact hal k (by rw [upL_step hok.rv hk]; simp) (by simpa using e)
      have hch : chS T.rs (objX T l) k T.rs.length ≤ chS T.rs (dX (sbT T tl) (sbL T l tl)) k T.rs.length := chS_le hok.rv (fun c h1 h2 ha => by
        cases hc : zrB (objX T l) (upL T.rs c) with
        | false => exact ih c h1 (by omega) hc
        | true =>
          have hz0 : objX T l c = 0 := by
            rw [upL_step hok.rv h1, ← abv_get h1, ha] at hc
            unfold zrB at hc hal
            rw [List.any_cons, hal, Bool.or_false] at hc
            simpa using hc
          rw [hz0]
          have := (unused_zero (sbT_ok hok tl) (sbL T l tl) _ c h1 (Nat.le_refl _) (hdead c h1 hc)).1
          omega)
      have hat : atP (T.ps.zip l) k ≤ atP (sbZ T l tl) k := by
        rw [hz]
        have : ∀ z : List (Py × Int), (∀ q ∈ z, q.1 ∈ T.ps) → atP z k ≤ atP (z.filter (onB T (objX T l))) k := fun z => by
          induction z using snoc_ind with
          | h0 => intro _; exact Int.le_refl _
          | h1 z q ih =>
            intro hzz
            have i := ih (fun m hm => hzz m (by simp [hm]))
            have hpv := (hok.pv q.1 (hzz q (by simp))).2.1
            rw [List.filter_append, atP_snoc]
            by_cases e : onB T (objX T l) q = true
            · rw [List.filter_cons, if_pos e, List.filter_nil, atP_snoc]
              unfold atS
              split <;> omega
            · rw [List.filter_cons, if_neg e, List.filter_nil, List.append_nil]
              unfold atS
              by_cases hq : k = q.1.reach.toNat
              · rw [if_pos hq]
                have hq0 : q.2 = 0 := by
                  unfold onB at e
                  rw [show q.1.reach = (k : Int) by omega, hal] at e
                  simpa using e
                omega
              · rw [if_neg hq]; exact i
        exact this _ (fun q hq => (List.of_mem_zip (show (q.1, q.2) ∈ T.ps.zip l from hq)).1)
      have hr := dX_rec (sbT_ok hok tl) (sbL T l tl) (show k < (sbT T tl).rs.length from hk)
      rw [sb_zip hlen] at hr
      have hr' : dX (sbT T tl) (sbL T l tl) k = atP (sbZ T l tl) k - uC (sbT T tl) k + chS T.rs (dX (sbT T tl) (sbL T l tl)) k T.rs.length := hr
      have hu := (uC_le (sbT_ok hok tl) k).2
      have hu' : uC (sbT T tl) k ≤ cst T.rs k := hu
      have hX : exX T l k = atP (T.ps.zip l) k + chS T.rs (objX T l) k T.rs.length - cst T.rs k := rfl
      have ho := objX_ex hok l hk
      have := h0 k
      omega
  have h2 : rtS T.rs (objX T l) T.rs.length ≤ rtS T.rs (dX (sbT T tl) (sbL T l tl)) T.rs.length := rtS_le (fun k hk ha => by
    cases hc : zrB (objX T l) (upL T.rs k) with
    | false => exact key _ k hk (Nat.le_refl _) hc
    | true =>
      have hz0 : objX T l k = 0 := by
        rw [upL_step hok.rv hk, ← abv_get hk, upL_neg _ ha] at hc
        unfold zrB at hc
        simpa using hc
      have := (unused_zero (sbT_ok hok tl) (sbL T l tl) _ k hk (Nat.le_refl _) (hdead k hk hc)).1
      omega)
  rw [ovX_len hok, ovS_rt _ _ (Nat.le_refl _)]
  have h3 : rtS (sbT T tl).rs (dX (sbT T tl) (sbL T l tl)) (sbT T tl).rs.length = rtS T.rs (dX (sbT T tl) (sbL T l tl)) T.rs.length := rfl
  omega
end Go.Proofs.Ythopgonbndoidaa
