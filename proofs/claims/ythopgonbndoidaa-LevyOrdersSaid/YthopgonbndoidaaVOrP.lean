/- Plain: who comes in an order pays what the group costs more with him; such pence are fair. -/
import Derived.Test.YthopgonbndoidaaVWhP
namespace Go.Proofs.Ythopgonbndoidaa
open Go.RowKit Go.Shelf

def orS (T : Tr) (s : List Int × (Int → Int)) (x : Int) : List Int × (Int → Int) := (s.1 ++ [x], fun id => if id = x then alnG T (s.1 ++ [x]) - alnG T s.1 else s.2 id)
def orF (T : Tr) (o : List Int) : List Int × (Int → Int) := o.foldl (orS T) ([], fun _ => 0)
/-- what an ID pays in an order -/
def orO (T : Tr) (o : List Int) : Int → Int := (orF T o).2
theorem orF_fst (T : Tr) (o : List Int) : (orF T o).1 = o := by
  induction o using snoc_ind with
  | h0 => rfl
  | h1 l x ih =>
    have : orF T (l ++ [x]) = orS T (orF T l) x := by simp [orF]
    rw [this]
    show (orF T l).1 ++ [x] = _
    rw [ih]
theorem orO_snoc (T : Tr) (o : List Int) (x id : Int) : orO T (o ++ [x]) id = if id = x then alnG T (o ++ [x]) - alnG T o else orO T o id := by
  have : orF T (o ++ [x]) = orS T (orF T o) x := by simp [orF]
  unfold orO
  rw [this]
  show (if id = x then alnG T ((orF T o).1 ++ [x]) - alnG T (orF T o).1 else (orF T o).2 id) = _
  rw [orF_fst]
theorem alnG_nil (T : Tr) : alnG T [] = 0 := by
  unfold alnG alnE
  rw [sumR_congr (g := fun _ => 0) (fun k _ => by simp), sumR_nil]
theorem alnE_mono {T : Tr} (hok : Ok T) {f g : Py → Bool} (h : ∀ p ∈ T.ps, f p = true → g p = true) : alnE T f ≤ alnE T g := by
  unfold alnE
  refine sumR_le (fun k _ => ?_)
  have hc := (cst_bd hok.rv k).1
  by_cases hu : (T.ps.any fun p => f p && usB T.rs p.reach k) = true
  · rw [if_pos hu, if_pos]
    · exact Int.le_refl _
    · rw [List.any_eq_true] at hu ⊢
      obtain ⟨p, hp, hq⟩ := hu
      rw [Bool.and_eq_true] at hq
      exact ⟨p, hp, by rw [h p hp hq.1, hq.2]; rfl⟩
  · rw [if_neg hu]
    split <;> omega
theorem alnG_congr {T : Tr} {o l : List Int} (h : ∀ x, x ∈ o ↔ x ∈ l) : alnG T o = alnG T l := alnE_congr (fun p _ => decide_eq_decide.2 (h p.id))
theorem orO_bd {T : Tr} (hok : Ok T) (o : List Int) (id : Int) : 0 ≤ orO T o id ∧ orO T o id ≤ 1572864 := by
  induction o using snoc_ind with
  | h0 => show (0 : Int) ≤ 0 ∧ (0 : Int) ≤ _; omega
  | h1 l x ih =>
    rw [orO_snoc]
    split
    · have h1 := alnE_bd hok (fun p => decide (p.id ∈ l ++ [x]))
      have h2 := alnE_bd hok (fun p => decide (p.id ∈ l))
      have h3 : alnG T l ≤ alnG T (l ++ [x]) := alnE_mono hok (fun p _ hp => by simp only [decide_eq_true_eq, List.mem_append] at hp ⊢; exact .inl hp)
      have e1 : alnG T (l ++ [x]) = alnE T (fun p => decide (p.id ∈ l ++ [x])) := rfl
      have e2 : alnG T l = alnE T (fun p => decide (p.id ∈ l)) := rfl
      omega
    · exact ih
theorem sumI_perm {l r : List Int} (h : l.Perm r) : sumI l = sumI r := by
  induction h with
  | nil => rfl
  | cons x _ ih => rw [sumI_cons, sumI_cons, ih]
  | swap x y l => rw [sumI_cons, sumI_cons, sumI_cons, sumI_cons]; omega
  | trans _ _ h1 h2 => exact h1.trans h2
theorem map_orO {T : Tr} {o : List Int} {x : Int} (hx : x ∉ o) (f : Int → Int → Int) : (o ++ [x]).map (fun id => f id (orO T (o ++ [x]) id)) = o.map (fun id => f id (orO T o id)) ++ [f x (alnG T (o ++ [x]) - alnG T o)] := by
  rw [List.map_append, List.map_cons, List.map_nil, orO_snoc, if_pos rfl]
  congr 1
  refine List.map_congr_left (fun id hid => ?_)
  have hne : id ≠ x := fun e => hx (by rw [← e]; exact hid)
  simp only [orO_snoc, if_neg hne]
/-- all together -/
theorem or_sum (T : Tr) (o : List Int) : o.Nodup → sumI (o.map (orO T o)) = alnG T o := by
  induction o using snoc_ind with
  | h0 => intro _; rw [alnG_nil]; rfl
  | h1 l x ih =>
    intro hn
    rw [List.nodup_append] at hn
    have hx : x ∉ l := fun h => hn.2.2 x h x (by simp) rfl
    have := map_orO (T := T) hx (fun _ v => v)
    rw [this, sumI_snoc, ih hn.1]
    omega
theorem any_or {ps : List Py} {f g : Py → Bool} {u : Py → Bool} : (ps.any fun p => (f p || g p) && u p) = ((ps.any fun p => f p && u p) || ps.any fun p => g p && u p) := by
  induction ps with
  | nil => rfl
  | cons p l ih => simp only [List.any_cons, ih]; cases f p <;> cases g p <;> cases u p <;> simp
/-- a part of the group pays at most what it would pay alone -/
theorem or_part {T : Tr} (hok : Ok T) (g : List Int) (o : List Int) : o.Nodup → sumI (o.map (fun id => if id ∈ g then orO T o id else 0)) ≤ alnE T (fun p => decide (p.id ∈ g) && decide (p.id ∈ o)) := by
  induction o using snoc_ind with
  | h0 => intro _; exact (alnE_bd hok _).1
  | h1 l x ih =>
    intro hn
    rw [List.nodup_append] at hn
    have hx : x ∉ l := fun h => hn.2.2 x h x (by simp) rfl
    have i := ih hn.1
    have := map_orO (T := T) hx (fun id v => if id ∈ g then v else 0)
    rw [this, sumI_snoc]
    by_cases hg : x ∈ g
    · rw [if_pos hg]
      -- pointwise: with x more, less is added to the larger group
      have key : alnG T (l ++ [x]) - alnG T l ≤ alnE T (fun p => decide (p.id ∈ g) && decide (p.id ∈ l ++ [x])) - alnE T (fun p => decide (p.id ∈ g) && decide (p.id ∈ l)) := by
        unfold alnG alnE
        rw [← sumR_sub, ← sumR_sub]
        refine sumR_le (fun k _ => ?_)
        have hc := (cst_bd hok.rv k).1
        have e1 : (T.ps.any fun p => decide (p.id ∈ l ++ [x]) && usB T.rs p.reach k) = ((T.ps.any fun p => decide (p.id ∈ l) && usB T.rs p.reach k) || T.ps.any fun p => decide (p.id = x) && usB T.rs p.reach k) := by
          rw [← any_or]
          congr 1
          funext p
          rw [show decide (p.id ∈ l ++ [x]) = (decide (p.id ∈ l) || decide (p.id = x)) by simp [List.mem_append]]
        have e2 : (T.ps.any fun p => (decide (p.id ∈ g) && decide (p.id ∈ l ++ [x])) && usB T.rs p.reach k) = ((T.ps.any fun p => (decide (p.id ∈ g) && decide (p.id ∈ l)) && usB T.rs p.reach k) || T.ps.any fun p => decide (p.id = x) && usB T.rs p.reach k) := by
          rw [← any_or]
          congr 1
          funext p
          have : (decide (p.id ∈ g) && decide (p.id ∈ l ++ [x])) = ((decide (p.id ∈ g) && decide (p.id ∈ l)) || decide (p.id = x)) := by
            by_cases hp : p.id = x
            · rw [hp]; simp [hg]
            · simp [List.mem_append, hp]
          rw [this]
        have e3 : (T.ps.any fun p => (decide (p.id ∈ g) && decide (p.id ∈ l)) && usB T.rs p.reach k) = true → (T.ps.any fun p => decide (p.id ∈ l) && usB T.rs p.reach k) = true := fun h => by
          rw [List.any_eq_true] at h ⊢
          obtain ⟨p, hp, hq⟩ := h
          rw [Bool.and_eq_true, Bool.and_eq_true] at hq
          exact ⟨p, hp, by rw [hq.1.2, hq.2]; rfl⟩
        rw [e1, e2]
        generalize (T.ps.any fun p => decide (p.id ∈ l) && usB T.rs p.reach k) = A at e3 ⊢
        generalize (T.ps.any fun p => (decide (p.id ∈ g) && decide (p.id ∈ l)) && usB T.rs p.reach k) = B at e3 ⊢
        generalize (T.ps.any fun p => decide (p.id = x) && usB T.rs p.reach k) = D
        cases A <;> cases B <;> cases D <;> simp_all
      omega
    · rw [if_neg hg]
      have : alnE T (fun p => decide (p.id ∈ g) && decide (p.id ∈ l)) ≤ alnE T (fun p => decide (p.id ∈ g) && decide (p.id ∈ l ++ [x])) := alnE_mono hok (fun p _ hp => by
        rw [Bool.and_eq_true] at hp ⊢
        refine ⟨hp.1, ?_⟩
        have := hp.2
        simp only [decide_eq_true_eq, List.mem_append] at this ⊢
        exact .inl this)
      omega
/-- what each payer pays in an order -/
def orL (T : Tr) (o : List Int) : List Int := T.ps.map (fun p => orO T o p.id)
theorem orL_len (T : Tr) (o : List Int) : (orL T o).length = T.ps.length := by simp [orL]
theorem orL_get {T : Tr} {o : List Int} {i : Nat} (h : i < T.ps.length) : (orL T o).getD i 0 = orO T o T.ps[i].id := by
  have : i < (orL T o).length := by rw [orL_len]; exact h
  rw [getD_at this]
  simp [orL]
theorem orL_bd {T : Tr} (hok : Ok T) (o : List Int) : ∀ x ∈ orL T o, 0 ≤ x ∧ x ≤ 1073741824 := fun x hx => by
  obtain ⟨p, _, rfl⟩ := List.mem_map.1 hx
  have := orO_bd hok o p.id
  omega
theorem or_fair {T : Tr} (hok : Ok T) {o : List Int} (hp : o.Perm (T.ps.map (·.id))) : sumI (orL T o) = alnE T (fun _ => true) ∧ ovX T (orL T o) = 0 := by
  have hn : o.Nodup := hp.nodup_iff.2 hok.nd
  have hlen := orL_len T o
  have hmem : ∀ x, x ∈ o ↔ x ∈ T.ps.map (·.id) := fun x => hp.mem_iff
  have hall : alnG T o = alnE T (fun _ => true) := alnE_congr (fun p hp' => decide_eq_true ((hmem _).2 (List.mem_map_of_mem hp')))
  have hs : ∀ f : Int → Int, sumI (T.ps.map (fun p => f p.id)) = sumI (o.map f) := fun f => by
    rw [show T.ps.map (fun p => f p.id) = (T.ps.map (·.id)).map f by rw [List.map_map]; rfl]
    exact sumI_perm (hp.symm.map f)
  refine ⟨?_, ?_⟩
  · rw [← hall, ← or_sum T o hn]
    exact hs (orO T o)
  · have h1 := group_ge hok hlen (orL_bd hok o)
    generalize gpX T (orL T o) = g at h1
    have h2 := or_part hok g o hn
    have h3 : pdT T (fun i => (orL T o).getD i 0) (fun p => decide (p.id ∈ g)) = sumI (o.map (fun id => if id ∈ g then orO T o id else 0)) := by
      rw [← hs, sumR_map ⟨0, 0, 0⟩]
      unfold pdT
      refine sumR_congr (fun i hi => ?_)
      show (if decide ((T.ps.getD i ⟨0, 0, 0⟩).id ∈ g) = true then (orL T o).getD i 0 else 0) = _
      rw [orL_get hi, ps_get hi]
      simp only [decide_eq_true_eq]
    have h4 : alnE T (fun p => decide (p.id ∈ g) && decide (p.id ∈ o)) = alnE T (fun p => decide (p.id ∈ g)) := alnE_congr (fun p hp' => by
      rw [decide_eq_true ((hmem _).2 (List.mem_map_of_mem hp')), Bool.and_true])
    have h5 := (ovX_bd hok (orL_bd hok o)).1
    omega
/-- the first one, and the last one -/
theorem or_first {T : Tr} (o : List Int) : ∀ x, o.Nodup → orO T (x :: o) x = alnE T (fun p => p.id == x) ∨ ¬ (x :: o).Nodup := by
  induction o using snoc_ind with
  | h0 =>
    intro x _
    left
    have := orO_snoc T [] x x
    rw [List.nil_append, if_pos rfl, alnG_nil] at this
    rw [this]
    have e : alnG T [x] = alnE T (fun p => p.id == x) := alnE_congr (fun p _ => by
      rw [Bool.eq_iff_iff]
      simp)
    omega
  | h1 l y ih =>
    intro x hn
    by_cases hd : (x :: (l ++ [y])).Nodup
    · left
      have hxy : x ≠ y := fun e => by
        rw [List.nodup_cons] at hd
        exact hd.1 (by simp [e])
      have := orO_snoc T (x :: l) y x
      rw [if_neg hxy] at this
      rw [show x :: (l ++ [y]) = (x :: l) ++ [y] from rfl, this]
      rcases ih x (hn.sublist (List.sublist_append_left _ _)) with h | h
      · exact h
      · exact absurd (hd.sublist (List.sublist_append_left (x :: l) [y])) h
    · exact .inr hd
theorem or_last {T : Tr} {o : List Int} {x : Int} (hp : (o ++ [x]).Perm (T.ps.map (·.id))) (hok : Ok T) : orO T (o ++ [x]) x = alnE T (fun _ => true) - alnE T (fun p => !(p.id == x)) := by
  have hn : (o ++ [x]).Nodup := hp.nodup_iff.2 hok.nd
  rw [List.nodup_append] at hn
  have hx : x ∉ o := fun h => hn.2.2 x h x (by simp) rfl
  have hmem : ∀ y, y ∈ o ++ [x] ↔ y ∈ T.ps.map (·.id) := fun y => hp.mem_iff
  rw [orO_snoc, if_pos rfl]
  have e1 : alnG T (o ++ [x]) = alnE T (fun _ => true) := alnE_congr (fun p hp' => decide_eq_true ((hmem _).2 (List.mem_map_of_mem hp')))
  have e2 : alnG T o = alnE T (fun p => !(p.id == x)) := alnE_congr (fun p hp' => by
    have h1 := (hmem _).2 (List.mem_map_of_mem (f := (·.id)) hp')
    rw [List.mem_append, List.mem_singleton] at h1
    by_cases e : p.id = x
    · rw [e, decide_eq_false hx]; simp
    · have : p.id ∈ o := by rcases h1 with h1 | h1; exact h1; exact absurd h1 e
      rw [decide_eq_true this]; simp [e])
  rw [e1, e2]
/-- fair pence lie between the ends -/
theorem fair_between {T : Tr} (hok : Ok T) {q : List Int} (hlen : q.length = T.ps.length) (hb : ∀ n ∈ q, 0 ≤ n ∧ n ≤ 1073741824) (h0 : ovX T q = 0) (hs : sumI q = alnE T (fun _ => true)) {i : Nat} (hi : i < T.ps.length) :
    alnE T (fun _ => true) - alnE T (fun p => !(p.id == T.ps[i].id)) ≤ q.getD i 0 ∧ q.getD i 0 ≤ alnE T (fun p => p.id == T.ps[i].id) := by
  have h1 := group_le hok hlen hb (fun p => p.id == T.ps[i].id)
  have h2 := group_le hok hlen hb (fun p => !(p.id == T.ps[i].id))
  have h3 := pdT_split T (fun j => q.getD j 0) (fun p => p.id == T.ps[i].id)
  have h4 : pdT T (fun j => q.getD j 0) (fun p => p.id == T.ps[i].id) = q.getD i 0 := by
    unfold pdT
    rw [← sumR_pick hi (q.getD i 0)]
    refine sumR_congr (fun j hj => ?_)
    rw [ps_get hj]
    by_cases e : j = i
    · subst e; simp
    · rw [if_neg e, if_neg]
      intro hq
      have hq' : T.ps[j].id = T.ps[i].id := by simpa using hq
      have f1 := fnd_own hok hj
      have f2 := fnd_own hok hi
      rw [hq'] at f1
      omega
  have h5 : sumI q = sumR T.ps.length (fun j => q.getD j 0) := by rw [sumR_snocL, hlen]
  omega
end Go.Proofs.Ythopgonbndoidaa
