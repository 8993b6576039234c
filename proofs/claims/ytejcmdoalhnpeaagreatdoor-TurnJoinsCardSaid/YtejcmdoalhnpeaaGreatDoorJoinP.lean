/- The plain laws of unions and shifts: which minutes they have. No program in sight. -/
import Derived.Test.YtejcmdoalhnpeaaGreatDoorUnR
import Derived.Test.YtejcmdoalhnpeaaGreatDoorNextP
namespace Go.Proofs.YtejcmdoalhnpeaaGreatDoor
open Go.RowKit Go.Shelf

theorem hasT_t {l : List Tn} {t : Tn} : hasT l t = true ↔ t ∈ l := by
  unfold hasT
  rw [List.any_eq_true]
  constructor
  · rintro ⟨u, hu, he⟩
    obtain ⟨p, f, m⟩ := u
    obtain ⟨q, g, n⟩ := t
    simp only [Bool.and_eq_true, beq_iff_eq] at he
    obtain ⟨⟨rfl, rfl⟩, rfl⟩ := he
    exact hu
  · intro h
    exact ⟨t, h, by simp⟩
theorem ddT_mem (l : List Tn) : ∀ t, t ∈ ddT l ↔ t ∈ l := by
  induction l using snoc_ind with
  | h0 => intro t; simp [ddT]
  | h1 l x ih =>
    intro t
    rw [ddT_snoc]
    unfold adT
    by_cases h : hasT (ddT l) x = true
    · rw [if_pos h, ih, List.mem_append, List.mem_singleton]
      rw [hasT_t, ih] at h
      constructor
      · exact .inl
      · rintro (h1 | rfl)
        · exact h1
        · exact h
    · rw [if_neg h, List.mem_append, List.mem_singleton, ih, List.mem_append, List.mem_singleton]
theorem ddT_nodup (l : List Tn) : (ddT l).Nodup := by
  induction l using snoc_ind with
  | h0 => simp [ddT]
  | h1 l x ih =>
    rw [ddT_snoc]
    unfold adT
    by_cases h : hasT (ddT l) x = true
    · rw [if_pos h]; exact ih
    · rw [if_neg h, List.nodup_append]
      refine ⟨ih, by simp, fun a ha b hb => ?_⟩
      simp only [List.mem_singleton] at hb
      subst hb
      intro e
      subst e
      exact h (hasT_t.2 ha)
theorem ddT_swap (l r : List Tn) : (ddT (l ++ r)).length = (ddT (r ++ l)).length := by
  refine List.Perm.length_eq ((List.perm_ext_iff_of_nodup (ddT_nodup _) (ddT_nodup _)).2 (fun t => ?_))
  rw [ddT_mem, ddT_mem, List.mem_append, List.mem_append]
  exact or_comm
theorem anyIn_app (l r : List Sp) (m : Int) : anyIn (l ++ r) m = (anyIn l m || anyIn r m) := by simp [anyIn]
theorem unS_swap (l r : List Sp) : unS (l ++ r) = unS (r ++ l) := by
  unfold unS
  congr 1
  funext m
  rw [anyIn_app, anyIn_app, Bool.or_comm]
theorem uniE_swap {A B : Mn} (hA : chkE A = 0) (hB : chkE B = 0) : uniE A B = uniE B A := by
  have h1 : or2 (chkE A) (chkE B) = 0 := by unfold or2; rw [if_neg (by omega)]; exact hB
  have h2 : or2 (chkE B) (chkE A) = 0 := by unfold or2; rw [if_neg (by omega)]; exact hA
  unfold uniE
  rw [h1, h2, ddT_swap, unS_swap]
theorem uniE_ok {A B : Mn} (h : uniE A B = 0) : chkE A = 0 ∧ chkE B = 0 := by
  unfold uniE at h
  split at h
  · rename_i h1; exact absurd h h1
  · rename_i h1
    unfold or2 at h1
    split at h1
    · rename_i h2; exact absurd h2 (by simpa using h1)
    · rename_i h2; exact ⟨by simpa using h2, by simpa using h1⟩
theorem anyIn_in (l : List Sp) (m : Int) : anyIn l m = l.any (fun s => inB m s.lo s.hi) := by simp [anyIn, inB]
theorem uni_mem {A B : Mn} (h : uniE A B = 0) (m : Int) : mem (uniX A B) m = (mem A m || mem B m) := by
  obtain ⟨hA, hB⟩ := uniE_ok h
  have hS := unS_spec (spsV_of (Ok.of hA) (Ok.of hB))
  unfold uniX
  rw [if_pos h]
  unfold mem
  simp only
  rw [← anyIn_in, hS.2, anyIn_app, anyIn_in, anyIn_in]
  have ht : (ddT (A.ts ++ B.ts)).any (fun t => tnIn t.p t.f t.l m) = (A.ts.any (fun t => tnIn t.p t.f t.l m) || B.ts.any (fun t => tnIn t.p t.f t.l m)) := by
    rw [← List.any_append, Bool.eq_iff_iff, List.any_eq_true, List.any_eq_true]
    constructor
    · rintro ⟨t, h1, h2⟩; exact ⟨t, (ddT_mem _ t).1 h1, h2⟩
    · rintro ⟨t, h1, h2⟩; exact ⟨t, (ddT_mem _ t).2 h1, h2⟩
  rw [ht]
  cases A.ts.any (fun t => tnIn t.p t.f t.l m) <;> cases B.ts.any (fun t => tnIn t.p t.f t.l m) <;> cases A.ss.any (fun s => inB m s.lo s.hi) <;> cases B.ss.any (fun s => inB m s.lo s.hi) <;> rfl
theorem uni_good {A B : Mn} (h : uniE A B = 0) : Ok (uniX A B) := by
  obtain ⟨hA, hB⟩ := uniE_ok h
  have kA := Ok.of hA
  have kB := Ok.of hB
  have hV := spsV_of kA kB
  have hS := unS_spec hV
  have h2 : ¬ (24 < (ddT (A.ts ++ B.ts)).length ∨ 40 < (unS (A.ss ++ B.ss)).length) := fun hc => by
    have h1 : or2 (chkE A) (chkE B) = 0 := by unfold or2; rw [if_neg (by omega)]; exact hB
    have := (uni_big h1 hc).1
    rw [h] at this
    cases this
  unfold uniX
  rw [if_pos h]
  refine ⟨fun t ht => ?_, fun s hs => ?_, by simp only; omega, by simp only; omega⟩
  · rcases List.mem_append.1 ((ddT_mem _ t).1 ht) with h | h
    · exact kA.t t h
    · exact kB.t t h
  · have h1 := hS.1.v s hs
    have a := hS.2 s.lo
    have b := hS.2 s.hi
    rw [anyIn_t.2 ⟨s, hs, Int.le_refl _, h1⟩] at a
    rw [anyIn_t.2 ⟨s, hs, h1, Int.le_refl _⟩] at b
    obtain ⟨u, hu, u1, _⟩ := anyIn_t.1 a.symm
    obtain ⟨v, hv, _, v2⟩ := anyIn_t.1 b.symm
    have := hV u hu
    have := hV v hv
    simp only [spB, inB, Bool.and_eq_true, decide_eq_true_eq]
    omega
theorem shf_facts {S : Mn} {b : Int} (h : shfE S b = 0) : chkE S = 0 ∧ S.ss = [] ∧ shfX S b = ⟨S.ts.map (shTn b), []⟩ := by
  have hx : shfX S b = ⟨S.ts.map (shTn b), []⟩ := by unfold shfX; rw [if_pos h]
  unfold shfE at h
  split at h
  · rename_i h1; exact absurd h h1
  · rename_i h1
    split at h
    · cases h
    · rename_i h2
      exact ⟨by simpa using h1, List.eq_nil_of_length_eq_zero (by omega), hx⟩
theorem tnIn_sh {p f l b m : Int} (_hp : 1 ≤ p) : tnIn p ((f + b) % p) l m = tnIn p f l (m - b) := by
  unfold tnIn
  have h : (m - (f + b) % p) % p = (m - b - f) % p := by
    rw [Int.sub_emod, Int.emod_emod_of_dvd _ (Int.dvd_refl p), ← Int.sub_emod]
    congr 1; omega
  rw [h]
theorem shf_mem {S : Mn} {b : Int} (h : shfE S b = 0) (m : Int) : mem (shfX S b) m = mem S (m - b) := by
  obtain ⟨hc, hs, hx⟩ := shf_facts h
  have hk := Ok.of hc
  unfold mem
  rw [hx, hs, List.any_map]
  congr 1
  have : ∀ l : List Tn, (∀ t ∈ l, tnB t.p t.f t.l = true) → l.any ((fun t => tnIn t.p t.f t.l m) ∘ shTn b) = l.any (fun t => tnIn t.p t.f t.l (m - b)) := by
    intro l
    induction l with
    | nil => intro _; rfl
    | cons t l ih =>
      intro hl
      have ht := tnB_t (hl t (by simp))
      rw [List.any_cons, List.any_cons, ih (fun u hu => hl u (by simp [hu]))]
      congr 1
      exact tnIn_sh ht.1
  exact this _ hk.t
theorem shf_good {S : Mn} {b : Int} (h : shfE S b = 0) : Ok (shfX S b) := by
  obtain ⟨hc, hs, hx⟩ := shf_facts h
  have hk := Ok.of hc
  rw [hx]
  refine ⟨fun t ht => ?_, fun s hs => by simp at hs, by simpa using hk.lt, by simp⟩
  obtain ⟨u, hu, rfl⟩ := List.mem_map.1 ht
  have h1 := tnB_t (hk.t u hu)
  have h2 := Int.emod_nonneg (u.f + b) (show u.p ≠ 0 by omega)
  have h3 := Int.emod_lt_of_pos (u.f + b) (show 0 < u.p by omega)
  show tnB u.p ((u.f + b) % u.p) u.l = true
  simp only [tnB, inB, Bool.and_eq_true, decide_eq_true_eq]
  omega
end Go.Proofs.YtejcmdoalhnpeaaGreatDoor
