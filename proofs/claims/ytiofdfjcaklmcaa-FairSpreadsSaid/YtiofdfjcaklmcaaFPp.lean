/- Plain, for Fair: what accepted labels and accepted chains mean for chains and ladders; CheckChain, Apply and Chain. No program in sight. -/
import Derived.Test.YtiofdfjcaklmcaaFPb
namespace Go.Proofs.Ytiofdfjcaklmcaa

theorem cmpL_val (a : List Int) : ∀ b, cmpL a b = -1 ∨ cmpL a b = 0 ∨ cmpL a b = 1 := by
  induction a with
  | nil => intro b; cases b <;> simp [cmpL]
  | cons x a ih =>
    intro b
    cases b with
    | nil => simp [cmpL]
    | cons y b =>
      rw [cmpL]
      by_cases h1 : x < y
      · rw [if_pos h1]; omega
      · rw [if_neg h1]
        by_cases h2 : y < x
        · rw [if_pos h2]; omega
        · rw [if_neg h2]; exact ih b
theorem cmpL_neg (a : List Int) : ∀ b, cmpL b a = - cmpL a b := by
  induction a with
  | nil => intro b; cases b <;> simp [cmpL]
  | cons x a ih =>
    intro b
    cases b with
    | nil => simp [cmpL]
    | cons y b =>
      rw [cmpL, cmpL]
      by_cases h1 : x < y
      · rw [if_pos h1, if_neg (by omega), if_pos h1]; rfl
      · by_cases h2 : y < x
        · rw [if_pos h2, if_neg h1, if_pos h2]
        · rw [if_neg h1, if_neg h2, if_neg h2, if_neg h1]; exact ih b
theorem lad_eq {P : Po} {A B : List Int} (h : cmpL (ladL P A) (ladL P B) = 0) : ladL P A = ladL P B :=
  cmpL_anti (by rw [ladL_len, ladL_len]) (by omega) (by rw [cmpL_neg]; omega)
/-- a sharing without a chain: none is found -/
theorem nochn_chn {P : Po} (hP : PoV P) {g : List Int} (hS : ShrV P g) (hN : NoChn P g) : chnL P g = [] := by
  refine Classical.byContradiction fun h => ?_
  have h1 := chn_better hP hS h
  have h2 := nochn_best hP hS (chn_ok hP hS h).1 hN
  rw [cmpL_neg] at h1
  omega
theorem chn_iff {P : Po} (hP : PoV P) {g : List Int} (hS : ShrV P g) : chnL P g = [] ↔ NoChn P g := ⟨chn_no hP hS.len, nochn_chn hP hS⟩
theorem lad_nochn {P : Po} (hP : PoV P) {g : List Int} (hS : ShrV P g) : NoChn P g ↔ ladL P g = ladL P (faiG P) := ⟨fai_lad hP hS, best_no hP hS⟩
/-- a sharing with labels has no chain -/
theorem lab_nochn {P : Po} (hP : PoV P) {g : List Int} (hS : ShrV P g) {lab : Int → Int} (hL : LabV P g lab) : NoChn P g := by
  refine best_no hP hS ?_
  exact cmpL_anti (by rw [ladL_len, ladL_len]) (lab_best hP hS (faiG_V hP).1 hL) (fai_best hP hS)
theorem cf_nochn {P : Po} {g L : List Int} (h : cfE P g L = 0) : OkP P ∧ ShrV P g ∧ NoChn P g := by
  obtain ⟨hok, hS, hL⟩ := cf_lab h
  exact ⟨hok, hS, lab_nochn hok.pv hS hL⟩

/-- the shifts' slots by their indices -/
def ixW (P : Po) (l : List (Int × Int)) : List (Nat × Int) := l.map (fun m => ((slI P m.1).toNat, m.2))
theorem mostOf_at {P : Po} (hok : OkP P) {t : Te} (ht : t ∈ P.ts) : mostOf P t.id = t.most := by
  obtain ⟨k, hk, rfl⟩ := List.getElem_of_mem ht
  unfold mostOf
  rw [tn_at hok hk, Int.toNat_natCast, List.getD_eq_getElem?_getD, List.getElem?_eq_getElem hk, Option.getD_some]
/-- accepted shifts, from the second on -/
theorem lnk_way {P : Po} (hok : OkP P) {g : List Int} (hg : g.length = P.ss.length) : ∀ (l : List (Int × Int)) (k : Nat) (so a : Int) (se : List (Int × Int)) (T : List Int), 0 < k → (so :: T).Nodup → (∀ x ∈ T, ((0, x) : Int × Int) ∈ se) → lnkG P g k so a se l = true →
    WayP P g a (ixW P l) ∧ (so :: (T ++ (ixW P l).map (·.2))).Nodup ∧ endG P g so (lstW a (ixW P l)) = true
  | [], k, so, a, se, T, _, hn, _, h => by
    refine ⟨.nil a, by simpa [ixW] using hn, ?_⟩
    simpa [lnkG, ixW, lstW] using h
  | m :: l, k, so, a, se, T, hk, hn, hT, h => by
    rw [lnkG] at h
    split at h
    · cases h
    rename_i h1
    split at h
    · cases h
    rename_i h2
    split at h
    · cases h
    split at h
    · cases h
    rename_i h4
    rw [if_neg (show ¬ k = 0 by omega)] at h
    split at h
    · cases h
    rename_i h5
    split at h
    · cases h
    split at h
    · cases h
    rename_i h7
    obtain ⟨i, hi, e1, _, hu, _, _⟩ := us_slot hok h1 (by simpa using h2)
    have hga : gAt P g m.1 = a := Classical.byContradiction fun e => h4 ⟨hk, e⟩
    have hgi : g[i]'(by omega) = a := by
      rw [← hga]; unfold gAt
      rw [e1, Int.toNat_natCast, List.getD_eq_getElem?_getD, List.getElem?_eq_getElem (by omega), Option.getD_some]
    have hn2 : (so :: (T ++ [m.2])).Nodup := by
      rw [List.nodup_cons] at hn ⊢
      refine ⟨fun e => ?_, ?_⟩
      · rw [List.mem_append, List.mem_singleton] at e
        rcases e with e | e
        · exact hn.1 e
        · exact h5 e.symm
      · rw [List.nodup_append]
        refine ⟨hn.2, by simp, fun x hx y hy => ?_⟩
        rw [List.mem_singleton] at hy
        subst hy
        intro e
        subst e
        exact h7 (hT _ hx)
    obtain ⟨hw, hnn, he⟩ := lnk_way hok hg l (k + 1) so m.2 _ (T ++ [m.2]) (by omega) hn2 (fun x hx => by
      rw [List.mem_append, List.mem_singleton] at hx
      rcases hx with hx | rfl
      · exact List.mem_append_left _ (hT x hx)
      · simp) h
    have e9 : ixW P (m :: l) = (i, m.2) :: ixW P l := by simp [ixW, e1]
    rw [e9]
    refine ⟨.cons (by omega) hi hgi hu hw, ?_, he⟩
    simpa using hnn
/-- what accepted shifts are -/
theorem lnk_is {P : Po} (hok : OkP P) {g : List Int} (hS : ShrV P g) {l : List (Int × Int)} (h : lnkB P g l = true) :
    ∃ a, WayP P g a (ixW P l) ∧ (a :: (ixW P l).map (·.2)).Nodup ∧ a ≠ lstW a (ixW P l) ∧ endG P g a (lstW a (ixW P l)) = true := by
  unfold lnkB at h
  split at h
  · cases h
  rename_i h0
  cases l with
  | nil => simp at h0
  | cons m l =>
    rw [lnkG] at h
    rw [if_pos (rfl : (0 : Nat) = 0)] at h
    split at h
    · cases h
    rename_i h1
    split at h
    · cases h
    rename_i h2
    split at h
    · cases h
    split at h
    · cases h
    split at h
    · cases h
    rename_i h5
    split at h
    · cases h
    split at h
    · cases h
    obtain ⟨i, hi, e1, _, hu, _, _⟩ := us_slot hok h1 (by simpa using h2)
    have hgl := hS.len
    have hgi : g[i]'(by omega) = gAt P g m.1 := by
      unfold gAt
      rw [e1, Int.toNat_natCast, List.getD_eq_getElem?_getD, List.getElem?_eq_getElem (by omega), Option.getD_some]
    obtain ⟨hw, hn, he⟩ := lnk_way hok hgl l 1 (gAt P g m.1) m.2 _ [m.2] (by omega) (by
      rw [List.nodup_cons]
      exact ⟨fun e => h5 (by rw [List.mem_singleton] at e; exact e.symm), by simp⟩) (fun x hx => by
      rw [List.mem_singleton] at hx; subst hx; simp) h
    have e9 : ixW P (m :: l) = (i, m.2) :: ixW P l := by simp [ixW, e1]
    have hn' : (gAt P g m.1 :: ((i, m.2) :: ixW P l).map (·.2)).Nodup := by simpa using hn
    rw [e9]
    refine ⟨gAt P g m.1, .cons (by omega) hi hgi hu hw, hn', ?_, he⟩
    intro e
    have hm := lstW_mem m.2 (ixW P l)
    rw [List.nodup_cons] at hn'
    exact hn'.1 (by rw [e]; simpa [lstW] using hm)
/-- behind accepted shifts the sharing is one, and better -/
theorem lnk_ok {P : Po} (hok : OkP P) {g : List Int} (hS : ShrV P g) {l : List (Int × Int)} (h : lnkB P g l = true) :
    ShrV P (appW g (ixW P l)) ∧ 0 < cmpL (ladL P (appW g (ixW P l))) (ladL P g) := by
  obtain ⟨a, hw, hn, hl, he⟩ := lnk_is hok hS h
  unfold endG at he
  rw [Bool.and_eq_true, Bool.or_eq_true, decide_eq_true_eq, decide_eq_true_eq, decide_eq_true_eq] at he
  have hlm : ∃ t ∈ P.ts, t.id = lstW a (ixW P l) := by
    have hr := hw.reach
    rcases reach_id hok.pv hr with e | e
    · exact absurd e.symm hl
    · exact e
  obtain ⟨t, ht, hti⟩ := hlm
  have hm := mostOf_at hok ht
  rw [← hti, hm] at he
  have hr : ∀ q ∈ P.ts, q.id = lstW a (ixW P l) → cntI g q.id < q.most := fun q hq hqi => by
    have := mostOf_at hok hq
    rw [hqi, ← hti, hm] at this
    rw [hqi, ← hti, ← this]; exact he.1
  refine ⟨way_shr hS hw hn hr, way_better hok.pv hw hn hl ht hti ?_⟩
  rcases he.2 with e | e
  · exact .inl e
  · by_cases h0 : a = 0
    · exact .inl h0
    · right
      cases hix : ixW P l with
      | nil => rw [hix] at hl; exact absurd rfl hl
      | cons m r =>
        rw [hix] at hw
        cases hw with
        | cons h1 h2 h3 h4 h5 =>
          rcases hS.us _ h1 h2 with e0 | e0
          · exact absurd (h3.symm.trans e0) h0
          · rw [h3] at e0
            obtain ⟨s, hs, hsi⟩ := hok.us _ (List.getElem_mem h2) _ e0
            exact ⟨s, hs, hsi, by rw [hsi]; exact e⟩
theorem lnk_ix {P : Po} (hok : OkP P) {g : List Int} (hS : ShrV P g) {l : List (Int × Int)} (h : lnkB P g l = true) : ∀ m ∈ ixW P l, m.1 < g.length ∧ m.1 < P.ss.length := by
  obtain ⟨a, hw, _⟩ := lnk_is hok hS h
  exact way_ix hw
/-- what CheckChain answers -/
def ccE (P : Po) (g : List Int) (l : List (Int × Int)) : Int := if cgE P g = 0 then (if 12 < l.length then 2 else if lnkB P g l = true then 0 else 8) else cgE P g
/-- what Apply returns -/
def aplX (P : Po) (g : List Int) (l : List (Int × Int)) : List Int := if ccE P g l = 0 then appW g (ixW P l) else []
theorem cc_ok {P : Po} {g : List Int} {l : List (Int × Int)} : ccE P g l = 0 ↔ (OkP P ∧ ShrV P g) ∧ l.length ≤ 12 ∧ lnkB P g l = true := by
  unfold ccE
  constructor
  · intro h
    split at h
    · rename_i h1
      split at h
      · cases h
      · split at h
        · rename_i h2 h3; exact ⟨cg_ok.1 h1, by omega, h3⟩
        · cases h
    · rename_i h1; exact absurd h h1
  · rintro ⟨h1, h2, h3⟩
    rw [if_pos (cg_ok.2 h1), if_neg (by omega), if_pos h3]
theorem cg_V {P : Po} (hok : OkP P) {g : List Int} (hS : ShrV P g) : cgE P g = 0 := cg_ok.2 ⟨hok, hS⟩
theorem cmp_V {P : Po} (hok : OkP P) {a b : List Int} (ha : ShrV P a) (hb : ShrV P b) : cmpE P a b = 0 ∧ cmpX P a b = cmpL (ladL P a) (ladL P b) := by
  have h : cmpE P a b = 0 := by unfold cmpE; rw [if_pos (cg_V hok ha), cg_V hok hb]
  exact ⟨h, by unfold cmpX; rw [if_pos h]⟩
theorem cmp_ok {P : Po} {a b : List Int} (h : cmpE P a b = 0) : OkP P ∧ ShrV P a ∧ ShrV P b := by
  unfold cmpE at h
  split at h
  · rename_i h1
    exact ⟨(cg_ok.1 h1).1, (cg_ok.1 h1).2, (cg_ok.1 h).2⟩
  · rename_i h1; exact absurd h h1
end Go.Proofs.Ytiofdfjcaklmcaa
