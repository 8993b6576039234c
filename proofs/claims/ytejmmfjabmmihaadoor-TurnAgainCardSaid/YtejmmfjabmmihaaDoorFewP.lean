/- The plain law of Period and Fewest. -/
import Derived.Test.YtejmmfjabmmihaaDoorPer
namespace Go.Proofs.YtejmmfjabmmihaaDoor
open Go.RowKit Go.Shelf

/-- a row that comes again after p -/
def Again (F : Nat → Bool) (p : Nat) : Prop := ∀ n, F (n + p) = F n
theorem Again.mul {F : Nat → Bool} {p : Nat} (h : Again F p) (n c : Nat) : F (n + p * c) = F n := by
  induction c with
  | zero => rfl
  | succ c ih => rw [Nat.mul_succ, ← Nat.add_assoc, h, ih]
theorem Again.mod {F : Nat → Bool} {p : Nat} (h : Again F p) (n : Nat) : F (n % p) = F n := by
  have := h.mul (n % p) (n / p)
  rw [Nat.mod_add_div] at this
  exact this.symm
theorem per_chain {F : Nat → Bool} {L p : Nat} (h : ∀ i, i < L - p → F (i + p) = F i) (hp : 1 ≤ p) (j c : Nat) (hc : j + c * p < L) : F (j + c * p) = F j := by
  induction c with
  | zero => simp
  | succ c ih =>
    rw [Nat.succ_mul] at hc ⊢
    rw [← Nat.add_assoc, h (j + c * p) (by omega), ih (by omega)]
theorem perB_t {F : Nat → Bool} {L p : Nat} (h : perB F L p = true) : L % p = 0 ∧ ∀ i, i < L - p → F (i + p) = F i := by
  simp only [perB, Bool.and_eq_true, decide_eq_true_eq, List.all_eq_true, List.mem_range, beq_iff_eq] at h
  exact h
theorem perB_mk {F : Nat → Bool} {L p : Nat} (h : L % p = 0) (h2 : ∀ i, i < L - p → F (i + p) = F i) : perB F L p = true := by
  simp only [perB, Bool.and_eq_true, decide_eq_true_eq, List.all_eq_true, List.mem_range, beq_iff_eq]
  exact ⟨h, h2⟩
theorem per_all {F : Nat → Bool} {L p : Nat} (hL : Again F L) (hp : 1 ≤ p) (hpL : p ≤ L) (h : perB F L p = true) : Again F p := by
  obtain ⟨h1, h2⟩ := perB_t h
  intro n
  have hn : n % L < L := Nat.mod_lt _ (by omega)
  have e1 : F (n + p) = F (n % L + p) := by
    have := hL.mul (n % L + p) (n / L)
    rw [show n % L + p + L * (n / L) = n + p by have := Nat.mod_add_div n L; omega] at this
    exact this
  rw [e1, ← hL.mod n]
  generalize n % L = m at *
  by_cases hm : m < L - p
  · exact h2 m hm
  · obtain ⟨c, hc⟩ : ∃ c, L = p * c := ⟨L / p, by have := Nat.mod_add_div L p; omega⟩
    obtain ⟨j, hj⟩ : ∃ j, m + p = j + L := ⟨m + p - L, by omega⟩
    rw [hj, hL]
    have hc1 : 1 ≤ c := by
      rcases Nat.eq_zero_or_pos c with e | e
      · subst e; simp at hc; omega
      · exact e
    obtain ⟨c', rfl⟩ : ∃ c', c = c' + 1 := ⟨c - 1, by omega⟩
    rw [Nat.mul_succ, Nat.mul_comm] at hc
    have := per_chain h2 hp j c' (by omega)
    rw [show j + c' * p = m by omega] at this
    exact this.symm
theorem all_per {F : Nat → Bool} {L p : Nat} (h : Again F p) (hL : L % p = 0) : perB F L p = true := perB_mk hL fun i _ => h i
/-- as the specification asks it -/
def agnB (F : Nat → Bool) (L p : Nat) : Bool := (List.range L).all (fun n => F n == F (n + p))
theorem agnB_per {F : Nat → Bool} {L p : Nat} (hL : Again F L) (hp : 1 ≤ p) (hpL : p ≤ L) (h : L % p = 0) : agnB F L p = perB F L p := by
  rw [Bool.eq_iff_iff]
  constructor
  · intro h1
    simp only [agnB, List.all_eq_true, List.mem_range, beq_iff_eq] at h1
    exact perB_mk h fun i hi => (h1 i (by omega)).symm
  · intro h1
    have := per_all hL hp hpL h1
    simp only [agnB, List.all_eq_true, List.mem_range, beq_iff_eq]
    exact fun i _ => (this i).symm
theorem perN_spec {F : Nat → Bool} {L i : Nat} (h : perN F L = some i) : i < L ∧ perB F L (i + 1) = true ∧ ∀ j, j < i → perB F L (j + 1) = false := by
  unfold perN at h
  rw [List.find?_range_eq_some] at h
  exact ⟨by simpa using h.2.1, h.1, fun j hj => by simpa using h.2.2 j hj⟩
/-- the least period -/
structure Least (F : Nat → Bool) (p : Nat) : Prop where
  pos : 1 ≤ p
  again : Again F p
  least : ∀ d, 1 ≤ d → d < p → p % d = 0 → ¬ Again F d
theorem perV_least {F : Nat → Bool} {L : Nat} (hL : Again F L) (h1 : 1 ≤ L) : ∃ p : Nat, perV F L = p ∧ Least F p ∧ p ≤ L ∧ L % p = 0 := by
  obtain ⟨i, hi, hlt⟩ := perN_some (F := F) h1
  obtain ⟨_, h3, h4⟩ := perN_spec hi
  refine ⟨i + 1, by unfold perV; rw [hi]; simp, ⟨by omega, per_all hL (by omega) (by omega) h3, fun d hd1 hd2 hd3 ha => ?_⟩, by omega, (perB_t h3).1⟩
  have h5 := h4 (d - 1) (by omega)
  rw [show d - 1 + 1 = d by omega] at h5
  have h6 : L % d = 0 := by
    obtain ⟨a, ha⟩ := Nat.dvd_of_mod_eq_zero (perB_t h3).1
    obtain ⟨b, hb⟩ := Nat.dvd_of_mod_eq_zero hd3
    rw [ha, hb, Nat.mul_assoc]; exact Nat.mul_mod_right _ _
  rw [all_per ha h6] at h5; cases h5
theorem perV_of_least {F G : Nat → Bool} {p : Nat} (h : Least F p) (hG : ∀ n, G n = F n) : perV G p = p := by
  have he : G = F := funext hG
  rw [he]
  obtain ⟨q, hq, h2, h3, h4⟩ := perV_least h.again h.pos
  rw [hq]
  rcases Nat.lt_or_ge q p with hlt | hge
  · exact absurd h2.again (h.least q h2.pos hlt h4)
  · rw [show q = p by omega]
/-- the row of a wheel comes again -/
theorem whl_again {S : Mn} (h : whlE S = 0) : Again (whlF S) (allL S.ts).toNat := by
  obtain ⟨hok, _, _, h1, _⟩ := whl_ok h
  intro n
  unfold whlF
  have hd := allL_dvd (ts := S.ts) (fun t ht => (tnB_t (hok.t t ht)).1)
  generalize hA : allL S.ts = A at *
  have : ∀ t ∈ S.ts, tnIn t.p t.f t.l ((n + A.toNat : Nat) : Int) = tnIn t.p t.f t.l n := by
    intro t ht
    obtain ⟨c, hc⟩ := hd t ht
    rw [show ((n + A.toNat : Nat) : Int) = (n : Int) + t.p * c by rw [← hc]; omega]
    exact tnIn_add _ _ _ _ _
  rw [Bool.eq_iff_iff, List.any_eq_true, List.any_eq_true]
  constructor
  · rintro ⟨t, ht, h2⟩; exact ⟨t, ht, by rw [← this t ht]; exact h2⟩
  · rintro ⟨t, ht, h2⟩; exact ⟨t, ht, by rw [this t ht]; exact h2⟩
theorem mem_whl {S : Mn} (h : S.ss = []) (n : Nat) : mem S n = whlF S n := by
  unfold mem whlF; rw [h]; simp
/-- the period of a set of turns -/
theorem perX_least {S : Mn} (h : whlE S = 0) : ∃ p : Nat, perX S = p ∧ Least (whlF S) p ∧ p ≤ 40320 ∧ (p : Int) ≤ allL S.ts ∧ (allL S.ts).toNat % p = 0 := by
  obtain ⟨_, _, _, h1, h2⟩ := whl_ok h
  obtain ⟨p, hp, hl, hle, hm⟩ := perV_least (whl_again h) (by omega)
  exact ⟨p, by rw [whlF_perX h]; exact hp, hl, by omega, by omega, hm⟩

/-- how long the run is that begins at a number -/
def runP (F : Nat → Bool) (p i : Nat) : Nat := match (List.range p).find? (fun j => !F ((i + (j + 1)) % p)) with | some j => j + 1 | none => p
def startB (F : Nat → Bool) (p i : Nat) : Bool := F i && (!F ((i + p - 1) % p) || p == 1)
/-- the turns of a row, up to a number -/
def fewU (F : Nat → Bool) (p n : Nat) : List Tn := ((List.range n).filter (startB F p)).map (fun i : Nat => (⟨p, (i : Nat), (runP F p i : Nat)⟩ : Tn))
def fewL (F : Nat → Bool) (p : Nat) : List Tn := fewU F p p
theorem fewU_t {F : Nat → Bool} {p n : Nat} (h : startB F p n = true) : fewU F p (n + 1) = fewU F p n ++ [⟨p, n, runP F p n⟩] := by
  unfold fewU; rw [List.range_succ, List.filter_append]; simp [h]
theorem fewU_f {F : Nat → Bool} {p n : Nat} (h : startB F p n = false) : fewU F p (n + 1) = fewU F p n := by
  unfold fewU; rw [List.range_succ, List.filter_append]; simp [h]
theorem fewU_len (F : Nat → Bool) (p n : Nat) : (fewU F p n).length ≤ n := by
  unfold fewU
  rw [List.length_map]
  have := List.length_filter_le (startB F p) (List.range n)
  simpa using this
theorem runP_spec (F : Nat → Bool) {p : Nat} (hp : 1 ≤ p) (i : Nat) : 1 ≤ runP F p i ∧ runP F p i ≤ p ∧ (∀ j, 1 ≤ j → j < runP F p i → F ((i + j) % p) = true) ∧ (runP F p i < p → F ((i + runP F p i) % p) = false) := by
  unfold runP
  split
  · rename_i j hj
    rw [List.find?_range_eq_some] at hj
    have h1 := hj.2.1
    simp only [List.mem_range] at h1
    refine ⟨by omega, by omega, fun k hk1 hk2 => ?_, fun _ => by simpa using hj.1⟩
    have := hj.2.2 (k - 1) (by omega)
    rw [show k - 1 + 1 = k by omega] at this
    simpa using this
  · rename_i hj
    rw [List.find?_eq_none] at hj
    refine ⟨hp, Nat.le_refl _, fun k hk1 hk2 => ?_, fun h => by omega⟩
    have := hj (k - 1) (by simp; omega)
    rw [show k - 1 + 1 = k by omega] at this
    simpa using this
/-- where not all is in it, a run ends -/
theorem runP_lt {F : Nat → Bool} {p i z : Nat} (hp : 1 ≤ p) (hz : z < p) (hi : i < p) (h0 : F i = true) (h : F z = false) : runP F p i < p := by
  obtain ⟨h1, h2, h3, h4⟩ := runP_spec F hp i
  rcases Nat.lt_or_ge (runP F p i) p with hlt | hge
  · exact hlt
  · exfalso
    rcases Nat.lt_trichotomy i z with h5 | h5 | h5
    · have := h3 (z - i) (by omega) (by omega)
      rw [show i + (z - i) = z by omega, Nat.mod_eq_of_lt hz] at this
      rw [this] at h; cases h
    · rw [h5] at h0; rw [h0] at h; cases h
    · have := h3 (z + p - i) (by omega) (by omega)
      rw [show i + (z + p - i) = z + p by omega, Nat.add_mod_right, Nat.mod_eq_of_lt hz] at this
      rw [this] at h; cases h
/-- a least period that is not 1: not all is in it -/
theorem least_gap {F : Nat → Bool} {p : Nat} (h : Least F p) (hp : p ≠ 1) : ∃ z, z < p ∧ F z = false := by
  have h1 := h.pos
  rcases Classical.em (∃ z, z < p ∧ F z = false) with hz | hz
  · exact hz
  · exfalso
    refine h.least 1 (by omega) (by omega) (Nat.mod_one _) (fun n => ?_)
    have hall : ∀ n, F n = true := fun n => by
      rw [← h.again.mod n]
      cases e : F (n % p)
      · exact absurd ⟨n % p, Nat.mod_lt _ (by omega), e⟩ hz
      · rfl
    rw [hall, hall]
theorem fewL_mem {F : Nat → Bool} {p : Nat} {t : Tn} : t ∈ fewL F p ↔ ∃ i, i < p ∧ startB F p i = true ∧ t = ⟨p, i, runP F p i⟩ := by
  unfold fewL fewU
  simp only [List.mem_map, List.mem_filter, List.mem_range]
  constructor
  · rintro ⟨i, ⟨h1, h2⟩, h3⟩; exact ⟨i, h1, h2, h3.symm⟩
  · rintro ⟨i, h1, h2, h3⟩; exact ⟨i, ⟨h1, h2⟩, h3.symm⟩
theorem tnIn_nat {p i l n : Nat} (hp : 1 ≤ p) : tnIn p i l n = true ↔ (n + p * (i + 1) - i) % p < l := by
  unfold tnIn
  rw [decide_eq_true_iff]
  have h1 : i ≤ p * (i + 1) := by
    have := Nat.mul_le_mul_right (i + 1) hp
    omega
  have h : ((n : Int) - i) % p = (((n + p * (i + 1) - i) % p : Nat) : Int) := by
    rw [Int.natCast_emod]
    rw [show ((n + p * (i + 1) - i : Nat) : Int) = ((n : Int) - i) + p * ((i : Int) + 1) by rw [Int.ofNat_sub (by omega)]; push_cast; omega]
    rw [Int.add_mul_emod_self_left]
  rw [h]; omega
/-- the fewest turns have what the row has -/
theorem few_row {F : Nat → Bool} {p : Nat} (h : Least F p) (n : Nat) : (fewL F p).any (fun t => tnIn t.p t.f t.l n) = F n := by
  have hp := h.pos
  rw [Bool.eq_iff_iff, List.any_eq_true]
  constructor
  · rintro ⟨t, ht, h2⟩
    obtain ⟨i, hi, hs, rfl⟩ := fewL_mem.1 ht
    simp only at h2
    rw [tnIn_nat hp] at h2
    obtain ⟨_, _, h3, _⟩ := runP_spec F hp i
    have hF : F i = true := by unfold startB at hs; simp at hs; exact hs.1
    generalize hr : (n + p * (i + 1) - i) % p = r at *
    have hk : F ((i + r) % p) = true := by
      by_cases h0 : r = 0
      · subst h0; rw [Nat.add_zero, Nat.mod_eq_of_lt hi]; exact hF
      · exact h3 r (by omega) h2
    rw [h.again.mod] at hk
    have h1 : i ≤ p * (i + 1) := by
      have := Nat.mul_le_mul_right (i + 1) hp
      omega
    have hd := Nat.mod_add_div (n + p * (i + 1) - i) p
    rw [hr] at hd
    have e1 := h.again.mul (i + r) ((n + p * (i + 1) - i) / p)
    rw [show i + r + p * ((n + p * (i + 1) - i) / p) = n + p * (i + 1) by omega, h.again.mul] at e1
    rw [e1]; exact hk
  · intro hF
    by_cases hp1 : p = 1
    · subst hp1
      have h0 : F 0 = true := by rw [← h.again.mod n, Nat.mod_one] at hF; exact hF
      refine ⟨⟨1, 0, runP F 1 0⟩, fewL_mem.2 ⟨0, by omega, by simp [startB, h0], rfl⟩, ?_⟩
      have := (runP_spec F (p := 1) (by omega) 0).1
      simp only [tnIn, decide_eq_true_eq]
      show ((n : Int) - 0) % 1 < _
      omega
    · obtain ⟨z, hz, hzF⟩ := least_gap h hp1
      -- go back to where the run begins
      have hback : ∃ k, 1 ≤ k ∧ k ≤ p ∧ F (n + p - k) = false ∧ ∀ j, j < k → F (n + p - j) = true := by
        have hex : ∃ k, k ≤ p ∧ F (n + p - k) = false := by
          refine ⟨(n + p - z) % p, by have := Nat.mod_lt (n + p - z) (show 0 < p by omega); omega, ?_⟩
          have hd := Nat.mod_add_div (n + p - z) p
          have hlt := Nat.mod_lt (n + p - z) (show 0 < p by omega)
          generalize (n + p - z) % p = k at *
          generalize (n + p - z) / p = c at *
          have e := h.again.mul z c
          rw [show n + p - k = z + p * c by omega, e]; exact hzF
        have hmin : ∀ m, (∃ k, k ≤ m ∧ k ≤ p ∧ F (n + p - k) = false) → ∃ k, k ≤ p ∧ F (n + p - k) = false ∧ ∀ j, j < k → F (n + p - j) = true := by
          intro m
          induction m with
          | zero =>
            rintro ⟨k, h1, h2, h3⟩
            obtain rfl : k = 0 := by omega
            exact ⟨0, h2, h3, fun j hj => by omega⟩
          | succ m ih =>
            rintro ⟨k, h1, h2, h3⟩
            by_cases hx : ∃ k, k ≤ m ∧ k ≤ p ∧ F (n + p - k) = false
            · exact ih hx
            · refine ⟨k, h2, h3, fun j hj => ?_⟩
              cases e : F (n + p - j)
              · exact absurd ⟨j, by omega, by omega, e⟩ hx
              · rfl
        obtain ⟨k0, hk0, hk1⟩ := hex
        obtain ⟨k, h1, h2, h3⟩ := hmin k0 ⟨k0, Nat.le_refl _, hk0, hk1⟩
        refine ⟨k, ?_, h1, h2, h3⟩
        rcases Nat.eq_zero_or_pos k with e | e
        · subst e; rw [Nat.sub_zero, h.again n, hF] at h2; cases h2
        · exact e
      obtain ⟨k, hk1, hkp, hkF, hkt⟩ := hback
      have hs1 : F (n + p - (k - 1)) = true := hkt (k - 1) (by omega)
      generalize hi' : n + p - (k - 1) = i' at *
      have hi0 : F (i' % p) = true := by rw [h.again.mod]; exact hs1
      have hilt : i' % p < p := Nat.mod_lt _ (by omega)
      have hd := Nat.mod_add_div i' p
      have hprev : F ((i' % p + p - 1) % p) = false := by
        rw [h.again.mod]
        have e := h.again.mul (i' % p + p - 1) (i' / p)
        rw [show i' % p + p - 1 + p * (i' / p) = n + p - k + p by omega, h.again] at e
        rw [← e]; exact hkF
      refine ⟨⟨p, (i' % p : Nat), runP F p (i' % p)⟩, fewL_mem.2 ⟨i' % p, hilt, by simp [startB, hi0, hprev], rfl⟩, ?_⟩
      simp only
      rw [tnIn_nat hp]
      obtain ⟨_, _, h3, h4⟩ := runP_spec F hp (i' % p)
      have hlt := runP_lt hp hz hilt hi0 hzF
      have hend := h4 hlt
      generalize hN : runP F p (i' % p) = N at *
      have hNk : k - 1 < N := by
        rcases Nat.lt_or_ge (k - 1) N with hh | hh
        · exact hh
        · exfalso
          rw [h.again.mod] at hend
          have e := h.again.mul (i' % p + N) (i' / p)
          rw [show i' % p + N + p * (i' / p) = n + p - (k - 1 - N) by omega, hkt _ (by omega)] at e
          rw [← e] at hend; cases hend
      have e5 : (n + p * (i' % p + 1) - i' % p) % p = k - 1 := by
        have hq : i' % p ≤ p * (i' % p + 1) := by
          have := Nat.mul_le_mul_right (i' % p + 1) hp
          omega
        have hs : n + p * (i' % p + 1) - i' % p + p = (k - 1) + p * (i' / p + (i' % p + 1)) := by
          have e7 : p * (i' / p + (i' % p + 1)) = p * (i' / p) + p * (i' % p + 1) := Nat.mul_add _ _ _
          omega
        have h6 : (n + p * (i' % p + 1) - i' % p + p) % p = k - 1 := by
          rw [hs, Nat.add_mul_mod_self_left, Nat.mod_eq_of_lt (by omega)]
        rwa [Nat.add_mod_right] at h6
      rw [e5]; exact hNk
end Go.Proofs.YtejmmfjabmmihaaDoor
