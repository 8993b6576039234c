/- slices.Equal at int; plain lines of a division, as the program looks at them. -/
import Derived.Test.YthopgonbndoidaaVDvQ
namespace Go.Proofs.Ythopgonbndoidaa
open Go.RowKit Go.Shelf Go.Lib

set_option maxRecDepth 100000 in
set_option maxHeartbeats 4000000 in
theorem equalI_any (v u : Value) (l r : List Int) (w : World) (hl : IntsAt w v l) (hr : IntsAt w u r) (hn : l.length ≤ 1000000) :
    Calls Try.prog 119 #[v, u] w fun e w' => e = .returned (.bool (decide (l = r))) ∧ Ext w w' := by
  obtain ⟨ao, cap, rfl, hcap⟩ := hl.len
  obtain ⟨bo, cap2, rfl, hcap2⟩ := hr.len
  obtain ⟨D, hD⟩ : ∃ D, decide (l = r) = D := ⟨_, rfl⟩
  have HD := Lib.hid hD
  rw [hD]
  clear hD
  by_cases hlen : l.length = r.length
  · have HL := Lib.hid hlen
    rw [← hlen]
    clear hlen
    go_enter Try.func119, Try.ntmps119
    go_wp2_with fail
    go_loopw [13] (fun i wr => ∃ k : Nat, k ≤ l.length ∧ i = .int .i64 k ∧ Hid (∀ j (h : j < l.length) (h' : j < r.length), j < k → l[j] = r[j]) ∧ Ext w wr) (fun i _ => l.length - (intOf i).toNat)
    case atStart => exact ⟨0, Nat.zero_le _, rfl, Lib.hid (fun _ _ _ h => by omega), Ext.refl _⟩
    case round =>
      obtain ⟨k, hk, rfl, HK, hx⟩ := hrel
      by_cases hlt : k < l.length
      · have hlt2 : k < r.length := by have := HL.out; omega
        have hr' := hr.ext hx
        obtain ⟨b, o, rfl, c0⟩ := (hl.ext hx).get k hlt
        obtain ⟨b2, o2, rfl, c2⟩ := hr'.get k hlt2
        obtain ⟨x, hxx⟩ : ∃ x, l[k] = x := ⟨_, rfl⟩
        obtain ⟨y, hyy⟩ : ∃ x, r[k] = x := ⟨_, rfl⟩
        rw [hxx] at c0
        rw [hyy] at c2
        have hkr : (k : Int) < (r.length : Int) := by omega
        by_cases hq : x = y
        · have HK2 : Hid (∀ j (h : j < l.length) (h' : j < r.length), j < k + 1 → l[j] = r[j]) := Lib.hid (fun j h h' hj => by
            by_cases hjk : j = k
            · subst hjk
              rw [hxx, hyy, hq]
            · exact HK.out j h h' (by omega))
          have hqb : (x != y) = false := by simpa using hq
          subst hq
          clear hxx hyy HK hr'
          go_wp2_with fail
          (try go_quiet (fail))
          (try go_wp2_with fail)
          go_roundw
          case rel => exact ⟨k + 1, by omega, by go_num, HK2, hx.trans (by repeat (first | exact Ext.refl _ | assumption | refine Ext.alloc ?_ _ | refine Ext.drew ?_ | refine Ext.drewN _ ?_ | refine Ext.trans ?_ (by assumption)))⟩
          case measure => simp [intOf]; omega
        · have hm : D = false := by
            rw [← HD.out, decide_eq_false_iff_not]
            intro he
            subst he
            exact hq (by rw [← hxx, ← hyy])
          have HM := Lib.hid hm
          have hqb : (x != y) = true := by simpa using hq
          clear hxx hyy hm HK hr'
          go_wp2_with fail
          (try go_quiet (fail))
          (try go_wp2_with fail)
          go_ret
          exact ⟨ret_bool HM.out.symm, hx.trans (by repeat (first | exact Ext.refl _ | assumption | refine Ext.alloc ?_ _ | refine Ext.drew ?_ | refine Ext.drewN _ ?_ | refine Ext.trans ?_ (by assumption)))⟩
      · have hm : D = true := by
          rw [← HD.out, decide_eq_true_eq]
          exact List.ext_getElem HL.out (fun j h1 h2 => HK.out j h1 h2 (by omega))
        have HM := Lib.hid hm
        clear hm HK
        go_wp2
        go_ret
        exact ⟨ret_bool HM.out.symm, hx⟩
  · have hm : D = false := by
      rw [← HD.out, decide_eq_false_iff_not]
      intro he
      exact hlen (by rw [he])
    have HM := Lib.hid hm
    have hne : ¬ ((l.length : Int) = (r.length : Int)) := by omega
    clear hm hlen
    go_enter Try.func119, Try.ntmps119
    go_wp2
    go_ret
    exact ⟨ret_bool HM.out.symm, Ext.refl _⟩

/-- what has been paid by each payer -/
def pdF (n : Nat) (D : List (List Int)) (k i : Nat) : List Int := (List.range n).map (fun j => colS (D.take (if j < i then k + 1 else k)) j)
theorem pdF_len (n : Nat) (D : List (List Int)) (k i : Nat) : (pdF n D k i).length = n := by simp [pdF]
theorem pdF_get {n : Nat} {D : List (List Int)} {k i j : Nat} (h : j < (pdF n D k i).length) : (pdF n D k i)[j] = colS (D.take (if j < i then k + 1 else k)) j := by simp [pdF]
theorem pdF_zero (n : Nat) (D : List (List Int)) : pdF n D 0 0 = List.replicate n 0 := by
  apply List.ext_getElem (by simp [pdF])
  intro j h1 h2
  rw [pdF_get]
  simp [colS, sumI]
theorem pdF_end (n : Nat) (D : List (List Int)) (k : Nat) : pdF n D k n = pdF n D (k + 1) 0 := by
  apply List.ext_getElem (by simp [pdF])
  intro j h1 h2
  rw [pdF_get, pdF_get]
  have : j < n := by simpa [pdF] using h1
  rw [if_pos this, if_neg (by omega)]
theorem pdF_set {n : Nat} {D : List (List Int)} {k i : Nat} (hk : k < D.length) : (pdF n D k i).set i (colS (D.take k) i + D[k].getD i 0) = pdF n D k (i + 1) := by
  apply List.ext_getElem (by simp [pdF])
  intro j h1 h2
  rw [List.getElem_set, pdF_get, pdF_get]
  by_cases hj : i = j
  · subst hj
    rw [if_pos rfl, if_pos (by omega), colS_take hk]
  · rw [if_neg hj]
    by_cases hji : j < i
    · rw [if_pos hji, if_pos (by omega)]
    · rw [if_neg hji, if_neg (by omega)]
theorem sumI_nn {l : List Int} (h : ∀ x ∈ l, 0 ≤ x) : 0 ≤ sumI l := by
  induction l using snoc_ind with
  | h0 => simp [sumI]
  | h1 l x ih =>
    have := ih (fun y hy => h y (by simp [hy]))
    have := h x (by simp)
    rw [sumI_snoc]; omega
theorem rowB_nn {T : Tr} {k : Nat} {row : List Int} (h : rowB T k row = true) : ∀ x ∈ row, 0 ≤ x := fun x hx => by
  obtain ⟨i, hi, rfl⟩ := List.mem_iff_getElem.1 hx
  have := rowB_bd h i
  rw [List.getD_eq_getElem?_getD, List.getElem?_eq_getElem hi] at this
  exact this.1
/-- a row is right when its numbers are and their sum is what is due -/
theorem line_sum {T : Tr} (hok : Ok T) {k : Nat} {row : List Int} (hl : row.length = T.ps.length) (hr : rowB T k row = true) : (linB T T.ps.length k row = true ↔ sumI row = dvD T k) := by
  have hD := dvD_uC hok k
  unfold uC at hD
  unfold linB toB
  rw [hr, decide_eq_true hl, Bool.true_and, Bool.true_and]
  cases hu : usedB T k with
  | true =>
    rw [hu, if_pos rfl] at hD
    rw [decide_eq_true ((usrL_used T k).2 hu), hD]
    simp
  | false =>
    rw [hu, if_neg (by decide)] at hD
    have hn : ¬ 0 < (usrL T.rs k T.ps).length := fun q => by rw [(usrL_used T k).1 q] at hu; cases hu
    rw [decide_eq_false hn, hD]
    have hz : sumI row = 0 := by
      rw [sumR_snocL, sumR_congr (g := fun _ => 0) (fun i hi => ?_), sumR_nil]
      have hc := rowB_get hr hi
      have hb := celB_bd hc
      unfold celB at hc
      rw [Bool.and_eq_true, Bool.or_eq_true] at hc
      rcases hc.2 with hq | hq
      · unfold usedB at hu
        rw [List.any_eq_false] at hu
        have hi2 : i < T.ps.length := by omega
        have e : T.ps.getD i ⟨0, 0, 0⟩ = T.ps[i] := by rw [List.getD_eq_getElem?_getD, List.getElem?_eq_getElem hi2]; rfl
        rw [e] at hq
        exact absurd hq (hu _ (List.getElem_mem hi2))
      · have : ¬ 0 < row.getD i 0 := by simpa using hq
        omega
    rw [hz]
    simp
theorem line_over {T : Tr} (hok : Ok T) {k j : Nat} {row : List Int} (hl : row.length = T.ps.length) (hj : j < row.length) (h : row[j] < 0 ∨ dvD T k - sumI (row.take j) < row[j]) : linB T T.ps.length k row = false := by
  cases hr : rowB T k row with
  | false => unfold linB; rw [hr]; simp
  | true =>
    have hnn := rowB_nn hr
    have h0 := hnn _ (List.getElem_mem hj)
    have h1 := sumI_take hj
    have h2 : sumI row = sumI (row.take (j + 1)) + sumI (row.drop (j + 1)) := by rw [← sumI_append, List.take_append_drop]
    have h3 := sumI_nn (l := row.drop (j + 1)) (fun x hx => hnn x (List.mem_of_mem_drop hx))
    cases hb : linB T T.ps.length k row with
    | false => rfl
    | true =>
      have := (line_sum hok hl hr).1 hb
      omega
theorem line_use {T : Tr} {n k j : Nat} {row : List Int} (hj : j < row.length) (h : 0 < row[j]) (hu : usB T.rs (T.ps.getD j ⟨0, 0, 0⟩).reach k = false) : linB T n k row = false := by
  have : rowB T k row = false := row_bad hj (by unfold celB; rw [hu, decide_eq_true h]; simp)
  unfold linB
  rw [this]
  simp
theorem line_due {T : Tr} (hok : Ok T) {k : Nat} {row : List Int} (hl : row.length = T.ps.length) (hc : ∀ i (hi : i < row.length), i < T.ps.length → celB T k i row[i] = true) : (dvD T k - sumI (row.take T.ps.length) = 0 ↔ linB T T.ps.length k row = true) := by
  rw [line_sum hok hl (row_ok (fun i hi => hc i hi (by omega))), ← hl, List.take_length]
  omega
theorem line_len {T : Tr} {n k : Nat} {row : List Int} (h : row.length ≠ n) : linB T n k row = false := by
  unfold linB
  rw [decide_eq_false h]
  rfl
theorem paid_eq {T : Tr} {l : List Int} {D : List (List Int)} (hlen : l.length = T.ps.length) (hD : D.length = T.rs.length) (h1 : ∀ k (hk : k < D.length), linB T T.ps.length k D[k] = true) : decide (pdF T.ps.length D D.length 0 = l) = dvdB T l D := by
  have hg : ∀ i, i < T.ps.length → (pdF T.ps.length D D.length 0).getD i 0 = colS D i := fun i hi => by
    rw [List.getD_eq_getElem?_getD, List.getElem?_eq_getElem (by rw [pdF_len]; exact hi), pdF_get, if_neg (by omega), List.take_length]; rfl
  by_cases h : pdF T.ps.length D D.length 0 = l
  · rw [decide_eq_true h]
    refine (dvd_ok hD (fun k hk => by rw [hlen]; exact h1 k hk) (fun i hi => ?_)).symm
    rw [← hg i (by omega), h]
    omega
  · rw [decide_eq_false h]
    symm
    cases hq : dvdB T l D with
    | false => rfl
    | true =>
      exfalso
      refine h (List.ext_getElem (by rw [pdF_len, hlen]) (fun i i1 i2 => ?_))
      have e1 : (pdF T.ps.length D D.length 0)[i] = (pdF T.ps.length D D.length 0).getD i 0 := by rw [List.getD_eq_getElem?_getD, List.getElem?_eq_getElem i1]; rfl
      have e2 : l[i] = l.getD i 0 := by rw [List.getD_eq_getElem?_getD, List.getElem?_eq_getElem i2]; rfl
      rw [e1, e2, hg i (by omega)]
      by_cases hc : l.getD i 0 - colS D i = 0
      · omega
      · rw [dvd_rest i2 hc] at hq; cases hq
end Go.Proofs.Ythopgonbndoidaa
