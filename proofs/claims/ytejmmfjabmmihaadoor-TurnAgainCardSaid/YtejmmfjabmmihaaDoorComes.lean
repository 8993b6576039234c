/- The law's comes; runs of a row, plain. -/
import Derived.Test.YtejmmfjabmmihaaDoorFewR
import Derived.Test.YtejmmfjabmmihaaDoorHasL
import Derived.Test.YtejmmfjabmmihaaDoorNextP
namespace Go.Proofs.YtejmmfjabmmihaaDoor
open Go.RowKit Go.Shelf Go.Maps

/-- how many runs a row has before n -/
def rnN (F : Nat → Bool) (p n : Nat) : Nat := if p = 1 then 0 else (fewU F p n).length
theorem rn_t {F : Nat → Bool} {p n : Nat} (hn : n < p) (h1 : F n = true) (h2 : F ((n + p - 1) % p) = false) : rnN F p (n + 1) = rnN F p n + 1 := by
  have hp : p ≠ 1 := by
    rintro rfl
    have : n = 0 := by omega
    subst this
    rw [show (0 + 1 - 1) % 1 = 0 from rfl, h1] at h2
    cases h2
  unfold rnN
  rw [if_neg hp, if_neg hp, fewU_t (startB_yes h1 h2), List.length_append]
  rfl
theorem rn_f {F : Nat → Bool} {p n : Nat} (h : F n = false ∨ F ((n + p - 1) % p) = true) : rnN F p (n + 1) = rnN F p n := by
  unfold rnN
  by_cases hp : p = 1
  · rw [if_pos hp, if_pos hp]
  · rw [if_neg hp, if_neg hp]
    rcases h with h | h
    · rw [fewU_f (startB_no h)]
    · rw [fewU_f (startB_in hp h)]
theorem rn_le (F : Nat → Bool) (p n : Nat) : rnN F p n ≤ n := by
  unfold rnN
  split
  · omega
  · exact fewU_len F p n
theorem rn_end {S : Mn} (h : whlE S = 0) : max 1 (rnN (whlF S) (perI S) (perI S)) = (fewT S).length ∧ (24 < (fewT S).length → 24 < rnN (whlF S) (perI S) (perI S)) := by
  have h0 : (fewT S).length ≠ 0 := fun e => fewT_ne h (List.eq_nil_of_length_eq_zero e)
  have hT : fewT S = fewU (whlF S) (perI S) (perI S) := rfl
  unfold rnN
  by_cases hp : perI S = 1
  · have := (few_one h hp).1
    rw [if_pos hp, this]
    exact ⟨rfl, fun h => by simp at h⟩
  · rw [if_neg hp, ← hT]
    exact ⟨by omega, fun h => h⟩
theorem few_asc {S : Mn} {i : Nat} (hi : i + 1 < (fewT S).length) : (fewT S)[i].f < (fewT S)[i + 1].f := by
  have h : (fewT S).Pairwise (fun a b => a.f < b.f) := by
    show (fewU _ _ _).Pairwise _
    unfold fewU
    rw [List.pairwise_map]
    refine List.Pairwise.filter _ ?_
    refine List.Pairwise.imp ?_ List.pairwise_lt_range
    intro a b hab
    simp only; omega
  exact List.pairwise_iff_getElem.1 h i (i + 1) (by omega) hi (by omega)
theorem hasC (a b : Value) (S : Mn) (w : World) (hS : MinsAt w a b S) (hok : Ok S) (x : Int) (h0 : 0 ≤ x) (h1 : x ≤ 1048576) (v : Bool) (hv : mem S x = v) (W : World) (h : Ext w W) :
    Calls Tryd.prog 56 #[.agg #[a, b], .int .i64 x] W fun e w' => e = .returned (.bool v) ∧ Ext W w' :=
  (has_any a b S x W (hS.ext h)).mono fun e w' ⟨h2, h3⟩ => ⟨by rw [h2, has_mem hok h0 h1, hv], h3⟩

set_option maxRecDepth 100000 in
set_option maxHeartbeats 4000000 in
theorem comes_any (a b : Value) (S : Mn) (p L : Nat) (w : World) (hS : MinsAt w a b S) (hok : Ok S) (hss : S.ss = []) (h1 : p ≤ 500000) (h2 : L ≤ 500000) :
    Calls Tryd.prog 58 #[.agg #[a, b], .int .i64 p, .int .i64 L] w fun e w' => e = .returned (.bool (agnB (whlF S) L p)) ∧ Ext w w' := by
  have HSS := Lib.hid hss
  clear hss
  go_enter Tryd.func58, Tryd.ntmps58
  go_wp2_with fail
  obtain ⟨W1, hW1⟩ : ∃ W1, w.alloc (.cells #[a, b] 34) = W1 := ⟨_, rfl⟩
  have hx : Ext w W1 := by rw [← hW1]; exact (by repeat (first | exact Ext.refl _ | assumption | refine Ext.alloc ?_ _ | refine Ext.drew ?_ | refine Ext.drewN _ ?_ | refine Ext.trans ?_ (by assumption)))
  have d0 : W1.cell? ⟨w.heap.size, 0, none⟩ = some a := by rw [← hW1]; exact cell_at_new _ _ _ _ _ _ rfl rfl
  have d1 : W1.cell? ⟨w.heap.size, 1, none⟩ = some b := by rw [← hW1]; exact cell_at_new _ _ _ _ _ _ rfl rfl
  have hS1 := hS.ext hx
  rw [hW1]
  clear hW1 hS
  go_loopw [7] (fun i wr => ∃ n : Nat, n ≤ L ∧ i = .int .i64 n ∧ Hid (AgTo (whlF S) p n) ∧ Ext W1 wr) (fun i _ => L - (intOf i).toNat)
  case atStart => exact ⟨0, Nat.zero_le _, rfl, Lib.hid (fun i hi => by omega), (by repeat (first | exact Ext.refl _ | assumption | refine Ext.alloc ?_ _ | refine Ext.drew ?_ | refine Ext.drewN _ ?_ | refine Ext.trans ?_ (by assumption)))⟩
  case round =>
    obtain ⟨n, hn, rfl, HA, hy⟩ := hrel
    obtain ⟨wo, rfl⟩ : ∃ wo : World, wo = wr := ⟨_, rfl⟩
    by_cases hlt : n < L
    · have e0 := hy.cell d0
      have e1 := hy.cell d1
      have hm1 : mem S ((n : Nat) : Int) = whlF S n := mem_whl HSS.out n
      have hm2 : mem S ((n : Int) + (p : Int)) = whlF S (n + p) := by rw [show (n : Int) + (p : Int) = ((n + p : Nat) : Int) by omega]; exact mem_whl HSS.out _
      obtain ⟨y, hmy⟩ : ∃ y, whlF S (n + p) = y := ⟨_, rfl⟩
      obtain ⟨x, hmx⟩ : ∃ x, whlF S n = x := ⟨_, rfl⟩
      have hT : x = y → AgTo (whlF S) p (n + 1) := fun e => HA.out.succ (by rw [hmx, hmy, e])
      have hF : x ≠ y → agnB (whlF S) L p = false := fun e => agn_f hlt (by rw [hmx, hmy]; exact e)
      rw [hmx] at hm1
      rw [hmy] at hm2
      have HT := Lib.hid hT
      have HF := Lib.hid hF
      have hS2 := hS1.ext hy
      clear hmx hmy hT hF HA
      obtain ⟨X, hX⟩ : ∃ X, (n : Int) + (p : Int) = X := ⟨_, rfl⟩
      have hw : IntKind.i64.wrap ((n : Int) + (p : Int)) = X := by rw [IntWalk.i64_in _ (by omega)]; exact hX
      have hX0 : 0 ≤ X := by omega
      have hX1 : X ≤ 1048576 := by omega
      rw [hX] at hm2
      clear hX
      cases x <;> cases y
      all_goals
        have K1 := fun W h => hasC _ _ S wo hS2 hok n (by omega) (by omega) _ hm1 W h
        have K2 := fun W h => hasC _ _ S wo hS2 hok X (by omega) (by omega) _ hm2 W h
        clear hm1 hm2
        go_wp2_with fail
        go_region_held3 (fun W' => W'.cell? ⟨w.heap.size, 0, none⟩ = some a ∧ W'.cell? ⟨w.heap.size, 1, none⟩ = some b ∧ Ext wo W')
          ((refine ⟨Ext.cell (w := wo) ?_ e0, Ext.cell (w := wo) ?_ e1, ?_⟩; all_goals exact (by repeat (first | exact Ext.refl _ | assumption | refine Ext.alloc ?_ _ | refine Ext.drew ?_ | refine Ext.drewN _ ?_ | refine Ext.trans ?_ (by assumption)))))
          ((go_at_call 56; first | ((with_reducible refine (K1 _ ?_).mono ?_); (focus (exact (by repeat (first | exact Ext.refl _ | assumption | refine Ext.alloc ?_ _ | refine Ext.drew ?_ | refine Ext.drewN _ ?_ | refine Ext.trans ?_ (by assumption))))); rintro e w' ⟨rfl, hz⟩) | ((with_reducible refine (K2 _ ?_).mono ?_); (focus (exact (by repeat (first | exact Ext.refl _ | assumption | refine Ext.alloc ?_ _ | refine Ext.drew ?_ | refine Ext.drewN _ ?_ | refine Ext.trans ?_ (by assumption))))); rintro e w' ⟨rfl, hz⟩)))
        all_goals
          go_wp2_with fail
          first
            | (go_roundw
               case rel => exact ⟨n + 1, by omega, by go_num, Lib.hid (HT.out (by simp)), Ext.trans hy (by repeat (first | exact Ext.refl _ | assumption | refine Ext.alloc ?_ _ | refine Ext.drew ?_ | refine Ext.drewN _ ?_ | refine Ext.trans ?_ (by assumption)))⟩
               case measure => simp [intOf]; omega)
            | (go_ret
               exact ⟨ret_bool (HF.out (by decide)).symm, hx.trans (Ext.trans hy (by repeat (first | exact Ext.refl _ | assumption | refine Ext.alloc ?_ _ | refine Ext.drew ?_ | refine Ext.drewN _ ?_ | refine Ext.trans ?_ (by assumption))))⟩)
    · obtain rfl : n = L := by omega
      have hr := agn_t HA.out
      go_wp2_with fail
      go_ret
      exact ⟨ret_bool hr.symm, hx.trans hy⟩
end Go.Proofs.YtejmmfjabmmihaaDoor
