/- rising of the laws: it sorts. -/
import Derived.Test.YtiofdfjcaklmcaaFCo
namespace Go.Proofs.Ytiofdfjcaklmcaa
open Go.RowKit Go.Shelf

/-- sorted up to an index, but for what lies at k -/
def InvK (i k : Nat) (L : List Int) : Prop := ∀ p q, p < q → q ≤ i → q ≠ k → L.getD p 0 ≤ L.getD q 0
def InvO (i : Nat) (L : List Int) : Prop := ∀ p q, p < q → q < i → L.getD p 0 ≤ L.getD q 0
theorem invK_start {i : Nat} {L : List Int} (h : InvO i L) : InvK i i L := fun p q h1 h2 h3 => h p q h1 (by omega)
theorem invK_zero {i : Nat} {L : List Int} (h : InvK i 0 L) : InvO (i + 1) L := fun p q h1 h2 => h p q h1 (by omega) (by omega)
theorem invK_stop {i j : Nat} {L : List Int} (h : InvK i (j + 1) L) (hle : L.getD j 0 ≤ L.getD (j + 1) 0) : InvO (i + 1) L := fun p q h1 h2 => by
  by_cases e : q = j + 1
  · subst e
    by_cases e2 : p = j
    · subst e2; exact hle
    · exact Int.le_trans (h p j (by omega) (by omega) (by omega)) hle
  · exact h p q h1 (by omega) e
theorem getD_set2 {L : List Int} {j k : Nat} (hj : j < L.length) (hk : k < L.length) (_hne : j ≠ k) (x y : Int) (p : Nat) : ((L.set k x).set j y).getD p 0 = if p = j then y else if p = k then x else L.getD p 0 := by
  rw [List.getD_eq_getElem?_getD, List.getElem?_set]
  by_cases h1 : j = p
  · subst h1; rw [if_pos rfl, if_pos rfl, List.length_set, if_pos hj]; rfl
  · rw [if_neg h1, if_neg (fun e => h1 e.symm), List.getElem?_set]
    by_cases h2 : k = p
    · subst h2; rw [if_pos rfl, if_pos rfl, if_pos hk]; rfl
    · rw [if_neg h2, if_neg (fun e => h2 e.symm), List.getD_eq_getElem?_getD]
theorem invK_swap {i j : Nat} {L : List Int} (h : InvK i (j + 1) L) (hi : j + 1 ≤ i) (hL : i < L.length) (hgt : L.getD (j + 1) 0 < L.getD j 0) : InvK i j ((L.set (j + 1) (L.getD j 0)).set j (L.getD (j + 1) 0)) := fun p q h1 h2 h3 => by
  rw [getD_set2 (by omega) (by omega) (by omega), getD_set2 (by omega) (by omega) (by omega), if_neg h3]
  by_cases e1 : p = j
  · rw [if_pos e1]
    split
    · omega
    · exact h (j + 1) q (by omega) h2 (by assumption)
  · rw [if_neg e1]
    by_cases e2 : p = j + 1
    · rw [if_pos e2, if_neg (by omega)]
      exact h j q (by omega) h2 (by omega)
    · rw [if_neg e2]
      split
      · exact h p j (by omega) (by omega) (by omega)
      · exact h p q h1 h2 (by assumption)
theorem swap_perm {L : List Int} {j : Nat} (h : j + 1 < L.length) : ((L.set (j + 1) (L.getD j 0)).set j (L.getD (j + 1) 0)).Perm L := by
  induction L generalizing j with
  | nil => simp at h
  | cons a L ih =>
    cases j with
    | zero =>
      cases L with
      | nil => simp at h
      | cons b L => exact List.Perm.swap a b L
    | succ j =>
      have := ih (j := j) (by simpa using h)
      simpa using List.Perm.cons a this
theorem invO_end {l L : List Int} (hp : L.Perm l) (h : InvO L.length L) : srtI l = L := by
  have hs : L.Pairwise (· ≤ ·) := by
    rw [List.pairwise_iff_getElem]
    intro p q hp hq hpq
    have := h p q hpq hq
    rw [List.getD_eq_getElem?_getD, List.getD_eq_getElem?_getD, List.getElem?_eq_getElem hp, List.getElem?_eq_getElem hq] at this
    exact this
  have h1 : (srtI l).Pairwise (· ≤ ·) := by
    have := List.pairwise_mergeSort (le := fun x y : Int => decide (x ≤ y)) (fun a b c h1 h2 => by simp at *; omega) (fun a b => by simp; omega) l
    exact this.imp (fun h => by simpa using h)
  have h2 : (srtI l).Perm L := (List.mergeSort_perm l _).trans hp.symm
  exact h2.eq_of_pairwise (fun a b _ _ h1 h2 => Int.le_antisymm h1 h2) h1 hs
set_option maxRecDepth 100000 in
set_option maxHeartbeats 8000000 in
theorem rising_any (v : Value) (l : List Int) (w : World) (hl : IntsAt w v l) (hn : l.length ≤ 1000) :
    Calls Try.prog 60 #[v] w fun e w' => ∃ u, e = .returned u ∧ IntsAt w' u (srtI l) ∧ Ext w w' := by
  obtain ⟨A, c, rfl, hlc⟩ := hl.len
  go_enter Try.func60, Try.ntmps60
  go_wp2_with (at_builtin; refine append_ints rfl _ _ rfl w.heap.size _ _ [] l rfl (rowI_lit0 w (Nat.le_refl _)) rfl (hl.ext (by repeat (first | exact Ext.refl _ | assumption | refine Ext.alloc ?_ _ | refine Ext.drew ?_ | refine Ext.drewN _ ?_ | refine Ext.trans ?_ (by assumption)))) (by simp) (by simp; omega) ?_; intro v1 w3 hr3 hg3 _)
  rw [List.nil_append] at hr3
  have hx3 : Ext w w3 := ext_own (by repeat (first | exact Ext.refl _ | assumption | refine Ext.alloc ?_ _ | refine Ext.drew ?_ | refine Ext.drewN _ ?_ | refine Ext.trans ?_ (by assumption))) (rowI_lit0 w (Nat.le_refl _)) (Nat.le_refl _) hg3
  obtain ⟨uA, uc, rfl⟩ := hr3.form
  obtain ⟨N, hN⟩ : ∃ N, l.length = N := ⟨_, rfl⟩
  have hpe := fun L => @invO_end l L
  rw [hN] at hr3 hn ⊢
  have hr4 : RowI w.heap.size (.slice uA N uc) l w3 := hr3
  have HN := Lib.hid hN
  have HPE := Lib.hid hpe
  clear hN hpe hg3 hr3 hlc hl
  go_wp2_with fail
  go_loopw [4] (fun iv wr => ∃ (i : Nat) (L : List Int), iv = .int .i64 i ∧ Hid ((i ≤ N ∨ i = 1) ∧ L.Perm l ∧ InvO i L) ∧ RowI w.heap.size (.slice uA N uc) L wr ∧ Ext w wr) (fun i _ => N - (intOf i).toNat)
  case atStart => exact ⟨1, l, rfl, Lib.hid ⟨.inr rfl, List.Perm.refl _, fun p q h1 h2 => by omega⟩, hr4, hx3⟩
  case round =>
    clear hr4 hx3
    obtain ⟨i, L, rfl, HI, hr, hx⟩ := hrel
    by_cases hlt : i < N
    · have hii : (i : Int) < N := by omega
      have HS : Hid (L.Perm l ∧ InvK i i L) := Lib.hid ⟨HI.out.2.1, invK_start HI.out.2.2⟩
      clear HI
      have HR := Lib.hid hr
      clear hr
      go_wp2_with fail
      go_loopw [5] (fun kv wr => ∃ (k : Nat) (L : List Int), k ≤ i ∧ kv = .int .i64 k ∧ Hid (L.Perm l ∧ InvK i k L) ∧ Hid (RowI w.heap.size (.slice uA N uc) L wr) ∧ Ext w wr) (fun k _ => (intOf k).toNat)
      case atStart => exact ⟨i, L, Nat.le_refl _, rfl, HS, HR, hx⟩
      case round =>
        clear HS HR hx
        obtain ⟨K, L, hKi, rfl, HS, HR, hx⟩ := hrel
        have hLl : L.length = N := by rw [HS.out.1.length_eq]; exact HN.out
        by_cases hK : K = 0
        · subst hK
          rw [show ((0 : Nat) : Int) = 0 from rfl]
          have HE : Hid (InvO (i + 1) L) := Lib.hid (invK_zero HS.out.2)
          go_upto_region 6 with fail
          refine wp_region_held_drew (S := fun W' => Ext wr W') (by kernel_rfl) ?_ (fun hHeld => ?_)
          · exact Ext.drew (Ext.refl _)
          obtain ⟨V0, hV0⟩ : ∃ V, World.drew wr = V := ⟨_, rfl⟩
          rw [hV0] at hHeld ⊢
          clear hV0
          (refine tkH (i := 0) (v := ?_) rfl ?_ ?_; rotate_left 1; (focus (intro w hSw; (try dsimp only at hSw); go_simp; try (with_reducible rfl))))
          try simp only [Act.put, xA1, xA2, xA4, xA5, xA6]
          (refine tkH (i := 1) (v := ?_) rfl ?_ ?_; rotate_left 1; (focus (intro w hSw; (try dsimp only at hSw); go_simp; try (with_reducible rfl))))
          try simp only [Act.put, xA1, xA2, xA3, xA4, xA5, xA6]
          (refine tkH (i := 2) (v := ?_) rfl ?_ ?_; rotate_left 1; (focus (intro w hSw; (try dsimp only at hSw); go_simp; try (with_reducible rfl))))
          try simp only [Act.put, xA1, xA2, xA3, xA4, xA5, xA6]
          (refine skH (i := 3) rfl ?_)
          try simp only [Act.put, xA1, xA2, xA3, xA4, xA5, xA6]
          (refine skH (i := 4) rfl ?_)
          try simp only [Act.put, xA1, xA2, xA3, xA4, xA5, xA6]
          (refine skH (i := 5) rfl ?_)
          try simp only [Act.put, xA1, xA2, xA3, xA4, xA5, xA6]
          (refine skH (i := 6) rfl ?_)
          try simp only [Act.put, xA1, xA2, xA3, xA4, xA5, xA6]
          (refine skH (i := 7) rfl ?_)
          try simp only [Act.put, xA1, xA2, xA3, xA4, xA5, xA6]
          (refine skH (i := 8) rfl ?_)
          try simp only [Act.put, xA1, xA2, xA3, xA4, xA5, xA6]
          (refine skH (i := 9) rfl ?_)
          try simp only [Act.put, xA1, xA2, xA3, xA4, xA5, xA6]
          (refine skH (i := 10) rfl ?_)
          try simp only [Act.put, xA1, xA2, xA3, xA4, xA5, xA6]
          (refine skH (i := 11) rfl ?_)
          try simp only [Act.put, xA1, xA2, xA3, xA4, xA5, xA6]
          (refine skH (i := 12) rfl ?_)
          try simp only [Act.put, xA1, xA2, xA3, xA4, xA5, xA6]
          (refine tkH (i := 13) (v := ?_) rfl ?_ ?_; rotate_left 1; (focus (intro w hSw; (try dsimp only at hSw); go_simp; try (with_reducible rfl))))
          try simp only [Act.put, xA1, xA2, xA3, xA4, xA5, xA6]
          refine wpAnyH_done (by kernel_rfl) ?_ _
          have hzz := hHeld
          go_wp2_with fail
          go_roundw
          case rel => exact ⟨i + 1, L, by go_num, Lib.hid ⟨.inl (by omega), HS.out.1, HE.out⟩, rowI_ext HR.out hzz, hx.trans hzz⟩
          case measure => simp [intOf]; omega
        · obtain ⟨j, rfl⟩ : ∃ j, K = j + 1 := ⟨K - 1, by omega⟩
          have hjl : j < L.length := by omega
          have hKl : j + 1 < L.length := by omega
          obtain ⟨gb, gc, gcs, hv, hgc, hgb⟩ := rowI_cls HR.out (by omega)
          rw [hLl] at hv
          simp only [Value.slice.injEq] at hv
          obtain ⟨rfl, _, rfl⟩ := hv
          have f0 := rowI_frz HR.out hjl
          have f1 := rowI_frz HR.out hKl
          have ex : L[j] = L.getD j 0 := by rw [List.getD_eq_getElem?_getD, List.getElem?_eq_getElem hjl]; rfl
          have ey : L[j + 1] = L.getD (j + 1) 0 := by rw [List.getD_eq_getElem?_getD, List.getElem?_eq_getElem hKl]; rfl
          rw [ex] at f0
          rw [ey] at f1
          have hsw := invK_swap HS.out.2 hKi (by omega)
          have hst := fun h => invK_stop (L := L) HS.out.2 h
          have hsp := swap_perm hKl
          have hs1 := fun W (h : RowI w.heap.size (.slice (some ⟨gb, 0, none⟩) L.length uc) L W) => rowI_set (j := j + 1) h (L.getD j 0)
          have hs2 := fun W (h : RowI w.heap.size (.slice (some ⟨gb, 0, none⟩) (L.set (j + 1) (L.getD j 0)).length uc) (L.set (j + 1) (L.getD j 0)) W) => rowI_set (j := j) h (L.getD (j + 1) 0)
          rw [List.length_set, hLl] at hs2
          rw [hLl] at hs1
          obtain ⟨x, hxx⟩ : ∃ x, L.getD j 0 = x := ⟨_, rfl⟩
          obtain ⟨y, hyy⟩ : ∃ x, L.getD (j + 1) 0 = x := ⟨_, rfl⟩
          rw [hxx] at f0 hs1
          rw [hyy] at f1
          rw [hxx, hyy] at hsw hst hsp
          simp only [hxx, hyy] at hs2
          obtain ⟨c0, z0⟩ := f0
          obtain ⟨c1, z1⟩ := f1
          obtain ⟨K, hK⟩ : ∃ K, j + 1 = K := ⟨_, rfl⟩
          try rw [hK] at c1
          try rw [hK] at z1
          try rw [hK] at hsw
          try rw [hK] at hsp
          try rw [hK] at hs1
          try rw [hK] at hs2
          try rw [hK] at HS
          try simp only [hK] at hst
          try rw [hK]
          have hKj : IntKind.i64.wrap ((K : Int) - 1) = (j : Int) := by rw [IntWalk.i64_in _ (by omega)]; omega
          have hJ0 : decide ((K : Int) > 0) = true := decide_eq_true (by omega)
          have hJ1 : decide (0 < K) = true := decide_eq_true (by omega)
          have hJ2 : decide (0 < (K : Int)) = true := decide_eq_true (by omega)
          have hJ3 : 0 < K := by omega
          have hKN : (K : Int) < N := by omega
          have hjN : (j : Int) < N := by omega
          have HSW := Lib.hid hsw
          have HST := Lib.hid hst
          have HSP := Lib.hid hsp
          have HS1 := Lib.hid hs1
          have HS2 := Lib.hid hs2
          have HKK := Lib.hid hK
          have HP := Lib.hid HS.out.1
          have HGB := Lib.hid hgb
          clear hsw hst hsp hs1 hs2 hK hxx hyy ex ey hgc hgb HS hjl hKl
          go_upto_region 6 with fail
          refine wp_region_held_drew (S := fun W' => W'.cell? ⟨gb, j, none⟩ = some (.int .i64 x) ∧ W'.cell? ⟨gb, K, none⟩ = some (.int .i64 y) ∧ Ext wr W') (by kernel_rfl) ?_ (fun hHeld => ?_)
          · exact ⟨c0, c1, Ext.drew (Ext.refl _)⟩
          obtain ⟨V0, hV0⟩ : ∃ V, World.drew wr = V := ⟨_, rfl⟩
          rw [hV0] at hHeld ⊢
          clear hV0
          (refine tkH (i := 0) (v := ?_) rfl ?_ ?_; rotate_left 1; (focus (intro w hSw; (try dsimp only at hSw); go_simp; try (with_reducible rfl))))
          try simp only [Act.put, xA1, xA2, xA4, xA5, xA6]
          (refine tkH (i := 1) (v := ?_) rfl ?_ ?_; rotate_left 1; (focus (intro w hSw; (try dsimp only at hSw); go_simp; try (with_reducible rfl))))
          try simp only [Act.put, xA1, xA2, xA3, xA4, xA5, xA6]
          (refine tkH (i := 2) (v := ?_) rfl ?_ ?_; rotate_left 1; (focus (intro w hSw; (try dsimp only at hSw); go_simp; try (with_reducible rfl))))
          try simp only [Act.put, xA1, xA2, xA3, xA4, xA5, xA6]
          (refine tkH (i := 3) (v := ?_) rfl ?_ ?_; rotate_left 1; (focus (intro w hSw; (try dsimp only at hSw); go_simp; try (with_reducible rfl))))
          try simp only [Act.put, xA1, xA2, xA3, xA4, xA5, xA6]
          (refine tkH (i := 4) (v := ?_) rfl ?_ ?_; rotate_left 1; (focus (intro w hSw; (try dsimp only at hSw); go_simp; try (with_reducible rfl))))
          try simp only [Act.put, xA1, xA2, xA3, xA4, xA5, xA6]
          (refine tkH (i := 5) (v := ?_) rfl ?_ ?_; rotate_left 1; (focus (intro w hSw; (try dsimp only at hSw); go_simp; try (with_reducible rfl))))
          try simp only [Act.put, xA1, xA2, xA3, xA4, xA5, xA6]
          (refine tkH (i := 6) (v := ?_) rfl ?_ ?_; rotate_left 1; (focus (intro w hSw; (try dsimp only at hSw); go_simp; try (with_reducible rfl))))
          try simp only [Act.put, xA1, xA2, xA3, xA4, xA5, xA6]
          (refine tkH (i := 7) (v := ?_) rfl ?_ ?_; rotate_left 1; (focus (intro w hSw; (try dsimp only at hSw); go_simp; try (with_reducible rfl))))
          try simp only [Act.put, xA1, xA2, xA3, xA4, xA5, xA6]
          (refine tkH (i := 8) (v := ?_) rfl ?_ ?_; rotate_left 1; (focus (intro w hSw; (try dsimp only at hSw); go_simp; try (with_reducible rfl))))
          try simp only [Act.put, xA1, xA2, xA3, xA4, xA5, xA6]
          (refine tkH (i := 9) (v := ?_) rfl ?_ ?_; rotate_left 1; (focus (intro w hSw; (try dsimp only at hSw); go_simp; try (with_reducible rfl))))
          try simp only [Act.put, xA1, xA2, xA3, xA4, xA5, xA6]
          (refine tkH (i := 10) (v := ?_) rfl ?_ ?_; rotate_left 1; (focus (intro w hSw; (try dsimp only at hSw); go_simp; try (with_reducible rfl))))
          try simp only [Act.put, xA1, xA2, xA3, xA4, xA5, xA6]
          (refine tkH (i := 11) (v := ?_) rfl ?_ ?_; rotate_left 1; (focus (intro w hSw; (try dsimp only at hSw); go_simp; try (with_reducible rfl))))
          try simp only [Act.put, xA1, xA2, xA3, xA4, xA5, xA6]
          (refine tkH (i := 12) (v := ?_) rfl ?_ ?_; rotate_left 1; (focus (intro w hSw; (try dsimp only at hSw); go_simp; try (with_reducible rfl))))
          try simp only [Act.put, xA1, xA2, xA3, xA4, xA5, xA6]
          (refine tkH (i := 13) (v := ?_) rfl ?_ ?_; rotate_left 1; (focus (intro w hSw; (try dsimp only at hSw); go_simp; try (with_reducible rfl))))
          try simp only [Act.put, xA1, xA2, xA3, xA4, xA5, xA6]
          refine wpAnyH_done (by kernel_rfl) ?_ _
          have hzz := hHeld.2.2
          replace c0 := hzz.cell c0
          replace c1 := hzz.cell c1
          have hR := rowI_ext HR.out hzz
          have hx2 := hx.trans hzz
          obtain ⟨WW, hWW⟩ : ∃ W, V0 = W := ⟨_, rfl⟩
          rw [hWW] at c0 c1 hR hx2 ⊢
          have g0 : WW.frozen? ⟨gb, j, none⟩ = false := by have := rowI_frz hR (i := j) (by omega); exact this.2
          have g1 : WW.frozen? ⟨gb, K, none⟩ = false := by have := rowI_frz hR (i := K) (by have := HKK.out; omega); exact this.2
          have HR2 := Lib.hid hR
          clear hHeld hzz hWW HR hx hR z0 z1
          by_cases hgt : y < x
          · have hgd : ((x : Int) > y) := hgt
            have hr1 := HS1.out _ HR2.out
            obtain ⟨Y, hY⟩ : ∃ Y, WW.setCell ⟨gb, K, none⟩ (.int .i64 x) = Y := ⟨_, rfl⟩
            rw [hY] at hr1
            have hxY : Ext w Y := by rw [← hY]; exact hx2.setCell (by have := HGB.out; simp; omega) _
            have hr2 := HS2.out _ hr1
            have y0 : Y.frozen? ⟨gb, j, none⟩ = false := by
              have := rowI_frz (i := j) hr1 (by rw [List.length_set]; omega)
              exact this.2
            obtain ⟨yv, hyv⟩ : ∃ v, Y.cell? ⟨gb, j, none⟩ = some v := ⟨_, (rowI_frz (i := j) hr1 (by rw [List.length_set]; omega)).1⟩
            have HR3 := Lib.hid hr2
            have HSQ := Lib.hid (HSW.out hgt)
            clear hr1 hr2 hgt
            go_wp2_with fail
            go_roundw
            case rel => exact ⟨j, _, by have := HKK.out; omega, rfl, Lib.hid ⟨HSP.out.trans HP.out, HSQ.out⟩, HR3, hxY.setCell (by have := HGB.out; simp; omega) _⟩
            case measure => simp [intOf]; have := HKK.out; omega
          · have hgd : ¬ ((x : Int) > y) := hgt
            have HE := Lib.hid (HST.out (by omega))
            clear hgt
            go_wp2_with fail
            go_roundw
            case rel => exact ⟨i + 1, L, by go_num, Lib.hid ⟨.inl (by omega), HP.out, HE.out⟩, HR2.out, hx2⟩
            case measure => simp [intOf]; omega
    · have hii : ¬ ((i : Int) < N) := by omega
      have hLl : L.length = N := by rw [HI.out.2.1.length_eq]; exact HN.out
      have HE : Hid (srtI l = L) := Lib.hid (HPE.out L HI.out.2.1 (fun p q h1 h2 => HI.out.2.2 p q h1 (by omega)))
      clear HI hLl
      go_wp2_with fail
      go_ret
      exact ⟨_, rfl, by rw [HE.out]; exact hr.at_, hx⟩
end Go.Proofs.Ytiofdfjcaklmcaa
