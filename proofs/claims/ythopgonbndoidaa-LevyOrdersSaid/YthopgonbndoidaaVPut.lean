/- put of the specification: a number put into a list. -/
import Derived.Test.YthopgonbndoidaaVDv
namespace Go.Proofs.Ythopgonbndoidaa
open Go.RowKit Go.Shelf

def putL (l : List Int) (n : Int) : List Int := l.takeWhile (fun x => decide (x < n)) ++ n :: l.dropWhile (fun x => decide (x < n))
theorem putL_at {l : List Int} {n : Int} {k : Nat} (hk : k ≤ l.length) (h1 : ∀ i (h : i < l.length), i < k → l[i] < n) (h2 : ∀ h : k < l.length, ¬ l[k] < n) : putL l n = l.take k ++ n :: l.drop k := by
  induction l generalizing k with
  | nil => simp [putL]
  | cons x l ih =>
    cases k with
    | zero =>
      have := h2 (by simp)
      simp only [List.getElem_cons_zero] at this
      simp [putL, this]
    | succ k =>
      have hx := h1 0 (by simp) (by omega)
      simp only [List.getElem_cons_zero] at hx
      have := ih (k := k) (by simpa using hk) (fun i h hi => by have := h1 (i + 1) (by simpa using h) (by omega); simpa using this) (fun h => by have := h2 (by simpa using h); simpa using this)
      unfold putL at this ⊢
      simp only [List.takeWhile_cons, List.dropWhile_cons, hx, decide_true, if_true, List.cons_append, List.take_succ_cons, List.drop_succ_cons]
      rw [this]
theorem putL_len (l : List Int) (n : Int) : (putL l n).length = l.length + 1 := by
  unfold putL
  rw [List.length_append, List.length_cons]
  have h := congrArg List.length (List.takeWhile_append_dropWhile (p := fun x => decide (x < n)) (l := l))
  rw [List.length_append] at h
  omega
theorem putL_perm (l : List Int) (n : Int) : (putL l n).Perm (n :: l) := by
  unfold putL
  have h := List.takeWhile_append_dropWhile (p := fun x => decide (x < n)) (l := l)
  refine List.perm_middle.trans ?_
  rw [h]
theorem rowI_lit0 {n₀ : Nat} (W : World) (h : n₀ ≤ W.heap.size) : RowI n₀ (.slice (some ⟨W.heap.size, 0, none⟩) 0 0) [] (W.alloc (.cells #[] 3)) :=
  World.ownsRow_lit (base := n₀) (e := 3) (size := 1) W #[] 0 h (by decide) (by simp)
theorem ints_off {W W' : World} {b n c : Nat} {l : List Int} {row : Option Nat} (h : IntsAt W (.slice (some ⟨b, 0, none⟩) n c) l) (hg : W.grownBy W' row) (hne : some b ≠ row) : IntsAt W' (.slice (some ⟨b, 0, none⟩) n c) l := by
  obtain ⟨ao, cap, hv, hle, hc⟩ := h
  simp only [Value.slice.injEq] at hv
  obtain ⟨rfl, rfl, rfl⟩ := hv
  refine ⟨_, _, rfl, hle, fun i hi => ?_⟩
  obtain ⟨b', o, he, h1⟩ := hc i hi
  simp only [Option.some.injEq, Addr.mk.injEq, and_true] at he
  obtain ⟨rfl, rfl⟩ := he
  exact ⟨b, 0, rfl, hg.cell h1 hne⟩
theorem IntsAt.take {w : World} {ao : Option Addr} {n cap : Nat} {l : List Int} (h : IntsAt w (.slice ao n cap) l) (k : Nat) (hk : k ≤ l.length) : IntsAt w (.slice ao k cap) (l.take k) := by
  obtain ⟨ao', cap', hv, hle, hc⟩ := h
  simp only [Value.slice.injEq] at hv
  obtain ⟨rfl, rfl, rfl⟩ := hv
  have hlen : (l.take k).length = k := by rw [List.length_take]; omega
  refine ⟨ao, cap, by rw [hlen], by omega, fun i hi => ?_⟩
  obtain ⟨b, o, h0, h1⟩ := hc i (by omega)
  exact ⟨b, o, h0, by rw [List.getElem_take]; exact h1⟩
theorem IntsAt.drop {w : World} {ao : Option Addr} {n cap : Nat} {l : List Int} (h : IntsAt w (.slice ao n cap) l) (k : Nat) (hk : k ≤ l.length) : IntsAt w (.slice (if cap = k then ao else ao.map (·.add k)) (n - k) (cap - k)) (l.drop k) := by
  obtain ⟨ao', cap', hv, hle, hc⟩ := h
  simp only [Value.slice.injEq] at hv
  obtain ⟨rfl, rfl, rfl⟩ := hv
  refine ⟨_, cap - k, by rw [List.length_drop], by rw [List.length_drop]; omega, fun i hi => ?_⟩
  rw [List.length_drop] at hi
  obtain ⟨b, o, h0, h1⟩ := hc (k + i) (by omega)
  subst h0
  refine ⟨b, o + k, ?_, ?_⟩
  · rw [if_neg (by omega)]
    simp only [Option.map_some, Addr.add]
    split <;> simp_all
  · rw [List.getElem_drop, Nat.add_assoc]
    exact h1
theorem IntsAt.slicedD {w : World} {ao : Option Addr} {n cap : Nat} {l : List Int} (h : IntsAt w (.slice ao n cap) l) (k : Nat) (hk : k ≤ l.length) : IntsAt w (sliced ao k n cap 1) (l.drop k) := by
  have h1 := h.drop k hk
  unfold sliced
  rw [Nat.mul_one]
  exact h1
theorem IntsAt.slicedT {w : World} {ao : Option Addr} {n cap : Nat} {l : List Int} (h : IntsAt w (.slice ao n cap) l) (k : Nat) (hk : k ≤ l.length) : IntsAt w (sliced ao 0 k cap 1) (l.take k) := by
  have h1 := (h.take k hk).drop 0 (by simp)
  unfold sliced
  rw [Nat.mul_one]
  simpa using h1

set_option maxRecDepth 100000 in
set_option maxHeartbeats 8000000 in
theorem refPut_any (v : Value) (l : List Int) (n : Int) (w : World) (hl : IntsAt w v l) (hn : l.length ≤ 100000) :
    Calls Try.prog 111 #[v, .int .i64 n] w fun e w' => ∃ u, e = .returned u ∧ RowI w.heap.size u (putL l n) w' ∧ Ext w w' := by
  obtain ⟨ao, cap, rfl, hcap⟩ := hl.len
  obtain ⟨P, hP⟩ : ∃ P, putL l n = P := ⟨_, rfl⟩
  have HP0 := Lib.hid hP
  rw [hP]
  clear hP
  go_enter Try.func111, Try.ntmps111
  go_wp2_with fail
  go_loopw [5] (fun i wr => ∃ k : Nat, k ≤ l.length ∧ i = .int .i64 k ∧ Hid (∀ i (h : i < l.length), i < k → l[i] < n) ∧ Ext w wr) (fun i _ => l.length - (intOf i).toNat)
  case atStart => exact ⟨0, Nat.zero_le _, rfl, Lib.hid (fun i _ h => by omega), Ext.refl _⟩
  case round =>
    obtain ⟨k, hk, rfl, HK, hx0⟩ := hrel
    have fin : (∀ h : k < l.length, ¬ l[k] < n) → Hid (l.take k ++ n :: l.drop k = P) := fun h => Lib.hid (by rw [← HP0.out, putL_at hk HK.out h])
    have hke : k ≤ cap := by omega
    have hki : (k : Int) ≤ (cap : Int) := by omega
    have hkn : (k : Int) ≤ (l.length : Int) := by omega
    by_cases hlt : k < l.length
    · obtain ⟨b, o, rfl, c0⟩ := (hl.ext hx0).get k hlt
      obtain ⟨x, hxx⟩ : ∃ x, l[k] = x := ⟨_, rfl⟩
      rw [hxx] at c0
      by_cases hxn : x < n
      · have HK2 : Hid (∀ i (h : i < l.length), i < k + 1 → l[i] < n) := Lib.hid (fun i h hi => by
          by_cases hik : i = k
          · subst hik; rw [hxx]; exact hxn
          · exact HK.out i h (by omega))
        clear fin hxx HK
        go_wp2
        go_roundw
        case rel => exact ⟨k + 1, by omega, by go_num, HK2, hx0⟩
        case measure => simp [intOf]; omega
      · have HP := fin (fun _ => by rw [hxx]; exact hxn)
        clear fin hxx HK
        go_upto_region 4 with fail
        obtain ⟨V, hV⟩ : ∃ V, wr.drew = V := ⟨_, rfl⟩
        have hxV : Ext wr V := by rw [← hV]; exact (by repeat (first | exact Ext.refl _ | assumption | refine Ext.alloc ?_ _ | refine Ext.drew ?_ | refine Ext.drewN _ ?_ | refine Ext.trans ?_ (by assumption)))
        have hbV : w.heap.size ≤ V.heap.size := Nat.le_trans hx0.size hxV.size
        have hTk : ∀ {W}, Ext V W → IntsAt W (sliced (some ⟨b, o, none⟩) 0 k cap 1) (l.take k) := fun h => (hl.ext ((hx0.trans hxV).trans h)).slicedT k hk
        have hDr : ∀ {W}, Ext V W → IntsAt W (sliced (some ⟨b, o, none⟩) k l.length cap 1) (l.drop k) := fun h => (hl.ext ((hx0.trans hxV).trans h)).slicedD k hk
        have hx : Ext V V := Ext.refl _
        obtain ⟨BS, hBS⟩ : ∃ B, B = V.heap.size := ⟨_, rfl⟩
        have HBS := Lib.hid hBS
        rw [← hBS] at hbV
        clear hBS
        refine wp_region_held_drew (S := fun W' => Ext wr W') (by kernel_rfl) ?_ (fun hHeld => ?_)
        · exact Ext.drew (Ext.refl _)
        (refine wpAnyH_take (i := 1) (v := ?_) rfl (by kernel_rfl) (by kernel_rfl) (by kernel_rfl) (fun _ _ _ h => h) (Or.inl ⟨by rfl, ?_⟩) (by assumption) ?_; rotate_left 1; (focus (intro w hSw; (try dsimp only at hSw); go_simp; try (with_reducible rfl))))
        try simp only [Act.put, List.getElem_toArray, List.setIfInBounds_toArray]
        (refine wpAnyH_take (i := 2) (v := ?_) rfl (by kernel_rfl) (by kernel_rfl) (by kernel_rfl) (fun _ _ _ h => h) (Or.inl ⟨by rfl, ?_⟩) (by assumption) ?_; rotate_left 1; (focus (intro w hSw; (try dsimp only at hSw); go_simp; try (with_reducible rfl))))
        try simp only [Act.put, List.getElem_toArray, List.getElem_cons_zero, List.getElem_cons_succ, List.setIfInBounds_toArray, List.set_cons_zero, List.set_cons_succ]
        (refine wpAnyH_take (i := 3) (v := sliced (some ⟨b, o, none⟩) 0 k cap 1) rfl (by kernel_rfl) (by kernel_rfl) (by kernel_rfl) (fun _ _ _ h => h) (Or.inl ⟨by rfl, ?_⟩) (by assumption) ?_; (focus (intro w hSw; (try dsimp only at hSw); go_simp)))
        try simp only [Act.put, List.getElem_toArray, List.getElem_cons_zero, List.getElem_cons_succ, List.setIfInBounds_toArray, List.set_cons_zero, List.set_cons_succ]
        (refine wpAnyH_take (i := 5) (v := ?_) rfl (by kernel_rfl) (by kernel_rfl) (by kernel_rfl) (fun _ _ _ h => h) (Or.inl ⟨by rfl, ?_⟩) (by assumption) ?_; rotate_left 1; (focus (intro w hSw; (try dsimp only at hSw); go_simp; try (with_reducible rfl))))
        try simp only [Act.put, List.getElem_toArray, List.getElem_cons_zero, List.getElem_cons_succ, List.setIfInBounds_toArray, List.set_cons_zero, List.set_cons_succ]
        (refine wpAnyH_take (i := 8) (v := ?_) rfl (by kernel_rfl) (by kernel_rfl) (by kernel_rfl) (fun _ _ _ h => h) (Or.inl ⟨by rfl, ?_⟩) (by assumption) ?_; rotate_left 1; (focus (intro w hSw; (try dsimp only at hSw); go_simp; try (with_reducible rfl))))
        try simp only [Act.put, List.getElem_toArray, List.getElem_cons_zero, List.getElem_cons_succ, List.setIfInBounds_toArray, List.set_cons_zero, List.set_cons_succ]
        (refine wpAnyH_take (i := 9) (v := ?_) rfl (by kernel_rfl) (by kernel_rfl) (by kernel_rfl) (fun _ _ _ h => h) (Or.inl ⟨by rfl, ?_⟩) (by assumption) ?_; rotate_left 1; (focus (intro w hSw; (try dsimp only at hSw); go_simp; try (with_reducible rfl))))
        try simp only [Act.put, List.getElem_toArray, List.getElem_cons_zero, List.getElem_cons_succ, List.setIfInBounds_toArray, List.set_cons_zero, List.set_cons_succ]
        (refine wpAnyH_take (i := 10) (v := sliced (some ⟨b, o, none⟩) k l.length cap 1) rfl (by kernel_rfl) (by kernel_rfl) (by kernel_rfl) (fun _ _ _ h => h) (Or.inl ⟨by rfl, ?_⟩) (by assumption) ?_; (focus (intro w hSw; (try dsimp only at hSw); go_simp)))
        try simp only [Act.put, List.getElem_toArray, List.getElem_cons_zero, List.getElem_cons_succ, List.setIfInBounds_toArray, List.set_cons_zero, List.set_cons_succ]
        rw [hV] at hHeld ⊢
        clear hV
        generalize sliced (some ⟨b, o, none⟩) 0 k cap 1 = ST at hTk ⊢
        generalize sliced (some ⟨b, o, none⟩) k l.length cap 1 = SD at hDr ⊢
        refine wpAnyH_ready (rs := [0, 6]) (by kernel_rfl) (by simp) ?_
        refine AllReadyH.cons rfl (fun K hK => ?_) ?_
        · go_simp
          obtain ⟨W1, hN⟩ : ∃ X, V.alloc (.cells #[] 3) = X := ⟨_, rfl⟩
          have hz : Ext V W1 := by rw [← hN]; exact (by repeat (first | exact Ext.refl _ | assumption | refine Ext.alloc ?_ _ | refine Ext.drew ?_ | refine Ext.drewN _ ?_ | refine Ext.trans ?_ (by assumption)))
          have hr0 : RowI BS (.slice (some ⟨V.heap.size, 0, none⟩) 0 0) [] W1 := by rw [← hN]; exact rowI_lit0 V (by rw [HBS.out]; exact hx.size)
          rw [hN]
          replace hx := hx.trans hz
          obtain ⟨N0, hN0⟩ : ∃ N, V.heap.size = N := ⟨_, rfl⟩
          have hlt0 : N0 < W1.heap.size := by rw [← hN0, ← hN]; simp
          rw [hN0] at hr0 ⊢
          refine hK.out _ _ ?_ (fun hHeld => ?_)
          · exact hxV.trans hx
          clear hK K hN hz
          try simp only [Act.put, List.getElem_toArray, List.getElem_cons_zero, List.getElem_cons_succ, List.setIfInBounds_toArray, List.set_cons_zero, List.set_cons_succ]
          refine wpAnyH_ready (rs := [4, 6]) (by kernel_rfl) (by simp) ?_
          refine AllReadyH.cons rfl (fun K hK => ?_) ?_
          · rw [if_pos (by rfl)]
            obtain ⟨v1, W2, hrun, hr1, hg, _⟩ := run_append_ints W1 34 BS _ _ [] (l.take k) hr0 (hTk hx) (by rw [HBS.out]; exact hx.size) (by simp; omega)
            refine oper_append _ _ 34 rfl _ _ v1 W2 rfl rfl hrun ?_
            rw [List.nil_append] at hr1
            replace hx := ext_own hx hr0 (Nat.le_of_eq HBS.out.symm) hg
            refine hK.out _ _ ?_ (fun hHeld => ?_)
            · exact hxV.trans hx
            clear hK K hrun hg
            try simp only [Act.put, List.getElem_toArray, List.getElem_cons_zero, List.getElem_cons_succ, List.setIfInBounds_toArray, List.set_cons_zero, List.set_cons_succ]
            refine wpAnyH_ready (rs := [6]) (by kernel_rfl) (by simp) ?_
            refine AllReadyH.cons rfl (fun K hK => ?_) ?_
            · go_simp
              obtain ⟨W3, hN⟩ : ∃ X, W2.alloc (.cells #[.int .i64 n] 3) = X := ⟨_, rfl⟩
              have hz : Ext W2 W3 := by rw [← hN]; exact (by repeat (first | exact Ext.refl _ | assumption | refine Ext.alloc ?_ _ | refine Ext.drew ?_ | refine Ext.drewN _ ?_ | refine Ext.trans ?_ (by assumption)))
              have hb1 : IntsAt W3 (.slice (some ⟨W2.heap.size, 0, none⟩) 1 1) [n] := by rw [← hN]; exact ints_one _ _ _
              rw [hN]
              replace hr1 := rowI_ext hr1 hz
              replace hx := hx.trans hz
              obtain ⟨NB, hNB⟩ : ∃ N, W2.heap.size = N := ⟨_, rfl⟩
              have hltB : NB < W3.heap.size := by rw [← hNB, ← hN]; simp
              rw [hNB] at hb1 ⊢
              refine hK.out _ _ ?_ (fun hHeld => ?_)
              · exact hxV.trans hx
              clear hK K hN hz
              try simp only [Act.put, List.getElem_toArray, List.getElem_cons_zero, List.getElem_cons_succ, List.setIfInBounds_toArray, List.set_cons_zero, List.set_cons_succ]
              obtain ⟨v2, W4, hrun, hr2, hg, _⟩ := run_append_ints W3 34 BS _ _ (l.take k) [n] hr1 hb1 (by rw [HBS.out]; exact hx.size) (by simp; omega)
              refine wpAnyH_ready (rs := [7]) (by kernel_rfl) (by simp) ?_
              refine AllReadyH.cons rfl (fun K hK => ?_) AllReadyH.nil
              rw [if_pos (by rfl)]
              refine oper_append _ _ 34 rfl _ _ v2 W4 rfl rfl hrun ?_
              have hx2 : Ext V W4 := ext_own hx hr1 (Nat.le_of_eq HBS.out.symm) hg
              refine hK.out _ _ ?_ (fun hHeld => ?_)
              · exact hxV.trans hx2
              clear hK K hrun hg
              try simp only [Act.put, List.getElem_toArray, List.getElem_cons_zero, List.getElem_cons_succ, List.setIfInBounds_toArray, List.set_cons_zero, List.set_cons_succ]
              obtain ⟨v3, W5, hrun, hr3, hg, _⟩ := run_append_ints W4 34 BS _ _ (l.take k ++ [n]) (l.drop k) hr2 (hDr hx2) (by rw [HBS.out]; exact hx2.size) (by simp; omega)
              refine wpAnyH_ready (rs := [11]) (by kernel_rfl) (by simp) ?_
              refine AllReadyH.cons rfl (fun K hK => ?_) AllReadyH.nil
              rw [if_pos (by rfl)]
              refine oper_append _ _ 34 rfl _ _ v3 W5 rfl rfl hrun ?_
              have hx3 : Ext V W5 := ext_own hx2 hr2 (Nat.le_of_eq HBS.out.symm) hg
              refine hK.out _ _ ?_ (fun hHeld => ?_)
              · exact hxV.trans hx3
              clear hK K hrun hg
              try simp only [Act.put, List.getElem_toArray, List.getElem_cons_zero, List.getElem_cons_succ, List.setIfInBounds_toArray, List.set_cons_zero, List.set_cons_succ]
              (refine wpAnyH_take (i := 12) (v := ?_) rfl (by kernel_rfl) (by kernel_rfl) (by kernel_rfl) (fun _ _ _ h => h) (Or.inl ⟨by rfl, ?_⟩) (by assumption) ?_; rotate_left 1; (focus (intro w hSw; (try dsimp only at hSw); go_simp; try (with_reducible rfl))))
              try simp only [Act.put, List.getElem_toArray, List.getElem_cons_zero, List.getElem_cons_succ, List.setIfInBounds_toArray, List.set_cons_zero, List.set_cons_succ]
              refine wpAnyH_done (by kernel_rfl) ?_ _
              obtain ⟨W3, hW3⟩ : ∃ W, W5 = W := ⟨_, rfl⟩
              subst hW3
              go_wp2
              go_ret
              exact ⟨v3, rfl, by rw [← HP.out]; simpa [List.append_assoc] using rowI_base hr3 hbV, (hx0.trans hxV).trans hx3⟩
            exact AllReadyH.nil
          refine AllReadyH.cons rfl (fun K hK => ?_) ?_
          · go_simp
            obtain ⟨W2, hN⟩ : ∃ X, W1.alloc (.cells #[.int .i64 n] 3) = X := ⟨_, rfl⟩
            have hz : Ext W1 W2 := by rw [← hN]; exact (by repeat (first | exact Ext.refl _ | assumption | refine Ext.alloc ?_ _ | refine Ext.drew ?_ | refine Ext.drewN _ ?_ | refine Ext.trans ?_ (by assumption)))
            have hb1 : IntsAt W2 (.slice (some ⟨W1.heap.size, 0, none⟩) 1 1) [n] := by rw [← hN]; exact ints_one _ _ _
            rw [hN]
            replace hr0 := rowI_ext hr0 hz
            replace hx := hx.trans hz
            have hbne : some W1.heap.size ≠ (Value.slice (some ⟨N0, 0, none⟩) 0 0).ownBlock := fun e => by simp only [Value.ownBlock, Option.some.injEq] at e; omega
            obtain ⟨NB, hNB⟩ : ∃ N, W1.heap.size = N := ⟨_, rfl⟩
            have hltB : NB < W2.heap.size := by rw [← hNB, ← hN]; simp
            rw [hNB] at hb1 ⊢ hbne
            refine hK.out _ _ ?_ (fun hHeld => ?_)
            · exact hxV.trans hx
            clear hK K hN hz
            try simp only [Act.put, List.getElem_toArray, List.getElem_cons_zero, List.getElem_cons_succ, List.setIfInBounds_toArray, List.set_cons_zero, List.set_cons_succ]
            refine wpAnyH_ready (rs := [4]) (by kernel_rfl) (by simp) ?_
            refine AllReadyH.cons rfl (fun K hK => ?_) ?_
            · rw [if_pos (by rfl)]
              obtain ⟨v1, W3, hrun, hr1, hg, _⟩ := run_append_ints W2 34 BS _ _ [] (l.take k) hr0 (hTk hx) (by rw [HBS.out]; exact hx.size) (by simp; omega)
              refine oper_append _ _ 34 rfl _ _ v1 W3 rfl rfl hrun ?_
              rw [List.nil_append] at hr1
              replace hb1 := ints_off hb1 hg hbne
              replace hx := ext_own hx hr0 (Nat.le_of_eq HBS.out.symm) hg
              refine hK.out _ _ ?_ (fun hHeld => ?_)
              · exact hxV.trans hx
              clear hK K hrun hg
              try simp only [Act.put, List.getElem_toArray, List.getElem_cons_zero, List.getElem_cons_succ, List.setIfInBounds_toArray, List.set_cons_zero, List.set_cons_succ]
              obtain ⟨v2, W4, hrun, hr2, hg, _⟩ := run_append_ints W3 34 BS _ _ (l.take k) [n] hr1 hb1 (by rw [HBS.out]; exact hx.size) (by simp; omega)
              refine wpAnyH_ready (rs := [7]) (by kernel_rfl) (by simp) ?_
              refine AllReadyH.cons rfl (fun K hK => ?_) AllReadyH.nil
              rw [if_pos (by rfl)]
              refine oper_append _ _ 34 rfl _ _ v2 W4 rfl rfl hrun ?_
              have hx2 : Ext V W4 := ext_own hx hr1 (Nat.le_of_eq HBS.out.symm) hg
              refine hK.out _ _ ?_ (fun hHeld => ?_)
              · exact hxV.trans hx2
              clear hK K hrun hg
              try simp only [Act.put, List.getElem_toArray, List.getElem_cons_zero, List.getElem_cons_succ, List.setIfInBounds_toArray, List.set_cons_zero, List.set_cons_succ]
              obtain ⟨v3, W5, hrun, hr3, hg, _⟩ := run_append_ints W4 34 BS _ _ (l.take k ++ [n]) (l.drop k) hr2 (hDr hx2) (by rw [HBS.out]; exact hx2.size) (by simp; omega)
              refine wpAnyH_ready (rs := [11]) (by kernel_rfl) (by simp) ?_
              refine AllReadyH.cons rfl (fun K hK => ?_) AllReadyH.nil
              rw [if_pos (by rfl)]
              refine oper_append _ _ 34 rfl _ _ v3 W5 rfl rfl hrun ?_
              have hx3 : Ext V W5 := ext_own hx2 hr2 (Nat.le_of_eq HBS.out.symm) hg
              refine hK.out _ _ ?_ (fun hHeld => ?_)
              · exact hxV.trans hx3
              clear hK K hrun hg
              try simp only [Act.put, List.getElem_toArray, List.getElem_cons_zero, List.getElem_cons_succ, List.setIfInBounds_toArray, List.set_cons_zero, List.set_cons_succ]
              (refine wpAnyH_take (i := 12) (v := ?_) rfl (by kernel_rfl) (by kernel_rfl) (by kernel_rfl) (fun _ _ _ h => h) (Or.inl ⟨by rfl, ?_⟩) (by assumption) ?_; rotate_left 1; (focus (intro w hSw; (try dsimp only at hSw); go_simp; try (with_reducible rfl))))
              try simp only [Act.put, List.getElem_toArray, List.getElem_cons_zero, List.getElem_cons_succ, List.setIfInBounds_toArray, List.set_cons_zero, List.set_cons_succ]
              refine wpAnyH_done (by kernel_rfl) ?_ _
              obtain ⟨W3, hW3⟩ : ∃ W, W5 = W := ⟨_, rfl⟩
              subst hW3
              go_wp2
              go_ret
              exact ⟨v3, rfl, by rw [← HP.out]; simpa [List.append_assoc] using rowI_base hr3 hbV, (hx0.trans hxV).trans hx3⟩
            exact AllReadyH.nil
          exact AllReadyH.nil
        refine AllReadyH.cons rfl (fun K hK => ?_) ?_
        · go_simp
          obtain ⟨W1, hN⟩ : ∃ X, V.alloc (.cells #[.int .i64 n] 3) = X := ⟨_, rfl⟩
          have hz : Ext V W1 := by rw [← hN]; exact (by repeat (first | exact Ext.refl _ | assumption | refine Ext.alloc ?_ _ | refine Ext.drew ?_ | refine Ext.drewN _ ?_ | refine Ext.trans ?_ (by assumption)))
          have hb1 : IntsAt W1 (.slice (some ⟨V.heap.size, 0, none⟩) 1 1) [n] := by rw [← hN]; exact ints_one _ _ _
          rw [hN]
          replace hx := hx.trans hz
          obtain ⟨NB, hNB⟩ : ∃ N, V.heap.size = N := ⟨_, rfl⟩
          have hltB : NB < W1.heap.size := by rw [← hNB, ← hN]; simp
          rw [hNB] at hb1 ⊢
          refine hK.out _ _ ?_ (fun hHeld => ?_)
          · exact hxV.trans hx
          clear hK K hN hz
          try simp only [Act.put, List.getElem_toArray, List.getElem_cons_zero, List.getElem_cons_succ, List.setIfInBounds_toArray, List.set_cons_zero, List.set_cons_succ]
          refine wpAnyH_ready (rs := [0]) (by kernel_rfl) (by simp) ?_
          refine AllReadyH.cons rfl (fun K hK => ?_) ?_
          · go_simp
            obtain ⟨W2, hN⟩ : ∃ X, W1.alloc (.cells #[] 3) = X := ⟨_, rfl⟩
            have hz : Ext W1 W2 := by rw [← hN]; exact (by repeat (first | exact Ext.refl _ | assumption | refine Ext.alloc ?_ _ | refine Ext.drew ?_ | refine Ext.drewN _ ?_ | refine Ext.trans ?_ (by assumption)))
            have hr0 : RowI BS (.slice (some ⟨W1.heap.size, 0, none⟩) 0 0) [] W2 := by rw [← hN]; exact rowI_lit0 W1 (by rw [HBS.out]; exact hx.size)
            rw [hN]
            replace hb1 := hb1.ext hz
            replace hx := hx.trans hz
            have hbne : some NB ≠ (Value.slice (some ⟨W1.heap.size, 0, none⟩) 0 0).ownBlock := fun e => by simp only [Value.ownBlock, Option.some.injEq] at e; omega
            obtain ⟨N0, hN0⟩ : ∃ N, W1.heap.size = N := ⟨_, rfl⟩
            have hlt0 : N0 < W2.heap.size := by rw [← hN0, ← hN]; simp
            rw [hN0] at hr0 ⊢ hbne
            refine hK.out _ _ ?_ (fun hHeld => ?_)
            · exact hxV.trans hx
            clear hK K hN hz
            try simp only [Act.put, List.getElem_toArray, List.getElem_cons_zero, List.getElem_cons_succ, List.setIfInBounds_toArray, List.set_cons_zero, List.set_cons_succ]
            refine wpAnyH_ready (rs := [4]) (by kernel_rfl) (by simp) ?_
            refine AllReadyH.cons rfl (fun K hK => ?_) ?_
            · rw [if_pos (by rfl)]
              obtain ⟨v1, W3, hrun, hr1, hg, _⟩ := run_append_ints W2 34 BS _ _ [] (l.take k) hr0 (hTk hx) (by rw [HBS.out]; exact hx.size) (by simp; omega)
              refine oper_append _ _ 34 rfl _ _ v1 W3 rfl rfl hrun ?_
              rw [List.nil_append] at hr1
              replace hb1 := ints_off hb1 hg hbne
              replace hx := ext_own hx hr0 (Nat.le_of_eq HBS.out.symm) hg
              refine hK.out _ _ ?_ (fun hHeld => ?_)
              · exact hxV.trans hx
              clear hK K hrun hg
              try simp only [Act.put, List.getElem_toArray, List.getElem_cons_zero, List.getElem_cons_succ, List.setIfInBounds_toArray, List.set_cons_zero, List.set_cons_succ]
              obtain ⟨v2, W4, hrun, hr2, hg, _⟩ := run_append_ints W3 34 BS _ _ (l.take k) [n] hr1 hb1 (by rw [HBS.out]; exact hx.size) (by simp; omega)
              refine wpAnyH_ready (rs := [7]) (by kernel_rfl) (by simp) ?_
              refine AllReadyH.cons rfl (fun K hK => ?_) AllReadyH.nil
              rw [if_pos (by rfl)]
              refine oper_append _ _ 34 rfl _ _ v2 W4 rfl rfl hrun ?_
              have hx2 : Ext V W4 := ext_own hx hr1 (Nat.le_of_eq HBS.out.symm) hg
              refine hK.out _ _ ?_ (fun hHeld => ?_)
              · exact hxV.trans hx2
              clear hK K hrun hg
              try simp only [Act.put, List.getElem_toArray, List.getElem_cons_zero, List.getElem_cons_succ, List.setIfInBounds_toArray, List.set_cons_zero, List.set_cons_succ]
              obtain ⟨v3, W5, hrun, hr3, hg, _⟩ := run_append_ints W4 34 BS _ _ (l.take k ++ [n]) (l.drop k) hr2 (hDr hx2) (by rw [HBS.out]; exact hx2.size) (by simp; omega)
              refine wpAnyH_ready (rs := [11]) (by kernel_rfl) (by simp) ?_
              refine AllReadyH.cons rfl (fun K hK => ?_) AllReadyH.nil
              rw [if_pos (by rfl)]
              refine oper_append _ _ 34 rfl _ _ v3 W5 rfl rfl hrun ?_
              have hx3 : Ext V W5 := ext_own hx2 hr2 (Nat.le_of_eq HBS.out.symm) hg
              refine hK.out _ _ ?_ (fun hHeld => ?_)
              · exact hxV.trans hx3
              clear hK K hrun hg
              try simp only [Act.put, List.getElem_toArray, List.getElem_cons_zero, List.getElem_cons_succ, List.setIfInBounds_toArray, List.set_cons_zero, List.set_cons_succ]
              (refine wpAnyH_take (i := 12) (v := ?_) rfl (by kernel_rfl) (by kernel_rfl) (by kernel_rfl) (fun _ _ _ h => h) (Or.inl ⟨by rfl, ?_⟩) (by assumption) ?_; rotate_left 1; (focus (intro w hSw; (try dsimp only at hSw); go_simp; try (with_reducible rfl))))
              try simp only [Act.put, List.getElem_toArray, List.getElem_cons_zero, List.getElem_cons_succ, List.setIfInBounds_toArray, List.set_cons_zero, List.set_cons_succ]
              refine wpAnyH_done (by kernel_rfl) ?_ _
              obtain ⟨W3, hW3⟩ : ∃ W, W5 = W := ⟨_, rfl⟩
              subst hW3
              go_wp2
              go_ret
              exact ⟨v3, rfl, by rw [← HP.out]; simpa [List.append_assoc] using rowI_base hr3 hbV, (hx0.trans hxV).trans hx3⟩
            exact AllReadyH.nil
          exact AllReadyH.nil
        exact AllReadyH.nil
    · obtain rfl : k = l.length := by omega
      have HP := fin (fun h => absurd h hlt)
      clear fin HK
      go_upto_region 4 with fail
      obtain ⟨V, hV⟩ : ∃ V, wr.drew = V := ⟨_, rfl⟩
      have hxV : Ext wr V := by rw [← hV]; exact (by repeat (first | exact Ext.refl _ | assumption | refine Ext.alloc ?_ _ | refine Ext.drew ?_ | refine Ext.drewN _ ?_ | refine Ext.trans ?_ (by assumption)))
      have hbV : w.heap.size ≤ V.heap.size := Nat.le_trans hx0.size hxV.size
      have hTk : ∀ {W}, Ext V W → IntsAt W (sliced ao 0 l.length cap 1) (l.take l.length) := fun h => (hl.ext ((hx0.trans hxV).trans h)).slicedT l.length hk
      have hDr : ∀ {W}, Ext V W → IntsAt W (sliced ao l.length l.length cap 1) (l.drop l.length) := fun h => (hl.ext ((hx0.trans hxV).trans h)).slicedD l.length hk
      have hx : Ext V V := Ext.refl _
      obtain ⟨BS, hBS⟩ : ∃ B, B = V.heap.size := ⟨_, rfl⟩
      have HBS := Lib.hid hBS
      rw [← hBS] at hbV
      clear hBS
      refine wp_region_held_drew (S := fun W' => Ext wr W') (by kernel_rfl) ?_ (fun hHeld => ?_)
      · exact Ext.drew (Ext.refl _)
      (refine wpAnyH_take (i := 1) (v := ?_) rfl (by kernel_rfl) (by kernel_rfl) (by kernel_rfl) (fun _ _ _ h => h) (Or.inl ⟨by rfl, ?_⟩) (by assumption) ?_; rotate_left 1; (focus (intro w hSw; (try dsimp only at hSw); go_simp; try (with_reducible rfl))))
      try simp only [Act.put, List.getElem_toArray, List.setIfInBounds_toArray]
      (refine wpAnyH_take (i := 2) (v := ?_) rfl (by kernel_rfl) (by kernel_rfl) (by kernel_rfl) (fun _ _ _ h => h) (Or.inl ⟨by rfl, ?_⟩) (by assumption) ?_; rotate_left 1; (focus (intro w hSw; (try dsimp only at hSw); go_simp; try (with_reducible rfl))))
      try simp only [Act.put, List.getElem_toArray, List.getElem_cons_zero, List.getElem_cons_succ, List.setIfInBounds_toArray, List.set_cons_zero, List.set_cons_succ]
      (refine wpAnyH_take (i := 3) (v := sliced ao 0 l.length cap 1) rfl (by kernel_rfl) (by kernel_rfl) (by kernel_rfl) (fun _ _ _ h => h) (Or.inl ⟨by rfl, ?_⟩) (by assumption) ?_; (focus (intro w hSw; (try dsimp only at hSw); go_simp)))
      try simp only [Act.put, List.getElem_toArray, List.getElem_cons_zero, List.getElem_cons_succ, List.setIfInBounds_toArray, List.set_cons_zero, List.set_cons_succ]
      (refine wpAnyH_take (i := 5) (v := ?_) rfl (by kernel_rfl) (by kernel_rfl) (by kernel_rfl) (fun _ _ _ h => h) (Or.inl ⟨by rfl, ?_⟩) (by assumption) ?_; rotate_left 1; (focus (intro w hSw; (try dsimp only at hSw); go_simp; try (with_reducible rfl))))
      try simp only [Act.put, List.getElem_toArray, List.getElem_cons_zero, List.getElem_cons_succ, List.setIfInBounds_toArray, List.set_cons_zero, List.set_cons_succ]
      (refine wpAnyH_take (i := 8) (v := ?_) rfl (by kernel_rfl) (by kernel_rfl) (by kernel_rfl) (fun _ _ _ h => h) (Or.inl ⟨by rfl, ?_⟩) (by assumption) ?_; rotate_left 1; (focus (intro w hSw; (try dsimp only at hSw); go_simp; try (with_reducible rfl))))
      try simp only [Act.put, List.getElem_toArray, List.getElem_cons_zero, List.getElem_cons_succ, List.setIfInBounds_toArray, List.set_cons_zero, List.set_cons_succ]
      (refine wpAnyH_take (i := 9) (v := ?_) rfl (by kernel_rfl) (by kernel_rfl) (by kernel_rfl) (fun _ _ _ h => h) (Or.inl ⟨by rfl, ?_⟩) (by assumption) ?_; rotate_left 1; (focus (intro w hSw; (try dsimp only at hSw); go_simp; try (with_reducible rfl))))
      try simp only [Act.put, List.getElem_toArray, List.getElem_cons_zero, List.getElem_cons_succ, List.setIfInBounds_toArray, List.set_cons_zero, List.set_cons_succ]
      (refine wpAnyH_take (i := 10) (v := sliced ao l.length l.length cap 1) rfl (by kernel_rfl) (by kernel_rfl) (by kernel_rfl) (fun _ _ _ h => h) (Or.inl ⟨by rfl, ?_⟩) (by assumption) ?_; (focus (intro w hSw; (try dsimp only at hSw); go_simp)))
      try simp only [Act.put, List.getElem_toArray, List.getElem_cons_zero, List.getElem_cons_succ, List.setIfInBounds_toArray, List.set_cons_zero, List.set_cons_succ]
      rw [hV] at hHeld ⊢
      clear hV
      generalize sliced ao 0 l.length cap 1 = ST at hTk ⊢
      generalize sliced ao l.length l.length cap 1 = SD at hDr ⊢
      refine wpAnyH_ready (rs := [0, 6]) (by kernel_rfl) (by simp) ?_
      refine AllReadyH.cons rfl (fun K hK => ?_) ?_
      · go_simp
        obtain ⟨W1, hN⟩ : ∃ X, V.alloc (.cells #[] 3) = X := ⟨_, rfl⟩
        have hz : Ext V W1 := by rw [← hN]; exact (by repeat (first | exact Ext.refl _ | assumption | refine Ext.alloc ?_ _ | refine Ext.drew ?_ | refine Ext.drewN _ ?_ | refine Ext.trans ?_ (by assumption)))
        have hr0 : RowI BS (.slice (some ⟨V.heap.size, 0, none⟩) 0 0) [] W1 := by rw [← hN]; exact rowI_lit0 V (by rw [HBS.out]; exact hx.size)
        rw [hN]
        replace hx := hx.trans hz
        obtain ⟨N0, hN0⟩ : ∃ N, V.heap.size = N := ⟨_, rfl⟩
        have hlt0 : N0 < W1.heap.size := by rw [← hN0, ← hN]; simp
        rw [hN0] at hr0 ⊢
        refine hK.out _ _ ?_ (fun hHeld => ?_)
        · exact hxV.trans hx
        clear hK K hN hz
        try simp only [Act.put, List.getElem_toArray, List.getElem_cons_zero, List.getElem_cons_succ, List.setIfInBounds_toArray, List.set_cons_zero, List.set_cons_succ]
        refine wpAnyH_ready (rs := [4, 6]) (by kernel_rfl) (by simp) ?_
        refine AllReadyH.cons rfl (fun K hK => ?_) ?_
        · rw [if_pos (by rfl)]
          obtain ⟨v1, W2, hrun, hr1, hg, _⟩ := run_append_ints W1 34 BS _ _ [] (l.take l.length) hr0 (hTk hx) (by rw [HBS.out]; exact hx.size) (by simp; omega)
          refine oper_append _ _ 34 rfl _ _ v1 W2 rfl rfl hrun ?_
          rw [List.nil_append] at hr1
          replace hx := ext_own hx hr0 (Nat.le_of_eq HBS.out.symm) hg
          refine hK.out _ _ ?_ (fun hHeld => ?_)
          · exact hxV.trans hx
          clear hK K hrun hg
          try simp only [Act.put, List.getElem_toArray, List.getElem_cons_zero, List.getElem_cons_succ, List.setIfInBounds_toArray, List.set_cons_zero, List.set_cons_succ]
          refine wpAnyH_ready (rs := [6]) (by kernel_rfl) (by simp) ?_
          refine AllReadyH.cons rfl (fun K hK => ?_) ?_
          · go_simp
            obtain ⟨W3, hN⟩ : ∃ X, W2.alloc (.cells #[.int .i64 n] 3) = X := ⟨_, rfl⟩
            have hz : Ext W2 W3 := by rw [← hN]; exact (by repeat (first | exact Ext.refl _ | assumption | refine Ext.alloc ?_ _ | refine Ext.drew ?_ | refine Ext.drewN _ ?_ | refine Ext.trans ?_ (by assumption)))
            have hb1 : IntsAt W3 (.slice (some ⟨W2.heap.size, 0, none⟩) 1 1) [n] := by rw [← hN]; exact ints_one _ _ _
            rw [hN]
            replace hr1 := rowI_ext hr1 hz
            replace hx := hx.trans hz
            obtain ⟨NB, hNB⟩ : ∃ N, W2.heap.size = N := ⟨_, rfl⟩
            have hltB : NB < W3.heap.size := by rw [← hNB, ← hN]; simp
            rw [hNB] at hb1 ⊢
            refine hK.out _ _ ?_ (fun hHeld => ?_)
            · exact hxV.trans hx
            clear hK K hN hz
            try simp only [Act.put, List.getElem_toArray, List.getElem_cons_zero, List.getElem_cons_succ, List.setIfInBounds_toArray, List.set_cons_zero, List.set_cons_succ]
            obtain ⟨v2, W4, hrun, hr2, hg, _⟩ := run_append_ints W3 34 BS _ _ (l.take l.length) [n] hr1 hb1 (by rw [HBS.out]; exact hx.size) (by simp; omega)
            refine wpAnyH_ready (rs := [7]) (by kernel_rfl) (by simp) ?_
            refine AllReadyH.cons rfl (fun K hK => ?_) AllReadyH.nil
            rw [if_pos (by rfl)]
            refine oper_append _ _ 34 rfl _ _ v2 W4 rfl rfl hrun ?_
            have hx2 : Ext V W4 := ext_own hx hr1 (Nat.le_of_eq HBS.out.symm) hg
            refine hK.out _ _ ?_ (fun hHeld => ?_)
            · exact hxV.trans hx2
            clear hK K hrun hg
            try simp only [Act.put, List.getElem_toArray, List.getElem_cons_zero, List.getElem_cons_succ, List.setIfInBounds_toArray, List.set_cons_zero, List.set_cons_succ]
            obtain ⟨v3, W5, hrun, hr3, hg, _⟩ := run_append_ints W4 34 BS _ _ (l.take l.length ++ [n]) (l.drop l.length) hr2 (hDr hx2) (by rw [HBS.out]; exact hx2.size) (by simp; omega)
            refine wpAnyH_ready (rs := [11]) (by kernel_rfl) (by simp) ?_
            refine AllReadyH.cons rfl (fun K hK => ?_) AllReadyH.nil
            rw [if_pos (by rfl)]
            refine oper_append _ _ 34 rfl _ _ v3 W5 rfl rfl hrun ?_
            have hx3 : Ext V W5 := ext_own hx2 hr2 (Nat.le_of_eq HBS.out.symm) hg
            refine hK.out _ _ ?_ (fun hHeld => ?_)
            · exact hxV.trans hx3
            clear hK K hrun hg
            try simp only [Act.put, List.getElem_toArray, List.getElem_cons_zero, List.getElem_cons_succ, List.setIfInBounds_toArray, List.set_cons_zero, List.set_cons_succ]
            (refine wpAnyH_take (i := 12) (v := ?_) rfl (by kernel_rfl) (by kernel_rfl) (by kernel_rfl) (fun _ _ _ h => h) (Or.inl ⟨by rfl, ?_⟩) (by assumption) ?_; rotate_left 1; (focus (intro w hSw; (try dsimp only at hSw); go_simp; try (with_reducible rfl))))
            try simp only [Act.put, List.getElem_toArray, List.getElem_cons_zero, List.getElem_cons_succ, List.setIfInBounds_toArray, List.set_cons_zero, List.set_cons_succ]
            refine wpAnyH_done (by kernel_rfl) ?_ _
            obtain ⟨W3, hW3⟩ : ∃ W, W5 = W := ⟨_, rfl⟩
            subst hW3
            go_wp2
            go_ret
            exact ⟨v3, rfl, by rw [← HP.out]; simpa [List.append_assoc] using rowI_base hr3 hbV, (hx0.trans hxV).trans hx3⟩
          exact AllReadyH.nil
        refine AllReadyH.cons rfl (fun K hK => ?_) ?_
        · go_simp
          obtain ⟨W2, hN⟩ : ∃ X, W1.alloc (.cells #[.int .i64 n] 3) = X := ⟨_, rfl⟩
          have hz : Ext W1 W2 := by rw [← hN]; exact (by repeat (first | exact Ext.refl _ | assumption | refine Ext.alloc ?_ _ | refine Ext.drew ?_ | refine Ext.drewN _ ?_ | refine Ext.trans ?_ (by assumption)))
          have hb1 : IntsAt W2 (.slice (some ⟨W1.heap.size, 0, none⟩) 1 1) [n] := by rw [← hN]; exact ints_one _ _ _
          rw [hN]
          replace hr0 := rowI_ext hr0 hz
          replace hx := hx.trans hz
          have hbne : some W1.heap.size ≠ (Value.slice (some ⟨N0, 0, none⟩) 0 0).ownBlock := fun e => by simp only [Value.ownBlock, Option.some.injEq] at e; omega
          obtain ⟨NB, hNB⟩ : ∃ N, W1.heap.size = N := ⟨_, rfl⟩
          have hltB : NB < W2.heap.size := by rw [← hNB, ← hN]; simp
          rw [hNB] at hb1 ⊢ hbne
          refine hK.out _ _ ?_ (fun hHeld => ?_)
          · exact hxV.trans hx
          clear hK K hN hz
          try simp only [Act.put, List.getElem_toArray, List.getElem_cons_zero, List.getElem_cons_succ, List.setIfInBounds_toArray, List.set_cons_zero, List.set_cons_succ]
          refine wpAnyH_ready (rs := [4]) (by kernel_rfl) (by simp) ?_
          refine AllReadyH.cons rfl (fun K hK => ?_) ?_
          · rw [if_pos (by rfl)]
            obtain ⟨v1, W3, hrun, hr1, hg, _⟩ := run_append_ints W2 34 BS _ _ [] (l.take l.length) hr0 (hTk hx) (by rw [HBS.out]; exact hx.size) (by simp; omega)
            refine oper_append _ _ 34 rfl _ _ v1 W3 rfl rfl hrun ?_
            rw [List.nil_append] at hr1
            replace hb1 := ints_off hb1 hg hbne
            replace hx := ext_own hx hr0 (Nat.le_of_eq HBS.out.symm) hg
            refine hK.out _ _ ?_ (fun hHeld => ?_)
            · exact hxV.trans hx
            clear hK K hrun hg
            try simp only [Act.put, List.getElem_toArray, List.getElem_cons_zero, List.getElem_cons_succ, List.setIfInBounds_toArray, List.set_cons_zero, List.set_cons_succ]
            obtain ⟨v2, W4, hrun, hr2, hg, _⟩ := run_append_ints W3 34 BS _ _ (l.take l.length) [n] hr1 hb1 (by rw [HBS.out]; exact hx.size) (by simp; omega)
            refine wpAnyH_ready (rs := [7]) (by kernel_rfl) (by simp) ?_
            refine AllReadyH.cons rfl (fun K hK => ?_) AllReadyH.nil
            rw [if_pos (by rfl)]
            refine oper_append _ _ 34 rfl _ _ v2 W4 rfl rfl hrun ?_
            have hx2 : Ext V W4 := ext_own hx hr1 (Nat.le_of_eq HBS.out.symm) hg
            refine hK.out _ _ ?_ (fun hHeld => ?_)
            · exact hxV.trans hx2
            clear hK K hrun hg
            try simp only [Act.put, List.getElem_toArray, List.getElem_cons_zero, List.getElem_cons_succ, List.setIfInBounds_toArray, List.set_cons_zero, List.set_cons_succ]
            obtain ⟨v3, W5, hrun, hr3, hg, _⟩ := run_append_ints W4 34 BS _ _ (l.take l.length ++ [n]) (l.drop l.length) hr2 (hDr hx2) (by rw [HBS.out]; exact hx2.size) (by simp; omega)
            refine wpAnyH_ready (rs := [11]) (by kernel_rfl) (by simp) ?_
            refine AllReadyH.cons rfl (fun K hK => ?_) AllReadyH.nil
            rw [if_pos (by rfl)]
            refine oper_append _ _ 34 rfl _ _ v3 W5 rfl rfl hrun ?_
            have hx3 : Ext V W5 := ext_own hx2 hr2 (Nat.le_of_eq HBS.out.symm) hg
            refine hK.out _ _ ?_ (fun hHeld => ?_)
            · exact hxV.trans hx3
            clear hK K hrun hg
            try simp only [Act.put, List.getElem_toArray, List.getElem_cons_zero, List.getElem_cons_succ, List.setIfInBounds_toArray, List.set_cons_zero, List.set_cons_succ]
            (refine wpAnyH_take (i := 12) (v := ?_) rfl (by kernel_rfl) (by kernel_rfl) (by kernel_rfl) (fun _ _ _ h => h) (Or.inl ⟨by rfl, ?_⟩) (by assumption) ?_; rotate_left 1; (focus (intro w hSw; (try dsimp only at hSw); go_simp; try (with_reducible rfl))))
            try simp only [Act.put, List.getElem_toArray, List.getElem_cons_zero, List.getElem_cons_succ, List.setIfInBounds_toArray, List.set_cons_zero, List.set_cons_succ]
            refine wpAnyH_done (by kernel_rfl) ?_ _
            obtain ⟨W3, hW3⟩ : ∃ W, W5 = W := ⟨_, rfl⟩
            subst hW3
            go_wp2
            go_ret
            exact ⟨v3, rfl, by rw [← HP.out]; simpa [List.append_assoc] using rowI_base hr3 hbV, (hx0.trans hxV).trans hx3⟩
          exact AllReadyH.nil
        exact AllReadyH.nil
      refine AllReadyH.cons rfl (fun K hK => ?_) ?_
      · go_simp
        obtain ⟨W1, hN⟩ : ∃ X, V.alloc (.cells #[.int .i64 n] 3) = X := ⟨_, rfl⟩
        have hz : Ext V W1 := by rw [← hN]; exact (by repeat (first | exact Ext.refl _ | assumption | refine Ext.alloc ?_ _ | refine Ext.drew ?_ | refine Ext.drewN _ ?_ | refine Ext.trans ?_ (by assumption)))
        have hb1 : IntsAt W1 (.slice (some ⟨V.heap.size, 0, none⟩) 1 1) [n] := by rw [← hN]; exact ints_one _ _ _
        rw [hN]
        replace hx := hx.trans hz
        obtain ⟨NB, hNB⟩ : ∃ N, V.heap.size = N := ⟨_, rfl⟩
        have hltB : NB < W1.heap.size := by rw [← hNB, ← hN]; simp
        rw [hNB] at hb1 ⊢
        refine hK.out _ _ ?_ (fun hHeld => ?_)
        · exact hxV.trans hx
        clear hK K hN hz
        try simp only [Act.put, List.getElem_toArray, List.getElem_cons_zero, List.getElem_cons_succ, List.setIfInBounds_toArray, List.set_cons_zero, List.set_cons_succ]
        refine wpAnyH_ready (rs := [0]) (by kernel_rfl) (by simp) ?_
        refine AllReadyH.cons rfl (fun K hK => ?_) ?_
        · go_simp
          obtain ⟨W2, hN⟩ : ∃ X, W1.alloc (.cells #[] 3) = X := ⟨_, rfl⟩
          have hz : Ext W1 W2 := by rw [← hN]; exact (by repeat (first | exact Ext.refl _ | assumption | refine Ext.alloc ?_ _ | refine Ext.drew ?_ | refine Ext.drewN _ ?_ | refine Ext.trans ?_ (by assumption)))
          have hr0 : RowI BS (.slice (some ⟨W1.heap.size, 0, none⟩) 0 0) [] W2 := by rw [← hN]; exact rowI_lit0 W1 (by rw [HBS.out]; exact hx.size)
          rw [hN]
          replace hb1 := hb1.ext hz
          replace hx := hx.trans hz
          have hbne : some NB ≠ (Value.slice (some ⟨W1.heap.size, 0, none⟩) 0 0).ownBlock := fun e => by simp only [Value.ownBlock, Option.some.injEq] at e; omega
          obtain ⟨N0, hN0⟩ : ∃ N, W1.heap.size = N := ⟨_, rfl⟩
          have hlt0 : N0 < W2.heap.size := by rw [← hN0, ← hN]; simp
          rw [hN0] at hr0 ⊢ hbne
          refine hK.out _ _ ?_ (fun hHeld => ?_)
          · exact hxV.trans hx
          clear hK K hN hz
          try simp only [Act.put, List.getElem_toArray, List.getElem_cons_zero, List.getElem_cons_succ, List.setIfInBounds_toArray, List.set_cons_zero, List.set_cons_succ]
          refine wpAnyH_ready (rs := [4]) (by kernel_rfl) (by simp) ?_
          refine AllReadyH.cons rfl (fun K hK => ?_) ?_
          · rw [if_pos (by rfl)]
            obtain ⟨v1, W3, hrun, hr1, hg, _⟩ := run_append_ints W2 34 BS _ _ [] (l.take l.length) hr0 (hTk hx) (by rw [HBS.out]; exact hx.size) (by simp; omega)
            refine oper_append _ _ 34 rfl _ _ v1 W3 rfl rfl hrun ?_
            rw [List.nil_append] at hr1
            replace hb1 := ints_off hb1 hg hbne
            replace hx := ext_own hx hr0 (Nat.le_of_eq HBS.out.symm) hg
            refine hK.out _ _ ?_ (fun hHeld => ?_)
            · exact hxV.trans hx
            clear hK K hrun hg
            try simp only [Act.put, List.getElem_toArray, List.getElem_cons_zero, List.getElem_cons_succ, List.setIfInBounds_toArray, List.set_cons_zero, List.set_cons_succ]
            obtain ⟨v2, W4, hrun, hr2, hg, _⟩ := run_append_ints W3 34 BS _ _ (l.take l.length) [n] hr1 hb1 (by rw [HBS.out]; exact hx.size) (by simp; omega)
            refine wpAnyH_ready (rs := [7]) (by kernel_rfl) (by simp) ?_
            refine AllReadyH.cons rfl (fun K hK => ?_) AllReadyH.nil
            rw [if_pos (by rfl)]
            refine oper_append _ _ 34 rfl _ _ v2 W4 rfl rfl hrun ?_
            have hx2 : Ext V W4 := ext_own hx hr1 (Nat.le_of_eq HBS.out.symm) hg
            refine hK.out _ _ ?_ (fun hHeld => ?_)
            · exact hxV.trans hx2
            clear hK K hrun hg
            try simp only [Act.put, List.getElem_toArray, List.getElem_cons_zero, List.getElem_cons_succ, List.setIfInBounds_toArray, List.set_cons_zero, List.set_cons_succ]
            obtain ⟨v3, W5, hrun, hr3, hg, _⟩ := run_append_ints W4 34 BS _ _ (l.take l.length ++ [n]) (l.drop l.length) hr2 (hDr hx2) (by rw [HBS.out]; exact hx2.size) (by simp; omega)
            refine wpAnyH_ready (rs := [11]) (by kernel_rfl) (by simp) ?_
            refine AllReadyH.cons rfl (fun K hK => ?_) AllReadyH.nil
            rw [if_pos (by rfl)]
            refine oper_append _ _ 34 rfl _ _ v3 W5 rfl rfl hrun ?_
            have hx3 : Ext V W5 := ext_own hx2 hr2 (Nat.le_of_eq HBS.out.symm) hg
            refine hK.out _ _ ?_ (fun hHeld => ?_)
            · exact hxV.trans hx3
            clear hK K hrun hg
            try simp only [Act.put, List.getElem_toArray, List.getElem_cons_zero, List.getElem_cons_succ, List.setIfInBounds_toArray, List.set_cons_zero, List.set_cons_succ]
            (refine wpAnyH_take (i := 12) (v := ?_) rfl (by kernel_rfl) (by kernel_rfl) (by kernel_rfl) (fun _ _ _ h => h) (Or.inl ⟨by rfl, ?_⟩) (by assumption) ?_; rotate_left 1; (focus (intro w hSw; (try dsimp only at hSw); go_simp; try (with_reducible rfl))))
            try simp only [Act.put, List.getElem_toArray, List.getElem_cons_zero, List.getElem_cons_succ, List.setIfInBounds_toArray, List.set_cons_zero, List.set_cons_succ]
            refine wpAnyH_done (by kernel_rfl) ?_ _
            obtain ⟨W3, hW3⟩ : ∃ W, W5 = W := ⟨_, rfl⟩
            subst hW3
            go_wp2
            go_ret
            exact ⟨v3, rfl, by rw [← HP.out]; simpa [List.append_assoc] using rowI_base hr3 hbV, (hx0.trans hxV).trans hx3⟩
          exact AllReadyH.nil
        exact AllReadyH.nil
      exact AllReadyH.nil
end Go.Proofs.Ythopgonbndoidaa

