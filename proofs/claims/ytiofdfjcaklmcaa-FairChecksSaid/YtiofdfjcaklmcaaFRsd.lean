/- The specification's sorted, ladder, compare, CheckGiven, Counts, Compare. -/
import Derived.Test.YtiofdfjcaklmcaaFRck
import Derived.Test.YtiofdfjcaklmcaaFRsh
import Derived.Test.YtiofdfjcaklmcaaFRis
import Derived.Test.YtiofdfjcaklmcaaFCmp
namespace Go.Proofs.Ytiofdfjcaklmcaa
open Go.RowKit Go.Shelf

theorem ints_take {W : World} {A : Option Addr} {n c : Nat} {l : List Int} (h : IntsAt W (.slice A n c) l) {k : Nat} (hk : k ≤ l.length) : IntsAt W (.slice A k c) (l.take k) := by
  obtain ⟨ao, c', hv, hc, hi⟩ := h
  simp only [Value.slice.injEq] at hv
  obtain ⟨rfl, rfl, rfl⟩ := hv
  have hl : (l.take k).length = k := by rw [List.length_take]; omega
  refine ⟨A, c, by rw [hl], by omega, fun i h => ?_⟩
  obtain ⟨b, o, h1, h2⟩ := hi i (by omega)
  exact ⟨b, o, h1, by rw [List.getElem_take]; exact h2⟩
theorem ints_drop {W : World} {b o n c : Nat} {l : List Int} (h : IntsAt W (.slice (some ⟨b, o, none⟩) n c) l) {k : Nat} (hk : k ≤ l.length) : IntsAt W (.slice (some ⟨b, o + k, none⟩) (n - k) (c - k)) (l.drop k) := by
  obtain ⟨ao, c', hv, hc, hi⟩ := h
  simp only [Value.slice.injEq] at hv
  obtain ⟨rfl, rfl, rfl⟩ := hv
  have hl : (l.drop k).length = l.length - k := List.length_drop
  refine ⟨_, _, by rw [hl], by omega, fun i h => ?_⟩
  obtain ⟨b', o', h1, h2⟩ := hi (k + i) (by omega)
  simp only [Option.some.injEq, Addr.mk.injEq, and_true] at h1
  obtain ⟨rfl, rfl⟩ := h1
  exact ⟨_, _, rfl, by rw [List.getElem_drop, show o + k + i = o + (k + i) by omega]; exact h2⟩
/-- what goes before a place, and what behind -/
theorem ins_ok {l O : List Int} {i k : Nat} {x : Int} (hi : i < l.length) (hx : l[i] = x) (hp : O.Perm (l.take i)) (hs : O.Pairwise (· ≤ ·)) (hk : k ≤ O.length)
    (h1 : 0 < k → O.getD (k - 1) 0 ≤ x) (h2 : ∀ j, k ≤ j → j < O.length → x < O.getD j 0) : (O.take k ++ [x] ++ O.drop k).Perm (l.take (i + 1)) ∧ (O.take k ++ [x] ++ O.drop k).Pairwise (· ≤ ·) := by
  have hg : ∀ j (h : j < O.length), O.getD j 0 = O[j] := fun j h => by rw [List.getD_eq_getElem?_getD, List.getElem?_eq_getElem h]; rfl
  have hpw := List.pairwise_iff_getElem.1 hs
  constructor
  · rw [List.take_succ_eq_append_getElem hi, hx]
    refine List.Perm.trans ?_ (List.Perm.append_right [x] hp)
    have : (O.take k ++ [x] ++ O.drop k).Perm (O.take k ++ (O.drop k ++ [x])) := by
      rw [List.append_assoc]
      exact List.Perm.append_left _ List.perm_append_comm
    refine this.trans ?_
    rw [← List.append_assoc, List.take_append_drop]
  · rw [List.append_assoc, List.pairwise_append]
    have hle : ∀ a ∈ O.take k, a ≤ x := fun a ha => by
      obtain ⟨j, hj, rfl⟩ := List.getElem_of_mem ha
      rw [List.length_take] at hj
      rw [List.getElem_take]
      have hk1 := h1 (by omega)
      rw [hg _ (by omega)] at hk1
      by_cases e : j = k - 1
      · subst e; exact hk1
      · exact Int.le_trans (hpw j (k - 1) (by omega) (by omega) (by omega)) hk1
    have hge : ∀ a ∈ O.drop k, x < a := fun a ha => by
      obtain ⟨j, hj, rfl⟩ := List.getElem_of_mem ha
      rw [List.length_drop] at hj
      rw [List.getElem_drop]
      have := h2 (k + j) (by omega) (by omega)
      rw [hg _ (by omega)] at this
      exact this
    refine ⟨hs.sublist (List.take_sublist _ _), ?_, fun a ha b hb => ?_⟩
    · rw [List.singleton_append, List.pairwise_cons]
      exact ⟨fun a ha => Int.le_of_lt (hge a ha), hs.sublist (List.drop_sublist _ _)⟩
    · have h3 := hle a ha
      rw [List.singleton_append, List.mem_cons] at hb
      rcases hb with rfl | hb
      · exact h3
      · have := hge b hb; omega
theorem sorted_end {l O : List Int} (hp : O.Perm l) (hs : O.Pairwise (· ≤ ·)) : srtI l = O :=
  invO_end hp (fun p q h1 h2 => by
    have := List.pairwise_iff_getElem.1 hs p q (by omega) h2 h1
    rw [List.getD_eq_getElem?_getD, List.getD_eq_getElem?_getD, List.getElem?_eq_getElem h2, List.getElem?_eq_getElem (by omega)]
    exact this)
set_option maxRecDepth 100000 in
set_option maxHeartbeats 8000000 in
theorem refSorted_any (v : Value) (l : List Int) (w : World) (hl : IntsAt w v l) (hn : l.length ≤ 1000) :
    Calls Try.prog 121 #[v] w fun e w' => ∃ u, e = .returned u ∧ IntsAt w' u (srtI l) ∧ Ext w w' := by
  obtain ⟨lA, lc, rfl, _⟩ := hl.len
  go_enter Try.func121, Try.ntmps121
  go_wp2_with fail
  go_loopw [4, 3] (fun iv ov wr => ∃ (i : Nat) (O : List Int) (A : Option Addr) (c : Nat), iv = .int .i64 i ∧ ov = .slice A i c ∧ Hid (O.Perm (l.take i) ∧ O.Pairwise (· ≤ ·)) ∧ Hid (IntsAt wr (.slice A i c) O) ∧ Hid (i ≤ l.length ∧ ((A = none ∧ i = 0 ∧ c = 0) ∨ ∃ g, A = some ⟨g, 0, none⟩ ∧ 0 < i ∧ i ≤ c)) ∧ Ext w wr) (fun i _ _ => l.length - (intOf i).toNat)
  case atStart => exact ⟨0, [], none, 0, rfl, rfl, Lib.hid ⟨by simp, by simp⟩, Lib.hid (intsAt_nil _), Lib.hid ⟨by omega, .inl ⟨rfl, rfl, rfl⟩⟩, Ext.refl _⟩
  case round =>
    obtain ⟨i, O, A, uc, rfl, rfl, HP, HO, HA, hx⟩ := hrel
    obtain ⟨wo, hwo⟩ : ∃ W, W = wr := ⟨_, rfl⟩
    subst hwo
    by_cases hlt : i < l.length
    · obtain ⟨b9, o9, rfl, cx⟩ := (hl.ext hx).get i hlt
      have hOl : O.length = i := by rw [HP.out.1.length_eq, List.length_take]; omega
      obtain ⟨x, hxx⟩ : ∃ x, l[i] = x := ⟨_, rfl⟩
      rw [hxx] at cx
      have HXX := Lib.hid hxx
      have HOL := Lib.hid hOl
      have hii : (i : Int) < l.length := by omega
      have hi1 : i < 1000 := by omega
      clear hxx hOl
      rcases HA.out.2 with ⟨rfl, rfl, rfl⟩ | ⟨gb, rfl, hi0, hic⟩
      · have hO0 : O = [] := List.eq_nil_of_length_eq_zero HOL.out
        subst hO0
        have HIN : Hid ((([] : List Int).take 0 ++ [x] ++ ([] : List Int).drop 0).Perm (l.take (0 + 1)) ∧ (([] : List Int).take 0 ++ [x] ++ ([] : List Int).drop 0).Pairwise (· ≤ ·)) := Lib.hid (ins_ok hlt HXX.out HP.out.1 HP.out.2 (Nat.le_refl _) (fun h => by omega) (fun j _ h => by simp at h))
        rw [show ((0 : Nat) : Int) = 0 from rfl] at *
        rw [Nat.add_zero] at cx
        go_wp2_with fail
        go_loopw [5] (fun kv w5 => kv = .int .i64 0 ∧ Ext wo w5) (fun k _ => 0)
        case atStart => exact ⟨rfl, Ext.refl _⟩
        case round =>
          obtain ⟨rfl, hx5⟩ := hrel
          go_upto_region 6 with fail
          refine wp_region_held_drew (S := fun W' => Ext wr W') (by kernel_rfl) ?_ (fun hHeld => ?_)
          · exact Ext.drew (Ext.refl _)
          obtain ⟨V0, hV0⟩ : ∃ V, World.drew wr = V := ⟨_, rfl⟩
          rw [hV0] at hHeld ⊢
          clear hV0
          (refine tkH (i := 0) (v := ?_) rfl ?_ ?_; rotate_left 1; (focus (intro w hSw; (try dsimp only at hSw); go_simp; try (with_reducible rfl))))
          try simp only [Act.put, xA1, xA2, xA4, xA5, xA6]
          (refine tkH (i := 1) (v := ?_) rfl ?_ ?_; rotate_left 1; (focus (intro w hSw; (try dsimp only at hSw); go_simp; try (with_reducible rfl))))
          try simp only [Act.put, xA1, xA2, xA3, xA4, xA5, xA6]
          (refine tkH (i := 2) (v := ?_) rfl ?_ ?_; rotate_left 1; (focus (intro w hSw; (try dsimp only at hSw); go_simp; try (with_reducible rfl))))
          try simp only [Act.put, xA1, xA2, xA3, xA4, xA5, xA6]
          (refine skH (i := 3) rfl ?_)
          try simp only [Act.put, xA1, xA2, xA3, xA4, xA5, xA6]
          (refine skH (i := 4) rfl ?_)
          try simp only [Act.put, xA1, xA2, xA3, xA4, xA5, xA6]
          (refine skH (i := 5) rfl ?_)
          try simp only [Act.put, xA1, xA2, xA3, xA4, xA5, xA6]
          (refine skH (i := 6) rfl ?_)
          try simp only [Act.put, xA1, xA2, xA3, xA4, xA5, xA6]
          (refine skH (i := 7) rfl ?_)
          try simp only [Act.put, xA1, xA2, xA3, xA4, xA5, xA6]
          (refine skH (i := 8) rfl ?_)
          try simp only [Act.put, xA1, xA2, xA3, xA4, xA5, xA6]
          (refine skH (i := 9) rfl ?_)
          try simp only [Act.put, xA1, xA2, xA3, xA4, xA5, xA6]
          (refine skH (i := 10) rfl ?_)
          try simp only [Act.put, xA1, xA2, xA3, xA4, xA5, xA6]
          (refine skH (i := 11) rfl ?_)
          try simp only [Act.put, xA1, xA2, xA3, xA4, xA5, xA6]
          (refine skH (i := 12) rfl ?_)
          try simp only [Act.put, xA1, xA2, xA3, xA4, xA5, xA6]
          (refine tkH (i := 13) (v := ?_) rfl ?_ ?_; rotate_left 1; (focus (intro w hSw; (try dsimp only at hSw); go_simp; try (with_reducible rfl))))
          try simp only [Act.put, xA1, xA2, xA3, xA4, xA5, xA6]
          refine wpAnyH_done (by kernel_rfl) ?_ _
          have hzz := hHeld
          obtain ⟨W5, hW5⟩ : ∃ W, V0 = W := ⟨_, rfl⟩
          rw [hW5] at hzz ⊢
          clear hHeld hW5
          replace cx := (hx5.trans hzz).cell cx
          have HTK : Hid (IntsAt W5 (.slice none 0 0) (([] : List Int).take 0)) := Lib.hid (intsAt_nil _)
          have HDR : Hid (IntsAt W5 (.slice none 0 0) (([] : List Int).drop 0)) := Lib.hid (intsAt_nil _)
          go_upto_region 9 with (at_builtin; refine append_ints rfl _ _ rfl W5.heap.size _ _ [] (([] : List Int).take 0) rfl (rowI_lit0 W5 (Nat.le_refl _)) rfl (HTK.out.ext (by repeat (first | exact Ext.refl _ | assumption | refine Ext.alloc ?_ _ | refine Ext.drew ?_ | refine Ext.drewN _ ?_ | refine Ext.trans ?_ (by assumption)))) (by simp) (by first | (simp; done) | (simp; omega)) ?_; intro v1 w3 hr3 hg3 _)
          rw [List.nil_append] at hr3
          have hx3 : Ext W5 w3 := ext_own (by repeat (first | exact Ext.refl _ | assumption | refine Ext.alloc ?_ _ | refine Ext.drew ?_ | refine Ext.drewN _ ?_ | refine Ext.trans ?_ (by assumption))) (rowI_lit0 W5 (Nat.le_refl _)) (Nat.le_refl _) hg3
          replace cx := hx3.cell cx
          clear hg3
          obtain ⟨A1, c1, rfl⟩ := hr3.form
          have hs3 : W5.heap.size ≤ w3.heap.size := hx3.size
          have HR3 := Lib.hid hr3
          clear hr3
          go_upto_region 10 with (at_builtin; refine append_ints rfl _ _ rfl W5.heap.size _ _ (([] : List Int).take 0) [x] rfl (rowI_ext HR3.out (by repeat (first | exact Ext.refl _ | assumption | refine Ext.alloc ?_ _ | refine Ext.drew ?_ | refine Ext.drewN _ ?_ | refine Ext.trans ?_ (by assumption)))) rfl (ints_oneAt _ _ _ rfl) (by first | (simp; done) | (simp; omega)) (by first | (simp; done) | (simp; omega)) ?_; intro v2 w6 hr6 hg6 _)
          have hx6 : Ext W5 w6 := ext_own (Ext.trans hx3 (by repeat (first | exact Ext.refl _ | assumption | refine Ext.alloc ?_ _ | refine Ext.drew ?_ | refine Ext.drewN _ ?_ | refine Ext.trans ?_ (by assumption)))) (rowI_ext HR3.out (W' := w3.alloc (.cells #[.int .i64 x] 3)) (by repeat (first | exact Ext.refl _ | assumption | refine Ext.alloc ?_ _ | refine Ext.drew ?_ | refine Ext.drewN _ ?_ | refine Ext.trans ?_ (by assumption)))) (Nat.le_refl _) hg6
          clear hg6
          obtain ⟨A2, c2, rfl⟩ := hr6.form
          have hs6 : W5.heap.size ≤ w6.heap.size := hx6.size
          have HR6 := Lib.hid hr6
          clear hr6
          go_wp2_with (at_builtin; refine append_ints rfl _ _ rfl W5.heap.size _ _ (([] : List Int).take 0 ++ [x]) (([] : List Int).drop 0) rfl HR6.out rfl (HDR.out.ext hx6) hs6 (by first | (simp; done) | (simp; omega)) ?_; intro v3 w7 hr7 hg7 _)
          have hx7 : Ext W5 w7 := ext_own hx6 HR6.out (Nat.le_refl _) hg7
          have hl7 : (([] : List Int).take 0 ++ [x] ++ ([] : List Int).drop 0).length = 0 + 1 := by rw [HIN.out.1.length_eq, List.length_take]; omega
          obtain ⟨g7, c7, cs7, hv7, _, _⟩ := rowI_cls hr7 (by omega)
          rw [hl7] at hv7
          subst hv7
          have hA7 := hr7.at_
          go_roundw
          case rel => exact ⟨0 + 1, _, _, _, by go_num, rfl, HIN, Lib.hid hA7, Lib.hid ⟨by omega, .inr ⟨_, rfl, by omega, by obtain ⟨_, _, h1, h2⟩ := hA7.len; rw [hl7] at h1 h2; simp only [Value.slice.injEq] at h1; omega⟩⟩, (hx.trans (hx5.trans hzz)).trans hx7⟩
          case measure => simp [intOf]; omega
      · have HOG := fun j (h : j < O.length) => (show O.getD j 0 = O[j] by rw [List.getD_eq_getElem?_getD, List.getElem?_eq_getElem h]; rfl)
        have HOG2 := Lib.hid HOG
        clear HOG HA
        go_wp2_with fail
        go_loopw [5] (fun kv w5 => ∃ k : Nat, k ≤ i ∧ kv = .int .i64 k ∧ Hid (∀ j, k ≤ j → j < O.length → x < O.getD j 0) ∧ Ext wo w5) (fun k _ => (intOf k).toNat)
        case atStart => exact ⟨i, Nat.le_refl _, rfl, Lib.hid (fun j h1 h2 => by have := HOL.out; omega), Ext.refl _⟩
        case round =>
          obtain ⟨K, hKi, rfl, HK, hx5⟩ := hrel
          by_cases hK0 : K = 0
          · subst hK0
            rw [show ((0 : Nat) : Int) = 0 from rfl]
            have HIN : Hid ((O.take 0 ++ [x] ++ O.drop 0).Perm (l.take (i + 1)) ∧ (O.take 0 ++ [x] ++ O.drop 0).Pairwise (· ≤ ·)) := Lib.hid (ins_ok hlt HXX.out HP.out.1 HP.out.2 (by omega) (fun h => by omega) HK.out)
            go_upto_region 6 with fail
            refine wp_region_held_drew (S := fun W' => Ext wr W') (by kernel_rfl) ?_ (fun hHeld => ?_)
            · exact Ext.drew (Ext.refl _)
            obtain ⟨V0, hV0⟩ : ∃ V, World.drew wr = V := ⟨_, rfl⟩
            rw [hV0] at hHeld ⊢
            clear hV0
            (refine tkH (i := 0) (v := ?_) rfl ?_ ?_; rotate_left 1; (focus (intro w hSw; (try dsimp only at hSw); go_simp; try (with_reducible rfl))))
            try simp only [Act.put, xA1, xA2, xA4, xA5, xA6]
            (refine tkH (i := 1) (v := ?_) rfl ?_ ?_; rotate_left 1; (focus (intro w hSw; (try dsimp only at hSw); go_simp; try (with_reducible rfl))))
            try simp only [Act.put, xA1, xA2, xA3, xA4, xA5, xA6]
            (refine tkH (i := 2) (v := ?_) rfl ?_ ?_; rotate_left 1; (focus (intro w hSw; (try dsimp only at hSw); go_simp; try (with_reducible rfl))))
            try simp only [Act.put, xA1, xA2, xA3, xA4, xA5, xA6]
            (refine skH (i := 3) rfl ?_)
            try simp only [Act.put, xA1, xA2, xA3, xA4, xA5, xA6]
            (refine skH (i := 4) rfl ?_)
            try simp only [Act.put, xA1, xA2, xA3, xA4, xA5, xA6]
            (refine skH (i := 5) rfl ?_)
            try simp only [Act.put, xA1, xA2, xA3, xA4, xA5, xA6]
            (refine skH (i := 6) rfl ?_)
            try simp only [Act.put, xA1, xA2, xA3, xA4, xA5, xA6]
            (refine skH (i := 7) rfl ?_)
            try simp only [Act.put, xA1, xA2, xA3, xA4, xA5, xA6]
            (refine skH (i := 8) rfl ?_)
            try simp only [Act.put, xA1, xA2, xA3, xA4, xA5, xA6]
            (refine skH (i := 9) rfl ?_)
            try simp only [Act.put, xA1, xA2, xA3, xA4, xA5, xA6]
            (refine skH (i := 10) rfl ?_)
            try simp only [Act.put, xA1, xA2, xA3, xA4, xA5, xA6]
            (refine skH (i := 11) rfl ?_)
            try simp only [Act.put, xA1, xA2, xA3, xA4, xA5, xA6]
            (refine skH (i := 12) rfl ?_)
            try simp only [Act.put, xA1, xA2, xA3, xA4, xA5, xA6]
            (refine tkH (i := 13) (v := ?_) rfl ?_ ?_; rotate_left 1; (focus (intro w hSw; (try dsimp only at hSw); go_simp; try (with_reducible rfl))))
            try simp only [Act.put, xA1, xA2, xA3, xA4, xA5, xA6]
            refine wpAnyH_done (by kernel_rfl) ?_ _
            have hzz := hHeld
            obtain ⟨W5, hW5⟩ : ∃ W, V0 = W := ⟨_, rfl⟩
            rw [hW5] at hzz ⊢
            clear hHeld hW5
            replace cx := (hx5.trans hzz).cell cx
            have hO5 := HO.out.ext (hx5.trans hzz)
            have HTK : Hid (IntsAt W5 (.slice (some ⟨gb, 0, none⟩) 0 uc) (O.take 0)) := Lib.hid (ints_take hO5 (by omega))
            have HDR : Hid (IntsAt W5 (.slice (some ⟨gb, 0, none⟩) i uc) (O.drop 0)) := Lib.hid hO5
            have hc0 : ¬ uc = 0 := by omega
            have hc1 : 0 < uc := by omega
            have hOl := HOL.out
            have hlt0 : O.length ≤ 1000 := by omega
            clear hOl
            go_upto_region 9 with (at_builtin; refine append_ints rfl _ _ rfl W5.heap.size _ _ [] (O.take 0) rfl (rowI_lit0 W5 (Nat.le_refl _)) rfl (HTK.out.ext (by repeat (first | exact Ext.refl _ | assumption | refine Ext.alloc ?_ _ | refine Ext.drew ?_ | refine Ext.drewN _ ?_ | refine Ext.trans ?_ (by assumption)))) (by simp) (by first | (simp; done) | (simp; omega)) ?_; intro v1 w3 hr3 hg3 _)
            rw [List.nil_append] at hr3
            have hx3 : Ext W5 w3 := ext_own (by repeat (first | exact Ext.refl _ | assumption | refine Ext.alloc ?_ _ | refine Ext.drew ?_ | refine Ext.drewN _ ?_ | refine Ext.trans ?_ (by assumption))) (rowI_lit0 W5 (Nat.le_refl _)) (Nat.le_refl _) hg3
            replace cx := hx3.cell cx
            clear hg3
            obtain ⟨A1, c1, rfl⟩ := hr3.form
            have hs3 : W5.heap.size ≤ w3.heap.size := hx3.size
            have HR3 := Lib.hid hr3
            clear hr3
            go_upto_region 10 with (at_builtin; refine append_ints rfl _ _ rfl W5.heap.size _ _ (O.take 0) [x] rfl (rowI_ext HR3.out (by repeat (first | exact Ext.refl _ | assumption | refine Ext.alloc ?_ _ | refine Ext.drew ?_ | refine Ext.drewN _ ?_ | refine Ext.trans ?_ (by assumption)))) rfl (ints_oneAt _ _ _ rfl) (by first | (simp; done) | (simp; omega)) (by first | (simp; done) | (simp; omega)) ?_; intro v2 w6 hr6 hg6 _)
            have hx6 : Ext W5 w6 := ext_own (Ext.trans hx3 (by repeat (first | exact Ext.refl _ | assumption | refine Ext.alloc ?_ _ | refine Ext.drew ?_ | refine Ext.drewN _ ?_ | refine Ext.trans ?_ (by assumption)))) (rowI_ext HR3.out (W' := w3.alloc (.cells #[.int .i64 x] 3)) (by repeat (first | exact Ext.refl _ | assumption | refine Ext.alloc ?_ _ | refine Ext.drew ?_ | refine Ext.drewN _ ?_ | refine Ext.trans ?_ (by assumption)))) (Nat.le_refl _) hg6
            clear hg6
            obtain ⟨A2, c2, rfl⟩ := hr6.form
            have hs6 : W5.heap.size ≤ w6.heap.size := hx6.size
            have HR6 := Lib.hid hr6
            clear hr6
            go_wp2_with (at_builtin; refine append_ints rfl _ _ rfl W5.heap.size _ _ (O.take 0 ++ [x]) (O.drop 0) rfl HR6.out rfl (HDR.out.ext hx6) hs6 (by first | (simp; done) | (simp; omega)) ?_; intro v3 w7 hr7 hg7 _)
            have hx7 : Ext W5 w7 := ext_own hx6 HR6.out (Nat.le_refl _) hg7
            have hl7 : (O.take 0 ++ [x] ++ O.drop 0).length = i + 1 := by rw [HIN.out.1.length_eq, List.length_take]; omega
            obtain ⟨g7, c7, cs7, hv7, _, _⟩ := rowI_cls hr7 (by omega)
            rw [hl7] at hv7
            subst hv7
            have hA7 := hr7.at_
            go_roundw
            case rel => exact ⟨i + 1, _, _, _, by go_num, rfl, HIN, Lib.hid hA7, Lib.hid ⟨by omega, .inr ⟨_, rfl, by omega, by obtain ⟨_, _, h1, h2⟩ := hA7.len; rw [hl7] at h1 h2; simp only [Value.slice.injEq] at h1; omega⟩⟩, (hx.trans (hx5.trans hzz)).trans hx7⟩
            case measure => simp [intOf]; omega
          · obtain ⟨j, rfl⟩ : ∃ j, K = j + 1 := ⟨K - 1, by omega⟩
            have hjl : j < O.length := by have := HOL.out; omega
            obtain ⟨b8, o8, he8, cy⟩ := (HO.out.ext hx5).get j hjl
            simp only [Option.some.injEq, Addr.mk.injEq, and_true] at he8
            obtain ⟨rfl, rfl⟩ := he8
            rw [Nat.zero_add] at cy
            obtain ⟨y, hyy⟩ : ∃ y, O[j] = y := ⟨_, rfl⟩
            have hyg : O.getD j 0 = y := by rw [HOG2.out j hjl, hyy]
            rw [hyy] at cy
            have hins := fun (h : y ≤ x) => ins_ok (k := j + 1) hlt HXX.out HP.out.1 HP.out.2 (by omega) (fun _ => by rw [show j + 1 - 1 = j by omega, hyg]; exact h) HK.out
            have hnx : x < y → ∀ q, j ≤ q → q < O.length → x < O.getD q 0 := fun h q h1 h2 => by
              by_cases e : q = j
              · rw [e, hyg]; exact h
              · exact HK.out q (by omega) h2
            obtain ⟨K, hK⟩ : ∃ K, j + 1 = K := ⟨_, rfl⟩
            rw [hK] at hKi ⊢
            simp only [hK] at hins
            have hKj : IntKind.i64.wrap ((K : Int) - 1) = (j : Int) := by rw [IntWalk.i64_in _ (by omega)]; omega
            have hJ0 : decide ((K : Int) > 0) = true := decide_eq_true (by omega)
            have hJ1 : decide (0 < K) = true := decide_eq_true (by omega)
            have hJ2 : decide (0 < (K : Int)) = true := decide_eq_true (by omega)
            have hJ3 : 0 < K := by omega
            have hji : (j : Int) < i := by omega
            have HKK := Lib.hid hK
            have HINS := Lib.hid hins
            have HNX := Lib.hid hnx
            have hcx := cx
            replace cx := hx5.cell cx
            clear hins hnx hK hyy hyg HK hcx
            go_upto_region 6 with fail
            refine wp_region_held_drew (S := fun W' => W'.cell? ⟨gb, j, none⟩ = some (.int .i64 y) ∧ W'.cell? ⟨b9, o9 + i, none⟩ = some (.int .i64 x) ∧ Ext wr W') (by kernel_rfl) ?_ (fun hHeld => ?_)
            · exact ⟨cy, cx, Ext.drew (Ext.refl _)⟩
            obtain ⟨V0, hV0⟩ : ∃ V, World.drew wr = V := ⟨_, rfl⟩
            rw [hV0] at hHeld ⊢
            clear hV0
            (refine tkH (i := 0) (v := ?_) rfl ?_ ?_; rotate_left 1; (focus (intro w hSw; (try dsimp only at hSw); go_simp; try (with_reducible rfl))))
            try simp only [Act.put, xA1, xA2, xA4, xA5, xA6]
            (refine tkH (i := 1) (v := ?_) rfl ?_ ?_; rotate_left 1; (focus (intro w hSw; (try dsimp only at hSw); go_simp; try (with_reducible rfl))))
            try simp only [Act.put, xA1, xA2, xA3, xA4, xA5, xA6]
            (refine tkH (i := 2) (v := ?_) rfl ?_ ?_; rotate_left 1; (focus (intro w hSw; (try dsimp only at hSw); go_simp; try (with_reducible rfl))))
            try simp only [Act.put, xA1, xA2, xA3, xA4, xA5, xA6]
            (refine tkH (i := 3) (v := ?_) rfl ?_ ?_; rotate_left 1; (focus (intro w hSw; (try dsimp only at hSw); go_simp; try (with_reducible rfl))))
            try simp only [Act.put, xA1, xA2, xA3, xA4, xA5, xA6]
            (refine tkH (i := 4) (v := ?_) rfl ?_ ?_; rotate_left 1; (focus (intro w hSw; (try dsimp only at hSw); go_simp; try (with_reducible rfl))))
            try simp only [Act.put, xA1, xA2, xA3, xA4, xA5, xA6]
            (refine tkH (i := 5) (v := ?_) rfl ?_ ?_; rotate_left 1; (focus (intro w hSw; (try dsimp only at hSw); go_simp; try (with_reducible rfl))))
            try simp only [Act.put, xA1, xA2, xA3, xA4, xA5, xA6]
            (refine tkH (i := 6) (v := ?_) rfl ?_ ?_; rotate_left 1; (focus (intro w hSw; (try dsimp only at hSw); go_simp; try (with_reducible rfl))))
            try simp only [Act.put, xA1, xA2, xA3, xA4, xA5, xA6]
            (refine tkH (i := 7) (v := ?_) rfl ?_ ?_; rotate_left 1; (focus (intro w hSw; (try dsimp only at hSw); go_simp; try (with_reducible rfl))))
            try simp only [Act.put, xA1, xA2, xA3, xA4, xA5, xA6]
            (refine tkH (i := 8) (v := ?_) rfl ?_ ?_; rotate_left 1; (focus (intro w hSw; (try dsimp only at hSw); go_simp; try (with_reducible rfl))))
            try simp only [Act.put, xA1, xA2, xA3, xA4, xA5, xA6]
            (refine tkH (i := 9) (v := ?_) rfl ?_ ?_; rotate_left 1; (focus (intro w hSw; (try dsimp only at hSw); go_simp; try (with_reducible rfl))))
            try simp only [Act.put, xA1, xA2, xA3, xA4, xA5, xA6]
            (refine tkH (i := 10) (v := ?_) rfl ?_ ?_; rotate_left 1; (focus (intro w hSw; (try dsimp only at hSw); go_simp; try (with_reducible rfl))))
            try simp only [Act.put, xA1, xA2, xA3, xA4, xA5, xA6]
            (refine tkH (i := 11) (v := ?_) rfl ?_ ?_; rotate_left 1; (focus (intro w hSw; (try dsimp only at hSw); go_simp; try (with_reducible rfl))))
            try simp only [Act.put, xA1, xA2, xA3, xA4, xA5, xA6]
            (refine tkH (i := 12) (v := ?_) rfl ?_ ?_; rotate_left 1; (focus (intro w hSw; (try dsimp only at hSw); go_simp; try (with_reducible rfl))))
            try simp only [Act.put, xA1, xA2, xA3, xA4, xA5, xA6]
            (refine tkH (i := 13) (v := ?_) rfl ?_ ?_; rotate_left 1; (focus (intro w hSw; (try dsimp only at hSw); go_simp; try (with_reducible rfl))))
            try simp only [Act.put, xA1, xA2, xA3, xA4, xA5, xA6]
            refine wpAnyH_done (by kernel_rfl) ?_ _
            have hzz := hHeld.2.2
            obtain ⟨W5, hW5⟩ : ∃ W, V0 = W := ⟨_, rfl⟩
            rw [hW5] at hzz ⊢
            clear hHeld hW5
            replace cx := hzz.cell cx
            have hO5 := HO.out.ext (hx5.trans hzz)
            by_cases hyx : x < y
            · have hg1 : decide (y > x) = true := decide_eq_true hyx
              have hg2 : decide (x < y) = true := decide_eq_true hyx
              have HN := Lib.hid (HNX.out hyx)
              go_wp2_with fail
              go_roundw
              case rel => exact ⟨j, by omega, by go_num, HN, hx5.trans hzz⟩
              case measure => have := HKK.out; simp [intOf]; omega
            · have hg1 : decide (y > x) = false := decide_eq_false hyx
              have hg2 : decide (x < y) = false := decide_eq_false hyx
              have HIN := Lib.hid (HINS.out (by omega))
              have HTK : Hid (IntsAt W5 (.slice (some ⟨gb, 0, none⟩) K uc) (O.take K)) := Lib.hid (ints_take hO5 (by have := HOL.out; omega))
              have hlt0 : O.length ≤ 1000 := by have := HOL.out; omega
              have hkc : K ≤ uc := by omega
              by_cases hcu : uc = K
              · subst hcu
                have hiK : i = uc := by omega
                subst hiK
                have HDR : Hid (IntsAt W5 (.slice (some ⟨gb, 0, none⟩) 0 0) (O.drop i)) := Lib.hid (by rw [List.drop_of_length_le (by have := HOL.out; omega)]; exact ⟨_, 0, rfl, by simp, fun q h => by simp at h⟩)
                go_upto_region 9 with (at_builtin; refine append_ints rfl _ _ rfl W5.heap.size _ _ [] (O.take i) rfl (rowI_lit0 W5 (Nat.le_refl _)) rfl (HTK.out.ext (by repeat (first | exact Ext.refl _ | assumption | refine Ext.alloc ?_ _ | refine Ext.drew ?_ | refine Ext.drewN _ ?_ | refine Ext.trans ?_ (by assumption)))) (by simp) (by first | (simp; done) | (simp; omega)) ?_; intro v1 w3 hr3 hg3 _)
                rw [List.nil_append] at hr3
                have hx3 : Ext W5 w3 := ext_own (by repeat (first | exact Ext.refl _ | assumption | refine Ext.alloc ?_ _ | refine Ext.drew ?_ | refine Ext.drewN _ ?_ | refine Ext.trans ?_ (by assumption))) (rowI_lit0 W5 (Nat.le_refl _)) (Nat.le_refl _) hg3
                replace cx := hx3.cell cx
                clear hg3
                obtain ⟨A1, c1, rfl⟩ := hr3.form
                have hs3 : W5.heap.size ≤ w3.heap.size := hx3.size
                have HR3 := Lib.hid hr3
                clear hr3
                go_upto_region 10 with (at_builtin; refine append_ints rfl _ _ rfl W5.heap.size _ _ (O.take i) [x] rfl (rowI_ext HR3.out (by repeat (first | exact Ext.refl _ | assumption | refine Ext.alloc ?_ _ | refine Ext.drew ?_ | refine Ext.drewN _ ?_ | refine Ext.trans ?_ (by assumption)))) rfl (ints_oneAt _ _ _ rfl) (by first | (simp; done) | (simp; omega)) (by first | (simp; done) | (simp; omega)) ?_; intro v2 w6 hr6 hg6 _)
                have hx6 : Ext W5 w6 := ext_own (Ext.trans hx3 (by repeat (first | exact Ext.refl _ | assumption | refine Ext.alloc ?_ _ | refine Ext.drew ?_ | refine Ext.drewN _ ?_ | refine Ext.trans ?_ (by assumption)))) (rowI_ext HR3.out (W' := w3.alloc (.cells #[.int .i64 x] 3)) (by repeat (first | exact Ext.refl _ | assumption | refine Ext.alloc ?_ _ | refine Ext.drew ?_ | refine Ext.drewN _ ?_ | refine Ext.trans ?_ (by assumption)))) (Nat.le_refl _) hg6
                clear hg6
                obtain ⟨A2, c2, rfl⟩ := hr6.form
                have hs6 : W5.heap.size ≤ w6.heap.size := hx6.size
                have HR6 := Lib.hid hr6
                clear hr6
                go_wp2_with (at_builtin; refine append_ints rfl _ _ rfl W5.heap.size _ _ (O.take i ++ [x]) (O.drop i) rfl HR6.out rfl (HDR.out.ext hx6) hs6 (by first | (simp; done) | (simp; omega)) ?_; intro v3 w7 hr7 hg7 _)
                have hx7 : Ext W5 w7 := ext_own hx6 HR6.out (Nat.le_refl _) hg7
                have hl7 : (O.take i ++ [x] ++ O.drop i).length = i + 1 := by rw [HIN.out.1.length_eq, List.length_take]; omega
                obtain ⟨g7, c7, cs7, hv7, _, _⟩ := rowI_cls hr7 (by omega)
                rw [hl7] at hv7
                subst hv7
                have hA7 := hr7.at_
                go_roundw
                case rel => exact ⟨i + 1, _, _, _, by go_num, rfl, HIN, Lib.hid hA7, Lib.hid ⟨by omega, .inr ⟨_, rfl, by omega, by obtain ⟨_, _, h1, h2⟩ := hA7.len; rw [hl7] at h1 h2; simp only [Value.slice.injEq] at h1; omega⟩⟩, (hx.trans (hx5.trans hzz)).trans hx7⟩
                case measure => simp [intOf]; omega
              · have hc2 : ¬ uc - K = 0 := by omega
                have hc3 : ¬ uc ≤ K := by omega
                have hc4 : K < uc := by omega
                have hc5 : 0 < uc - K := by omega
                have HDR : Hid (IntsAt W5 (.slice (some ⟨gb, 0 + K, none⟩) (i - K) (uc - K)) (O.drop K)) := Lib.hid (ints_drop hO5 (by have := HOL.out; omega))
                rw [Nat.zero_add] at HDR
                go_upto_region 9 with (at_builtin; refine append_ints rfl _ _ rfl W5.heap.size _ _ [] (O.take K) rfl (rowI_lit0 W5 (Nat.le_refl _)) rfl (HTK.out.ext (by repeat (first | exact Ext.refl _ | assumption | refine Ext.alloc ?_ _ | refine Ext.drew ?_ | refine Ext.drewN _ ?_ | refine Ext.trans ?_ (by assumption)))) (by simp) (by first | (simp; done) | (simp; omega)) ?_; intro v1 w3 hr3 hg3 _)
                rw [List.nil_append] at hr3
                have hx3 : Ext W5 w3 := ext_own (by repeat (first | exact Ext.refl _ | assumption | refine Ext.alloc ?_ _ | refine Ext.drew ?_ | refine Ext.drewN _ ?_ | refine Ext.trans ?_ (by assumption))) (rowI_lit0 W5 (Nat.le_refl _)) (Nat.le_refl _) hg3
                replace cx := hx3.cell cx
                clear hg3
                obtain ⟨A1, c1, rfl⟩ := hr3.form
                have hs3 : W5.heap.size ≤ w3.heap.size := hx3.size
                have HR3 := Lib.hid hr3
                clear hr3
                go_upto_region 10 with (at_builtin; refine append_ints rfl _ _ rfl W5.heap.size _ _ (O.take K) [x] rfl (rowI_ext HR3.out (by repeat (first | exact Ext.refl _ | assumption | refine Ext.alloc ?_ _ | refine Ext.drew ?_ | refine Ext.drewN _ ?_ | refine Ext.trans ?_ (by assumption)))) rfl (ints_oneAt _ _ _ rfl) (by first | (simp; done) | (simp; omega)) (by first | (simp; done) | (simp; omega)) ?_; intro v2 w6 hr6 hg6 _)
                have hx6 : Ext W5 w6 := ext_own (Ext.trans hx3 (by repeat (first | exact Ext.refl _ | assumption | refine Ext.alloc ?_ _ | refine Ext.drew ?_ | refine Ext.drewN _ ?_ | refine Ext.trans ?_ (by assumption)))) (rowI_ext HR3.out (W' := w3.alloc (.cells #[.int .i64 x] 3)) (by repeat (first | exact Ext.refl _ | assumption | refine Ext.alloc ?_ _ | refine Ext.drew ?_ | refine Ext.drewN _ ?_ | refine Ext.trans ?_ (by assumption)))) (Nat.le_refl _) hg6
                clear hg6
                obtain ⟨A2, c2, rfl⟩ := hr6.form
                have hs6 : W5.heap.size ≤ w6.heap.size := hx6.size
                have HR6 := Lib.hid hr6
                clear hr6
                go_wp2_with (at_builtin; refine append_ints rfl _ _ rfl W5.heap.size _ _ (O.take K ++ [x]) (O.drop K) rfl HR6.out rfl (HDR.out.ext hx6) hs6 (by first | (simp; done) | (simp; omega)) ?_; intro v3 w7 hr7 hg7 _)
                have hx7 : Ext W5 w7 := ext_own hx6 HR6.out (Nat.le_refl _) hg7
                have hl7 : (O.take K ++ [x] ++ O.drop K).length = i + 1 := by rw [HIN.out.1.length_eq, List.length_take]; omega
                obtain ⟨g7, c7, cs7, hv7, _, _⟩ := rowI_cls hr7 (by omega)
                rw [hl7] at hv7
                subst hv7
                have hA7 := hr7.at_
                go_roundw
                case rel => exact ⟨i + 1, _, _, _, by go_num, rfl, HIN, Lib.hid hA7, Lib.hid ⟨by omega, .inr ⟨_, rfl, by omega, by obtain ⟨_, _, h1, h2⟩ := hA7.len; rw [hl7] at h1 h2; simp only [Value.slice.injEq] at h1; omega⟩⟩, (hx.trans (hx5.trans hzz)).trans hx7⟩
                case measure => simp [intOf]; omega
    · obtain rfl : i = l.length := by have := HA.out.1; omega
      have hii : ¬ ((l.length : Int) < l.length) := by omega
      have HE : Hid (srtI l = O) := Lib.hid (by have := sorted_end HP.out.1 HP.out.2; rw [List.take_length] at this; exact this)
      go_wp2_with fail
      go_ret
      exact ⟨_, rfl, by rw [HE.out]; exact HO.out, hx⟩
set_option maxRecDepth 100000 in
set_option maxHeartbeats 8000000 in
theorem refCheckGiven_any (a b v : Value) (P : Po) (g : List Int) (w : World) (hT : PoAt w a b P) (hg : IntsAt w v g) (hus : ∀ s ∈ P.ss, s.us.length ≤ 1000000) :
    Calls Try.prog 37 #[.agg #[a, b], v] w fun e w' => e = .returned (.int .i64 (cgE P g)) ∧ Ext w w' := by
  have hE : cgE P g = if chkE P = 0 then (if shrB P g = true then 0 else 1) else chkE P := rfl
  have hok := @chk_ok P
  have KS := fun (h : OkP P) W (x : Ext w W) => refSharing_any a b v P g h W (hT.ext x) (hg.ext x)
  have KC := fun W (x : Ext w W) => refCheck_any a b P W (hT.ext x) hus
  obtain ⟨E, hEE⟩ : ∃ E, cgE P g = E := ⟨_, rfl⟩
  obtain ⟨C, hC⟩ : ∃ E, chkE P = E := ⟨_, rfl⟩
  obtain ⟨S, hS⟩ : ∃ E, shrB P g = E := ⟨_, rfl⟩
  rw [hS] at KS
  rw [hC] at KC hok
  rw [hEE, hC, hS] at hE
  rw [hEE]
  have HE := Lib.hid hE
  have HKS := Lib.hid KS
  have HKC := Lib.hid KC
  clear hE hEE hC hS KS KC
  go_enter Try.func37, Try.ntmps37
  go_wp2_with fail
  refine (HKC.out _ (by repeat (first | exact Ext.refl _ | assumption | refine Ext.alloc ?_ _ | refine Ext.drew ?_ | refine Ext.drewN _ ?_ | refine Ext.trans ?_ (by assumption)))).mono ?_
  rintro e w1 ⟨rfl, hx1⟩
  obtain ⟨q, hx, hk0⟩ := alloc1 hx1
  have d0 : w1.cell? ⟨w.heap.size, 0, none⟩ = some a := q.cell 0
  have d1 : w1.cell? ⟨w.heap.size, 1, none⟩ = some b := q.cell 1
  clear hx1 hk0
  by_cases h0 : C = 0
  · have h2 := HE.out
    rw [if_pos h0] at h2
    have HE2 := Lib.hid h2
    have hb : (C != 0) = false := by simp [h0]
    have K2 := HKS.out (hok.1 h0)
    clear h2 h0
    go_wp2_with fail
    refine (K2 _ hx).mono ?_
    rintro e w2 ⟨rfl, hz⟩
    cases S
    · go_wp2_with fail
      go_ret
      exact ⟨by rw [HE2.out]; rfl, hx.trans hz⟩
    · go_wp2_with fail
      go_ret
      exact ⟨by rw [HE2.out]; rfl, hx.trans hz⟩
  · have h2 := HE.out
    rw [if_neg h0] at h2
    have HE2 := Lib.hid h2
    have hb : (C != 0) = true := by simp [h0]
    clear h2 h0
    go_wp2_with fail
    go_ret
    exact ⟨by rw [HE2.out]; rfl, hx⟩
set_option maxRecDepth 100000 in
set_option maxHeartbeats 8000000 in
theorem refCmp0_any (v u : Value) (l r : List Int) (w : World) (hl : IntsAt w v l) (hr : IntsAt w u r) (hn : l.length ≤ 1000000) (he : l.length = r.length) :
    Calls Try.prog 101 #[v, u] w fun e w' => e = .returned (.int .i64 (cmpL l r)) ∧ Ext w w' := by
  obtain ⟨A, c, rfl, _⟩ := hl.len
  obtain ⟨A2, c2, rfl, _⟩ := hr.len
  obtain ⟨C, hC⟩ : ∃ C, cmpL l r = C := ⟨_, rfl⟩
  have HC := Lib.hid hC
  obtain ⟨n, hln⟩ : ∃ n, l.length = n := ⟨_, rfl⟩
  have hrn : r.length = n := by omega
  rw [hC]
  rw [hln] at hn ⊢
  rw [hrn]
  have hl' : IntsAt w (.slice A n c) l := hln ▸ hl
  have hr' : IntsAt w (.slice A2 n c2) r := hrn ▸ hr
  have HL := Lib.hid hl'
  have HR := Lib.hid hr'
  have HLN := Lib.hid hln
  have HRN := Lib.hid hrn
  clear hC he hl hr hl' hr' hln hrn
  go_enter Try.func101, Try.ntmps101
  go_wp2_with fail
  go_loopw [5] (fun i wr => ∃ k : Nat, k ≤ n ∧ i = .int .i64 k ∧ Hid (cmpL (l.drop k) (r.drop k) = C) ∧ Ext w wr) (fun i _ => n - (intOf i).toNat)
  case atStart => exact ⟨0, Nat.zero_le _, rfl, HC, Ext.refl _⟩
  case round =>
    clear HC
    obtain ⟨k, hk, rfl, HK, hx⟩ := hrel
    by_cases hlt : k < n
    · have hlt1 : k < l.length := by rw [HLN.out]; exact hlt
      have hlt2 : k < r.length := by rw [HRN.out]; exact hlt
      obtain ⟨b1, o1, rfl, c0⟩ := (HL.out.ext hx).get k hlt1
      obtain ⟨b2, o2, rfl, c1⟩ := (HR.out.ext hx).get k hlt2
      have hs := cmpL_step hlt1 hlt2
      rw [HK.out] at hs
      obtain ⟨x, hxx⟩ : ∃ x, l[k] = x := ⟨_, rfl⟩
      obtain ⟨y, hyy⟩ : ∃ y, r[k] = y := ⟨_, rfl⟩
      rw [hxx] at c0 hs
      rw [hyy] at c1 hs
      have hki : (k : Int) < n := by omega
      have HS := Lib.hid hs
      clear hs hxx hyy hlt1 hlt2
      go_upto_region 4 with fail
      refine wp_region_held_drew (S := fun W' => W'.cell? ⟨b1, o1 + k, none⟩ = some (.int .i64 x) ∧ W'.cell? ⟨b2, o2 + k, none⟩ = some (.int .i64 y) ∧ Ext wr W') (by kernel_rfl) ?_ (fun hHeld => ?_)
      · exact ⟨c0, c1, Ext.drew (Ext.refl _)⟩
      obtain ⟨V0, hV0⟩ : ∃ V, World.drew wr = V := ⟨_, rfl⟩
      rw [hV0] at hHeld ⊢
      clear hV0
      (refine tkH (i := 0) (v := ?_) rfl ?_ ?_; rotate_left 1; (focus (intro w hSw; (try dsimp only at hSw); go_simp; try (with_reducible rfl))))
      try simp only [Act.put, xA1, xA2, xA4, xA5, xA6]
      (refine tkH (i := 1) (v := ?_) rfl ?_ ?_; rotate_left 1; (focus (intro w hSw; (try dsimp only at hSw); go_simp; try (with_reducible rfl))))
      try simp only [Act.put, xA1, xA2, xA3, xA4, xA5, xA6]
      (refine tkH (i := 2) (v := ?_) rfl ?_ ?_; rotate_left 1; (focus (intro w hSw; (try dsimp only at hSw); go_simp; try (with_reducible rfl))))
      try simp only [Act.put, xA1, xA2, xA3, xA4, xA5, xA6]
      (refine tkH (i := 3) (v := ?_) rfl ?_ ?_; rotate_left 1; (focus (intro w hSw; (try dsimp only at hSw); go_simp; try (with_reducible rfl))))
      try simp only [Act.put, xA1, xA2, xA3, xA4, xA5, xA6]
      (refine tkH (i := 4) (v := ?_) rfl ?_ ?_; rotate_left 1; (focus (intro w hSw; (try dsimp only at hSw); go_simp; try (with_reducible rfl))))
      try simp only [Act.put, xA1, xA2, xA3, xA4, xA5, xA6]
      (refine tkH (i := 5) (v := ?_) rfl ?_ ?_; rotate_left 1; (focus (intro w hSw; (try dsimp only at hSw); go_simp; try (with_reducible rfl))))
      try simp only [Act.put, xA1, xA2, xA3, xA4, xA5, xA6]
      (refine tkH (i := 6) (v := ?_) rfl ?_ ?_; rotate_left 1; (focus (intro w hSw; (try dsimp only at hSw); go_simp; try (with_reducible rfl))))
      try simp only [Act.put, xA1, xA2, xA3, xA4, xA5, xA6]
      (refine tkH (i := 7) (v := ?_) rfl ?_ ?_; rotate_left 1; (focus (intro w hSw; (try dsimp only at hSw); go_simp; try (with_reducible rfl))))
      try simp only [Act.put, xA1, xA2, xA3, xA4, xA5, xA6]
      (refine tkH (i := 8) (v := ?_) rfl ?_ ?_; rotate_left 1; (focus (intro w hSw; (try dsimp only at hSw); go_simp; try (with_reducible rfl))))
      try simp only [Act.put, xA1, xA2, xA3, xA4, xA5, xA6]
      refine wpAnyH_done (by kernel_rfl) ?_ _
      have hzz := hHeld.2.2
      replace c0 := hzz.cell c0
      replace c1 := hzz.cell c1
      replace hx := hx.trans hzz
      clear hHeld
      by_cases hg : y < x
      · have hs := HS.out
        rw [if_neg (by omega), if_pos hg] at hs
        have HS2 := Lib.hid hs
        have g1 : decide (x > y) = true := decide_eq_true hg
        have g2 : decide (y < x) = true := decide_eq_true hg
        clear hs
        go_wp2_with fail
        go_ret
        exact ⟨ret_int HS2.out.symm, hx⟩
      have g1 : decide (x > y) = false := decide_eq_false hg
      have g2 : decide (y < x) = false := decide_eq_false hg
      go_upto_region 6 with fail
      refine wp_region_held_drew (S := fun W' => W'.cell? ⟨b1, o1 + k, none⟩ = some (.int .i64 x) ∧ W'.cell? ⟨b2, o2 + k, none⟩ = some (.int .i64 y) ∧ Ext V0 W') (by kernel_rfl) ?_ (fun hHeld => ?_)
      · exact ⟨c0, c1, Ext.drew (Ext.refl _)⟩
      obtain ⟨U0, hU0⟩ : ∃ V, World.drew V0 = V := ⟨_, rfl⟩
      rw [hU0] at hHeld ⊢
      clear hU0
      (refine tkH (i := 0) (v := ?_) rfl ?_ ?_; rotate_left 1; (focus (intro w hSw; (try dsimp only at hSw); go_simp; try (with_reducible rfl))))
      try simp only [Act.put, xA1, xA2, xA4, xA5, xA6]
      (refine tkH (i := 1) (v := ?_) rfl ?_ ?_; rotate_left 1; (focus (intro w hSw; (try dsimp only at hSw); go_simp; try (with_reducible rfl))))
      try simp only [Act.put, xA1, xA2, xA3, xA4, xA5, xA6]
      (refine tkH (i := 2) (v := ?_) rfl ?_ ?_; rotate_left 1; (focus (intro w hSw; (try dsimp only at hSw); go_simp; try (with_reducible rfl))))
      try simp only [Act.put, xA1, xA2, xA3, xA4, xA5, xA6]
      (refine tkH (i := 3) (v := ?_) rfl ?_ ?_; rotate_left 1; (focus (intro w hSw; (try dsimp only at hSw); go_simp; try (with_reducible rfl))))
      try simp only [Act.put, xA1, xA2, xA3, xA4, xA5, xA6]
      (refine tkH (i := 4) (v := ?_) rfl ?_ ?_; rotate_left 1; (focus (intro w hSw; (try dsimp only at hSw); go_simp; try (with_reducible rfl))))
      try simp only [Act.put, xA1, xA2, xA3, xA4, xA5, xA6]
      (refine tkH (i := 5) (v := ?_) rfl ?_ ?_; rotate_left 1; (focus (intro w hSw; (try dsimp only at hSw); go_simp; try (with_reducible rfl))))
      try simp only [Act.put, xA1, xA2, xA3, xA4, xA5, xA6]
      (refine tkH (i := 6) (v := ?_) rfl ?_ ?_; rotate_left 1; (focus (intro w hSw; (try dsimp only at hSw); go_simp; try (with_reducible rfl))))
      try simp only [Act.put, xA1, xA2, xA3, xA4, xA5, xA6]
      (refine tkH (i := 7) (v := ?_) rfl ?_ ?_; rotate_left 1; (focus (intro w hSw; (try dsimp only at hSw); go_simp; try (with_reducible rfl))))
      try simp only [Act.put, xA1, xA2, xA3, xA4, xA5, xA6]
      (refine tkH (i := 8) (v := ?_) rfl ?_ ?_; rotate_left 1; (focus (intro w hSw; (try dsimp only at hSw); go_simp; try (with_reducible rfl))))
      try simp only [Act.put, xA1, xA2, xA3, xA4, xA5, xA6]
      refine wpAnyH_done (by kernel_rfl) ?_ _
      have hzz := hHeld.2.2
      replace hx := hx.trans hzz
      clear hHeld
      by_cases hg3 : x < y
      · have hs := HS.out
        rw [if_pos hg3] at hs
        have HS2 := Lib.hid hs
        have g3 : decide (x < y) = true := decide_eq_true hg3
        clear hs
        go_wp2_with fail
        go_ret
        exact ⟨ret_int HS2.out.symm, hx⟩
      · have hs := HS.out
        rw [if_neg hg3, if_neg hg] at hs
        have HS2 := Lib.hid hs
        have g3 : decide (x < y) = false := decide_eq_false hg3
        clear hs
        go_wp2_with fail
        go_roundw
        case rel => exact ⟨k + 1, by omega, by go_num, Lib.hid HS2.out.symm, hx⟩
        case measure => simp [intOf]; omega
    · obtain rfl : k = n := by omega
      have hs := HK.out
      rw [List.drop_of_length_le (by rw [HLN.out]; omega), List.drop_of_length_le (by rw [HRN.out]; omega)] at hs
      have HS := Lib.hid (show C = 0 from hs.symm)
      have hki : ¬ ((k : Int) < k) := by omega
      clear hs
      go_wp2_with fail
      go_ret
      exact ⟨ret_int HS.out.symm, hx⟩
set_option maxRecDepth 100000 in
set_option maxHeartbeats 8000000 in
theorem refLadder0_any (a b v : Value) (P : Po) (g : List Int) (hok : OkP P) (hgl : g.length ≤ 100000) (w : World) (hT : PoAt w a b P) (hg : IntsAt w v g) :
    Calls Try.prog 81 #[.agg #[a, b], v] w fun e w' => ∃ u, e = .returned u ∧ IntsAt w' u (ladL P g) ∧ Ext w w' := by
  have KC := fun W (x : Ext w W) => refCounts0_any a b v P g hok hgl W (hT.ext x) (hg.ext x)
  have hL : ladL P g = srtI (cntT P g) := rfl
  have hcl := cntT_len P g
  have hlt := hok.lt
  obtain ⟨C, hC⟩ : ∃ E, cntT P g = E := ⟨_, rfl⟩
  rw [hC] at KC hL hcl
  rw [hL]
  have HKC := Lib.hid KC
  have hcl2 : C.length ≤ 1000 := by omega
  clear hC KC hL hcl
  go_enter Try.func81, Try.ntmps81
  go_wp2_with fail
  refine (HKC.out _ (by repeat (first | exact Ext.refl _ | assumption | refine Ext.alloc ?_ _ | refine Ext.drew ?_ | refine Ext.drewN _ ?_ | refine Ext.trans ?_ (by assumption)))).mono ?_
  rintro e w1 ⟨u, rfl, hr, hx1⟩
  have hx : Ext w w1 := Ext.trans (by repeat (first | exact Ext.refl _ | assumption | refine Ext.alloc ?_ _ | refine Ext.drew ?_ | refine Ext.drewN _ ?_ | refine Ext.trans ?_ (by assumption))) hx1
  have hu := hr.at_
  go_wp2_with fail
  refine (refSorted_any u C w1 hu hcl2).mono ?_
  rintro e w2 ⟨v2, rfl, hv2, hz⟩
  go_wp2_with fail
  go_ret
  exact ⟨_, rfl, hv2, hx.trans hz⟩
def IntsPost (w : World) (l : List Int) (E : Int) (e : Ending) (w' : World) : Prop := ∃ v, e = .returned (.agg #[v, .int .i64 E]) ∧ IntsAt w' v l ∧ Ext w w'
theorem rowI_setN {W : World} {B j : Nat} {t : TypeId} {cs : Array Value} {u v : Value} {l : List Int} {n₀ : Nat} (h : RowI n₀ v l W) (hc : Cls B t cs W) (ht : t ≠ 3) : RowI n₀ v l (W.setCell ⟨B, j, none⟩ u) := by
  refine ⟨h.1, ?_⟩
  rcases h.2 with h2 | ⟨b, cap, cur, hv, h1, h2, h3⟩
  · exact .inl h2
  · refine .inr ⟨b, cap, cur, hv, h1, ?_, h3⟩
    have hb : b ≠ B := fun e => by
      subst e
      have := hc.symm.trans h2
      simp only [Option.some.injEq, Obj.cells.injEq] at this
      exact ht this.2.1
    exact Cls.other (t := 3) h2 hb j u
theorem cnts_ret {w W : World} {tmps : Array Value} {u : Value} {G : List Int} {E E' : Int} (h4 : tmps.getD 4 undef = .pointer (some ⟨w.heap.size + 1, 0, none⟩)) (hc : Cls (w.heap.size + 1) 55 #[u, .int .i64 E'] W) (hx : Ext w W) (he : E' = E) (hu : IntsAt W u G) :
    bodyPost Try.prog Try.f48 (IntsPost w G E) Exit.ret { tmps := tmps, defers := [] } W := by
  subst he
  have c0 : W.cell? ⟨w.heap.size + 1, 0, none⟩ = some u := hc.cell 0
  have c1 : W.cell? ⟨w.heap.size + 1, 1, none⟩ = some (.int .i64 E') := hc.cell 1
  have h4' : tmps[4]?.getD undef = .pointer (some ⟨w.heap.size + 1, 0, none⟩) := by simpa using h4
  exact bodyPost_ret (v := .agg #[u, .int .i64 E']) (by simp [results, Try.f48, go_sem, h4', c0, c1]) rfl ⟨u, rfl, hu, hx⟩
set_option maxRecDepth 100000 in
set_option maxHeartbeats 8000000 in
theorem refCounts_any (a b v : Value) (P : Po) (g : List Int) (w : World) (hT : PoAt w a b P) (hg : IntsAt w v g) (hus : ∀ s ∈ P.ss, s.us.length ≤ 1000000) :
    Calls Try.prog 48 #[.agg #[a, b], v] w (IntsPost w (cntsX P g) (cgE P g)) := by
  have hX : cntsX P g = if cgE P g = 0 then cntT P g else [] := rfl
  have hok := @cg_ok P g
  have KC := fun W (x : Ext w W) => refCheckGiven_any a b v P g W (hT.ext x) (hg.ext x) hus
  have KT := fun (h : OkP P ∧ ShrV P g) W (x : Ext w W) => refCounts0_any a b v P g h.1 (by have := h.2.le h.1; omega) W (hT.ext x) (hg.ext x)
  obtain ⟨X, hXX⟩ : ∃ E, cntsX P g = E := ⟨_, rfl⟩
  obtain ⟨E, hE⟩ : ∃ E, cgE P g = E := ⟨_, rfl⟩
  obtain ⟨C, hC⟩ : ∃ E, cntT P g = E := ⟨_, rfl⟩
  rw [hXX, hE, hC] at hX
  rw [hE] at hok KC
  rw [hC] at KT
  rw [hXX, hE]
  have HX := Lib.hid hX
  have HKC := Lib.hid KC
  have HKT := Lib.hid KT
  clear hX hXX hE hC KC KT
  go_enter Try.func48, Try.ntmps48
  go_wp2_with fail
  refine (HKC.out _ (by repeat (first | exact Ext.refl _ | assumption | refine Ext.alloc ?_ _ | refine Ext.drew ?_ | refine Ext.drewN _ ?_ | refine Ext.trans ?_ (by assumption)))).mono ?_
  rintro e w1 ⟨rfl, hx1⟩
  obtain ⟨q, qr, hx, hk0⟩ := alloc2 hx1
  have d0 : w1.cell? ⟨w.heap.size, 0, none⟩ = some a := q.cell 0
  have d1 : w1.cell? ⟨w.heap.size, 1, none⟩ = some b := q.cell 1
  clear hx1 hk0 q
  by_cases h0 : E = 0
  · have h2 := HX.out
    rw [if_pos h0] at h2
    have HX2 := Lib.hid h2
    have H0 := Lib.hid h0
    have hb : (E != 0) = false := by simp [h0]
    have K2 := HKT.out (hok.1 h0)
    clear h2 h0
    go_wp2_with fail
    refine (K2 _ hx).mono ?_
    rintro e w2 ⟨u, rfl, hr, hz⟩
    obtain ⟨uA, uc, rfl⟩ := hr.form
    have hx2 := hx.trans hz
    replace qr := qr.ext hz
    have r0 := qr.frozen 0
    have r1 := qr.frozen 1
    have r2 := qr.cell 0
    have r3 := qr.cell 1
    clear hz d0 d1 hx
    go_wp2_with fail
    have q1 := qr.set 0 (.slice uA C.length uc)
    exact cnts_ret rfl (q1.set 1 _) ((hx2.setCell (by simp) _).setCell (by simp) _) H0.out.symm (by rw [HX2.out]; exact (rowI_setN (rowI_setN hr qr (by decide)) q1 (by decide)).at_)
  · have h2 := HX.out
    rw [if_neg h0] at h2
    have HX2 := Lib.hid h2
    have hb : (E != 0) = true := by simp [h0]
    have r0 := qr.frozen 0
    have r1 := qr.frozen 1
    have r2 := qr.cell 0
    have r3 := qr.cell 1
    clear h2 h0
    go_wp2_with fail
    have q1 := qr.set 0 (.slice none 0 0)
    exact cnts_ret rfl (q1.set 1 _) ((hx.setCell (by simp) _).setCell (by simp) _) rfl (by rw [HX2.out]; exact intsAt_nil _)
end Go.Proofs.Ytiofdfjcaklmcaa
