/- The law package's small functions: has, parts, sum, some. -/
import Derived.Test.YthopgonbndoidaaVEvb
import Derived.Test.YthopgonbndoidaaVArB
import Derived.Test.YthopgonbndoidaaVUsd
namespace Go.Proofs.Ythopgonbndoidaa
open Go.RowKit Go.Shelf Go.Lib

set_option maxRecDepth 100000 in
set_option maxHeartbeats 16000000 in
theorem has_any (v : Value) (l : List Int) (n : Int) (w : World) (hl : IntsAt w v l) (hn : l.length ≤ 1000000) :
    Calls Try.prog 36 #[v, .int .i64 n] w fun e w' => e = .returned (.bool (decide (n ∈ l))) ∧ Ext w w' := by
  obtain ⟨ao, cap, rfl, hcap⟩ := hl.len
  obtain ⟨D, hD⟩ : ∃ D, decide (n ∈ l) = D := ⟨_, rfl⟩
  have HD := Lib.hid hD
  rw [hD]
  clear hD
  go_enter Try.func36, Try.ntmps36
  go_wp2_with fail
  go_loopw [5] (fun i wr => ∃ k : Nat, k ≤ l.length ∧ i = .int .i64 k ∧ Hid (∀ j (h : j < l.length), j < k → l[j] ≠ n) ∧ Ext w wr) (fun i _ => l.length - (intOf i).toNat)
  case atStart => exact ⟨0, Nat.zero_le _, rfl, Lib.hid (fun _ _ h => by omega), Ext.refl _⟩
  case round =>
    obtain ⟨k, hk, rfl, HK, hx⟩ := hrel
    by_cases hlt : k < l.length
    · obtain ⟨b, o, rfl, c0⟩ := (hl.ext hx).get k hlt
      obtain ⟨x, hxx⟩ : ∃ x, l[k] = x := ⟨_, rfl⟩
      rw [hxx] at c0
      cases hq : (x == n)
      · have hne : x ≠ n := by simpa using hq
        have HK2 : Hid (∀ j (h : j < l.length), j < k + 1 → l[j] ≠ n) := Lib.hid (fun j h hj => by
          by_cases hjk : j = k
          · subst hjk; rw [hxx]; exact hne
          · exact HK.out j h (by omega))
        clear hxx hne HK
        go_wp2
        go_roundw
        case rel => exact ⟨k + 1, by omega, by go_num, HK2, hx⟩
        case measure => simp [intOf]; omega
      · have hm : D = true := by
          rw [← HD.out, decide_eq_true_eq]
          have : x = n := by simpa using hq
          rw [← this, ← hxx]
          exact List.getElem_mem _
        have HM := Lib.hid hm
        clear hxx hm HK
        go_wp2
        go_ret
        exact ⟨ret_bool HM.out.symm, hx⟩
    · have hm : D = false := by
        rw [← HD.out, decide_eq_false_iff_not]
        intro hm
        obtain ⟨j, hj, hjn⟩ := List.mem_iff_getElem.1 hm
        exact HK.out j hj (by omega) hjn
      have HM := Lib.hid hm
      clear hm HK
      go_wp2
      go_ret
      exact ⟨ret_bool HM.out.symm, hx⟩

theorem parts_facts (x : Int) (h0 : 0 ≤ x) (h1 : x ≤ 8421473853112320) : ∃ g a b : Int, ratM x = ⟨a, b⟩ ∧ (0 < b ∧ b ≤ 5354228880) ∧ (0 ≤ a ∧ a ≤ 8421473853112320) ∧ (1 ≤ g ∧ g ≤ 5354228880) ∧ (5354228880 : Int).tmod b = 0 ∧ (5354228880 : Int).tdiv b = g ∧ a * g = x ∧ a ≤ 1073741824 * b := by
  obtain ⟨g, a, b, hg, hx, hw, hb, _, hr⟩ := ratM_parts x
  have ha : 0 ≤ a := by
    rcases Int.lt_or_le a 0 with h | h
    · have : g * a < 0 := Int.mul_neg_of_pos_of_neg hg h
      omega
    · exact h
  have ha2 : a ≤ g * a := by
    have := Int.mul_le_mul_of_nonneg_right (show 1 ≤ g by omega) ha
    omega
  have hb2 : b ≤ g * b := by
    have := Int.mul_le_mul_of_nonneg_right (show 1 ≤ g by omega) (show 0 ≤ b by omega)
    omega
  have hg2 : g ≤ g * b := by
    have := Int.mul_le_mul_of_nonneg_left (show 1 ≤ b by omega) (show 0 ≤ g by omega)
    omega
  have hab := abs_le_of_mul (V := 1572865) hg (a := a) (b := b) (by omega) (by omega)
  refine ⟨g, a, b, hr, ⟨hb, by omega⟩, ⟨ha, by omega⟩, ⟨by omega, by omega⟩, ?_, ?_, ?_, by omega⟩
  · rw [hw]; exact Int.mul_tmod_left g b
  · rw [hw]; exact Int.mul_tdiv_cancel _ (by omega)
  · rw [hx]; exact Int.mul_comm _ _
set_option maxRecDepth 100000 in
set_option maxHeartbeats 16000000 in
theorem parts_any (x : Int) (h0 : 0 ≤ x) (h1 : x ≤ 8421473853112320) (w : World) :
    Calls Try.prog 20 #[raV (ratM x)] w fun e w' => e = .returned (.tuple #[.int .i64 x, .bool true]) ∧ Ext w w' := by
  obtain ⟨g, a, b, hr, hb, ha, hg, hm, hd, hx, hab⟩ := parts_facts x h0 h1
  rw [hr]
  show Calls Try.prog 20 #[.agg #[.int .i64 a, .int .i64 b]] w _
  have hb0 : ¬ (b = 0) := by omega
  have hb0b : (b == 0) = false := by rw [beq_eq_false_iff_ne]; omega
  have hb1 : decide (b < 1) = false := decide_eq_false (by omega)
  have hb2 : decide (b > 5354228880) = false := decide_eq_false (by omega)
  have hw1 : IntKind.i64.wrap (1073741824 * b) = 1073741824 * b := IntWalk.i64_in _ (by omega)
  have hw2 : IntKind.i64.wrap (a * g) = x := by rw [hx]; exact IntWalk.i64_in _ (by omega)
  have hw3 : IntKind.i64.wrap g = g := IntWalk.i64_in _ (by omega)
  have hw4 : IntKind.i64.wrap 0 = 0 := by decide
  have hb3 : decide (a > 1073741824 * b) = false := decide_eq_false (by omega)
  clear hx hr
  go_enter Try.func20, Try.ntmps20
  go_wp2_with fail
  go_region
  go_wp2_with fail
  go_ret2
  exact ⟨ret2 rfl rfl, (by repeat (first | exact Ext.refl _ | assumption | refine Ext.alloc ?_ _ | refine Ext.drew ?_ | refine Ext.drewN _ ?_ | refine Ext.trans ?_ (by assumption)))⟩
set_option maxRecDepth 100000 in
set_option maxHeartbeats 16000000 in
theorem lsum_any (v : Value) (xs : List Int) (w : World) (hl : RasAt w v (xs.map ratM)) (hb : ∀ x ∈ xs, 0 ≤ x ∧ x ≤ 8421473853112320) (hn : xs.length ≤ 1000) :
    Calls Try.prog 18 #[v] w fun e w' => e = .returned (.tuple #[.int .i64 (sumI xs), .bool true]) ∧ Ext w w' := by
  obtain ⟨ao, cap, rfl, hcap⟩ := hl.len
  rw [List.length_map] at hl hcap ⊢
  obtain ⟨S, hS⟩ : ∃ S, sumI xs = S := ⟨_, rfl⟩
  have HS := Lib.hid hS
  have hsb : ∀ k, 0 ≤ sumI (xs.take k) ∧ sumI (xs.take k) ≤ 8421473853112320000 := fun k => by
    have hh : ∀ l : List Int, (∀ x ∈ l, 0 ≤ x ∧ x ≤ 8421473853112320) → 0 ≤ sumI l ∧ sumI l ≤ l.length * 8421473853112320 := fun l => by
      induction l using snoc_ind with
      | h0 => intro _; simp [sumI]
      | h1 l x ih =>
        intro h
        have i := ih (fun q hq => h q (by simp [hq]))
        have j := h x (by simp)
        rw [sumI_snoc, List.length_append, List.length_singleton]
        push_cast
        omega
    have := hh (xs.take k) (fun x hx => hb x (List.mem_of_mem_take hx))
    have : (xs.take k).length ≤ 1000 := by simp; omega
    omega
  have HSB := Lib.hid hsb
  rw [hS]
  clear hS hsb
  go_enter Try.func18, Try.ntmps18
  go_wp2_with fail
  go_loopw [4, 5] (fun s i wr => ∃ k : Nat, k ≤ xs.length ∧ s = .int .i64 (sumI (xs.take k)) ∧ i = .int .i64 k ∧ Ext w wr) (fun _ i _ => xs.length - (intOf i).toNat)
  case atStart => exact ⟨0, Nat.zero_le _, rfl, rfl, Ext.refl _⟩
  case round =>
    obtain ⟨k, hk, rfl, rfl, hx⟩ := hrel
    by_cases hlt : k < xs.length
    · obtain ⟨bb, oo, rfl, c0, c1⟩ := (hl.ext hx).get k (by simpa using hlt)
      have hbx := hb _ (List.getElem_mem hlt)
      have hs := sumI_snoc (xs.take k) xs[k]
      rw [← take_succ_get _ _ hlt] at hs
      have h1 := HSB.out k
      have h2 := HSB.out (k + 1)
      rw [List.getElem_map] at c0 c1
      have KP := fun W => parts_any xs[k] hbx.1 hbx.2 W
      obtain ⟨x, hxx⟩ : ∃ x, xs[k] = x := ⟨_, rfl⟩
      rw [hxx] at hbx hs KP c0 c1
      have KP' : ∀ W, Calls Try.prog 20 #[.agg #[.int .i64 (ratM x).n, .int .i64 (ratM x).d]] W fun e w' => e = .returned (.tuple #[.int .i64 x, .bool true]) ∧ Ext W w' := KP
      obtain ⟨rn, hrn⟩ : ∃ r, (ratM x).n = r := ⟨_, rfl⟩
      obtain ⟨rd, hrd⟩ : ∃ r, (ratM x).d = r := ⟨_, rfl⟩
      rw [hrn, hrd] at KP'
      rw [hrn] at c0
      rw [hrd] at c1
      obtain ⟨s, hss⟩ : ∃ s, sumI (xs.take k) = s := ⟨_, rfl⟩
      rw [hss] at hs h1 ⊢
      have hw : IntKind.i64.wrap (s + x) = s + x := IntWalk.i64_in _ (by omega)
      have HS2 := Lib.hid hs
      have HKP := Lib.hid KP'
      clear hs hss hrn hrd hxx KP KP' h1 h2
      go_wp2_with fail
      refine (HKP.out _).mono ?_
      rintro e w2 ⟨rfl, hz⟩
      have hx2 := hx.trans hz
      clear hz hx c0 c1
      go_wp2_with fail
      go_roundw
      case rel => exact ⟨k + 1, by omega, by rw [HS2.out], by go_num, hx2⟩
      case measure => simp [intOf]; omega
    · obtain rfl : k = xs.length := by omega
      rw [List.take_length, HS.out]
      go_wp2_with fail
      go_ret2
      exact ⟨ret2 rfl rfl, hx⟩

set_option maxRecDepth 100000 in
set_option maxHeartbeats 16000000 in
theorem some_any (a b v : Value) (T : Tr) (B : List Bool) (w : World) (hT : TrAt w a b T) (hp : T.ps.length ≤ 100000) (hB : BoolsAt w v B) :
    Calls Try.prog 35 #[.agg #[a, b], v] w fun e w' => ∃ u g, e = .returned u ∧ IntsAt w' u g ∧ List.Sublist g (evL T.ps) ∧ Ext w w' := by
  obtain ⟨ab, cb, rfl, hlb⟩ := hT.p.len
  obtain ⟨av, cv, rfl, hlv⟩ := hB.len
  obtain ⟨A, hA⟩ : ∃ A, evL T.ps = A := ⟨_, rfl⟩
  have hAl := evL_len T.ps
  have KE := fun W (h : Ext w W) => everybody_any _ _ T W (hT.ext h) hp
  rw [hA] at hAl KE ⊢
  go_enter Try.func35, Try.ntmps35
  go_wp2_with fail
  refine (KE _ (by repeat (first | exact Ext.refl _ | assumption | refine Ext.alloc ?_ _ | refine Ext.drew ?_ | refine Ext.drewN _ ?_ | refine Ext.trans ?_ (by assumption)))).mono ?_
  rintro e w1 ⟨u, rfl, hR1, hx1⟩
  obtain ⟨q0, hx, hk0⟩ := alloc1 hx1
  have hA1 := hR1.at_
  obtain ⟨ae, ce, rfl⟩ := hR1.form
  clear hR1 hx1 q0 hk0 KE hA
  have hAl2 : A.length ≤ 100000 := by omega
  have HAL := Lib.hid hAl2
  clear hAl hAl2
  go_wp2_with fail
  go_loopw [6, 7] (fun o i wr => ∃ (k : Nat) (g : List Int), k ≤ A.length ∧ i = .int .i64 k ∧ Hid (RowI w1.heap.size o g wr) ∧ Hid (List.Sublist g (A.take k)) ∧ Ext w1 wr) (fun _ i _ => A.length - (intOf i).toNat)
  case atStart => exact ⟨0, [], Nat.zero_le _, rfl, Lib.hid (rowI_nil _ _), Lib.hid (List.nil_sublist _), Ext.refl _⟩
  case round =>
    obtain ⟨k, g, hk, rfl, HR, HG, hxr⟩ := hrel
    by_cases hlt : k < A.length
    · obtain ⟨b0, o0, rfl, c0⟩ := (hA1.ext hxr).get k hlt
      obtain ⟨x, hxx⟩ : ∃ x, A[k] = x := ⟨_, rfl⟩
      rw [hxx] at c0
      have hki : (k : Int) < (A.length : Int) := by omega
      have hgl : g.length ≤ k := by
        have := HG.out.length_le
        simp at this; omega
      have ht : A.take (k + 1) = A.take k ++ [x] := by rw [take_succ_get _ _ hlt, hxx]
      have hsk : Hid (List.Sublist g (A.take (k + 1))) := Lib.hid (by rw [ht]; exact HG.out.trans (List.sublist_append_left _ _))
      have htk : Hid (List.Sublist (g ++ [x]) (A.take (k + 1))) := Lib.hid (by rw [ht]; exact HG.out.append (List.Sublist.refl _))
      have hAL := HAL.out
      have hR := HR.out
      obtain ⟨ao, co, rfl⟩ := hR.form
      clear hxx ht HG HR
      by_cases hb : k < B.length
      · obtain ⟨b1, o1, rfl, c1⟩ := (hB.ext (hx.trans hxr)).get k hb
        have hbi : (k : Int) < (B.length : Int) := by omega
        obtain ⟨q, hq⟩ : ∃ q, B[k] = q := ⟨_, rfl⟩
        rw [hq] at c1
        clear hq
        cases q
        · go_wp2_with fail
          go_roundw
          case rel => exact ⟨k + 1, g, by omega, by go_num, Lib.hid hR, hsk, hxr⟩
          case measure => simp [intOf]; omega
        · go_wp2_with (at_builtin; refine append_ints rfl _ _ rfl w1.heap.size _ _ g [x] rfl (rowI_ext hR (by repeat (first | exact Ext.refl _ | assumption | refine Ext.alloc ?_ _ | refine Ext.drew ?_ | refine Ext.drewN _ ?_ | refine Ext.trans ?_ (by assumption)))) rfl (ints_oneAt _ _ _ rfl) (Nat.le_trans hxr.size (by simp)) (by simp; omega) ?_; intro v1 w3 hr3 hg3 _; have hx3 := ext_own hxr hR (Nat.le_refl _) (grown_pre hg3); clear hg3)
          go_roundw
          case rel => exact ⟨k + 1, g ++ [x], by omega, by go_num, Lib.hid hr3, htk, hx3⟩
          case measure => simp [intOf]; omega
      · have hbi : ¬ (k : Int) < (B.length : Int) := by omega
        go_wp2_with fail
        go_roundw
        case rel => exact ⟨k + 1, g, by omega, by go_num, Lib.hid hR, hsk, hxr⟩
        case measure => simp [intOf]; omega
    · obtain rfl : k = A.length := by omega
      have hg := HG.out
      rw [List.take_length] at hg
      have hR := HR.out
      go_wp2_with fail
      go_ret
      exact ⟨_, _, rfl, hR.at_, hg, hx.trans hxr⟩
end Go.Proofs.Ythopgonbndoidaa
