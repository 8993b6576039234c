/- sum, isPence, sums of the program. -/
import Derived.Test.YthopgonbndoidaaVSeq
import Derived.Test.YthopgonbndoidaaVChk
namespace Go.Proofs.Ythopgonbndoidaa
open Go.RowKit Go.Shelf

def badF : Nat → List Int → Int
  | _, [] => -1
  | i, n :: l => if inB n 0 1073741824 then badF (i + 1) l else (i : Int)
theorem badF_hit {l : List Int} {k : Nat} (h : k < l.length) (hq : inB l[k] 0 1073741824 = false) : badF k (l.drop k) = k := by
  rw [drop_get l k h, badF, if_neg (by rw [hq]; decide)]
theorem badF_miss {l : List Int} {k : Nat} (h : k < l.length) (hq : inB l[k] 0 1073741824 = true) : badF k (l.drop k) = badF (k + 1) (l.drop (k + 1)) := by
  rw [drop_get l k h, badF, if_pos hq]
theorem badF_end {l : List Int} : badF l.length (l.drop l.length) = -1 := by simp [badF]
theorem badF_none {l : List Int} : ∀ {i : Nat}, badF i l < 0 ↔ ∀ n ∈ l, inB n 0 1073741824 = true := by
  induction l with
  | nil => intro i; simp [badF]
  | cons q l ih =>
    intro i
    rw [badF]
    cases h : inB q 0 1073741824
    · simp [h]
    · simp [h]; exact ih
def penE (T : Tr) (l : List Int) : Int := if chkE T = 0 then (if l.length = T.ps.length then (if 0 ≤ badF 0 l then 1 else 0) else 1) else chkE T
theorem penE_ok {T : Tr} {l : List Int} (h : penE T l = 0) : Ok T ∧ l.length = T.ps.length ∧ ∀ n ∈ l, 0 ≤ n ∧ n ≤ 1073741824 := by
  unfold penE at h
  split at h
  · rename_i h1
    split at h
    · rename_i h2
      split at h
      · cases h
      · rename_i h3
        exact ⟨Ok.of h1, h2, fun n hn => inB_t (badF_none.1 (show badF 0 l < 0 by omega) n hn)⟩
    · cases h
  · rename_i h1; exact absurd h h1

set_option maxHeartbeats 1000000 in
theorem isPence1_any (n : Int) (w : World) : Calls Try.prog 122 #[.int .i64 n] w fun e w' => e = .returned (.bool (!inB n 0 1073741824)) ∧ w = w' := by
  have K := within_any n 0 1073741824 w
  obtain ⟨b, hb⟩ : ∃ b, inB n 0 1073741824 = b := ⟨_, rfl⟩
  rw [hb] at K ⊢
  clear hb
  go_enter Try.func122, Try.ntmps122
  go_wp2_with fail
  refine K.mono ?_
  rintro e w1 ⟨rfl, rfl⟩
  go_wp2
  go_ret
  exact ⟨rfl, rfl⟩
set_option maxRecDepth 100000 in
set_option maxHeartbeats 2000000 in
theorem bad_any (v : Value) (l : List Int) (w : World) (hl : IntsAt w v l) (hn : l.length ≤ 100000) :
    Calls Try.prog 138 #[v, .func (.func 122) #[] #[]] w fun e w' => e = .returned (.int .i64 (badF 0 l)) ∧ Ext w w' := by
  obtain ⟨A, c, rfl, _⟩ := hl.len
  obtain ⟨F, hF⟩ : ∃ F, badF 0 l = F := ⟨_, rfl⟩
  have HF := Lib.hid hF
  rw [hF]
  clear hF
  go_enter Try.func138, Try.ntmps138
  go_wp2_with fail
  go_loopw [8] (fun i wr => ∃ k : Nat, k ≤ l.length ∧ i = .int .i64 k ∧ Hid (badF k (l.drop k) = F) ∧ Ext w wr) (fun i _ => l.length - (intOf i).toNat)
  case atStart => exact ⟨0, Nat.zero_le _, rfl, HF, Ext.refl _⟩
  case round =>
    obtain ⟨k, hk, rfl, HK, hx⟩ := hrel
    by_cases hlt : k < l.length
    · obtain ⟨b, o, rfl, c0⟩ := (hl.ext hx).get k hlt
      have hhit := badF_hit hlt
      have hmiss := badF_miss hlt
      rw [HK.out] at hhit hmiss
      obtain ⟨x, hxx⟩ : ∃ x, l[k] = x := ⟨_, rfl⟩
      rw [hxx] at c0 hhit hmiss
      have C := isPence1_any x wr
      cases hq : inB x 0 1073741824
      · rw [hq] at C
        have H1 := Lib.hid (hhit hq)
        clear hxx hhit hmiss
        go_wp2_with fail
        refine C.mono ?_
        rintro e w2 ⟨rfl, rfl⟩
        go_wp2
        go_ret
        exact ⟨ret_int H1.out.symm, hx⟩
      · rw [hq] at C
        have H1 := Lib.hid (hmiss hq)
        clear hxx hhit hmiss
        go_wp2_with fail
        refine C.mono ?_
        rintro e w2 ⟨rfl, rfl⟩
        go_wp2
        go_roundw
        case rel => exact ⟨k + 1, by omega, by go_num, Lib.hid H1.out.symm, hx⟩
        case measure => simp [intOf]; omega
    · obtain rfl : k = l.length := by omega
      have he := badF_end (l := l)
      rw [HK.out] at he
      have HE := Lib.hid he
      clear he
      go_wp2
      go_ret
      exact ⟨ret_int HE.out.symm, hx⟩
set_option maxHeartbeats 1000000 in
theorem contains_any (v : Value) (l : List Int) (w : World) (hl : IntsAt w v l) (hn : l.length ≤ 100000) :
    Calls Try.prog 121 #[v, .func (.func 122) #[] #[]] w fun e w' => e = .returned (.bool (decide (0 ≤ badF 0 l))) ∧ Ext w w' := by
  have K := bad_any v l w hl hn
  obtain ⟨F, hF⟩ : ∃ F, badF 0 l = F := ⟨_, rfl⟩
  rw [hF] at K ⊢
  clear hF
  go_enter Try.func121, Try.ntmps121
  go_wp2_with fail
  refine K.mono ?_
  rintro e w1 ⟨rfl, hx⟩
  go_wp2
  go_ret
  exact ⟨rfl, hx⟩
set_option maxRecDepth 100000 in
set_option maxHeartbeats 2000000 in
theorem isPence_any (a b v : Value) (T : Tr) (l : List Int) (w : World) (hT : TrAt w a b T) (hl : IntsAt w v l) (hn : l.length ≤ 100000) :
    Calls Try.prog 105 #[.agg #[a, b], v] w fun e w' => e = .returned (.bool (if l.length = T.ps.length then !decide (0 ≤ badF 0 l) else false)) ∧ Ext w w' := by
  obtain ⟨ab, cb, rfl, hlb⟩ := hT.p.len
  obtain ⟨av, cv, rfl, hlv⟩ := hl.len
  have hx : Ext w (w.alloc (.cells #[a, .slice ab T.ps.length cb] 25)) := (by repeat (first | exact Ext.refl _ | assumption | refine Ext.alloc ?_ _ | refine Ext.drew ?_ | refine Ext.drewN _ ?_ | refine Ext.trans ?_ (by assumption)))
  have K := contains_any _ l _ (hl.ext hx) hn
  obtain ⟨F, hF⟩ : ∃ F, decide (0 ≤ badF 0 l) = F := ⟨_, rfl⟩
  rw [hF] at K ⊢
  clear hF
  by_cases hq : l.length = T.ps.length
  · rw [if_pos hq]
    rw [hq] at K ⊢
    have HK := Lib.hid K
    clear K hq
    go_enter Try.func105, Try.ntmps105
    go_wp2_with fail
    refine HK.out.mono ?_
    rintro e w1 ⟨rfl, hy⟩
    go_wp2
    go_ret
    exact ⟨rfl, hx.trans hy⟩
  · rw [if_neg hq]
    have hqq : ((l.length : Int) == (T.ps.length : Int)) = false := by rw [beq_eq_false_iff_ne]; omega
    clear K
    go_enter Try.func105, Try.ntmps105
    go_wp2
    go_ret
    exact ⟨rfl, hx⟩
set_option maxRecDepth 100000 in
set_option maxHeartbeats 2000000 in
theorem sums_any (a b v : Value) (T : Tr) (l : List Int) (w : World) (hT : TrAt w a b T) (hl : IntsAt w v l) (hn : l.length ≤ 100000) :
    Calls Try.prog 65 #[.agg #[a, b], v] w fun e w' => e = .returned (.int .i64 (penE T l)) ∧ Ext w w' := by
  have hX : penE T l = if chkE T = 0 then (if (if l.length = T.ps.length then !decide (0 ≤ badF 0 l) else false) = true then 0 else 1) else chkE T := by
    unfold penE
    by_cases h1 : l.length = T.ps.length <;> by_cases h2 : 0 ≤ badF 0 l <;> simp [h1, h2]
  obtain ⟨X, hXX⟩ : ∃ X, penE T l = X := ⟨_, rfl⟩
  obtain ⟨E, hE⟩ : ∃ E, chkE T = E := ⟨_, rfl⟩
  have KP := fun W (h : Ext w W) => isPence_any a b v T l W (hT.ext h) (hl.ext h) hn
  obtain ⟨B, hB⟩ : ∃ B, (if l.length = T.ps.length then !decide (0 ≤ badF 0 l) else false) = B := ⟨_, rfl⟩
  rw [hB] at KP
  rw [hXX, hE, hB] at hX
  rw [hXX]
  have HE := Lib.hid hE
  have HX := Lib.hid hX
  have HK := Lib.hid KP
  clear hE hX hXX hB KP
  go_enter Try.func65, Try.ntmps65
  go_wp2_with fail
  refine (Check_any a b T _ (hT.ext (by repeat (first | exact Ext.refl _ | assumption | refine Ext.alloc ?_ _ | refine Ext.drew ?_ | refine Ext.drewN _ ?_ | refine Ext.trans ?_ (by assumption))))).mono ?_
  rw [HE.out]
  rintro e w1 ⟨rfl, hx1⟩
  obtain ⟨q0, hx, hzz⟩ := alloc1 hx1
  have d0 : w1.cell? ⟨w.heap.size, 0, none⟩ = some a := q0.cell 0
  have d1 : w1.cell? ⟨w.heap.size, 1, none⟩ = some b := q0.cell 1
  clear hx1
  by_cases h0 : E = 0
  · have hb : (E != 0) = false := by simpa using h0
    have hx2 := HX.out
    rw [if_pos h0] at hx2
    have HX2 := Lib.hid hx2
    clear hx2 h0
    go_wp2_with fail
    refine (HK.out _ hx).mono ?_
    rintro e w2 ⟨rfl, hy⟩
    cases B
    · go_wp2_with fail
      go_ret
      exact ⟨by rw [HX2.out]; rfl, hx.trans hy⟩
    · go_wp2_with fail
      go_ret
      exact ⟨by rw [HX2.out]; rfl, hx.trans hy⟩
  · have hb : (E != 0) = true := by simpa using h0
    have hx2 := HX.out
    rw [if_neg h0] at hx2
    have HX2 := Lib.hid hx2
    clear hx2 h0
    go_wp2_with fail
    go_ret
    exact ⟨by rw [HX2.out]; rfl, hx⟩

/-! ### the sum of numbers -/
def sumI (l : List Int) : Int := l.foldl (· + ·) 0
theorem sumI_snoc (l : List Int) (n : Int) : sumI (l ++ [n]) = sumI l + n := by simp [sumI]
theorem sumI_bd {l : List Int} (h : ∀ n ∈ l, 0 ≤ n ∧ n ≤ 1073741824) : 0 ≤ sumI l ∧ sumI l ≤ l.length * 1073741824 := by
  induction l using snoc_ind with
  | h0 => simp [sumI]
  | h1 l n ih =>
    have i := ih (fun m hm => h m (by simp [hm]))
    have j := h n (by simp)
    rw [sumI_snoc, List.length_append, List.length_singleton]
    push_cast
    omega
set_option maxHeartbeats 1000000 in
theorem sum1_any (n : Int) (w : World) : Calls Try.prog 124 #[.int .i64 n] w fun e w' => e = .returned (.int .i64 n) ∧ w = w' := by
  go_enter Try.func124, Try.ntmps124
  go_wp2
  go_ret
  exact ⟨rfl, rfl⟩
set_option maxRecDepth 100000 in
set_option maxHeartbeats 2000000 in
theorem sum_any (v : Value) (l : List Int) (w : World) (hl : IntsAt w v l) (hn : l.length ≤ 100000) (hb : ∀ n ∈ l, 0 ≤ n ∧ n ≤ 1073741824) :
    Calls Try.prog 106 #[v] w fun e w' => e = .returned (.int .i64 (sumI l)) ∧ Ext w w' := by
  obtain ⟨A, c, rfl, _⟩ := hl.len
  obtain ⟨F, hF⟩ : ∃ F, sumI l = F := ⟨_, rfl⟩
  have HF := Lib.hid hF
  rw [hF]
  clear hF
  have key : Calls Try.prog 123 #[.slice A l.length c, .func (.func 124) #[] #[]] w fun e w' => e = .returned (.int .i64 F) ∧ Ext w w' := by
    go_enter Try.func123, Try.ntmps123
    go_wp2_with fail
    go_loopw [5, 10] (fun s i wr => ∃ k : Nat, k ≤ l.length ∧ i = .int .i64 k ∧ s = .int .i64 (sumI (l.take k)) ∧ Ext w wr) (fun _ i _ => l.length - (intOf i).toNat)
    case atStart => exact ⟨0, Nat.zero_le _, rfl, rfl, Ext.refl _⟩
    case round =>
      obtain ⟨k, hk, rfl, rfl, hx⟩ := hrel
      by_cases hlt : k < l.length
      · obtain ⟨b, o, rfl, c0⟩ := (hl.ext hx).get k hlt
        have hs := sumI_bd (l := l.take k) (fun n hn => hb n (List.mem_of_mem_take hn))
        have hlen : (l.take k).length = k := by simp; omega
        rw [hlen] at hs
        have hk2 := hb _ (List.getElem_mem hlt)
        have hsn : sumI (l.take (k + 1)) = sumI (l.take k) + l[k] := by rw [take_succ_get l k hlt, sumI_snoc]
        obtain ⟨x, hxx⟩ : ∃ x, l[k] = x := ⟨_, rfl⟩
        obtain ⟨s0, hs0⟩ : ∃ s, sumI (l.take k) = s := ⟨_, rfl⟩
        rw [hxx] at c0 hsn hk2
        rw [hs0] at hs hsn ⊢
        have HSN := Lib.hid hsn
        have C := sum1_any x wr
        clear hxx hs0 hsn hlen
        go_wp2_with fail
        refine C.mono ?_
        rintro e w2 ⟨rfl, rfl⟩
        go_wp2
        go_roundw
        case rel => exact ⟨k + 1, by omega, by go_num, by rw [HSN.out], hx⟩
        case measure => simp [intOf]; omega
      · obtain rfl : k = l.length := by omega
        rw [List.take_length, HF.out]
        go_wp2
        go_ret
        exact ⟨rfl, hx⟩
  go_enter Try.func106, Try.ntmps106
  go_wp2_with fail
  refine key.mono ?_
  rintro e w2 ⟨rfl, hy⟩
  go_wp2
  go_ret
  exact ⟨rfl, hy⟩
end Go.Proofs.Ythopgonbndoidaa
