/- The program's small functions: within, find, and the iterator over the way up from a reach. -/
import Derived.Test.YthopgonbndoidaaVP
import Derived.Test.YthopgonbndoidaaProg
import Derived.Shelf.Abstract
namespace Go.Proofs.Ythopgonbndoidaa
open Go.RowKit Go.Shelf

/-- slices that read as lists -/
def IntsAt (w : World) (v : Value) (l : List Int) : Prop :=
  ∃ ao cap, v = .slice ao l.length cap ∧ l.length ≤ cap ∧ ∀ i (h : i < l.length), ∃ b o, ao = some ⟨b, o, none⟩ ∧ w.cell? ⟨b, o + i, none⟩ = some (.int .i64 l[i])
def RcsAt (w : World) (v : Value) (l : List Rc) : Prop :=
  ∃ ao cap, v = .slice ao l.length cap ∧ l.length ≤ cap ∧ ∀ i (h : i < l.length), ∃ b o, ao = some ⟨b, o, none⟩ ∧
    w.cell? ⟨b, o + i * 2, none⟩ = some (.int .i64 (l[i].above)) ∧ w.cell? ⟨b, o + i * 2 + 1, none⟩ = some (.int .i64 (l[i].cost))
def PysAt (w : World) (v : Value) (l : List Py) : Prop :=
  ∃ ao cap, v = .slice ao l.length cap ∧ l.length ≤ cap ∧ ∀ i (h : i < l.length), ∃ b o, ao = some ⟨b, o, none⟩ ∧
    w.cell? ⟨b, o + i * 3, none⟩ = some (.int .i64 (l[i].id)) ∧ w.cell? ⟨b, o + i * 3 + 1, none⟩ = some (.int .i64 (l[i].reach)) ∧ w.cell? ⟨b, o + i * 3 + 2, none⟩ = some (.int .i64 (l[i].w))
theorem IntsAt.ext {w w' : World} {v : Value} {l : List Int} (h : IntsAt w v l) (x : Ext w w') : IntsAt w' v l := by
  obtain ⟨ao, cap, hv, hle, hc⟩ := h
  refine ⟨ao, cap, hv, hle, fun i hi => ?_⟩
  obtain ⟨b, o, h0, h1⟩ := hc i hi
  exact ⟨b, o, h0, x.cell h1⟩
theorem RcsAt.ext {w w' : World} {v : Value} {l : List Rc} (h : RcsAt w v l) (x : Ext w w') : RcsAt w' v l := by
  obtain ⟨ao, cap, hv, hle, hc⟩ := h
  refine ⟨ao, cap, hv, hle, fun i hi => ?_⟩
  obtain ⟨b, o, h0, h1, h2⟩ := hc i hi
  exact ⟨b, o, h0, x.cell h1, x.cell h2⟩
theorem PysAt.ext {w w' : World} {v : Value} {l : List Py} (h : PysAt w v l) (x : Ext w w') : PysAt w' v l := by
  obtain ⟨ao, cap, hv, hle, hc⟩ := h
  refine ⟨ao, cap, hv, hle, fun i hi => ?_⟩
  obtain ⟨b, o, h0, h1, h2, h3⟩ := hc i hi
  exact ⟨b, o, h0, x.cell h1, x.cell h2, x.cell h3⟩
theorem IntsAt.len {w : World} {v : Value} {l : List Int} (h : IntsAt w v l) : ∃ ao cap, v = .slice ao l.length cap ∧ l.length ≤ cap := by obtain ⟨ao, cap, hv, hle, _⟩ := h; exact ⟨ao, cap, hv, hle⟩
theorem RcsAt.len {w : World} {v : Value} {l : List Rc} (h : RcsAt w v l) : ∃ ao cap, v = .slice ao l.length cap ∧ l.length ≤ cap := by obtain ⟨ao, cap, hv, hle, _⟩ := h; exact ⟨ao, cap, hv, hle⟩
theorem PysAt.len {w : World} {v : Value} {l : List Py} (h : PysAt w v l) : ∃ ao cap, v = .slice ao l.length cap ∧ l.length ≤ cap := by obtain ⟨ao, cap, hv, hle, _⟩ := h; exact ⟨ao, cap, hv, hle⟩
theorem IntsAt.get {w : World} {ao : Option Addr} {n cap : Nat} {l : List Int} (h : IntsAt w (.slice ao n cap) l) (i : Nat) (hi : i < l.length) : ∃ b o, ao = some ⟨b, o, none⟩ ∧ w.cell? ⟨b, o + i, none⟩ = some (.int .i64 l[i]) := by
  obtain ⟨ao', cap', hv, _, hc⟩ := h
  simp only [Value.slice.injEq] at hv
  obtain ⟨rfl, rfl, rfl⟩ := hv
  exact hc i hi
theorem RcsAt.get {w : World} {ao : Option Addr} {n cap : Nat} {l : List Rc} (h : RcsAt w (.slice ao n cap) l) (i : Nat) (hi : i < l.length) : ∃ b o, ao = some ⟨b, o, none⟩ ∧
    w.cell? ⟨b, o + i * 2, none⟩ = some (.int .i64 (l[i].above)) ∧ w.cell? ⟨b, o + i * 2 + 1, none⟩ = some (.int .i64 (l[i].cost)) := by
  obtain ⟨ao', cap', hv, _, hc⟩ := h
  simp only [Value.slice.injEq] at hv
  obtain ⟨rfl, rfl, rfl⟩ := hv
  exact hc i hi
theorem PysAt.get {w : World} {ao : Option Addr} {n cap : Nat} {l : List Py} (h : PysAt w (.slice ao n cap) l) (i : Nat) (hi : i < l.length) : ∃ b o, ao = some ⟨b, o, none⟩ ∧
    w.cell? ⟨b, o + i * 3, none⟩ = some (.int .i64 (l[i].id)) ∧ w.cell? ⟨b, o + i * 3 + 1, none⟩ = some (.int .i64 (l[i].reach)) ∧ w.cell? ⟨b, o + i * 3 + 2, none⟩ = some (.int .i64 (l[i].w)) := by
  obtain ⟨ao', cap', hv, _, hc⟩ := h
  simp only [Value.slice.injEq] at hv
  obtain ⟨rfl, rfl, rfl⟩ := hv
  exact hc i hi
theorem PysAt.take {w : World} {ao : Option Addr} {n cap : Nat} {l : List Py} (h : PysAt w (.slice ao n cap) l) (k : Nat) (hk : k ≤ l.length) : PysAt w (.slice ao k cap) (l.take k) := by
  obtain ⟨ao', cap', hv, hle, hc⟩ := h
  simp only [Value.slice.injEq] at hv
  obtain ⟨rfl, rfl, rfl⟩ := hv
  have hlen : (l.take k).length = k := by rw [List.length_take]; omega
  refine ⟨ao, cap, by rw [hlen], by omega, fun i hi => ?_⟩
  obtain ⟨b, o, h0, h1, h2, h3⟩ := hc i (by omega)
  exact ⟨b, o, h0, by rw [List.getElem_take]; exact h1, by rw [List.getElem_take]; exact h2, by rw [List.getElem_take]; exact h3⟩
theorem intsAt_nil (w : World) : IntsAt w (.slice none 0 0) [] := ⟨none, 0, rfl, by simp, fun i hi => by simp at hi⟩
theorem rcsAt_nil (w : World) : RcsAt w (.slice none 0 0) [] := ⟨none, 0, rfl, by simp, fun i hi => by simp at hi⟩
theorem pysAt_nil (w : World) : PysAt w (.slice none 0 0) [] := ⟨none, 0, rfl, by simp, fun i hi => by simp at hi⟩
/-- two values that are the fields of a tree -/
structure TrAt (w : World) (a b : Value) (T : Tr) : Prop where
  r : RcsAt w a T.rs
  p : PysAt w b T.ps
theorem TrAt.ext {w w' : World} {a b : Value} {T : Tr} (h : TrAt w a b T) (x : Ext w w') : TrAt w' a b T := ⟨h.r.ext x, h.p.ext x⟩

set_option maxHeartbeats 1000000 in
theorem within_any (n lo hi : Int) (w : World) :
    Calls Try.prog 64 #[.int .i64 n, .int .i64 lo, .int .i64 hi] w fun e w' => e = .returned (.bool (inB n lo hi)) ∧ w = w' := by
  go_enter Try.func64, Try.ntmps64
  by_cases h1 : lo ≤ n
  · by_cases h2 : n ≤ hi
    · go_wp2
      go_ret
      exact ⟨ret_bool (by simp [inB, h1, h2]), rfl⟩
    · go_wp2
      go_ret
      exact ⟨ret_bool (by simp [inB, h1, h2]), rfl⟩
  · go_wp2
    go_ret
    exact ⟨ret_bool (by simp [inB]; omega), rfl⟩

set_option maxHeartbeats 1000000 in
theorem find1_any (B : Nat) (a b c id : Int) (w : World) (hB : Cls B 3 #[.int .i64 id] w) :
    Calls Try.prog 103 #[.agg #[.int .i64 a, .int .i64 b, .int .i64 c], .pointer (some ⟨B, 0, none⟩)] w fun e w' => e = .returned (.bool (a == id)) ∧ Ext w w' := by
  have c0 : w.cell? ⟨B, 0, none⟩ = some (.int .i64 id) := hB.cell 0
  go_enter Try.func103, Try.ntmps103
  have c1 : (w.alloc (.cells #[.int .i64 a, .int .i64 b, .int .i64 c] 45)).cell? ⟨B, 0, none⟩ = some (.int .i64 id) := Ext.cell (by repeat (first | exact Ext.refl _ | assumption | refine Ext.alloc ?_ _ | refine Ext.drew ?_ | refine Ext.drewN _ ?_ | refine Ext.trans ?_ (by assumption))) c0
  go_wp2
  go_ret
  exact ⟨ret_bool (by simp), (by repeat (first | exact Ext.refl _ | assumption | refine Ext.alloc ?_ _ | refine Ext.drew ?_ | refine Ext.drewN _ ?_ | refine Ext.trans ?_ (by assumption)))⟩
theorem fndF_lo {id : Int} {l : List Py} : ∀ {i : Nat}, fndF id i l = -1 ∨ (i ≤ fndF id i l ∧ fndF id i l < i + l.length) := by
  induction l with
  | nil => intro i; left; rfl
  | cons q l ih =>
    intro i
    rw [fndF]
    split
    · right; simp; omega
    · rcases ih (i := i + 1) with h | h
      · left; exact h
      · right; simp only [List.length_cons]; omega
theorem fndF_hit {id : Int} {l : List Py} {k : Nat} (h : k < l.length) (hq : (l[k].id == id) = true) : fndF id k (l.drop k) = k := by
  rw [drop_get l k h, fndF, if_pos hq]
theorem fndF_miss {id : Int} {l : List Py} {k : Nat} (h : k < l.length) (hq : (l[k].id == id) = false) : fndF id k (l.drop k) = fndF id (k + 1) (l.drop (k + 1)) := by
  rw [drop_get l k h, fndF, if_neg (by rw [hq]; decide)]
theorem fndF_end {id : Int} {l : List Py} : fndF id l.length (l.drop l.length) = -1 := by simp [fndF]

set_option maxRecDepth 100000 in
set_option maxHeartbeats 2000000 in
theorem find_any (v : Value) (l : List Py) (id : Int) (w : World) (hl : PysAt w v l) (hn : l.length ≤ 1000) :
    Calls Try.prog 60 #[v, .int .i64 id] w fun e w' => e = .returned (.int .i64 (fnd l id)) ∧ Ext w w' := by
  obtain ⟨A, c, rfl, _⟩ := hl.len
  have key : ∀ W, Cls w.heap.size 3 #[.int .i64 id] W → PysAt W (.slice A l.length c) l →
      Calls Try.prog 102 #[.slice A l.length c, .func (.func 103) #[] #[.pointer (some ⟨w.heap.size, 0, none⟩)]] W fun e w' => e = .returned (.int .i64 (fnd l id)) ∧ Ext W w' := by
    intro W hB hl
    obtain ⟨F, hF⟩ : ∃ F, fnd l id = F := ⟨_, rfl⟩
    have HF := Lib.hid hF
    rw [hF]
    clear hF
    go_enter Try.func102, Try.ntmps102
    go_wp2_with fail
    go_loopw [8] (fun i wr => ∃ k : Nat, k ≤ l.length ∧ i = .int .i64 k ∧ Hid (fndF id k (l.drop k) = F) ∧ Ext W wr) (fun i _ => l.length - (intOf i).toNat)
    case atStart => exact ⟨0, Nat.zero_le _, rfl, HF, Ext.refl _⟩
    case round =>
      obtain ⟨k, hk, rfl, HK, hx⟩ := hrel
      by_cases hlt : k < l.length
      · obtain ⟨b, o, rfl, c0, c1, c2⟩ := (hl.ext hx).get k hlt
        have hhit := fndF_hit (id := id) hlt
        have hmiss := fndF_miss (id := id) hlt
        rw [HK.out] at hhit hmiss
        obtain ⟨x, hxx⟩ : ∃ x, l[k].id = x := ⟨_, rfl⟩
        rw [hxx] at c0 hhit hmiss
        have C := find1_any w.heap.size x l[k].reach l[k].w id wr (hB.ext hx)
        cases hq : (x == id)
        · rw [hq] at C
          have H1 := Lib.hid (hmiss hq)
          clear hxx hhit hmiss
          go_wp2_with fail
          refine C.mono ?_
          rintro e w2 ⟨rfl, hy⟩
          go_wp2
          go_roundw
          case rel => exact ⟨k + 1, by omega, by go_num, Lib.hid H1.out.symm, hx.trans hy⟩
          case measure => simp [intOf]; omega
        · rw [hq] at C
          have H1 := Lib.hid (hhit hq)
          clear hxx hhit hmiss
          go_wp2_with fail
          refine C.mono ?_
          rintro e w2 ⟨rfl, hy⟩
          go_wp2
          go_ret
          exact ⟨ret_int H1.out.symm, hx.trans hy⟩
      · obtain rfl : k = l.length := by omega
        have he := fndF_end (id := id) (l := l)
        rw [HK.out] at he
        have HE := Lib.hid he
        clear he
        go_wp2
        go_ret
        exact ⟨ret_int HE.out.symm, hx⟩
  go_enter Try.func60, Try.ntmps60
  go_wp2_with fail
  refine (key _ (Cls.new _ _ _) (hl.ext (by repeat (first | exact Ext.refl _ | assumption | refine Ext.alloc ?_ _ | refine Ext.drew ?_ | refine Ext.drewN _ ?_ | refine Ext.trans ?_ (by assumption))))).mono ?_
  rintro e w2 ⟨rfl, hy⟩
  go_wp2
  go_ret
  exact ⟨rfl, Ext.trans (by repeat (first | exact Ext.refl _ | assumption | refine Ext.alloc ?_ _ | refine Ext.drew ?_ | refine Ext.drewN _ ?_ | refine Ext.trans ?_ (by assumption))) hy⟩

set_option maxHeartbeats 1000000 in
theorem up_any (a b : Value) (r : Int) (w : World) :
    Calls Try.prog 91 #[.agg #[a, b], .int .i64 r] w fun e w' => e = .returned (.func (.func 117) #[] #[.pointer (some ⟨w.heap.size + 1, 0, none⟩), .pointer (some ⟨w.heap.size, 0, none⟩)]) ∧ (w.alloc (.cells #[a, b] 25)).alloc (.cells #[.int .i64 r] 3) = w' := by
  go_enter Try.func91, Try.ntmps91
  go_wp2
  go_ret
  exact ⟨rfl, rfl⟩
end Go.Proofs.Ythopgonbndoidaa
