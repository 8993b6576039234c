/- The program's small functions: within, find, and the iterator over the way up from a reach. The iterator over the reaches from the last one to the first (slices.Backward). The iterator over the way up from a reach: for every loop body that keeps what lay before, and its two boxes. uses of the program: whether a payer uses a reach. -/
import Derived.Test.YthopgonbndoidaaVP
import Derived.Test.YthopgonbndoidaaProg
import Derived.Shelf.Abstract
namespace Go.Proofs.Ythopgonbndoidaa
open Go.RowKit Go.Shelf

/-- slices that read as lists -/
def IntsAt (w : World) (v : Value) (l : List Int) : Prop :=
  ∃ ao cap, v = .slice ao l.length cap ∧ l.length ≤ cap ∧ ∀ i (h : i < l.length), ∃ b o, ao = some ⟨b, o, none⟩ ∧ w.cell? ⟨b, o + i, none⟩ = some (.int .i64 l[i])
def RcsAt (w : World) (v : Value) (l : List Rc) : Prop :=
  ∃ ao cap, v = .slice ao l.length cap ∧ l.length ≤ cap ∧ ∀ i (h : i < l.length), ∃ b o, ao = some ⟨b, o, none⟩ ∧
    w.cell? ⟨b, o + i * 2, none⟩ = some (.int .i64 (l[i].above)) ∧ w.cell? ⟨b, o + i * 2 + 1, none⟩ = some (.int .i64 (l[i].cost))
def PysAt (w : World) (v : Value) (l : List Py) : Prop :=
  ∃ ao cap, v = .slice ao l.length cap ∧ l.length ≤ cap ∧ ∀ i (h : i < l.length), ∃ b o, ao = some ⟨b, o, none⟩ ∧
    w.cell? ⟨b, o + i * 3, none⟩ = some (.int .i64 (l[i].id)) ∧ w.cell? ⟨b, o + i * 3 + 1, none⟩ = some (.int .i64 (l[i].reach)) ∧ w.cell? ⟨b, o + i * 3 + 2, none⟩ = some (.int .i64 (l[i].w))
theorem IntsAt.ext {w w' : World} {v : Value} {l : List Int} (h : IntsAt w v l) (x : Ext w w') : IntsAt w' v l := by
  obtain ⟨ao, cap, hv, hle, hc⟩ := h
  refine ⟨ao, cap, hv, hle, fun i hi => ?_⟩
  obtain ⟨b, o, h0, h1⟩ := hc i hi
  exact ⟨b, o, h0, x.cell h1⟩
theorem RcsAt.ext {w w' : World} {v : Value} {l : List Rc} (h : RcsAt w v l) (x : Ext w w') : RcsAt w' v l := by
  obtain ⟨ao, cap, hv, hle, hc⟩ := h
  refine ⟨ao, cap, hv, hle, fun i hi => ?_⟩
  obtain ⟨b, o, h0, h1, h2⟩ := hc i hi
  exact ⟨b, o, h0, x.cell h1, x.cell h2⟩
theorem PysAt.ext {w w' : World} {v : Value} {l : List Py} (h : PysAt w v l) (x : Ext w w') : PysAt w' v l := by
  obtain ⟨ao, cap, hv, hle, hc⟩ := h
  refine ⟨ao, cap, hv, hle, fun i hi => ?_⟩
  obtain ⟨b, o, h0, h1, h2, h3⟩ := hc i hi
  exact ⟨b, o, h0, x.cell h1, x.cell h2, x.cell h3⟩
theorem IntsAt.len {w : World} {v : Value} {l : List Int} (h : IntsAt w v l) : ∃ ao cap, v = .slice ao l.length cap ∧ l.length ≤ cap := by obtain ⟨ao, cap, hv, hle, _⟩ := h; exact ⟨ao, cap, hv, hle⟩
theorem RcsAt.len {w : World} {v : Value} {l : List Rc} (h : RcsAt w v l) : ∃ ao cap, v = .slice ao l.length cap ∧ l.length ≤ cap := by obtain ⟨ao, cap, hv, hle, _⟩ := h; exact ⟨ao, cap, hv, hle⟩
theorem PysAt.len {w : World} {v : Value} {l : List Py} (h : PysAt w v l) : ∃ ao cap, v = .slice ao l.length cap ∧ l.length ≤ cap := by obtain ⟨ao, cap, hv, hle, _⟩ := h; exact ⟨ao, cap, hv, hle⟩
theorem IntsAt.get {w : World} {ao : Option Addr} {n cap : Nat} {l : List Int} (h : IntsAt w (.slice ao n cap) l) (i : Nat) (hi : i < l.length) : ∃ b o, ao = some ⟨b, o, none⟩ ∧ w.cell? ⟨b, o + i, none⟩ = some (.int .i64 l[i]) := by
  obtain ⟨ao', cap', hv, _, hc⟩ := h
  simp only [Value.slice.injEq] at hv
  obtain ⟨rfl, rfl, rfl⟩ := hv
  exact hc i hi
theorem RcsAt.get {w : World} {ao : Option Addr} {n cap : Nat} {l : List Rc} (h : RcsAt w (.slice ao n cap) l) (i : Nat) (hi : i < l.length) : ∃ b o, ao = some ⟨b, o, none⟩ ∧
    w.cell? ⟨b, o + i * 2, none⟩ = some (.int .i64 (l[i].above)) ∧ w.cell? ⟨b, o + i * 2 + 1, none⟩ = some (.int .i64 (l[i].cost)) := by
  obtain ⟨ao', cap', hv, _, hc⟩ := h
  simp only [Value.slice.injEq] at hv
  obtain ⟨rfl, rfl, rfl⟩ := hv
  exact hc i hi
theorem PysAt.get {w : World} {ao : Option Addr} {n cap : Nat} {l : List Py} (h : PysAt w (.slice ao n cap) l) (i : Nat) (hi : i < l.length) : ∃ b o, ao = some ⟨b, o, none⟩ ∧
    w.cell? ⟨b, o + i * 3, none⟩ = some (.int .i64 (l[i].id)) ∧ w.cell? ⟨b, o + i * 3 + 1, none⟩ = some (.int .i64 (l[i].reach)) ∧ w.cell? ⟨b, o + i * 3 + 2, none⟩ = some (.int .i64 (l[i].w)) := by
  obtain ⟨ao', cap', hv, _, hc⟩ := h
  simp only [Value.slice.injEq] at hv
  obtain ⟨rfl, rfl, rfl⟩ := hv
  exact hc i hi
theorem PysAt.take {w : World} {ao : Option Addr} {n cap : Nat} {l : List Py} (h : PysAt w (.slice ao n cap) l) (k : Nat) (hk : k ≤ l.length) : PysAt w (.slice ao k cap) (l.take k) := by
  obtain ⟨ao', cap', hv, hle, hc⟩ := h
  simp only [Value.slice.injEq] at hv
  obtain ⟨rfl, rfl, rfl⟩ := hv
  have hlen : (l.take k).length = k := by rw [List.length_take]; omega
  refine ⟨ao, cap, by rw [hlen], by omega, fun i hi => ?_⟩
  obtain ⟨b, o, h0, h1, h2, h3⟩ := hc i (by omega)
  exact ⟨b, o, h0, by rw [List.getElem_take]; exact h1, by rw [List.getElem_take]; exact h2, by rw [List.getElem_take]; exact h3⟩
theorem intsAt_nil (w : World) : IntsAt w (.slice none 0 0) [] := ⟨none, 0, rfl, by simp, fun i hi => by simp at hi⟩
theorem rcsAt_nil (w : World) : RcsAt w (.slice none 0 0) [] := ⟨none, 0, rfl, by simp, fun i hi => by simp at hi⟩
theorem pysAt_nil (w : World) : PysAt w (.slice none 0 0) [] := ⟨none, 0, rfl, by simp, fun i hi => by simp at hi⟩
/-- two values that are the fields of a tree -/
structure TrAt (w : World) (a b : Value) (T : Tr) : Prop where
  r : RcsAt w a T.rs
  p : PysAt w b T.ps
theorem TrAt.ext {w w' : World} {a b : Value} {T : Tr} (h : TrAt w a b T) (x : Ext w w') : TrAt w' a b T := ⟨h.r.ext x, h.p.ext x⟩

set_option maxHeartbeats 1000000 in
theorem within_any (n lo hi : Int) (w : World) :
    Calls Try.prog 64 #[.int .i64 n, .int .i64 lo, .int .i64 hi] w fun e w' => e = .returned (.bool (inB n lo hi)) ∧ w = w' := by
  go_enter Try.func64, Try.ntmps64
  by_cases h1 : lo ≤ n
  · by_cases h2 : n ≤ hi
    · go_wp2
      go_ret
      exact ⟨ret_bool (by simp [inB, h1, h2]), rfl⟩
    · go_wp2
      go_ret
      exact ⟨ret_bool (by simp [inB, h1, h2]), rfl⟩
  · go_wp2
    go_ret
    exact ⟨ret_bool (by simp [inB]; omega), rfl⟩

set_option maxHeartbeats 1000000 in
theorem find1_any (B : Nat) (a b c id : Int) (w : World) (hB : Cls B 3 #[.int .i64 id] w) :
    Calls Try.prog 103 #[.agg #[.int .i64 a, .int .i64 b, .int .i64 c], .pointer (some ⟨B, 0, none⟩)] w fun e w' => e = .returned (.bool (a == id)) ∧ Ext w w' := by
  have c0 : w.cell? ⟨B, 0, none⟩ = some (.int .i64 id) := hB.cell 0
  go_enter Try.func103, Try.ntmps103
  have c1 : (w.alloc (.cells #[.int .i64 a, .int .i64 b, .int .i64 c] 45)).cell? ⟨B, 0, none⟩ = some (.int .i64 id) := Ext.cell (by repeat (first | exact Ext.refl _ | assumption | refine Ext.alloc ?_ _ | refine Ext.drew ?_ | refine Ext.drewN _ ?_ | refine Ext.trans ?_ (by assumption))) c0
  go_wp2
  go_ret
  exact ⟨ret_bool (by simp), (by repeat (first | exact Ext.refl _ | assumption | refine Ext.alloc ?_ _ | refine Ext.drew ?_ | refine Ext.drewN _ ?_ | refine Ext.trans ?_ (by assumption)))⟩
theorem fndF_lo {id : Int} {l : List Py} : ∀ {i : Nat}, fndF id i l = -1 ∨ (i ≤ fndF id i l ∧ fndF id i l < i + l.length) := by
  induction l with
  | nil => intro i; left; rfl
  | cons q l ih =>
    intro i
    rw [fndF]
    split
    · right; simp; omega
    · rcases ih (i := i + 1) with h | h
      · left; exact h
      · right; simp only [List.length_cons]; omega
theorem fndF_hit {id : Int} {l : List Py} {k : Nat} (h : k < l.length) (hq : (l[k].id == id) = true) : fndF id k (l.drop k) = k := by
  rw [drop_get l k h, fndF, if_pos hq]
theorem fndF_miss {id : Int} {l : List Py} {k : Nat} (h : k < l.length) (hq : (l[k].id == id) = false) : fndF id k (l.drop k) = fndF id (k + 1) (l.drop (k + 1)) := by
  rw [drop_get l k h, fndF, if_neg (by rw [hq]; decide)]
theorem fndF_end {id : Int} {l : List Py} : fndF id l.length (l.drop l.length) = -1 := by simp [fndF]

set_option maxRecDepth 100000 in
set_option maxHeartbeats 2000000 in
theorem find_any (v : Value) (l : List Py) (id : Int) (w : World) (hl : PysAt w v l) (hn : l.length ≤ 1000) :
    Calls Try.prog 60 #[v, .int .i64 id] w fun e w' => e = .returned (.int .i64 (fnd l id)) ∧ Ext w w' := by
  obtain ⟨A, c, rfl, _⟩ := hl.len
  have key : ∀ W, Cls w.heap.size 3 #[.int .i64 id] W → PysAt W (.slice A l.length c) l →
      Calls Try.prog 102 #[.slice A l.length c, .func (.func 103) #[] #[.pointer (some ⟨w.heap.size, 0, none⟩)]] W fun e w' => e = .returned (.int .i64 (fnd l id)) ∧ Ext W w' := by
    intro W hB hl
    obtain ⟨F, hF⟩ : ∃ F, fnd l id = F := ⟨_, rfl⟩
    have HF := Lib.hid hF
    rw [hF]
    clear hF
    go_enter Try.func102, Try.ntmps102
    go_wp2_with fail
    go_loopw [8] (fun i wr => ∃ k : Nat, k ≤ l.length ∧ i = .int .i64 k ∧ Hid (fndF id k (l.drop k) = F) ∧ Ext W wr) (fun i _ => l.length - (intOf i).toNat)
    case atStart => exact ⟨0, Nat.zero_le _, rfl, HF, Ext.refl _⟩
    case round =>
      obtain ⟨k, hk, rfl, HK, hx⟩ := hrel
      by_cases hlt : k < l.length
      · obtain ⟨b, o, rfl, c0, c1, c2⟩ := (hl.ext hx).get k hlt
        have hhit := fndF_hit (id := id) hlt
        have hmiss := fndF_miss (id := id) hlt
        rw [HK.out] at hhit hmiss
        obtain ⟨x, hxx⟩ : ∃ x, l[k].id = x := ⟨_, rfl⟩
        rw [hxx] at c0 hhit hmiss
        have C := find1_any w.heap.size x l[k].reach l[k].w id wr (hB.ext hx)
        cases hq : (x == id)
        · rw [hq] at C
          have H1 := Lib.hid (hmiss hq)
          clear hxx hhit hmiss
          go_wp2_with fail
          refine C.mono ?_
          rintro e w2 ⟨rfl, hy⟩
          go_wp2
          go_roundw
          case rel => exact ⟨k + 1, by omega, by go_num, Lib.hid H1.out.symm, hx.trans hy⟩
          case measure => simp [intOf]; omega
        · rw [hq] at C
          have H1 := Lib.hid (hhit hq)
          clear hxx hhit hmiss
          go_wp2_with fail
          refine C.mono ?_
          rintro e w2 ⟨rfl, hy⟩
          go_wp2
          go_ret
          exact ⟨ret_int H1.out.symm, hx.trans hy⟩
      · obtain rfl : k = l.length := by omega
        have he := fndF_end (id := id) (l := l)
        rw [HK.out] at he
        have HE := Lib.hid he
        clear he
        go_wp2
        go_ret
        exact ⟨ret_int HE.out.symm, hx⟩
  go_enter Try.func60, Try.ntmps60
  go_wp2_with fail
  refine (key _ (Cls.new _ _ _) (hl.ext (by repeat (first | exact Ext.refl _ | assumption | refine Ext.alloc ?_ _ | refine Ext.drew ?_ | refine Ext.drewN _ ?_ | refine Ext.trans ?_ (by assumption))))).mono ?_
  rintro e w2 ⟨rfl, hy⟩
  go_wp2
  go_ret
  exact ⟨rfl, Ext.trans (by repeat (first | exact Ext.refl _ | assumption | refine Ext.alloc ?_ _ | refine Ext.drew ?_ | refine Ext.drewN _ ?_ | refine Ext.trans ?_ (by assumption))) hy⟩

set_option maxHeartbeats 1000000 in
theorem up_any (a b : Value) (r : Int) (w : World) :
    Calls Try.prog 91 #[.agg #[a, b], .int .i64 r] w fun e w' => e = .returned (.func (.func 117) #[] #[.pointer (some ⟨w.heap.size + 1, 0, none⟩), .pointer (some ⟨w.heap.size, 0, none⟩)]) ∧ (w.alloc (.cells #[a, b] 25)).alloc (.cells #[.int .i64 r] 3) = w' := by
  go_enter Try.func91, Try.ntmps91
  go_wp2
  go_ret
  exact ⟨rfl, rfl⟩
end Go.Proofs.Ythopgonbndoidaa
namespace Go.Proofs.Ythopgonbndoidaa
open Go.RowKit Go.Shelf

attribute [local go_sem] Oper.semAt_some

/-- the numbers below k, the greatest first -/
def bk : Nat → List Nat
  | 0 => []
  | k + 1 => k :: bk k
theorem bk_len (k : Nat) : (bk k).length = k := by
  induction k with
  | zero => rfl
  | succ k ih => simp [bk, ih]
def encB (rs : List Rc) (i : Nat) : Array Value := #[.int .i64 i, .agg #[.int .i64 (abv rs i), .int .i64 (cst rs i)]]
theorem bk_at : ∀ {n : Nat} {pre rest : List Nat}, bk n = pre ++ rest → rest = bk (n - pre.length) := by
  intro n pre
  induction pre generalizing n with
  | nil => intro rest h; simpa using h.symm
  | cons x pre ih =>
    intro rest h
    cases n with
    | zero => simp [bk] at h
    | succ n =>
      simp only [bk, List.cons_append, List.cons.injEq] at h
      have := ih h.2
      rw [this, List.length_cons]
      congr 1; omega
/-- where a round stands -/
theorem bk_next {n i : Nat} {pre : List Nat} (h : pre ++ [i] <+: bk n) : pre.length + i + 1 = n := by
  obtain ⟨t, ht⟩ := h
  have h1 := bk_at (n := n) (pre := pre) (rest := i :: t) (by rw [← ht]; simp)
  have h2 : pre.length ≤ n := by
    have := congrArg List.length ht
    rw [bk_len] at this
    simp at this; omega
  cases hk : n - pre.length with
  | zero => rw [hk] at h1; simp [bk] at h1
  | succ k =>
    rw [hk] at h1
    simp only [bk, List.cons.injEq] at h1
    omega

set_option maxRecDepth 100000 in
set_option maxHeartbeats 2000000 in
theorem back1_in (l n Bt : Nat) (hn : 1 ≤ n) (rs : List Rc) (hlr : rs.length ≤ 1000) (a : Value) (w0 w1 : World) (hw1 : Ext w0 w1) (tt : TypeId) (hB : Cls Bt tt #[a] w1) (hT : RcsAt w0 a rs)
    (J Jx : List Nat → World → Prop)
    (hY : ∀ pre x W, J pre W → pre ++ [x] <+: bk rs.length → YieldAt Fence.wide (n - 1) Try.prog l (encB rs x) W fun e W' =>
      (e = .returned (.bool true) ∧ J (pre ++ [x]) W' ∧ KpB w0.heap.size [Bt] W W') ∨ (e = .returned (.bool false) ∧ Jx (pre ++ [x]) W'))
    (W : World) (hW : Ext w1 W) (hJ0 : J [] W) :
    CallsIn Fence.wide n Try.prog 118 #[.func (.yield l) #[] #[], .pointer (some ⟨Bt, 0, none⟩)] W fun e W' => (∃ v, e = .returned v) ∧
      ((∃ ys, ys = bk rs.length ∧ J ys W') ∨ (∃ pre, pre <+: bk rs.length ∧ Jx pre W')) := by
  obtain ⟨A, c, rfl, _⟩ := hT.len
  have hxW := hw1.trans hW
  have hBW := hB.ext hW
  have d0 : W.cell? ⟨Bt, 0, none⟩ = some (.slice A rs.length c) := hBW.cell 0
  clear hB hW
  refine callsIn_of_wp Try.func118 rfl trivial ?_ rfl
  simp only [Try.ntmps118, List.size_toArray, List.length_cons, List.length_nil, Nat.reduceAdd, Nat.reduceSub, Array.replicate_succ, Array.replicate_zero, List.push_toArray, List.append_toArray, List.nil_append, List.cons_append]
  gi_wp2_with fail
  gi_loopw [3] (fun i wr => ∃ (pre : List Nat) (k : Nat), bk rs.length = pre ++ bk k ∧ k ≤ rs.length ∧ i = .int .i64 ((k : Int) - 1) ∧ J pre wr ∧ Ext w0 wr ∧ Cls Bt tt #[.slice A rs.length c] wr) (fun i _ => (intOf i + 1).toNat)
  case atStart => exact ⟨[], rs.length, rfl, Nat.le_refl _, rfl, hJ0, hxW, hBW⟩
  case round =>
    clear d0
    obtain ⟨pre, k, hspl, hk, rfl, hJs, hx, hB⟩ := hrel
    have d0 : wr.cell? ⟨Bt, 0, none⟩ = some (.slice A rs.length c) := hB.cell 0
    cases k with
    | zero =>
      have HS := Lib.hid hspl
      clear hspl
      gi_wp2
      go_end0
      exact ⟨⟨_, rfl⟩, .inl ⟨pre, by rw [HS.out]; simp [bk], hJs⟩⟩
    | succ i =>
      have hi : i < rs.length := by omega
      have hpr : pre ++ [i] <+: bk rs.length := ⟨bk i, by rw [hspl]; simp [bk]⟩
      have hspl2 : bk rs.length = (pre ++ [i]) ++ bk i := by rw [hspl]; simp [bk]
      obtain ⟨fn, tmps, assign, body, hy, hR⟩ := hY pre i wr hJs hpr
      simp only [encB] at hy
      obtain ⟨bb, oo, rfl, c0, c1⟩ := (hT.ext hx).get i hi
      rw [← abv_get hi] at c0
      rw [← cst_get hi] at c1
      have hi1 : (((i + 1 : Nat) : Int) - 1) = i := by omega
      rw [hi1]
      have HS := Lib.hid hspl2
      clear hspl hspl2 hi1 hpr
      gi_wp2_with fail
      refine hR.mono ?_
      rintro e W3 (⟨rfl, hJ3, hk3⟩ | ⟨rfl, hJx3⟩)
      · have hx3 : Ext w0 W3 := hx.trans' hk3.1
        have hB3 := hk3.cls (by simp) hB
        gi_wp2
        go_roundw
        case rel => exact ⟨pre ++ [i], i, HS.out, by omega, rfl, hJ3, hx3, hB3⟩
        case measure => simp [intOf]
      · gi_wp2
        exact bodyPost_ret (results_none rfl _ _ _) rfl ⟨⟨_, rfl⟩, .inr ⟨pre ++ [i], ⟨bk i, HS.out.symm⟩, hJx3⟩⟩

/-- THE REACHES, THE LAST ONE FIRST -/
theorem back_seq (Bt : Nat) (rs : List Rc) (hlr : rs.length ≤ 1000) (a : Value) (w0 w1 : World) (hw1 : Ext w0 w1) (tt : TypeId) (hB : Cls Bt tt #[a] w1) (hT : RcsAt w0 a rs) :
    SeqBox 4 Try.prog 118 #[.pointer (some ⟨Bt, 0, none⟩)] (encB rs) Bt (KpB w0.heap.size [Bt]) (fun ys => ys = bk rs.length) (fun ys => ys <+: bk rs.length) (fun pre x => pre ++ [x] <+: bk rs.length) w1 :=
  fun l J Jx W hW _ hY h0 => back1_in l 4 Bt (by omega) rs hlr a w0 w1 hw1 tt hB hT J Jx hY W hW h0
set_option maxHeartbeats 1000000 in
theorem Backward_any (ao : Option Addr) (n c : Nat) (w : World) :
    Calls Try.prog 96 #[.slice ao n c] w fun e w' => e = .returned (.func (.func 118) #[] #[.pointer (some ⟨w.heap.size, 0, none⟩)]) ∧ w.alloc (.cells #[.slice ao n c] 22) = w' := by
  go_enter Try.func96, Try.ntmps96
  go_wp2
  go_ret
  exact ⟨rfl, rfl⟩

/-! ### what reaches too much: plain words -/
/-- what is paid at each reach -/
def atS (f : Nat → Int) (q : Py × Int) : Nat → Int := fun r => if r = q.1.reach.toNat then f r + q.2 else f r
def atP (l : List (Py × Int)) : Nat → Int := l.foldl atS (fun _ => 0)
theorem atP_snoc (l : List (Py × Int)) (q : Py × Int) : atP (l ++ [q]) = atS (atP l) q := by simp [atP]
theorem atP_bd (l : List (Py × Int)) (h : ∀ q ∈ l, 0 ≤ q.2 ∧ q.2 ≤ 1073741824) (r : Nat) : 0 ≤ atP l r ∧ atP l r ≤ l.length * 1073741824 := by
  induction l using snoc_ind with
  | h0 => simp [atP]
  | h1 l q ih =>
    have i := ih (fun m hm => h m (by simp [hm]))
    have j := h q (by simp)
    rw [atP_snoc, List.length_append, List.length_singleton]
    unfold atS
    push_cast
    split <;> omega
/-- one reach more, from the last one on: what is paid at each, and by how much it is too much -/
def obO (rs : List Rc) (f : Nat → Int) (r : Nat) : Int := max 0 (f r - cst rs r)
def obA (rs : List Rc) (f : Nat → Int) (r : Nat) : Nat → Int := if 0 ≤ abv rs r then fun k => if k = (abv rs r).toNat then f k + obO rs f r else f k else f
def obS (rs : List Rc) (s : (Nat → Int) × (Nat → Int)) (r : Nat) : (Nat → Int) × (Nat → Int) := (obA rs s.1 r, fun k => if k = r then obO rs s.1 r else s.2 k)
def obF (rs : List Rc) (f : Nat → Int) (l : List Nat) : (Nat → Int) × (Nat → Int) := l.foldl (obS rs) (f, fun _ => 0)
theorem obF_snoc (rs : List Rc) (f : Nat → Int) (l : List Nat) (r : Nat) : obF rs f (l ++ [r]) = obS rs (obF rs f l) r := by simp [obF]
def objX (T : Tr) (l : List Int) : Nat → Int := (obF T.rs (atP (T.ps.zip l)) (bk T.rs.length)).2
theorem obF_bd {rs : List Rc} (hV : RsV rs) {f : Nat → Int} {M : Int} (hM : 0 ≤ M) (h : ∀ r, 0 ≤ f r ∧ f r ≤ M) (l : List Nat) : ∀ r, (0 ≤ (obF rs f l).1 r ∧ (obF rs f l).1 r ≤ M * 2 ^ l.length) ∧ (0 ≤ (obF rs f l).2 r ∧ (obF rs f l).2 r ≤ M * 2 ^ l.length) := by
  induction l using snoc_ind with
  | h0 => intro r; have := h r; simp [obF]; omega
  | h1 l x ih =>
    intro r
    rw [obF_snoc, List.length_append, List.length_singleton, Int.pow_succ, ← Int.mul_assoc]
    obtain ⟨B, hB⟩ : ∃ B, M * 2 ^ l.length = B := ⟨_, rfl⟩
    rw [hB] at ih ⊢
    have i := ih r
    have ix := ih x
    have hc := cst_bd hV x
    have ho : 0 ≤ obO rs (obF rs f l).1 x ∧ obO rs (obF rs f l).1 x ≤ B := by unfold obO; omega
    refine ⟨?_, ?_⟩
    · show 0 ≤ obA rs (obF rs f l).1 x r ∧ obA rs (obF rs f l).1 x r ≤ B * 2
      unfold obA
      split
      · simp only
        split <;> omega
      · omega
    · show 0 ≤ (if r = x then obO rs (obF rs f l).1 x else (obF rs f l).2 r) ∧ (if r = x then obO rs (obF rs f l).1 x else (obF rs f l).2 r) ≤ B * 2
      split <;> omega
end Go.Proofs.Ythopgonbndoidaa
namespace Go.Proofs.Ythopgonbndoidaa
open Go.RowKit Go.Shelf

attribute [local go_sem] Oper.semAt_some

/-- an index below n -/
abbrev RIx (n : Nat) : Type := { x : Int // 0 ≤ x ∧ x < (n : Int) }
def encR {n : Nat} (x : RIx n) : Array Value := #[.int .i64 x.1]
def vals {n : Nat} (l : List (RIx n)) : List Int := l.map (·.1)
theorem vals_snoc {n : Nat} (l : List (RIx n)) (x : RIx n) : vals (l ++ [x]) = vals l ++ [x.1] := by simp [vals]
theorem vals_len {n : Nat} (l : List (RIx n)) : (vals l).length = l.length := by simp [vals]
def upS {rs : List Rc} (hV : RsV rs) {r : Int} (h : r < rs.length) : List (RIx rs.length) := (upL rs r).pmap (fun x hx => ⟨x, hx⟩) (upL_in hV h)
theorem upS_vals {rs : List Rc} (hV : RsV rs) {r : Int} (h : r < rs.length) : vals (upS hV h) = upL rs r := by
  unfold vals upS
  rw [List.map_pmap]
  exact List.pmap_eq_self.2 (fun _ _ => rfl)
/-- what the iterator's box says -/
def boxN (W : World) (B : Nat) : Nat := match W.cell? ⟨B, 0, none⟩ with
  | some (.int _ n) => (n + 1).toNat
  | _ => 0
theorem boxN_eq {W : World} {B : Nat} {t : TypeId} {n : Int} (h : Cls B t #[.int .i64 n] W) : boxN W B = (n + 1).toNat := by
  unfold boxN
  rw [h.cell 0]
  rfl

set_option maxRecDepth 100000 in
set_option maxHeartbeats 2000000 in
theorem up1_in (l n Bt Br : Nat) (hn : 1 ≤ n) (T : Tr) (hV : RsV T.rs) (a b : Value) (r : Int) (h1 : -1 ≤ r) (h2 : r < T.rs.length) (w0 w1 : World) (hw1 : Ext w0 w1) (tt tr : TypeId) (hne : Bt ≠ Br) (hBr : w0.heap.size ≤ Br) (hB : Cls Bt tt #[a, b] w1) (hX : Cls Br tr #[.int .i64 r] w1) (hT : RcsAt w0 a T.rs)
    (J Jx : List (RIx T.rs.length) → World → Prop) (hJ : AbidesBox Br J)
    (hY : ∀ pre x W, J pre W → pre ++ [x] <+: upS hV h2 → YieldAt Fence.wide (n - 1) Try.prog l (encR x) W fun e W' =>
      (e = .returned (.bool true) ∧ J (pre ++ [x]) W' ∧ KpB w0.heap.size [Bt, Br] W W') ∨ (e = .returned (.bool false) ∧ Jx (pre ++ [x]) W'))
    (W : World) (hW : Ext w1 W) (hJ0 : J [] W) :
    CallsIn Fence.wide n Try.prog 117 #[.func (.yield l) #[] #[], .pointer (some ⟨Br, 0, none⟩), .pointer (some ⟨Bt, 0, none⟩)] W fun e W' => (∃ v, e = .returned v) ∧
      ((∃ ys, ys = upS hV h2 ∧ J ys W') ∨ (∃ pre, pre <+: upS hV h2 ∧ Jx pre W')) := by
  obtain ⟨A, c, rfl, _⟩ := hT.len
  have hval := upS_vals hV h2
  obtain ⟨xs, hxs⟩ : ∃ xs, upS hV h2 = xs := ⟨_, rfl⟩
  rw [hxs] at hval hY ⊢
  have HV := Lib.hid hval
  have hxW := hw1.trans hW
  have hBW := hB.ext hW
  have hXW := hX.ext hW
  clear hval hxs hB hX hW
  refine callsIn_of_wp Try.func117 rfl trivial ?_ rfl
  simp only [Try.ntmps117, List.size_toArray, List.length_cons, List.length_nil, Nat.reduceAdd, Nat.reduceSub, Array.replicate_succ, Array.replicate_zero, List.push_toArray, List.append_toArray, List.nil_append, List.cons_append]
  gi_wp2_with fail
  gi_loopw [4] (fun _ wr => ∃ (pre rest : List (RIx T.rs.length)) (cur : Int), xs = pre ++ rest ∧ vals rest = upL T.rs cur ∧ (-1 ≤ cur ∧ cur < T.rs.length) ∧ J pre wr ∧ Ext w0 wr ∧ Cls Bt tt #[.slice A T.rs.length c, b] wr ∧ Cls Br tr #[.int .i64 cur] wr) (fun _ wr => boxN wr Br)
  case atStart => exact ⟨[], xs, r, rfl, HV.out, ⟨h1, h2⟩, hJ0, hxW, hBW, hXW⟩
  case round =>
    obtain ⟨pre, rest, cur, hspl, hrest, ⟨hc1, hc2⟩, hJs, hx, hB, hX⟩ := hrel
    have d0 : wr.cell? ⟨Br, 0, none⟩ = some (.int .i64 cur) := hX.cell 0
    by_cases h0 : 0 ≤ cur
    · obtain ⟨i, rfl⟩ : ∃ i : Nat, cur = i := ⟨cur.toNat, by omega⟩
      have hi : i < T.rs.length := by omega
      have hv := hV.v i hi
      rw [upL_step hV hi] at hrest
      obtain ⟨x, rest', rfl⟩ : ∃ x rest', rest = x :: rest' := by
        cases rest with
        | nil => simp [vals] at hrest
        | cons x l => exact ⟨x, l, rfl⟩
      have hr2 : x.1 = (i : Int) ∧ vals rest' = upL T.rs T.rs[i].above := by simpa [vals] using hrest
      obtain ⟨hxi, hr'⟩ := hr2
      obtain ⟨fn, tmps, assign, body, hy, hR⟩ := hY pre x wr hJs ⟨rest', by rw [hspl]; simp⟩
      simp only [encR, hxi] at hy
      have HR := Lib.hid hr'
      have HS := Lib.hid hspl
      clear hspl hrest hr'
      obtain ⟨ab, hab⟩ : ∃ ab, T.rs[i].above = ab := ⟨_, rfl⟩
      rw [hab] at hv
      gi_wp2_with fail
      refine hR.mono ?_
      rintro e W3 (⟨rfl, hJ3, hk3⟩ | ⟨rfl, hJx3⟩)
      · have hx3 : Ext w0 W3 := hx.trans' hk3.1
        have hB3 := hk3.cls (by simp) hB
        have hX3 := hk3.cls (by simp) hX
        have e0 : W3.cell? ⟨Br, 0, none⟩ = some (.int .i64 i) := hX3.cell 0
        have f0 := hX3.frozen 0
        have e1 : W3.cell? ⟨Bt, 0, none⟩ = some (.slice A T.rs.length c) := hB3.cell 0
        obtain ⟨bb, oo, rfl, c0, c1⟩ := (hT.ext hx3).get i hi
        rw [hab] at c0
        gi_wp2
        go_roundw
        case rel => exact ⟨pre ++ [x], rest', ab, by rw [HS.out]; simp, by rw [← hab]; exact HR.out, by omega, hJ.set _ _ _ hJ3, hx3.setCell (by exact hBr) _, hB3.other hne 0 _, hX3.set 0 _⟩
        case measure =>
          rw [boxN_eq hX, boxN_eq (hX3.set 0 (.int .i64 ab))]; omega
      · gi_wp2
        go_end0
        exact ⟨⟨_, rfl⟩, .inr ⟨pre ++ [x], ⟨rest', by rw [HS.out]; simp⟩, hJx3⟩⟩
    · have hn0 : rest = [] := by
        rw [upL_neg _ (by omega)] at hrest
        cases rest with
        | nil => rfl
        | cons x l => simp [vals] at hrest
      subst hn0
      have HS := Lib.hid hspl
      clear hspl hrest
      gi_wp2
      refine ⟨fun _ h => (by cases h), ?_⟩
      gi_wp2
      go_end0
      exact ⟨⟨_, rfl⟩, .inl ⟨pre, by rw [HS.out]; simp, hJs⟩⟩

/-- THE WAY UP FROM A REACH -/
theorem up_seq (Bt Br : Nat) (T : Tr) (hV : RsV T.rs) (a b : Value) (r : Int) (h1 : -1 ≤ r) (h2 : r < T.rs.length) (w0 w1 : World) (hw1 : Ext w0 w1) (tt tr : TypeId) (hne : Bt ≠ Br) (hBr : w0.heap.size ≤ Br) (hB : Cls Bt tt #[a, b] w1) (hX : Cls Br tr #[.int .i64 r] w1) (hT : RcsAt w0 a T.rs) :
    SeqBox 4 Try.prog 117 #[.pointer (some ⟨Br, 0, none⟩), .pointer (some ⟨Bt, 0, none⟩)] encR Br (KpB w0.heap.size [Bt, Br]) (fun ys => ys = upS hV h2) (fun ys => ys <+: upS hV h2) (fun pre x => pre ++ [x] <+: upS hV h2) w1 :=
  fun l J Jx W hW hJ hY h0 => up1_in l 4 Bt Br (by omega) T hV a b r h1 h2 w0 w1 hw1 tt tr hne hBr hB hX hT J Jx hJ hY W hW h0
end Go.Proofs.Ythopgonbndoidaa
namespace Go.Proofs.Ythopgonbndoidaa
open Go.RowKit Go.Shelf

attribute [local go_sem] Oper.semAt_some

theorem up_boxes {w w1 : World} {a b : Value} {r : Int} (h : (w.alloc (.cells #[a, b] 25)).alloc (.cells #[.int .i64 r] 3) = w1) :
    Cls w.heap.size 25 #[a, b] w1 ∧ Cls (w.heap.size + 1) 3 #[.int .i64 r] w1 ∧ Ext w w1 ∧ w1.heap.size = w.heap.size + 2 := by
  subst h
  exact ⟨(Cls.new _ _ _).ext (by repeat (first | exact Ext.refl _ | assumption | refine Ext.alloc ?_ _ | refine Ext.drew ?_ | refine Ext.drewN _ ?_ | refine Ext.trans ?_ (by assumption))), Cls.newAt _ _ _ (by simp), (by repeat (first | exact Ext.refl _ | assumption | refine Ext.alloc ?_ _ | refine Ext.drew ?_ | refine Ext.drewN _ ?_ | refine Ext.trans ?_ (by assumption))), by simp⟩

def anyK (l : List Int) (k : Int) : Bool := l.any (fun r => r == k)
theorem anyK_snoc (l : List Int) (x k : Int) : anyK (l ++ [x]) k = (anyK l k || x == k) := by simp [anyK]
set_option maxRecDepth 100000 in
set_option maxHeartbeats 2000000 in
theorem uses_any (a b : Value) (T : Tr) (hV : RsV T.rs) (id fr wt k : Int) (w : World) (hT : TrAt w a b T) (h1 : -1 ≤ fr) (h2 : fr < T.rs.length) :
    Calls Try.prog 62 #[.agg #[a, b], .agg #[.int .i64 id, .int .i64 fr, .int .i64 wt], .int .i64 k] w fun e w' => e = .returned (.bool (usB T.rs fr k)) ∧ Ext w w' := by
  obtain ⟨U, hU⟩ : ∃ U, usB T.rs fr k = U := ⟨_, rfl⟩
  have HU := Lib.hid hU
  rw [hU]
  clear hU
  refine (callsIn_wide (n := 5)).1 ?_
  refine callsIn_of_wp_marks Try.func62 rfl trivial ?_ rfl; simp only [Try.ntmps62, List.size_toArray, List.length_cons, List.length_nil, Nat.reduceAdd, Nat.reduceSub, Array.replicate_succ, Array.replicate_zero, List.push_toArray, List.append_toArray, List.nil_append, List.cons_append]
  gi_wp2_with fail
  refine ⟨trivial, (callsIn_wide.2 (up_any a b fr _)).mono ?_⟩
  rintro e w1 ⟨rfl, hw1⟩
  obtain ⟨W0, hW0⟩ : ∃ W0, (((w.alloc (.cells #[a, b] 25)).alloc (.cells #[.int .i64 id, .int .i64 fr, .int .i64 wt] 45)).alloc (.cells #[.int .i64 k] 3)).alloc (.cells #[.bool false] 4) = W0 := ⟨_, rfl⟩
  obtain ⟨_, _, q2, q3, hx0, _⟩ := alloc4 (w := w) (Ext.refl _)
  have hs0 : W0.heap.size = w.heap.size + 4 := by rw [← hW0]; simp
  rw [hW0] at hw1 q2 q3 hx0
  obtain ⟨e0, e1, hx1, hs1⟩ := up_boxes hw1
  rw [hW0]
  rw [hs0] at e0 e1
  clear hW0 hw1
  have hx := hx0.trans hx1
  have HS := Lib.hid (And.intro hs0 hs1)
  have q2' := q2.ext hx1
  have q3' := q3.ext hx1
  clear q2 q3 hs1 hx1
  gi_wp2_with fail
  have hz0 := HS.out.1
  have hz1 := HS.out.2
  have hseq := up_seq (w.heap.size + 4) ((w.heap.size + 4) + 1) T hV a b fr h1 h2 w w1 hx _ _ (by omega) (by omega) e0 e1 hT.r
  have hbs : ∀ b ∈ [(w.heap.size + 4), (w.heap.size + 4) + 1], b < w1.heap.size := by simp; omega
  have hIb : AbidesBox ((w.heap.size + 4) + 1) (fun (pre : List (RIx T.rs.length)) W => ((Cls (w.heap.size + 1 + 1) 3 #[.int .i64 k] W ∧ Cls (w.heap.size + 1 + 1 + 1) 4 #[.bool false] W) ∧ anyK (vals pre) k = false) ∧ Below w.heap.size w W) :=
    (AbidesBox.and (AbidesBox.and (AbidesBox.and (abidesBox_cls _ (fun _ => #[.int .i64 k]) (by omega)) (abidesBox_cls _ (fun _ => #[.bool false]) (by omega))) ⟨fun _ _ _ h => h, fun _ _ _ h => h⟩) (abidesBox_below (by omega) (Nat.le_refl _)))
  clear hz0 hz1
  have hI : OwnFrom w1.heap.size (fun (pre : List (RIx T.rs.length)) W => ((Cls (w.heap.size + 1 + 1) 3 #[.int .i64 k] W ∧ Cls (w.heap.size + 1 + 1 + 1) 4 #[.bool false] W) ∧ anyK (vals pre) k = false) ∧ Below w.heap.size w W) :=
    (OwnFrom.and (OwnFrom.and (OwnFrom.and ((Cls.own _ _ (fun _ => #[.int .i64 k])).from _) ((Cls.own _ _ (fun _ => #[.bool false])).from _)) (ownFrom_pure _ _)) (ownFrom_below (Nat.le_refl _) hx.size))
  have hIx : ∀ c : Code, OwnFrom w1.heap.size (fun (pre : List (RIx T.rs.length)) W => ((Cls (w.heap.size + 1 + 1 + 1) 4 #[.bool true] W ∧ anyK (vals pre) k = true) ∧ Below w.heap.size w W) ∧ c = .ret) := 
    (fun c => OwnFrom.and (OwnFrom.and (OwnFrom.and ((Cls.own _ _ (fun _ => #[.bool true])).from _) (ownFrom_pure _ _)) (ownFrom_below (Nat.le_refl _) hx.size)) (ownFrom_pure _ _))
  have h00 : (fun (pre : List (RIx T.rs.length)) W => ((Cls (w.heap.size + 1 + 1) 3 #[.int .i64 k] W ∧ Cls (w.heap.size + 1 + 1 + 1) 4 #[.bool false] W) ∧ anyK (vals pre) k = false) ∧ Below w.heap.size w W) [] w1 := ⟨⟨⟨q2', q3'⟩, rfl⟩, hx⟩
  refine range_own (gf := 117) (lb := #[.pointer (some ⟨(w.heap.size + 4) + 1, 0, none⟩), .pointer (some ⟨(w.heap.size + 4), 0, none⟩)]) ?hg ?eg (n₀ := w.heap.size) (bs := [(w.heap.size + 4), (w.heap.size + 4) + 1]) (Br := (w.heap.size + 4) + 1) hx.size hbs (by have := HS.out.2; omega)
    hseq ?hps _ _ hI hIx hIb h00 ?round ?done ?stop
  case hg => rfl
  case eg => exact enters_of Try.func117 (by kernel_rfl) rfl
  case hps => exact fun _ => rfl
  case round =>
    apply Exists.intro
    constructor
    · intro l x W K hK
      dsimp only [encR]
      gi_wp2
      exact hK
    · rintro l pre x W ⟨⟨⟨c2, c3⟩, hn⟩, hB⟩ _
      have d2 : W.cell? ⟨w.heap.size + 1 + 1, 0, none⟩ = some (.int .i64 k) := c2.cell 0
      have d3 : W.cell? ⟨w.heap.size + 1 + 1 + 1, 0, none⟩ = some (.bool false) := c3.cell 0
      have f3 := c3.frozen 0
      by_cases hq : x.1 = k
      · have HY : anyK (vals (pre ++ [x])) k = true := by rw [vals_snoc, anyK_snoc, hn]; simp [hq]
        gi_wp2
        exact ⟨(KeepsOthers.setCell _ _ _).from _, ⟨⟨c3.set 0 _, HY⟩, hB.setCell (p := ⟨w.heap.size + 1 + 1 + 1, 0, none⟩) (by simp; omega) _⟩, rfl⟩
      · have HY : anyK (vals (pre ++ [x])) k = false := by rw [vals_snoc, anyK_snoc, hn]; simp [hq]
        gi_wp2
        exact ⟨KeepsFrom.refl _ _, KpB.refl _ _ _, ⟨⟨c2, c3⟩, HY⟩, hB⟩
  case done =>
    rintro D ys W hD rfl ⟨⟨⟨c2, c3⟩, hn⟩, hB⟩ hK
    rw [upS_vals] at hn
    have d3 : W.cell? ⟨w.heap.size + 1 + 1 + 1, 0, none⟩ = some (.bool false) := c3.cell 0
    have f3 := c3.frozen 0
    have HN : U = false := by rw [← HU.out]; exact hn
    clear hn
    gi_wp2
    have hKs := (KeepsOthers.setCell W ⟨w.heap.size + 1 + 1 + 1, 0, none⟩ (.bool false)).same D _ hK rfl
    refine ⟨by simp, .inl ⟨_, _, rfl, run_takeDeferred hKs, ?_⟩⟩
    have r3 := ((c3.set 0 (.bool false)).putObj (.deferred none) hKs rfl).cell 0
    simp only [List.setIfInBounds_toArray, List.set_cons_zero, List.getElem?_toArray, List.getElem?_cons_zero] at r3
    refine ⟨.bool false, by simp [results, Try.f62, go_sem, r3], by first | rfl | rw [HN], ?_⟩
    exact (Below.setCell hB (p := ⟨w.heap.size + 1 + 1 + 1, 0, none⟩) (by simp; omega) _).trans (belowK_b (w := w) (Nat.le_refl _) _ D _ _ (by have := HS.out.2; omega) hKs rfl rfl)
  case stop =>
    rintro D c pre W hD hpre ⟨⟨⟨c3, hn⟩, hB⟩, rfl⟩ hK
    have HN : U = true := by
      rw [← HU.out]
      unfold usB
      unfold anyK at hn
      rw [← upS_vals hV h2, List.any_eq_true] 
      rw [List.any_eq_true] at hn
      obtain ⟨x, hx', hq⟩ := hn
      obtain ⟨t, ht⟩ := hpre
      exact ⟨x, by rw [← ht]; simp only [vals, List.map_append, List.mem_append]; left; exact hx', hq⟩
    gi_wp2
    refine ⟨by simp, .inl ⟨_, _, rfl, run_takeDeferred hK, ?_⟩⟩
    have r3 := (c3.putObj (.deferred none) hK rfl).cell 0
    simp only [List.getElem?_toArray, List.getElem?_cons_zero] at r3
    refine ⟨.bool true, by simp [results, Try.f62, go_sem, r3], by first | rfl | rw [HN], ?_⟩
    exact hB.trans (belowK_b (w := w) (Nat.le_refl _) _ D _ _ (by have := HS.out.2; omega) hK rfl rfl)
end Go.Proofs.Ythopgonbndoidaa
