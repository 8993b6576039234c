/- The iterator over the reaches from the last one to the first (slices.Backward). -/
import Derived.Test.YthopgonbndoidaaVSeq
import Derived.Test.YthopgonbndoidaaVSum
namespace Go.Proofs.Ythopgonbndoidaa
open Go.RowKit Go.Shelf

attribute [local go_sem] Oper.semAt_some

/-- the numbers below k, the greatest first -/
def bk : Nat → List Nat
  | 0 => []
  | k + 1 => k :: bk k
theorem bk_len (k : Nat) : (bk k).length = k := by
  induction k with
  | zero => rfl
  | succ k ih => simp [bk, ih]
def encB (rs : List Rc) (i : Nat) : Array Value := #[.int .i64 i, .agg #[.int .i64 (abv rs i), .int .i64 (cst rs i)]]
theorem bk_at : ∀ {n : Nat} {pre rest : List Nat}, bk n = pre ++ rest → rest = bk (n - pre.length) := by
  intro n pre
  induction pre generalizing n with
  | nil => intro rest h; simpa using h.symm
  | cons x pre ih =>
    intro rest h
    cases n with
    | zero => simp [bk] at h
    | succ n =>
      simp only [bk, List.cons_append, List.cons.injEq] at h
      have := ih h.2
      rw [this, List.length_cons]
      congr 1; omega
/-- where a round stands -/
theorem bk_next {n i : Nat} {pre : List Nat} (h : pre ++ [i] <+: bk n) : pre.length + i + 1 = n := by
  obtain ⟨t, ht⟩ := h
  have h1 := bk_at (n := n) (pre := pre) (rest := i :: t) (by rw [← ht]; simp)
  have h2 : pre.length ≤ n := by
    have := congrArg List.length ht
    rw [bk_len] at this
    simp at this; omega
  cases hk : n - pre.length with
  | zero => rw [hk] at h1; simp [bk] at h1
  | succ k =>
    rw [hk] at h1
    simp only [bk, List.cons.injEq] at h1
    omega

set_option maxRecDepth 100000 in
set_option maxHeartbeats 2000000 in
theorem back1_in (l n Bt : Nat) (hn : 1 ≤ n) (rs : List Rc) (hlr : rs.length ≤ 1000) (a : Value) (w0 w1 : World) (hw1 : Ext w0 w1) (tt : TypeId) (hB : Cls Bt tt #[a] w1) (hT : RcsAt w0 a rs)
    (J Jx : List Nat → World → Prop)
    (hY : ∀ pre x W, J pre W → pre ++ [x] <+: bk rs.length → YieldAt Fence.wide (n - 1) Try.prog l (encB rs x) W fun e W' =>
      (e = .returned (.bool true) ∧ J (pre ++ [x]) W' ∧ KpB w0.heap.size [Bt] W W') ∨ (e = .returned (.bool false) ∧ Jx (pre ++ [x]) W'))
    (W : World) (hW : Ext w1 W) (hJ0 : J [] W) :
    CallsIn Fence.wide n Try.prog 118 #[.func (.yield l) #[] #[], .pointer (some ⟨Bt, 0, none⟩)] W fun e W' => (∃ v, e = .returned v) ∧
      ((∃ ys, ys = bk rs.length ∧ J ys W') ∨ (∃ pre, pre <+: bk rs.length ∧ Jx pre W')) := by
  obtain ⟨A, c, rfl, _⟩ := hT.len
  have hxW := hw1.trans hW
  have hBW := hB.ext hW
  have d0 : W.cell? ⟨Bt, 0, none⟩ = some (.slice A rs.length c) := hBW.cell 0
  clear hB hW
  refine callsIn_of_wp Try.func118 rfl trivial ?_ rfl
  simp only [Try.ntmps118, List.size_toArray, List.length_cons, List.length_nil, Nat.reduceAdd, Nat.reduceSub, Array.replicate_succ, Array.replicate_zero, List.push_toArray, List.append_toArray, List.nil_append, List.cons_append]
  gi_wp2_with fail
  gi_loopw [3] (fun i wr => ∃ (pre : List Nat) (k : Nat), bk rs.length = pre ++ bk k ∧ k ≤ rs.length ∧ i = .int .i64 ((k : Int) - 1) ∧ J pre wr ∧ Ext w0 wr ∧ Cls Bt tt #[.slice A rs.length c] wr) (fun i _ => (intOf i + 1).toNat)
  case atStart => exact ⟨[], rs.length, rfl, Nat.le_refl _, rfl, hJ0, hxW, hBW⟩
  case round =>
    clear d0
    obtain ⟨pre, k, hspl, hk, rfl, hJs, hx, hB⟩ := hrel
    have d0 : wr.cell? ⟨Bt, 0, none⟩ = some (.slice A rs.length c) := hB.cell 0
    cases k with
    | zero =>
      have HS := Lib.hid hspl
      clear hspl
      gi_wp2
      go_end0
      exact ⟨⟨_, rfl⟩, .inl ⟨pre, by rw [HS.out]; simp [bk], hJs⟩⟩
    | succ i =>
      have hi : i < rs.length := by omega
      have hpr : pre ++ [i] <+: bk rs.length := ⟨bk i, by rw [hspl]; simp [bk]⟩
      have hspl2 : bk rs.length = (pre ++ [i]) ++ bk i := by rw [hspl]; simp [bk]
      obtain ⟨fn, tmps, assign, body, hy, hR⟩ := hY pre i wr hJs hpr
      simp only [encB] at hy
      obtain ⟨bb, oo, rfl, c0, c1⟩ := (hT.ext hx).get i hi
      rw [← abv_get hi] at c0
      rw [← cst_get hi] at c1
      have hi1 : (((i + 1 : Nat) : Int) - 1) = i := by omega
      rw [hi1]
      have HS := Lib.hid hspl2
      clear hspl hspl2 hi1 hpr
      gi_wp2_with fail
      refine hR.mono ?_
      rintro e W3 (⟨rfl, hJ3, hk3⟩ | ⟨rfl, hJx3⟩)
      · have hx3 : Ext w0 W3 := hx.trans' hk3.1
        have hB3 := hk3.cls (by simp) hB
        gi_wp2
        go_roundw
        case rel => exact ⟨pre ++ [i], i, HS.out, by omega, rfl, hJ3, hx3, hB3⟩
        case measure => simp [intOf]
      · gi_wp2
        exact bodyPost_ret (results_none rfl _ _ _) rfl ⟨⟨_, rfl⟩, .inr ⟨pre ++ [i], ⟨bk i, HS.out.symm⟩, hJx3⟩⟩

/-- THE REACHES, THE LAST ONE FIRST -/
theorem back_seq (Bt : Nat) (rs : List Rc) (hlr : rs.length ≤ 1000) (a : Value) (w0 w1 : World) (hw1 : Ext w0 w1) (tt : TypeId) (hB : Cls Bt tt #[a] w1) (hT : RcsAt w0 a rs) :
    SeqBox 4 Try.prog 118 #[.pointer (some ⟨Bt, 0, none⟩)] (encB rs) Bt (KpB w0.heap.size [Bt]) (fun ys => ys = bk rs.length) (fun ys => ys <+: bk rs.length) (fun pre x => pre ++ [x] <+: bk rs.length) w1 :=
  fun l J Jx W hW _ hY h0 => back1_in l 4 Bt (by omega) rs hlr a w0 w1 hw1 tt hB hT J Jx hY W hW h0
set_option maxHeartbeats 1000000 in
theorem Backward_any (ao : Option Addr) (n c : Nat) (w : World) :
    Calls Try.prog 96 #[.slice ao n c] w fun e w' => e = .returned (.func (.func 118) #[] #[.pointer (some ⟨w.heap.size, 0, none⟩)]) ∧ w.alloc (.cells #[.slice ao n c] 22) = w' := by
  go_enter Try.func96, Try.ntmps96
  go_wp2
  go_ret
  exact ⟨rfl, rfl⟩

/-! ### what reaches too much: plain words -/
/-- what is paid at each reach -/
def atS (f : Nat → Int) (q : Py × Int) : Nat → Int := fun r => if r = q.1.reach.toNat then f r + q.2 else f r
def atP (l : List (Py × Int)) : Nat → Int := l.foldl atS (fun _ => 0)
theorem atP_snoc (l : List (Py × Int)) (q : Py × Int) : atP (l ++ [q]) = atS (atP l) q := by simp [atP]
theorem atP_bd (l : List (Py × Int)) (h : ∀ q ∈ l, 0 ≤ q.2 ∧ q.2 ≤ 1073741824) (r : Nat) : 0 ≤ atP l r ∧ atP l r ≤ l.length * 1073741824 := by
  induction l using snoc_ind with
  | h0 => simp [atP]
  | h1 l q ih =>
    have i := ih (fun m hm => h m (by simp [hm]))
    have j := h q (by simp)
    rw [atP_snoc, List.length_append, List.length_singleton]
    unfold atS
    push_cast
    split <;> omega
/-- one reach more, from the last one on: what is paid at each, and by how much it is too much -/
def obO (rs : List Rc) (f : Nat → Int) (r : Nat) : Int := max 0 (f r - cst rs r)
def obA (rs : List Rc) (f : Nat → Int) (r : Nat) : Nat → Int := if 0 ≤ abv rs r then fun k => if k = (abv rs r).toNat then f k + obO rs f r else f k else f
def obS (rs : List Rc) (s : (Nat → Int) × (Nat → Int)) (r : Nat) : (Nat → Int) × (Nat → Int) := (obA rs s.1 r, fun k => if k = r then obO rs s.1 r else s.2 k)
def obF (rs : List Rc) (f : Nat → Int) (l : List Nat) : (Nat → Int) × (Nat → Int) := l.foldl (obS rs) (f, fun _ => 0)
theorem obF_snoc (rs : List Rc) (f : Nat → Int) (l : List Nat) (r : Nat) : obF rs f (l ++ [r]) = obS rs (obF rs f l) r := by simp [obF]
def objX (T : Tr) (l : List Int) : Nat → Int := (obF T.rs (atP (T.ps.zip l)) (bk T.rs.length)).2
theorem obF_bd {rs : List Rc} (hV : RsV rs) {f : Nat → Int} {M : Int} (hM : 0 ≤ M) (h : ∀ r, 0 ≤ f r ∧ f r ≤ M) (l : List Nat) : ∀ r, (0 ≤ (obF rs f l).1 r ∧ (obF rs f l).1 r ≤ M * 2 ^ l.length) ∧ (0 ≤ (obF rs f l).2 r ∧ (obF rs f l).2 r ≤ M * 2 ^ l.length) := by
  induction l using snoc_ind with
  | h0 => intro r; have := h r; simp [obF]; omega
  | h1 l x ih =>
    intro r
    rw [obF_snoc, List.length_append, List.length_singleton, Int.pow_succ, ← Int.mul_assoc]
    obtain ⟨B, hB⟩ : ∃ B, M * 2 ^ l.length = B := ⟨_, rfl⟩
    rw [hB] at ih ⊢
    have i := ih r
    have ix := ih x
    have hc := cst_bd hV x
    have ho : 0 ≤ obO rs (obF rs f l).1 x ∧ obO rs (obF rs f l).1 x ≤ B := by unfold obO; omega
    refine ⟨?_, ?_⟩
    · show 0 ≤ obA rs (obF rs f l).1 x r ∧ obA rs (obF rs f l).1 x r ≤ B * 2
      unfold obA
      split
      · simp only
        split <;> omega
      · omega
    · show 0 ≤ (if r = x then obO rs (obF rs f l).1 x else (obF rs f l).2 r) ∧ (if r = x then obO rs (obF rs f l).1 x else (obF rs f l).2 r) ≤ B * 2
      split <;> omega
end Go.Proofs.Ythopgonbndoidaa
