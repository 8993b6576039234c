/- The iterator over the parts of a set (its turns, then its spans): for every loop body that keeps what lay before. -/
import Derived.RangeFuncNested
import Derived.RangeFuncBound
import Derived.RangeFuncCalls
import Derived.RangeFuncLeaves
import Derived.RangeFuncWrites
import Derived.RangeFuncBox
import Derived.Shelf.Abstract
import Derived.Shelf.RegionOpen
import Derived.OwnWalkIn
import Derived.TacticsInMore
import Derived.LoopNIn
import Derived.LoopIn
import Derived.Test.YtejcmdoalhnpeaaGreatDoorRefCheck
namespace Go.Proofs.YtejcmdoalhnpeaaGreatDoor
open Go.RowKit Go.Shelf

attribute [local go_sem] Oper.semAt_some

/-- A LOOP OVER AN ITERATOR, at the wide fence: 'Ext' for what is kept. -/
theorem range_law {α : Type} {P : Program} {g : Operand} {ps : Array Tmp} {assign body : Code} {Q : Exit → Act → World → Prop} {a : Act} {w : World}
    {gf : Nat} {lb : Array Value} (hg : a.eval g = .func (.func gf) #[] lb) (eg : ∀ args w, (callFunc gf args).run P w = .ok (.enter gf args) w)
    {encs : α → Array Value} {S Sp : List α → Prop} {N : Nat} {w0 : World} (hseq : SeqStopsK Fence.wide 4 P gf lb encs (Below w0.heap.size) S Sp N w0)
    (hb0 : Ext w0 w) (hps : ∀ x, (encs x).size = ps.size)
    (I : List α → World → Prop) (Ix : Code → List α → World → Prop) (hI : OwnFrom w.heap.size I) (hIx : ∀ c, OwnFrom w.heap.size (Ix c)) (h0 : I [] w)
    (hr : ∃ a₁ : α → Act, (∀ (l : Nat) (x : α) (W : World) (K : Act → World → Prop), K (a₁ x) W →
      assign.wpIn (Fence.wide.inRound l) 3 P (Exit.then K (fun _ _ _ => False)) { tmps := (ps.zip (encs x)).foldl (fun t (p, v) => t.setIfInBounds p v) a.tmps, defers := [] } W) ∧
      (∀ (l : Nat) (pre : List α) (x : α) (W : World), I pre W → pre.length < N → body.wpIn (Fence.wide.inRound l) 3 P (ownPostG w.heap.size (Below w0.heap.size) I Ix (pre ++ [x]) W) (a₁ x) W))
    (hdone : ∀ (D : Nat) (xs : List α) (W : World), w.heap.size ≤ D → S xs → I xs W → W.heap[D]? = some (.deferred (some [])) → Q .normal { a with defers := { target := .collected D, args := #[] } :: a.defers } W)
    (hstop : ∀ (D : Nat) (c : Code) (pre : List α) (W : World), w.heap.size ≤ D → Sp pre → Ix c pre W → W.heap[D]? = some (.deferred (some [])) → c.wpIn Fence.wide 5 P Q { a with defers := { target := .collected D, args := #[] } :: a.defers } W) :
    (Code.rangeFunc g ps assign body).wpIn Fence.wide 5 P Q a w := by
  obtain ⟨a₁, ha, hb⟩ := hr
  exact wpIn_rangeFunc_ownG rfl (by omega) hg trivial eg hseq (fun h k => belowK_t h k) (belowK_b hb0.size) hb0 hps I Ix hI hIx h0 a₁ ha hb hdone hstop

theorem ext_keeps {W W' : World} (h : Ext W W') : KeepsOthers W W' :=
  ⟨h.size, fun k _ hk _ => (Below.block h k (Array.getElem?_eq_some_iff.1 hk).1).trans hk⟩
/-- a box that holds, and is not frozen -/
def BoxI (b : Nat) (v : Value) (W : World) : Prop := W.cell? ⟨b, 0, none⟩ = some v ∧ W.frozen? ⟨b, 0, none⟩ = false
theorem BoxI.ext {b : Nat} {v : Value} {W W' : World} (h : BoxI b v W) (x : Ext W W') : BoxI b v W' :=
  ⟨x.cell h.1, ((ecell x).2 b 0 (cell_lt h.1)).trans h.2⟩
theorem boxI_own {β : Type} (b : Nat) (f : β → Value) : Own (fun s W => BoxI b (f s) W) := fun _ _ _ _ hs hg hr => ⟨cell_kept hs.1 hg hr, (frozen_kept hs.1 hg hr).trans hs.2⟩
theorem boxI_new (w : World) (v : Value) (t : TypeId) : BoxI w.heap.size v (w.alloc (.cells #[v] t)) := by constructor <;> simp
theorem BoxI.set {b : Nat} {v : Value} {W : World} (h : BoxI b v W) (u : Value) : BoxI b u (W.setCell ⟨b, 0, none⟩ u) :=
  ⟨World.cell?_setCell_same' _ _ _ (by rw [h.1]; rfl), by rw [World.frozen?_setCell]; exact h.2⟩
theorem BoxI.other {b b' : Nat} {v : Value} {W : World} (h : BoxI b v W) (hne : b ≠ b') (u : Value) : BoxI b v (W.setCell ⟨b', 0, none⟩ u) := by
  refine ⟨?_, by rw [World.frozen?_setCell]; exact h.2⟩
  rw [← h.1]
  exact World.cell?_of_block (Below.heap_setCell _ _ _ _ hne)

/-- a part of a set -/
structure Pt where
  tag : Bool
  t : Tn
  s : Sp
def ptT (t : Tn) : Pt := ⟨true, t, ⟨0, 0⟩⟩
def ptS (s : Sp) : Pt := ⟨false, ⟨0, 0, 0⟩, s⟩
def ptV (x : Pt) : Value := if x.tag then .iface 128 (.agg #[.int .i64 x.t.p, .int .i64 x.t.f, .int .i64 x.t.l]) else .iface 140 (.agg #[.int .i64 x.s.lo, .int .i64 x.s.hi])
theorem ptV_t (t : Tn) : ptV (ptT t) = .iface 128 (.agg #[.int .i64 t.p, .int .i64 t.f, .int .i64 t.l]) := rfl
theorem ptV_s (s : Sp) : ptV (ptS s) = .iface 140 (.agg #[.int .i64 s.lo, .int .i64 s.hi]) := rfl
def encPt (x : Pt) : Array Value := #[ptV x]
def pts (S : Mn) : List Pt := S.ts.map ptT ++ S.ss.map ptS
theorem pts_len (S : Mn) : (pts S).length = S.ts.length + S.ss.length := by simp [pts]
theorem take_succ_get {α : Type} (l : List α) (k : Nat) (h : k < l.length) : l.take (k + 1) = l.take k ++ [l[k]] := by
  rw [List.take_succ_eq_append_getElem h]
theorem pts_t (S : Mn) (k : Nat) (h : k < S.ts.length) : (pts S)[k]'(by rw [pts_len]; omega) = ptT S.ts[k] := by
  simp [pts, h]
theorem pts_s (S : Mn) (k : Nat) (h : k < S.ss.length) : (pts S)[S.ts.length + k]'(by rw [pts_len]; omega) = ptS S.ss[k] := by
  simp [pts]

set_option maxRecDepth 100000 in
set_option maxHeartbeats 2000000 in
theorem parts1_in {α : Type} (enc : α → Array Value) (xs : List α) (n l Bs : Nat) (hn : 1 ≤ n) (S : Mn) (a b : Value) (w0 : World) (hB0 : w0.cell? ⟨Bs, 0, none⟩ = some a) (hB1 : w0.cell? ⟨Bs, 1, none⟩ = some b) (hS : MinsAt w0 a b S)
    (hl1 : S.ts.length ≤ 1000) (hl2 : S.ss.length ≤ 1000) (hlen : xs.length = (pts S).length) (henc : ∀ k (h : k < xs.length), enc xs[k] = encPt ((pts S)[k]'(hlen ▸ h))) (J Jx : List α → World → Prop)
    (hY : ∀ pre x W, J pre W → pre.length < xs.length → YieldAt Fence.wide (n - 1) Tryz.prog l (enc x) W fun e W' =>
      (e = .returned (.bool true) ∧ J (pre ++ [x]) W' ∧ Below w0.heap.size W W') ∨ (e = .returned (.bool false) ∧ Jx (pre ++ [x]) W'))
    (W : World) (hW : Ext w0 W) (hJ : AbidesFrom W.heap.size J) (h0 : J [] W) :
    CallsIn Fence.wide n Tryz.prog 92 #[.func (.yield l) #[] #[], .pointer (some ⟨Bs, 0, none⟩)] W fun e W' => (∃ v, e = .returned v) ∧
      ((∃ ys, ys = xs ∧ J ys W') ∨ (∃ pre, pre <+: xs ∧ Jx pre W')) := by
  obtain ⟨aa, ca, rfl⟩ := hS.t.len
  obtain ⟨ab, cb, rfl⟩ := hS.s.len
  have g0 := hW.cell hB0
  have g1 := hW.cell hB1
  refine callsIn_of_wp Tryz.func92 rfl trivial ?_ rfl
  simp only [Tryz.ntmps92, List.size_toArray, List.length_cons, List.length_nil, Nat.reduceAdd, Nat.reduceSub, Array.replicate_succ, Array.replicate_zero, List.push_toArray, List.append_toArray, List.nil_append, List.cons_append]
  gi_wp2
  have hpl := hlen.trans (pts_len S)
  have HPL := Lib.hid hpl
  clear hpl
  gi_loopw [10] (fun i wr => ∃ k : Nat, k ≤ S.ts.length ∧ i = .int .i64 k ∧ J (xs.take k) wr ∧ Ext w0 wr) (fun i _ => S.ts.length - (intOf i).toNat)
  case atStart => exact ⟨0, Nat.zero_le _, rfl, h0, hW⟩
  case round =>
    obtain ⟨k, hk, rfl, hJs, hx⟩ := hrel
    by_cases hlt : k < S.ts.length
    · obtain ⟨b, o, rfl, c0, c1, c2⟩ := (hS.t.ext hx).get k hlt
      have hJs' := hJ _ _ (wr.alloc (.cells #[.int .i64 S.ts[k].p, .int .i64 S.ts[k].f, .int .i64 S.ts[k].l] 42)) none hJs (World.grownBy_alloc _ _ none) (by intro r e; cases e)
      have hkx : k < xs.length := by rw [HPL.out]; omega
      obtain ⟨fn, tmps, assign, body, hy, hR⟩ := hY _ xs[k] _ hJs' (by rw [List.length_take]; omega)
      rw [henc k hkx, pts_t S k hlt] at hy
      simp only [encPt, ptV_t] at hy
      have htk := take_succ_get xs k hkx
      have HTK := Lib.hid htk
      clear htk
      gi_wp2
      refine hR.mono ?_
      rintro e W3 (⟨rfl, hJ3, hk3⟩ | ⟨rfl, hJx3⟩)
      · gi_wp2
        go_roundw
        case rel => exact ⟨k + 1, by omega, by go_num, by rw [HTK.out]; exact hJ3, (Ext.alloc hx _).trans' hk3⟩
        case measure => simp [intOf]; omega
      · gi_wp2
        refine bodyPost_ret (results_none rfl _ _ _) rfl ?_
        exact ⟨⟨_, rfl⟩, .inr ⟨_, by rw [← HTK.out]; exact List.take_prefix _ _, hJx3⟩⟩
    · obtain rfl : k = S.ts.length := by omega
      have d1 := hx.cell hB1
      gi_wp2
      obtain ⟨W1, rfl⟩ : ∃ W1 : World, W1 = wr := ⟨_, rfl⟩
      gi_loopw [23] (fun i wr => ∃ k : Nat, k ≤ S.ss.length ∧ i = .int .i64 k ∧ J (xs.take (S.ts.length + k)) wr ∧ Ext w0 wr) (fun i _ => S.ss.length - (intOf i).toNat)
      case atStart => exact ⟨0, Nat.zero_le _, rfl, hJs, hx⟩
      case round =>
        obtain ⟨k, hk, rfl, hJs, hx⟩ := hrel
        by_cases hlt : k < S.ss.length
        · obtain ⟨b, o, rfl, c0, c1⟩ := (hS.s.ext hx).get k hlt
          have hJs' := hJ _ _ (wr.alloc (.cells #[.int .i64 S.ss[k].lo, .int .i64 S.ss[k].hi] 45)) none hJs (World.grownBy_alloc _ _ none) (by intro r e; cases e)
          have hkx : S.ts.length + k < xs.length := by rw [HPL.out]; omega
          obtain ⟨fn, tmps, assign, body, hy, hR⟩ := hY _ xs[S.ts.length + k] _ hJs' (by rw [List.length_take]; omega)
          rw [henc _ hkx, pts_s S k hlt] at hy
          simp only [encPt, ptV_s] at hy
          have htk := take_succ_get xs (S.ts.length + k) hkx
          have HTK := Lib.hid htk
          clear htk
          gi_wp2
          refine hR.mono ?_
          rintro e W3 (⟨rfl, hJ3, hk3⟩ | ⟨rfl, hJx3⟩)
          · gi_wp2
            go_roundw
            case rel => exact ⟨k + 1, by omega, by go_num, by rw [show S.ts.length + (k + 1) = S.ts.length + k + 1 from rfl, HTK.out]; exact hJ3, (Ext.alloc hx _).trans' hk3⟩
            case measure => simp [intOf]; omega
          · gi_wp2
            refine bodyPost_ret (results_none rfl _ _ _) rfl ?_
            exact ⟨⟨_, rfl⟩, .inr ⟨_, by rw [← HTK.out]; exact List.take_prefix _ _, hJx3⟩⟩
        · obtain rfl : k = S.ss.length := by omega
          gi_wp2
          go_end0
          exact ⟨⟨_, rfl⟩, .inl ⟨_, List.take_of_length_le (by rw [HPL.out]; omega), hJs⟩⟩

/-- THE PARTS OF A SET: each one, in order, whatever the loop's body does above. -/
theorem parts_stops {α : Type} (enc : α → Array Value) (xs : List α) (n Bs : Nat) (hn : 1 ≤ n) (S : Mn) (a b : Value) (w0 : World) (hB0 : w0.cell? ⟨Bs, 0, none⟩ = some a) (hB1 : w0.cell? ⟨Bs, 1, none⟩ = some b) (hS : MinsAt w0 a b S)
    (hl1 : S.ts.length ≤ 1000) (hl2 : S.ss.length ≤ 1000) (hlen : xs.length = (pts S).length) (henc : ∀ k (h : k < xs.length), enc xs[k] = encPt ((pts S)[k]'(hlen ▸ h))) :
    SeqStopsK Fence.wide n Tryz.prog 92 #[.pointer (some ⟨Bs, 0, none⟩)] enc (Below w0.heap.size) (fun ys => ys = xs) (fun ys => ys <+: xs) xs.length w0 :=
  fun l J Jx W hW hJ _ hY h0 => parts1_in enc xs n l Bs hn S a b w0 hB0 hB1 hS hl1 hl2 hlen henc J Jx hY W hW hJ h0

end Go.Proofs.YtejcmdoalhnpeaaGreatDoor
