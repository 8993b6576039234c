/- The iterator over the runs of a set in a span: the minutes of a span that are in a set, as the fewest spans, in order. -/
import Derived.Test.YtejcmdoalhnpeaaGreatDoorLst
import Derived.Test.YtejcmdoalhnpeaaGreatDoorNext
import Derived.Test.YtejcmdoalhnpeaaGreatDoorBox
namespace Go.Proofs.YtejcmdoalhnpeaaGreatDoor
open Go.RowKit Go.Shelf

attribute [local go_sem] Oper.semAt_some

/-- how many minutes a span has -/
def spN (lo hi : Int) : Nat := (hi + 1 - lo).toNat
/-- a span inside of another one -/
abbrev SpIn (lo hi : Int) : Type := { s : Sp // lo ≤ s.lo ∧ s.lo ≤ s.hi ∧ s.hi ≤ hi }
def encSp {lo hi : Int} (x : SpIn lo hi) : Array Value := #[.agg #[.int .i64 x.1.lo, .int .i64 x.1.hi]]
theorem lst_in {P : Int → Bool} {lo hi : Int} (h : lo ≤ hi) : ∀ s ∈ lst P lo (spN lo hi), lo ≤ s.lo ∧ s.lo ≤ s.hi ∧ s.hi ≤ hi := by
  intro s hs
  have := lst_hi P lo _ s hs
  unfold spN at this
  omega
def runL (P : Int → Bool) (lo hi : Int) (h : lo ≤ hi) : List (SpIn lo hi) := (lst P lo (spN lo hi)).pmap (fun s hs => (⟨s, hs⟩ : SpIn lo hi)) (lst_in h)
theorem runL_map {P : Int → Bool} {lo hi : Int} (h : lo ≤ hi) : (runL P lo hi h).map (·.1) = lst P lo (spN lo hi) := by
  unfold runL
  rw [List.map_pmap]
  exact List.pmap_eq_self.2 (fun _ _ => rfl)
theorem runL_len {P : Int → Bool} {lo hi : Int} (h : lo ≤ hi) : (runL P lo hi h).length = (lst P lo (spN lo hi)).length := by
  rw [← runL_map h, List.length_map]
theorem take_map_len {α β : Type} (f : α → β) (xs : List α) (l r : List β) (h : xs.map f = l ++ r) : (xs.take l.length).map f = l := by
  rw [List.map_take, h, List.take_left']
  rfl
theorem take_next {α β : Type} (f : α → β) (xs : List α) (l r : List β) (y : β) (h : xs.map f = l ++ [y] ++ r) : ∃ hl : l.length < xs.length, f (xs[l.length]) = y ∧ xs.take (l ++ [y]).length = xs.take l.length ++ [xs[l.length]] := by
  have hlen : xs.length = (l ++ [y] ++ r).length := by rw [← h, List.length_map]
  have hl : l.length < xs.length := by simp at hlen; omega
  refine ⟨hl, ?_, ?_⟩
  · have h1 : (xs.map f)[l.length]? = some y := by rw [h]; simp
    rw [List.getElem?_map, List.getElem?_eq_getElem hl] at h1
    simpa using h1
  · simp only [List.length_append, List.length_singleton]
    exact take_succ_get xs _ hl

/-- where the loop stands: all up to (not itself) 'lo + k' has been told, and the next minute is m -/
structure RunI (P : Int → Bool) (lo hi : Int) (k : Nat) (m : Int) : Prop where
  le : k ≤ spN lo hi
  at_ : lo + k ≤ m
  off : k = 0 ∨ P (lo + k) = false ∨ k = spN lo hi
  gap : ∀ i, lo + k ≤ i → i < m → P i = false
  hit : m ≤ hi → P m = true
theorem RunI.done {P : Int → Bool} {lo hi : Int} {k : Nat} {m : Int} (h : RunI P lo hi k m) (hm : hi < m) : lst P lo (spN lo hi) = lst P lo k := by
  have h1 := h.le
  obtain ⟨d, hd⟩ : ∃ d, spN lo hi = k + d := ⟨spN lo hi - k, by omega⟩
  rw [hd]
  refine lst_skip (fun i h2 h3 => h.gap _ (by omega) ?_)
  unfold spN at hd
  omega
/-- what is told next -/
theorem RunI.next {P : Int → Bool} {lo hi : Int} {k : Nat} {m to : Int} (h : RunI P lo hi k m) (hm : m ≤ hi) (h1 : m ≤ to) (h2 : to ≤ hi) (h3 : ∀ i, m ≤ i → i ≤ to → P i = true) (h4 : to = hi ∨ P (to + 1) = false) :
    ∃ k' : Nat, k' ≤ spN lo hi ∧ lo + k' = to + 1 ∧ lst P lo k' = lst P lo k ++ [⟨m, to⟩] ∧ (∃ r, lst P lo (spN lo hi) = lst P lo k ++ [⟨m, to⟩] ++ r) := by
  have hk := h.at_
  obtain ⟨j, hj⟩ : ∃ j : Nat, m = lo + j := ⟨(m - lo).toNat, by omega⟩
  obtain ⟨d, hd⟩ : ∃ d : Nat, to = m + d := ⟨(to - m).toNat, by omega⟩
  have hN : j + d + 1 ≤ spN lo hi := by unfold spN; omega
  have e1 : lst P lo j = lst P lo k := by
    obtain ⟨c, hc⟩ : ∃ c, j = k + c := ⟨j - k, by omega⟩
    rw [hc]
    exact lst_skip (fun i h5 h6 => h.gap _ (by omega) (by omega))
  have hoff : Off (lst P lo j) (lo + j) := by
    refine lst_off ?_
    by_cases h0 : j = 0
    · exact .inl h0
    · right
      by_cases hjk : j = k
      · rcases h.off with h5 | h5 | h5
        · omega
        · have h6 := h.hit hm
          rw [hj, hjk, h5] at h6
          cases h6
        · unfold spN at *; omega
      · exact h.gap _ (by omega) (by omega)
  have e2 := lst_run (d := d) hoff (fun i h5 h6 => h3 _ (by omega) (by omega))
  have e3 : lst P lo (j + d + 1) = lst P lo k ++ [⟨m, to⟩] := by rw [e2, e1, hd, hj]
  refine ⟨j + d + 1, hN, by omega, e3, ?_⟩
  obtain ⟨c, hc⟩ : ∃ c, spN lo hi = j + d + 1 + c := ⟨spN lo hi - (j + d + 1), by omega⟩
  rw [hc, ← e3]
  refine lst_split ?_
  rcases h4 with h4 | h4
  · left; unfold spN at hc; omega
  · right; rw [show lo + ((j + d + 1 : Nat) : Int) = to + 1 from by omega]; exact h4
theorem RunI.step {S : Mn} {lo hi to : Int} {k' : Nat} (hS : Ok S) (_h0 : -1000000000 ≤ lo) (hto : to ≤ hi) (hhi : hi ≤ 1000000000) (hk : k' ≤ spN lo hi) (he : lo + k' = to + 1) (h4 : to = hi ∨ mem S (to + 1) = false) (h5 : lo ≤ to) : RunI (mem S) lo hi k' (nextF S (to + 1)) := by
  obtain ⟨n1, n2, n3, n4⟩ := nextF_spec hS (to + 1) (by omega)
  refine ⟨hk, by omega, ?_, ?_, ?_⟩
  · rcases h4 with h4 | h4
    · right; right; unfold spN at *; omega
    · right; left; rw [he]; exact h4
  · intro i h6 h7; exact n3 i (by omega) h7
  · intro h6
    rcases n4 with h7 | h7
    · omega
    · exact h7.1

theorem grown_none {w w' : World} (h : Ext w w') : w.grownBy w' none := ⟨h.os, h.tape, h.output, h.size, fun i hi _ => h.block i hi⟩
theorem runI_start {S : Mn} {lo hi : Int} (hS : Ok S) (h0 : 0 ≤ lo) (hlh : lo ≤ hi) (hhi : hi ≤ 1048576) : RunI (mem S) lo hi 0 (nextF S lo) := by
  obtain ⟨n1, n2, n3, n4⟩ := nextF_spec hS lo (by omega)
  refine ⟨by omega, by omega, .inl rfl, fun i h1 h2 => n3 i (by omega) h2, fun h => ?_⟩
  rcases n4 with h7 | h7
  · omega
  · exact h7.1
theorem run_more {S : Mn} {lo hi m : Int} {k : Nat} (hS : Ok S) (h0 : 0 ≤ lo) (hhi : hi ≤ 1048576) (h : RunI (mem S) lo hi k m) (hm : m ≤ hi) :
    m ≤ runEnd S m hi ∧ runEnd S m hi ≤ hi ∧ ∃ k', k' ≤ spN lo hi ∧ RunI (mem S) lo hi k' (nextF S (runEnd S m hi + 1)) ∧ lst (mem S) lo k' = lst (mem S) lo k ++ [⟨m, runEnd S m hi⟩] ∧ (∃ r, lst (mem S) lo (spN lo hi) = lst (mem S) lo k ++ [⟨m, runEnd S m hi⟩] ++ r) := by
  obtain ⟨e1, e2, e3, e4⟩ := runEnd_spec (S := S) (show m ≤ hi + 1 by omega)
  have hat := h.at_
  have hge : m ≤ runEnd S m hi := by
    rcases e4 with e4 | e4
    · omega
    · by_cases hc : m ≤ runEnd S m hi
      · exact hc
      · have h1 : runEnd S m hi + 1 = m := by omega
        rw [h1, h.hit hm] at e4
        cases e4
  obtain ⟨k', h1, h2, h3, h4⟩ := h.next hm hge e2 e3 e4
  exact ⟨hge, e2, k', h1, RunI.step hS (by omega) e2 (by omega) h1 h2 e4 (by omega), h3, h4⟩

set_option maxRecDepth 100000 in
set_option maxHeartbeats 2000000 in
theorem runs1_in (l n Bs Bx : Nat) (hn : 1 ≤ n) (S : Mn) (hok : Ok S) (a b : Value) (lo hi : Int) (hlh : lo ≤ hi) (h0 : 0 ≤ lo) (hhi : hi ≤ 1048576) (w0 w1 : World) (hw1 : Ext w0 w1) (ts tx : TypeId) (hB : Cls Bs ts #[a, b] w1) (hX : Cls Bx tx #[.int .i64 lo, .int .i64 hi] w1) (hS : MinsAt w0 a b S)
    (J Jx : List (SpIn lo hi) → World → Prop)
    (hY : ∀ pre x W, J pre W → pre.length < (runL (mem S) lo hi hlh).length → YieldAt Fence.wide (n - 1) Tryz.prog l (encSp x) W fun e W' =>
      (e = .returned (.bool true) ∧ J (pre ++ [x]) W' ∧ KpB w0.heap.size [Bs, Bx] W W') ∨ (e = .returned (.bool false) ∧ Jx (pre ++ [x]) W'))
    (W : World) (hW : Ext w1 W) (hJ : AbidesFrom W.heap.size J) (hJ0 : J [] W) :
    CallsIn Fence.wide n Tryz.prog 81 #[.func (.yield l) #[] #[], .pointer (some ⟨Bs, 0, none⟩), .pointer (some ⟨Bx, 0, none⟩)] W fun e W' => (∃ v, e = .returned v) ∧
      ((∃ ys, ys = (runL (mem S) lo hi hlh) ∧ J ys W') ∨ (∃ pre, pre <+: (runL (mem S) lo hi hlh) ∧ Jx pre W')) := by
  have hB' := hB.ext hW
  have hX' := hX.ext hW
  have g0 : W.cell? ⟨Bs, 0, none⟩ = some a := hB'.cell 0
  have g1 : W.cell? ⟨Bs, 1, none⟩ = some b := hB'.cell 1
  have g2 : W.cell? ⟨Bx, 0, none⟩ = some (.int .i64 lo) := hX'.cell 0
  have g3 : W.cell? ⟨Bx, 1, none⟩ = some (.int .i64 hi) := hX'.cell 1
  have hW0 : Ext w0 W := hw1.trans hW
  obtain ⟨xs, hxs⟩ : ∃ xs, runL (mem S) lo hi hlh = xs := ⟨_, rfl⟩
  have hmap := runL_map (P := mem S) hlh
  rw [hxs] at hmap hY ⊢
  have HM := Lib.hid hmap
  clear hmap hxs
  refine callsIn_of_wp Tryz.func81 rfl trivial ?_ rfl
  simp only [Tryz.ntmps81, List.size_toArray, List.length_cons, List.length_nil, Nat.reduceAdd, Nat.reduceSub, Array.replicate_succ, Array.replicate_zero, List.push_toArray, List.append_toArray, List.nil_append, List.cons_append]
  gi_wp2_with fail
  refine ⟨trivial, (callsIn_wide.2 (next_any _ _ S _ _ (hS.ext hW0) hok (by omega) (by omega))).mono ?_⟩
  rintro e W1 ⟨rfl, hx1⟩
  have hI0 : RunI (mem S) lo hi 0 (nextF S lo) := runI_start hok h0 hlh hhi
  have hJ1 : J (xs.take (lst (mem S) lo 0).length) W1 := hJ _ _ W1 none hJ0 (grown_none hx1) (by intro r e; cases e)
  have HW := Lib.hid (hW0.trans hx1)
  have HB1 := Lib.hid (hB'.ext hx1)
  have HX1 := Lib.hid (hX'.ext hx1)
  clear g0 g1 g2 g3
  have hz1 := hx1.size
  clear hx1 hI0 hB' hX'
  gi_wp2_with fail
  gi_loopw [4] (fun i wr => ∃ (k : Nat) (m : Int), Hid (RunI (mem S) lo hi k m) ∧ (0 ≤ m ∧ m ≤ 1125899906842624) ∧ i = .int .i64 m ∧ J (xs.take (lst (mem S) lo k).length) wr ∧ Ext w0 wr ∧ W.heap.size ≤ wr.heap.size ∧ Hid (Cls Bs ts #[a, b] wr) ∧ Hid (Cls Bx tx #[.int .i64 lo, .int .i64 hi] wr)) (fun i _ => (hi + 1 - intOf i).toNat)
  case atStart => exact ⟨0, _, Lib.hid (runI_start hok h0 hlh hhi), by have := nextF_spec hok lo (by omega); omega, rfl, hJ1, HW.out, hz1, HB1, HX1⟩
  case round =>
    obtain ⟨k, m, HI, hm, rfl, hJs, hx, hsz, HBr, HXr⟩ := hrel
    have d0 : wr.cell? ⟨Bs, 0, none⟩ = some a := HBr.out.cell 0
    have d1 : wr.cell? ⟨Bs, 1, none⟩ = some b := HBr.out.cell 1
    have d2 : wr.cell? ⟨Bx, 0, none⟩ = some (.int .i64 lo) := HXr.out.cell 0
    have d3 : wr.cell? ⟨Bx, 1, none⟩ = some (.int .i64 hi) := HXr.out.cell 1
    by_cases hlt : m ≤ hi
    · gi_wp2_with fail
      refine ⟨trivial, (callsIn_wide.2 (end_any _ _ S _ _ _ (hS.ext hx) hok (by omega) (by omega) (by omega))).mono ?_⟩
      rintro e W2 ⟨rfl, hx2⟩
      obtain ⟨hP1, hP2, hP3⟩ := run_more hok h0 hhi HI.out hlt
      obtain ⟨to, hto⟩ : ∃ to, runEnd S m hi = to := ⟨_, rfl⟩
      rw [hto] at hP1 hP2 hP3 ⊢
      clear hto
      obtain ⟨k', hk', hP3⟩ := hP3
      obtain ⟨hI', hl', hr⟩ := hP3
      obtain ⟨r, hr⟩ := hr
      obtain ⟨hkl, hkx, hkt⟩ := take_next (fun (x : SpIn lo hi) => x.val) xs (lst (mem S) lo k) r ⟨m, to⟩ (by rw [HM.out, hr])
      have hJs' := hJ _ _ W2 none hJs (grown_none hx2) (by intro r e; cases e)
      obtain ⟨fn, tmps, assign, body, hy, hR⟩ := hY _ xs[(lst (mem S) lo k).length] _ hJs' (by rw [List.length_take]; omega)
      simp only [encSp, hkx] at hy
      have HKT := Lib.hid hkt
      have HL := Lib.hid hl'
      have HR := Lib.hid hr
      have HI2 := Lib.hid hI'
      clear hkt hl' hr hkx hI' hJs
      have hx3 := hx.trans hx2
      have hz2 := hx2.size
      have HB2 := Lib.hid (HBr.out.ext hx2)
      have HX2 := Lib.hid (HXr.out.ext hx2)
      clear hx hx2
      gi_wp2_with fail
      refine hR.mono ?_
      rintro e W3 (⟨rfl, hJ3, hk3⟩ | ⟨rfl, hJx3⟩)
      · have hx4 : Ext w0 W3 := hx3.trans' hk3.1
        have HB3 := Lib.hid (hk3.cls (by simp) HB2.out)
        have HX3 := Lib.hid (hk3.cls (by simp) HX2.out)
        have f0 : W3.cell? ⟨Bs, 0, none⟩ = some a := HB3.out.cell 0
        have f1 : W3.cell? ⟨Bs, 1, none⟩ = some b := HB3.out.cell 1
        gi_wp2_with fail
        refine ⟨trivial, (callsIn_wide.2 (next_any _ _ S _ _ (hS.ext hx4) hok (by omega) (by omega))).mono ?_⟩
        rintro e W4 ⟨rfl, hx5⟩
        have hn4 := nextF_spec hok (to + 1) (by omega)
        have hJ4 := hJ _ _ W4 none hJ3 (grown_none hx5) (by intro r e; cases e)
        have hx6 := hx4.trans hx5
        have HB4 := Lib.hid (HB3.out.ext hx5)
        have HX4 := Lib.hid (HX3.out.ext hx5)
        have hz4 : W.heap.size ≤ W4.heap.size := by have := hx5.size; have := hk3.1.size; omega
        obtain ⟨m', hm'⟩ : ∃ m', nextF S (to + 1) = m' := ⟨_, rfl⟩
        have HI3 := HI2.out
        rw [hm'] at hn4 HI3 ⊢
        have HI4 := Lib.hid HI3
        obtain ⟨hn5, hn6, _⟩ := hn4
        clear hm' HI3 hx5 HI2
        gi_wp2_with fail
        go_roundw
        case rel => exact ⟨k', m', HI4, by omega, rfl, by rw [HL.out, HKT.out]; exact hJ4, hx6, hz4, HB4, HX4⟩
        case measure => simp [intOf]; omega
      · gi_wp2_with fail
        refine bodyPost_ret (results_none rfl _ _ _) rfl ?_
        refine ⟨⟨_, rfl⟩, .inr ⟨_, ?_, hJx3⟩⟩
        rw [← HKT.out]
        exact List.take_prefix _ _
    · have hJd : J xs wr := by
        have h1 := HI.out.done (by omega)
        have h2 := HM.out
        rw [← h1, ← h2, List.length_map, List.take_length] at hJs
        exact hJs
      gi_wp2_with fail
      go_end0
      exact ⟨⟨_, rfl⟩, .inl hJd⟩

/-- THE RUNS OF A SET IN A SPAN: each one, in order, whatever the loop's body does above. -/
theorem runs_stops (n Bs Bx : Nat) (hn : 1 ≤ n) (S : Mn) (hok : Ok S) (a b : Value) (lo hi : Int) (hlh : lo ≤ hi) (h0 : 0 ≤ lo) (hhi : hi ≤ 1048576) (w0 w1 : World) (hw1 : Ext w0 w1) (ts tx : TypeId) (hB : Cls Bs ts #[a, b] w1) (hX : Cls Bx tx #[.int .i64 lo, .int .i64 hi] w1) (hS : MinsAt w0 a b S) :
    SeqStopsK Fence.wide n Tryz.prog 81 #[.pointer (some ⟨Bs, 0, none⟩), .pointer (some ⟨Bx, 0, none⟩)] encSp (KpB w0.heap.size [Bs, Bx]) (fun ys => ys = runL (mem S) lo hi hlh) (fun ys => ys <+: runL (mem S) lo hi hlh) (runL (mem S) lo hi hlh).length w1 :=
  fun l J Jx W hW hJ _ hY hJ0 => runs1_in l n Bs Bx hn S hok a b lo hi hlh h0 hhi w0 w1 hw1 ts tx hB hX hS J Jx hY W hW hJ hJ0

set_option maxHeartbeats 400000 in
theorem runs_any (a b : Value) (lo hi : Int) (w : World) :
    Calls Tryz.prog 53 #[.agg #[a, b], .agg #[.int .i64 lo, .int .i64 hi]] w fun e w' => e = .returned (.func (.func 81) #[] #[.pointer (some ⟨w.heap.size, 0, none⟩), .pointer (some ⟨w.heap.size + 1, 0, none⟩)]) ∧ (w.alloc (.cells #[a, b] 25)).alloc (.cells #[.int .i64 lo, .int .i64 hi] 45) = w' := by
  go_enter Tryz.func53, Tryz.ntmps53
  go_wp2
  go_ret
  exact ⟨rfl, rfl⟩

end Go.Proofs.YtejcmdoalhnpeaaGreatDoor
