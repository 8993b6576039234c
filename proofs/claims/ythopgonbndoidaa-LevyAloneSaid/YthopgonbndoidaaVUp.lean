/- The iterator over the way up from a reach: for every loop body that keeps what lay before, and its two boxes. -/
import Derived.Test.YthopgonbndoidaaVSeq
namespace Go.Proofs.Ythopgonbndoidaa
open Go.RowKit Go.Shelf

attribute [local go_sem] Oper.semAt_some

/-- an index below n -/
abbrev RIx (n : Nat) : Type := { x : Int // 0 ≤ x ∧ x < (n : Int) }
def encR {n : Nat} (x : RIx n) : Array Value := #[.int .i64 x.1]
def vals {n : Nat} (l : List (RIx n)) : List Int := l.map (·.1)
theorem vals_snoc {n : Nat} (l : List (RIx n)) (x : RIx n) : vals (l ++ [x]) = vals l ++ [x.1] := by simp [vals]
theorem vals_len {n : Nat} (l : List (RIx n)) : (vals l).length = l.length := by simp [vals]
def upS {rs : List Rc} (hV : RsV rs) {r : Int} (h : r < rs.length) : List (RIx rs.length) := (upL rs r).pmap (fun x hx => ⟨x, hx⟩) (upL_in hV h)
theorem upS_vals {rs : List Rc} (hV : RsV rs) {r : Int} (h : r < rs.length) : vals (upS hV h) = upL rs r := by
  unfold vals upS
  rw [List.map_pmap]
  exact List.pmap_eq_self.2 (fun _ _ => rfl)
/-- what the iterator's box says -/
def boxN (W : World) (B : Nat) : Nat := match W.cell? ⟨B, 0, none⟩ with
  | some (.int _ n) => (n + 1).toNat
  | _ => 0
theorem boxN_eq {W : World} {B : Nat} {t : TypeId} {n : Int} (h : Cls B t #[.int .i64 n] W) : boxN W B = (n + 1).toNat := by
  unfold boxN
  rw [h.cell 0]
  rfl

set_option maxRecDepth 100000 in
set_option maxHeartbeats 2000000 in
theorem up1_in (l n Bt Br : Nat) (hn : 1 ≤ n) (T : Tr) (hV : RsV T.rs) (a b : Value) (r : Int) (h1 : -1 ≤ r) (h2 : r < T.rs.length) (w0 w1 : World) (hw1 : Ext w0 w1) (tt tr : TypeId) (hne : Bt ≠ Br) (hBr : w0.heap.size ≤ Br) (hB : Cls Bt tt #[a, b] w1) (hX : Cls Br tr #[.int .i64 r] w1) (hT : RcsAt w0 a T.rs)
    (J Jx : List (RIx T.rs.length) → World → Prop) (hJ : AbidesBox Br J)
    (hY : ∀ pre x W, J pre W → pre ++ [x] <+: upS hV h2 → YieldAt Fence.wide (n - 1) Try.prog l (encR x) W fun e W' =>
      (e = .returned (.bool true) ∧ J (pre ++ [x]) W' ∧ KpB w0.heap.size [Bt, Br] W W') ∨ (e = .returned (.bool false) ∧ Jx (pre ++ [x]) W'))
    (W : World) (hW : Ext w1 W) (hJ0 : J [] W) :
    CallsIn Fence.wide n Try.prog 117 #[.func (.yield l) #[] #[], .pointer (some ⟨Br, 0, none⟩), .pointer (some ⟨Bt, 0, none⟩)] W fun e W' => (∃ v, e = .returned v) ∧
      ((∃ ys, ys = upS hV h2 ∧ J ys W') ∨ (∃ pre, pre <+: upS hV h2 ∧ Jx pre W')) := by
  obtain ⟨A, c, rfl, _⟩ := hT.len
  have hval := upS_vals hV h2
  obtain ⟨xs, hxs⟩ : ∃ xs, upS hV h2 = xs := ⟨_, rfl⟩
  rw [hxs] at hval hY ⊢
  have HV := Lib.hid hval
  have hxW := hw1.trans hW
  have hBW := hB.ext hW
  have hXW := hX.ext hW
  clear hval hxs hB hX hW
  refine callsIn_of_wp Try.func117 rfl trivial ?_ rfl
  simp only [Try.ntmps117, List.size_toArray, List.length_cons, List.length_nil, Nat.reduceAdd, Nat.reduceSub, Array.replicate_succ, Array.replicate_zero, List.push_toArray, List.append_toArray, List.nil_append, List.cons_append]
  gi_wp2_with fail
  gi_loopw [4] (fun _ wr => ∃ (pre rest : List (RIx T.rs.length)) (cur : Int), xs = pre ++ rest ∧ vals rest = upL T.rs cur ∧ (-1 ≤ cur ∧ cur < T.rs.length) ∧ J pre wr ∧ Ext w0 wr ∧ Cls Bt tt #[.slice A T.rs.length c, b] wr ∧ Cls Br tr #[.int .i64 cur] wr) (fun _ wr => boxN wr Br)
  case atStart => exact ⟨[], xs, r, rfl, HV.out, ⟨h1, h2⟩, hJ0, hxW, hBW, hXW⟩
  case round =>
    obtain ⟨pre, rest, cur, hspl, hrest, ⟨hc1, hc2⟩, hJs, hx, hB, hX⟩ := hrel
    have d0 : wr.cell? ⟨Br, 0, none⟩ = some (.int .i64 cur) := hX.cell 0
    by_cases h0 : 0 ≤ cur
    · obtain ⟨i, rfl⟩ : ∃ i : Nat, cur = i := ⟨cur.toNat, by omega⟩
      have hi : i < T.rs.length := by omega
      have hv := hV.v i hi
      rw [upL_step hV hi] at hrest
      obtain ⟨x, rest', rfl⟩ : ∃ x rest', rest = x :: rest' := by
        cases rest with
        | nil => simp [vals] at hrest
        | cons x l => exact ⟨x, l, rfl⟩
      have hr2 : x.1 = (i : Int) ∧ vals rest' = upL T.rs T.rs[i].above := by simpa [vals] using hrest
      obtain ⟨hxi, hr'⟩ := hr2
      obtain ⟨fn, tmps, assign, body, hy, hR⟩ := hY pre x wr hJs ⟨rest', by rw [hspl]; simp⟩
      simp only [encR, hxi] at hy
      have HR := Lib.hid hr'
      have HS := Lib.hid hspl
      clear hspl hrest hr'
      obtain ⟨ab, hab⟩ : ∃ ab, T.rs[i].above = ab := ⟨_, rfl⟩
      rw [hab] at hv
      gi_wp2_with fail
      refine hR.mono ?_
      rintro e W3 (⟨rfl, hJ3, hk3⟩ | ⟨rfl, hJx3⟩)
      · have hx3 : Ext w0 W3 := hx.trans' hk3.1
        have hB3 := hk3.cls (by simp) hB
        have hX3 := hk3.cls (by simp) hX
        have e0 : W3.cell? ⟨Br, 0, none⟩ = some (.int .i64 i) := hX3.cell 0
        have f0 := hX3.frozen 0
        have e1 : W3.cell? ⟨Bt, 0, none⟩ = some (.slice A T.rs.length c) := hB3.cell 0
        obtain ⟨bb, oo, rfl, c0, c1⟩ := (hT.ext hx3).get i hi
        rw [hab] at c0
        gi_wp2
        go_roundw
        case rel => exact ⟨pre ++ [x], rest', ab, by rw [HS.out]; simp, by rw [← hab]; exact HR.out, by omega, hJ.set _ _ _ hJ3, hx3.setCell (by exact hBr) _, hB3.other hne 0 _, hX3.set 0 _⟩
        case measure =>
          rw [boxN_eq hX, boxN_eq (hX3.set 0 (.int .i64 ab))]; omega
      · gi_wp2
        go_end0
        exact ⟨⟨_, rfl⟩, .inr ⟨pre ++ [x], ⟨rest', by rw [HS.out]; simp⟩, hJx3⟩⟩
    · have hn0 : rest = [] := by
        rw [upL_neg _ (by omega)] at hrest
        cases rest with
        | nil => rfl
        | cons x l => simp [vals] at hrest
      subst hn0
      have HS := Lib.hid hspl
      clear hspl hrest
      gi_wp2
      refine ⟨fun _ h => (by cases h), ?_⟩
      gi_wp2
      go_end0
      exact ⟨⟨_, rfl⟩, .inl ⟨pre, by rw [HS.out]; simp, hJs⟩⟩

/-- THE WAY UP FROM A REACH -/
theorem up_seq (Bt Br : Nat) (T : Tr) (hV : RsV T.rs) (a b : Value) (r : Int) (h1 : -1 ≤ r) (h2 : r < T.rs.length) (w0 w1 : World) (hw1 : Ext w0 w1) (tt tr : TypeId) (hne : Bt ≠ Br) (hBr : w0.heap.size ≤ Br) (hB : Cls Bt tt #[a, b] w1) (hX : Cls Br tr #[.int .i64 r] w1) (hT : RcsAt w0 a T.rs) :
    SeqBox 4 Try.prog 117 #[.pointer (some ⟨Br, 0, none⟩), .pointer (some ⟨Bt, 0, none⟩)] encR Br (KpB w0.heap.size [Bt, Br]) (fun ys => ys = upS hV h2) (fun ys => ys <+: upS hV h2) (fun pre x => pre ++ [x] <+: upS hV h2) w1 :=
  fun l J Jx W hW hJ hY h0 => up1_in l 4 Bt Br (by omega) T hV a b r h1 h2 w0 w1 hw1 tt tr hne hBr hB hX hT J Jx hJ hY W hW h0
end Go.Proofs.Ythopgonbndoidaa
