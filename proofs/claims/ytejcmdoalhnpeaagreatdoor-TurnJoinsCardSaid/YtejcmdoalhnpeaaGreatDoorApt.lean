/- Apart, CheckApart, Often and Part of two turns; the specification's SameSpans. -/
import Derived.Test.YtejcmdoalhnpeaaGreatDoorFirst
import Derived.Test.YtejcmdoalhnpeaaGreatDoorBox
import Derived.Laws.MakeOwn
import Derived.Laws.Entries
import Derived.Laws.StructEq
namespace Go.Proofs.YtejcmdoalhnpeaaGreatDoor
open Go.RowKit Go.Shelf Go.Maps

/-- the least modulus that keeps two turns apart -/
def aptP (p f l q g k : Int) (i : Nat) : Bool := decide (gcdI p q % ((i : Int) + 1) = 0) && apB f l g k (i + 1)
def aptN (p f l q g k : Int) : Option Nat := (List.range (gcdI p q).toNat).find? (aptP p f l q g k)
def aptX (p f l q g k : Int) : Int := if pairE p f l q g k = 0 then (match aptN p f l q g k with | some i => (i : Int) + 1 | none => 0) else 0
def aptB (p f l q g k : Int) : Bool := if pairE p f l q g k = 0 then (aptN p f l q g k).isSome else false
theorem aptN_hit {p f l q g k : Int} {i : Nat} (h : i < (gcdI p q).toNat) (h1 : aptP p f l q g k i = true) (h2 : ∀ j, j < i → aptP p f l q g k j = false) : aptN p f l q g k = some i := by
  unfold aptN
  rw [List.find?_range_eq_some]
  exact ⟨h1, by simpa using h, fun j hj => by simp [h2 j hj]⟩
theorem aptN_miss {p f l q g k : Int} (h2 : ∀ j, j < (gcdI p q).toNat → aptP p f l q g k j = false) : aptN p f l q g k = none := by
  unfold aptN
  rw [List.find?_eq_none]
  intro j hj
  simp [h2 j (by simpa using hj)]
def NoApt (p f l q g k : Int) (n : Nat) : Prop := ∀ j, j < n → aptP p f l q g k j = false
theorem NoApt.succ {p f l q g k : Int} {n : Nat} (h : NoApt p f l q g k n) (h1 : aptP p f l q g k n = false) : NoApt p f l q g k (n + 1) := by
  intro j hj
  by_cases e : j = n
  · subst e; exact h1
  · exact h j (by omega)
theorem ret3 {a a' b b' c c' : Value} (h : a = a') (h' : b = b') (h'' : c = c') : Ending.returned (.tuple #[a, b, c]) = .returned (.tuple #[a', b', c']) := by rw [h, h', h'']

set_option maxHeartbeats 1000000 in
theorem Apart_any (p f l q g k : Int) (w : World) :
    Calls Tryz.prog 18 #[.agg #[.int .i64 p, .int .i64 f, .int .i64 l], .agg #[.int .i64 q, .int .i64 g, .int .i64 k]] w fun e w' => e = .returned (.tuple #[.int .i64 (aptX p f l q g k), .bool (aptB p f l q g k), .int .i64 (pairE p f l q g k)]) ∧ Ext w w' := by
  cases hE : (pairE p f l q g k != 0)
  · have h0 : pairE p f l q g k = 0 := by simpa using hE
    obtain ⟨hv, hv2⟩ := pair_ok h0
    have ha := tnB_t hv
    have hc := tnB_t hv2
    have hg1 := gcdI_pos (q := q) ha.1
    have hg2 := (gcdI_le ha.1 hc.1).1
    have H0 := Lib.hid h0
    clear h0
    go_enter Tryz.func18, Tryz.ntmps18
    go_wp2_with fail
    refine (both_any _ _ _ _ _ _ _).mono ?_
    rintro e w1 ⟨rfl, hx1⟩
    rw [H0.out]
    obtain ⟨q0, q1, hx2, hzz⟩ := alloc2 hx1
    have g0 : w1.cell? ⟨w.heap.size, 0, none⟩ = some (.int .i64 p) := q0.cell 0
    have g1 : w1.cell? ⟨w.heap.size, 1, none⟩ = some (.int .i64 f) := q0.cell 1
    have g2 : w1.cell? ⟨w.heap.size, 2, none⟩ = some (.int .i64 l) := q0.cell 2
    have g3 : w1.cell? ⟨w.heap.size + 1, 0, none⟩ = some (.int .i64 q) := q1.cell 0
    have g4 : w1.cell? ⟨w.heap.size + 1, 1, none⟩ = some (.int .i64 g) := q1.cell 1
    have g5 : w1.cell? ⟨w.heap.size + 1, 2, none⟩ = some (.int .i64 k) := q1.cell 2
    clear hx1
    go_wp2_with fail
    refine (divisor_any _ _ _ (by omega) (by omega) (by omega) (by omega)).mono ?_
    rintro e w2 ⟨rfl, hx3⟩
    have hx4 := hx2.trans hx3
    replace g0 := hx3.cell g0
    replace g1 := hx3.cell g1
    replace g2 := hx3.cell g2
    replace g3 := hx3.cell g3
    replace g4 := hx3.cell g4
    replace g5 := hx3.cell g5
    obtain ⟨G, hG⟩ : ∃ G, gcdI p q = G := ⟨_, rfl⟩
    have HG := Lib.hid hG
    rw [hG] at hg1 hg2 ⊢
    clear hG hx3
    go_wp2_with fail
    go_loopw [9] (fun i wr => ∃ n : Nat, (n : Int) ≤ G ∧ i = .int .i64 ((n : Int) + 1) ∧ Hid (NoApt p f l q g k n) ∧ Ext w2 wr) (fun i _ => (G + 1 - intOf i).toNat)
    case atStart => exact ⟨0, by omega, rfl, Lib.hid (fun j hj => by omega), Ext.refl _⟩
    case round =>
      obtain ⟨n, hn, rfl, HN, hx⟩ := hrel
      have d0 := hx.cell g0
      have d1 := hx.cell g1
      have d2 := hx.cell g2
      have d3 := hx.cell g3
      have d4 := hx.cell g4
      have d5 := hx.cell g5
      by_cases hlt : (n : Int) + 1 ≤ G
      · cases hd : (G % ((n : Int) + 1) == 0)
        · have hP : aptP p f l q g k n = false := by simp [aptP, HG.out]; intro h; simp [h] at hd
          go_wp2_with fail
          go_roundw
          case rel => exact ⟨n + 1, by omega, by go_num, Lib.hid (HN.out.succ hP), (by repeat (first | exact Ext.refl _ | assumption | refine Ext.alloc ?_ _ | refine Ext.drew ?_ | refine Ext.drewN _ ?_ | refine Ext.trans ?_ (by assumption)))⟩
          case measure => simp [intOf]; omega
        · cases hA : apB f l g k ((n : Int) + 1)
          · have hP : aptP p f l q g k n = false := by simp [aptP, hA]
            go_wp2_with (go_at_call 51; refine (apart_any _ _ _ _ _ _ _ _ hv hv2 (by omega) (by omega)).mono ?_; rw [hA]; rintro e w' ⟨rfl, hx5⟩)
            go_roundw
            case rel => exact ⟨n + 1, by omega, by go_num, Lib.hid (HN.out.succ hP), (by repeat (first | exact Ext.refl _ | assumption | refine Ext.alloc ?_ _ | refine Ext.drew ?_ | refine Ext.drewN _ ?_ | refine Ext.trans ?_ (by assumption)))⟩
            case measure => simp [intOf]; omega
          · have hP : aptP p f l q g k n = true := by simp [aptP, hA, HG.out]; simpa using hd
            have hN := aptN_hit (by rw [HG.out]; omega) hP HN.out
            have HR := Lib.hid hN
            clear hN
            go_wp2_with (go_at_call 51; refine (apart_any _ _ _ _ _ _ _ _ hv hv2 (by omega) (by omega)).mono ?_; rw [hA]; rintro e w' ⟨rfl, hx5⟩)
            go_ret3
            exact ⟨ret3 (vint (by rw [aptX, if_pos H0.out, HR.out])) (vbool (by rw [aptB, if_pos H0.out, HR.out]; rfl)) (vint H0.out.symm), (by repeat (first | exact Ext.refl _ | assumption | refine Ext.alloc ?_ _ | refine Ext.drew ?_ | refine Ext.drewN _ ?_ | refine Ext.trans ?_ (by assumption)))⟩
      · have hN := aptN_miss (p := p) (f := f) (l := l) (q := q) (g := g) (k := k) (fun j hj => HN.out j (by rw [HG.out] at hj; omega))
        have HR := Lib.hid hN
        clear hN
        go_wp2_with fail
        go_ret3
        exact ⟨ret3 (vint (by rw [aptX, if_pos H0.out, HR.out])) (vbool (by rw [aptB, if_pos H0.out, HR.out]; rfl)) (vint H0.out.symm), (by repeat (first | exact Ext.refl _ | assumption | refine Ext.alloc ?_ _ | refine Ext.drew ?_ | refine Ext.drewN _ ?_ | refine Ext.trans ?_ (by assumption)))⟩
  · have h0 : pairE p f l q g k ≠ 0 := by simpa using hE
    go_enter Tryz.func18, Tryz.ntmps18
    go_wp2_with fail
    refine (both_any _ _ _ _ _ _ _).mono ?_
    rintro e w1 ⟨rfl, hx1⟩
    go_wp2_with fail
    go_ret3
    exact ⟨ret3 (vint (by rw [aptX, if_neg h0])) (vbool (by rw [aptB, if_neg h0])) rfl, (by repeat (first | exact Ext.refl _ | assumption | refine Ext.alloc ?_ _ | refine Ext.drew ?_ | refine Ext.drewN _ ?_ | refine Ext.trans ?_ (by assumption)))⟩

/-- whether a modulus is accepted -/
def chaE (p f l q g k m : Int) : Int := if pairE p f l q g k = 0 then (if 1 ≤ m ∧ p % m = 0 ∧ q % m = 0 ∧ apB f l g k m = true then 0 else 8) else pairE p f l q g k
set_option maxHeartbeats 1000000 in
theorem CheckApart_any (p f l q g k m : Int) (w : World) :
    Calls Tryz.prog 26 #[.agg #[.int .i64 p, .int .i64 f, .int .i64 l], .agg #[.int .i64 q, .int .i64 g, .int .i64 k], .int .i64 m] w fun e w' => e = .returned (.int .i64 (chaE p f l q g k m)) ∧ Ext w w' := by
  cases hE : (pairE p f l q g k != 0)
  · have h0 : pairE p f l q g k = 0 := by simpa using hE
    obtain ⟨hv, hv2⟩ := pair_ok h0
    have ha := tnB_t hv
    have hc := tnB_t hv2
    have H0 := Lib.hid h0
    clear h0
    go_enter Tryz.func26, Tryz.ntmps26
    go_wp2_with fail
    refine (both_any _ _ _ _ _ _ _).mono ?_
    rintro e w1 ⟨rfl, hx1⟩
    rw [H0.out]
    obtain ⟨q0, q1, hx2, hzz⟩ := alloc2 hx1
    have g0 : w1.cell? ⟨w.heap.size, 0, none⟩ = some (.int .i64 p) := q0.cell 0
    have g1 : w1.cell? ⟨w.heap.size, 1, none⟩ = some (.int .i64 f) := q0.cell 1
    have g2 : w1.cell? ⟨w.heap.size, 2, none⟩ = some (.int .i64 l) := q0.cell 2
    have g3 : w1.cell? ⟨w.heap.size + 1, 0, none⟩ = some (.int .i64 q) := q1.cell 0
    have g4 : w1.cell? ⟨w.heap.size + 1, 1, none⟩ = some (.int .i64 g) := q1.cell 1
    have g5 : w1.cell? ⟨w.heap.size + 1, 2, none⟩ = some (.int .i64 k) := q1.cell 2
    clear hx1
    by_cases hm : m < 1
    · go_wp2_with fail
      go_ret
      exact ⟨ret_int (by rw [chaE, if_pos H0.out, if_neg (by omega)]), (by repeat (first | exact Ext.refl _ | assumption | refine Ext.alloc ?_ _ | refine Ext.drew ?_ | refine Ext.drewN _ ?_ | refine Ext.trans ?_ (by assumption)))⟩
    · cases hd1 : (p % m != 0)
      · have e1 : p % m = 0 := by simpa using hd1
        have E1 := Lib.hid e1
        clear e1
        have hmp : m ≤ 40320 := by
          have h1 := Int.emod_add_mul_ediv p m
          rw [E1.out] at h1
          by_cases hc2 : 0 < p / m
          · have := Int.mul_le_mul_of_nonneg_left (show 1 ≤ p / m by omega) (show 0 ≤ m by omega)
            omega
          · have h2 : m * (p / m) ≤ 0 := Int.mul_nonpos_of_nonneg_of_nonpos (by omega) (by omega)
            omega
        cases hd2 : (q % m != 0)
        · have e2 : q % m = 0 := by simpa using hd2
          have E2 := Lib.hid e2
          clear e2
          cases hA : apB f l g k m
          · go_wp2_with (go_at_call 51; refine (apart_any _ _ _ _ _ _ _ _ hv hv2 (by omega) (by omega)).mono ?_; rw [hA]; rintro e w' ⟨rfl, hx5⟩)
            go_ret
            exact ⟨ret_int (by rw [chaE, if_pos H0.out, if_neg (by simp [hA])]), (by repeat (first | exact Ext.refl _ | assumption | refine Ext.alloc ?_ _ | refine Ext.drew ?_ | refine Ext.drewN _ ?_ | refine Ext.trans ?_ (by assumption)))⟩
          · go_wp2_with (go_at_call 51; refine (apart_any _ _ _ _ _ _ _ _ hv hv2 (by omega) (by omega)).mono ?_; rw [hA]; rintro e w' ⟨rfl, hx5⟩)
            go_ret
            exact ⟨ret_int (by rw [chaE, if_pos H0.out, if_pos ⟨by omega, E1.out, E2.out, hA⟩]), (by repeat (first | exact Ext.refl _ | assumption | refine Ext.alloc ?_ _ | refine Ext.drew ?_ | refine Ext.drewN _ ?_ | refine Ext.trans ?_ (by assumption)))⟩
        · go_wp2_with fail
          go_ret
          exact ⟨ret_int (by rw [chaE, if_pos H0.out, if_neg (by simp at hd2; simp [hd2])]), (by repeat (first | exact Ext.refl _ | assumption | refine Ext.alloc ?_ _ | refine Ext.drew ?_ | refine Ext.drewN _ ?_ | refine Ext.trans ?_ (by assumption)))⟩
      · go_wp2_with fail
        go_ret
        exact ⟨ret_int (by rw [chaE, if_pos H0.out, if_neg (by simp at hd1; simp [hd1])]), (by repeat (first | exact Ext.refl _ | assumption | refine Ext.alloc ?_ _ | refine Ext.drew ?_ | refine Ext.drewN _ ?_ | refine Ext.trans ?_ (by assumption)))⟩
  · have h0 : pairE p f l q g k ≠ 0 := by simpa using hE
    go_enter Tryz.func26, Tryz.ntmps26
    go_wp2_with fail
    refine (both_any _ _ _ _ _ _ _).mono ?_
    rintro e w1 ⟨rfl, hx1⟩
    go_wp2_with fail
    go_ret
    exact ⟨ret_int (by rw [chaE, if_neg h0]), (by repeat (first | exact Ext.refl _ | assumption | refine Ext.alloc ?_ _ | refine Ext.drew ?_ | refine Ext.drewN _ ?_ | refine Ext.trans ?_ (by assumption)))⟩

/-- two lists of spans are the same -/
def spEq (a b : List Sp) : Bool := decide (a.map (fun s => (s.lo, s.hi)) = b.map (fun s => (s.lo, s.hi)))
theorem sp_ext {a b : Sp} (h1 : a.lo = b.lo) (h2 : a.hi = b.hi) : a = b := by cases a; cases b; simp_all
theorem spEq_iff (a b : List Sp) : spEq a b = true ↔ a = b := by
  unfold spEq
  rw [decide_eq_true_iff]
  constructor
  · intro h
    refine List.map_inj_right (f := fun s : Sp => (s.lo, s.hi)) ?_ |>.1 h
    intro x y hxy
    simp only [Prod.mk.injEq] at hxy
    exact sp_ext hxy.1 hxy.2
  · intro h; rw [h]
theorem eqSp (a b c d : Int) (w : World) : (Op.equalIn 10000 45 (.agg #[.int .i64 a, .int .i64 b]) (.agg #[.int .i64 c, .int .i64 d])).run Tryz.prog w = .ok (a == c && b == d) w := by
  have u3 := Tryz.underlying3
  rw [show (10000 : Nat) = 9999 + 1 from rfl, run_equalIn_agg w 9999 45 _ _ (by kernel_rfl) (by kernel_rfl)]
  simp only [Program.fieldsOf, Tryz.underlying45]
  go_simp
  by_cases h1 : a = c <;> by_cases h2 : b = d <;> simp [h1, h2]
theorem neqSp (a b c d : Int) (w : World) : (binOp .neq 45 (.agg #[.int .i64 a, .int .i64 b]) (.agg #[.int .i64 c, .int .i64 d])).run Tryz.prog w = .ok (.bool (!(a == c && b == d))) w := by
  rw [run_neq_struct, eqSp]; rfl
theorem eqTn (a b c d e f : Int) (w : World) : (Op.equalIn 10000 42 (.agg #[.int .i64 a, .int .i64 b, .int .i64 c]) (.agg #[.int .i64 d, .int .i64 e, .int .i64 f])).run Tryz.prog w = .ok (a == d && b == e && c == f) w := by
  have u3 := Tryz.underlying3
  rw [show (10000 : Nat) = 9999 + 1 from rfl, run_equalIn_agg w 9999 42 _ _ (by kernel_rfl) (by kernel_rfl)]
  simp only [Program.fieldsOf, Tryz.underlying42]
  go_simp
  by_cases h1 : a = d <;> by_cases h2 : b = e <;> by_cases h3 : c = f <;> simp [h1, h2, h3]
theorem neqTn (a b c d e f : Int) (w : World) : (binOp .neq 42 (.agg #[.int .i64 a, .int .i64 b, .int .i64 c]) (.agg #[.int .i64 d, .int .i64 e, .int .i64 f])).run Tryz.prog w = .ok (.bool (!(a == d && b == e && c == f))) w := by
  rw [run_neq_struct, eqTn]; rfl
theorem eqlTn (a b c d e f : Int) (w : World) : (binOp .eql 42 (.agg #[.int .i64 a, .int .i64 b, .int .i64 c]) (.agg #[.int .i64 d, .int .i64 e, .int .i64 f])).run Tryz.prog w = .ok (.bool (a == d && b == e && c == f)) w := by
  rw [run_eql_struct, eqTn]; rfl
def SameTo (a b : List Sp) (n : Nat) : Prop := a.take n = b.take n

set_option maxHeartbeats 1000000 in
theorem SameSpans_any (va vb : Value) (a b : List Sp) (w : World) (ha : SpansAt w va a) (hb : SpansAt w vb b) (hl : a.length ≤ 2000000) (hl2 : b.length ≤ 2000000) :
    Calls Tryz.prog 25 #[va, vb] w fun e w' => e = .returned (.bool (spEq a b)) ∧ Ext w w' := by
  obtain ⟨aa, ca, rfl⟩ := ha.len
  obtain ⟨ab, cb, rfl⟩ := hb.len
  cases hL : ((a.length : Int) != b.length)
  · have hl3 : a.length = b.length := by simp at hL; omega
    have HL := Lib.hid hl3
    clear hl3
    go_enter Tryz.func25, Tryz.ntmps25
    go_wp2_with fail
    go_loopw [5] (fun i wr => ∃ n : Nat, n ≤ a.length ∧ i = .int .i64 n ∧ Hid (SameTo a b n) ∧ Ext w wr) (fun i _ => a.length - (intOf i).toNat)
    case atStart => exact ⟨0, by omega, rfl, Lib.hid (by simp [SameTo]), (by repeat (first | exact Ext.refl _ | assumption | refine Ext.alloc ?_ _ | refine Ext.drew ?_ | refine Ext.drewN _ ?_ | refine Ext.trans ?_ (by assumption)))⟩
    case round =>
      obtain ⟨n, hn, rfl, HS, hx⟩ := hrel
      by_cases hlt : n < a.length
      · have hlt2 : n < b.length := by rw [← HL.out]; exact hlt
        obtain ⟨b1, o1, rfl, c0, c1⟩ := (ha.ext hx).get n hlt
        obtain ⟨b2, o2, rfl, d0, d1⟩ := (hb.ext hx).get n hlt2
        have hne := neqSp a[n].lo a[n].hi b[n].lo b[n].hi
        cases hq : (a[n].lo == b[n].lo && a[n].hi == b[n].hi)
        · simp only [hq] at hne
          go_wp2_with fail
          go_quiet (fail)
          go_wp2
          go_ret
          refine ⟨ret_bool ?_, (by repeat (first | exact Ext.refl _ | assumption | refine Ext.alloc ?_ _ | refine Ext.drew ?_ | refine Ext.drewN _ ?_ | refine Ext.trans ?_ (by assumption)))⟩
          symm
          rw [← Bool.not_eq_true, spEq_iff]
          intro h
          subst h
          simp at hq
        · simp only [hq] at hne
          have he : a[n] = b[n] := by simp at hq; exact sp_ext hq.1 hq.2
          have hs : SameTo a b (n + 1) := by
            have := HS.out
            unfold SameTo at *
            rw [take_succ_get a n hlt, take_succ_get b n hlt2, this, he]
          have HS2 := Lib.hid hs
          clear he hs hq
          go_wp2_with fail
          go_quiet (fail)
          go_wp2
          go_roundw
          case rel => exact ⟨n + 1, by omega, by go_num, HS2, (by repeat (first | exact Ext.refl _ | assumption | refine Ext.alloc ?_ _ | refine Ext.drew ?_ | refine Ext.drewN _ ?_ | refine Ext.trans ?_ (by assumption)))⟩
          case measure => simp [intOf]; omega
      · obtain rfl : n = a.length := by omega
        go_wp2_with fail
        go_ret
        exact ⟨ret_bool (by symm; rw [spEq_iff]; have := HS.out; unfold SameTo at this; rw [List.take_length, HL.out, List.take_length] at this; exact this), (by repeat (first | exact Ext.refl _ | assumption | refine Ext.alloc ?_ _ | refine Ext.drew ?_ | refine Ext.drewN _ ?_ | refine Ext.trans ?_ (by assumption)))⟩
  · have hl3 : a.length ≠ b.length := by simp at hL; omega
    go_enter Tryz.func25, Tryz.ntmps25
    go_wp2_with fail
    go_ret
    exact ⟨ret_bool (by symm; rw [← Bool.not_eq_true, spEq_iff]; intro h; rw [h] at hl3; exact hl3 rfl), (by repeat (first | exact Ext.refl _ | assumption | refine Ext.alloc ?_ _ | refine Ext.drew ?_ | refine Ext.drewN _ ?_ | refine Ext.trans ?_ (by assumption)))⟩

end Go.Proofs.YtejcmdoalhnpeaaGreatDoor
