/- slices.Equal of bools, period and Period of the program. -/
import Derived.Test.YtejcmdoalhnpeaaGreatDoorWhl
namespace Go.Proofs.YtejcmdoalhnpeaaGreatDoor
open Go.RowKit Go.Shelf

/-- a slice that reads as bools -/
def BoolSl (w : World) (v : Value) (n : Nat) (G : Nat → Bool) : Prop := ∃ ao cap, v = .slice ao n cap ∧ ∀ i, i < n → ∃ b o, ao = some ⟨b, o, none⟩ ∧ w.cell? ⟨b, o + i, none⟩ = some (.bool (G i))
theorem BoolSl.drewN {w : World} {v : Value} {n : Nat} {G : Nat → Bool} (h : BoolSl w v n G) (m : Nat) : BoolSl (w.drewN m) v n G := h
theorem BoolSl.len {w : World} {v : Value} {n : Nat} {G : Nat → Bool} (h : BoolSl w v n G) : ∃ ao cap, v = .slice ao n cap := by obtain ⟨ao, cap, hv, _⟩ := h; exact ⟨ao, cap, hv⟩
theorem BoolSl.get {w : World} {ao : Option Addr} {n cap : Nat} {G : Nat → Bool} (h : BoolSl w (.slice ao n cap) n G) (i : Nat) (hi : i < n) : ∃ b o, ao = some ⟨b, o, none⟩ ∧ w.cell? ⟨b, o + i, none⟩ = some (.bool (G i)) := by
  obtain ⟨ao', cap', hv, hc⟩ := h
  simp only [Value.slice.injEq] at hv
  obtain ⟨rfl, _, rfl⟩ := hv
  exact hc i hi
def eqBB (G H : Nat → Bool) (n : Nat) : Bool := (List.range n).all (fun i => G i == H i)
theorem eqBB_f {G H : Nat → Bool} {n i : Nat} (h : i < n) (h1 : (G i == H i) = false) : false = eqBB G H n := by
  symm
  unfold eqBB
  rw [← Bool.not_eq_true, List.all_eq_true]
  intro h2
  have := h2 i (by simpa using h)
  rw [h1] at this
  cases this
theorem eqBB_t {G H : Nat → Bool} {n : Nat} (h : ∀ i, i < n → (G i == H i) = true) : true = eqBB G H n := by
  symm
  unfold eqBB
  rw [List.all_eq_true]
  intro i hi
  exact h i (by simpa using hi)
def EqUp (G H : Nat → Bool) (k : Nat) : Prop := ∀ i, i < k → (G i == H i) = true

set_option maxHeartbeats 1000000 in
theorem Equal_any (va vb : Value) (n : Nat) (G H : Nat → Bool) (w : World) (ha : BoolSl w va n G) (hb : BoolSl w vb n H) (hn : n ≤ 1000000) :
    Calls Tryz.prog 83 #[va, vb] w fun e w' => e = .returned (.bool (eqBB G H n)) ∧ ∃ m, w' = w.drewN m := by
  obtain ⟨aa, ca, rfl⟩ := ha.len
  obtain ⟨ab, cb, rfl⟩ := hb.len
  go_enter Tryz.func83, Tryz.ntmps83
  go_wp2_with fail
  go_loopw [13] (fun i wr => ∃ k : Nat, k ≤ n ∧ i = .int .i64 k ∧ Hid (EqUp G H k) ∧ ∃ m, wr = w.drewN m) (fun i _ => n - (intOf i).toNat)
  case atStart => exact ⟨0, by omega, rfl, Lib.hid (fun i hi => by omega), 0, rfl⟩
  case round =>
    obtain ⟨k, hk, rfl, HE, m, rfl⟩ := hrel
    by_cases hlt : k < n
    · obtain ⟨b1, o1, rfl, c1⟩ := ha.get k hlt
      obtain ⟨b2, o2, rfl, c2⟩ := hb.get k hlt
      obtain ⟨x, hx⟩ : ∃ x, G k = x := ⟨_, rfl⟩
      obtain ⟨y, hy⟩ : ∃ y, H k = y := ⟨_, rfl⟩
      have HX := Lib.hid hx
      have HY := Lib.hid hy
      rw [hx] at c1
      rw [hy] at c2
      clear hx hy
      cases hq : (x == y)
      · have hq2 : (x != y) = true := by simp [bne, hq]
        go_wp2_with fail
        go_quiet (fail)
        go_wp2
        go_ret
        exact ⟨ret_bool (eqBB_f hlt (by rw [HX.out, HY.out]; exact hq)), _, World.drewN_drewN _ _ _⟩
      · have hq2 : (x != y) = false := by simp [bne, hq]
        have HE2 : Hid (EqUp G H (k + 1)) := Lib.hid (fun i hi => by
          by_cases e : i = k
          · subst e; rw [HX.out, HY.out]; exact hq
          · exact HE.out i (by omega))
        go_wp2_with fail
        go_quiet (fail)
        go_wp2
        go_roundw
        case rel => exact ⟨k + 1, by omega, by go_num, HE2, _, rfl⟩
        case measure => simp [intOf]; omega
    · obtain rfl : k = n := by omega
      go_wp2
      go_ret
      exact ⟨ret_bool (eqBB_t HE.out), _, rfl⟩

theorem per_eq {F : Nat → Bool} {L p : Nat} (h : L % p = 0) : perB F L p = eqBB (fun i => F (i + p)) F (L - p) := by simp [perB, eqBB, h]
def NoPer (F : Nat → Bool) (L n : Nat) : Prop := ∀ j, j < n → perB F L (j + 1) = false
theorem NoPer.succ {F : Nat → Bool} {L n : Nat} (h : NoPer F L n) (h1 : perB F L (n + 1) = false) : NoPer F L (n + 1) := by
  intro j hj
  by_cases e : j = n
  · subst e; exact h1
  · exact h j (by omega)

theorem quiet_add {P : Program} {f : FuncId} {args : Array Value} {w : World} {a n : Nat} {v : Value}
    (h : Calls P f args (w.drewN (a + n)) fun e w' => e = .returned v ∧ ∃ m, w' = (w.drewN (a + n)).drewN m) :
    Calls P f args (w.drewN (a + n)) fun e w'' => e = .returned v ∧ ∃ m, w'' = w.drewN (a + m) :=
  h.mono fun _ _ ⟨he, m, hm⟩ => ⟨he, n + m, by rw [hm, World.drewN_drewN, Nat.add_assoc]⟩
theorem boolSl_of {B L k n c : Nat} {F : Nat → Bool} {w : World} (hB : Cls B 4 (bools F L) w) (h : k + n ≤ L) : BoolSl w (.slice (some ⟨B, k, none⟩) n c) n (fun i => F (i + k)) :=
  ⟨_, _, rfl, fun i hi => ⟨B, k, rfl, by rw [hB.cell, Nat.add_comm k i]; exact bools_get (by omega)⟩⟩
def perV (F : Nat → Bool) (L : Nat) : Int := match perN F L with | some i => (i : Int) + 1 | none => 0
theorem perV_of {F : Nat → Bool} {L n : Nat} (h : perN F L = some n) : (n : Int) + 1 = perV F L := by unfold perV; rw [h]
set_option maxHeartbeats 2000000 in
theorem period_any (B L : Nat) (F : Nat → Bool) (w : World) (hB : Cls B 4 (bools F L) w) (h1 : 1 ≤ L) (h2 : L ≤ 40320) :
    Calls Tryz.prog 55 #[.slice (some ⟨B, 0, none⟩) L L] w fun e w' => e = .returned (.int .i64 (perV F L)) ∧ ∃ m, w' = w.drewN m := by
  go_enter Tryz.func55, Tryz.ntmps55
  go_wp2_with fail
  go_loopw [3] (fun i wr => ∃ n : Nat, n < L ∧ i = .int .i64 ((n : Int) + 1) ∧ Hid (NoPer F L n) ∧ ∃ m, wr = w.drewN m) (fun i _ => (L - intOf i).toNat)
  case atStart => exact ⟨0, by omega, rfl, Lib.hid (fun j hj => by omega), 0, rfl⟩
  case round =>
    obtain ⟨n, hn, rfl, HN, m, rfl⟩ := hrel
    have hlp : (1 : Int) ≤ (n : Int) + 1 := by omega
    have hlp2 : (n : Int) + 1 ≤ L := by omega
    cases hd : ((L : Int) % ((n : Int) + 1) != 0)
    · have hd2 : L % (n + 1) = 0 := by
        have : (L : Int) % ((n + 1 : Nat) : Int) = 0 := by simpa using hd
        rw [← Int.natCast_emod] at this
        omega
      have hpe := per_eq (F := F) hd2
      have HPE := Lib.hid hpe
      clear hd2 hpe
      by_cases hlt : n + 1 < L
      · obtain ⟨q, hq⟩ : ∃ q, eqBB (fun i => F (i + (n + 1))) F (L - (n + 1)) = q := ⟨_, rfl⟩
        have HQ := Lib.hid hq
        clear hq
        go_wp2_with fail
        go_quiet ((go_at_call 83; exact quiet_add (Equal_any _ _ (L - (n + 1)) (fun i => F (i + (n + 1))) F _ ((boolSl_of hB (by omega)).drewN _) ((boolSl_of (k := 0) hB (by omega)).drewN _) (by omega))))
        rw [HQ.out]
        cases q
        · have HN2 := Lib.hid (HN.out.succ (by rw [HPE.out]; exact HQ.out))
          go_wp2_with fail
          go_roundw
          case rel => exact ⟨n + 1, by omega, by go_num, HN2, _, rfl⟩
          case measure => simp [intOf]; omega
        · have HP := Lib.hid (perN_hit hn (by rw [HPE.out]; exact HQ.out) HN.out)
          go_wp2_with fail
          go_ret
          exact ⟨ret_int (perV_of HP.out), _, World.drewN_drewN _ _ _⟩
      · obtain rfl : L = n + 1 := by omega
        go_wp2_with fail
        go_quiet ((go_at_call 83; exact quiet_add (Equal_any _ _ 0 F F _ ⟨_, _, rfl, fun i hi => absurd hi (by omega)⟩ ⟨_, _, rfl, fun i hi => absurd hi (by omega)⟩ (by omega))))
        rw [show eqBB F F 0 = true from rfl]
        have HP := Lib.hid (perN_hit hn (perB_all F (n + 1)) HN.out)
        go_wp2_with fail
        go_ret
        exact ⟨ret_int (perV_of HP.out), _, World.drewN_drewN _ _ _⟩
    · have HN2 : Hid (NoPer F L (n + 1)) := Lib.hid (HN.out.succ (by
        have : L % (n + 1) ≠ 0 := by
          intro h
          have h3 : ((L % (n + 1) : Nat) : Int) = 0 := by rw [h]; rfl
          rw [Int.natCast_emod, Int.natCast_add] at h3
          rw [bne_iff_ne] at hd
          exact hd h3
        simp [perB, this]))
      have hlt : n + 1 < L := by
        by_cases h : n + 1 < L
        · exact h
        · have : L = n + 1 := by omega
          subst this
          simp at hd
      go_wp2_with fail
      go_roundw
      case rel => exact ⟨n + 1, by omega, by go_num, HN2, m, rfl⟩
      case measure => simp [intOf]; omega

theorem whlF_perX {S : Mn} (h : whlE S = 0) : perX S = perV (whlF S) (allL S.ts).toNat := by unfold perX perV; rw [if_pos h]; cases perN (whlF S) (allL S.ts).toNat <;> rfl

set_option maxHeartbeats 1000000 in
theorem Period_any (a b : Value) (S : Mn) (w : World) (hS : MinsAt w a b S) :
    Calls Tryz.prog 22 #[.agg #[a, b]] w fun e w' => e = .returned (.tuple #[.int .i64 (perX S), .int .i64 (whlE S)]) ∧ Ext w w' := by
  cases hE : (whlE S != 0)
  · have h0 : whlE S = 0 := by simpa using hE
    obtain ⟨_, _, _, hl1, hl2⟩ := whl_ok h0
    have H0 := Lib.hid h0
    clear h0
    go_enter Tryz.func22, Tryz.ntmps22
    go_wp2_with fail
    refine (wheel_any _ _ S _ (hS.ext (by repeat (first | exact Ext.refl _ | assumption | refine Ext.alloc ?_ _ | refine Ext.drew ?_ | refine Ext.drewN _ ?_ | refine Ext.trans ?_ (by assumption))))).mono ?_
    intro e w1 hp
    unfold WhlPost at hp
    rw [if_pos H0.out] at hp
    obtain ⟨B, rfl, hB, hc, hx1⟩ := hp
    go_wp2_with fail
    refine (period_any B _ (whlF S) _ hc (by omega) (by omega)).mono ?_
    rintro e w2 ⟨rfl, m, rfl⟩
    go_wp2_with fail
    go_ret2
    exact ⟨ret2 (vint (by rw [whlF_perX H0.out])) (vint H0.out.symm), (by repeat (first | exact Ext.refl _ | assumption | refine Ext.alloc ?_ _ | refine Ext.drew ?_ | refine Ext.drewN _ ?_ | refine Ext.trans ?_ (by assumption)))⟩
  · have h0 : whlE S ≠ 0 := by simpa using hE
    go_enter Tryz.func22, Tryz.ntmps22
    go_wp2_with fail
    refine (wheel_any _ _ S _ (hS.ext (by repeat (first | exact Ext.refl _ | assumption | refine Ext.alloc ?_ _ | refine Ext.drew ?_ | refine Ext.drewN _ ?_ | refine Ext.trans ?_ (by assumption))))).mono ?_
    intro e w1 hp
    unfold WhlPost at hp
    rw [if_neg h0] at hp
    obtain ⟨rfl, hx1⟩ := hp
    go_wp2_with fail
    go_ret2
    exact ⟨ret2 (vint (by rw [perX, if_neg h0])) rfl, (by repeat (first | exact Ext.refl _ | assumption | refine Ext.alloc ?_ _ | refine Ext.drew ?_ | refine Ext.drewN _ ?_ | refine Ext.trans ?_ (by assumption)))⟩

end Go.Proofs.YtejcmdoalhnpeaaGreatDoor
