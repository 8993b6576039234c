/- The remainders of a turn by a modulus; whether it keeps two turns apart; whether they meet; the first integer that is in both. -/
import Derived.Test.YtejcmdoalhnpeaaGreatDoorMeet
import Derived.Deep.DeepMust
namespace Go.Proofs.YtejcmdoalhnpeaaGreatDoor
open Go.RowKit Go.Shelf Go.Maps

/-- a turn has an integer with this remainder -/
def touB (f l m r : Int) : Bool := decide ((r - f) % m < l)
/-- the map of the remainders, when k of them are in -/
def ResAt (w : World) (b : Nat) (f m : Int) (k : Nat) : Prop :=
  ∃ L : List (Int × Value), MapAt encI w b L ∧ (∀ r, r ∈ L.map (·.1) ↔ ∃ i : Nat, i < k ∧ (f + i) % m = r) ∧ ∀ p ∈ L, p.2 = .bool true
theorem ResAt.lt {w : World} {b : Nat} {f m : Int} {k : Nat} (h : ResAt w b f m k) : b < w.heap.size := by obtain ⟨L, h, _⟩ := h; exact h.lt
theorem ResAt.ext {w w' : World} {b : Nat} {f m : Int} {k : Nat} (h : ResAt w b f m k) (x : Ext w w') : ResAt w' b f m k := by
  obtain ⟨L, h1, h2⟩ := h; exact ⟨L, h1.ext x, h2⟩
theorem updK_mem {L : List (Int × Value)} {r : Int} {v : Value} : (∀ x, x ∈ (updK L r v).map (·.1) ↔ x ∈ L.map (·.1) ∨ x = r) ∧ ∀ p ∈ updK L r v, p ∈ L ∨ p.2 = v := by
  unfold updK
  split
  · rename_i h
    constructor
    · intro x
      have e : (L.map (fun p => if p.1 = r then (r, v) else p)).map (·.1) = L.map (·.1) := by
        rw [List.map_map]
        apply List.map_congr_left
        intro p _
        simp only [Function.comp]
        split
        · rename_i e; exact e.symm
        · rfl
      rw [e]
      constructor
      · exact .inl
      · rintro (h1 | rfl)
        · exact h1
        · have : getK L x ≠ none := by intro hc; rw [hc] at h; cases h
          rcases Classical.em (x ∈ L.map (·.1)) with h1 | h1
          · exact h1
          · exfalso
            exact this (getK_none (fun p hp e => h1 (e ▸ List.mem_map.2 ⟨p, hp, rfl⟩)))
    · intro p hp
      obtain ⟨q, hq, rfl⟩ := List.mem_map.1 hp
      split
      · exact .inr rfl
      · exact .inl hq
  · constructor
    · intro x; simp
    · intro p hp
      simp only [List.mem_append, List.mem_singleton] at hp
      rcases hp with hp | rfl
      · exact .inl hp
      · exact .inr rfl
theorem getK_true {L : List (Int × Value)} (h : ∀ p ∈ L, p.2 = .bool true) (r : Int) : (getK L r).getD (.bool false) = .bool (decide (r ∈ L.map (·.1))) := by
  unfold getK
  cases hf : L.find? (fun p => decide (p.1 = r)) with
  | none =>
    rw [List.find?_eq_none] at hf
    have : r ∉ L.map (·.1) := by
      intro hr
      obtain ⟨p, hp, rfl⟩ := List.mem_map.1 hr
      exact hf p hp (by simp)
    simp [this]
  | some p =>
    have hp := List.mem_of_find?_eq_some hf
    have he := List.find?_some hf
    simp only [decide_eq_true_eq] at he
    have : r ∈ L.map (·.1) := he ▸ List.mem_map.2 ⟨p, hp, rfl⟩
    simp [this, h p hp]

theorem KI : KL Tryz.prog 3 encI := intKL (by kernel_rfl)
theorem mapT : (Tryz.prog).underlying 131 = some (.map 3 4) := by kernel_rfl
theorem zeroBool (w : World) : (zeroValue 4).run Tryz.prog w = .ok (.bool false) w := by kernel_rfl

/-- what residues leaves -/
def ResPost (w : World) (f l m : Int) (e : Ending) (w' : World) : Prop := ∃ b : Nat, e = .returned (.map (some b)) ∧ w.heap.size ≤ b ∧ ResAt w' b f m (min l m).toNat ∧ Ext w w'

set_option maxHeartbeats 1000000 in
theorem residues_any (p f l m : Int) (w : World) (hv : tnB p f l = true) (hm : 1 ≤ m) (hm2 : m ≤ 40320) :
    Calls Tryz.prog 80 #[.agg #[.int .i64 p, .int .i64 f, .int .i64 l], .int .i64 m] w (ResPost w f l m) := by
  obtain ⟨a1, a2, a3, a4, a5, a6⟩ := tnB_t hv
  have hmk := @run_makeMap Tryz.prog
  go_enter Tryz.func80, Tryz.ntmps80
  go_wp2
  all_goals
    obtain ⟨W0, hW0⟩ : ∃ W0, (w.alloc (.cells #[.int .i64 p, .int .i64 f, .int .i64 l] 42)).alloc (.map #[] 0) = W0 := ⟨_, rfl⟩
    have hx0 : Ext w W0 := by rw [← hW0]; exact (by repeat (first | exact Ext.refl _ | assumption | refine Ext.alloc ?_ _ | refine Ext.drew ?_ | refine Ext.drewN _ ?_ | refine Ext.trans ?_ (by assumption)))
    have d1 : W0.cell? ⟨w.heap.size, 1, none⟩ = some (.int .i64 f) := by rw [← hW0]; exact Ext.cell (by repeat (first | exact Ext.refl _ | assumption | refine Ext.alloc ?_ _ | refine Ext.drew ?_ | refine Ext.drewN _ ?_ | refine Ext.trans ?_ (by assumption))) (cell_at_new w _ _ _ _ _ rfl rfl)
    have hM : ResAt W0 (w.heap.size + 1) f m 0 := by
      rw [← hW0]
      have := mapAt_made encI (w.alloc (.cells #[.int .i64 p, .int .i64 f, .int .i64 l] 42))
      rw [World.size_alloc] at this
      exact ⟨[], this, fun r => by simp, fun p hp => by simp at hp⟩
    rw [hW0]
    clear hW0 hmk
    go_loopw [12] (fun i wr => ∃ k : Nat, k ≤ (min l m).toNat ∧ i = .int .i64 k ∧ wr.cell? ⟨w.heap.size, 1, none⟩ = some (.int .i64 f) ∧ ResAt wr (w.heap.size + 1) f m k ∧ Ext w wr) (fun i _ => (min l m).toNat - (intOf i).toNat)
    case atStart => exact ⟨0, by omega, rfl, d1, hM, hx0⟩
    case round =>
      obtain ⟨k, hk, rfl, c1, hR, hx⟩ := hrel
      by_cases hlt : k < (min l m).toNat
      · have hlt2 : (k : Int) < l := by omega
        have hlt3 : (k : Int) < m := by omega
        have hmz : (m == 0) = false := by rw [beq_eq_false_iff_ne]; omega
        obtain ⟨L, hL1, hL2, hL3⟩ := hR
        have HL2 := Lib.hid hL2
        have HL3 := Lib.hid hL3
        clear hL2 hL3
        go_wp2_with (refine wpList_updateMap rfl _ _ _ rfl KI mapT rfl hL1 ((f + k) % m) (.bool true) rfl rfl ?_; intro w1 hM1 hg1)
        go_roundw
        case rel => exact ⟨k + 1, by omega, by go_num, grown_cell hg1 (by simp) c1, ⟨_, hM1, fun r => by
            rw [updK_mem.1 r, HL2.out r]
            constructor
            · rintro (⟨i, h1, h2⟩ | h1)
              · exact ⟨i, by omega, h2⟩
              · exact ⟨k, by omega, h1.symm⟩
            · rintro ⟨i, h1, h2⟩
              by_cases e : i = k
              · subst e; exact .inr h2.symm
              · exact .inl ⟨i, by omega, h2⟩, fun q hq => by
            rcases updK_mem.2 q hq with h1 | h1
            · exact HL3.out q h1
            · exact h1⟩, hx.grown hg1 (by omega)⟩
        case measure => simp [intOf]; omega
      · obtain rfl : k = (min l m).toNat := by omega
        go_wp2
        go_ret
        exact ⟨_, rfl, by omega, hR, hx⟩

end Go.Proofs.YtejcmdoalhnpeaaGreatDoor
