/- Contracts of Check of package turn and of its specification: the first error of a set; with the library's IndexFunc and ContainsFunc at turns and at spans. -/
import Derived.Test.YtejcmdoalhnpeaaGreatDoorLeaf
namespace Go.Proofs.YtejcmdoalhnpeaaGreatDoor
open Go.RowKit

/-- the first index at which a turn (a span) is not valid; -1 if there is none: searched from k on -/
def idxT (l : List Tn) : Int := match l.findIdx? (fun t => !tnB t.p t.f t.l) with | some i => i | none => -1
def idxS (l : List Sp) : Int := match l.findIdx? (fun t => !spB t.lo t.hi) with | some i => i | none => -1

theorem find_none {α : Type} (q : α → Bool) (l : List α) (h : ∀ i (hi : i < l.length), q l[i] = false) : l.findIdx? q = none := by
  rw [List.findIdx?_eq_none_iff]
  intro x hx
  obtain ⟨i, hi, rfl⟩ := List.getElem_of_mem hx
  simp [h i hi]
theorem find_some {α : Type} (q : α → Bool) (l : List α) (k : Nat) (hk : k < l.length) (h : ∀ i (hi : i < k), q (l[i]'(by omega)) = false) (hq : q l[k] = true) : l.findIdx? q = some k := by
  rw [List.findIdx?_eq_some_iff_getElem]
  exact ⟨hk, hq, fun j hj => by simp [h j hj]⟩


/-- all before k are valid: hidden from the walk -/
def okT (l : List Tn) (k : Nat) : Prop := ∀ i (hi : i < l.length), i < k → tnB l[i].p l[i].f l[i].l = true
theorem okT_succ {l : List Tn} {k : Nat} (h : okT l k) (hk : k < l.length) (hq : tnB l[k].p l[k].f l[k].l = true) : okT l (k + 1) := by
  intro i hi h'
  by_cases e : i = k
  · subst e; exact hq
  · exact h i hi (by omega)
theorem idxT_hit {l : List Tn} {k : Nat} (h : okT l k) (hk : k < l.length) (hq : tnB l[k].p l[k].f l[k].l = false) : (k : Int) = idxT l := by
  unfold idxT
  rw [find_some (fun t => !tnB t.p t.f t.l) l k hk (fun i hi => by have := h i (by omega) hi; simpa using this) (by simpa using hq)]
theorem idxT_miss {l : List Tn} (h : okT l l.length) : -1 = idxT l := by
  unfold idxT
  rw [find_none (fun t => !tnB t.p t.f t.l) l (fun i hi => by have := h i hi hi; simpa using this)]

set_option maxHeartbeats 1000000 in
theorem IndexT_any (v : Value) (l : List Tn) (w : World) (hv : TurnsAt w v l) (hl : l.length ≤ 1000) :
    Calls Tryz.prog 71 #[v, .func (.func 39) #[] #[]] w fun e w' => e = .returned (.int .i64 (idxT l)) ∧ Ext w w' := by
  obtain ⟨ao, cap, rfl⟩ := hv.len
  go_enter Tryz.func71, Tryz.ntmps71
  go_wp2
  go_loopw [8] (fun i wr => ∃ k : Nat, k ≤ l.length ∧ i = .int .i64 k ∧ okT l k ∧ Ext w wr) (fun i _ => l.length - (intOf i).toNat)
  case atStart => exact ⟨0, by omega, rfl, fun i hi h => by omega, Ext.refl _⟩
  case round =>
    obtain ⟨k, hk, rfl, hok, hx⟩ := hrel
    by_cases hlt : k < l.length
    · obtain ⟨b, o, rfl, c0, c1, c2⟩ := (hv.ext hx).get k hlt
      cases hq : tnB l[k].p l[k].f l[k].l
      · go_wp2_with (go_at_call 39; refine (Check1_any _ _ _ _).mono ?_; rintro e w' ⟨rfl, hx2⟩)
        go_ret
        exact ⟨ret_int (idxT_hit hok hlt hq), (by repeat (first | exact Ext.refl _ | assumption | refine Ext.alloc ?_ _ | refine Ext.drew ?_ | refine Ext.drewN _ ?_ | refine Ext.trans ?_ (by assumption)))⟩
      · have hs := okT_succ hok hlt hq
        go_wp2_with (go_at_call 39; refine (Check1_any _ _ _ _).mono ?_; rintro e w' ⟨rfl, hx2⟩)
        go_roundw
        case rel => exact ⟨k + 1, by omega, by go_num, hs, (by repeat (first | exact Ext.refl _ | assumption | refine Ext.alloc ?_ _ | refine Ext.drew ?_ | refine Ext.drewN _ ?_ | refine Ext.trans ?_ (by assumption)))⟩
        case measure => simp [intOf]; omega
    · obtain rfl : k = l.length := by omega
      go_wp2
      go_ret
      exact ⟨ret_int (idxT_miss hok), (by repeat (first | exact Ext.refl _ | assumption | refine Ext.alloc ?_ _ | refine Ext.drew ?_ | refine Ext.drewN _ ?_ | refine Ext.trans ?_ (by assumption)))⟩

/-- all before k are valid: hidden from the walk -/
def okS (l : List Sp) (k : Nat) : Prop := ∀ i (hi : i < l.length), i < k → spB l[i].lo l[i].hi = true
theorem okS_succ {l : List Sp} {k : Nat} (h : okS l k) (hk : k < l.length) (hq : spB l[k].lo l[k].hi = true) : okS l (k + 1) := by
  intro i hi h'
  by_cases e : i = k
  · subst e; exact hq
  · exact h i hi (by omega)
theorem idxS_hit {l : List Sp} {k : Nat} (h : okS l k) (hk : k < l.length) (hq : spB l[k].lo l[k].hi = false) : (k : Int) = idxS l := by
  unfold idxS
  rw [find_some (fun t => !spB t.lo t.hi) l k hk (fun i hi => by have := h i (by omega) hi; simpa using this) (by simpa using hq)]
theorem idxS_miss {l : List Sp} (h : okS l l.length) : -1 = idxS l := by
  unfold idxS
  rw [find_none (fun t => !spB t.lo t.hi) l (fun i hi => by have := h i hi hi; simpa using this)]

set_option maxHeartbeats 1000000 in
theorem IndexS_any (v : Value) (l : List Sp) (w : World) (hv : SpansAt w v l) (hl : l.length ≤ 1000) :
    Calls Tryz.prog 72 #[v, .func (.func 42) #[] #[]] w fun e w' => e = .returned (.int .i64 (idxS l)) ∧ Ext w w' := by
  obtain ⟨ao, cap, rfl⟩ := hv.len
  go_enter Tryz.func72, Tryz.ntmps72
  go_wp2
  go_loopw [8] (fun i wr => ∃ k : Nat, k ≤ l.length ∧ i = .int .i64 k ∧ okS l k ∧ Ext w wr) (fun i _ => l.length - (intOf i).toNat)
  case atStart => exact ⟨0, by omega, rfl, fun i hi h => by omega, Ext.refl _⟩
  case round =>
    obtain ⟨k, hk, rfl, hok, hx⟩ := hrel
    by_cases hlt : k < l.length
    · obtain ⟨b, o, rfl, c0, c1⟩ := (hv.ext hx).get k hlt
      cases hq : spB l[k].lo l[k].hi
      · go_wp2_with (go_at_call 42; refine (Check2_any _ _ _).mono ?_; rintro e w' ⟨rfl, hx2⟩)
        go_ret
        exact ⟨ret_int (idxS_hit hok hlt hq), (by repeat (first | exact Ext.refl _ | assumption | refine Ext.alloc ?_ _ | refine Ext.drew ?_ | refine Ext.drewN _ ?_ | refine Ext.trans ?_ (by assumption)))⟩
      · have hs := okS_succ hok hlt hq
        go_wp2_with (go_at_call 42; refine (Check2_any _ _ _).mono ?_; rintro e w' ⟨rfl, hx2⟩)
        go_roundw
        case rel => exact ⟨k + 1, by omega, by go_num, hs, (by repeat (first | exact Ext.refl _ | assumption | refine Ext.alloc ?_ _ | refine Ext.drew ?_ | refine Ext.drewN _ ?_ | refine Ext.trans ?_ (by assumption)))⟩
        case measure => simp [intOf]; omega
    · obtain rfl : k = l.length := by omega
      go_wp2
      go_ret
      exact ⟨ret_int (idxS_miss hok), (by repeat (first | exact Ext.refl _ | assumption | refine Ext.alloc ?_ _ | refine Ext.drew ?_ | refine Ext.drewN _ ?_ | refine Ext.trans ?_ (by assumption)))⟩

def badT (l : List Tn) : Bool := l.any (fun t => !tnB t.p t.f t.l)
def badS (l : List Sp) : Bool := l.any (fun t => !spB t.lo t.hi)
theorem idx_bad {α : Type} (q : α → Bool) (l : List α) : decide ((0 : Int) ≤ (match l.findIdx? q with | some i => (i : Int) | none => -1)) = l.any q := by
  cases h : l.findIdx? q with
  | none =>
    rw [List.findIdx?_eq_none_iff] at h
    have : l.any q = false := by simp only [List.any_eq_false]; intro x hx; simp [h x hx]
    simp [this]
  | some i =>
    rw [List.findIdx?_eq_some_iff_getElem] at h
    obtain ⟨h1, h2, _⟩ := h
    have : l.any q = true := List.any_eq_true.2 ⟨_, List.getElem_mem h1, h2⟩
    simp [this]
theorem idxT_bad (l : List Tn) : decide (0 ≤ idxT l) = badT l := idx_bad _ l
theorem idxS_bad (l : List Sp) : decide (0 ≤ idxS l) = badS l := idx_bad _ l

set_option maxHeartbeats 400000 in
theorem ContainsT_any (v : Value) (l : List Tn) (w : World) (hv : TurnsAt w v l) (hl : l.length ≤ 1000) :
    Calls Tryz.prog 38 #[v, .func (.func 39) #[] #[]] w fun e w' => e = .returned (.bool (badT l)) ∧ Ext w w' := by
  go_enter Tryz.func38, Tryz.ntmps38
  go_wp2_with (go_at_call 71; refine (IndexT_any _ l _ hv hl).mono ?_; rintro e w' ⟨rfl, hx2⟩)
  go_ret
  exact ⟨ret_bool (idxT_bad l), (by repeat (first | exact Ext.refl _ | assumption | refine Ext.alloc ?_ _ | refine Ext.drew ?_ | refine Ext.drewN _ ?_ | refine Ext.trans ?_ (by assumption)))⟩
set_option maxHeartbeats 400000 in
theorem ContainsS_any (v : Value) (l : List Sp) (w : World) (hv : SpansAt w v l) (hl : l.length ≤ 1000) :
    Calls Tryz.prog 41 #[v, .func (.func 42) #[] #[]] w fun e w' => e = .returned (.bool (badS l)) ∧ Ext w w' := by
  go_enter Tryz.func41, Tryz.ntmps41
  go_wp2_with (go_at_call 72; refine (IndexS_any _ l _ hv hl).mono ?_; rintro e w' ⟨rfl, hx2⟩)
  go_ret
  exact ⟨ret_bool (idxS_bad l), (by repeat (first | exact Ext.refl _ | assumption | refine Ext.alloc ?_ _ | refine Ext.drew ?_ | refine Ext.drewN _ ?_ | refine Ext.trans ?_ (by assumption)))⟩

/-- the first error of a set -/
def chkE (S : Mn) : Int := if 24 < S.ts.length ∨ 40 < S.ss.length then 2 else if badT S.ts || badS S.ss then 1 else 0

theorem chkE_big {S : Mn} (h : ¬ (S.ts.length ≤ 24 ∧ S.ss.length ≤ 40)) : 2 = chkE S := by unfold chkE; rw [if_pos (by omega)]
theorem chkE_bad {S : Mn} (h : S.ts.length ≤ 24) (h' : S.ss.length ≤ 40) (hb : (badT S.ts || badS S.ss) = true) : 1 = chkE S := by unfold chkE; rw [if_neg (by omega), if_pos hb]
theorem chkE_ok {S : Mn} (h : S.ts.length ≤ 24) (h' : S.ss.length ≤ 40) (hb : (badT S.ts || badS S.ss) = false) : 0 = chkE S := by unfold chkE; rw [if_neg (by omega), if_neg (by simp [hb])]

set_option maxHeartbeats 1000000 in
theorem Check_any (a b : Value) (S : Mn) (w : World) (hS : MinsAt w a b S) :
    Calls Tryz.prog 12 #[.agg #[a, b]] w fun e w' => e = .returned (.int .i64 (chkE S)) ∧ Ext w w' := by
  obtain ⟨aa, ca, rfl⟩ := hS.t.len
  obtain ⟨ab, cb, rfl⟩ := hS.s.len
  by_cases h24 : S.ts.length ≤ 24
  · by_cases h40 : S.ss.length ≤ 40
    · cases hT : badT S.ts
      · go_enter Tryz.func12, Tryz.ntmps12
        go_wp2_with fail
        refine (ContainsT_any _ S.ts _ (hS.t.ext (by repeat (first | exact Ext.refl _ | assumption | refine Ext.alloc ?_ _ | refine Ext.drew ?_ | refine Ext.drewN _ ?_ | refine Ext.trans ?_ (by assumption)))) (by omega)).mono ?_
        rintro e w1 ⟨rfl, hx1⟩
        have hx1' := ecell hx1
        go_wp2_with fail
        refine (ContainsS_any _ S.ss _ (hS.s.ext (by repeat (first | exact Ext.refl _ | assumption | refine Ext.alloc ?_ _ | refine Ext.drew ?_ | refine Ext.drewN _ ?_ | refine Ext.trans ?_ (by assumption)))) (by omega)).mono ?_
        rintro e w2 ⟨rfl, hx2⟩
        cases hB : badS S.ss
        · go_wp2_with fail
          go_ret
          exact ⟨ret_int (chkE_ok h24 h40 (by simp [hT, hB])), (by repeat (first | exact Ext.refl _ | assumption | refine Ext.alloc ?_ _ | refine Ext.drew ?_ | refine Ext.drewN _ ?_ | refine Ext.trans ?_ (by assumption)))⟩
        · go_wp2_with fail
          go_ret
          exact ⟨ret_int (chkE_bad h24 h40 (by simp [hT, hB])), (by repeat (first | exact Ext.refl _ | assumption | refine Ext.alloc ?_ _ | refine Ext.drew ?_ | refine Ext.drewN _ ?_ | refine Ext.trans ?_ (by assumption)))⟩
      · go_enter Tryz.func12, Tryz.ntmps12
        go_wp2_with fail
        refine (ContainsT_any _ S.ts _ (hS.t.ext (by repeat (first | exact Ext.refl _ | assumption | refine Ext.alloc ?_ _ | refine Ext.drew ?_ | refine Ext.drewN _ ?_ | refine Ext.trans ?_ (by assumption)))) (by omega)).mono ?_
        rintro e w1 ⟨rfl, hx1⟩
        go_wp2_with fail
        go_ret
        exact ⟨ret_int (chkE_bad h24 h40 (by simp [hT])), (by repeat (first | exact Ext.refl _ | assumption | refine Ext.alloc ?_ _ | refine Ext.drew ?_ | refine Ext.drewN _ ?_ | refine Ext.trans ?_ (by assumption)))⟩
    · go_enter Tryz.func12, Tryz.ntmps12
      go_wp2_with fail
      go_ret
      exact ⟨ret_int (chkE_big (by omega)), (by repeat (first | exact Ext.refl _ | assumption | refine Ext.alloc ?_ _ | refine Ext.drew ?_ | refine Ext.drewN _ ?_ | refine Ext.trans ?_ (by assumption)))⟩
  · go_enter Tryz.func12, Tryz.ntmps12
    go_wp2_with fail
    go_ret
    exact ⟨ret_int (chkE_big (by omega)), (by repeat (first | exact Ext.refl _ | assumption | refine Ext.alloc ?_ _ | refine Ext.drew ?_ | refine Ext.drewN _ ?_ | refine Ext.trans ?_ (by assumption)))⟩

end Go.Proofs.YtejcmdoalhnpeaaGreatDoor
