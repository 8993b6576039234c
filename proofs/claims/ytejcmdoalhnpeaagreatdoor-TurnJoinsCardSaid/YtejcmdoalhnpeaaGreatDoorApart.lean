/- Whether a modulus keeps two turns apart; whether they meet. -/
import Derived.Test.YtejcmdoalhnpeaaGreatDoorRes
namespace Go.Proofs.YtejcmdoalhnpeaaGreatDoor
open Go.RowKit Go.Shelf Go.Maps

theorem res_iff {f l m r : Int} (hm : 1 ≤ m) (hl : 0 ≤ l) : (∃ i : Nat, i < (min l m).toNat ∧ (f + i) % m = r) ↔ 0 ≤ r ∧ r < m ∧ touB f l m r = true := by
  have h0 : ∀ x : Int, x = m * (x / m) + x % m ∧ 0 ≤ x % m ∧ x % m < m := fun x => ⟨by have := Int.emod_add_mul_ediv x m; omega, Int.emod_nonneg _ (by omega), Int.emod_lt_of_pos _ (by omega)⟩
  constructor
  · rintro ⟨i, h1, rfl⟩
    obtain ⟨e1, e2, e3⟩ := h0 (f + i)
    refine ⟨e2, e3, ?_⟩
    have : ((f + i) % m - f) % m = i := emod_of (q := -((f + i) / m)) (by rw [Int.mul_neg]; omega) (by omega) (by omega)
    simp only [touB, this, decide_eq_true_eq]
    omega
  · rintro ⟨h1, h2, h3⟩
    obtain ⟨e1, e2, e3⟩ := h0 (r - f)
    simp only [touB, decide_eq_true_eq] at h3
    refine ⟨((r - f) % m).toNat, by omega, ?_⟩
    exact emod_of (q := -((r - f) / m)) (by rw [Int.mul_neg]; omega) h1 h2

/-- no remainder by a modulus is one of both turns -/
def apB (f l g k m : Int) : Bool := (List.range m.toNat).all (fun r => !(touB f l m r && touB g k m r))
theorem apB_f {f l g k m r : Int} (h0 : 0 ≤ r) (h1 : r < m) (h2 : touB f l m r = true) (h3 : touB g k m r = true) : false = apB f l g k m := by
  symm
  unfold apB
  rw [List.all_eq_false]
  exact ⟨r.toNat, List.mem_range.2 (by omega), by rw [Int.toNat_of_nonneg h0]; simp [h2, h3]⟩
theorem apB_t {f l g k m : Int} (h : ∀ r, 0 ≤ r → r < m → touB g k m r = true → touB f l m r = false) : true = apB f l g k m := by
  symm
  unfold apB
  rw [List.all_eq_true]
  intro r hr
  have := List.mem_range.1 hr
  cases ht : touB g k m r
  · simp
  · have := h r (by omega) (by omega) ht
    simp [this]
theorem apB_iff {f l g k m : Int} : apB f l g k m = true ↔ ∀ r, 0 ≤ r → r < m → touB f l m r = true → touB g k m r = false := by
  unfold apB
  rw [List.all_eq_true]
  constructor
  · intro h r h0 h1 h2
    have := h r.toNat (List.mem_range.2 (by omega))
    rw [Int.toNat_of_nonneg h0] at this
    simpa [h2] using this
  · intro h r hr
    have hr' := List.mem_range.1 hr
    cases ht : touB f l m r
    · simp
    · simp [h r (by omega) (by omega) ht]

theorem filter_lt {α : Type} (p q : α → Bool) : ∀ (l : List α), (∀ x ∈ l, q x = true → p x = true) → (∃ x ∈ l, p x = true ∧ q x = false) → (l.filter q).length < (l.filter p).length := by
  have hle : ∀ (l : List α), (∀ x ∈ l, q x = true → p x = true) → (l.filter q).length ≤ (l.filter p).length := by
    intro l
    induction l with
    | nil => intro _; exact Nat.le_refl _
    | cons x l ih =>
      intro h
      have := ih (fun y hy => h y (List.mem_cons_of_mem _ hy))
      have hx := h x (List.mem_cons_self ..)
      simp only [List.filter_cons]
      cases hq : q x
      · cases hp : p x <;> simp <;> omega
      · simp [hx hq]; omega
  intro l
  induction l with
  | nil => intro _ ⟨x, hx, _⟩; simp at hx
  | cons x l ih =>
    intro h ⟨y, hy, h1, h2⟩
    have hx := h x (List.mem_cons_self ..)
    have h' : ∀ z ∈ l, q z = true → p z = true := fun z hz => h z (List.mem_cons_of_mem _ hz)
    simp only [List.filter_cons]
    rcases List.mem_cons.1 hy with rfl | hy
    · have := hle l h'
      simp [h1, h2]; omega
    · have := ih h' ⟨y, hy, h1, h2⟩
      cases hq : q x
      · cases hp : p x <;> simp <;> omega
      · simp [hx hq]; omega
/-- how many keys are still to come -/
def leftK (L : List (Int × Value)) (d : List Int) : Nat := ((L.map (·.1)).filter (fun x => !decide (x ∈ d))).length
theorem leftK_lt {L : List (Int × Value)} {d : List Int} {k : Int} (h : k ∈ L.map (·.1)) (hd : k ∉ d) : leftK L (d ++ [k]) < leftK L d :=
  filter_lt _ _ _ (fun x _ hx => by simp at hx ⊢; exact hx.1) ⟨k, h, by simp [hd], by simp⟩

set_option maxHeartbeats 2000000 in
theorem apart_any (p f l q g k m : Int) (w : World) (hv : tnB p f l = true) (hv2 : tnB q g k = true) (hm : 1 ≤ m) (hm2 : m ≤ 40320) :
    Calls Tryz.prog 51 #[.agg #[.int .i64 p, .int .i64 f, .int .i64 l], .agg #[.int .i64 q, .int .i64 g, .int .i64 k], .int .i64 m] w fun e w' => e = .returned (.bool (apB f l g k m)) ∧ Ext w w' := by
  have hl := (tnB_t hv).2.2.2.2.1
  have hk := (tnB_t hv2).2.2.2.2.1
  go_enter Tryz.func51, Tryz.ntmps51
  go_wp2_with fail
  refine (residues_any _ _ _ _ _ hv hm hm2).mono ?_
  rintro e w1 ⟨b1, rfl, hb1, hR1, hx1⟩
  have hc1 := ecell hx1
  go_wp2_with fail
  refine (residues_any _ _ _ _ _ hv2 hm hm2).mono ?_
  rintro e w2 ⟨b2, rfl, hb2, hR2, hx2⟩
  have hR1' := hR1.ext hx2
  clear hR1
  obtain ⟨L1, hM1, hL1, hV1⟩ := hR1'
  obtain ⟨L2, hM2, hL2, hV2⟩ := hR2
  have hx3 : Ext w w2 := by exact (by repeat (first | exact Ext.refl _ | assumption | refine Ext.alloc ?_ _ | refine Ext.drew ?_ | refine Ext.drewN _ ?_ | refine Ext.trans ?_ (by assumption)))
  have HL1 := Lib.hid hL1
  have HV1 := Lib.hid hV1
  have HL2 := Lib.hid hL2
  have HV2 := Lib.hid hV2
  clear hL1 hV1 hL2 hV2 hc1
  go_wp2_with (refine wpList_rangeMap rfl _ rfl mapT rfl hM2 ?_; intro w3 hR3 hx4)
  have hM1' := hM1.ext hx4
  have HS := Lib.hid (show True from trivial)
  have hb1r := hM1.lt
  obtain ⟨rr, hrr⟩ : ∃ rr, w2.heap.size = rr := ⟨_, rfl⟩
  rw [hrr] at hR3 hb1r ⊢
  have hrr2 : w.heap.size ≤ rr := by rw [← hrr]; exact hx3.size
  clear hrr
  go_frame
  go_loopg [] (leftK L2 []) (fun gh wr => ∃ d, RangeAt encI wr b2 rr L2 d ∧ gh = leftK L2 d ∧ MapAt encI wr b1 L1 ∧ Ext w wr ∧ Hid (∀ r ∈ d, touB f l m r = false))
  case atStart => exact ⟨[], hR3, rfl, hM1', hx3.trans hx4, Lib.hid (fun r hr => by simp at hr)⟩
  case round =>
    obtain ⟨d, hRd, hgh, hMd, hxd, HD⟩ := hrel
    have HG := Lib.hid hgh
    clear hgh
    go_wp2_with fail
    rcases run_nextMap (P := Tryz.prog) encI_inj hRd 0 with ⟨hall, hrun⟩ | ⟨r, v, w4, hrv, hrd, hrun, hR4, hg4, hent⟩
    · have HA := Lib.hid hall
      clear hall
      rw [hrun]
      clear hrun
      go_wp2_with fail
      go_ret
      exact ⟨ret_bool (apB_t (fun r h0 h1 h2 => HD.out r (HA.out r ((HL2.out r).2 ((res_iff hm (by omega)).2 ⟨h0, h1, h2⟩))))), hxd⟩
    · have hkey : r ∈ L2.map (·.1) := List.mem_map.2 ⟨_, hrv, rfl⟩
      have hr3 := (res_iff hm (by omega)).1 ((HL2.out r).1 hkey)
      have hlk := leftK_lt hkey hrd
      obtain ⟨r0, r1, r2⟩ := hr3
      have hM4 := hMd.grown hg4 (by simp; omega)
      have hx4' := hxd.grown hg4 hrr2
      have HLK := Lib.hid hlk
      have HR2 := Lib.hid r2
      clear hlk r2 hkey
      rw [hrun]
      clear hrun
      have htr := getK_true HV1.out r
      have hmem : decide (r ∈ L1.map (·.1)) = touB f l m r := by
        rw [Bool.eq_iff_iff, decide_eq_true_eq, HL1.out r, res_iff hm (by omega)]
        exact ⟨fun h => h.2.2, fun h => ⟨r0, r1, h⟩⟩
      rw [hmem] at htr
      clear hmem
      cases ht : touB f l m r
      · rw [ht] at htr
        go_wp2_with (refine wpList_lookupMap rfl _ _ false rfl KI mapT rfl hM4 r rfl (zeroBool _) ?_)
        go_roundg (leftK L2 (d ++ [r]))
        case measure => have h1 := HG.out; have h2 := HLK.out; omega
        case rel => exact ⟨d ++ [r], hR4, rfl, hM4, hx4', Lib.hid (fun x hx => by
          rcases List.mem_append.1 hx with h1 | h1
          · exact HD.out x h1
          · rw [List.mem_singleton.1 h1]; exact ht)⟩
      · rw [ht] at htr
        go_wp2_with (refine wpList_lookupMap rfl _ _ false rfl KI mapT rfl hM4 r rfl (zeroBool _) ?_)
        go_ret
        exact ⟨ret_bool (apB_f r0 r1 ht HR2.out), hx4'⟩

end Go.Proofs.YtejcmdoalhnpeaaGreatDoor
