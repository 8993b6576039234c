/- Often of the program: how often two turns meet until all comes again. -/
import Derived.Test.YtejcmdoalhnpeaaGreatDoorApt
namespace Go.Proofs.YtejcmdoalhnpeaaGreatDoor
open Go.RowKit Go.Shelf

/-- a row of so many ints -/
def ints (F : Nat → Int) (L : Nat) : Array Value := ((List.range L).map (fun i => Value.int .i64 (F i))).toArray
theorem ints_size (F : Nat → Int) (L : Nat) : (ints F L).size = L := by simp [ints]
theorem ints_get? (F : Nat → Int) (L i : Nat) : (ints F L)[i]? = if i < L then some (.int .i64 (F i)) else none := by
  by_cases h : i < L <;> simp [ints, h]
theorem ints_set {F : Nat → Int} {L i : Nat} {u : Int} : (ints F L).setIfInBounds i (.int .i64 u) = ints (fun j => if j = i then u else F j) L := by
  apply Array.ext_getElem?
  intro j
  rw [Array.getElem?_setIfInBounds, ints_get?, ints_get?, ints_size]
  by_cases e : i = j
  · subst e
    by_cases h : i < L <;> simp [h]
  · rw [if_neg e]
    have : ¬ j = i := fun h => e h.symm
    simp [this]
theorem ints_congr {F G : Nat → Int} {L : Nat} (h : ∀ i, i < L → F i = G i) : ints F L = ints G L := by
  unfold ints
  congr 1
  apply List.map_congr_left
  intro i hi
  rw [h i (by simpa using hi)]
theorem infoInt : (Tryz.prog.info? 3).map (fun i => (i.zero, i.size, i.bytes)) = some (some (.int .i64 0), 1, 8) := by kernel_rfl
theorem made_ints (n : Nat) : madeCells (Value.int .i64 0).cells (n * 1) = ints (fun _ => 0) n := by
  apply Array.ext_getElem?
  intro j
  rw [ints_get?]
  simp [madeCells, Value.cells]
  by_cases h : j < n
  · simp [h, Nat.mod_one]
  · simp [h]
theorem run_make_ints {i : TypeInfo} (hi : Tryz.prog.info? 3 = some i) (hz : i.zero = some (.int .i64 0)) (h1 : i.size = 1) (h2 : i.bytes = 8) (c : Int) (h0 : 0 ≤ c) (h3 : c ≤ 1000000) (w : World) :
    (Instr.makeSlice 84 (.int .i64 c) (.int .i64 c)).run Tryz.prog w = .ok (.slice (some ⟨w.heap.size, 0, none⟩) c.toNat c.toNat) (w.alloc (.cells (ints (fun _ => 0) c.toNat) 3)) := by
  rw [run_make w 84 3 i (.int .i64 0) (by kernel_rfl) hi hz .i64 .i64 c c h0 (Int.le_refl _) (by rw [h2]; omega) (by omega), h1, made_ints]
/-- how many of the first K integers of a turn have a remainder -/
def cntR (f G : Int) (K : Nat) (i : Nat) : Int := sumI K (fun j => ind (decide ((f + j) % G = (i : Int))))
theorem cntR_bound (f G : Int) (K i : Nat) : 0 ≤ cntR f G K i ∧ cntR f G K i ≤ K := by
  have := sumI_bound K (fun j => ind (decide ((f + (j : Int)) % G = (i : Int)))) 1 (fun i _ => ind_range _)
  unfold cntR; omega
theorem cntR_succ (f G : Int) (K i : Nat) : cntR f G (K + 1) i = cntR f G K i + ind (decide ((f + K) % G = (i : Int))) := rfl
/-- the sum of what the first K integers of the other turn find -/
def sumR (f l g G : Int) (K : Nat) : Int := sumI K (fun j => cntR f G l.toNat ((g + j) % G).toNat)
theorem sumR_bound (f l g G : Int) (K : Nat) (hl : 0 ≤ l) : 0 ≤ sumR f l g G K ∧ sumR f l g G K ≤ K * l := by
  have := sumI_bound K (fun j => cntR f G l.toNat ((g + (j : Int)) % G).toNat) l (fun i _ => by have := cntR_bound f G l.toNat ((g + (i : Int)) % G).toNat; omega)
  exact this
theorem sumR_oft {p f l q g k : Int} (hG : 1 ≤ gcdI p q) : sumR f l g (gcdI p q) k.toNat = oftI p f l q g k := by
  rw [← oftI_swap]
  unfold sumR cntR
  refine sumI_congr (fun j _ => sumI_congr (fun i _ => ?_))
  have := Int.emod_nonneg (g + (j : Int)) (show gcdI p q ≠ 0 by omega)
  rw [Int.toNat_of_nonneg this]
/-- what Often returns -/
def oftX (p f l q g k : Int) : Int := if pairE p f l q g k = 0 then oftI p f l q g k else 0
def oftL (p f l q g k : Int) : Int := if pairE p f l q g k = 0 then lcmI p q else 0

set_option maxRecDepth 100000 in
set_option maxHeartbeats 2000000 in
theorem Often_any (p f l q g k : Int) (w : World) :
    Calls Tryz.prog 19 #[.agg #[.int .i64 p, .int .i64 f, .int .i64 l], .agg #[.int .i64 q, .int .i64 g, .int .i64 k]] w fun e w' => e = .returned (.tuple #[.int .i64 (oftX p f l q g k), .int .i64 (oftL p f l q g k), .int .i64 (pairE p f l q g k)]) ∧ Ext w w' := by
  cases hE : (pairE p f l q g k != 0)
  · have h0 : pairE p f l q g k = 0 := by simpa using hE
    obtain ⟨hv, hv2⟩ := pair_ok h0
    have ha := tnB_t hv
    have hc := tnB_t hv2
    have hg1 := gcdI_pos (q := q) ha.1
    have hg2 := (gcdI_le ha.1 hc.1).1
    have hL := lcmI_le ha.1 ha.2.1 hc.1 hc.2.1
    have hsum := sumR_oft (f := f) (l := l) (g := g) (k := k) hg1
    have he : (p.tdiv (gcdI p q)) * q = lcmI p q := by rw [Int.tdiv_eq_ediv_of_nonneg (by omega)]; rfl
    have hd1 : 0 ≤ p.tdiv (gcdI p q) := Int.tdiv_nonneg (by omega) (by omega)
    have hd2 : p.tdiv (gcdI p q) ≤ p := by
      rw [Int.tdiv_eq_ediv_of_nonneg (by omega)]
      exact Int.ediv_le_self _ (by omega)
    have H0 := Lib.hid h0
    clear h0
    go_enter Tryz.func19, Tryz.ntmps19
    go_wp2_with fail
    refine (both_any _ _ _ _ _ _ _).mono ?_
    rintro e w1 ⟨rfl, hx1⟩
    rw [H0.out]
    obtain ⟨q0, q1, hx2, hzz⟩ := alloc2 hx1
    have g0 : w1.cell? ⟨w.heap.size, 0, none⟩ = some (.int .i64 p) := q0.cell 0
    have g3 : w1.cell? ⟨w.heap.size + 1, 0, none⟩ = some (.int .i64 q) := q1.cell 0
    clear hx1
    go_wp2_with fail
    refine (divisor_any _ _ _ (by omega) (by omega) (by omega) (by omega)).mono ?_
    rintro e w2 ⟨rfl, hx3⟩
    have hx4 := hx2.trans hx3
    obtain ⟨G, hG⟩ : ∃ G : Nat, gcdI p q = G := ⟨(gcdI p q).toNat, by omega⟩
    have HG := Lib.hid hG
    rw [hG] at hg1 hg2 hsum he hd1 hd2 ⊢
    have HS := Lib.hid hsum
    have HE := Lib.hid he
    obtain ⟨i0, hi0, hz0, hz1, hz2⟩ := info_parts infoInt
    have hmk := run_make_ints hi0 hz0 hz1 hz2 G (by omega) (by omega)
    simp only [Int.toNat_natCast] at hmk
    have q0' := (q0.ext hx3).ext (W' := w2.alloc (.cells (ints (fun _ => 0) G) 3)) (by repeat (first | exact Ext.refl _ | assumption | refine Ext.alloc ?_ _ | refine Ext.drew ?_ | refine Ext.drewN _ ?_ | refine Ext.trans ?_ (by assumption)))
    have q1' := (q1.ext hx3).ext (W' := w2.alloc (.cells (ints (fun _ => 0) G) 3)) (by repeat (first | exact Ext.refl _ | assumption | refine Ext.alloc ?_ _ | refine Ext.drew ?_ | refine Ext.drewN _ ?_ | refine Ext.trans ?_ (by assumption)))
    have k1 : (w2.alloc (.cells (ints (fun _ => 0) G) 3)).cell? ⟨w.heap.size, 2, none⟩ = some (.int .i64 l) := q0'.cell 2
    have hzz2 : w.heap.size + 1 < w2.heap.size := by have := hx3.size; omega
    clear hG hx3 hsum he g0 g3 q0 q1
    go_wp2_with fail
    obtain ⟨W0, hW0⟩ : ∃ W0, w2.alloc (.cells (ints (fun _ => 0) G) 3) = W0 := ⟨_, rfl⟩
    have hx5 : Ext w W0 := by rw [← hW0]; exact (by repeat (first | exact Ext.refl _ | assumption | refine Ext.alloc ?_ _ | refine Ext.drew ?_ | refine Ext.drewN _ ?_ | refine Ext.trans ?_ (by assumption)))
    have hc0 : Cls w2.heap.size 3 (ints (cntR f G 0) G) W0 := by rw [← hW0]; exact Cls.new _ _ _
    rw [hW0] at q0' q1' ⊢
    clear hW0 hmk k1
    obtain ⟨B, hB⟩ : ∃ B, w2.heap.size = B := ⟨_, rfl⟩
    rw [hB] at hc0 hzz2 ⊢
    clear hB
    have hGz : (((G : Int)) == 0) = false := by rw [beq_eq_false_iff_ne]; omega
    go_loopw [28] (fun i wr => ∃ n : Nat, (n : Int) ≤ l ∧ i = .int .i64 n ∧ Hid (Cls B 3 (ints (cntR f G n) G) wr) ∧ Hid (Cls w.heap.size 42 #[.int .i64 p, .int .i64 f, .int .i64 l] wr) ∧ Hid (Cls (w.heap.size + 1) 42 #[.int .i64 q, .int .i64 g, .int .i64 k] wr) ∧ Ext w wr) (fun i _ => (l - intOf i).toNat)
    case atStart => exact ⟨0, by omega, rfl, Lib.hid hc0, Lib.hid q0', Lib.hid q1', hx5⟩
    case round =>
      obtain ⟨n, hn, rfl, HC, HP, HQ, hx⟩ := hrel
      have d1 : wr.cell? ⟨w.heap.size, 1, none⟩ = some (.int .i64 f) := HP.out.cell 1
      by_cases hlt : (n : Int) < l
      · obtain ⟨r, hr⟩ : ∃ r : Nat, (f + n) % (G : Int) = r := ⟨((f + n) % (G : Int)).toNat, by have := Int.emod_nonneg (f + n) (show (G : Int) ≠ 0 by omega); omega⟩
        have hrG : r < G := by have := Int.emod_lt_of_pos (f + n) (show 0 < (G : Int) by omega); omega
        have e0 : wr.cell? ⟨B, r, none⟩ = some (.int .i64 (cntR f G n r)) := by rw [HC.out.cell r, ints_get?, if_pos hrG]
        have e1 : wr.frozen? ⟨B, r, none⟩ = false := HC.out.frozen r
        have hcb := cntR_bound f G n r
        have hst := HC.out.set r (.int .i64 (cntR f G n r + 1))
        rw [ints_set, ints_congr (G := cntR f G (n + 1)) (fun i _ => by
          rw [cntR_succ, hr]
          by_cases e : i = r
          · subst e; simp [ind]
          · have : ¬ (r : Int) = i := by omega
            simp [e, this, ind])] at hst
        have HST := Lib.hid hst
        have HP2 := Lib.hid (HP.out.other (B' := B) (by omega) r (.int .i64 (cntR f G n r + 1)))
        have HQ2 := Lib.hid (HQ.out.other (B' := B) (by omega) r (.int .i64 (cntR f G n r + 1)))
        clear hst
        go_wp2_with fail
        go_roundw
        case rel => exact ⟨n + 1, by omega, by go_num, HST, HP2, HQ2, hx.setCell (by simp; omega) _⟩
        case measure => simp [intOf]; omega
      · have hnl : n = l.toNat := by omega
        have hcl := HC.out
        rw [hnl] at hcl
        have HCL := Lib.hid hcl
        have m2 : wr.cell? ⟨w.heap.size + 1, 2, none⟩ = some (.int .i64 k) := HQ.out.cell 2
        clear hnl hcl
        go_wp2_with fail
        obtain ⟨W9, rfl⟩ : ∃ W9 : World, W9 = wr := ⟨_, rfl⟩
        have d0 : W9.cell? ⟨w.heap.size, 0, none⟩ = some (.int .i64 p) := HP.out.cell 0
        have m0 : W9.cell? ⟨w.heap.size + 1, 0, none⟩ = some (.int .i64 q) := HQ.out.cell 0
        have m1 : W9.cell? ⟨w.heap.size + 1, 1, none⟩ = some (.int .i64 g) := HQ.out.cell 1
        go_loop [11, 45] (fun sm i => ∃ n : Nat, (n : Int) ≤ k ∧ i = .int .i64 n ∧ sm = .int .i64 (sumR f l g G n)) (fun _ i => (k - intOf i).toNat)
        case atStart => exact ⟨0, by omega, rfl, rfl⟩
        case round =>
          obtain ⟨n, hn, rfl, rfl⟩ := hrel
          have hb := sumR_bound f l g G n (by omega)
          have hnl : (n : Int) * l ≤ 40320 * 40320 := Int.le_trans (Int.mul_le_mul_of_nonneg_right (show (n : Int) ≤ 40320 by omega) (by omega)) (Int.mul_le_mul_of_nonneg_left (show l ≤ 40320 by omega) (by omega))
          have hb2 : sumR f l g G n ≤ 1625702400 := by omega
          by_cases hlt : (n : Int) < k
          · obtain ⟨r, hr⟩ : ∃ r : Nat, (g + n) % (G : Int) = r := ⟨((g + n) % (G : Int)).toNat, by have := Int.emod_nonneg (g + n) (show (G : Int) ≠ 0 by omega); omega⟩
            have hrG : r < G := by have := Int.emod_lt_of_pos (g + n) (show 0 < (G : Int) by omega); omega
            have e0 : W9.cell? ⟨B, r, none⟩ = some (.int .i64 (cntR f G l.toNat r)) := by rw [HCL.out.cell r, ints_get?, if_pos hrG]
            have hcb := cntR_bound f G l.toNat r
            have hsn : sumR f l g G (n + 1) = sumR f l g G n + cntR f G l.toNat r := by
              show sumR f l g G n + cntR f G l.toNat ((g + n) % (G : Int)).toNat = _
              rw [hr, Int.toNat_natCast]
            have HSN := Lib.hid hsn
            clear hsn hnl
            go_wp2_with fail
            go_round
            case rel => exact ⟨n + 1, by omega, by go_num, by rw [HSN.out]⟩
            case measure => simp [intOf]; omega
          · have hnk : n = k.toNat := by omega
            have hfin : sumR f l g G n = oftI p f l q g k := by rw [hnk]; exact HS.out
            have HF := Lib.hid hfin
            have hw : wrap64 (p.tdiv G * q) = lcmI p q := by rw [HE.out]; exact IntWalk.wrap64_in _ (by omega)
            have HW := Lib.hid hw
            clear hnk hfin hnl hw
            go_wp2_with fail
            go_quiet (fail)
            go_wp2_with fail
            go_ret3
            exact ⟨ret3 (vint (by rw [oftX, if_pos H0.out, HF.out])) (vint (by rw [oftL, if_pos H0.out]; first | exact HW.out | exact HE.out)) (vint H0.out.symm), (by repeat (first | exact Ext.refl _ | assumption | refine Ext.alloc ?_ _ | refine Ext.drew ?_ | refine Ext.drewN _ ?_ | refine Ext.trans ?_ (by assumption)))⟩
  · have h0 : pairE p f l q g k ≠ 0 := by simpa using hE
    go_enter Tryz.func19, Tryz.ntmps19
    go_wp2_with fail
    refine (both_any _ _ _ _ _ _ _).mono ?_
    rintro e w1 ⟨rfl, hx1⟩
    go_wp2_with fail
    go_ret3
    exact ⟨ret3 (vint (by rw [oftX, if_neg h0])) (vint (by rw [oftL, if_neg h0])) rfl, (by repeat (first | exact Ext.refl _ | assumption | refine Ext.alloc ?_ _ | refine Ext.drew ?_ | refine Ext.drewN _ ?_ | refine Ext.trans ?_ (by assumption)))⟩

end Go.Proofs.YtejcmdoalhnpeaaGreatDoor
