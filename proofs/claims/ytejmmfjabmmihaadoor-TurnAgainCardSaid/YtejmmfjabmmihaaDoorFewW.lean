/- Fewest of the program. -/
import Derived.Test.YtejmmfjabmmihaaDoorFewQ
import Derived.Test.YtejmmfjabmmihaaDoorParse
namespace Go.Proofs.YtejmmfjabmmihaaDoor
open Go.RowKit Go.Shelf Go.Maps

/-- what Fewest returns -/
def FewPost (S : Mn) (w : World) (e : Ending) (w' : World) : Prop :=
  ∃ va vb, e = .returned (.tuple #[.agg #[va, vb], .int .i64 (fewE S)]) ∧ MinsAt w' va vb (fewX S) ∧ Ext w w'
theorem few_ret {S : Mn} {w W : World} {tmps : Array Value} {va vb : Value} {E : Int} (h2 : tmps.getD 2 undef = .pointer (some ⟨w.heap.size + 1, 0, none⟩)) (h3 : tmps.getD 3 undef = .int .i64 E) (hE : E = fewE S)
    (hc : Cls (w.heap.size + 1) 34 #[va, vb] W) (hm : MinsAt W va vb (fewX S)) (hx : Ext w W) : bodyPost Tryd.prog Tryd.f44 (FewPost S w) Exit.ret { tmps := tmps, defers := [] } W := by
  subst hE
  have c0 : W.cell? ⟨w.heap.size + 1, 0, none⟩ = some va := hc.cell 0
  have c1 : W.cell? ⟨w.heap.size + 1, 1, none⟩ = some vb := hc.cell 1
  have h2' : tmps[2]?.getD undef = .pointer (some ⟨w.heap.size + 1, 0, none⟩) := by simpa using h2
  have h3' : tmps[3]?.getD undef = .int .i64 (fewE S) := by simpa using h3
  exact bodyPost_ret (v := .tuple #[.agg #[va, vb], .int .i64 (fewE S)]) (by simp [results, Tryd.f44, go_sem, h2', h3', c0, c1]) rfl ⟨va, vb, rfl, hm, hx⟩
/-- where the loop stands -/
structure FwI (w : World) (B Bq base : Nat) (F : Nat → Bool) (L : Nat) (v : Value) (l : List Tn) (W : World) : Prop where
  wh : Cls B 4 (bools F L) W
  mn : Cls Bq 34 #[v, .slice none 0 0] W
  rs : Cls (w.heap.size + 1) 34 #[.slice none 0 0, .slice none 0 0] W
  rt : RowT base v l W
  ex : Ext w W
  sz : base ≤ W.heap.size
theorem FwI.drewN {w : World} {B Bq base : Nat} {F : Nat → Bool} {L : Nat} {v : Value} {l : List Tn} {W : World} (h : FwI w B Bq base F L v l W) (m : Nat) : FwI w B Bq base F L v l (W.drewN m) :=
  ⟨h.wh, h.mn, h.rs, h.rt, h.ex.drewN m, h.sz⟩
structure FwB (w : World) (B Bq base : Nat) : Prop where
  b1 : B < base
  b2 : Bq < base
  b3 : w.heap.size + 1 < base
  n1 : B ≠ Bq
  n2 : w.heap.size + 1 < Bq
theorem FwI.add {w : World} {B Bq base : Nat} {F : Nat → Bool} {L : Nat} {v : Value} {l : List Tn} {t : Tn} {W W1 W' : World} {v' : Value} {tmp : Obj} (hb : FwB w B Bq base) (h : FwI w B Bq base F L v l W) (hW1 : W1 = W.alloc tmp) (hg : W1.grownBy W' v.ownBlock)
    (ho : W'.ownsRow base 23 3 v' (l.length + 1) (cellsT l ++ [.int .i64 t.p, .int .i64 t.f, .int .i64 t.l])) :
    Cls Bq 34 #[v, .slice none 0 0] W' ∧ FwI w B Bq base F L v' (l ++ [t]) (W'.setCell ⟨Bq, 0, none⟩ v') := by
  subst hW1
  obtain ⟨b1, b2, b3, n1, n2⟩ := hb
  have hne : ∀ b, b < base → some b ≠ v.ownBlock := fun b hb => own_ge h.rt hb
  have k : ∀ {b : Nat} {t : TypeId} {cs : Array Value}, b < base → Cls b t cs W → Cls b t cs W' := fun hb hc => (hc.ext ((Ext.refl _).alloc _)).kept hg (hne _ hb)
  have hm := k b2 h.mn
  have hx : Ext w W' := (h.ex.alloc tmp).trans' (by
    refine ⟨hg.os, hg.tape, hg.output, hg.size, fun i hi => hg.block i (by have := h.sz; simp; omega) (hne i (by omega))⟩)
  refine ⟨hm, (k b1 h.wh).other n1 0 _, hm.set 0 v', (k b3 h.rs).other (by omega) 0 _, ?_, hx.setCell (by simp; omega) _, ?_⟩
  · have := World.ownsRow.kept ho (grownBy_setCell' W' Bq v') (.inr (own_ge ho b2).symm)
    unfold RowT
    rw [List.length_append, List.length_singleton, cellsT_append]
    exact this
  · have h1 := h.sz; have h2 := hg.size; simp [World.setCell] at *; omega
theorem idx_prev {n p : Nat} (hp : 1 ≤ p) : ((n : Int) - 1) % (p : Int) = (((n + p - 1) % p : Nat) : Int) := by
  rw [Int.natCast_emod, show (((n + p - 1 : Nat)) : Int) = ((n : Int) - 1) + (p : Int) * 1 by omega, Int.add_mul_emod_self_left]
theorem wheel_at {B L i : Nat} {F : Nat → Bool} {W : World} (h : Cls B 4 (bools F L) W) (hi : i < L) : W.cell? ⟨B, i, none⟩ = some (.bool (F i)) := by
  rw [h.cell i]; exact bools_get hi
theorem startB_no {F : Nat → Bool} {p n : Nat} (h : F n = false) : startB F p n = false := by simp [startB, h]
theorem startB_in {F : Nat → Bool} {p n : Nat} (hp : p ≠ 1) (h : F ((n + p - 1) % p) = true) : startB F p n = false := by simp [startB, h, hp]
theorem startB_yes {F : Nat → Bool} {p n : Nat} (h1 : F n = true) (h : F ((n + p - 1) % p) = false) : startB F p n = true := by simp [startB, h1, h]

set_option maxRecDepth 100000 in
set_option maxHeartbeats 8000000 in
theorem Fewest_any (a b : Value) (S : Mn) (w : World) (hS : MinsAt w a b S) :
    Calls Tryd.prog 44 #[.agg #[a, b]] w (FewPost S w) := by
  by_cases hW : whlE S = 0
  · obtain ⟨p1, hL, hp1, hp2, hp3⟩ := perI_least hW
    obtain ⟨_, _, _, hal1, hal2⟩ := whl_ok hW
    have hpv := whlF_perX hW
    rw [p1] at hpv
    have hF : fewX S = (if 24 < (fewT S).length then ⟨[], []⟩ else ⟨fewT S, []⟩) ∧ fewE S = (if 24 < (fewT S).length then 2 else 0) := by unfold fewX fewE; rw [if_pos hW, if_pos hW]; exact ⟨rfl, rfl⟩
    have HF := Lib.hid hF
    have HW := Lib.hid hW
    obtain ⟨L, hLL⟩ : ∃ L, (allL S.ts).toNat = L := ⟨_, rfl⟩
    rw [hLL] at hpv
    have hL1 : 1 ≤ L := by omega
    have hL2 : L ≤ 40320 := by omega
    have hpL : perI S ≤ L := by omega
    have hpp := hL.pos
    have HPV := Lib.hid hpv
    have HLL := Lib.hid hLL
    have HLE := Lib.hid hL
    clear hpv hF p1 hp3 hal1 hal2
    go_enter Tryd.func44, Tryd.ntmps44
    go_wp2_with fail
    refine (wheel_any _ _ S _ (hS.ext (by repeat (first | exact Ext.refl _ | assumption | refine Ext.alloc ?_ _ | refine Ext.drew ?_ | refine Ext.drewN _ ?_ | refine Ext.trans ?_ (by assumption))))).mono ?_
    intro e w1 hpost
    replace hpost : WhlPost S _ e w1 := hpost
    revert hpost
    unfold WhlPost
    rw [if_pos HW.out, HLL.out]
    rintro ⟨B, rfl, hB, hwh, hx1⟩
    obtain ⟨q0, q1, hx, hzz⟩ := alloc2 hx1
    clear hLL hW
    simp only [World.size_alloc] at hB
    clear hx1
    go_wp2_with fail
    refine (period_any B L _ _ hwh hL1 hL2).mono ?_
    rw [← HPV.out]
    rintro e w2 ⟨rfl, nd, rfl⟩
    obtain ⟨W2, hW2⟩ : ∃ W2, w1.drewN nd = W2 := ⟨_, rfl⟩
    have hwh2 : Cls B 4 (bools (whlF S) L) W2 := by rw [← hW2]; exact hwh
    have q2 : Cls (w.heap.size + 1) 34 #[.slice none 0 0, .slice none 0 0] W2 := by rw [← hW2]; exact q1
    have hx2 : Ext w W2 := by rw [← hW2]; exact hx.drewN nd
    rw [hW2]
    clear hW2 hwh q1 q0 hx hzz
    have hBl := hwh2.lt
    have d2 : W2.cell? ⟨w.heap.size + 1, 0, none⟩ = some (.slice none 0 0) := q2.cell 0
    have d3 : W2.cell? ⟨w.heap.size + 1, 1, none⟩ = some (.slice none 0 0) := q2.cell 1
    have f2 := q2.frozen 0
    have f3 := q2.frozen 1
    by_cases h1 : perI S = 1
    · have hone := few_one HW.out h1
      have hF2 : fewX S = ⟨[⟨1, 0, 1⟩], []⟩ ∧ fewE S = 0 := by rw [HF.out.1, HF.out.2, hone.1]; exact ⟨rfl, rfl⟩
      have HF2 := Lib.hid hF2
      rw [h1]
      clear hone hF2 h1 hL hp1 hp2 hpL hpp HLE HF HPV
      have k2 : (W2.alloc (.cells #[.int .i64 1, .int .i64 0, .int .i64 1] 23)).cell? ⟨w.heap.size + 1, 0, none⟩ = some (.slice none 0 0) := Ext.cell (by repeat (first | exact Ext.refl _ | assumption | refine Ext.alloc ?_ _ | refine Ext.drew ?_ | refine Ext.drewN _ ?_ | refine Ext.trans ?_ (by assumption))) d2
      have k3 : (W2.alloc (.cells #[.int .i64 1, .int .i64 0, .int .i64 1] 23)).cell? ⟨w.heap.size + 1, 1, none⟩ = some (.slice none 0 0) := Ext.cell (by repeat (first | exact Ext.refl _ | assumption | refine Ext.alloc ?_ _ | refine Ext.drew ?_ | refine Ext.drewN _ ?_ | refine Ext.trans ?_ (by assumption))) d3
      have q3 : Cls (w.heap.size + 1) 34 #[.slice none 0 0, .slice none 0 0] (W2.alloc (.cells #[.int .i64 1, .int .i64 0, .int .i64 1] 23)) := q2.ext (by repeat (first | exact Ext.refl _ | assumption | refine Ext.alloc ?_ _ | refine Ext.drew ?_ | refine Ext.drewN _ ?_ | refine Ext.trans ?_ (by assumption)))
      have q4 : Cls W2.heap.size 23 #[.int .i64 1, .int .i64 0, .int .i64 1] (W2.alloc (.cells #[.int .i64 1, .int .i64 0, .int .i64 1] 23)) := Cls.new _ _ _
      have k4 := q3.frozen 0
      have k5 := q3.frozen 1
      go_wp2_with fail
      refine few_ret rfl rfl HF2.out.2.symm ((q3.set 0 (.slice (some ⟨W2.heap.size, 0, none⟩) 1 1)).set 1 (.slice none 0 0)) ?_ ((Ext.setCell (Ext.trans hx2 (by repeat (first | exact Ext.refl _ | assumption | refine Ext.alloc ?_ _ | refine Ext.drew ?_ | refine Ext.drewN _ ?_ | refine Ext.trans ?_ (by assumption)))) (by simp) _).setCell (by simp) _)
      rw [HF2.out.1]
      have q5 := (q4.other (B' := w.heap.size + 1) (by omega) 0 (.slice (some ⟨W2.heap.size, 0, none⟩) 1 1)).other (B' := w.heap.size + 1) (by omega) 1 (.slice none 0 0)
      refine ⟨⟨_, _, rfl, fun i hi => ?_⟩, spansAt_nil _⟩
      have : i = 0 := by simp at hi; omega
      subst this
      exact ⟨_, _, rfl, q5.cell 0, q5.cell 1, q5.cell 2⟩
    · obtain ⟨z, hz, hzF⟩ := least_gap hL h1
      have hT : fewT S = fewU (whlF S) (perI S) (perI S) := rfl
      obtain ⟨F, hFF⟩ : ∃ F, whlF S = F := ⟨_, rfl⟩
      obtain ⟨p, hpI⟩ : ∃ p, perI S = p := ⟨_, rfl⟩
      rw [hFF] at hzF hwh2 hT
      rw [hpI] at hz h1 hpL hpp hp1 hT ⊢
      have HT := Lib.hid hT
      have HZF := Lib.hid hzF
      have HH1 := Lib.hid h1
      have hp1b : ((p : Int) == 1) = false := by rw [beq_eq_false_iff_ne]; omega
      have hpz : ((p : Int) == 0) = false := by rw [beq_eq_false_iff_ne]; omega
      clear hT hzF h1 hL hFF hpI HLE hp2 HPV
      obtain ⟨i0, hi0, hz0, hz1, hz2⟩ := info_parts infoTn
      go_wp2_with fail
      obtain ⟨W3, hW3⟩ : ∃ W3, W2.alloc (.cells #[.slice none 0 0, .slice none 0 0] 34) = W3 := ⟨_, rfl⟩
      have hI0 : FwI w B W2.heap.size W3.heap.size F L (.slice none 0 0) (fewU F p 0) W3 := by
        rw [← hW3]
        exact ⟨hwh2.ext (by repeat (first | exact Ext.refl _ | assumption | refine Ext.alloc ?_ _ | refine Ext.drew ?_ | refine Ext.drewN _ ?_ | refine Ext.trans ?_ (by assumption))), Cls.new _ _ _, q2.ext (by repeat (first | exact Ext.refl _ | assumption | refine Ext.alloc ?_ _ | refine Ext.drew ?_ | refine Ext.drewN _ ?_ | refine Ext.trans ?_ (by assumption))), World.ownsRow_nil _ _ _ _, (by repeat (first | exact Ext.refl _ | assumption | refine Ext.alloc ?_ _ | refine Ext.drew ?_ | refine Ext.drewN _ ?_ | refine Ext.trans ?_ (by assumption))), Nat.le_refl _⟩
      have hBB : FwB w B W2.heap.size W3.heap.size := by
        have h9 := hx2.size
        have h10 := q2.lt
        have hz3 : W3.heap.size = W2.heap.size + 1 := by rw [← hW3]; simp
        exact ⟨by omega, by omega, by omega, by omega, by omega⟩
      rw [hW3]
      obtain ⟨Bq, hBq⟩ : ∃ Bq, W2.heap.size = Bq := ⟨_, rfl⟩
      obtain ⟨base, hbase⟩ : ∃ base, W3.heap.size = base := ⟨_, rfl⟩
      rw [hBq, hbase] at hI0 hBB
      rw [hBq]
      have HBB := Lib.hid hBB
      clear hW3 hBq hbase hBB d2 d3 f2 f3 q2 hwh2 hx2 hBl
      go_loopw [8, 9, 27] (fun _ _ i wr => ∃ (n : Nat) (v : Value), n ≤ p ∧ i = .int .i64 n ∧ Hid (FwI w B Bq base F L v (fewU F p n) wr)) (fun _ _ i _ => p - (intOf i).toNat)
      case atStart => exact ⟨0, _, Nat.zero_le _, rfl, Lib.hid hI0⟩
      case round =>
        obtain ⟨n, v, hn, rfl, HI⟩ := hrel
        obtain ⟨wo, rfl⟩ : ∃ wo : World, wo = wr := ⟨_, rfl⟩
        have hwh := HI.out.wh
        have hmn := HI.out.mn
        have hrt := HI.out.rt
        obtain ⟨A, c, rfl⟩ := hrt.form
        have c0 : wo.cell? ⟨Bq, 0, none⟩ = some (.slice A (fewU F p n).length c) := hmn.cell 0
        have c1 : wo.cell? ⟨Bq, 1, none⟩ = some (.slice none 0 0) := hmn.cell 1
        have hlen := fewU_len F p n
        by_cases hlt : n < p
        · have hc0 : wo.cell? ⟨B, n, none⟩ = some (.bool (F n)) := wheel_at hwh (by omega)
          have hpm := idx_prev (n := n) hpp
          have hlp : (n + p - 1) % p < p := Nat.mod_lt _ (by omega)
          have hcp : wo.cell? ⟨B, (n + p - 1) % p, none⟩ = some (.bool (F ((n + p - 1) % p))) := wheel_at hwh (by omega)
          have hcg : ∀ g, (n + p - 1) % p = g → F ((n + p - 1) % p) = F g := fun g e => by rw [e]
          obtain ⟨g, hg⟩ : ∃ g, (n + p - 1) % p = g := ⟨_, rfl⟩
          rw [hg] at hpm hlp hcp
          have HG := Lib.hid hg
          have HPM := Lib.hid hpm
          clear hcg hpm hg
          cases hFn : F n
          · have hst := startB_no (p := p) hFn
            have hnx := fewU_f hst
            have HN2 : Hid (FwI w B Bq base F L (.slice A (fewU F p n).length c) (fewU F p (n + 1)) wo) := Lib.hid (by rw [hnx]; exact HI.out)
            rw [hFn] at hc0
            clear hst hnx hFn
            go_wp2_with fail
            go_roundw
            case rel => exact ⟨n + 1, _, by omega, by go_num, HN2⟩
            case measure => simp [intOf]; omega
          · rw [hFn] at hc0
            cases hFg : F g
            · have hst := startB_yes (p := p) hFn (by rw [HG.out]; exact hFg)
              have hnx := fewU_t hst
              rw [hFg] at hcp
              obtain ⟨r1, r2, r3, r4⟩ := runP_spec F hpp n
              have hrl := runP_lt hpp hz hlt hFn HZF.out
              have hre := r4 hrl
              obtain ⟨N, hN⟩ : ∃ N, runP F p n = N := ⟨_, rfl⟩
              rw [hN] at r1 r2 r3 hrl hre hnx
              have HNX := Lib.hid hnx
              have HR3 := Lib.hid r3
              have HRE := Lib.hid hre
              have HWH := Lib.hid hwh
              clear hst hnx hFn hFg r3 r4 hre hN hwh
              go_wp2_with (go_at_call 103; refine (mod_any ((n : Int) - 1) (p : Int) _ (by omega) (by omega)).mono ?_; rw [HPM.out]; rintro e w' ⟨rfl, rfl⟩)
              go_loopw [9] (fun u wr => ∃ k : Nat, 1 ≤ k ∧ k ≤ N ∧ u = .int .i64 k ∧ ∃ m, wr = wo.drewN m) (fun u _ => N - (intOf u).toNat)
              case atStart => exact ⟨1, by omega, r1, rfl, 0, rfl⟩
              case round =>
                obtain ⟨k, hk1, hk2, rfl, m, rfl⟩ := hrel
                have hkm : ((n : Int) + (k : Int)) % (p : Int) = (((n + k) % p : Nat) : Int) := by rw [Int.natCast_emod]; rfl
                have hkt : ((n : Int) + (k : Int)).tmod (p : Int) = (((n + k) % p : Nat) : Int) := by rw [Int.tmod_eq_emod_of_nonneg (by omega)]; exact hkm
                have hlk : (n + k) % p < p := Nat.mod_lt _ (by omega)
                have hck : wo.cell? ⟨B, (n + k) % p, none⟩ = some (.bool (F ((n + k) % p))) := wheel_at HWH.out (by omega)
                have hv1 : k < N → F ((n + k) % p) = true := fun h => HR3.out k hk1 h
                have hv2 : k = N → F ((n + k) % p) = false := fun h => by rw [h]; exact HRE.out
                obtain ⟨y, hy⟩ : ∃ y, (n + k) % p = y := ⟨_, rfl⟩
                rw [hy] at hkm hkt hlk hck hv1 hv2
                clear hy
                by_cases hkN : k < N
                · rw [hv1 hkN] at hck
                  clear hv1 hv2
                  go_wp2_with fail
                  go_roundw
                  case rel => exact ⟨k + 1, by omega, by omega, by go_num, m, rfl⟩
                  case measure => simp [intOf]; omega
                · obtain rfl : k = N := by omega
                  rw [hv2 rfl] at hck
                  clear hv1 hv2
                  have hrt2 : (wo.drewN m).ownsRow base 23 3 (.slice A (fewU F p n).length c) (fewU F p n).length (cellsT (fewU F p n)) := hrt
                  have hl2 : (fewU F p n).length ≤ 40320 := by omega
                  go_wp2_with ((at_builtin; go_must (refine wpList_append_own _ rfl _ _ 31 rfl base 23 i0 (.agg #[.int .i64 0, .int .i64 0, .int .i64 0]) 3 24 undTn hi0 hz0 hz1 hz2 rfl (by decide) _ _ _ rfl (World.ownsRow.alloc hrt2 _) ⟨wo.heap.size, 0, none⟩ 1 1 [.int .i64 p, .int .i64 n, .int .i64 k] rfl rfl (cell_three_new _ _ _ _ _) (by simp [Value.oneCell']) (by unfold maxLen; omega) (by omega) (by have := HI.out.sz; simp; omega) ?_; intro v' w3 hown hgrow _; obtain ⟨hm3, hI3⟩ := FwI.add (t := ⟨p, n, k⟩) HBB.out (HI.out.drewN m) rfl hgrow hown; obtain ⟨g', cap', rfl⟩ := ownsRow_succ hown; have c3 : w3.cell? ⟨Bq, 0, none⟩ = some (.slice A (fewU F p n).length c) := hm3.cell 0; have f3 : w3.frozen? ⟨Bq, 0, none⟩ = false := hm3.frozen 0; have HI3 := Lib.hid hI3; clear hI3 hm3)))
                  go_roundw
                  case rel => exact ⟨n + 1, _, by omega, by go_num, Lib.hid (by rw [HNX.out]; exact HI3.out)⟩
                  case measure => simp [intOf]; omega
            · have hst := startB_in (F := F) (p := p) (n := n) HH1.out (by rw [HG.out]; exact hFg)
              have hnx := fewU_f hst
              have HN2 : Hid (FwI w B Bq base F L (.slice A (fewU F p n).length c) (fewU F p (n + 1)) wo) := Lib.hid (by rw [hnx]; exact HI.out)
              rw [hFg] at hcp
              clear hst hnx hFn hFg
              go_wp2_with (go_at_call 103; refine (mod_any ((n : Int) - 1) (p : Int) _ (by omega) (by omega)).mono ?_; rw [HPM.out]; rintro e w' ⟨rfl, rfl⟩)
              go_roundw
              case rel => exact ⟨n + 1, _, by omega, by go_num, HN2⟩
              case measure => simp [intOf]; omega
        · obtain rfl : n = p := by omega
          have hrs := HI.out.rs
          have hx := HI.out.ex
          have e2 : wo.cell? ⟨w.heap.size + 1, 0, none⟩ = some (.slice none 0 0) := hrs.cell 0
          have e3 : wo.cell? ⟨w.heap.size + 1, 1, none⟩ = some (.slice none 0 0) := hrs.cell 1
          have f2 := hrs.frozen 0
          have f3 := hrs.frozen 1
          have hat : TurnsAt wo (.slice A (fewU F n n).length c) (fewU F n n) := RowT.at_ hrt
          have hne2 : (RowT base (.slice A (fewU F n n).length c) (fewU F n n) wo) := hrt
          have HR := Lib.hid hne2
          clear hne2
          by_cases h24 : 24 < (fewU F n n).length
          · have hF2 : fewX S = ⟨[], []⟩ ∧ fewE S = 2 := by rw [HF.out.1, HF.out.2, HT.out, if_pos h24, if_pos h24]; exact ⟨rfl, rfl⟩
            have HF2 := Lib.hid hF2
            clear hF2
            go_wp2_with fail
            exact few_ret rfl rfl HF2.out.2.symm ((hrs.set 0 (.slice none 0 0)).set 1 (.slice none 0 0)) (by rw [HF2.out.1]; exact ⟨turnsAt_nil _, spansAt_nil _⟩) ((hx.setCell (by simp) _).setCell (by simp) _)
          · have hF2 : fewX S = ⟨fewU F n n, []⟩ ∧ fewE S = 0 := by rw [HF.out.1, HF.out.2, HT.out, if_neg h24, if_neg h24]; exact ⟨rfl, rfl⟩
            have HF2 := Lib.hid hF2
            clear hF2
            go_wp2_with fail
            refine few_ret rfl rfl HF2.out.2.symm ((hrs.set 0 (.slice A (fewU F n n).length c)).set 1 (.slice none 0 0)) ?_ ((hx.setCell (by simp) _).setCell (by simp) _)
            rw [HF2.out.1]
            have b3 := HBB.out.b3
            exact ⟨RowT.at_ (n₀ := base) (ownsRow_setCell_below (ownsRow_setCell_below HR.out (a := ⟨w.heap.size + 1, 0, none⟩) (by simpa using b3) _) (a := ⟨w.heap.size + 1, 1, none⟩) (by simpa using b3) _), spansAt_nil _⟩
  · have hE : fewE S = whlE S ∧ fewX S = ⟨[], []⟩ := by unfold fewE fewX; rw [if_neg hW, if_neg hW]; exact ⟨rfl, rfl⟩
    have HE := Lib.hid hE
    have hWb : (whlE S != 0) = true := by simpa using hW
    have HW := Lib.hid hW
    clear hE
    go_enter Tryd.func44, Tryd.ntmps44
    go_wp2_with fail
    refine (wheel_any _ _ S _ (hS.ext (by repeat (first | exact Ext.refl _ | assumption | refine Ext.alloc ?_ _ | refine Ext.drew ?_ | refine Ext.drewN _ ?_ | refine Ext.trans ?_ (by assumption))))).mono ?_
    intro e w1 hpost
    replace hpost : WhlPost S _ e w1 := hpost
    revert hpost
    unfold WhlPost
    rw [if_neg HW.out]
    rintro ⟨rfl, hx1⟩
    obtain ⟨q0, q1, hx, hzz⟩ := alloc2 hx1
    clear hx1 hW
    have d2 : w1.cell? ⟨w.heap.size + 1, 0, none⟩ = some (.slice none 0 0) := q1.cell 0
    have d3 : w1.cell? ⟨w.heap.size + 1, 1, none⟩ = some (.slice none 0 0) := q1.cell 1
    have f2 := q1.frozen 0
    have f3 := q1.frozen 1
    go_wp2_with fail
    exact few_ret rfl rfl HE.out.1.symm ((q1.set 0 (.slice none 0 0)).set 1 (.slice none 0 0)) (by rw [HE.out.2]; exact ⟨turnsAt_nil _, spansAt_nil _⟩) ((hx.setCell (by simp) _).setCell (by simp) _)
end Go.Proofs.YtejmmfjabmmihaaDoor
