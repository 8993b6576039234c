/- over of the program: by how much a group pays too much at most. fair of the program. Fair of the program. -/
import Derived.Test.YthopgonbndoidaaVObj
import Derived.Test.YthopgonbndoidaaVGrp
import Derived.Deep.RegionHeld3
namespace Go.Proofs.Ythopgonbndoidaa
open Go.RowKit Go.Shelf

theorem bk_snoc_bd {rs : List Rc} (hV : RsV rs) (hl : rs.length ≤ 24) {f : Nat → Int} (h : ∀ r, 0 ≤ f r ∧ f r ≤ 25769803776) (pre : List Nat) :
    pre <+: bk rs.length → ∀ r, 0 ≤ (obF rs f pre).2 r ∧ (obF rs f pre).2 r ≤ 25769803776 * 2 ^ (24 - r) := by
  induction pre using snoc_ind with
  | h0 => intro _ r; have : (0 : Int) ≤ 2 ^ (24 - r) := by exact_mod_cast Nat.zero_le _
          simp [obF]; omega
  | h1 pre x ih =>
    intro hp r
    have hp0 : pre <+: bk rs.length := (List.prefix_append pre [x]).trans hp
    have i := ih hp0 r
    have hn := bk_next hp
    have ho := obF_bd hV (M := 25769803776) (by omega) h pre x
    have hc := cst_bd hV x
    rw [obF_snoc]
    show 0 ≤ (if r = x then obO rs (obF rs f pre).1 x else (obF rs f pre).2 r) ∧ (if r = x then obO rs (obF rs f pre).1 x else (obF rs f pre).2 r) ≤ 25769803776 * 2 ^ (24 - r)
    by_cases hr : r = x
    · subst hr
      rw [if_pos rfl]
      have hw : (2 : Int) ^ pre.length ≤ 2 ^ (24 - r) := by exact_mod_cast Nat.pow_le_pow_right (by omega) (by omega)
      have h1 := ho.1
      unfold obO
      omega
    · rw [if_neg hr]; exact i
/-- what the groups at the heads pay too much -/
def ovS (rs : List Rc) (o : Nat → Int) : Nat → Int
  | 0 => 0
  | k + 1 => ovS rs o k + (if k < rs.length ∧ abv rs k < 0 then o k else 0)
def ovX (T : Tr) (l : List Int) : Int := ovS T.rs (objX T l) 24
theorem ovS_bd {rs : List Rc} {o : Nat → Int} (h : ∀ r, 0 ≤ o r ∧ o r ≤ 25769803776 * 2 ^ (24 - r)) : ∀ k, k ≤ 24 → 0 ≤ ovS rs o k ∧ ovS rs o k ≤ 864691128455135232 - 25769803776 * 2 ^ (25 - k) := by
  intro k
  induction k with
  | zero => intro _; simp [ovS]
  | succ k ih =>
    intro hk
    have i := ih (by omega)
    have j := h k
    have e : (2 : Int) ^ (25 - k) = 2 * 2 ^ (24 - k) := by rw [show 25 - k = (24 - k) + 1 by omega, Int.pow_succ]; omega
    have e2 : 25 - (k + 1) = 24 - k := by omega
    rw [ovS, e2]
    rw [e] at i
    obtain ⟨p, hp⟩ : ∃ p : Int, 2 ^ (24 - k) = p := ⟨_, rfl⟩
    rw [hp] at i j ⊢
    split <;> omega
theorem objX_bd {T : Tr} (hok : Ok T) {l : List Int} (hb : ∀ n ∈ l, 0 ≤ n ∧ n ≤ 1073741824) : ∀ r, 0 ≤ objX T l r ∧ objX T l r ≤ 25769803776 * 2 ^ (24 - r) := by
  have h1 := fun r => atP_bd (T.ps.zip l) (fun q hq => hb q.2 (List.of_mem_zip hq).2) r
  have h2 : (T.ps.zip l).length ≤ 24 := by have := hok.lp; simp; omega
  exact bk_snoc_bd hok.rv hok.lr (fun r => by have := h1 r; omega) _ (List.prefix_refl _)
theorem ovX_bd {T : Tr} (hok : Ok T) {l : List Int} (hb : ∀ n ∈ l, 0 ≤ n ∧ n ≤ 1073741824) : 0 ≤ ovX T l ∧ ovX T l ≤ 864691128455135232 := by
  have := ovS_bd (rs := T.rs) (objX_bd hok hb) 24 (Nat.le_refl _)
  simp at this
  unfold ovX
  omega

theorem index_arr (o : Nat → Int) {k : Nat} (hk : k < 24) (w : World) : (Instr.index 107 (.agg (arr o)) (.int .i64 k)).run Try.prog w = .ok (.int .i64 (o k)) w := by
  have h1 : (0:Int) ≤ k ∧ (k:Int) < 24 := by omega
  have h2 := arr_get o hk
  simp [Instr.index, asIntOf, run_underlying Try.underlying107, h1, hk, go_sem, part, sizeOf]
  rw [show k * Try.t3.size = k from Nat.mul_one k, h2]
  rfl
theorem wpList_indexC {ops : Array Oper} {rest : List Oper} {op : Oper} {a : Act} {w : World} {Q : Exit → Act → World → Prop} (hgd : op.guard = none) (x y : Operand) (ho : op.op = .index 107 x y)
    (f : Nat → Int) (k : Nat) (v : Int) (hx : a.eval x = .agg (arr f)) (hy : a.eval y = .int .i64 k) (hk : k < 24) (hv : f k = v)
    (h : wpList Try.prog ops Q rest (a.put op.dst (.int .i64 v)) w) : wpList Try.prog ops Q (op :: rest) a w := by
  refine wpList_plain hgd fun K' hK' => ?_
  unfold Oper.wp execOp
  simp only [ho, hx, hy, Sem.run_bind, index_arr f hk, hv, Sem.run_pure, Result.andThen_ok]
  exact hK' _ _ h
set_option maxRecDepth 100000 in
set_option maxHeartbeats 4000000 in
theorem over_any (a b v : Value) (T : Tr) (hok : Ok T) (l : List Int) (w : World) (hT : TrAt w a b T) (hl : IntsAt w v l) (hlen : l.length = T.ps.length) (hb : ∀ n ∈ l, 0 ≤ n ∧ n ≤ 1073741824) :
    Calls Try.prog 82 #[.agg #[a, b, v]] w fun e w' => e = .returned (.int .i64 (ovX T l)) ∧ Ext w w' := by
  obtain ⟨OX, hOX⟩ : ∃ OX, ovX T l = OX := ⟨_, rfl⟩
  have HOX := Lib.hid hOX
  rw [hOX]
  clear hOX
  obtain ⟨ar, cr, rfl, hlr⟩ := hT.r.len
  have hx : Ext w (w.alloc (.cells #[.slice ar T.rs.length cr, b, v] 114)) := (by repeat (first | exact Ext.refl _ | assumption | refine Ext.alloc ?_ _ | refine Ext.drew ?_ | refine Ext.drewN _ ?_ | refine Ext.trans ?_ (by assumption)))
  have K := objects_any (.slice ar T.rs.length cr) b v T hok l _ (hT.ext hx) (hl.ext hx) hlen hb
  have hbd := objX_bd hok hb
  obtain ⟨o, ho⟩ : ∃ o, objX T l = o := ⟨_, rfl⟩
  have hov : ovS T.rs o 24 = OX := by rw [← ho]; exact HOX.out
  rw [ho] at K hbd
  have HOV := Lib.hid hov
  have HBD := Lib.hid hbd
  have hlrs := hok.lr
  clear ho hov hbd hb hlen
  go_enter Try.func82, Try.ntmps82
  go_wp2_with fail
  refine K.mono ?_
  rintro e w1 ⟨rfl, hz⟩
  obtain ⟨q0, hx1, hs1⟩ := alloc1 hz
  clear hz hx K
  go_wp2_with fail
  go_loopw [3, 8] (fun s i wr => ∃ k : Nat, k ≤ 24 ∧ i = .int .i64 k ∧ s = .int .i64 (ovS T.rs o k) ∧ wr = w1) (fun _ i _ => 24 - (intOf i).toNat)
  case atStart => exact ⟨0, Nat.zero_le _, rfl, rfl, rfl⟩
  case round =>
    obtain ⟨k, hk, rfl, rfl, rfl⟩ := hrel
    by_cases hlt : k < 24
    · have hg := arr_get o hlt
      have hki : (k : Int) < 24 := by omega
      have hsb := ovS_bd (rs := T.rs) HBD.out k (by omega)
      have hsb2 := ovS_bd (rs := T.rs) HBD.out (k + 1) (by omega)
      have hpw : (0 : Int) ≤ 2 ^ (25 - k) := by exact_mod_cast Nat.zero_le _
      have hpw2 : (0 : Int) ≤ 2 ^ (25 - (k + 1)) := by exact_mod_cast Nat.zero_le _
      have d0 : wr.cell? ⟨w.heap.size, 0, none⟩ = some (.slice ar T.rs.length cr) := q0.cell 0
      have hst : ovS T.rs o (k + 1) = ovS T.rs o k + (if k < T.rs.length ∧ abv T.rs k < 0 then o k else 0) := rfl
      obtain ⟨s, hs⟩ : ∃ s, ovS T.rs o k = s := ⟨_, rfl⟩
      obtain ⟨t, ht⟩ : ∃ t, ovS T.rs o (k + 1) = t := ⟨_, rfl⟩
      obtain ⟨ok, hok2⟩ : ∃ ok, o k = ok := ⟨_, rfl⟩
      rw [hs] at hsb hst ⊢
      rw [ht] at hsb2 hst
      rw [hok2] at hst
      have HT := Lib.hid ht
      have HOK2 := Lib.hid hok2
      clear hg
      by_cases hr : k < T.rs.length
      · obtain ⟨bb, oo, rfl, c0, c1⟩ := (hT.ext hx1).r.get k hr
        rw [← abv_get hr] at c0
        obtain ⟨ab, hab⟩ : ∃ ab, abv T.rs k = ab := ⟨_, rfl⟩
        rw [hab] at c0 hst
        have hri : (k : Int) < T.rs.length := by omega
        by_cases ha : ab < 0
        · rw [if_pos ⟨hr, ha⟩] at hst
          have hw : IntKind.i64.wrap (s + ok) = s + ok := IntWalk.i64_in _ (by omega)
          have HST := Lib.hid hst
          clear hst hs ht hok2 hab hsb hsb2 hpw hpw2
          go_upto_region 5 with (refine wpList_indexC rfl _ _ rfl o k _ rfl rfl hlt HOK2.out ?_)
          clear HOK2
          go_wp2
          go_roundw
          case rel => exact ⟨k + 1, by omega, by go_num, by rw [HT.out, HST.out], trivial⟩
          case measure => simp [intOf]; omega
        · rw [if_neg (fun h => ha h.2), Int.add_zero] at hst
          have HST := Lib.hid hst
          clear hst hs ht hok2 hab hsb hsb2 hpw hpw2
          go_upto_region 5 with (refine wpList_indexC rfl _ _ rfl o k _ rfl rfl hlt HOK2.out ?_)
          clear HOK2
          go_wp2
          go_roundw
          case rel => exact ⟨k + 1, by omega, by go_num, by rw [HT.out, HST.out], trivial⟩
          case measure => simp [intOf]; omega
      · rw [if_neg (fun h => hr h.1), Int.add_zero] at hst
        have hri : ¬ (k : Int) < T.rs.length := by omega
        have HST := Lib.hid hst
        clear hst hs ht hok2 hsb hsb2 hpw hpw2
        go_upto_region 5 with (refine wpList_indexC rfl _ _ rfl o k _ rfl rfl hlt HOK2.out ?_)
        clear HOK2
        go_wp2
        go_roundw
        case rel => exact ⟨k + 1, by omega, by go_num, by rw [HT.out, HST.out], trivial⟩
        case measure => simp [intOf]; omega
    · obtain rfl : k = 24 := by omega
      rw [HOV.out]
      go_wp2
      go_ret
      exact ⟨rfl, hx1⟩
end Go.Proofs.Ythopgonbndoidaa
namespace Go.Proofs.Ythopgonbndoidaa
open Go.RowKit Go.Shelf

def faiB (T : Tr) (l : List Int) : Bool := sumI l == alnE T (fun _ => true) && ovX T l == 0
set_option maxRecDepth 100000 in
set_option maxHeartbeats 4000000 in
theorem fair_any (a b v : Value) (T : Tr) (hok : Ok T) (l : List Int) (w : World) (hT : TrAt w a b T) (hl : IntsAt w v l) (hlen : l.length = T.ps.length) (hb : ∀ n ∈ l, 0 ≤ n ∧ n ≤ 1073741824) :
    Calls Try.prog 66 #[.agg #[a, b, v]] w fun e w' => e = .returned (.bool (faiB T l)) ∧ Ext w w' := by
  have KS := fun W (h : Ext w W) => sum_any v l W (hl.ext h) (by have := hok.lp; omega) hb
  have KW := fun W (h : Ext w W) => whole_any a b T hok W (hT.ext h)
  have KO := fun W (h : Ext w W) => over_any a b v T hok l W (hT.ext h) (hl.ext h) hlen hb
  have hF : faiB T l = (sumI l == alnE T (fun _ => true) && ovX T l == 0) := rfl
  obtain ⟨F, hFF⟩ : ∃ F, faiB T l = F := ⟨_, rfl⟩
  obtain ⟨X1, hX1⟩ : ∃ X, sumI l = X := ⟨_, rfl⟩
  obtain ⟨X2, hX2⟩ : ∃ X, alnE T (fun _ => true) = X := ⟨_, rfl⟩
  obtain ⟨X3, hX3⟩ : ∃ X, ovX T l = X := ⟨_, rfl⟩
  rw [hFF, hX1, hX2, hX3] at hF
  rw [hX1] at KS
  rw [hX2] at KW
  rw [hX3] at KO
  rw [hFF]
  have HF := Lib.hid hF
  have HT := Lib.hid hT
  clear hF hFF hX1 hX2 hX3 hb hlen hT hl
  go_enter Try.func66, Try.ntmps66
  go_upto_region 1 with fail
  obtain ⟨W1, hW1⟩ : ∃ W1, w.alloc (.cells #[a, b, v] 114) = W1 := ⟨_, rfl⟩
  have hx : Ext w W1 := by rw [← hW1]; exact (by repeat (first | exact Ext.refl _ | assumption | refine Ext.alloc ?_ _ | refine Ext.drew ?_ | refine Ext.drewN _ ?_ | refine Ext.trans ?_ (by assumption)))
  have q0 : Cls w.heap.size 114 #[a, b, v] W1 := by rw [← hW1]; exact Cls.new _ _ _
  try rw [hW1]
  clear hW1
  have d0 : W1.cell? ⟨w.heap.size, 0, none⟩ = some a := q0.cell 0
  have d1 : W1.cell? ⟨w.heap.size, 1, none⟩ = some b := q0.cell 1
  have d2 : W1.cell? ⟨w.heap.size, 2, none⟩ = some v := q0.cell 2
  cases hq : (X1 == X2)
  · have HQ := Lib.hid hq
    refine wp_region_held_drew (S := fun W' => (W'.cell? ⟨w.heap.size, 0, none⟩ = some a ∧ W'.cell? ⟨w.heap.size, 1, none⟩ = some b ∧ W'.cell? ⟨w.heap.size, 2, none⟩ = some v) ∧ Ext w W') (by kernel_rfl) ?_ (fun hHeld => ?_)
    · exact ⟨⟨d0, d1, d2⟩, hx.trans (Ext.drew (Ext.refl _))⟩
    first | (refine wpAnyH_take (i := 0) (v := ?_) rfl (by kernel_rfl) (by kernel_rfl) (by kernel_rfl) (fun _ _ _ h => h) (Or.inl ⟨by rfl, ?_⟩) (by assumption) ?_; rotate_left 1; (focus (intro w hSw; (try dsimp only at hSw); go_simp; try (with_reducible rfl)))) | (refine wpAnyH_take (i := 0) (v := undef) rfl (by kernel_rfl) (by kernel_rfl) (by kernel_rfl) (fun _ _ _ h => h) (Or.inr ⟨by rfl, rfl⟩) (by assumption) ?_)
    try simp only [Act.put, List.getElem_toArray, List.getElem_cons_zero, List.setIfInBounds_toArray, List.set_cons_zero, List.set_cons_succ]
    first | (refine wpAnyH_take (i := 1) (v := ?_) rfl (by kernel_rfl) (by kernel_rfl) (by kernel_rfl) (fun _ _ _ h => h) (Or.inl ⟨by rfl, ?_⟩) (by assumption) ?_; rotate_left 1; (focus (intro w hSw; (try dsimp only at hSw); go_simp; try (with_reducible rfl)))) | (refine wpAnyH_take (i := 1) (v := undef) rfl (by kernel_rfl) (by kernel_rfl) (by kernel_rfl) (fun _ _ _ h => h) (Or.inr ⟨by rfl, rfl⟩) (by assumption) ?_)
    try simp only [Act.put, List.getElem_toArray, List.getElem_cons_zero, List.getElem_cons_succ, List.setIfInBounds_toArray, List.set_cons_zero, List.set_cons_succ]
    first | (refine wpAnyH_take (i := 3) (v := ?_) rfl (by kernel_rfl) (by kernel_rfl) (by kernel_rfl) (fun _ _ _ h => h) (Or.inl ⟨by rfl, ?_⟩) (by assumption) ?_; rotate_left 1; (focus (intro w hSw; (try dsimp only at hSw); go_simp; try (with_reducible rfl)))) | (refine wpAnyH_take (i := 3) (v := undef) rfl (by kernel_rfl) (by kernel_rfl) (by kernel_rfl) (fun _ _ _ h => h) (Or.inr ⟨by rfl, rfl⟩) (by assumption) ?_)
    try simp only [Act.put, List.getElem_toArray, List.getElem_cons_zero, List.getElem_cons_succ, List.setIfInBounds_toArray, List.set_cons_zero, List.set_cons_succ]
    first | (refine wpAnyH_take (i := 4) (v := ?_) rfl (by kernel_rfl) (by kernel_rfl) (by kernel_rfl) (fun _ _ _ h => h) (Or.inl ⟨by rfl, ?_⟩) (by assumption) ?_; rotate_left 1; (focus (intro w hSw; (try dsimp only at hSw); go_simp; try (with_reducible rfl)))) | (refine wpAnyH_take (i := 4) (v := undef) rfl (by kernel_rfl) (by kernel_rfl) (by kernel_rfl) (fun _ _ _ h => h) (Or.inr ⟨by rfl, rfl⟩) (by assumption) ?_)
    try simp only [Act.put, List.getElem_toArray, List.getElem_cons_zero, List.getElem_cons_succ, List.setIfInBounds_toArray, List.set_cons_zero, List.set_cons_succ]
    refine wpAnyH_ready (rs := [2]) (by kernel_rfl) (by simp) ?_
    refine AllReadyH.cons rfl (fun K hK => ?_) AllReadyH.nil
    go_simp
    go_at_call 106; refine (KS _ hHeld.2).mono ?_; rintro e w2 ⟨rfl, hz⟩
    refine hK.out _ _ ?_ (fun hHeld => ?_)
    · exact ⟨⟨hz.cell hHeld.1.1, hz.cell hHeld.1.2.1, hz.cell hHeld.1.2.2⟩, hHeld.2.trans hz⟩
    clear hK K
    try simp only [Act.put, List.getElem_toArray, List.getElem_cons_zero, List.getElem_cons_succ, List.setIfInBounds_toArray, List.set_cons_zero, List.set_cons_succ]
    refine wpAnyH_ready (rs := [5]) (by kernel_rfl) (by simp) ?_
    refine AllReadyH.cons rfl (fun K hK => ?_) AllReadyH.nil
    go_simp
    go_at_call 70; refine (KW _ hHeld.2).mono ?_; rintro e w3 ⟨rfl, hz⟩
    refine hK.out _ _ ?_ (fun hHeld => ?_)
    · exact ⟨⟨hz.cell hHeld.1.1, hz.cell hHeld.1.2.1, hz.cell hHeld.1.2.2⟩, hHeld.2.trans hz⟩
    clear hK K
    try simp only [Act.put, List.getElem_toArray, List.getElem_cons_zero, List.getElem_cons_succ, List.setIfInBounds_toArray, List.set_cons_zero, List.set_cons_succ]
    first | (refine wpAnyH_take (i := 6) (v := ?_) rfl (by kernel_rfl) (by kernel_rfl) (by kernel_rfl) (fun _ _ _ h => h) (Or.inl ⟨by rfl, ?_⟩) (by assumption) ?_; rotate_left 1; (focus (intro w hSw; (try dsimp only at hSw); go_simp; try (with_reducible rfl)))) | (refine wpAnyH_take (i := 6) (v := undef) rfl (by kernel_rfl) (by kernel_rfl) (by kernel_rfl) (fun _ _ _ h => h) (Or.inr ⟨by rfl, rfl⟩) (by assumption) ?_)
    try simp only [Act.put, List.getElem_toArray, List.getElem_cons_zero, List.getElem_cons_succ, List.setIfInBounds_toArray, List.set_cons_zero, List.set_cons_succ]
    first | (refine wpAnyH_take (i := 7) (v := ?_) rfl (by kernel_rfl) (by kernel_rfl) (by kernel_rfl) (fun _ _ _ h => h) (Or.inl ⟨by rfl, ?_⟩) (by assumption) ?_; rotate_left 1; (focus (intro w hSw; (try dsimp only at hSw); go_simp; try (with_reducible rfl)))) | (refine wpAnyH_take (i := 7) (v := undef) rfl (by kernel_rfl) (by kernel_rfl) (by kernel_rfl) (fun _ _ _ h => h) (Or.inr ⟨by rfl, rfl⟩) (by assumption) ?_)
    try simp only [Act.put, List.getElem_toArray, List.getElem_cons_zero, List.getElem_cons_succ, List.setIfInBounds_toArray, List.set_cons_zero, List.set_cons_succ]
    (refine wpAnyH_take (i := 8) (v := undef) rfl (by kernel_rfl) (by kernel_rfl) (by kernel_rfl) (fun _ _ _ h => h) (Or.inr ⟨by rfl, rfl⟩) (by assumption) ?_)
    try simp only [Act.put, List.getElem_toArray, List.getElem_cons_zero, List.getElem_cons_succ, List.setIfInBounds_toArray, List.set_cons_zero, List.set_cons_succ]
    (refine wpAnyH_take (i := 9) (v := undef) rfl (by kernel_rfl) (by kernel_rfl) (by kernel_rfl) (fun _ _ _ h => h) (Or.inr ⟨by rfl, rfl⟩) (by assumption) ?_)
    try simp only [Act.put, List.getElem_toArray, List.getElem_cons_zero, List.getElem_cons_succ, List.setIfInBounds_toArray, List.set_cons_zero, List.set_cons_succ]
    (refine wpAnyH_take (i := 10) (v := undef) rfl (by kernel_rfl) (by kernel_rfl) (by kernel_rfl) (fun _ _ _ h => h) (Or.inr ⟨by rfl, rfl⟩) (by assumption) ?_)
    try simp only [Act.put, List.getElem_toArray, List.getElem_cons_zero, List.getElem_cons_succ, List.setIfInBounds_toArray, List.set_cons_zero, List.set_cons_succ]
    first | (refine wpAnyH_take (i := 11) (v := ?_) rfl (by kernel_rfl) (by kernel_rfl) (by kernel_rfl) (fun _ _ _ h => h) (Or.inl ⟨by rfl, ?_⟩) (by assumption) ?_; rotate_left 1; (focus (intro w hSw; (try dsimp only at hSw); go_simp; try (with_reducible rfl)))) | (refine wpAnyH_take (i := 11) (v := undef) rfl (by kernel_rfl) (by kernel_rfl) (by kernel_rfl) (fun _ _ _ h => h) (Or.inr ⟨by rfl, rfl⟩) (by assumption) ?_)
    try simp only [Act.put, List.getElem_toArray, List.getElem_cons_zero, List.getElem_cons_succ, List.setIfInBounds_toArray, List.set_cons_zero, List.set_cons_succ]
    first | (refine wpAnyH_take (i := 12) (v := ?_) rfl (by kernel_rfl) (by kernel_rfl) (by kernel_rfl) (fun _ _ _ h => h) (Or.inl ⟨by rfl, ?_⟩) (by assumption) ?_; rotate_left 1; (focus (intro w hSw; (try dsimp only at hSw); go_simp; try (with_reducible rfl)))) | (refine wpAnyH_take (i := 12) (v := undef) rfl (by kernel_rfl) (by kernel_rfl) (by kernel_rfl) (fun _ _ _ h => h) (Or.inr ⟨by rfl, rfl⟩) (by assumption) ?_)
    try simp only [Act.put, List.getElem_toArray, List.getElem_cons_zero, List.getElem_cons_succ, List.setIfInBounds_toArray, List.set_cons_zero, List.set_cons_succ]
    refine wpAnyH_done (by kernel_rfl) ?_ _
    go_wp2
    go_ret
    exact ⟨ret_bool (by rw [HF.out, HQ.out]; rfl), hHeld.2⟩
  · have HQ := Lib.hid hq
    refine wp_region_held_drew (S := fun W' => (W'.cell? ⟨w.heap.size, 0, none⟩ = some a ∧ W'.cell? ⟨w.heap.size, 1, none⟩ = some b ∧ W'.cell? ⟨w.heap.size, 2, none⟩ = some v) ∧ Ext w W') (by kernel_rfl) ?_ (fun hHeld => ?_)
    · exact ⟨⟨d0, d1, d2⟩, hx.trans (Ext.drew (Ext.refl _))⟩
    first | (refine wpAnyH_take (i := 0) (v := ?_) rfl (by kernel_rfl) (by kernel_rfl) (by kernel_rfl) (fun _ _ _ h => h) (Or.inl ⟨by rfl, ?_⟩) (by assumption) ?_; rotate_left 1; (focus (intro w hSw; (try dsimp only at hSw); go_simp; try (with_reducible rfl)))) | (refine wpAnyH_take (i := 0) (v := undef) rfl (by kernel_rfl) (by kernel_rfl) (by kernel_rfl) (fun _ _ _ h => h) (Or.inr ⟨by rfl, rfl⟩) (by assumption) ?_)
    try simp only [Act.put, List.getElem_toArray, List.getElem_cons_zero, List.setIfInBounds_toArray, List.set_cons_zero, List.set_cons_succ]
    first | (refine wpAnyH_take (i := 1) (v := ?_) rfl (by kernel_rfl) (by kernel_rfl) (by kernel_rfl) (fun _ _ _ h => h) (Or.inl ⟨by rfl, ?_⟩) (by assumption) ?_; rotate_left 1; (focus (intro w hSw; (try dsimp only at hSw); go_simp; try (with_reducible rfl)))) | (refine wpAnyH_take (i := 1) (v := undef) rfl (by kernel_rfl) (by kernel_rfl) (by kernel_rfl) (fun _ _ _ h => h) (Or.inr ⟨by rfl, rfl⟩) (by assumption) ?_)
    try simp only [Act.put, List.getElem_toArray, List.getElem_cons_zero, List.getElem_cons_succ, List.setIfInBounds_toArray, List.set_cons_zero, List.set_cons_succ]
    first | (refine wpAnyH_take (i := 3) (v := ?_) rfl (by kernel_rfl) (by kernel_rfl) (by kernel_rfl) (fun _ _ _ h => h) (Or.inl ⟨by rfl, ?_⟩) (by assumption) ?_; rotate_left 1; (focus (intro w hSw; (try dsimp only at hSw); go_simp; try (with_reducible rfl)))) | (refine wpAnyH_take (i := 3) (v := undef) rfl (by kernel_rfl) (by kernel_rfl) (by kernel_rfl) (fun _ _ _ h => h) (Or.inr ⟨by rfl, rfl⟩) (by assumption) ?_)
    try simp only [Act.put, List.getElem_toArray, List.getElem_cons_zero, List.getElem_cons_succ, List.setIfInBounds_toArray, List.set_cons_zero, List.set_cons_succ]
    first | (refine wpAnyH_take (i := 4) (v := ?_) rfl (by kernel_rfl) (by kernel_rfl) (by kernel_rfl) (fun _ _ _ h => h) (Or.inl ⟨by rfl, ?_⟩) (by assumption) ?_; rotate_left 1; (focus (intro w hSw; (try dsimp only at hSw); go_simp; try (with_reducible rfl)))) | (refine wpAnyH_take (i := 4) (v := undef) rfl (by kernel_rfl) (by kernel_rfl) (by kernel_rfl) (fun _ _ _ h => h) (Or.inr ⟨by rfl, rfl⟩) (by assumption) ?_)
    try simp only [Act.put, List.getElem_toArray, List.getElem_cons_zero, List.getElem_cons_succ, List.setIfInBounds_toArray, List.set_cons_zero, List.set_cons_succ]
    refine wpAnyH_ready (rs := [2]) (by kernel_rfl) (by simp) ?_
    refine AllReadyH.cons rfl (fun K hK => ?_) AllReadyH.nil
    go_simp
    go_at_call 106; refine (KS _ hHeld.2).mono ?_; rintro e w2 ⟨rfl, hz⟩
    refine hK.out _ _ ?_ (fun hHeld => ?_)
    · exact ⟨⟨hz.cell hHeld.1.1, hz.cell hHeld.1.2.1, hz.cell hHeld.1.2.2⟩, hHeld.2.trans hz⟩
    clear hK K
    try simp only [Act.put, List.getElem_toArray, List.getElem_cons_zero, List.getElem_cons_succ, List.setIfInBounds_toArray, List.set_cons_zero, List.set_cons_succ]
    refine wpAnyH_ready (rs := [5]) (by kernel_rfl) (by simp) ?_
    refine AllReadyH.cons rfl (fun K hK => ?_) AllReadyH.nil
    go_simp
    go_at_call 70; refine (KW _ hHeld.2).mono ?_; rintro e w3 ⟨rfl, hz⟩
    refine hK.out _ _ ?_ (fun hHeld => ?_)
    · exact ⟨⟨hz.cell hHeld.1.1, hz.cell hHeld.1.2.1, hz.cell hHeld.1.2.2⟩, hHeld.2.trans hz⟩
    clear hK K
    try simp only [Act.put, List.getElem_toArray, List.getElem_cons_zero, List.getElem_cons_succ, List.setIfInBounds_toArray, List.set_cons_zero, List.set_cons_succ]
    first | (refine wpAnyH_take (i := 6) (v := ?_) rfl (by kernel_rfl) (by kernel_rfl) (by kernel_rfl) (fun _ _ _ h => h) (Or.inl ⟨by rfl, ?_⟩) (by assumption) ?_; rotate_left 1; (focus (intro w hSw; (try dsimp only at hSw); go_simp; try (with_reducible rfl)))) | (refine wpAnyH_take (i := 6) (v := undef) rfl (by kernel_rfl) (by kernel_rfl) (by kernel_rfl) (fun _ _ _ h => h) (Or.inr ⟨by rfl, rfl⟩) (by assumption) ?_)
    try simp only [Act.put, List.getElem_toArray, List.getElem_cons_zero, List.getElem_cons_succ, List.setIfInBounds_toArray, List.set_cons_zero, List.set_cons_succ]
    first | (refine wpAnyH_take (i := 7) (v := ?_) rfl (by kernel_rfl) (by kernel_rfl) (by kernel_rfl) (fun _ _ _ h => h) (Or.inl ⟨by rfl, ?_⟩) (by assumption) ?_; rotate_left 1; (focus (intro w hSw; (try dsimp only at hSw); go_simp; try (with_reducible rfl)))) | (refine wpAnyH_take (i := 7) (v := undef) rfl (by kernel_rfl) (by kernel_rfl) (by kernel_rfl) (fun _ _ _ h => h) (Or.inr ⟨by rfl, rfl⟩) (by assumption) ?_)
    try simp only [Act.put, List.getElem_toArray, List.getElem_cons_zero, List.getElem_cons_succ, List.setIfInBounds_toArray, List.set_cons_zero, List.set_cons_succ]
    first | (refine wpAnyH_take (i := 8) (v := ?_) rfl (by kernel_rfl) (by kernel_rfl) (by kernel_rfl) (fun _ _ _ h => h) (Or.inl ⟨by rfl, ?_⟩) (by assumption) ?_; rotate_left 1; (focus (intro w hSw; (try dsimp only at hSw); go_simp; try (with_reducible rfl)))) | (refine wpAnyH_take (i := 8) (v := undef) rfl (by kernel_rfl) (by kernel_rfl) (by kernel_rfl) (fun _ _ _ h => h) (Or.inr ⟨by rfl, rfl⟩) (by assumption) ?_)
    try simp only [Act.put, List.getElem_toArray, List.getElem_cons_zero, List.getElem_cons_succ, List.setIfInBounds_toArray, List.set_cons_zero, List.set_cons_succ]
    refine wpAnyH_ready (rs := [9]) (by kernel_rfl) (by simp) ?_
    refine AllReadyH.cons rfl (fun K hK => ?_) AllReadyH.nil
    go_simp
    go_at_call 82; refine (KO _ hHeld.2).mono ?_; rintro e w4 ⟨rfl, hz⟩
    refine hK.out _ _ ?_ (fun hHeld => ?_)
    · exact ⟨⟨hz.cell hHeld.1.1, hz.cell hHeld.1.2.1, hz.cell hHeld.1.2.2⟩, hHeld.2.trans hz⟩
    clear hK K
    try simp only [Act.put, List.getElem_toArray, List.getElem_cons_zero, List.getElem_cons_succ, List.setIfInBounds_toArray, List.set_cons_zero, List.set_cons_succ]
    first | (refine wpAnyH_take (i := 10) (v := ?_) rfl (by kernel_rfl) (by kernel_rfl) (by kernel_rfl) (fun _ _ _ h => h) (Or.inl ⟨by rfl, ?_⟩) (by assumption) ?_; rotate_left 1; (focus (intro w hSw; (try dsimp only at hSw); go_simp; try (with_reducible rfl)))) | (refine wpAnyH_take (i := 10) (v := undef) rfl (by kernel_rfl) (by kernel_rfl) (by kernel_rfl) (fun _ _ _ h => h) (Or.inr ⟨by rfl, rfl⟩) (by assumption) ?_)
    try simp only [Act.put, List.getElem_toArray, List.getElem_cons_zero, List.getElem_cons_succ, List.setIfInBounds_toArray, List.set_cons_zero, List.set_cons_succ]
    first | (refine wpAnyH_take (i := 11) (v := ?_) rfl (by kernel_rfl) (by kernel_rfl) (by kernel_rfl) (fun _ _ _ h => h) (Or.inl ⟨by rfl, ?_⟩) (by assumption) ?_; rotate_left 1; (focus (intro w hSw; (try dsimp only at hSw); go_simp; try (with_reducible rfl)))) | (refine wpAnyH_take (i := 11) (v := undef) rfl (by kernel_rfl) (by kernel_rfl) (by kernel_rfl) (fun _ _ _ h => h) (Or.inr ⟨by rfl, rfl⟩) (by assumption) ?_)
    try simp only [Act.put, List.getElem_toArray, List.getElem_cons_zero, List.getElem_cons_succ, List.setIfInBounds_toArray, List.set_cons_zero, List.set_cons_succ]
    first | (refine wpAnyH_take (i := 12) (v := ?_) rfl (by kernel_rfl) (by kernel_rfl) (by kernel_rfl) (fun _ _ _ h => h) (Or.inl ⟨by rfl, ?_⟩) (by assumption) ?_; rotate_left 1; (focus (intro w hSw; (try dsimp only at hSw); go_simp; try (with_reducible rfl)))) | (refine wpAnyH_take (i := 12) (v := undef) rfl (by kernel_rfl) (by kernel_rfl) (by kernel_rfl) (fun _ _ _ h => h) (Or.inr ⟨by rfl, rfl⟩) (by assumption) ?_)
    try simp only [Act.put, List.getElem_toArray, List.getElem_cons_zero, List.getElem_cons_succ, List.setIfInBounds_toArray, List.set_cons_zero, List.set_cons_succ]
    refine wpAnyH_done (by kernel_rfl) ?_ _
    go_wp2
    go_ret
    exact ⟨ret_bool (by rw [HF.out, HQ.out, Bool.true_and]), hHeld.2⟩
end Go.Proofs.Ythopgonbndoidaa
namespace Go.Proofs.Ythopgonbndoidaa
open Go.RowKit Go.Shelf

set_option maxRecDepth 100000 in
set_option maxHeartbeats 4000000 in
theorem Fair_any (a b v : Value) (T : Tr) (l : List Int) (w : World) (hT : TrAt w a b T) (hl : IntsAt w v l) (hn : l.length ≤ 100000) :
    Calls Try.prog 23 #[.agg #[a, b], v] w fun e w' => e = .returned (.tuple #[.bool (if penE T l = 0 then faiB T l else false), .int .i64 (penE T l)]) ∧ Ext w w' := by
  obtain ⟨E, hE⟩ : ∃ E, penE T l = E := ⟨_, rfl⟩
  have hok : E = 0 → Ok T ∧ l.length = T.ps.length ∧ ∀ n ∈ l, 0 ≤ n ∧ n ≤ 1073741824 := fun h => penE_ok (hE.trans h)
  obtain ⟨F, hF⟩ : ∃ F, faiB T l = F := ⟨_, rfl⟩
  obtain ⟨X, hX⟩ : ∃ X, (if E = 0 then F else false) = X := ⟨_, rfl⟩
  rw [hE, hF, hX]
  have HE := Lib.hid hE
  have HF := Lib.hid hF
  have HX := Lib.hid hX
  have HOK := Lib.hid hok
  clear hE hF hX hok
  go_enter Try.func23, Try.ntmps23
  go_wp2_with fail
  refine (sums_any a b v T l _ (hT.ext (by repeat (first | exact Ext.refl _ | assumption | refine Ext.alloc ?_ _ | refine Ext.drew ?_ | refine Ext.drewN _ ?_ | refine Ext.trans ?_ (by assumption)))) (hl.ext (by repeat (first | exact Ext.refl _ | assumption | refine Ext.alloc ?_ _ | refine Ext.drew ?_ | refine Ext.drewN _ ?_ | refine Ext.trans ?_ (by assumption)))) hn).mono ?_
  rw [HE.out]
  rintro e w1 ⟨rfl, hx1⟩
  obtain ⟨q0, hx, hzz⟩ := alloc1 hx1
  have d0 : w1.cell? ⟨w.heap.size, 0, none⟩ = some a := q0.cell 0
  have d1 : w1.cell? ⟨w.heap.size, 1, none⟩ = some b := q0.cell 1
  clear hx1
  by_cases h0 : E = 0
  · have hb : (E != 0) = false := by simpa using h0
    have hx2 := HX.out
    rw [if_pos h0] at hx2
    have HX2 := Lib.hid hx2
    have HE0 := Lib.hid h0
    obtain ⟨hk, hlen, hbb⟩ := HOK.out h0
    have K := fair_any a b v T hk l _ (hT.ext hx) (hl.ext hx) hlen hbb
    rw [HF.out] at K
    have HK := Lib.hid K
    clear hx2 h0 K hlen hbb
    obtain ⟨aa, ca, rfl, _⟩ := hT.r.len
    obtain ⟨ab, cb, rfl, _⟩ := hT.p.len
    obtain ⟨av, cv, rfl, _⟩ := hl.len
    go_wp2_with (refine wpList_build rfl _ _ rfl (by rfl) ?_)
    refine HK.out.mono ?_
    rintro e w2 ⟨rfl, hy⟩
    go_wp2_with fail
    go_ret2
    exact ⟨ret2 (by rw [← HX2.out]; rfl) (by rw [HE0.out]; rfl), hx.trans hy⟩
  · have hb : (E != 0) = true := by simpa using h0
    have hx2 := HX.out
    rw [if_neg h0] at hx2
    have HX2 := Lib.hid hx2
    clear hx2 h0
    go_wp2_with fail
    go_ret2
    exact ⟨ret2 (by rw [← HX2.out]; rfl) rfl, hx⟩
end Go.Proofs.Ythopgonbndoidaa
