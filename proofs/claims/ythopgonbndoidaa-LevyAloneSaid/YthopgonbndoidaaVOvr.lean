/- over of the program: by how much a group pays too much at most. -/
import Derived.Test.YthopgonbndoidaaVObj
namespace Go.Proofs.Ythopgonbndoidaa
open Go.RowKit Go.Shelf

theorem bk_snoc_bd {rs : List Rc} (hV : RsV rs) (hl : rs.length ≤ 24) {f : Nat → Int} (h : ∀ r, 0 ≤ f r ∧ f r ≤ 25769803776) (pre : List Nat) :
    pre <+: bk rs.length → ∀ r, 0 ≤ (obF rs f pre).2 r ∧ (obF rs f pre).2 r ≤ 25769803776 * 2 ^ (24 - r) := by
  induction pre using snoc_ind with
  | h0 => intro _ r; have : (0 : Int) ≤ 2 ^ (24 - r) := by exact_mod_cast Nat.zero_le _
          simp [obF]; omega
  | h1 pre x ih =>
    intro hp r
    have hp0 : pre <+: bk rs.length := (List.prefix_append pre [x]).trans hp
    have i := ih hp0 r
    have hn := bk_next hp
    have ho := obF_bd hV (M := 25769803776) (by omega) h pre x
    have hc := cst_bd hV x
    rw [obF_snoc]
    show 0 ≤ (if r = x then obO rs (obF rs f pre).1 x else (obF rs f pre).2 r) ∧ (if r = x then obO rs (obF rs f pre).1 x else (obF rs f pre).2 r) ≤ 25769803776 * 2 ^ (24 - r)
    by_cases hr : r = x
    · subst hr
      rw [if_pos rfl]
      have hw : (2 : Int) ^ pre.length ≤ 2 ^ (24 - r) := by exact_mod_cast Nat.pow_le_pow_right (by omega) (by omega)
      have h1 := ho.1
      unfold obO
      omega
    · rw [if_neg hr]; exact i
/-- what the groups at the heads pay too much -/
def ovS (rs : List Rc) (o : Nat → Int) : Nat → Int
  | 0 => 0
  | k + 1 => ovS rs o k + (if k < rs.length ∧ abv rs k < 0 then o k else 0)
def ovX (T : Tr) (l : List Int) : Int := ovS T.rs (objX T l) 24
theorem ovS_bd {rs : List Rc} {o : Nat → Int} (h : ∀ r, 0 ≤ o r ∧ o r ≤ 25769803776 * 2 ^ (24 - r)) : ∀ k, k ≤ 24 → 0 ≤ ovS rs o k ∧ ovS rs o k ≤ 864691128455135232 - 25769803776 * 2 ^ (25 - k) := by
  intro k
  induction k with
  | zero => intro _; simp [ovS]
  | succ k ih =>
    intro hk
    have i := ih (by omega)
    have j := h k
    have e : (2 : Int) ^ (25 - k) = 2 * 2 ^ (24 - k) := by rw [show 25 - k = (24 - k) + 1 by omega, Int.pow_succ]; omega
    have e2 : 25 - (k + 1) = 24 - k := by omega
    rw [ovS, e2]
    rw [e] at i
    obtain ⟨p, hp⟩ : ∃ p : Int, 2 ^ (24 - k) = p := ⟨_, rfl⟩
    rw [hp] at i j ⊢
    split <;> omega
theorem objX_bd {T : Tr} (hok : Ok T) {l : List Int} (hb : ∀ n ∈ l, 0 ≤ n ∧ n ≤ 1073741824) : ∀ r, 0 ≤ objX T l r ∧ objX T l r ≤ 25769803776 * 2 ^ (24 - r) := by
  have h1 := fun r => atP_bd (T.ps.zip l) (fun q hq => hb q.2 (List.of_mem_zip hq).2) r
  have h2 : (T.ps.zip l).length ≤ 24 := by have := hok.lp; simp; omega
  exact bk_snoc_bd hok.rv hok.lr (fun r => by have := h1 r; omega) _ (List.prefix_refl _)
theorem ovX_bd {T : Tr} (hok : Ok T) {l : List Int} (hb : ∀ n ∈ l, 0 ≤ n ∧ n ≤ 1073741824) : 0 ≤ ovX T l ∧ ovX T l ≤ 864691128455135232 := by
  have := ovS_bd (rs := T.rs) (objX_bd hok hb) 24 (Nat.le_refl _)
  simp at this
  unfold ovX
  omega

theorem index_arr (o : Nat → Int) {k : Nat} (hk : k < 24) (w : World) : (Instr.index 107 (.agg (arr o)) (.int .i64 k)).run Try.prog w = .ok (.int .i64 (o k)) w := by
  have h1 : (0:Int) ≤ k ∧ (k:Int) < 24 := by omega
  have h2 := arr_get o hk
  simp [Instr.index, asIntOf, run_underlying Try.underlying107, h1, hk, go_sem, part, sizeOf]
  rw [show k * Try.t3.size = k from Nat.mul_one k, h2]
  rfl
theorem wpList_indexC {ops : Array Oper} {rest : List Oper} {op : Oper} {a : Act} {w : World} {Q : Exit → Act → World → Prop} (hgd : op.guard = none) (x y : Operand) (ho : op.op = .index 107 x y)
    (f : Nat → Int) (k : Nat) (v : Int) (hx : a.eval x = .agg (arr f)) (hy : a.eval y = .int .i64 k) (hk : k < 24) (hv : f k = v)
    (h : wpList Try.prog ops Q rest (a.put op.dst (.int .i64 v)) w) : wpList Try.prog ops Q (op :: rest) a w := by
  refine wpList_plain hgd fun K' hK' => ?_
  unfold Oper.wp execOp
  simp only [ho, hx, hy, Sem.run_bind, index_arr f hk, hv, Sem.run_pure, Result.andThen_ok]
  exact hK' _ _ h
set_option maxRecDepth 100000 in
set_option maxHeartbeats 4000000 in
theorem over_any (a b v : Value) (T : Tr) (hok : Ok T) (l : List Int) (w : World) (hT : TrAt w a b T) (hl : IntsAt w v l) (hlen : l.length = T.ps.length) (hb : ∀ n ∈ l, 0 ≤ n ∧ n ≤ 1073741824) :
    Calls Try.prog 82 #[.agg #[a, b, v]] w fun e w' => e = .returned (.int .i64 (ovX T l)) ∧ Ext w w' := by
  obtain ⟨OX, hOX⟩ : ∃ OX, ovX T l = OX := ⟨_, rfl⟩
  have HOX := Lib.hid hOX
  rw [hOX]
  clear hOX
  obtain ⟨ar, cr, rfl, hlr⟩ := hT.r.len
  have hx : Ext w (w.alloc (.cells #[.slice ar T.rs.length cr, b, v] 114)) := (by repeat (first | exact Ext.refl _ | assumption | refine Ext.alloc ?_ _ | refine Ext.drew ?_ | refine Ext.drewN _ ?_ | refine Ext.trans ?_ (by assumption)))
  have K := objects_any (.slice ar T.rs.length cr) b v T hok l _ (hT.ext hx) (hl.ext hx) hlen hb
  have hbd := objX_bd hok hb
  obtain ⟨o, ho⟩ : ∃ o, objX T l = o := ⟨_, rfl⟩
  have hov : ovS T.rs o 24 = OX := by rw [← ho]; exact HOX.out
  rw [ho] at K hbd
  have HOV := Lib.hid hov
  have HBD := Lib.hid hbd
  have hlrs := hok.lr
  clear ho hov hbd hb hlen
  go_enter Try.func82, Try.ntmps82
  go_wp2_with fail
  refine K.mono ?_
  rintro e w1 ⟨rfl, hz⟩
  obtain ⟨q0, hx1, hs1⟩ := alloc1 hz
  clear hz hx K
  go_wp2_with fail
  go_loopw [3, 8] (fun s i wr => ∃ k : Nat, k ≤ 24 ∧ i = .int .i64 k ∧ s = .int .i64 (ovS T.rs o k) ∧ wr = w1) (fun _ i _ => 24 - (intOf i).toNat)
  case atStart => exact ⟨0, Nat.zero_le _, rfl, rfl, rfl⟩
  case round =>
    obtain ⟨k, hk, rfl, rfl, rfl⟩ := hrel
    by_cases hlt : k < 24
    · have hg := arr_get o hlt
      have hki : (k : Int) < 24 := by omega
      have hsb := ovS_bd (rs := T.rs) HBD.out k (by omega)
      have hsb2 := ovS_bd (rs := T.rs) HBD.out (k + 1) (by omega)
      have hpw : (0 : Int) ≤ 2 ^ (25 - k) := by exact_mod_cast Nat.zero_le _
      have hpw2 : (0 : Int) ≤ 2 ^ (25 - (k + 1)) := by exact_mod_cast Nat.zero_le _
      have d0 : wr.cell? ⟨w.heap.size, 0, none⟩ = some (.slice ar T.rs.length cr) := q0.cell 0
      have hst : ovS T.rs o (k + 1) = ovS T.rs o k + (if k < T.rs.length ∧ abv T.rs k < 0 then o k else 0) := rfl
      obtain ⟨s, hs⟩ : ∃ s, ovS T.rs o k = s := ⟨_, rfl⟩
      obtain ⟨t, ht⟩ : ∃ t, ovS T.rs o (k + 1) = t := ⟨_, rfl⟩
      obtain ⟨ok, hok2⟩ : ∃ ok, o k = ok := ⟨_, rfl⟩
      rw [hs] at hsb hst ⊢
      rw [ht] at hsb2 hst
      rw [hok2] at hst
      have HT := Lib.hid ht
      have HOK2 := Lib.hid hok2
      clear hg
      by_cases hr : k < T.rs.length
      · obtain ⟨bb, oo, rfl, c0, c1⟩ := (hT.ext hx1).r.get k hr
        rw [← abv_get hr] at c0
        obtain ⟨ab, hab⟩ : ∃ ab, abv T.rs k = ab := ⟨_, rfl⟩
        rw [hab] at c0 hst
        have hri : (k : Int) < T.rs.length := by omega
        by_cases ha : ab < 0
        · rw [if_pos ⟨hr, ha⟩] at hst
          have hw : IntKind.i64.wrap (s + ok) = s + ok := IntWalk.i64_in _ (by omega)
          have HST := Lib.hid hst
          clear hst hs ht hok2 hab hsb hsb2 hpw hpw2
          go_upto_region 5 with (refine wpList_indexC rfl _ _ rfl o k _ rfl rfl hlt HOK2.out ?_)
          clear HOK2
          go_wp2
          go_roundw
          case rel => exact ⟨k + 1, by omega, by go_num, by rw [HT.out, HST.out], trivial⟩
          case measure => simp [intOf]; omega
        · rw [if_neg (fun h => ha h.2), Int.add_zero] at hst
          have HST := Lib.hid hst
          clear hst hs ht hok2 hab hsb hsb2 hpw hpw2
          go_upto_region 5 with (refine wpList_indexC rfl _ _ rfl o k _ rfl rfl hlt HOK2.out ?_)
          clear HOK2
          go_wp2
          go_roundw
          case rel => exact ⟨k + 1, by omega, by go_num, by rw [HT.out, HST.out], trivial⟩
          case measure => simp [intOf]; omega
      · rw [if_neg (fun h => hr h.1), Int.add_zero] at hst
        have hri : ¬ (k : Int) < T.rs.length := by omega
        have HST := Lib.hid hst
        clear hst hs ht hok2 hsb hsb2 hpw hpw2
        go_upto_region 5 with (refine wpList_indexC rfl _ _ rfl o k _ rfl rfl hlt HOK2.out ?_)
        clear HOK2
        go_wp2
        go_roundw
        case rel => exact ⟨k + 1, by omega, by go_num, by rw [HT.out, HST.out], trivial⟩
        case measure => simp [intOf]; omega
    · obtain rfl : k = 24 := by omega
      rw [HOV.out]
      go_wp2
      go_ret
      exact ⟨rfl, hx1⟩
end Go.Proofs.Ythopgonbndoidaa
