/- excess and objection of the specification. -/
import Derived.Test.YthopgonbndoidaaGreatVObP
import Derived.Test.YthopgonbndoidaaGreatVRSh
import Derived.StillTailTactics
import Derived.Lib.BufferWrite
namespace Go.Proofs.YthopgonbndoidaaGreat
open Go.RowKit Go.Shelf Go.Lib

theorem atP_take {z : List (Py × Int)} {j r : Nat} (h : j < z.length) : atP (z.take (j + 1)) r = if r = z[j].1.reach.toNat then atP (z.take j) r + z[j].2 else atP (z.take j) r := by
  rw [take_succ_get z j h, atP_snoc]; rfl
theorem atP_take_bd {T : Tr} {l : List Int} (hb : ∀ n ∈ l, 0 ≤ n ∧ n ≤ 1073741824) (hl : l.length ≤ 24) (j r : Nat) : 0 ≤ atP ((T.ps.zip l).take j) r ∧ atP ((T.ps.zip l).take j) r ≤ 25769803776 := by
  have h := atP_bd ((T.ps.zip l).take j) (fun q hq => hb _ (List.of_mem_zip (show (q.1, q.2) ∈ T.ps.zip l from List.mem_of_mem_take hq)).2) r
  have hlen : ((T.ps.zip l).take j).length ≤ 24 := by simp; omega
  have : (((T.ps.zip l).take j).length : Int) * 1073741824 ≤ 24 * 1073741824 := Int.mul_le_mul_of_nonneg_right (by omega) (by decide)
  omega
theorem chS_bd' {T : Tr} (hok : Ok T) {l : List Int} (hb : ∀ n ∈ l, 0 ≤ n ∧ n ≤ 1073741824) (r j : Nat) (h : j ≤ T.rs.length) : 0 ≤ chS T.rs (objX T l) r j ∧ chS T.rs (objX T l) r j ≤ 864691128455135232 := by
  have h1 := chS_bd hok hb r j h
  have h2 : (0 : Int) ≤ 2 ^ (25 - j) := Int.pow_nonneg (by decide)
  generalize (2 : Int) ^ (25 - j) = q at *
  omega
theorem two_pow_le (n : Nat) : ∀ d : Nat, (2 : Int) ^ n ≤ 2 ^ (n + d)
  | 0 => Int.le_refl _
  | d + 1 => by
    have ih := two_pow_le n d
    have h0 : (0 : Int) ≤ 2 ^ (n + d) := Int.pow_nonneg (by decide)
    rw [← Nat.add_assoc, Int.pow_succ]
    generalize (2 : Int) ^ (n + d) = q at *
    omega
theorem objX_bd' {T : Tr} (hok : Ok T) {l : List Int} (hb : ∀ n ∈ l, 0 ≤ n ∧ n ≤ 1073741824) (r : Nat) : 0 ≤ objX T l r ∧ objX T l r ≤ 432345564227567616 := by
  have h1 := objX_bd hok hb r
  have h2 : (2 : Int) ^ (24 - r) ≤ 2 ^ 24 := by
    have := two_pow_le (24 - r) (24 - (24 - r))
    rwa [show 24 - r + (24 - (24 - r)) = 24 by omega] at this
  generalize (2 : Int) ^ (24 - r) = q at *
  omega
theorem ovS_bd' {T : Tr} (hok : Ok T) {l : List Int} (hb : ∀ n ∈ l, 0 ≤ n ∧ n ≤ 1073741824) (k : Nat) (h : k ≤ 24) : 0 ≤ ovS T.rs (objX T l) k ∧ ovS T.rs (objX T l) k ≤ 864691128455135232 := by
  have h1 := ovS_bd (rs := T.rs) (objX_bd hok hb) k h
  have h2 : (0 : Int) ≤ 2 ^ (25 - k) := Int.pow_nonneg (by decide)
  generalize (2 : Int) ^ (25 - k) = q at *
  omega

set_option maxRecDepth 100000 in
set_option maxHeartbeats 8000000 in
theorem refExcess_any (a b v : Value) (T : Tr) (hok : Ok T) (l : List Int) (hlen : l.length = T.ps.length) (hb : ∀ n ∈ l, 0 ≤ n ∧ n ≤ 1073741824) : ∀ (d r : Nat) (w : World), r < T.rs.length → T.rs.length - r ≤ d → TrAt w a b T → IntsAt w v l →
    Calls Tryz.prog 102 #[.agg #[a, b], v, .int .i64 r] w fun e w' => e = .returned (.int .i64 (exX T l r)) ∧ Ext w w' := by
  intro d
  induction d with
  | zero => intro r w h1 h2; omega
  | succ d ih =>
    intro r w hr hd hT hl
    obtain ⟨aa, ca, rfl, hla⟩ := hT.r.len
    obtain ⟨ab, cb, rfl, hlb⟩ := hT.p.len
    obtain ⟨av, cv, rfl, hlv⟩ := hl.len
    have hlr := hok.lr
    have hlp := hok.lp
    have hzl : (T.ps.zip l).length = l.length := by simp; omega
    have hE : exX T l r = atP (T.ps.zip l) r + chS T.rs (objX T l) r T.rs.length - cst T.rs r := rfl
    obtain ⟨X, hX⟩ : ∃ X, exX T l r = X := ⟨_, rfl⟩
    rw [hX] at hE ⊢
    have HE := Lib.hid hE
    obtain ⟨br, or', rfl, r0, r1⟩ := hT.r.get r hr
    rw [← cst_get hr] at r1
    have hcb := cst_bd hok.rv r
    obtain ⟨c, hc⟩ : ∃ c, cst T.rs r = c := ⟨_, rfl⟩
    rw [hc] at r1 hcb HE
    have hw0 : IntKind.i64.wrap (0 - c) = -c := by rw [Int.zero_sub]; exact IntWalk.i64_in _ (by omega)
    have hw00 : IntKind.i64.wrap (-c) = -c := IntWalk.i64_in _ (by omega)
    have hri : (r : Int) < (T.rs.length : Int) := by omega
    have HLEN := Lib.hid hlen
    have HZL := Lib.hid hzl
    have HB := Lib.hid hb
    have HIH := Lib.hid ih
    clear hE hX hc hlen hzl hb ih r0
    go_enter Tryz.func102, Tryz.ntmps102
    go_upto_region 1 with fail
    obtain ⟨W1, hW1⟩ : ∃ W1, w.alloc (.cells #[.slice (some ⟨br, or', none⟩) T.rs.length ca, .slice ab T.ps.length cb] 25) = W1 := ⟨_, rfl⟩
    have hx1 : Ext w W1 := by rw [← hW1]; exact (by repeat (first | exact Ext.refl _ | assumption | refine Ext.alloc ?_ _ | refine Ext.drew ?_ | refine Ext.drewN _ ?_ | refine Ext.trans ?_ (by assumption)))
    have q1 : Cls w.heap.size 25 #[.slice (some ⟨br, or', none⟩) T.rs.length ca, .slice ab T.ps.length cb] W1 := by rw [← hW1]; exact Cls.new _ _ _
    try rw [hW1]
    clear hW1
    have d0 := q1.cell 0
    have d1 := q1.cell 1
    replace r1 := hx1.cell r1
    go_wp2_with fail
    clear d0 d1 r1
    go_loopw [7, 8] (fun s i wr => ∃ j : Nat, j ≤ l.length ∧ i = .int .i64 j ∧ s = .int .i64 (atP ((T.ps.zip l).take j) r - c) ∧ Cls w.heap.size 25 #[.slice (some ⟨br, or', none⟩) T.rs.length ca, .slice ab T.ps.length cb] wr ∧ Ext w wr) (fun _ i _ => l.length - (intOf i).toNat)
    case atStart => exact ⟨0, Nat.zero_le _, rfl, vint (by show -c = (0 : Int) - c; omega), q1, hx1⟩
    case round =>
      clear q1 hx1
      obtain ⟨j, hj, rfl, rfl, q, hx⟩ := hrel
      have d0 := q.cell 0
      have d1 := q.cell 1
      by_cases hlt : j < l.length
      · have hjp : j < T.ps.length := by have := HLEN.out; omega
        have hst := atP_take (z := T.ps.zip l) (j := j) (r := r) (by have := HZL.out; omega)
        rw [List.getElem_zip] at hst
        simp only at hst
        have hb1 := atP_take_bd (T := T) HB.out (by have := HLEN.out; omega) j r
        have hb2 := atP_take_bd (T := T) HB.out (by have := HLEN.out; omega) (j + 1) r
        obtain ⟨bb, oo, rfl, c0, c1, c2⟩ := (hT.p.ext hx).get j hjp
        obtain ⟨bv, ov, rfl, e0⟩ := (hl.ext hx).get j hlt
        have hpv := (hok.pv _ (List.getElem_mem hjp)).2.1
        obtain ⟨y, hyy⟩ : ∃ x, T.ps[j].reach = x := ⟨_, rfl⟩
        obtain ⟨x, hxx⟩ : ∃ x, l[j] = x := ⟨_, rfl⟩
        rw [hyy] at c1 hst hpv
        rw [hxx] at e0 hst
        obtain ⟨S, hS⟩ : ∃ x, atP ((T.ps.zip l).take j) r = x := ⟨_, rfl⟩
        rw [hS] at hst hb1 ⊢
        have hjpi : (j : Int) < (T.ps.length : Int) := by omega
        have hjli : (j : Int) < (l.length : Int) := by omega
        by_cases hyr : y = (r : Int)
        · rw [if_pos (by omega)] at hst
          rw [hst] at hb2
          have HST := Lib.hid hst
          have hw1 : IntKind.i64.wrap (S - c + x) = S - c + x := IntWalk.i64_in _ (by omega)
          have hbq : (y == (r : Int)) = true := by simpa using hyr
          subst hyr
          clear hst hb1 hb2 hyy hxx hS hpv hbq
          go_wp2_with fail
          go_roundw
          case rel => exact ⟨j + 1, by omega, by go_num, vint (by rw [HST.out]; omega), q, hx⟩
          case measure => simp [intOf]; omega
        · rw [if_neg (by omega)] at hst
          have HST := Lib.hid hst
          have hbq : (y == (r : Int)) = false := by simpa using hyr
          clear hst hb1 hb2 hyy hxx hS hpv
          go_wp2_with fail
          go_roundw
          case rel => exact ⟨j + 1, by omega, by go_num, vint (by rw [HST.out]), q, hx⟩
          case measure => simp [intOf]; omega
      · obtain rfl : j = l.length := by omega
        rw [List.take_of_length_le (by rw [HZL.out]; omega)]
        have hb1 := atP_take_bd (T := T) HB.out (by have := HLEN.out; omega) l.length r
        rw [List.take_of_length_le (by rw [HZL.out]; omega)] at hb1
        obtain ⟨A, hA⟩ : ∃ x, atP (T.ps.zip l) r = x := ⟨_, rfl⟩
        rw [hA] at hb1 HE ⊢
        have hwr : IntKind.i64.wrap ((r : Int) + 1) = (r : Int) + 1 := IntWalk.i64_in _ (by omega)
        clear hA
        go_upto_region 8 with fail
        clear d0 d1
        obtain ⟨wo, hwo⟩ : ∃ wo, wr = wo := ⟨_, rfl⟩
        subst hwo
        go_loopw [7, 9] (fun s i wr => ∃ k : Nat, r + 1 ≤ k ∧ k ≤ T.rs.length ∧ i = .int .i64 k ∧ s = .int .i64 (A + chS T.rs (objX T l) r k - c) ∧ Cls w.heap.size 25 #[.slice (some ⟨br, or', none⟩) T.rs.length ca, .slice ab T.ps.length cb] wr ∧ Ext w wr) (fun _ i _ => T.rs.length - (intOf i).toNat)
        case atStart => exact ⟨r + 1, Nat.le_refl _, by omega, by simp, vint (by rw [chS_low hok.rv _ _ (Nat.le_refl _) (by omega)]; omega), q, hx⟩
        case round =>
          clear q hx
          obtain ⟨k, hk1, hk, rfl, rfl, q, hx⟩ := hrel
          have d0 := q.cell 0
          have d1 := q.cell 1
          by_cases hlt : k < T.rs.length
          · have hki : (k : Int) < (T.rs.length : Int) := by omega
            have hst := chS_succ T.rs (objX T l) r k
            have hb2 := chS_bd' hok HB.out r k (by omega)
            have hb3 := chS_bd' hok HB.out r (k + 1) (by omega)
            obtain ⟨b2, o2, he2, k0, k1⟩ := (hT.r.ext hx).get k hlt
            simp only [Option.some.injEq, Addr.mk.injEq, and_true] at he2
            obtain ⟨rfl, rfl⟩ := he2
            rw [← abv_get hlt] at k0
            have hox := objX_ex hok l hlt
            have KI := fun W (h : Ext w W) => HIH.out k W hlt (by omega) (hT.ext h) (hl.ext h)
            obtain ⟨av', hav⟩ : ∃ x, abv T.rs k = x := ⟨_, rfl⟩
            rw [hav] at k0 hst
            obtain ⟨S, hS⟩ : ∃ x, chS T.rs (objX T l) r k = x := ⟨_, rfl⟩
            rw [hS] at hst hb2 ⊢
            obtain ⟨ex, hex⟩ : ∃ x, exX T l k = x := ⟨_, rfl⟩
            rw [hex] at hox KI
            obtain ⟨o, ho⟩ : ∃ x, objX T l k = x := ⟨_, rfl⟩
            rw [ho] at hox hst
            by_cases hq : av' = (r : Int)
            · rw [if_pos hq] at hst
              rw [hst] at hb3
              have hm1 : max 0 ex = o := hox.symm
              have hm2 : (if ex < 0 then 0 else ex) = o := by rw [hox]; split <;> omega
              have hw1 : IntKind.i64.wrap (A + S - c + o) = A + S - c + o := IntWalk.i64_in _ (by omega)
              have HST := Lib.hid hst
              subst hq
              clear hst hb2 hb3 hox hav hS hex ho
              go_wp2_with fail
              refine (KI _ hx).mono ?_
              rintro e w6 ⟨rfl, hz⟩
              clear KI d0 d1 k0 k1
              go_wp2_with fail
              all_goals
                go_roundw
                case rel => exact ⟨k + 1, by omega, by omega, by go_num, vint (by rw [HST.out]; omega), q.ext hz, hx.trans hz⟩
                case measure => simp [intOf]; omega
            · rw [if_neg hq] at hst
              have HST := Lib.hid hst
              have hbq : (av' == (r : Int)) = false := by simpa using hq
              clear hst hb2 hb3 hox hav hS hex ho KI
              go_wp2_with fail
              go_roundw
              case rel => exact ⟨k + 1, by omega, by omega, by go_num, vint (by rw [HST.out]; omega), q, hx⟩
              case measure => simp [intOf]; omega
          · obtain rfl : k = T.rs.length := by omega
            have he := HE.out
            obtain ⟨S, hS⟩ : ∃ x, chS T.rs (objX T l) r T.rs.length = x := ⟨_, rfl⟩
            rw [hS] at he ⊢
            have HF := Lib.hid he
            clear he hS
            go_wp2_with fail
            go_ret
            exact ⟨ret_int HF.out.symm, hx⟩


def ObjsPostR (w : World) (L : List Int) (n E : Int) (e : Ending) (w' : World) : Prop := ∃ v, e = .returned (.agg #[v, .int .i64 n, .int .i64 E]) ∧ RowI w.heap.size v L w' ∧ Ext w w'
def ObjsPost (w : World) (L : List Int) (n E : Int) (e : Ending) (w' : World) : Prop := ∃ v, e = .returned (.agg #[v, .int .i64 n, .int .i64 E]) ∧ IntsAt w' v L ∧ Ext w w'
theorem obj_ext {w W : World} (B : Nat) (hx : Ext w W) (hB : w.heap.size ≤ B) (v u t : Value) : Ext w (((W.setCell ⟨B, 0, none⟩ v).setCell ⟨B, 1, none⟩ u).setCell ⟨B, 2, none⟩ t) :=
  ((hx.setCell (p := ⟨B, 0, none⟩) hB _).setCell (p := ⟨B, 1, none⟩) hB _).setCell (p := ⟨B, 2, none⟩) hB _
theorem rowI_cell1 {n₀ B : Nat} {v : Value} {l : List Int} {W : World} (h : RowI n₀ v l W) (hB : B < n₀) (i : Nat) (x : Value) : RowI n₀ v l (W.setCell ⟨B, i, none⟩ x) :=
  rowI_kept h (grownBy_setCell _ _ _ _) (.inr (fun e => by have := (h.lt _ e).1; omega))
theorem zrB_app (o : Nat → Int) (l r : List Int) : zrB o (l ++ r) = (zrB o l || zrB o r) := by simp [zrB]

set_option maxRecDepth 100000 in
set_option maxHeartbeats 16000000 in
theorem refObjection0_any (a b v : Value) (T : Tr) (hok : Ok T) (l : List Int) (w : World) (hT : TrAt w a b T) (hl : IntsAt w v l) (hlen : l.length = T.ps.length) (hb : ∀ n ∈ l, 0 ≤ n ∧ n ≤ 1073741824) :
    Calls Tryz.prog 60 #[.agg #[a, b], v] w (ObjsPostR w (gpX T l) (ovX T l) 0) := by
  have KI0 := fun k (hk : k < T.rs.length) W (h : Ext w W) => refExcess_any a b v T hok l hlen hb (T.rs.length - k) k W hk (Nat.le_refl _) (hT.ext h) (hl.ext h)
  obtain ⟨aa, ca, rfl, hla⟩ := hT.r.len
  obtain ⟨ab, cb, rfl, hlb⟩ := hT.p.len
  obtain ⟨av, cv, rfl, hlv⟩ := hl.len
  have hlr := hok.lr
  have hlp := hok.lp
  rw [gpX_same, ovX_len hok]
  have hzl : (T.ps.zip l).length = l.length := by simp; omega
  have hov := ovS_bd' (T := T) hok hb T.rs.length hlr
  have HKI := Lib.hid KI0
  have HLEN := Lib.hid hlen
  have HZL := Lib.hid hzl
  have HB := Lib.hid hb
  obtain ⟨OV, hOV⟩ : ∃ x, ovS T.rs (objX T l) T.rs.length = x := ⟨_, rfl⟩
  obtain ⟨GP, hGP⟩ : ∃ x, gprL T (objX T l) (T.ps.zip l) = x := ⟨_, rfl⟩
  have HOV := Lib.hid hOV
  have HGP := Lib.hid hGP
  rw [hOV] at hov ⊢
  rw [hGP]
  clear KI0 hlen hzl hb hOV hGP
  go_enter Tryz.func60, Tryz.ntmps60
  go_upto_region 2 with fail
  obtain ⟨W1, hW1⟩ : ∃ W1, ((w.alloc (.cells #[.slice aa T.rs.length ca, .slice ab T.ps.length cb] 25)).alloc (.cells #[.slice none 0 0, .int .i64 0, .int .i64 0] 42)).alloc (.cells #[.slice none 0 0, .int .i64 0, .int .i64 0] 42) = W1 := ⟨_, rfl⟩
  obtain ⟨q0, q1, q2, hx, hsz0⟩ := alloc3 (w := w) (w1 := W1) (by rw [hW1]; exact Ext.refl _)
  try rw [hW1]
  clear hW1
  go_wp2_with fail
  go_loopw [6] (fun i wr => ∃ k : Nat, k ≤ T.rs.length ∧ i = .int .i64 k ∧ Cls w.heap.size 25 #[.slice aa T.rs.length ca, .slice ab T.ps.length cb] wr ∧ Cls (w.heap.size + 1) 42 #[.slice none 0 0, .int .i64 0, .int .i64 0] wr ∧ Cls (w.heap.size + 1 + 1) 42 #[.slice none 0 0, .int .i64 (ovS T.rs (objX T l) k), .int .i64 0] wr ∧ Ext w wr) (fun i _ => T.rs.length - (intOf i).toNat)
  case atStart => exact ⟨0, Nat.zero_le _, rfl, q0, q1, q2, hx⟩
  case round =>
    clear q0 q1 q2 hx
    obtain ⟨k, hk, rfl, q0, q1, q2, hx⟩ := hrel
    have d0 := q0.cell 0
    have d1 := q0.cell 1
    by_cases hlt : k < T.rs.length
    · have hki : (k : Int) < (T.rs.length : Int) := by omega
      have hst : ovS T.rs (objX T l) (k + 1) = ovS T.rs (objX T l) k + (if k < T.rs.length ∧ abv T.rs k < 0 then objX T l k else 0) := rfl
      have hb1 := ovS_bd' (T := T) hok HB.out k (by omega)
      have hb2 := ovS_bd' (T := T) hok HB.out (k + 1) (by omega)
      obtain ⟨br, or', rfl, k0, k1⟩ := (hT.r.ext hx).get k hlt
      rw [← abv_get hlt] at k0
      have hox := objX_ex hok l hlt
      have KI := HKI.out k hlt
      obtain ⟨ay, hay⟩ : ∃ x, abv T.rs k = x := ⟨_, rfl⟩
      rw [hay] at k0 hst
      obtain ⟨S, hS⟩ : ∃ x, ovS T.rs (objX T l) k = x := ⟨_, rfl⟩
      rw [hS] at hst hb1 q2
      obtain ⟨ex, hex⟩ : ∃ x, exX T l k = x := ⟨_, rfl⟩
      rw [hex] at hox KI
      obtain ⟨o, ho⟩ : ∃ x, objX T l k = x := ⟨_, rfl⟩
      rw [ho] at hox hst
      by_cases hq : ay < 0
      · rw [if_pos ⟨hlt, hq⟩] at hst
        rw [hst] at hb2
        have hm1 : max 0 ex = o := hox.symm
        have hm2 : (if ex < 0 then 0 else ex) = o := by rw [hox]; split <;> omega
        have hw1 : IntKind.i64.wrap (S + o) = S + o := IntWalk.i64_in _ (by omega)
        have HST := Lib.hid hst
        have hbq : decide (ay < 0) = true := decide_eq_true hq
        have g1 := q2.cell 1
        clear hst hb2 hb1 hox hay hS hex ho
        go_upto_region 6 with fail
        have hwr0 := q2.lt
        refine wp_region_last (z := 9) (S := fun W' => W'.cell? ⟨w.heap.size, 0, none⟩ = some (.slice (some ⟨br, or', none⟩) T.rs.length ca) ∧ W'.cell? ⟨w.heap.size, 1, none⟩ = some (.slice ab T.ps.length cb) ∧ W'.cell? ⟨w.heap.size + 1 + 1, 1, none⟩ = some (.int .i64 S) ∧ Ext w W') (by kernel_rfl) ?_ (fun hHeld => ?_)
        · exact ⟨d0, d1, g1, hx.drew⟩
        (refine wpAnyL_take (i := 0) (v := ?_) rfl (by kernel_rfl) (by kernel_rfl) (by kernel_rfl) (by kernel_rfl) (fun _ _ _ h => h) (Or.inl ⟨by rfl, ?_⟩) (by assumption) ?_; rotate_left 1; (focus (intro w hSw; (try dsimp only at hSw); go_simp; try (with_reducible rfl))))
        try simp only [Act.put, List.getElem_toArray, List.getElem_cons_zero, List.setIfInBounds_toArray, List.set_cons_zero, List.set_cons_succ]
        (refine wpAnyL_take (i := 1) (v := ?_) rfl (by kernel_rfl) (by kernel_rfl) (by kernel_rfl) (by kernel_rfl) (fun _ _ _ h => h) (Or.inl ⟨by rfl, ?_⟩) (by assumption) ?_; rotate_left 1; (focus (intro w hSw; (try dsimp only at hSw); go_simp; try (with_reducible rfl))))
        try simp only [Act.put, List.getElem_toArray, List.getElem_cons_zero, List.getElem_cons_succ, List.setIfInBounds_toArray, List.set_cons_zero, List.set_cons_succ]
        (refine wpAnyL_take (i := 2) (v := ?_) rfl (by kernel_rfl) (by kernel_rfl) (by kernel_rfl) (by kernel_rfl) (fun _ _ _ h => h) (Or.inl ⟨by rfl, ?_⟩) (by assumption) ?_; rotate_left 1; (focus (intro w hSw; (try dsimp only at hSw); go_simp; try (with_reducible rfl))))
        try simp only [Act.put, List.getElem_toArray, List.getElem_cons_zero, List.getElem_cons_succ, List.setIfInBounds_toArray, List.set_cons_zero, List.set_cons_succ]
        (refine wpAnyL_take (i := 3) (v := ?_) rfl (by kernel_rfl) (by kernel_rfl) (by kernel_rfl) (by kernel_rfl) (fun _ _ _ h => h) (Or.inl ⟨by rfl, ?_⟩) (by assumption) ?_; rotate_left 1; (focus (intro w hSw; (try dsimp only at hSw); go_simp; try (with_reducible rfl))))
        try simp only [Act.put, List.getElem_toArray, List.getElem_cons_zero, List.getElem_cons_succ, List.setIfInBounds_toArray, List.set_cons_zero, List.set_cons_succ]
        (refine wpAnyL_take (i := 4) (v := ?_) rfl (by kernel_rfl) (by kernel_rfl) (by kernel_rfl) (by kernel_rfl) (fun _ _ _ h => h) (Or.inl ⟨by rfl, ?_⟩) (by assumption) ?_; rotate_left 1; (focus (intro w hSw; (try dsimp only at hSw); go_simp; try (with_reducible rfl))))
        try simp only [Act.put, List.getElem_toArray, List.getElem_cons_zero, List.getElem_cons_succ, List.setIfInBounds_toArray, List.set_cons_zero, List.set_cons_succ]
        refine wpAnyL_one (i := 5) (by kernel_rfl) rfl (fun K hK => ?_)
        obtain ⟨V0, hV0⟩ : ∃ V, wr.drew = V := ⟨_, rfl⟩
        have hzV : Ext wr V0 := by rw [← hV0]; exact Ext.drew (Ext.refl _)
        rw [hV0] at hHeld ⊢
        go_simp
        go_at_call 102; refine (KI _ hHeld.2.2.2).mono ?_; rintro e V1 ⟨rfl, hz⟩
        refine hK.out _ _ (fun _ => ?_) (fun hHeld => ?_)
        · exact ⟨Ext.cell hz hHeld.1, Ext.cell hz hHeld.2.1, Ext.cell hz hHeld.2.2.1, hHeld.2.2.2.trans hz⟩
        replace hHeld := hHeld (by decide)
        clear hK K
        replace hzV := hzV.trans hz
        clear hz hV0
        try simp only [Act.put, List.getElem_toArray, List.getElem_cons_zero, List.getElem_cons_succ, List.setIfInBounds_toArray, List.set_cons_zero, List.set_cons_succ]
        (refine wpAnyL_take (i := 6) (v := ?_) rfl (by kernel_rfl) (by kernel_rfl) (by kernel_rfl) (by kernel_rfl) (fun _ _ _ h => h) (Or.inl ⟨by rfl, ?_⟩) (by assumption) ?_; rotate_left 1; (focus (intro w hSw; (try dsimp only at hSw); go_simp; try (with_reducible rfl))))
        try simp only [Act.put, List.getElem_toArray, List.getElem_cons_zero, List.getElem_cons_succ, List.setIfInBounds_toArray, List.set_cons_zero, List.set_cons_succ]
        (refine wpAnyL_take (i := 7) (v := ?_) rfl (by kernel_rfl) (by kernel_rfl) (by kernel_rfl) (by kernel_rfl) (fun _ _ _ h => h) (Or.inl ⟨by rfl, ?_⟩) (by assumption) ?_; rotate_left 1; (focus (intro w hSw; (try dsimp only at hSw); go_simp; try (with_reducible rfl))))
        try simp only [Act.put, List.getElem_toArray, List.getElem_cons_zero, List.getElem_cons_succ, List.setIfInBounds_toArray, List.set_cons_zero, List.set_cons_succ]
        (refine wpAnyL_take (i := 8) (v := ?_) rfl (by kernel_rfl) (by kernel_rfl) (by kernel_rfl) (by kernel_rfl) (fun _ _ _ h => h) (Or.inl ⟨by rfl, ?_⟩) (by assumption) ?_; rotate_left 1; (focus (intro w hSw; (try dsimp only at hSw); go_simp; try (with_reducible rfl))))
        try simp only [Act.put, List.getElem_toArray, List.getElem_cons_zero, List.getElem_cons_succ, List.setIfInBounds_toArray, List.set_cons_zero, List.set_cons_succ]
        refine wpAnyL_one (i := 9) (by kernel_rfl) rfl (fun K hK => ?_)
        have q2V := q2.ext hzV
        have g1 := q2V.cell 1
        have f1 := q2V.frozen 1
        go_simp
        refine hK.out _ _ (fun h => absurd rfl h) (fun _ => ?_)
        clear hK K
        try simp only [Act.put, List.getElem_toArray, List.getElem_cons_zero, List.getElem_cons_succ, List.setIfInBounds_toArray, List.set_cons_zero, List.set_cons_succ]
        refine wpAnyL_done (by kernel_rfl) ?_ _
        try (all_goals skip)
        have q0V := (q0.ext hzV).other (B' := w.heap.size + 1 + 1) (by omega) 1 (.int .i64 (S + o))
        have q1V := (q1.ext hzV).other (B' := w.heap.size + 1 + 1) (by omega) 1 (.int .i64 (S + o))
        have q2W := (q2.ext hzV).set 1 (.int .i64 (S + o))
        have hxW := (hx.trans hzV).setCell (p := ⟨w.heap.size + 1 + 1, 1, none⟩) (by simp; omega) (.int .i64 (S + o))
        go_wp2_with fail
        go_roundw
        case rel => exact ⟨k + 1, by omega, by go_num, q0V, q1V, by rw [HST.out]; exact q2W, hxW⟩
        case measure => simp [intOf]; omega
      · rw [if_neg (fun h => hq h.2)] at hst
        have HST := Lib.hid hst
        have hbq : decide (ay < 0) = false := decide_eq_false hq
        clear hst hb2 hb1 hox hay hS hex ho KI
        go_wp2_with fail
        go_roundw
        case rel => exact ⟨k + 1, by omega, by go_num, q0, q1, by rw [HST.out, Int.add_zero]; exact q2, hx⟩
        case measure => simp [intOf]; omega
    · obtain rfl : k = T.rs.length := by omega
      rw [HOV.out] at q2
      go_upto_region 8 with fail
      clear d0 d1
      obtain ⟨w1, hw1⟩ : ∃ wo : World, wo = wr := ⟨_, rfl⟩
      subst hw1
      have hw1b := q2.lt
      go_loopw [7] (fun i wx => ∃ j : Nat, j ≤ l.length ∧ i = .int .i64 j ∧ (∃ u, Cls (w.heap.size + 1 + 1) 42 #[u, .int .i64 OV, .int .i64 0] wx ∧ Hid (RowI w1.heap.size u (gprL T (objX T l) ((T.ps.zip l).take j)) wx)) ∧ Cls w.heap.size 25 #[.slice aa T.rs.length ca, .slice ab T.ps.length cb] wx ∧ Cls (w.heap.size + 1) 42 #[.slice none 0 0, .int .i64 0, .int .i64 0] wx ∧ Ext w wx ∧ w1.heap.size ≤ wx.heap.size) (fun i _ => l.length - (intOf i).toNat)
      case atStart => exact ⟨0, Nat.zero_le _, rfl, ⟨_, q2, Lib.hid (rowI_nil _ _)⟩, q0, q1, hx, Nat.le_refl _⟩
      case round =>
        clear q0 q1 q2 hx
        obtain ⟨j, hj, rfl, ⟨u, q2, HR⟩, q0, q1, hx, hsz⟩ := hrel
        have d0 := q0.cell 0
        have d1 := q0.cell 1
        have hR := HR.out
        by_cases hlt : j < l.length
        · have hjp : j < T.ps.length := by have := HLEN.out; omega
          have hjz : j < (T.ps.zip l).length := by have := HZL.out; omega
          have hLl := gprL_len T (objX T l) ((T.ps.zip l).take j)
          have hLt : ((T.ps.zip l).take j).length ≤ 24 := by simp; omega
          have hst := gprL_snoc T (objX T l) ((T.ps.zip l).take j) (T.ps.zip l)[j]
          rw [← take_succ_get _ _ hjz, List.getElem_zip] at hst
          obtain ⟨bb, oo, rfl, p0, p1, p2⟩ := (hT.p.ext hx).get j hjp
          obtain ⟨bv, ov, rfl, e0⟩ := (hl.ext hx).get j hlt
          have hpv := (hok.pv _ (List.getElem_mem hjp)).2.1
          have hlj := HB.out _ (List.getElem_mem hlt)
          have hgs : ∀ s, gprS T (objX T l) s (T.ps[j], l[j]) = if (!(l[j] == 0) && !(zrB (objX T l) (upL T.rs T.ps[j].reach))) = true then putL s T.ps[j].id else s := fun _ => rfl
          rw [hgs] at hst
          obtain ⟨x, hxx⟩ : ∃ x, T.ps[j].id = x := ⟨_, rfl⟩
          obtain ⟨y, hyy⟩ : ∃ x, T.ps[j].reach = x := ⟨_, rfl⟩
          obtain ⟨z, hzz⟩ : ∃ x, l[j] = x := ⟨_, rfl⟩
          rw [hxx] at p0 hst
          rw [hyy] at p1 hst hpv
          rw [hzz] at e0 hst hlj
          obtain ⟨L, hL⟩ : ∃ x, gprL T (objX T l) ((T.ps.zip l).take j) = x := ⟨_, rfl⟩
          rw [hL] at hst hLl hR
          have HST := Lib.hid hst
          obtain ⟨oA, oc, rfl⟩ := hR.form
          have hjpi : (j : Int) < (T.ps.length : Int) := by omega
          have hjli : (j : Int) < (l.length : Int) := by omega
          have hL24 : L.length ≤ 24 := by omega
          clear hst hgs hL hxx hyy hzz p2 HR hLl hLt hjz
          go_upto_region 12 with fail
          obtain ⟨w2, hw2⟩ : ∃ wo : World, wo = wr := ⟨_, rfl⟩
          subst hw2
          go_loopw [8, 9] (fun f at' wy => ∃ (pre : List Int) (y' : Int), Hid (upL T.rs y = pre ++ upL T.rs y') ∧ (-1 ≤ y' ∧ y' < T.rs.length) ∧ at' = .int .i64 y' ∧ f = .bool (decide (z > 0) && !(zrB (objX T l) pre)) ∧ Ext w2 wy) (fun _ a _ => (intOf a + 1).toNat)
          case atStart => exact ⟨[], y, Lib.hid rfl, ⟨by omega, hpv.2⟩, rfl, by simp [zrB], Ext.refl _⟩
          case round =>
            obtain ⟨pre, y', HU, hy', rfl, rfl, hz⟩ := hrel
            replace q0 := q0.ext hz
            replace q1 := q1.ext hz
            replace q2 := q2.ext hz
            replace hR := rowI_ext hR hz
            replace hx := hx.trans hz
            replace hsz := Nat.le_trans hsz hz.size
            replace p0 := hz.cell p0
            have d0 := q0.cell 0
            have d1 := q0.cell 1
            by_cases h0 : 0 ≤ y'
            · obtain ⟨r, rfl⟩ : ∃ r : Nat, y' = r := ⟨y'.toNat, by omega⟩
              have hr : r < T.rs.length := by omega
              have hup := HU.out
              rw [upL_step hok.rv hr] at hup
              have hv := hok.rv.v r hr
              have hzs := zrB_snoc (objX T l) pre (r : Int)
              rw [Int.toNat_natCast] at hzs
              have hox := objX_ex hok l hr
              have KI := fun W (h : Ext w W) => HKI.out r hr W h
              obtain ⟨br, or', rfl, k0, k1⟩ := (hT.r.ext hx).get r hr
              obtain ⟨ay, hay⟩ : ∃ x, T.rs[r].above = x := ⟨_, rfl⟩
              rw [hay] at k0 hup hv
              obtain ⟨ex, hex⟩ : ∃ x, exX T l r = x := ⟨_, rfl⟩
              rw [hex] at hox KI
              obtain ⟨o, ho⟩ : ∃ x, objX T l r = x := ⟨_, rfl⟩
              rw [ho] at hox hzs
              have HUP : Hid (upL T.rs y = (pre ++ [(r : Int)]) ++ upL T.rs ay) := Lib.hid (by rw [hup]; simp)
              obtain ⟨F, hF⟩ : ∃ F, (decide (z > 0) && !(zrB (objX T l) pre)) = F := ⟨_, rfl⟩
              rw [hF]
              have hri : (r : Int) < (T.rs.length : Int) := by omega
              have hnew : (decide (z > 0) && !(zrB (objX T l) (pre ++ [(r : Int)]))) = (F && !(o == 0)) := by
                rw [hzs, Bool.not_or, ← Bool.and_assoc, hF]
              have HNEW := Lib.hid hnew
              clear hup hzs hay hex ho hF HU hnew
              cases F with
              | false =>
                clear KI hox
                go_wp2_with fail
                go_roundw
                case rel => exact ⟨_, ay, HUP, by omega, rfl, by rw [HNEW.out]; rfl, hz⟩
                case measure => simp [intOf]; omega
              | true =>
                have hoe : decide (ex > 0) = !(o == 0) := by
                  by_cases h : ex > 0
                  · rw [decide_eq_true h]; have : o ≠ 0 := by omega
                    simp [this]
                  · rw [decide_eq_false h]; have : o = 0 := by omega
                    simp [this]
                have HOE := Lib.hid hoe
                clear hox hoe
                go_wp2_with fail
                refine (KI _ hx).mono ?_
                rintro e w6 ⟨rfl, hz6⟩
                clear KI d0 d1
                replace k0 := hz6.cell k0
                have d0 := (q0.ext hz6).cell 0
                have d1 := (q0.ext hz6).cell 1
                obtain ⟨D, hD⟩ : ∃ D, decide (ex > 0) = D := ⟨_, rfl⟩
                have hD2 : decide (0 < ex) = D := hD
                have HD : Hid (D = !(o == 0)) := Lib.hid (by rw [← hD]; exact HOE.out)
                go_wp2_with fail
                go_roundw
                case rel => exact ⟨_, ay, HUP, by omega, rfl, by rw [HNEW.out, Bool.true_and, ← HD.out, ← hD], hz.trans hz6⟩
                case measure => simp [intOf]; omega
            · have hup := HU.out
              rw [upL_neg T.rs (r := y') (by omega), List.append_nil] at hup
              have hst := HST.out
              rw [hup] at hst
              have hfl : (decide (z > 0) && !(zrB (objX T l) pre)) = (!(z == 0) && !(zrB (objX T l) pre)) := by
                congr 1
                by_cases h : z > 0
                · rw [decide_eq_true h]; have : z ≠ 0 := by omega
                  simp [this]
                · rw [decide_eq_false h]; have : z = 0 := by omega
                  simp [this]
              rw [← hfl] at hst
              obtain ⟨F, hF⟩ : ∃ F, (decide (z > 0) && !(zrB (objX T l) pre)) = F := ⟨_, rfl⟩
              rw [hF] at hst ⊢
              have hbq : decide (y' ≥ 0) = false := decide_eq_false (by omega)
              clear hup hfl hF HU HST
              cases F with
              | false =>
                rw [if_neg (by decide)] at hst
                have HST := Lib.hid hst
                clear hst
                go_wp2_with fail
                go_roundw
                case rel => exact ⟨j + 1, by omega, by go_num, ⟨_, q2, Lib.hid (by rw [HST.out]; exact hR)⟩, q0, q1, hx, hsz⟩
                case measure => simp [intOf]; omega
              | true =>
                rw [if_pos rfl] at hst
                have HST := Lib.hid hst
                have g0 := q2.cell 0
                clear hst e0 p1
                go_upto_region 16 with fail
                refine wp_region_last (z := 10) (S := fun W' => W'.cell? ⟨w.heap.size, 0, none⟩ = some (.slice aa T.rs.length ca) ∧ W'.cell? ⟨w.heap.size, 1, none⟩ = some (.slice (some ⟨bb, oo, none⟩) T.ps.length cb) ∧ W'.cell? ⟨w.heap.size + 1 + 1, 0, none⟩ = some (.slice oA L.length oc) ∧ W'.cell? ⟨bb, oo + j * 3, none⟩ = some (.int .i64 x) ∧ Ext w W') (by kernel_rfl) ?_ (fun hHeld => ?_)
                · exact ⟨d0, d1, g0, p0, hx.drew⟩
                (refine wpAnyL_take (i := 0) (v := ?_) rfl (by kernel_rfl) (by kernel_rfl) (by kernel_rfl) (by kernel_rfl) (fun _ _ _ h => h) (Or.inl ⟨by rfl, ?_⟩) (by assumption) ?_; rotate_left 1; (focus (intro w hSw; (try dsimp only at hSw); go_simp; try (with_reducible rfl))))
                try simp only [Act.put, List.getElem_toArray, List.getElem_cons_zero, List.setIfInBounds_toArray, List.set_cons_zero, List.set_cons_succ]
                (refine wpAnyL_take (i := 1) (v := ?_) rfl (by kernel_rfl) (by kernel_rfl) (by kernel_rfl) (by kernel_rfl) (fun _ _ _ h => h) (Or.inl ⟨by rfl, ?_⟩) (by assumption) ?_; rotate_left 1; (focus (intro w hSw; (try dsimp only at hSw); go_simp; try (with_reducible rfl))))
                try simp only [Act.put, List.getElem_toArray, List.getElem_cons_zero, List.getElem_cons_succ, List.setIfInBounds_toArray, List.set_cons_zero, List.set_cons_succ]
                (refine wpAnyL_take (i := 2) (v := ?_) rfl (by kernel_rfl) (by kernel_rfl) (by kernel_rfl) (by kernel_rfl) (fun _ _ _ h => h) (Or.inl ⟨by rfl, ?_⟩) (by assumption) ?_; rotate_left 1; (focus (intro w hSw; (try dsimp only at hSw); go_simp; try (with_reducible rfl))))
                try simp only [Act.put, List.getElem_toArray, List.getElem_cons_zero, List.getElem_cons_succ, List.setIfInBounds_toArray, List.set_cons_zero, List.set_cons_succ]
                (refine wpAnyL_take (i := 3) (v := ?_) rfl (by kernel_rfl) (by kernel_rfl) (by kernel_rfl) (by kernel_rfl) (fun _ _ _ h => h) (Or.inl ⟨by rfl, ?_⟩) (by assumption) ?_; rotate_left 1; (focus (intro w hSw; (try dsimp only at hSw); go_simp; try (with_reducible rfl))))
                try simp only [Act.put, List.getElem_toArray, List.getElem_cons_zero, List.getElem_cons_succ, List.setIfInBounds_toArray, List.set_cons_zero, List.set_cons_succ]
                (refine wpAnyL_take (i := 4) (v := ?_) rfl (by kernel_rfl) (by kernel_rfl) (by kernel_rfl) (by kernel_rfl) (fun _ _ _ h => h) (Or.inl ⟨by rfl, ?_⟩) (by assumption) ?_; rotate_left 1; (focus (intro w hSw; (try dsimp only at hSw); go_simp; try (with_reducible rfl))))
                try simp only [Act.put, List.getElem_toArray, List.getElem_cons_zero, List.getElem_cons_succ, List.setIfInBounds_toArray, List.set_cons_zero, List.set_cons_succ]
                (refine wpAnyL_take (i := 5) (v := ?_) rfl (by kernel_rfl) (by kernel_rfl) (by kernel_rfl) (by kernel_rfl) (fun _ _ _ h => h) (Or.inl ⟨by rfl, ?_⟩) (by assumption) ?_; rotate_left 1; (focus (intro w hSw; (try dsimp only at hSw); go_simp; try (with_reducible rfl))))
                try simp only [Act.put, List.getElem_toArray, List.getElem_cons_zero, List.getElem_cons_succ, List.setIfInBounds_toArray, List.set_cons_zero, List.set_cons_succ]
                (refine wpAnyL_take (i := 6) (v := ?_) rfl (by kernel_rfl) (by kernel_rfl) (by kernel_rfl) (by kernel_rfl) (fun _ _ _ h => h) (Or.inl ⟨by rfl, ?_⟩) (by assumption) ?_; rotate_left 1; (focus (intro w hSw; (try dsimp only at hSw); go_simp; try (with_reducible rfl))))
                try simp only [Act.put, List.getElem_toArray, List.getElem_cons_zero, List.getElem_cons_succ, List.setIfInBounds_toArray, List.set_cons_zero, List.set_cons_succ]
                (refine wpAnyL_take (i := 7) (v := ?_) rfl (by kernel_rfl) (by kernel_rfl) (by kernel_rfl) (by kernel_rfl) (fun _ _ _ h => h) (Or.inl ⟨by rfl, ?_⟩) (by assumption) ?_; rotate_left 1; (focus (intro w hSw; (try dsimp only at hSw); go_simp; try (with_reducible rfl))))
                try simp only [Act.put, List.getElem_toArray, List.getElem_cons_zero, List.getElem_cons_succ, List.setIfInBounds_toArray, List.set_cons_zero, List.set_cons_succ]
                refine wpAnyL_one (i := 8) (by kernel_rfl) rfl (fun K hK => ?_)
                obtain ⟨V0, hV0⟩ : ∃ V, wr.drew = V := ⟨_, rfl⟩
                have hzV : Ext wr V0 := by rw [← hV0]; exact Ext.drew (Ext.refl _)
                rw [hV0] at hHeld ⊢
                go_simp
                go_at_call 98; refine (refPut_any _ L x _ (rowI_ext hR hzV).at_ (by omega)).mono ?_; rintro e V1 ⟨u, rfl, hu, hz⟩
                refine hK.out _ _ (fun _ => ?_) (fun hHeld => ?_)
                · exact ⟨Ext.cell hz hHeld.1, Ext.cell hz hHeld.2.1, Ext.cell hz hHeld.2.2.1, Ext.cell hz hHeld.2.2.2.1, hHeld.2.2.2.2.trans hz⟩
                replace hHeld := hHeld (by decide)
                clear hK K
                have hu1 : RowI w1.heap.size u (putL L x) V1 := rowI_base hu (Nat.le_trans hsz hzV.size)
                replace hzV := hzV.trans hz
                obtain ⟨uA, uc, rfl⟩ := hu1.form
                obtain ⟨m, hm⟩ : ∃ m, (putL L x).length = m := ⟨_, rfl⟩
                rw [hm] at hu1 ⊢
                clear hz hV0 hu hm
                try simp only [Act.put, List.getElem_toArray, List.getElem_cons_zero, List.getElem_cons_succ, List.setIfInBounds_toArray, List.set_cons_zero, List.set_cons_succ]
                (refine wpAnyL_take (i := 9) (v := ?_) rfl (by kernel_rfl) (by kernel_rfl) (by kernel_rfl) (by kernel_rfl) (fun _ _ _ h => h) (Or.inl ⟨by rfl, ?_⟩) (by assumption) ?_; rotate_left 1; (focus (intro w hSw; (try dsimp only at hSw); go_simp; try (with_reducible rfl))))
                try simp only [Act.put, List.getElem_toArray, List.getElem_cons_zero, List.getElem_cons_succ, List.setIfInBounds_toArray, List.set_cons_zero, List.set_cons_succ]
                refine wpAnyL_one (i := 10) (by kernel_rfl) rfl (fun K hK => ?_)
                have q2V := q2.ext hzV
                have g0 := q2V.cell 0
                have f0 := q2V.frozen 0
                go_simp
                refine hK.out _ _ (fun h => absurd rfl h) (fun _ => ?_)
                clear hK K
                try simp only [Act.put, List.getElem_toArray, List.getElem_cons_zero, List.getElem_cons_succ, List.setIfInBounds_toArray, List.set_cons_zero, List.set_cons_succ]
                refine wpAnyL_done (by kernel_rfl) ?_ _
                have q0V := (q0.ext hzV).other (B' := w.heap.size + 1 + 1) (by omega) 0 (.slice uA m uc)
                have q1V := (q1.ext hzV).other (B' := w.heap.size + 1 + 1) (by omega) 0 (.slice uA m uc)
                have q2W := (q2.ext hzV).set 0 (.slice uA m uc)
                have hxW := (hx.trans hzV).setCell (p := ⟨w.heap.size + 1 + 1, 0, none⟩) (by simp; omega) (.slice uA m uc)
                have hRW := rowI_cell1 hu1 (B := w.heap.size + 1 + 1) (by omega) 0 (.slice uA m uc)
                have hsW : w1.heap.size ≤ (V1.setCell ⟨w.heap.size + 1 + 1, 0, none⟩ (.slice uA m uc)).heap.size := by
                  have := hzV.size
                  simp [World.setCell]; omega
                go_wp2_with fail
                go_roundw
                case rel => exact ⟨j + 1, by omega, by go_num, ⟨_, q2W, Lib.hid (by rw [HST.out]; exact hRW)⟩, q0V, q1V, hxW, hsW⟩
                case measure => simp [intOf]; omega
        · obtain rfl : j = l.length := by omega
          rw [List.take_of_length_le (by rw [HZL.out]; omega), HGP.out] at hR
          obtain ⟨oA, oc, rfl⟩ := hR.form
          obtain ⟨m, hm⟩ : ∃ m, GP.length = m := ⟨_, rfl⟩
          rw [hm] at q2 hR
          have HM := Lib.hid hm
          clear hm d0 d1
          have g0 := q2.cell 0
          have g1 := q2.cell 1
          have g2 := q2.cell 2
          have f0 := q1.frozen 0
          have f1 := q1.frozen 1
          have f2 := q1.frozen 2
          have h0 := q1.cell 0
          have h1 := q1.cell 1
          have h2 := q1.cell 2
          go_wp2_with fail
          have hC := ((q1.set 0 (.slice oA m oc)).set 1 (.int .i64 OV)).set 2 (.int .i64 0)
          exact bodyPost_ret (results_cell_row rfl _ _ (w.heap.size + 1) _ _ _ _ rfl hC Tryz.underlying42 rfl (by kernel_rfl)) rfl ⟨_, rfl, rowI_base (rowI_cell1 (rowI_cell1 (rowI_cell1 hR (by omega) 0 _) (by omega) 1 _) (by omega) 2 _) (by omega), obj_ext _ hx (by omega) _ _ _⟩

end Go.Proofs.YthopgonbndoidaaGreat
