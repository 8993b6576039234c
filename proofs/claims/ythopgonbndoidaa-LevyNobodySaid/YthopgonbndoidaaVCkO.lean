/- CheckObjection of the program. -/
import Derived.Test.YthopgonbndoidaaVUsP
import Derived.Test.YthopgonbndoidaaVPen
namespace Go.Proofs.Ythopgonbndoidaa
open Go.RowKit Go.Shelf

set_option maxHeartbeats 1000000 in
theorem Obj1_any (B b : Nat) (L : List (Int × Value)) (hv : ∀ q ∈ L, q.2 = .bool true) (x : Py) (W : World) (hB : Cls B 101 #[.map (some b)] W) (hM : MapAt encI W b L) :
    Calls Try.prog 85 #[.agg #[.int .i64 x.id, .int .i64 x.reach, .int .i64 x.w], .pointer (some ⟨B, 0, none⟩)] W fun e W' => e = .returned (.bool (decide (x.id ∈ L.map (·.1)))) ∧ Ext W W' := by
  have hx : Ext W (W.alloc (.cells #[.int .i64 x.id, .int .i64 x.reach, .int .i64 x.w] 45)) := (by repeat (first | exact Ext.refl _ | assumption | refine Ext.alloc ?_ _ | refine Ext.drew ?_ | refine Ext.drewN _ ?_ | refine Ext.trans ?_ (by assumption)))
  have c0 : (W.alloc (.cells #[.int .i64 x.id, .int .i64 x.reach, .int .i64 x.w] 45)).cell? ⟨B, 0, none⟩ = some (.map (some b)) := (hB.ext hx).cell 0
  have hM1 := hM.ext hx
  have hg := get_true hv x.id
  obtain ⟨v, hvv⟩ : ∃ v, decide (x.id ∈ L.map (·.1)) = v := ⟨_, rfl⟩
  rw [hvv] at hg ⊢
  have HG := Lib.hid hg
  clear hvv hg
  go_enter Try.func85, Try.ntmps85
  go_wp2_with (refine wpList_lookupMap rfl _ _ false rfl KI mapT rfl hM1 x.id rfl (zeroBool _) ?_; simp only [Bool.false_eq_true, if_false]; rw [HG.out])
  go_ret
  exact ⟨rfl, (by repeat (first | exact Ext.refl _ | assumption | refine Ext.alloc ?_ _ | refine Ext.drew ?_ | refine Ext.drewN _ ?_ | refine Ext.trans ?_ (by assumption)))⟩
set_option maxRecDepth 100000 in
set_option maxHeartbeats 8000000 in
theorem CheckObjection_any (a b v vg : Value) (T : Tr) (l g : List Int) (w : World) (hT : TrAt w a b T) (hl : IntsAt w v l) (hg : IntsAt w vg g) (hn : l.length ≤ 100000) (hgn : g.length ≤ 100000) :
    Calls Try.prog 38 #[.agg #[a, b], v, vg] w fun e w' => e = .returned (.tuple #[.int .i64 (cobN T l g), .int .i64 (cobE T l g)]) ∧ Ext w w' := by
  have hE : cobE T l g = if penE T l = 0 then (if grB T.ps g = true then (if pdL g (T.ps.zip l) - alnG T g < 1 then 8 else 0) else 1) else penE T l := rfl
  have hN : cobN T l g = if cobE T l g = 0 then pdL g (T.ps.zip l) - alnG T g else 0 := rfl
  have hok : penE T l = 0 → Ok T ∧ l.length = T.ps.length ∧ ∀ n ∈ l, 0 ≤ n ∧ n ≤ 1073741824 := penE_ok
  have KC := fun W (hx : Ext w W) => sums_any a b v T l W (hT.ext hx) (hl.ext hx) hn
  have KG := fun (h : penE T l = 0) W (hx : Ext w W) => group_any a b vg T g W (hT.ext hx) (hg.ext hx) hgn (by have := (hok h).1.lp; omega)
  obtain ⟨ab, cb, rfl, hlb⟩ := hT.p.len
  obtain ⟨av, cv, rfl, hlv⟩ := hl.len
  obtain ⟨E, hEE⟩ : ∃ E, penE T l = E := ⟨_, rfl⟩
  obtain ⟨G, hGG⟩ : ∃ E, grB T.ps g = E := ⟨_, rfl⟩
  obtain ⟨X, hXX⟩ : ∃ E, cobE T l g = E := ⟨_, rfl⟩
  obtain ⟨M, hMM⟩ : ∃ E, cobN T l g = E := ⟨_, rfl⟩
  rw [hEE, hGG, hXX] at hE
  rw [hMM, hXX] at hN
  rw [hEE] at KC KG hok
  rw [hGG] at KG
  rw [hMM, hXX]
  have HE := Lib.hid hE
  have HN := Lib.hid hN
  have HKG := Lib.hid KG
  have HOK := Lib.hid hok
  clear hE hN KG hEE hGG hXX hMM hok
  go_enter Try.func38, Try.ntmps38
  go_wp2_with fail
  refine (KC _ (by repeat (first | exact Ext.refl _ | assumption | refine Ext.alloc ?_ _ | refine Ext.drew ?_ | refine Ext.drewN _ ?_ | refine Ext.trans ?_ (by assumption)))).mono ?_
  rintro e w1 ⟨rfl, hx1⟩
  obtain ⟨q0, hx, hk0⟩ := alloc1 hx1
  have d0 : w1.cell? ⟨w.heap.size, 0, none⟩ = some a := q0.cell 0
  have d1 : w1.cell? ⟨w.heap.size, 1, none⟩ = some (.slice ab T.ps.length cb) := q0.cell 1
  clear hx1 KC
  by_cases h0 : E = 0
  · have hb : (E != 0) = false := by simpa using h0
    have he := HE.out
    rw [if_pos h0] at he
    have HE2 := Lib.hid he
    have KG := HKG.out h0
    have hk := HOK.out h0
    have HK := Lib.hid hk
    clear he h0 HE HKG hk HOK
    go_wp2_with fail
    refine (KG _ hx).mono ?_
    rintro e w2 ⟨m, rfl, hm, hz⟩
    replace hx := hx.trans hz
    replace q0 := q0.ext hz
    clear hz KG d0 d1
    cases G with
    | false =>
      have he := HE2.out
      rw [if_neg (by decide)] at he
      have hnn := HN.out
      rw [if_neg (by rw [he]; decide)] at hnn
      have HE3 := Lib.hid he
      have HN3 := Lib.hid hnn
      clear he hnn hm
      go_wp2_with fail
      go_ret2
      exact ⟨ret2 (by rw [HN3.out]; rfl) (by rw [HE3.out]; rfl), hx.trans (by repeat (first | exact Ext.refl _ | assumption | refine Ext.alloc ?_ _ | refine Ext.drew ?_ | refine Ext.drewN _ ?_ | refine Ext.trans ?_ (by assumption)))⟩
    | true =>
      obtain ⟨bm, Lm, hbm, hM, hLm, hV⟩ := hm rfl
      obtain rfl : m = some bm := by simpa using hbm
      have he := HE2.out
      rw [if_pos rfl] at he
      obtain ⟨hok, hlen, hbd⟩ := HK.out
      have hpb := pdL_take_bd (T := T) g hbd (by have := hok.lp; omega)
      have hab := alnE_bd hok (fun p => decide (p.id ∈ g))
      have hga : alnE T (fun p => decide (p.id ∈ g)) = alnG T g := rfl
      rw [hga] at hab
      obtain ⟨W2, hW2⟩ : ∃ W2, w2.alloc (.cells #[.map (some bm)] 101) = W2 := ⟨_, rfl⟩
      have hz : Ext w2 W2 := by rw [← hW2]; exact (by repeat (first | exact Ext.refl _ | assumption | refine Ext.alloc ?_ _ | refine Ext.drew ?_ | refine Ext.drewN _ ?_ | refine Ext.trans ?_ (by assumption)))
      have hB := Cls.new w2 101 #[.map (some bm)]
      rw [hW2] at hB
      replace hM := hM.ext hz
      replace hx := hx.trans hz
      replace q0 := q0.ext hz
      have q9 := q0
      have d0 : W2.cell? ⟨w.heap.size, 0, none⟩ = some a := q0.cell 0
      have d1 : W2.cell? ⟨w.heap.size, 1, none⟩ = some (.slice ab T.ps.length cb) := q0.cell 1
      have KA := fun W (h : Ext W2 W) => alone_Obj a (.slice ab T.ps.length cb) T hok (fun p => decide (p.id ∈ g)) (.pointer (some ⟨w2.heap.size, 0, none⟩)) W (hT.ext (hx.trans h)) (fun x W' h' => (Obj1_any w2.heap.size bm Lm hV x W' (hB.ext (h.trans h')) (hM.ext (h.trans h'))).mono fun e W'' ⟨he, hz⟩ => ⟨by rw [he]; congr 2; exact decide_eq_decide.2 (hLm x.id), hz⟩)
      rw [hga] at KA
      obtain ⟨A, hA⟩ : ∃ x, alnG T g = x := ⟨_, rfl⟩
      rw [hA] at KA hab he
      have HNA : Hid (M = if X = 0 then pdL g (T.ps.zip l) - A else 0) := Lib.hid (by rw [HN.out, hA])
      have HE3 := Lib.hid he
      have HPB := Lib.hid hpb
      have HBD := Lib.hid hbd
      have HLEN := Lib.hid hlen
      have hwA : IntKind.i64.wrap (-A) = -A := IntWalk.i64_in _ (by omega)
      have hzl : (T.ps.zip l).length = T.ps.length := by simp; omega
      have HZL := Lib.hid hzl
      have HLm := Lib.hid hLm
      have HV := Lib.hid hV
      have hlp := hok.lp
      clear he hpb hbd hlen hga hA hm hLm hV HE2 hbm hz hzl HN q0
      go_upto_region 7 with fail
      try rw [hW2]
      clear hW2
      go_wp2_with fail
      refine (KA _ (Ext.refl _)).mono ?_
      rintro e w3 ⟨rfl, hz⟩
      have q3 := q9.ext hz
      have hB3 := hB.ext hz
      have hM3 := hM.ext hz
      have hx3 := hx.trans hz
      have d0 : w3.cell? ⟨w.heap.size, 0, none⟩ = some a := q3.cell 0
      have d1 : w3.cell? ⟨w.heap.size, 1, none⟩ = some (.slice ab T.ps.length cb) := q3.cell 1
      clear KA hz q9 hB hM
      go_upto_region 9 with fail
      clear d0 d1
      go_loopw [11, 35] (fun s i wr => ∃ j : Nat, j ≤ T.ps.length ∧ i = .int .i64 j ∧ s = .int .i64 (pdL g ((T.ps.zip l).take j) - A) ∧ Cls w.heap.size 25 #[a, .slice ab T.ps.length cb] wr ∧ Cls w2.heap.size 101 #[.map (some bm)] wr ∧ Hid (MapAt encI wr bm Lm) ∧ Ext w wr) (fun _ i _ => T.ps.length - (intOf i).toNat)
      case atStart => exact ⟨0, Nat.zero_le _, rfl, vint (by show -A = (0 : Int) - A; omega), q3, hB3, Lib.hid hM3, hx3⟩
      case round =>
        clear q3 hB3 hM3 hx3 hx
        obtain ⟨j, hj, rfl, rfl, q, hB, HM, hx⟩ := hrel
        by_cases hlt : j < T.ps.length
        · have hjl : j < l.length := by have := HLEN.out; omega
          have hjz : j < (T.ps.zip l).length := by have := HZL.out; omega
          have hst := pdL_snoc g ((T.ps.zip l).take j) (T.ps.zip l)[j]
          rw [← take_succ_get _ _ hjz, List.getElem_zip] at hst
          have hgs : ∀ n, pdS g n (T.ps[j], l[j]) = if decide (T.ps[j].id ∈ g) = true then n + l[j] else n := fun _ => rfl
          rw [hgs] at hst
          have hb1 := HPB.out j
          have hb2 := HPB.out (j + 1)
          obtain ⟨bb, oo, rfl, c0, c1, c2⟩ := (hT.p.ext hx).get j hlt
          obtain ⟨bv, ov, rfl, e0⟩ := (hl.ext hx).get j hjl
          obtain ⟨x, hxx⟩ : ∃ x, T.ps[j].id = x := ⟨_, rfl⟩
          obtain ⟨y, hyy⟩ : ∃ x, T.ps[j].reach = x := ⟨_, rfl⟩
          obtain ⟨t, htt⟩ : ∃ x, T.ps[j].w = x := ⟨_, rfl⟩
          obtain ⟨z, hzz⟩ : ∃ x, l[j] = x := ⟨_, rfl⟩
          rw [hxx] at c0 hst
          rw [hyy] at c1
          rw [htt] at c2
          rw [hzz] at e0 hst
          have hgt := get_true HV.out x
          rw [decide_eq_decide.2 (HLm.out x)] at hgt
          obtain ⟨D, hD⟩ : ∃ D, decide (x ∈ g) = D := ⟨_, rfl⟩
          rw [hD] at hgt hst
          have HG := Lib.hid hgt
          obtain ⟨S, hS⟩ : ∃ x, pdL g ((T.ps.zip l).take j) = x := ⟨_, rfl⟩
          rw [hS] at hst hb1 ⊢
          have hjpi : (j : Int) < (T.ps.length : Int) := by omega
          have hjli : (j : Int) < (l.length : Int) := by omega
          have HST := Lib.hid hst
          have HB2 := Lib.hid hb2
          have hxt : Ext wr (wr.alloc (.cells #[.int .i64 x, .int .i64 y, .int .i64 t] 45)) := (by repeat (first | exact Ext.refl _ | assumption | refine Ext.alloc ?_ _ | refine Ext.drew ?_ | refine Ext.drewN _ ?_ | refine Ext.trans ?_ (by assumption)))
          have g0 : (wr.alloc (.cells #[.int .i64 x, .int .i64 y, .int .i64 t] 45)).cell? ⟨w2.heap.size, 0, none⟩ = some (.map (some bm)) := (hB.ext hxt).cell 0
          have g1 := hxt.cell e0
          have hM1 := HM.out.ext hxt
          clear hst hgs hb2 hxx hzz hyy htt hD hS hjz hgt
          cases D
          · have hs := HST.out
            rw [if_neg (by decide)] at hs
            have HS := Lib.hid hs
            clear hs
            go_wp2_with (refine wpList_lookupMap rfl _ _ false rfl KI mapT rfl hM1 x rfl (zeroBool _) ?_; simp only [Bool.false_eq_true, if_false]; rw [HG.out])
            go_roundw
            case rel => exact ⟨j + 1, by omega, by go_num, vint (by rw [HS.out]), q.ext (by repeat (first | exact Ext.refl _ | assumption | refine Ext.alloc ?_ _ | refine Ext.drew ?_ | refine Ext.drewN _ ?_ | refine Ext.trans ?_ (by assumption))), hB.ext (by repeat (first | exact Ext.refl _ | assumption | refine Ext.alloc ?_ _ | refine Ext.drew ?_ | refine Ext.drewN _ ?_ | refine Ext.trans ?_ (by assumption))), Lib.hid (HM.out.ext (by repeat (first | exact Ext.refl _ | assumption | refine Ext.alloc ?_ _ | refine Ext.drew ?_ | refine Ext.drewN _ ?_ | refine Ext.trans ?_ (by assumption)))), hx.trans (by repeat (first | exact Ext.refl _ | assumption | refine Ext.alloc ?_ _ | refine Ext.drew ?_ | refine Ext.drewN _ ?_ | refine Ext.trans ?_ (by assumption)))⟩
            case measure => simp [intOf]; omega
          · have hs := HST.out
            rw [if_pos rfl] at hs
            have hb2 := HB2.out
            rw [hs] at hb2
            have hw1 : IntKind.i64.wrap (S - A + z) = S - A + z := IntWalk.i64_in _ (by omega)
            have HS := Lib.hid hs
            clear hs hb2
            go_wp2_with (refine wpList_lookupMap rfl _ _ false rfl KI mapT rfl hM1 x rfl (zeroBool _) ?_; simp only [Bool.false_eq_true, if_false]; rw [HG.out])
            go_roundw
            case rel => exact ⟨j + 1, by omega, by go_num, vint (by rw [HS.out]; omega), q.ext (by repeat (first | exact Ext.refl _ | assumption | refine Ext.alloc ?_ _ | refine Ext.drew ?_ | refine Ext.drewN _ ?_ | refine Ext.trans ?_ (by assumption))), hB.ext (by repeat (first | exact Ext.refl _ | assumption | refine Ext.alloc ?_ _ | refine Ext.drew ?_ | refine Ext.drewN _ ?_ | refine Ext.trans ?_ (by assumption))), Lib.hid (HM.out.ext (by repeat (first | exact Ext.refl _ | assumption | refine Ext.alloc ?_ _ | refine Ext.drew ?_ | refine Ext.drewN _ ?_ | refine Ext.trans ?_ (by assumption)))), hx.trans (by repeat (first | exact Ext.refl _ | assumption | refine Ext.alloc ?_ _ | refine Ext.drew ?_ | refine Ext.drewN _ ?_ | refine Ext.trans ?_ (by assumption)))⟩
            case measure => simp [intOf]; omega
        · obtain rfl : j = T.ps.length := by omega
          rw [List.take_of_length_le (by rw [HZL.out]; omega)]
          obtain ⟨P, hP⟩ : ∃ P, pdL g (T.ps.zip l) = P := ⟨_, rfl⟩
          have hpb := HPB.out T.ps.length
          rw [List.take_of_length_le (by rw [HZL.out]; omega), hP] at hpb
          have he := HE3.out
          have hnn := HNA.out
          rw [hP] at he hnn ⊢
          have HE4 := Lib.hid he
          have HN4 := Lib.hid hnn
          clear he hnn hP
          by_cases hlt1 : P - A < 1
          · have he := HE4.out
            rw [if_pos hlt1] at he
            have hnn := HN4.out
            rw [if_neg (by rw [he]; decide)] at hnn
            have HE5 := Lib.hid he
            have HN5 := Lib.hid hnn
            have hbq : decide (P - A < 1) = true := decide_eq_true hlt1
            clear he hnn
            go_wp2_with fail
            go_ret2
            exact ⟨ret2 (by rw [HN5.out]; rfl) (by rw [HE5.out]; rfl), hx⟩
          · have he := HE4.out
            rw [if_neg hlt1] at he
            have hnn := HN4.out
            rw [if_pos he] at hnn
            have HE5 := Lib.hid he
            have HN5 := Lib.hid hnn
            have hbq : decide (P - A < 1) = false := decide_eq_false hlt1
            clear he hnn
            go_wp2_with fail
            go_ret2
            exact ⟨ret2 (by rw [HN5.out]; rfl) (by rw [HE5.out]; rfl), hx⟩
  · have hb : (E != 0) = true := by simpa using h0
    have he := HE.out
    rw [if_neg h0] at he
    have hnn := HN.out
    rw [if_neg (by rw [he]; exact h0)] at hnn
    have HE2 := Lib.hid he
    have HN2 := Lib.hid hnn
    clear he hnn h0
    go_wp2_with fail
    go_ret2
    exact ⟨ret2 (by rw [HN2.out]; rfl) (by rw [HE2.out]; rfl), hx⟩
end Go.Proofs.Ythopgonbndoidaa
