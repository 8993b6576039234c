/- Objection, paid, CheckObjection and Fair of the specification; CheckObjection of the program. -/
import Derived.Test.YthopgonbndoidaaGreatVRObj
import Derived.Test.YthopgonbndoidaaGreatVRAl
namespace Go.Proofs.YthopgonbndoidaaGreat
open Go.RowKit Go.Shelf

theorem ints_obj {w w' : World} {v : Value} {L : List Int} (h : IntsAt w v L) (x : Ext w w') : IntsAt w' v L := h.ext x
def obrL (T : Tr) (l : List Int) : List Int := if penE T l = 0 then gpX T l else []
theorem obl_eq (T : Tr) (l : List Int) : obL T l = obrL T l := by
  unfold obL obrL
  by_cases h : penE T l = 0
  · rw [if_pos h, if_pos h]
    obtain ⟨hok, _, hb⟩ := penE_ok h
    by_cases h0 : ovX T l = 0
    · rw [if_pos h0, gpr_none hok hb h0]
    · rw [if_neg h0]
  · rw [if_neg h, if_neg h]
set_option maxRecDepth 100000 in
set_option maxHeartbeats 4000000 in
theorem refObjectionP_any (a b v : Value) (T : Tr) (l : List Int) (w : World) (hT : TrAt w a b T) (hl : IntsAt w v l) (hn : l.length ≤ 100000) :
    Calls Tryz.prog 18 #[.agg #[a, b], v] w (ObjsPost w (obL T l) (obN T l) (penE T l)) := by
  have hX : obL T l = if penE T l = 0 then gpX T l else [] := obl_eq T l
  have hN : obN T l = if penE T l = 0 then ovX T l else 0 := rfl
  have hok : penE T l = 0 → Ok T ∧ l.length = T.ps.length ∧ ∀ n ∈ l, 0 ≤ n ∧ n ≤ 1073741824 := penE_ok
  have KU := fun (h : penE T l = 0) W (hx : Ext w W) => refObjection0_any a b v T (hok h).1 l W (hT.ext hx) (hl.ext hx) (hok h).2.1 (hok h).2.2
  have KC := fun W (hx : Ext w W) => refPence_any a b v T l W (hT.ext hx) (hl.ext hx) hn
  obtain ⟨E, hE⟩ : ∃ E, penE T l = E := ⟨_, rfl⟩
  obtain ⟨X, hXX⟩ : ∃ E, obL T l = E := ⟨_, rfl⟩
  obtain ⟨M, hNN⟩ : ∃ E, obN T l = E := ⟨_, rfl⟩
  obtain ⟨G, hGG⟩ : ∃ E, gpX T l = E := ⟨_, rfl⟩
  obtain ⟨O, hOO⟩ : ∃ E, ovX T l = E := ⟨_, rfl⟩
  rw [hE] at KC KU
  rw [hXX, hE, hGG] at hX
  rw [hNN, hE, hOO] at hN
  rw [hGG, hOO] at KU
  rw [hXX, hNN, hE]
  have HX := Lib.hid hX
  have HN := Lib.hid hN
  have HKU := Lib.hid KU
  clear hE hX hXX hN hNN hGG hOO hT hl hok KU
  go_enter Tryz.func18, Tryz.ntmps18
  go_wp2_with fail
  refine (KC _ (by repeat (first | exact Ext.refl _ | assumption | refine Ext.alloc ?_ _ | refine Ext.drew ?_ | refine Ext.drewN _ ?_ | refine Ext.trans ?_ (by assumption)))).mono ?_
  rintro e w1 ⟨rfl, hx1⟩
  obtain ⟨q0, q1, hx, hk0⟩ := alloc2 hx1
  have d0 : w1.cell? ⟨w.heap.size, 0, none⟩ = some a := q0.cell 0
  have d1 : w1.cell? ⟨w.heap.size, 1, none⟩ = some b := q0.cell 1
  have f0 := q1.frozen 0
  have f1 := q1.frozen 1
  have f2 := q1.frozen 2
  have c0 := q1.cell 0
  have c1 := q1.cell 1
  have c2 := q1.cell 2
  clear hx1 KC
  by_cases h0 : E = 0
  · have hb : (E != 0) = false := by simpa using h0
    have hxx := HX.out
    rw [if_pos h0] at hxx
    have hnn := HN.out
    rw [if_pos h0] at hnn
    have KU := HKU.out h0
    have HX2 := Lib.hid hxx
    have HN2 := Lib.hid hnn
    have H0 := Lib.hid h0
    clear hxx hnn h0 HX HN
    go_wp2_with fail
    refine (KU _ hx).mono ?_
    rintro e w2 ⟨u, rfl, hu, hz⟩
    have q12 := q1.ext hz
    obtain ⟨au, cu, rfl⟩ := hu.form
    have hx2 := hx.trans hz
    obtain ⟨m, hm⟩ : ∃ m, G.length = m := ⟨_, rfl⟩
    rw [hm] at hu ⊢
    have f0 := q12.frozen 0
    have f1 := q12.frozen 1
    have f2 := q12.frozen 2
    replace c0 := hz.cell c0
    replace c1 := hz.cell c1
    replace c2 := hz.cell c2
    have HU := Lib.hid hu
    clear hm d0 d1 KU hz q0 q1 hu
    have hw2 := q12.lt
    go_wp2_with fail
    have hC := ((q12.set 0 (.slice au m cu)).set 1 (.int .i64 O)).set 2 (.int .i64 0)
    exact bodyPost_ret (results_cell_row rfl _ _ (w.heap.size + 1) _ _ _ _ rfl hC Tryz.underlying42 rfl (by kernel_rfl)) rfl ⟨.slice au m cu, by rw [H0.out, HN2.out]; rfl, by rw [HX2.out]; exact (rowI_cell1 (rowI_cell1 (rowI_cell1 HU.out (by omega) 0 _) (by omega) 1 _) (by omega) 2 _).at_, obj_ext _ hx2 (by omega) _ _ _⟩
  · have hb : (E != 0) = true := by simpa using h0
    have hxx := HX.out
    rw [if_neg h0] at hxx
    have hnn := HN.out
    rw [if_neg h0] at hnn
    have HX2 := Lib.hid hxx
    have HN2 := Lib.hid hnn
    clear hxx hnn h0 HX HN HKU
    go_wp2_with fail
    have hC := ((q1.set 0 (.slice none 0 0)).set 1 (.int .i64 0)).set 2 (.int .i64 E)
    exact bodyPost_ret (results_cell_row rfl _ _ (w.heap.size + 1) _ _ _ _ rfl hC Tryz.underlying42 rfl (by kernel_rfl)) rfl ⟨.slice none 0 0, by rw [HN2.out]; rfl, by rw [HX2.out]; exact intsAt_nil _, obj_ext _ hx (by omega) _ _ _⟩
/-- what a group pays together -/
def pdS (g : List Int) (n : Int) (q : Py × Int) : Int := if decide (q.1.id ∈ g) = true then n + q.2 else n
def pdL (g : List Int) (z : List (Py × Int)) : Int := z.foldl (pdS g) 0
theorem pdL_snoc (g : List Int) (z : List (Py × Int)) (q : Py × Int) : pdL g (z ++ [q]) = pdS g (pdL g z) q := by simp [pdL]
theorem pdL_bd (g : List Int) (z : List (Py × Int)) (h : ∀ q ∈ z, 0 ≤ q.2 ∧ q.2 ≤ 1073741824) : 0 ≤ pdL g z ∧ pdL g z ≤ z.length * 1073741824 := by
  induction z using snoc_ind with
  | h0 => simp [pdL]
  | h1 z q ih =>
    have i := ih (fun q hq => h q (by simp [hq]))
    have j := h q (by simp)
    rw [pdL_snoc, List.length_append, List.length_singleton]
    unfold pdS
    push_cast
    split <;> omega
theorem zip_bd {T : Tr} {l : List Int} (hb : ∀ n ∈ l, 0 ≤ n ∧ n ≤ 1073741824) (j : Nat) : ∀ q ∈ (T.ps.zip l).take j, 0 ≤ q.2 ∧ q.2 ≤ 1073741824 :=
  fun q hq => hb _ (List.of_mem_zip (show (q.1, q.2) ∈ T.ps.zip l from List.mem_of_mem_take hq)).2
theorem pdL_take_bd {T : Tr} {l : List Int} (g : List Int) (hb : ∀ n ∈ l, 0 ≤ n ∧ n ≤ 1073741824) (hl : l.length ≤ 24) (j : Nat) : 0 ≤ pdL g ((T.ps.zip l).take j) ∧ pdL g ((T.ps.zip l).take j) ≤ 25769803776 := by
  have h := pdL_bd g _ (zip_bd (T := T) hb j)
  have hlen : ((T.ps.zip l).take j).length ≤ 24 := by simp; omega
  have : (((T.ps.zip l).take j).length : Int) * 1073741824 ≤ 24 * 1073741824 := Int.mul_le_mul_of_nonneg_right (by omega) (by decide)
  omega
/-- everybody together -/
theorem pdL_all {T : Tr} {l : List Int} (hlen : l.length = T.ps.length) (g : List Int) (hg : ∀ p ∈ T.ps, p.id ∈ g) : pdL g (T.ps.zip l) = sumI l := by
  have key : ∀ (ps : List Py) (l : List Int), l.length = ps.length → (∀ p ∈ ps, p.id ∈ g) → ∀ n, (ps.zip l).foldl (pdS g) n = n + sumI l := by
    intro ps
    induction ps with
    | nil => intro l h _ n; have : l = [] := List.eq_nil_of_length_eq_zero h; subst this; simp [sumI]
    | cons p ps ih =>
      intro l h hg n
      cases l with
      | nil => simp at h
      | cons x l =>
        rw [List.zip_cons_cons, List.foldl_cons, ih l (by simpa using h) (fun q hq => hg q (by simp [hq])), sumI_cons]
        show (if decide (p.id ∈ g) = true then n + x else n) + sumI l = _
        rw [if_pos (decide_eq_true (hg p (by simp)))]
        omega
  have := key T.ps l hlen hg 0
  unfold pdL
  omega

set_option maxRecDepth 100000 in
set_option maxHeartbeats 4000000 in
theorem refPaid_any (a b v vg : Value) (T : Tr) (hok : Ok T) (l g : List Int) (w : World) (hT : TrAt w a b T) (hl : IntsAt w v l) (hg : IntsAt w vg g) (hlen : l.length = T.ps.length) (hb : ∀ n ∈ l, 0 ≤ n ∧ n ≤ 1073741824) (hgn : g.length ≤ 1000000) :
    Calls Tryz.prog 64 #[.agg #[a, b], v, vg] w fun e w' => e = .returned (.int .i64 (pdL g (T.ps.zip l))) ∧ Ext w w' := by
  have KN := fun x W (h : Ext w W) => refIn_any vg g x W (hg.ext h) hgn
  obtain ⟨ab, cb, rfl, hlb⟩ := hT.p.len
  obtain ⟨av, cv, rfl, hlv⟩ := hl.len
  have hlp := hok.lp
  have hzl : (T.ps.zip l).length = l.length := by simp; omega
  obtain ⟨X, hX⟩ : ∃ X, pdL g (T.ps.zip l) = X := ⟨_, rfl⟩
  have HX := Lib.hid hX
  rw [hX]
  have HLEN := Lib.hid hlen
  have HZL := Lib.hid hzl
  have HB := Lib.hid hb
  have HKN := Lib.hid KN
  clear hX hlen hzl hb KN
  go_enter Tryz.func64, Tryz.ntmps64
  go_upto_region 1 with fail
  obtain ⟨W1, hW1⟩ : ∃ W1, w.alloc (.cells #[a, .slice ab T.ps.length cb] 25) = W1 := ⟨_, rfl⟩
  have hx1 : Ext w W1 := by rw [← hW1]; exact (by repeat (first | exact Ext.refl _ | assumption | refine Ext.alloc ?_ _ | refine Ext.drew ?_ | refine Ext.drewN _ ?_ | refine Ext.trans ?_ (by assumption)))
  have q1 : Cls w.heap.size 25 #[a, .slice ab T.ps.length cb] W1 := by rw [← hW1]; exact Cls.new _ _ _
  try rw [hW1]
  clear hW1
  go_wp2_with fail
  go_loopw [7, 8] (fun s i wr => ∃ j : Nat, j ≤ l.length ∧ i = .int .i64 j ∧ s = .int .i64 (pdL g ((T.ps.zip l).take j)) ∧ Cls w.heap.size 25 #[a, .slice ab T.ps.length cb] wr ∧ Ext w wr) (fun _ i _ => l.length - (intOf i).toNat)
  case atStart => exact ⟨0, Nat.zero_le _, rfl, rfl, q1, hx1⟩
  case round =>
    clear q1 hx1
    obtain ⟨j, hj, rfl, rfl, q, hx⟩ := hrel
    have d0 := q.cell 0
    have d1 := q.cell 1
    by_cases hlt : j < l.length
    · have hjp : j < T.ps.length := by have := HLEN.out; omega
      have hjz : j < (T.ps.zip l).length := by have := HZL.out; omega
      have hst := pdL_snoc g ((T.ps.zip l).take j) (T.ps.zip l)[j]
      rw [← take_succ_get _ _ hjz, List.getElem_zip] at hst
      have hgs : ∀ n, pdS g n (T.ps[j], l[j]) = if decide (T.ps[j].id ∈ g) = true then n + l[j] else n := fun _ => rfl
      rw [hgs] at hst
      have hb1 := pdL_take_bd (T := T) g HB.out (by have := HLEN.out; omega) j
      have hb2 := pdL_take_bd (T := T) g HB.out (by have := HLEN.out; omega) (j + 1)
      obtain ⟨bb, oo, rfl, c0, c1, c2⟩ := (hT.p.ext hx).get j hjp
      obtain ⟨bv, ov, rfl, e0⟩ := (hl.ext hx).get j hlt
      obtain ⟨x, hxx⟩ : ∃ x, T.ps[j].id = x := ⟨_, rfl⟩
      obtain ⟨z, hzz⟩ : ∃ x, l[j] = x := ⟨_, rfl⟩
      rw [hxx] at c0 hst
      rw [hzz] at e0 hst
      have KN := HKN.out x
      obtain ⟨D, hD⟩ : ∃ D, decide (x ∈ g) = D := ⟨_, rfl⟩
      rw [hD] at KN hst
      obtain ⟨S, hS⟩ : ∃ x, pdL g ((T.ps.zip l).take j) = x := ⟨_, rfl⟩
      rw [hS] at hst hb1 ⊢
      have hjpi : (j : Int) < (T.ps.length : Int) := by omega
      have hjli : (j : Int) < (l.length : Int) := by omega
      have HST := Lib.hid hst
      have HB2 := Lib.hid hb2
      clear hst hgs hb2 hxx hzz hD hS hjz c1 c2
      go_wp2_with fail
      refine (KN _ hx).mono ?_
      rintro e w6 ⟨rfl, hz⟩
      replace e0 := hz.cell e0
      have q6 := q.ext hz
      have hx6 := hx.trans hz
      clear KN d0 d1 c0 q hx hz
      cases D
      · have hs := HST.out
        rw [if_neg (by decide)] at hs
        have HS := Lib.hid hs
        clear hs
        go_wp2_with fail
        go_roundw
        case rel => exact ⟨j + 1, by omega, by go_num, by rw [HS.out], q6, hx6⟩
        case measure => simp [intOf]; omega
      · have hs := HST.out
        rw [if_pos rfl] at hs
        have hb2 := HB2.out
        rw [hs] at hb2
        have hw1 : IntKind.i64.wrap (S + z) = S + z := IntWalk.i64_in _ (by omega)
        have HS := Lib.hid hs
        clear hs hb2
        go_wp2_with fail
        go_roundw
        case rel => exact ⟨j + 1, by omega, by go_num, by rw [HS.out], q6, hx6⟩
        case measure => simp [intOf]; omega
    · obtain rfl : j = l.length := by omega
      rw [List.take_of_length_le (by rw [HZL.out]; omega), HX.out]
      go_wp2_with fail
      go_ret
      exact ⟨rfl, hx⟩

/-- the error and the sum of a group's objection -/
def cobE (T : Tr) (l g : List Int) : Int := if penE T l = 0 then (if grB T.ps g = true then (if pdL g (T.ps.zip l) - alnG T g < 1 then 8 else 0) else 1) else penE T l
def cobN (T : Tr) (l g : List Int) : Int := if cobE T l g = 0 then pdL g (T.ps.zip l) - alnG T g else 0
set_option maxRecDepth 100000 in
set_option maxHeartbeats 4000000 in
theorem refCheckObjection_any (a b v vg : Value) (T : Tr) (l g : List Int) (w : World) (hT : TrAt w a b T) (hl : IntsAt w v l) (hg : IntsAt w vg g) (hn : l.length ≤ 100000) (hgn : g.length ≤ 100000) :
    Calls Tryz.prog 20 #[.agg #[a, b], v, vg] w fun e w' => e = .returned (.tuple #[.int .i64 (cobN T l g), .int .i64 (cobE T l g)]) ∧ Ext w w' := by
  have hE : cobE T l g = if penE T l = 0 then (if grB T.ps g = true then (if pdL g (T.ps.zip l) - alnG T g < 1 then 8 else 0) else 1) else penE T l := rfl
  have hN : cobN T l g = if cobE T l g = 0 then pdL g (T.ps.zip l) - alnG T g else 0 := rfl
  have hok : penE T l = 0 → Ok T ∧ l.length = T.ps.length ∧ ∀ n ∈ l, 0 ≤ n ∧ n ≤ 1073741824 := penE_ok
  have KC := fun W (hx : Ext w W) => refPence_any a b v T l W (hT.ext hx) (hl.ext hx) hn
  have KG := fun (h : penE T l = 0) W (hx : Ext w W) => refGroup_any a b vg T g W (hT.ext hx) (hg.ext hx) hgn (by have := (hok h).1.lp; omega)
  have KP := fun (h : penE T l = 0) W (hx : Ext w W) => refPaid_any a b v vg T (hok h).1 l g W (hT.ext hx) (hl.ext hx) (hg.ext hx) (hok h).2.1 (hok h).2.2 (by omega)
  have KA := fun (h : penE T l = 0) W (hx : Ext w W) => refAlone0_any a b vg T (hok h).1 g W (hT.ext hx) (hg.ext hx) hgn
  have hpb := fun (h : penE T l = 0) => pdL_take_bd (T := T) g (hok h).2.2 (by have := (hok h).1.lp; have := (hok h).2.1; omega) (T.ps.zip l).length
  rw [List.take_length] at hpb
  have hab := fun (h : penE T l = 0) => alnE_bd (hok h).1 (fun p => decide (p.id ∈ g))
  have hga : alnE T (fun p => decide (p.id ∈ g)) = alnG T g := rfl
  rw [hga] at hab
  obtain ⟨E, hEE⟩ : ∃ E, penE T l = E := ⟨_, rfl⟩
  obtain ⟨G, hGG⟩ : ∃ E, grB T.ps g = E := ⟨_, rfl⟩
  obtain ⟨P, hPP⟩ : ∃ E, pdL g (T.ps.zip l) = E := ⟨_, rfl⟩
  obtain ⟨A, hAA⟩ : ∃ E, alnG T g = E := ⟨_, rfl⟩
  obtain ⟨X, hXX⟩ : ∃ E, cobE T l g = E := ⟨_, rfl⟩
  obtain ⟨M, hMM⟩ : ∃ E, cobN T l g = E := ⟨_, rfl⟩
  rw [hEE, hGG, hPP, hAA, hXX] at hE
  rw [hMM, hXX, hPP, hAA] at hN
  rw [hEE] at KC KG KP KA hpb hab
  rw [hGG] at KG
  rw [hPP] at KP hpb
  rw [hAA] at KA hab
  rw [hMM, hXX]
  have HE := Lib.hid hE
  have HN := Lib.hid hN
  have HKG := Lib.hid KG
  have HKP := Lib.hid KP
  have HKA := Lib.hid KA
  have HPB := Lib.hid hpb
  have HAB := Lib.hid hab
  clear hE hN hok KG KP KA hpb hab hga hEE hGG hPP hAA hXX hMM hT hl hg
  go_enter Tryz.func20, Tryz.ntmps20
  go_wp2_with fail
  refine (KC _ (by repeat (first | exact Ext.refl _ | assumption | refine Ext.alloc ?_ _ | refine Ext.drew ?_ | refine Ext.drewN _ ?_ | refine Ext.trans ?_ (by assumption)))).mono ?_
  rintro e w1 ⟨rfl, hx1⟩
  obtain ⟨q0, hx, hk0⟩ := alloc1 hx1
  have d0 : w1.cell? ⟨w.heap.size, 0, none⟩ = some a := q0.cell 0
  have d1 : w1.cell? ⟨w.heap.size, 1, none⟩ = some b := q0.cell 1
  clear hx1 KC
  by_cases h0 : E = 0
  · have hb : (E != 0) = false := by simpa using h0
    have he := HE.out
    rw [if_pos h0] at he
    have HE2 := Lib.hid he
    have KG := HKG.out h0
    have KP := HKP.out h0
    have KA := HKA.out h0
    have hpb := HPB.out h0
    have hab := HAB.out h0
    have HPB2 := Lib.hid hpb
    have HAB2 := Lib.hid hab
    have HKP2 := Lib.hid KP
    have HKA2 := Lib.hid KA
    clear he h0 KP KA hpb hab HE HPB HAB HKG HKP HKA
    go_wp2_with fail
    refine (KG _ hx).mono ?_
    rintro e w2 ⟨rfl, hz⟩
    replace hx := hx.trans hz
    replace q0 := q0.ext hz
    have d0 : w2.cell? ⟨w.heap.size, 0, none⟩ = some a := q0.cell 0
    have d1 : w2.cell? ⟨w.heap.size, 1, none⟩ = some b := q0.cell 1
    clear hz KG
    cases G with
    | false =>
      have he := HE2.out
      rw [if_neg (by decide)] at he
      have hnn := HN.out
      rw [if_neg (by rw [he]; decide)] at hnn
      have HE3 := Lib.hid he
      have HN3 := Lib.hid hnn
      clear he hnn
      go_wp2_with fail
      go_ret2
      exact ⟨ret2 (by rw [HN3.out]; rfl) (by rw [HE3.out]; rfl), hx⟩
    | true =>
      have he := HE2.out
      rw [if_pos rfl] at he
      have hw1 : IntKind.i64.wrap (P - A) = P - A := IntWalk.i64_in _ (by have := HPB2.out; have := HAB2.out; omega)
      have KP := fun W (h : Ext w2 W) => HKP2.out W (hx.trans h)
      have KA := fun W (h : Ext w2 W) => HKA2.out W (hx.trans h)
      have HE3 := Lib.hid he
      clear he HE2
      go_upto_region 7 with fail
      go_region_held3 (fun W' => W'.cell? ⟨w.heap.size, 0, none⟩ = some a ∧ W'.cell? ⟨w.heap.size, 1, none⟩ = some b ∧ Ext w2 W')
        ((refine ⟨Ext.cell (w := w2) ?_ d0, Ext.cell (w := w2) ?_ d1, ?_⟩; all_goals exact (by repeat (first | exact Ext.refl _ | assumption | refine Ext.alloc ?_ _ | refine Ext.drew ?_ | refine Ext.drewN _ ?_ | refine Ext.trans ?_ (by assumption)))))
        ((first | (go_at_call 64; (with_reducible refine (KP _ ?_).mono ?_); (focus (exact (by repeat (first | exact Ext.refl _ | assumption | refine Ext.alloc ?_ _ | refine Ext.drew ?_ | refine Ext.drewN _ ?_ | refine Ext.trans ?_ (by assumption))))); rintro e w' ⟨rfl, hz⟩) | (go_at_call 51; (with_reducible refine (KA _ ?_).mono ?_); (focus (exact (by repeat (first | exact Ext.refl _ | assumption | refine Ext.alloc ?_ _ | refine Ext.drew ?_ | refine Ext.drewN _ ?_ | refine Ext.trans ?_ (by assumption))))); rintro e w' ⟨rfl, hz⟩)))
      all_goals
        by_cases hlt : P - A < 1
        · have he := HE3.out
          rw [if_pos hlt] at he
          have hnn := HN.out
          rw [if_neg (by rw [he]; decide)] at hnn
          have HE4 := Lib.hid he
          have HN4 := Lib.hid hnn
          have hbq : decide (P - A < 1) = true := decide_eq_true hlt
          clear he hnn
          go_wp2_with fail
          go_ret2
          exact ⟨ret2 (by rw [HN4.out]; rfl) (by rw [HE4.out]; rfl), hx.trans (by repeat (first | exact Ext.refl _ | assumption | refine Ext.alloc ?_ _ | refine Ext.drew ?_ | refine Ext.drewN _ ?_ | refine Ext.trans ?_ (by assumption)))⟩
        · have he := HE3.out
          rw [if_neg hlt] at he
          have hnn := HN.out
          rw [if_pos he] at hnn
          have HE4 := Lib.hid he
          have HN4 := Lib.hid hnn
          have hbq : decide (P - A < 1) = false := decide_eq_false hlt
          clear he hnn
          go_wp2_with fail
          go_ret2
          exact ⟨ret2 (by rw [HN4.out]; rfl) (by rw [HE4.out]; rfl), hx.trans (by repeat (first | exact Ext.refl _ | assumption | refine Ext.alloc ?_ _ | refine Ext.drew ?_ | refine Ext.drewN _ ?_ | refine Ext.trans ?_ (by assumption)))⟩
  · have hb : (E != 0) = true := by simpa using h0
    have he := HE.out
    rw [if_neg h0] at he
    have hnn := HN.out
    rw [if_neg (by rw [he]; exact h0)] at hnn
    have HE2 := Lib.hid he
    have HN2 := Lib.hid hnn
    clear he hnn h0
    go_wp2_with fail
    go_ret2
    exact ⟨ret2 (by rw [HN2.out]; rfl) (by rw [HE2.out]; rfl), hx⟩
end Go.Proofs.YthopgonbndoidaaGreat
