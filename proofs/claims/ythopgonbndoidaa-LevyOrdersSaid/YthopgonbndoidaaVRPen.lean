/- in and group of the specification, and its comparing of lists. users of the specification. pence of the specification. divided of the specification: what it computes. No program in sight. -/
import Derived.Test.YthopgonbndoidaaVRChk
namespace Go.Proofs.Ythopgonbndoidaa
open Go.RowKit Go.Shelf

set_option maxRecDepth 100000 in
set_option maxHeartbeats 2000000 in
theorem refIn_any (v : Value) (l : List Int) (n : Int) (w : World) (hl : IntsAt w v l) (hn : l.length ≤ 1000000) :
    Calls Try.prog 110 #[v, .int .i64 n] w fun e w' => e = .returned (.bool (decide (n ∈ l))) ∧ Ext w w' := by
  obtain ⟨ao, cap, rfl, hcap⟩ := hl.len
  obtain ⟨D, hD⟩ : ∃ D, decide (n ∈ l) = D := ⟨_, rfl⟩
  have HD := Lib.hid hD
  rw [hD]
  clear hD
  go_enter Try.func110, Try.ntmps110
  go_wp2_with fail
  go_loopw [5] (fun i wr => ∃ k : Nat, k ≤ l.length ∧ i = .int .i64 k ∧ Hid (∀ j (h : j < l.length), j < k → l[j] ≠ n) ∧ Ext w wr) (fun i _ => l.length - (intOf i).toNat)
  case atStart => exact ⟨0, Nat.zero_le _, rfl, Lib.hid (fun _ _ h => by omega), Ext.refl _⟩
  case round =>
    obtain ⟨k, hk, rfl, HK, hx⟩ := hrel
    by_cases hlt : k < l.length
    · obtain ⟨b, o, rfl, c0⟩ := (hl.ext hx).get k hlt
      obtain ⟨x, hxx⟩ : ∃ x, l[k] = x := ⟨_, rfl⟩
      rw [hxx] at c0
      cases hq : (x == n)
      · have hne : x ≠ n := by simpa using hq
        have HK2 : Hid (∀ j (h : j < l.length), j < k + 1 → l[j] ≠ n) := Lib.hid (fun j h hj => by
          by_cases hjk : j = k
          · subst hjk; rw [hxx]; exact hne
          · exact HK.out j h (by omega))
        clear hxx hne HK
        go_wp2
        go_roundw
        case rel => exact ⟨k + 1, by omega, by go_num, HK2, hx⟩
        case measure => simp [intOf]; omega
      · have hm : D = true := by
          rw [← HD.out, decide_eq_true_eq]
          have : x = n := by simpa using hq
          rw [← this, ← hxx]
          exact List.getElem_mem _
        have HM := Lib.hid hm
        clear hxx hm HK
        go_wp2
        go_ret
        exact ⟨ret_bool HM.out.symm, hx⟩
    · have hm : D = false := by
        rw [← HD.out, decide_eq_false_iff_not]
        intro hm
        obtain ⟨j, hj, hjn⟩ := List.mem_iff_getElem.1 hm
        exact HK.out j hj (by omega) hjn
      have HM := Lib.hid hm
      clear hm HK
      go_wp2
      go_ret
      exact ⟨ret_bool HM.out.symm, hx⟩

set_option maxRecDepth 100000 in
set_option maxHeartbeats 2000000 in
theorem refSame_any (v u : Value) (l r : List Int) (w : World) (hl : IntsAt w v l) (hr : IntsAt w u r) (hn : l.length ≤ 1000000) :
    Calls Try.prog 42 #[v, u] w fun e w' => e = .returned (.bool (decide (l = r))) ∧ Ext w w' := by
  obtain ⟨ao, cap, rfl, hcap⟩ := hl.len
  obtain ⟨bo, cap2, rfl, hcap2⟩ := hr.len
  obtain ⟨D, hD⟩ : ∃ D, decide (l = r) = D := ⟨_, rfl⟩
  have HD := Lib.hid hD
  rw [hD]
  clear hD
  by_cases hlen : l.length = r.length
  · have HL := Lib.hid hlen
    have hb : ((l.length : Int) == (r.length : Int)) = true := by simp [hlen]
    rw [← hlen]
    clear hlen hb
    go_enter Try.func42, Try.ntmps42
    go_wp2_with fail
    go_loopw [5] (fun i wr => ∃ k : Nat, k ≤ l.length ∧ i = .int .i64 k ∧ Hid (∀ j (h : j < l.length) (h' : j < r.length), j < k → l[j] = r[j]) ∧ Ext w wr) (fun i _ => l.length - (intOf i).toNat)
    case atStart => exact ⟨0, Nat.zero_le _, rfl, Lib.hid (fun _ _ _ h => by omega), Ext.refl _⟩
    case round =>
      obtain ⟨k, hk, rfl, HK, hx⟩ := hrel
      by_cases hlt : k < l.length
      · have hlt2 : k < r.length := by have := HL.out; omega
        have hr' := hr.ext hx
        obtain ⟨b, o, rfl, c0⟩ := (hl.ext hx).get k hlt
        obtain ⟨b2, o2, rfl, c1⟩ := hr'.get k hlt2
        obtain ⟨x, hxx⟩ : ∃ x, l[k] = x := ⟨_, rfl⟩
        obtain ⟨y, hyy⟩ : ∃ x, r[k] = x := ⟨_, rfl⟩
        rw [hxx] at c0
        rw [hyy] at c1
        have hkr : (k : Int) < (r.length : Int) := by omega
        by_cases hq : x = y
        · have HK2 : Hid (∀ j (h : j < l.length) (h' : j < r.length), j < k + 1 → l[j] = r[j]) := Lib.hid (fun j h h' hj => by
            by_cases hjk : j = k
            · subst hjk; rw [hxx, hyy]; exact hq
            · exact HK.out j h h' (by omega))
          subst hq
          clear hxx hyy HK hr'
          go_wp2_with fail
          (try go_quiet (fail))
          (try go_wp2_with fail)
          go_roundw
          case rel => exact ⟨k + 1, by omega, by go_num, HK2, hx.trans (by repeat (first | exact Ext.refl _ | assumption | refine Ext.alloc ?_ _ | refine Ext.drew ?_ | refine Ext.drewN _ ?_ | refine Ext.trans ?_ (by assumption)))⟩
          case measure => simp [intOf]; omega
        · have hm : D = false := by
            rw [← HD.out, decide_eq_false_iff_not]
            intro he
            subst he
            exact hq (by rw [← hxx, ← hyy])
          have HM := Lib.hid hm
          have hqb : (x == y) = false := by simpa using hq
          have hqb2 : (x != y) = true := by simpa using hq
          clear hxx hyy hm HK hr'
          go_wp2_with fail
          (try go_quiet (fail))
          (try go_wp2_with fail)
          go_ret
          exact ⟨ret_bool HM.out.symm, hx.trans (by repeat (first | exact Ext.refl _ | assumption | refine Ext.alloc ?_ _ | refine Ext.drew ?_ | refine Ext.drewN _ ?_ | refine Ext.trans ?_ (by assumption)))⟩
      · have hm : D = true := by
          rw [← HD.out, decide_eq_true_eq]
          exact List.ext_getElem HL.out (fun j h1 h2 => HK.out j h1 h2 (by omega))
        have HM := Lib.hid hm
        clear hm HK
        go_wp2
        go_ret
        exact ⟨ret_bool HM.out.symm, hx⟩
  · have hm : D = false := by
      rw [← HD.out, decide_eq_false_iff_not]
      intro he
      exact hlen (by rw [he])
    have HM := Lib.hid hm
    have hne : ¬ ((l.length : Int) = (r.length : Int)) := by omega
    clear hm hlen
    go_enter Try.func42, Try.ntmps42
    go_wp2
    go_ret
    exact ⟨ret_bool HM.out.symm, Ext.refl _⟩
end Go.Proofs.Ythopgonbndoidaa
namespace Go.Proofs.Ythopgonbndoidaa
open Go.RowKit Go.Shelf

/-- the IDs of those who use a reach, in order -/
def usrS (rs : List Rc) (k : Int) (o : List Int) (p : Py) : List Int := if usB rs p.reach k = true then putL o p.id else o
def usrL (rs : List Rc) (k : Int) (l : List Py) : List Int := l.foldl (usrS rs k) []
theorem usrL_snoc (rs : List Rc) (k : Int) (l : List Py) (p : Py) : usrL rs k (l ++ [p]) = usrS rs k (usrL rs k l) p := by simp [usrL]
theorem usrL_len (rs : List Rc) (k : Int) (l : List Py) : (usrL rs k l).length ≤ l.length := by
  induction l using snoc_ind with
  | h0 => simp [usrL]
  | h1 l p ih =>
    rw [usrL_snoc]
    unfold usrS
    split
    · rw [putL_len]; simp; omega
    · simp; omega

theorem getD_take {α : Type} (l : List α) (k : Nat) (h : k < l.length) : l.take (k + 1) = l.take k ++ [l[k]] := by
  rw [List.take_succ_eq_append_getElem h]
set_option maxRecDepth 100000 in
set_option maxHeartbeats 4000000 in
theorem refUsers_any (a b : Value) (T : Tr) (hok : Ok T) (k : Int) (w : World) (hT : TrAt w a b T) :
    Calls Try.prog 94 #[.agg #[a, b], .int .i64 k] w fun e w' => ∃ u, e = .returned u ∧ IntsAt w' u (usrL T.rs k T.ps) ∧ Ext w w' := by
  obtain ⟨ab, cb, rfl, hlb⟩ := hT.p.len
  have hlp := hok.lp
  obtain ⟨X, hX⟩ : ∃ X, usrL T.rs k T.ps = X := ⟨_, rfl⟩
  have HX := Lib.hid hX
  rw [hX]
  clear hX
  go_enter Try.func94, Try.ntmps94
  go_upto_region 1 with fail
  obtain ⟨W1, hW1⟩ : ∃ W1, w.alloc (.cells #[a, .slice ab T.ps.length cb] 25) = W1 := ⟨_, rfl⟩
  have hx1 : Ext w W1 := by rw [← hW1]; exact (by repeat (first | exact Ext.refl _ | assumption | refine Ext.alloc ?_ _ | refine Ext.drew ?_ | refine Ext.drewN _ ?_ | refine Ext.trans ?_ (by assumption)))
  have q1 : Cls w.heap.size 25 #[a, .slice ab T.ps.length cb] W1 := by rw [← hW1]; exact Cls.new _ _ _
  try rw [hW1]
  clear hW1
  go_wp2_with fail
  go_loopw [5, 6] (fun o i wr => ∃ j : Nat, j ≤ T.ps.length ∧ i = .int .i64 j ∧ Hid (IntsAt wr o (usrL T.rs k (T.ps.take j))) ∧ Cls w.heap.size 25 #[a, .slice ab T.ps.length cb] wr ∧ Ext w wr) (fun _ i _ => T.ps.length - (intOf i).toNat)
  case atStart => exact ⟨0, Nat.zero_le _, rfl, Lib.hid (intsAt_nil _), q1, hx1⟩
  case round =>
    clear q1 hx1
    obtain ⟨j, hj, rfl, HI, q, hx⟩ := hrel
    have d0 : wr.cell? ⟨w.heap.size, 0, none⟩ = some a := q.cell 0
    have d1 : wr.cell? ⟨w.heap.size, 1, none⟩ = some (.slice ab T.ps.length cb) := q.cell 1
    by_cases hlt : j < T.ps.length
    · obtain ⟨bb, oo, rfl, c0, c1, c2⟩ := (hT.p.ext hx).get j hlt
      have hpv := hok.pv _ (List.getElem_mem hlt)
      have hsn := usrL_snoc T.rs k (T.ps.take j) T.ps[j]
      rw [← getD_take T.ps j hlt] at hsn
      have hid : T.ps[j] = ⟨T.ps[j].id, T.ps[j].reach, T.ps[j].w⟩ := rfl
      obtain ⟨x, hxx⟩ : ∃ x, T.ps[j].id = x := ⟨_, rfl⟩
      obtain ⟨y, hyy⟩ : ∃ x, T.ps[j].reach = x := ⟨_, rfl⟩
      rw [hxx] at c0 hid
      rw [hyy] at c1 hid hpv
      rw [hid] at hsn
      have hll : (usrL T.rs k (T.ps.take j)).length ≤ 24 := Nat.le_trans (usrL_len _ _ _) (by simp; omega)
      obtain ⟨L, hL⟩ : ∃ L, usrL T.rs k (T.ps.take j) = L := ⟨_, rfl⟩
      rw [hL] at hsn HI hll
      have KU := fun W (h : Ext w W) => refUses_any _ _ T hok.rv y k W (hT.ext h) (by have := hpv.2.1.1; omega) hpv.2.1.2
      obtain ⟨u, hu⟩ : ∃ u, usB T.rs y k = u := ⟨_, rfl⟩
      have hsn2 : usrL T.rs k (T.ps.take (j + 1)) = if u = true then putL L x else L := by rw [hsn, ← hu]; rfl
      rw [hu] at KU
      have HKU := Lib.hid KU
      have HSN := Lib.hid hsn2
      obtain ⟨oA, oc, hoo, hol⟩ := HI.out.len
      subst hoo
      clear hsn hsn2 hid hxx hyy hL hu KU hpv
      go_wp2_with fail
      go_still_tail 8, (by kernel_rfl)
      change wpList _ _ _ _ _ wr.drew
      obtain ⟨V, hV⟩ : ∃ V, wr.drew = V := ⟨_, rfl⟩
      have hxV : Ext wr V := by rw [← hV]; exact (by repeat (first | exact Ext.refl _ | assumption | refine Ext.alloc ?_ _ | refine Ext.drew ?_ | refine Ext.drewN _ ?_ | refine Ext.trans ?_ (by assumption)))
      rw [hV]
      clear hV
      go_wp2_with fail
      refine (HKU.out _ (hx.trans hxV)).mono ?_
      rintro e w6 ⟨rfl, hz⟩
      have hz6 := hxV.trans hz
      have hx6 := hx.trans hz6
      have q6 := q.ext hz6
      have hI6 := HI.out.ext hz6
      replace d0 := hz6.cell d0
      replace d1 := hz6.cell d1
      replace c0 := hz6.cell c0
      have HI6 := Lib.hid hI6
      clear hz hxV hz6 hI6 hx q HI c1 c2
      cases u
      · have hs := HSN.out
        rw [if_neg (by decide)] at hs
        have HS := Lib.hid hs
        clear hs
        go_wp2_with fail
        go_roundw
        case rel => exact ⟨j + 1, by omega, by go_num, by rw [HS.out]; exact HI6, q6, hx6⟩
        case measure => simp [intOf]; omega
      · have hs := HSN.out
        rw [if_pos rfl] at hs
        have HS := Lib.hid hs
        clear hs
        go_wp2_with fail
        refine (refPut_any _ L x _ HI6.out (by omega)).mono ?_
        rintro e w7 ⟨v, rfl, hv, hz⟩
        have hv2 := hv.at_
        clear d0 d1 c0
        go_wp2_with fail
        go_roundw
        case rel => exact ⟨j + 1, by omega, by go_num, by rw [HS.out]; exact Lib.hid hv2, q6.ext hz, hx6.trans hz⟩
        case measure => simp [intOf]; omega
    · obtain rfl : j = T.ps.length := by omega
      have hI := HI.out
      rw [List.take_length, HX.out] at hI
      clear HI
      go_wp2_with fail
      go_ret
      exact ⟨_, rfl, hI, hx⟩
end Go.Proofs.Ythopgonbndoidaa
namespace Go.Proofs.Ythopgonbndoidaa
open Go.RowKit Go.Shelf

set_option maxRecDepth 100000 in
set_option maxHeartbeats 4000000 in
theorem refPence_any (a b v : Value) (T : Tr) (l : List Int) (w : World) (hT : TrAt w a b T) (hl : IntsAt w v l) (hn : l.length ≤ 100000) :
    Calls Try.prog 98 #[.agg #[a, b], v] w fun e w' => e = .returned (.int .i64 (penE T l)) ∧ Ext w w' := by
  obtain ⟨ab, cb, rfl, hlb⟩ := hT.p.len
  obtain ⟨av, cv, rfl, hlv⟩ := hl.len
  have hE : penE T l = if chkE T = 0 then (if l.length = T.ps.length then (if 0 ≤ badF 0 l then 1 else 0) else 1) else chkE T := rfl
  obtain ⟨E, hEE⟩ : ∃ E, penE T l = E := ⟨_, rfl⟩
  obtain ⟨C, hCC⟩ : ∃ E, chkE T = E := ⟨_, rfl⟩
  rw [hEE, hCC] at hE
  rw [hEE]
  have HC := Lib.hid hCC
  have HE := Lib.hid hE
  clear hEE hCC hE
  go_enter Try.func98, Try.ntmps98
  go_wp2_with fail
  refine (refCheck_any _ _ T _ (hT.ext (by repeat (first | exact Ext.refl _ | assumption | refine Ext.alloc ?_ _ | refine Ext.drew ?_ | refine Ext.drewN _ ?_ | refine Ext.trans ?_ (by assumption))))).mono ?_
  rw [HC.out]
  rintro e w1 ⟨rfl, hx1⟩
  obtain ⟨q0, hx, hk0⟩ := alloc1 hx1
  have d0 : w1.cell? ⟨w.heap.size, 0, none⟩ = some a := q0.cell 0
  have d1 : w1.cell? ⟨w.heap.size, 1, none⟩ = some (.slice ab T.ps.length cb) := q0.cell 1
  clear hx1 q0
  by_cases h0 : C = 0
  · have hb : (C != 0) = false := by simpa using h0
    have he := HE.out
    rw [if_pos h0] at he
    have HE2 := Lib.hid he
    clear he h0
    by_cases hlen : l.length = T.ps.length
    · have he := HE2.out
      rw [if_pos hlen] at he
      have HE3 := Lib.hid he
      have hb2 : ((l.length : Int) == (T.ps.length : Int)) = true := by simp [hlen]
      have hli : (l.length : Int) = (T.ps.length : Int) := by omega
      have HLI := Lib.hid hli
      clear he hlen hb2
      go_wp2_with fail
      clear hli
      go_loopw [6] (fun i wr => ∃ k : Nat, k ≤ l.length ∧ i = .int .i64 k ∧ Hid (badF 0 l = badF k (l.drop k)) ∧ Ext w wr) (fun i _ => l.length - (intOf i).toNat)
      case atStart => exact ⟨0, Nat.zero_le _, rfl, Lib.hid rfl, hx⟩
      case round =>
        clear hx d0 d1
        obtain ⟨k, hk, rfl, HK, hx⟩ := hrel
        by_cases hlt : k < l.length
        · obtain ⟨b, o, rfl, c0⟩ := (hl.ext hx).get k hlt
          have hhit := badF_hit hlt
          have hmiss := badF_miss hlt
          rw [← HK.out] at hhit hmiss
          obtain ⟨x, hxx⟩ : ∃ x, l[k] = x := ⟨_, rfl⟩
          rw [hxx] at c0 hhit hmiss
          obtain ⟨B, hB⟩ : ∃ B, inB x 0 1073741824 = B := ⟨_, rfl⟩
          rw [hB] at hhit hmiss
          have HB := Lib.hid hB
          clear hxx hB
          cases B
          · have he := HE3.out
            rw [if_pos (by rw [hhit rfl]; omega)] at he
            have HX := Lib.hid he
            clear he hhit hmiss
            go_wp2_with (go_at_call 77; refine (refWithin_any _ _ _ _).mono ?_; rw [HB.out]; rintro e w2 ⟨rfl, rfl⟩)
            go_ret
            exact ⟨ret_int HX.out.symm, hx⟩
          · have HM := Lib.hid (hmiss rfl)
            clear hhit hmiss
            go_wp2_with (go_at_call 77; refine (refWithin_any _ _ _ _).mono ?_; rw [HB.out]; rintro e w2 ⟨rfl, rfl⟩)
            go_roundw
            case rel => exact ⟨k + 1, by omega, by go_num, HM, hx⟩
            case measure => simp [intOf]; omega
        · obtain rfl : k = l.length := by omega
          have he := HE3.out
          have hk2 := HK.out
          rw [badF_end] at hk2
          rw [if_neg (by omega)] at he
          have HX := Lib.hid he
          clear he hk2
          go_wp2
          go_ret
          exact ⟨ret_int HX.out.symm, hx⟩
    · have he := HE2.out
      rw [if_neg hlen] at he
      have HE3 := Lib.hid he
      have hne : ¬ ((l.length : Int) = (T.ps.length : Int)) := by omega
      clear he hlen
      go_wp2_with fail
      go_ret
      exact ⟨ret_int HE3.out.symm, hx⟩
  · have hb : (C != 0) = true := by simpa using h0
    have he := HE.out
    rw [if_neg h0] at he
    have HE2 := Lib.hid he
    clear he h0
    go_wp2_with fail
    go_ret
    exact ⟨ret_int HE2.out.symm, hx⟩
end Go.Proofs.Ythopgonbndoidaa
namespace Go.Proofs.Ythopgonbndoidaa
open Go.RowKit Go.Shelf

theorem sumI_from (l : List Int) (n : Int) : l.foldl (· + ·) n = n + sumI l := by
  induction l generalizing n with
  | nil => simp [sumI]
  | cons p l ih => simp only [List.foldl_cons, sumI]; rw [ih, ih (0 + p)]; omega
theorem sumI_cons (p : Int) (l : List Int) : sumI (p :: l) = p + sumI l := by
  show (p :: l).foldl _ 0 = _
  rw [List.foldl_cons, sumI_from]; omega
theorem sumI_append (l r : List Int) : sumI (l ++ r) = sumI l + sumI r := by
  unfold sumI
  rw [List.foldl_append, sumI_from]
  rfl
/-- one number of a division -/
def celB (T : Tr) (k i : Nat) (x : Int) : Bool := inB x 0 1073741824 && (usB T.rs (T.ps.getD i ⟨0, 0, 0⟩).reach k || !(decide (0 < x)))
def rowB (T : Tr) (k : Nat) (row : List Int) : Bool := (List.range row.length).all (fun i => celB T k i (row.getD i 0))
def toB (T : Tr) (k : Nat) (row : List Int) : Bool := !(decide (0 < (usrL T.rs k T.ps).length)) || sumI row == cst T.rs k
def linB (T : Tr) (n k : Nat) (row : List Int) : Bool := decide (row.length = n) && (rowB T k row && toB T k row)
def colS (D : List (List Int)) (i : Nat) : Int := sumI (D.map (fun r => r.getD i 0))
def dvdB (T : Tr) (l : List Int) (D : List (List Int)) : Bool :=
  decide (D.length = T.rs.length) && ((List.range D.length).all (fun k => linB T l.length k (D.getD k [])) && (List.range l.length).all (fun i => l.getD i 0 - colS D i == 0))
theorem colS_take {D : List (List Int)} {k : Nat} (h : k < D.length) (i : Nat) : colS (D.take (k + 1)) i = colS (D.take k) i + D[k].getD i 0 := by
  unfold colS
  rw [List.take_succ_eq_append_getElem h, List.map_append, sumI_append]
  simp [sumI]
/-- what is left of the pence: the first i payers have paid in k + 1 rows, the others in k -/
def rstF (l : List Int) (D : List (List Int)) (k i : Nat) : List Int := (List.range l.length).map (fun j => l.getD j 0 - colS (D.take (if j < i then k + 1 else k)) j)
theorem rstF_len (l : List Int) (D : List (List Int)) (k i : Nat) : (rstF l D k i).length = l.length := by simp [rstF]
theorem rstF_get {l : List Int} {D : List (List Int)} {k i j : Nat} (h : j < (rstF l D k i).length) : (rstF l D k i)[j] = l.getD j 0 - colS (D.take (if j < i then k + 1 else k)) j := by simp [rstF]
theorem rstF_zero (l : List Int) (D : List (List Int)) : rstF l D 0 0 = l := by
  apply List.ext_getElem (by simp [rstF])
  intro j h1 h2
  rw [rstF_get]
  simp [colS, sumI, List.getD_eq_getElem?_getD, h2]
theorem rstF_end (l : List Int) (D : List (List Int)) (k : Nat) : rstF l D k l.length = rstF l D (k + 1) 0 := by
  apply List.ext_getElem (by simp [rstF])
  intro j h1 h2
  rw [rstF_get, rstF_get]
  have : j < l.length := by simpa [rstF] using h1
  rw [if_pos this, if_neg (by omega)]
theorem rstF_set {l : List Int} {D : List (List Int)} {k i : Nat} (hk : k < D.length) (_hi : i < l.length) : (rstF l D k i).set i (l.getD i 0 - colS (D.take k) i - D[k].getD i 0) = rstF l D k (i + 1) := by
  apply List.ext_getElem (by simp [rstF])
  intro j h1 h2
  rw [List.getElem_set, rstF_get, rstF_get]
  by_cases hj : i = j
  · subst hj
    rw [if_pos rfl, if_pos (by omega), colS_take hk]
    omega
  · rw [if_neg hj]
    by_cases hji : j < i
    · rw [if_pos hji, if_pos (by omega)]
    · rw [if_neg hji, if_neg (by omega)]
/-- the numbers that have been looked at lie within bounds -/
theorem colS_bd {D : List (List Int)} {i k : Nat} (h : ∀ j (hj : j < D.length), j < k → 0 ≤ D[j].getD i 0 ∧ D[j].getD i 0 ≤ 1073741824) : 0 ≤ colS (D.take k) i ∧ colS (D.take k) i ≤ k * 1073741824 := by
  induction k with
  | zero => simp [colS, sumI]
  | succ k ih =>
    have h1 := ih (fun j hj hk => h j hj (by omega))
    by_cases hk : k < D.length
    · rw [colS_take hk]
      have := h k hk (by omega)
      push_cast
      omega
    · rw [List.take_of_length_le (by omega)] at h1 ⊢
      push_cast
      omega
theorem celB_bd {T : Tr} {k i : Nat} {x : Int} (h : celB T k i x = true) : 0 ≤ x ∧ x ≤ 1073741824 := by
  unfold celB at h
  rw [Bool.and_eq_true] at h
  exact inB_t h.1
theorem rowB_get {T : Tr} {k : Nat} {row : List Int} (h : rowB T k row = true) {i : Nat} (hi : i < row.length) : celB T k i (row.getD i 0) = true := by
  unfold rowB at h
  rw [List.all_eq_true] at h
  exact h i (by simpa using hi)
theorem rowB_bd {T : Tr} {k : Nat} {row : List Int} (h : rowB T k row = true) (i : Nat) : 0 ≤ row.getD i 0 ∧ row.getD i 0 ≤ 1073741824 := by
  by_cases hi : i < row.length
  · exact celB_bd (rowB_get h hi)
  · rw [List.getD_eq_getElem?_getD, List.getElem?_eq_none (by omega)]
    simp
theorem sumI_take_bd {row : List Int} (h : ∀ i, 0 ≤ row.getD i 0 ∧ row.getD i 0 ≤ 1073741824) (k : Nat) : 0 ≤ sumI (row.take k) ∧ sumI (row.take k) ≤ k * 1073741824 := by
  induction k with
  | zero => simp [sumI]
  | succ k ih =>
    by_cases hk : k < row.length
    · rw [List.take_succ_eq_append_getElem hk, sumI_append]
      have := h k
      rw [List.getD_eq_getElem?_getD, List.getElem?_eq_getElem hk] at this
      simp only [Option.getD_some] at this
      have e : sumI [row[k]] = row[k] := by simp [sumI]
      rw [e]
      push_cast
      omega
    · rw [List.take_of_length_le (by omega)] at ih ⊢
      push_cast
      omega
theorem sumI_take {row : List Int} {k : Nat} (h : k < row.length) : sumI (row.take (k + 1)) = sumI (row.take k) + row[k] := by
  rw [List.take_succ_eq_append_getElem h, sumI_append]
  simp [sumI]
theorem dvd_line {T : Tr} {l : List Int} {D : List (List Int)} {k : Nat} (h : k < D.length) (hb : linB T l.length k D[k] = false) : dvdB T l D = false := by
  unfold dvdB
  rw [Bool.and_eq_false_iff]
  right
  rw [Bool.and_eq_false_iff]
  left
  rw [List.all_eq_false]
  exact ⟨k, by simpa using h, by rw [List.getD_eq_getElem?_getD, List.getElem?_eq_getElem h]; simpa using hb⟩
theorem dvd_rest {T : Tr} {l : List Int} {D : List (List Int)} {i : Nat} (h : i < l.length) (hb : ¬ l.getD i 0 - colS D i = 0) : dvdB T l D = false := by
  unfold dvdB
  rw [Bool.and_eq_false_iff]
  right
  rw [Bool.and_eq_false_iff]
  right
  rw [List.all_eq_false]
  exact ⟨i, by simpa using h, by simpa using hb⟩
theorem dvd_len {T : Tr} {l : List Int} {D : List (List Int)} (h : D.length ≠ T.rs.length) : dvdB T l D = false := by
  unfold dvdB
  rw [decide_eq_false h, Bool.false_and]
theorem dvd_ok {T : Tr} {l : List Int} {D : List (List Int)} (h : D.length = T.rs.length) (h1 : ∀ k (hk : k < D.length), linB T l.length k D[k] = true) (h2 : ∀ i, i < l.length → l.getD i 0 - colS D i = 0) : dvdB T l D = true := by
  unfold dvdB
  rw [decide_eq_true h, Bool.true_and, Bool.and_eq_true]
  constructor
  · rw [List.all_eq_true]
    intro k hk
    have hk' : k < D.length := by simpa using hk
    rw [List.getD_eq_getElem?_getD, List.getElem?_eq_getElem hk']
    exact h1 k hk'
  · rw [List.all_eq_true]
    intro i hi
    simpa using h2 i (by simpa using hi)
theorem row_bad {T : Tr} {k : Nat} {row : List Int} {i : Nat} (hi : i < row.length) (h : celB T k i row[i] = false) : rowB T k row = false := by
  unfold rowB
  rw [List.all_eq_false]
  exact ⟨i, by simpa using hi, by rw [List.getD_eq_getElem?_getD, List.getElem?_eq_getElem hi]; simpa using h⟩
theorem row_ok {T : Tr} {k : Nat} {row : List Int} (h : ∀ i (hi : i < row.length), celB T k i row[i] = true) : rowB T k row = true := by
  unfold rowB
  rw [List.all_eq_true]
  intro i hi
  have hi' : i < row.length := by simpa using hi
  rw [List.getD_eq_getElem?_getD, List.getElem?_eq_getElem hi']
  exact h i hi'
def dveE (T : Tr) (l : List Int) (D : List (List Int)) : Int := if penE T l = 0 then (if dvdB T l D = true then 0 else 8) else penE T l
end Go.Proofs.Ythopgonbndoidaa
