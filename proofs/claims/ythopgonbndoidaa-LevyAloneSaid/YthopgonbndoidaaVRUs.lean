/- users of the specification. -/
import Derived.Test.YthopgonbndoidaaVRIn
namespace Go.Proofs.Ythopgonbndoidaa
open Go.RowKit Go.Shelf

/-- the IDs of those who use a reach, in order -/
def usrS (rs : List Rc) (k : Int) (o : List Int) (p : Py) : List Int := if usB rs p.reach k = true then putL o p.id else o
def usrL (rs : List Rc) (k : Int) (l : List Py) : List Int := l.foldl (usrS rs k) []
theorem usrL_snoc (rs : List Rc) (k : Int) (l : List Py) (p : Py) : usrL rs k (l ++ [p]) = usrS rs k (usrL rs k l) p := by simp [usrL]
theorem usrL_len (rs : List Rc) (k : Int) (l : List Py) : (usrL rs k l).length ≤ l.length := by
  induction l using snoc_ind with
  | h0 => simp [usrL]
  | h1 l p ih =>
    rw [usrL_snoc]
    unfold usrS
    split
    · rw [putL_len]; simp; omega
    · simp; omega

theorem getD_take {α : Type} (l : List α) (k : Nat) (h : k < l.length) : l.take (k + 1) = l.take k ++ [l[k]] := by
  rw [List.take_succ_eq_append_getElem h]
set_option maxRecDepth 100000 in
set_option maxHeartbeats 4000000 in
theorem refUsers_any (a b : Value) (T : Tr) (hok : Ok T) (k : Int) (w : World) (hT : TrAt w a b T) :
    Calls Try.prog 94 #[.agg #[a, b], .int .i64 k] w fun e w' => ∃ u, e = .returned u ∧ IntsAt w' u (usrL T.rs k T.ps) ∧ Ext w w' := by
  obtain ⟨ab, cb, rfl, hlb⟩ := hT.p.len
  have hlp := hok.lp
  obtain ⟨X, hX⟩ : ∃ X, usrL T.rs k T.ps = X := ⟨_, rfl⟩
  have HX := Lib.hid hX
  rw [hX]
  clear hX
  go_enter Try.func94, Try.ntmps94
  go_upto_region 1 with fail
  obtain ⟨W1, hW1⟩ : ∃ W1, w.alloc (.cells #[a, .slice ab T.ps.length cb] 25) = W1 := ⟨_, rfl⟩
  have hx1 : Ext w W1 := by rw [← hW1]; exact (by repeat (first | exact Ext.refl _ | assumption | refine Ext.alloc ?_ _ | refine Ext.drew ?_ | refine Ext.drewN _ ?_ | refine Ext.trans ?_ (by assumption)))
  have q1 : Cls w.heap.size 25 #[a, .slice ab T.ps.length cb] W1 := by rw [← hW1]; exact Cls.new _ _ _
  try rw [hW1]
  clear hW1
  go_wp2_with fail
  go_loopw [5, 6] (fun o i wr => ∃ j : Nat, j ≤ T.ps.length ∧ i = .int .i64 j ∧ Hid (IntsAt wr o (usrL T.rs k (T.ps.take j))) ∧ Cls w.heap.size 25 #[a, .slice ab T.ps.length cb] wr ∧ Ext w wr) (fun _ i _ => T.ps.length - (intOf i).toNat)
  case atStart => exact ⟨0, Nat.zero_le _, rfl, Lib.hid (intsAt_nil _), q1, hx1⟩
  case round =>
    clear q1 hx1
    obtain ⟨j, hj, rfl, HI, q, hx⟩ := hrel
    have d0 : wr.cell? ⟨w.heap.size, 0, none⟩ = some a := q.cell 0
    have d1 : wr.cell? ⟨w.heap.size, 1, none⟩ = some (.slice ab T.ps.length cb) := q.cell 1
    by_cases hlt : j < T.ps.length
    · obtain ⟨bb, oo, rfl, c0, c1, c2⟩ := (hT.p.ext hx).get j hlt
      have hpv := hok.pv _ (List.getElem_mem hlt)
      have hsn := usrL_snoc T.rs k (T.ps.take j) T.ps[j]
      rw [← getD_take T.ps j hlt] at hsn
      have hid : T.ps[j] = ⟨T.ps[j].id, T.ps[j].reach, T.ps[j].w⟩ := rfl
      obtain ⟨x, hxx⟩ : ∃ x, T.ps[j].id = x := ⟨_, rfl⟩
      obtain ⟨y, hyy⟩ : ∃ x, T.ps[j].reach = x := ⟨_, rfl⟩
      rw [hxx] at c0 hid
      rw [hyy] at c1 hid hpv
      rw [hid] at hsn
      have hll : (usrL T.rs k (T.ps.take j)).length ≤ 24 := Nat.le_trans (usrL_len _ _ _) (by simp; omega)
      obtain ⟨L, hL⟩ : ∃ L, usrL T.rs k (T.ps.take j) = L := ⟨_, rfl⟩
      rw [hL] at hsn HI hll
      have KU := fun W (h : Ext w W) => refUses_any _ _ T hok.rv y k W (hT.ext h) (by have := hpv.2.1.1; omega) hpv.2.1.2
      obtain ⟨u, hu⟩ : ∃ u, usB T.rs y k = u := ⟨_, rfl⟩
      have hsn2 : usrL T.rs k (T.ps.take (j + 1)) = if u = true then putL L x else L := by rw [hsn, ← hu]; rfl
      rw [hu] at KU
      have HKU := Lib.hid KU
      have HSN := Lib.hid hsn2
      obtain ⟨oA, oc, hoo, hol⟩ := HI.out.len
      subst hoo
      clear hsn hsn2 hid hxx hyy hL hu KU hpv
      go_wp2_with fail
      go_still_tail 8, (by kernel_rfl)
      change wpList _ _ _ _ _ wr.drew
      obtain ⟨V, hV⟩ : ∃ V, wr.drew = V := ⟨_, rfl⟩
      have hxV : Ext wr V := by rw [← hV]; exact (by repeat (first | exact Ext.refl _ | assumption | refine Ext.alloc ?_ _ | refine Ext.drew ?_ | refine Ext.drewN _ ?_ | refine Ext.trans ?_ (by assumption)))
      rw [hV]
      clear hV
      go_wp2_with fail
      refine (HKU.out _ (hx.trans hxV)).mono ?_
      rintro e w6 ⟨rfl, hz⟩
      have hz6 := hxV.trans hz
      have hx6 := hx.trans hz6
      have q6 := q.ext hz6
      have hI6 := HI.out.ext hz6
      replace d0 := hz6.cell d0
      replace d1 := hz6.cell d1
      replace c0 := hz6.cell c0
      have HI6 := Lib.hid hI6
      clear hz hxV hz6 hI6 hx q HI c1 c2
      cases u
      · have hs := HSN.out
        rw [if_neg (by decide)] at hs
        have HS := Lib.hid hs
        clear hs
        go_wp2_with fail
        go_roundw
        case rel => exact ⟨j + 1, by omega, by go_num, by rw [HS.out]; exact HI6, q6, hx6⟩
        case measure => simp [intOf]; omega
      · have hs := HSN.out
        rw [if_pos rfl] at hs
        have HS := Lib.hid hs
        clear hs
        go_wp2_with fail
        refine (refPut_any _ L x _ HI6.out (by omega)).mono ?_
        rintro e w7 ⟨v, rfl, hv, hz⟩
        have hv2 := hv.at_
        clear d0 d1 c0
        go_wp2_with fail
        go_roundw
        case rel => exact ⟨j + 1, by omega, by go_num, by rw [HS.out]; exact Lib.hid hv2, q6.ext hz, hx6.trans hz⟩
        case measure => simp [intOf]; omega
    · obtain rfl : j = T.ps.length := by omega
      have hI := HI.out
      rw [List.take_length, HX.out] at hI
      clear HI
      go_wp2_with fail
      go_ret
      exact ⟨_, rfl, hI, hx⟩
end Go.Proofs.Ythopgonbndoidaa
