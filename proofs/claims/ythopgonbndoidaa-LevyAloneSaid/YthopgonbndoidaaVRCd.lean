/- CheckDivide of the specification. -/
import Derived.Test.YthopgonbndoidaaVRDv
namespace Go.Proofs.Ythopgonbndoidaa
open Go.RowKit Go.Shelf

set_option maxRecDepth 100000 in
set_option maxHeartbeats 4000000 in
theorem refCheckDivide_any (a b v d : Value) (T : Tr) (l : List Int) (D : List (List Int)) (w : World) (hT : TrAt w a b T) (hl : IntsAt w v l) (hD : RowsAt w d D) (hn : l.length ≤ 100000) (hn2 : D.length ≤ 100000) :
    Calls Try.prog 54 #[.agg #[a, b], v, d] w fun e w' => e = .returned (.int .i64 (dveE T l D)) ∧ Ext w w' := by
  have hE : dveE T l D = if penE T l = 0 then (if dvdB T l D = true then 0 else 8) else penE T l := rfl
  have hok : penE T l = 0 → Ok T ∧ l.length = T.ps.length ∧ ∀ n ∈ l, 0 ≤ n ∧ n ≤ 1073741824 := penE_ok
  have KP := fun W (h : Ext w W) => refPence_any a b v T l W (hT.ext h) (hl.ext h) hn
  have KD := fun (h : penE T l = 0) W (hx : Ext w W) => divided_any a b v d T (hok h).1 l D W (hT.ext hx) (hl.ext hx) (hD.ext hx) (hok h).2.1 (hok h).2.2 hn2
  obtain ⟨E, hEE⟩ : ∃ E, penE T l = E := ⟨_, rfl⟩
  obtain ⟨F, hFF⟩ : ∃ E, dvdB T l D = E := ⟨_, rfl⟩
  obtain ⟨X, hXX⟩ : ∃ E, dveE T l D = E := ⟨_, rfl⟩
  rw [hEE] at hE KP KD
  rw [hFF] at hE KD
  rw [hXX] at hE
  rw [hXX]
  have HE := Lib.hid hE
  have HKD := Lib.hid KD
  clear hE hok KD hEE hFF hXX
  go_enter Try.func54, Try.ntmps54
  go_wp2_with fail
  refine (KP _ (by repeat (first | exact Ext.refl _ | assumption | refine Ext.alloc ?_ _ | refine Ext.drew ?_ | refine Ext.drewN _ ?_ | refine Ext.trans ?_ (by assumption)))).mono ?_
  rintro e w1 ⟨rfl, hx1⟩
  obtain ⟨q0, hx, hk0⟩ := alloc1 hx1
  have d0 : w1.cell? ⟨w.heap.size, 0, none⟩ = some a := q0.cell 0
  have d1 : w1.cell? ⟨w.heap.size, 1, none⟩ = some b := q0.cell 1
  clear hx1 q0 KP
  by_cases h0 : E = 0
  · have hb : (E != 0) = false := by simpa using h0
    have he := HE.out
    rw [if_pos h0] at he
    have HE2 := Lib.hid he
    have KD2 := HKD.out h0
    clear he h0
    go_wp2_with fail
    refine (KD2 _ hx).mono ?_
    rintro e w2 ⟨rfl, hz⟩
    clear KD2
    cases F
    · have he := HE2.out
      rw [if_neg (by decide)] at he
      have HE3 := Lib.hid he
      clear he
      go_wp2_with fail
      go_ret
      exact ⟨ret_int HE3.out.symm, hx.trans hz⟩
    · have he := HE2.out
      rw [if_pos rfl] at he
      have HE3 := Lib.hid he
      clear he
      go_wp2_with fail
      go_ret
      exact ⟨ret_int HE3.out.symm, hx.trans hz⟩
  · have hb : (E != 0) = true := by simpa using h0
    have he := HE.out
    rw [if_neg h0] at he
    have HE2 := Lib.hid he
    clear he h0
    go_wp2_with fail
    go_ret
    exact ⟨ret_int HE2.out.symm, hx⟩
end Go.Proofs.Ythopgonbndoidaa
