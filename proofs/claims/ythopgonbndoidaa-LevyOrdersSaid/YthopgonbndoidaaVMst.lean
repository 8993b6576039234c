/- Most and Least of the program. Printed by tools/gen_mst.py. -/
import Derived.Test.YthopgonbndoidaaVGrp
namespace Go.Proofs.Ythopgonbndoidaa
open Go.RowKit Go.Shelf

set_option maxHeartbeats 1000000 in
theorem single1_any (B : Nat) (id : Int) (x : Py) (w : World) (hB : Cls B 3 #[.int .i64 id] w) :
    Calls Try.prog 107 #[.agg #[.int .i64 x.id, .int .i64 x.reach, .int .i64 x.w], .pointer (some ⟨B, 0, none⟩)] w fun e w' => e = .returned (.bool (x.id == id)) ∧ Ext w w' := by
  have c0 : w.cell? ⟨B, 0, none⟩ = some (.int .i64 id) := hB.cell 0
  go_enter Try.func107, Try.ntmps107
  have c1 : (w.alloc (.cells #[.int .i64 x.id, .int .i64 x.reach, .int .i64 x.w] 45)).cell? ⟨B, 0, none⟩ = some (.int .i64 id) := Ext.cell (by repeat (first | exact Ext.refl _ | assumption | refine Ext.alloc ?_ _ | refine Ext.drew ?_ | refine Ext.drewN _ ?_ | refine Ext.trans ?_ (by assumption))) c0
  go_wp2
  go_ret
  exact ⟨ret_bool (by simp), (by repeat (first | exact Ext.refl _ | assumption | refine Ext.alloc ?_ _ | refine Ext.drew ?_ | refine Ext.drewN _ ?_ | refine Ext.trans ?_ (by assumption)))⟩
set_option maxHeartbeats 1000000 in
theorem Most1_any (Bt B : Nat) (a b : Value) (T : Tr) (hok : Ok T) (id : Int) (w : World) (hT : TrAt w a b T) (hBt : Cls Bt 25 #[a, b] w) (hB : Cls B 3 #[.int .i64 id] w) :
    Calls Try.prog 68 #[.func (.func 107) #[] #[.pointer (some ⟨B, 0, none⟩)], .pointer (some ⟨Bt, 0, none⟩)] w fun e w' => e = .returned (.int .i64 (alnE T (fun p => p.id == id))) ∧ Ext w w' := by
  have c0 : w.cell? ⟨Bt, 0, none⟩ = some a := hBt.cell 0
  have c1 : w.cell? ⟨Bt, 1, none⟩ = some b := hBt.cell 1
  go_enter Try.func68, Try.ntmps68
  go_wp2_with fail
  refine (alone_single a b T hok (fun p => p.id == id) _ _ hT (fun x W h => single1_any B id x W (hB.ext h))).mono ?_
  rintro e w1 ⟨rfl, hx⟩
  go_wp2
  go_ret
  exact ⟨rfl, hx⟩
set_option maxHeartbeats 1000000 in
theorem Least11_any (Bf B : Nat) (id : Int) (x : Py) (w : World) (hF : Cls Bf 105 #[.func (.func 107) #[] #[.pointer (some ⟨B, 0, none⟩)]] w) (hB : Cls B 3 #[.int .i64 id] w) :
    Calls Try.prog 71 #[.agg #[.int .i64 x.id, .int .i64 x.reach, .int .i64 x.w], .pointer (some ⟨Bf, 0, none⟩)] w fun e w' => e = .returned (.bool (!(x.id == id))) ∧ Ext w w' := by
  have c0 : w.cell? ⟨Bf, 0, none⟩ = some (.func (.func 107) #[] #[.pointer (some ⟨B, 0, none⟩)]) := hF.cell 0
  have hx : Ext w (w.alloc (.cells #[.int .i64 x.id, .int .i64 x.reach, .int .i64 x.w] 45)) := (by repeat (first | exact Ext.refl _ | assumption | refine Ext.alloc ?_ _ | refine Ext.drew ?_ | refine Ext.drewN _ ?_ | refine Ext.trans ?_ (by assumption)))
  have K := single1_any B id x _ (hB.ext hx)
  obtain ⟨v, hv⟩ : ∃ v, (x.id == id) = v := ⟨_, rfl⟩
  rw [hv] at K ⊢
  have HK := Lib.hid K
  clear hv K
  go_enter Try.func71, Try.ntmps71
  have c1 : (w.alloc (.cells #[.int .i64 x.id, .int .i64 x.reach, .int .i64 x.w] 45)).cell? ⟨Bf, 0, none⟩ = _ := hx.cell c0
  go_wp2_with fail
  refine HK.out.mono ?_
  rintro e w1 ⟨rfl, hy⟩
  go_wp2
  go_ret
  exact ⟨rfl, hx.trans hy⟩
set_option maxRecDepth 100000 in
set_option maxHeartbeats 2000000 in
theorem Least1_any (Bt B : Nat) (a b : Value) (T : Tr) (hok : Ok T) (id : Int) (w : World) (hT : TrAt w a b T) (hBt : Cls Bt 25 #[a, b] w) (hB : Cls B 3 #[.int .i64 id] w) :
    Calls Try.prog 69 #[.func (.func 107) #[] #[.pointer (some ⟨B, 0, none⟩)], .pointer (some ⟨Bt, 0, none⟩)] w fun e w' => e = .returned (.int .i64 (alnE T (fun _ => true) - alnE T (fun p => !(p.id == id)))) ∧ Ext w w' := by
  have bd1 := alnE_bd hok (fun _ => true)
  have bd2 := alnE_bd hok (fun p => !(p.id == id))
  obtain ⟨W1, hW1⟩ : ∃ W1, w.alloc (.cells #[.func (.func 107) #[] #[.pointer (some ⟨B, 0, none⟩)]] 105) = W1 := ⟨_, rfl⟩
  have hzo : Ext w W1 := by rw [← hW1]; exact (by repeat (first | exact Ext.refl _ | assumption | refine Ext.alloc ?_ _ | refine Ext.drew ?_ | refine Ext.drewN _ ?_ | refine Ext.trans ?_ (by assumption)))
  have hF : Cls w.heap.size 105 #[.func (.func 107) #[] #[.pointer (some ⟨B, 0, none⟩)]] W1 := by rw [← hW1]; exact Cls.new _ _ _
  have hT1 := hT.ext hzo
  have hB1 := hB.ext hzo
  have hBt1 := hBt.ext hzo
  have d0 : W1.cell? ⟨Bt, 0, none⟩ = some a := hBt1.cell 0
  have d1 : W1.cell? ⟨Bt, 1, none⟩ = some b := hBt1.cell 1
  have KW := fun W (h : Ext W1 W) => whole_any a b T hok W (hT1.ext h)
  have KA := fun W (h : Ext W1 W) => alone_Least a b T hok (fun p => !(p.id == id)) (.pointer (some ⟨w.heap.size, 0, none⟩)) W (hT1.ext h) (fun x W' h' => Least11_any w.heap.size B id x W' (hF.ext (h.trans h')) (hB1.ext (h.trans h')))
  obtain ⟨X1, hX1⟩ : ∃ X1, alnE T (fun _ => true) = X1 := ⟨_, rfl⟩
  obtain ⟨X2, hX2⟩ : ∃ X2, alnE T (fun p => !(p.id == id)) = X2 := ⟨_, rfl⟩
  rw [hX1] at KW bd1 ⊢
  rw [hX2] at KA bd2 ⊢
  clear hX1 hX2
  go_enter Try.func69, Try.ntmps69
  go_upto_region 1 with fail
  try rw [hW1]
  clear hW1
  go_region_held3 (fun W' => W'.cell? ⟨Bt, 0, none⟩ = some a ∧ W'.cell? ⟨Bt, 1, none⟩ = some b ∧ Ext W1 W')
    ((refine ⟨Ext.cell (w := W1) ?_ d0, Ext.cell (w := W1) ?_ d1, ?_⟩; all_goals exact (by repeat (first | exact Ext.refl _ | assumption | refine Ext.alloc ?_ _ | refine Ext.drew ?_ | refine Ext.drewN _ ?_ | refine Ext.trans ?_ (by assumption)))))
    ((first | (go_at_call 70; (with_reducible refine (KW _ ?_).mono ?_); (focus (exact (by repeat (first | exact Ext.refl _ | assumption | refine Ext.alloc ?_ _ | refine Ext.drew ?_ | refine Ext.drewN _ ?_ | refine Ext.trans ?_ (by assumption))))); rintro e w' ⟨rfl, hz⟩) | (go_at_call 57; (with_reducible refine (KA _ ?_).mono ?_); (focus (exact (by repeat (first | exact Ext.refl _ | assumption | refine Ext.alloc ?_ _ | refine Ext.drew ?_ | refine Ext.drewN _ ?_ | refine Ext.trans ?_ (by assumption))))); rintro e w' ⟨rfl, hz⟩)))
  all_goals
    go_wp2_with fail
    go_ret
    exact ⟨congrArg (fun z => Ending.returned (.int .i64 z)) (IntWalk.i64_in (X1 - X2) (by omega)), hzo.trans (by repeat (first | exact Ext.refl _ | assumption | refine Ext.alloc ?_ _ | refine Ext.drew ?_ | refine Ext.drewN _ ?_ | refine Ext.trans ?_ (by assumption)))⟩
def sngE (T : Tr) (id : Int) : Int := if chkE T = 0 then (if fnd T.ps id < 0 then 5 else 0) else chkE T
theorem sngE_ok {T : Tr} {id : Int} (h : sngE T id = 0) : Ok T := by
  unfold sngE at h
  split at h
  · rename_i h1; exact Ok.of h1
  · rename_i h1; exact absurd h h1
set_option maxRecDepth 100000 in
set_option maxHeartbeats 2000000 in
theorem single_Most (a b : Value) (T : Tr) (id : Int) (V : Int) (cap : Value) (w : World) (hT : TrAt w a b T) (hn : T.ps.length ≤ 1000)
    (hof : Ok T → ∀ B W, Ext w W → Cls B 3 #[.int .i64 id] W → Calls Try.prog 68 #[.func (.func 107) #[] #[.pointer (some ⟨B, 0, none⟩)], cap] W fun e w' => e = .returned (.int .i64 V) ∧ Ext W w') :
    Calls Try.prog 67 #[.agg #[a, b], .int .i64 id, .func (.func 68) #[] #[cap]] w fun e w' => e = .returned (.tuple #[.int .i64 (if sngE T id = 0 then V else 0), .int .i64 (sngE T id)]) ∧ Ext w w' := by
  have hX : sngE T id = if chkE T = 0 then (if fnd T.ps id < 0 then 5 else 0) else chkE T := rfl
  have hok : chkE T = 0 → Ok T := Ok.of
  obtain ⟨X, hXX⟩ : ∃ X, sngE T id = X := ⟨_, rfl⟩
  obtain ⟨E, hE⟩ : ∃ E, chkE T = E := ⟨_, rfl⟩
  obtain ⟨F, hF⟩ : ∃ F, fnd T.ps id = F := ⟨_, rfl⟩
  obtain ⟨Z, hZ⟩ : ∃ Z, (if X = 0 then V else 0) = Z := ⟨_, rfl⟩
  rw [hXX, hE, hF] at hX
  rw [hE] at hok
  rw [hXX, hZ]
  have HE := Lib.hid hE
  have HX := Lib.hid hX
  have HF := Lib.hid hF
  have HZ := Lib.hid hZ
  have HOK := Lib.hid hok
  have HOF := Lib.hid hof
  clear hE hX hXX hF hZ hok hof
  go_enter Try.func67, Try.ntmps67
  go_wp2_with fail
  refine (Check_any a b T _ (hT.ext (by repeat (first | exact Ext.refl _ | assumption | refine Ext.alloc ?_ _ | refine Ext.drew ?_ | refine Ext.drewN _ ?_ | refine Ext.trans ?_ (by assumption))))).mono ?_
  rw [HE.out]
  rintro e w1 ⟨rfl, hx1⟩
  obtain ⟨q0, q1, hx, hzz⟩ := alloc2 hx1
  have d0 : w1.cell? ⟨w.heap.size, 0, none⟩ = some a := q0.cell 0
  have d1 : w1.cell? ⟨w.heap.size, 1, none⟩ = some b := q0.cell 1
  have d2 : w1.cell? ⟨w.heap.size + 1, 0, none⟩ = some (.int .i64 id) := q1.cell 0
  clear hx1
  by_cases h0 : E = 0
  · have hb : (E != 0) = false := by simpa using h0
    have hx2 := HX.out
    rw [if_pos h0] at hx2
    have HX2 := Lib.hid hx2
    have hk := HOK.out h0
    clear hx2 h0
    go_wp2_with fail
    refine (find_any b T.ps id _ (hT.ext hx).p hn).mono ?_
    rw [HF.out]
    rintro e w2 ⟨rfl, hy⟩
    have hx2 := hx.trans hy
    have q2 := q1.ext hy
    by_cases hf : F < 0
    · have h3 := HX2.out
      rw [if_pos hf] at h3
      have h4 := HZ.out
      rw [if_neg (by rw [h3]; decide)] at h4
      have HX3 := Lib.hid h3
      have HZ3 := Lib.hid h4
      clear h3 h4
      go_wp2_with fail
      go_ret2
      exact ⟨ret2 (by rw [← HZ3.out]; rfl) (by rw [HX3.out]; rfl), hx2⟩
    · have h3 := HX2.out
      rw [if_neg hf] at h3
      have h4 := HZ.out
      rw [if_pos h3] at h4
      have HX3 := Lib.hid h3
      have HZ3 := Lib.hid h4
      clear h3 h4
      go_wp2_with fail
      refine (HOF.out hk (w.heap.size + 1) _ hx2 q2).mono ?_
      rintro e w3 ⟨rfl, hy3⟩
      go_wp2_with fail
      go_ret2
      exact ⟨ret2 (by rw [← HZ3.out]; rfl) (by rw [HX3.out]; rfl), hx2.trans hy3⟩
  · have hb : (E != 0) = true := by simpa using h0
    have h3 := HX.out
    rw [if_neg h0] at h3
    have h4 := HZ.out
    rw [if_neg (by rw [h3]; exact h0)] at h4
    have HX3 := Lib.hid h3
    have HZ3 := Lib.hid h4
    clear h3 h4 h0
    go_wp2_with fail
    go_ret2
    exact ⟨ret2 (by rw [← HZ3.out]; rfl) (by rw [HX3.out]; rfl), hx⟩
set_option maxHeartbeats 2000000 in
theorem Most_any (a b : Value) (T : Tr) (id : Int) (w : World) (hT : TrAt w a b T) (hn : T.ps.length ≤ 1000) :
    Calls Try.prog 24 #[.agg #[a, b], .int .i64 id] w fun e w' => e = .returned (.tuple #[.int .i64 (if sngE T id = 0 then alnE T (fun p => p.id == id) else 0), .int .i64 (sngE T id)]) ∧ Ext w w' := by
  have hx : Ext w (w.alloc (.cells #[a, b] 25)) := (by repeat (first | exact Ext.refl _ | assumption | refine Ext.alloc ?_ _ | refine Ext.drew ?_ | refine Ext.drewN _ ?_ | refine Ext.trans ?_ (by assumption)))
  have K := single_Most a b T id (alnE T (fun p => p.id == id)) (.pointer (some ⟨w.heap.size, 0, none⟩)) _ (hT.ext hx) hn (fun hk B W h hB => Most1_any w.heap.size B a b T hk id W ((hT.ext hx).ext h) ((Cls.new w 25 #[a, b]).ext h) hB)
  obtain ⟨X, hX⟩ : ∃ X, (if sngE T id = 0 then alnE T (fun p => p.id == id) else 0) = X := ⟨_, rfl⟩
  obtain ⟨E, hE⟩ : ∃ E, sngE T id = E := ⟨_, rfl⟩
  rw [hX, hE] at K
  rw [hX, hE]
  clear hX hE
  go_enter Try.func24, Try.ntmps24
  go_wp2_with fail
  refine K.mono ?_
  rintro e w1 ⟨rfl, hy⟩
  go_wp2
  go_ret2
  exact ⟨rfl, hx.trans hy⟩
set_option maxRecDepth 100000 in
set_option maxHeartbeats 2000000 in
theorem single_Least (a b : Value) (T : Tr) (id : Int) (V : Int) (cap : Value) (w : World) (hT : TrAt w a b T) (hn : T.ps.length ≤ 1000)
    (hof : Ok T → ∀ B W, Ext w W → Cls B 3 #[.int .i64 id] W → Calls Try.prog 69 #[.func (.func 107) #[] #[.pointer (some ⟨B, 0, none⟩)], cap] W fun e w' => e = .returned (.int .i64 V) ∧ Ext W w') :
    Calls Try.prog 67 #[.agg #[a, b], .int .i64 id, .func (.func 69) #[] #[cap]] w fun e w' => e = .returned (.tuple #[.int .i64 (if sngE T id = 0 then V else 0), .int .i64 (sngE T id)]) ∧ Ext w w' := by
  have hX : sngE T id = if chkE T = 0 then (if fnd T.ps id < 0 then 5 else 0) else chkE T := rfl
  have hok : chkE T = 0 → Ok T := Ok.of
  obtain ⟨X, hXX⟩ : ∃ X, sngE T id = X := ⟨_, rfl⟩
  obtain ⟨E, hE⟩ : ∃ E, chkE T = E := ⟨_, rfl⟩
  obtain ⟨F, hF⟩ : ∃ F, fnd T.ps id = F := ⟨_, rfl⟩
  obtain ⟨Z, hZ⟩ : ∃ Z, (if X = 0 then V else 0) = Z := ⟨_, rfl⟩
  rw [hXX, hE, hF] at hX
  rw [hE] at hok
  rw [hXX, hZ]
  have HE := Lib.hid hE
  have HX := Lib.hid hX
  have HF := Lib.hid hF
  have HZ := Lib.hid hZ
  have HOK := Lib.hid hok
  have HOF := Lib.hid hof
  clear hE hX hXX hF hZ hok hof
  go_enter Try.func67, Try.ntmps67
  go_wp2_with fail
  refine (Check_any a b T _ (hT.ext (by repeat (first | exact Ext.refl _ | assumption | refine Ext.alloc ?_ _ | refine Ext.drew ?_ | refine Ext.drewN _ ?_ | refine Ext.trans ?_ (by assumption))))).mono ?_
  rw [HE.out]
  rintro e w1 ⟨rfl, hx1⟩
  obtain ⟨q0, q1, hx, hzz⟩ := alloc2 hx1
  have d0 : w1.cell? ⟨w.heap.size, 0, none⟩ = some a := q0.cell 0
  have d1 : w1.cell? ⟨w.heap.size, 1, none⟩ = some b := q0.cell 1
  have d2 : w1.cell? ⟨w.heap.size + 1, 0, none⟩ = some (.int .i64 id) := q1.cell 0
  clear hx1
  by_cases h0 : E = 0
  · have hb : (E != 0) = false := by simpa using h0
    have hx2 := HX.out
    rw [if_pos h0] at hx2
    have HX2 := Lib.hid hx2
    have hk := HOK.out h0
    clear hx2 h0
    go_wp2_with fail
    refine (find_any b T.ps id _ (hT.ext hx).p hn).mono ?_
    rw [HF.out]
    rintro e w2 ⟨rfl, hy⟩
    have hx2 := hx.trans hy
    have q2 := q1.ext hy
    by_cases hf : F < 0
    · have h3 := HX2.out
      rw [if_pos hf] at h3
      have h4 := HZ.out
      rw [if_neg (by rw [h3]; decide)] at h4
      have HX3 := Lib.hid h3
      have HZ3 := Lib.hid h4
      clear h3 h4
      go_wp2_with fail
      go_ret2
      exact ⟨ret2 (by rw [← HZ3.out]; rfl) (by rw [HX3.out]; rfl), hx2⟩
    · have h3 := HX2.out
      rw [if_neg hf] at h3
      have h4 := HZ.out
      rw [if_pos h3] at h4
      have HX3 := Lib.hid h3
      have HZ3 := Lib.hid h4
      clear h3 h4
      go_wp2_with fail
      refine (HOF.out hk (w.heap.size + 1) _ hx2 q2).mono ?_
      rintro e w3 ⟨rfl, hy3⟩
      go_wp2_with fail
      go_ret2
      exact ⟨ret2 (by rw [← HZ3.out]; rfl) (by rw [HX3.out]; rfl), hx2.trans hy3⟩
  · have hb : (E != 0) = true := by simpa using h0
    have h3 := HX.out
    rw [if_neg h0] at h3
    have h4 := HZ.out
    rw [if_neg (by rw [h3]; exact h0)] at h4
    have HX3 := Lib.hid h3
    have HZ3 := Lib.hid h4
    clear h3 h4 h0
    go_wp2_with fail
    go_ret2
    exact ⟨ret2 (by rw [← HZ3.out]; rfl) (by rw [HX3.out]; rfl), hx⟩
set_option maxHeartbeats 2000000 in
theorem Least_any (a b : Value) (T : Tr) (id : Int) (w : World) (hT : TrAt w a b T) (hn : T.ps.length ≤ 1000) :
    Calls Try.prog 25 #[.agg #[a, b], .int .i64 id] w fun e w' => e = .returned (.tuple #[.int .i64 (if sngE T id = 0 then alnE T (fun _ => true) - alnE T (fun p => !(p.id == id)) else 0), .int .i64 (sngE T id)]) ∧ Ext w w' := by
  have hx : Ext w (w.alloc (.cells #[a, b] 25)) := (by repeat (first | exact Ext.refl _ | assumption | refine Ext.alloc ?_ _ | refine Ext.drew ?_ | refine Ext.drewN _ ?_ | refine Ext.trans ?_ (by assumption)))
  have K := single_Least a b T id (alnE T (fun _ => true) - alnE T (fun p => !(p.id == id))) (.pointer (some ⟨w.heap.size, 0, none⟩)) _ (hT.ext hx) hn (fun hk B W h hB => Least1_any w.heap.size B a b T hk id W ((hT.ext hx).ext h) ((Cls.new w 25 #[a, b]).ext h) hB)
  obtain ⟨X, hX⟩ : ∃ X, (if sngE T id = 0 then alnE T (fun _ => true) - alnE T (fun p => !(p.id == id)) else 0) = X := ⟨_, rfl⟩
  obtain ⟨E, hE⟩ : ∃ E, sngE T id = E := ⟨_, rfl⟩
  rw [hX, hE] at K
  rw [hX, hE]
  clear hX hE
  go_enter Try.func25, Try.ntmps25
  go_wp2_with fail
  refine K.mono ?_
  rintro e w1 ⟨rfl, hy⟩
  go_wp2
  go_ret2
  exact ⟨rfl, hx.trans hy⟩
end Go.Proofs.Ythopgonbndoidaa
