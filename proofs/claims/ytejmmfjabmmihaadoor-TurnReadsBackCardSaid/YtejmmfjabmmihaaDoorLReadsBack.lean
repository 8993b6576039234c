/- TurnReadsBack: the walk and the card. -/
import Derived.Test.YtejmmfjabmmihaaDoorSanity
import Derived.Test.YtejmmfjabmmihaaDoorArgs
import Derived.Test.YtejmmfjabmmihaaDoorSame
import Derived.Test.YtejmmfjabmmihaaDoorBackQ
import Derived.ChangeMaps5
namespace Go.Proofs.YtejmmfjabmmihaaDoor
open Go.RowKit Go.Shelf

theorem bytes_back (s : ByteArray) : (⟨(bytesOf s).toArray⟩ : ByteArray) = s := by
  cases s; simp [bytesOf]
theorem bytes_of (l : List UInt8) : bytesOf ⟨l.toArray⟩ = l := by simp [bytesOf]
theorem bytes_take (s : ByteArray) (k : Nat) : bytesOf (s.extract 0 k) = (bytesOf s).take k := by
  simp [bytesOf, ByteArray.data_extract, List.extract_eq_take_drop]
theorem prsE_ways (x : List UInt8) : prsE x = 0 ∨ (prsE x = 2 ∧ prsA x = 0) ∨ prsE x = 7 := by
  unfold prsE prsA
  split
  · exact .inr (.inl ⟨rfl, rfl⟩)
  · split
    · exact .inr (.inr rfl)
    · split
      · exact .inr (.inl ⟨rfl, rfl⟩)
      · exact .inl rfl

set_option maxRecDepth 100000 in
set_option maxHeartbeats 4000000 in
theorem Back_main (aa ab : Option Addr) (ca cb : Nat) (S : Mn) (s : ByteArray) (w : World) (hT : Tab w) (hS : MinsAt w (.slice aa S.ts.length ca) (.slice ab S.ss.length cb) S) (h1 : S.ts.length ≤ 30) (h2 : S.ss.length ≤ 50) (h3 : s.size ≤ 3200) :
    Calls Tryd.prog 6 #[.agg #[.slice aa S.ts.length ca, .slice ab S.ss.length cb], .string s] w fun e w' => e = .returned (.bool true) ∧ Ext w w' := by
  by_cases hE : chkE S = 0
  · obtain ⟨b1, b2, b3, b4⟩ := back_set (Ok.of hE)
    have hp : prtX S = txt S := by unfold prtX; rw [if_pos hE]
    have HP := Lib.hid hp
    have HE := Lib.hid hE
    have B1 := Lib.hid b1
    have B2 := Lib.hid b2
    have B3 := Lib.hid b3
    clear hp hE b1 b2 b3
    go_enter Tryd.func6, Tryd.ntmps6
    go_wp2_with fail
    refine (Print_any _ _ S _ (hS.ext (by repeat (first | exact Ext.refl _ | assumption | refine Ext.alloc ?_ _ | refine Ext.drew ?_ | refine Ext.drewN _ ?_ | refine Ext.trans ?_ (by assumption)))) (hT.ext (by repeat (first | exact Ext.refl _ | assumption | refine Ext.alloc ?_ _ | refine Ext.drew ?_ | refine Ext.drewN _ ?_ | refine Ext.trans ?_ (by assumption))))).mono ?_
    rw [HP.out, HE.out]
    rintro e w1 ⟨rfl, hx1⟩
    obtain ⟨q0, hx, hzz⟩ := alloc1 hx1
    have d0 : w1.cell? ⟨w.heap.size, 0, none⟩ = some (.slice aa S.ts.length ca) := q0.cell 0
    have d1 : w1.cell? ⟨w.heap.size, 1, none⟩ = some (.slice ab S.ss.length cb) := q0.cell 1
    clear hx1 q0
    go_wp2_with fail
    refine (Parse_any ⟨(txt S).toArray⟩ _ (by show (txt S).toArray.size ≤ 1000000; simp; omega)).mono ?_
    intro e w2 hpp
    replace hpp : PrsPost (txt S) w1 e w2 := by rw [← bytes_of (txt S)]; exact hpp
    revert hpp
    unfold PrsPost
    rw [B1.out, B2.out, B3.out]
    rintro ⟨va, vb, rfl, hp, hy⟩
    obtain ⟨aa1, ca1, rfl⟩ := hp.t.len
    obtain ⟨ab1, cb1, rfl⟩ := hp.s.len
    replace d0 := hy.cell d0
    replace d1 := hy.cell d1
    replace hx := hx.trans hy
    clear hy
    obtain ⟨W2, hW2⟩ : ∃ W2, w2.alloc (.cells #[.slice aa1 S.ts.length ca1, .slice ab1 S.ss.length cb1] 34) = W2 := ⟨_, rfl⟩
    have hx2 : Ext w2 W2 := by rw [← hW2]; exact (by repeat (first | exact Ext.refl _ | assumption | refine Ext.alloc ?_ _ | refine Ext.drew ?_ | refine Ext.drewN _ ?_ | refine Ext.trans ?_ (by assumption)))
    have d2 := hx2.cell d0
    have d3 := hx2.cell d1
    have d2' : (w2.alloc (.cells #[.slice aa1 S.ts.length ca1, .slice ab1 S.ss.length cb1] 34)).cell? ⟨w.heap.size, 0, none⟩ = some (.slice aa S.ts.length ca) := by rw [hW2]; exact d2
    have d3' : (w2.alloc (.cells #[.slice aa1 S.ts.length ca1, .slice ab1 S.ss.length cb1] 34)).cell? ⟨w.heap.size, 1, none⟩ = some (.slice ab S.ss.length cb) := by rw [hW2]; exact d3
    clear d0 d1 d2 d3 hx2 hW2
    go_wp2_with fail
    refine (SameSet_any _ _ _ _ S S _ (hp.ext (by repeat (first | exact Ext.refl _ | assumption | refine Ext.alloc ?_ _ | refine Ext.drew ?_ | refine Ext.drewN _ ?_ | refine Ext.trans ?_ (by assumption)))) (hS.ext (hx.trans (by repeat (first | exact Ext.refl _ | assumption | refine Ext.alloc ?_ _ | refine Ext.drew ?_ | refine Ext.drewN _ ?_ | refine Ext.trans ?_ (by assumption))))) (by omega) (by omega) (by omega) (by omega)).mono ?_
    rw [mnEq_self]
    rintro e w3 ⟨rfl, hy⟩
    replace hx : Ext w w3 := hx.trans (Ext.trans (by repeat (first | exact Ext.refl _ | assumption | refine Ext.alloc ?_ _ | refine Ext.drew ?_ | refine Ext.drewN _ ?_ | refine Ext.trans ?_ (by assumption))) hy)
    clear hy hp d2' d3'
    go_wp2_with fail
    refine (Parse_any s _ (by omega)).mono ?_
    intro e w4 hpp
    replace hpp : PrsPost (bytesOf s) _ e w4 := hpp
    revert hpp
    unfold PrsPost
    rintro ⟨va2, vb2, rfl, hp, hy⟩
    obtain ⟨aa2, ca2, rfl⟩ := hp.t.len
    obtain ⟨ab2, cb2, rfl⟩ := hp.s.len
    replace hx : Ext w w4 := hx.trans (Ext.trans (by repeat (first | exact Ext.refl _ | assumption | refine Ext.alloc ?_ _ | refine Ext.drew ?_ | refine Ext.drewN _ ?_ | refine Ext.trans ?_ (by assumption))) hy)
    clear hy
    have hTx := hT.ext hx
    rcases prsE_ways (bytesOf s) with hE | ⟨hE, hA⟩ | hE
    · obtain ⟨b1, b2⟩ := back_text hE
      have b3 : prtX (prsX (bytesOf s)) = bytesOf s := by unfold prtX; rw [if_pos b1.chk, b2]
      have B3 := Lib.hid b3
      have B4 := Lib.hid b1.chk
      rw [hE]
      clear b1 b2 b3 hE
      go_wp2_with fail
      refine (Print_any _ _ (prsX (bytesOf s)) _ (hp.ext (by repeat (first | exact Ext.refl _ | assumption | refine Ext.alloc ?_ _ | refine Ext.drew ?_ | refine Ext.drewN _ ?_ | refine Ext.trans ?_ (by assumption)))) (hTx.ext (by repeat (first | exact Ext.refl _ | assumption | refine Ext.alloc ?_ _ | refine Ext.drew ?_ | refine Ext.drewN _ ?_ | refine Ext.trans ?_ (by assumption))))).mono ?_
      rw [B3.out, B4.out, bytes_back]
      rintro e w5 ⟨rfl, hy⟩
      replace hx : Ext w w5 := hx.trans (Ext.trans (by repeat (first | exact Ext.refl _ | assumption | refine Ext.alloc ?_ _ | refine Ext.drew ?_ | refine Ext.drewN _ ?_ | refine Ext.trans ?_ (by assumption))) hy)
      clear hy
      go_wp2_with fail
      refine (sanity_any _ (hT.ext hx)).mono ?_
      rintro e w6 ⟨rfl, hy⟩
      go_wp2_with fail
      go_ret
      exact ⟨ret_bool (by simp), hx.trans hy⟩
    · rw [hE, hA]
      clear hE hA
      go_wp2_with fail
      refine (sanity_any _ (hTx.ext (by repeat (first | exact Ext.refl _ | assumption | refine Ext.alloc ?_ _ | refine Ext.drew ?_ | refine Ext.drewN _ ?_ | refine Ext.trans ?_ (by assumption))))).mono ?_
      rintro e w6 ⟨rfl, hy⟩
      go_wp2_with fail
      go_ret
      exact ⟨ret_bool (by simp), hx.trans (Ext.trans (by repeat (first | exact Ext.refl _ | assumption | refine Ext.alloc ?_ _ | refine Ext.drew ?_ | refine Ext.drewN _ ?_ | refine Ext.trans ?_ (by assumption))) hy)⟩
    · obtain ⟨k, k1, k2, k3⟩ := back_begin hE
      rw [bytesOf_len] at k2
      rw [hE, k1]
      have hsl : bytesOf (s.extract 0 k) = (bytesOf s).take k := bytes_take s k
      have hsz : (s.extract 0 k).size ≤ 1000000 := by rw [ByteArray.size_extract]; omega
      have K3 := Lib.hid k3
      have HSL := Lib.hid hsl
      obtain ⟨s2, hs2⟩ : ∃ s2, s.extract 0 k = s2 := ⟨_, rfl⟩
      clear hE k1 k3 hsl
      go_wp2_with fail
      rw [hs2] at hsz HSL
      refine (Parse_any s2 _ hsz).mono ?_
      intro e w5 hpp
      replace hpp : PrsPost (bytesOf s2) _ e w5 := hpp
      revert hpp
      unfold PrsPost
      rw [HSL.out]
      rintro ⟨va3, vb3, rfl, hp3, hy⟩
      obtain ⟨aa3, ca3, rfl⟩ := hp3.t.len
      obtain ⟨ab3, cb3, rfl⟩ := hp3.s.len
      replace hx : Ext w w5 := hx.trans (Ext.trans (by repeat (first | exact Ext.refl _ | assumption | refine Ext.alloc ?_ _ | refine Ext.drew ?_ | refine Ext.drewN _ ?_ | refine Ext.trans ?_ (by assumption))) hy)
      have hTy := hT.ext hx
      clear hy hTx hs2
      by_cases h7 : prsE ((bytesOf s).take k) = 7
      · rw [h7, K3.out h7]
        go_wp2_with fail
        refine (sanity_any _ (hTy.ext (by repeat (first | exact Ext.refl _ | assumption | refine Ext.alloc ?_ _ | refine Ext.drew ?_ | refine Ext.drewN _ ?_ | refine Ext.trans ?_ (by assumption))))).mono ?_
        rintro e w6 ⟨rfl, hy⟩
        go_wp2_with fail
        go_ret
        exact ⟨ret_bool (by simp), hx.trans (Ext.trans (by repeat (first | exact Ext.refl _ | assumption | refine Ext.alloc ?_ _ | refine Ext.drew ?_ | refine Ext.drewN _ ?_ | refine Ext.trans ?_ (by assumption))) hy)⟩
      · obtain ⟨E7, hE7⟩ : ∃ E7, prsE ((bytesOf s).take k) = E7 := ⟨_, rfl⟩
        rw [hE7] at h7 ⊢
        have h7b : (E7 != 7) = true := by simpa using h7
        clear hE7 h7
        go_wp2_with fail
        refine (sanity_any _ (hTy.ext (by repeat (first | exact Ext.refl _ | assumption | refine Ext.alloc ?_ _ | refine Ext.drew ?_ | refine Ext.drewN _ ?_ | refine Ext.trans ?_ (by assumption))))).mono ?_
        rintro e w6 ⟨rfl, hy⟩
        go_wp2_with fail
        go_ret
        exact ⟨ret_bool (by simp), hx.trans (Ext.trans (by repeat (first | exact Ext.refl _ | assumption | refine Ext.alloc ?_ _ | refine Ext.drew ?_ | refine Ext.drewN _ ?_ | refine Ext.trans ?_ (by assumption))) hy)⟩
  · have hp : prtX S = [] := by unfold prtX; rw [if_neg hE]
    have HP := Lib.hid hp
    obtain ⟨E, hEE⟩ : ∃ E, chkE S = E := ⟨_, rfl⟩
    rw [hEE] at hE
    have hEb : (E == 0) = false := by rw [beq_eq_false_iff_ne]; exact hE
    have HE := Lib.hid hEE
    clear hp hE hEE
    go_enter Tryd.func6, Tryd.ntmps6
    go_wp2_with fail
    refine (Print_any _ _ S _ (hS.ext (by repeat (first | exact Ext.refl _ | assumption | refine Ext.alloc ?_ _ | refine Ext.drew ?_ | refine Ext.drewN _ ?_ | refine Ext.trans ?_ (by assumption)))) (hT.ext (by repeat (first | exact Ext.refl _ | assumption | refine Ext.alloc ?_ _ | refine Ext.drew ?_ | refine Ext.drewN _ ?_ | refine Ext.trans ?_ (by assumption))))).mono ?_
    rw [HP.out, HE.out]
    rintro e w1 ⟨rfl, hx1⟩
    obtain ⟨q0, hx, hzz⟩ := alloc1 hx1
    clear hx1 q0
    go_wp2_with fail
    refine (Parse_any s _ (by omega)).mono ?_
    intro e w4 hpp
    replace hpp : PrsPost (bytesOf s) _ e w4 := hpp
    revert hpp
    unfold PrsPost
    rintro ⟨va2, vb2, rfl, hp, hy⟩
    obtain ⟨aa2, ca2, rfl⟩ := hp.t.len
    obtain ⟨ab2, cb2, rfl⟩ := hp.s.len
    replace hx : Ext w w4 := hx.trans (Ext.trans (by repeat (first | exact Ext.refl _ | assumption | refine Ext.alloc ?_ _ | refine Ext.drew ?_ | refine Ext.drewN _ ?_ | refine Ext.trans ?_ (by assumption))) hy)
    clear hy
    have hTx := hT.ext hx
    rcases prsE_ways (bytesOf s) with hE | ⟨hE, hA⟩ | hE
    · obtain ⟨b1, b2⟩ := back_text hE
      have b3 : prtX (prsX (bytesOf s)) = bytesOf s := by unfold prtX; rw [if_pos b1.chk, b2]
      have B3 := Lib.hid b3
      have B4 := Lib.hid b1.chk
      rw [hE]
      clear b1 b2 b3 hE
      go_wp2_with fail
      refine (Print_any _ _ (prsX (bytesOf s)) _ (hp.ext (by repeat (first | exact Ext.refl _ | assumption | refine Ext.alloc ?_ _ | refine Ext.drew ?_ | refine Ext.drewN _ ?_ | refine Ext.trans ?_ (by assumption)))) (hTx.ext (by repeat (first | exact Ext.refl _ | assumption | refine Ext.alloc ?_ _ | refine Ext.drew ?_ | refine Ext.drewN _ ?_ | refine Ext.trans ?_ (by assumption))))).mono ?_
      rw [B3.out, B4.out, bytes_back]
      rintro e w5 ⟨rfl, hy⟩
      replace hx : Ext w w5 := hx.trans (Ext.trans (by repeat (first | exact Ext.refl _ | assumption | refine Ext.alloc ?_ _ | refine Ext.drew ?_ | refine Ext.drewN _ ?_ | refine Ext.trans ?_ (by assumption))) hy)
      clear hy
      go_wp2_with fail
      refine (sanity_any _ (hT.ext hx)).mono ?_
      rintro e w6 ⟨rfl, hy⟩
      go_wp2_with fail
      go_ret
      exact ⟨ret_bool (by simp), hx.trans hy⟩
    · rw [hE, hA]
      clear hE hA
      go_wp2_with fail
      refine (sanity_any _ (hTx.ext (by repeat (first | exact Ext.refl _ | assumption | refine Ext.alloc ?_ _ | refine Ext.drew ?_ | refine Ext.drewN _ ?_ | refine Ext.trans ?_ (by assumption))))).mono ?_
      rintro e w6 ⟨rfl, hy⟩
      go_wp2_with fail
      go_ret
      exact ⟨ret_bool (by simp), hx.trans (Ext.trans (by repeat (first | exact Ext.refl _ | assumption | refine Ext.alloc ?_ _ | refine Ext.drew ?_ | refine Ext.drewN _ ?_ | refine Ext.trans ?_ (by assumption))) hy)⟩
    · obtain ⟨k, k1, k2, k3⟩ := back_begin hE
      rw [bytesOf_len] at k2
      rw [hE, k1]
      have hsl : bytesOf (s.extract 0 k) = (bytesOf s).take k := bytes_take s k
      have hsz : (s.extract 0 k).size ≤ 1000000 := by rw [ByteArray.size_extract]; omega
      have K3 := Lib.hid k3
      have HSL := Lib.hid hsl
      obtain ⟨s2, hs2⟩ : ∃ s2, s.extract 0 k = s2 := ⟨_, rfl⟩
      clear hE k1 k3 hsl
      go_wp2_with fail
      rw [hs2] at hsz HSL
      refine (Parse_any s2 _ hsz).mono ?_
      intro e w5 hpp
      replace hpp : PrsPost (bytesOf s2) _ e w5 := hpp
      revert hpp
      unfold PrsPost
      rw [HSL.out]
      rintro ⟨va3, vb3, rfl, hp3, hy⟩
      obtain ⟨aa3, ca3, rfl⟩ := hp3.t.len
      obtain ⟨ab3, cb3, rfl⟩ := hp3.s.len
      replace hx : Ext w w5 := hx.trans (Ext.trans (by repeat (first | exact Ext.refl _ | assumption | refine Ext.alloc ?_ _ | refine Ext.drew ?_ | refine Ext.drewN _ ?_ | refine Ext.trans ?_ (by assumption))) hy)
      have hTy := hT.ext hx
      clear hy hTx hs2
      by_cases h7 : prsE ((bytesOf s).take k) = 7
      · rw [h7, K3.out h7]
        go_wp2_with fail
        refine (sanity_any _ (hTy.ext (by repeat (first | exact Ext.refl _ | assumption | refine Ext.alloc ?_ _ | refine Ext.drew ?_ | refine Ext.drewN _ ?_ | refine Ext.trans ?_ (by assumption))))).mono ?_
        rintro e w6 ⟨rfl, hy⟩
        go_wp2_with fail
        go_ret
        exact ⟨ret_bool (by simp), hx.trans (Ext.trans (by repeat (first | exact Ext.refl _ | assumption | refine Ext.alloc ?_ _ | refine Ext.drew ?_ | refine Ext.drewN _ ?_ | refine Ext.trans ?_ (by assumption))) hy)⟩
      · obtain ⟨E7, hE7⟩ : ∃ E7, prsE ((bytesOf s).take k) = E7 := ⟨_, rfl⟩
        rw [hE7] at h7 ⊢
        have h7b : (E7 != 7) = true := by simpa using h7
        clear hE7 h7
        go_wp2_with fail
        refine (sanity_any _ (hTy.ext (by repeat (first | exact Ext.refl _ | assumption | refine Ext.alloc ?_ _ | refine Ext.drew ?_ | refine Ext.drewN _ ?_ | refine Ext.trans ?_ (by assumption))))).mono ?_
        rintro e w6 ⟨rfl, hy⟩
        go_wp2_with fail
        go_ret
        exact ⟨ret_bool (by simp), hx.trans (Ext.trans (by repeat (first | exact Ext.refl _ | assumption | refine Ext.alloc ?_ _ | refine Ext.drew ?_ | refine Ext.drewN _ ?_ | refine Ext.trans ?_ (by assumption))) hy)⟩

set_option maxRecDepth 100000 in
set_option maxHeartbeats 4000000 in
theorem TurnReadsBack_any (a b : Value) (S : Mn) (s : ByteArray) (w : World) (hT : Tab w) (hS : MinsAt w a b S) :
    Calls Tryd.prog 6 #[.agg #[a, b], .string s] w fun e w' => e = .returned (.bool true) ∧ Ext w w' := by
  obtain ⟨aa, ca, rfl⟩ := hS.t.len
  obtain ⟨ab, cb, rfl⟩ := hS.s.len
  by_cases h1 : S.ts.length ≤ 30
  · by_cases h2 : S.ss.length ≤ 50
    · by_cases h3 : s.size ≤ 3200
      · exact Back_main aa ab ca cb S s w hT hS h1 h2 h3
      · go_enter Tryd.func6, Tryd.ntmps6
        go_wp2_with fail
        refine (sanity_any _ (hT.ext (by repeat (first | exact Ext.refl _ | assumption | refine Ext.alloc ?_ _ | refine Ext.drew ?_ | refine Ext.drewN _ ?_ | refine Ext.trans ?_ (by assumption))))).mono ?_
        rintro e w1 ⟨rfl, hx1⟩
        go_wp2_with fail
        go_ret
        exact ⟨rfl, Ext.trans (by repeat (first | exact Ext.refl _ | assumption | refine Ext.alloc ?_ _ | refine Ext.drew ?_ | refine Ext.drewN _ ?_ | refine Ext.trans ?_ (by assumption))) hx1⟩
    · go_enter Tryd.func6, Tryd.ntmps6
      go_wp2_with fail
      refine (sanity_any _ (hT.ext (by repeat (first | exact Ext.refl _ | assumption | refine Ext.alloc ?_ _ | refine Ext.drew ?_ | refine Ext.drewN _ ?_ | refine Ext.trans ?_ (by assumption))))).mono ?_
      rintro e w1 ⟨rfl, hx1⟩
      go_wp2_with fail
      go_ret
      exact ⟨rfl, Ext.trans (by repeat (first | exact Ext.refl _ | assumption | refine Ext.alloc ?_ _ | refine Ext.drew ?_ | refine Ext.drewN _ ?_ | refine Ext.trans ?_ (by assumption))) hx1⟩
  · go_enter Tryd.func6, Tryd.ntmps6
    go_wp2_with fail
    refine (sanity_any _ (hT.ext (by repeat (first | exact Ext.refl _ | assumption | refine Ext.alloc ?_ _ | refine Ext.drew ?_ | refine Ext.drewN _ ?_ | refine Ext.trans ?_ (by assumption))))).mono ?_
    rintro e w1 ⟨rfl, hx1⟩
    go_wp2_with fail
    go_ret
    exact ⟨rfl, Ext.trans (by repeat (first | exact Ext.refl _ | assumption | refine Ext.alloc ?_ _ | refine Ext.drew ?_ | refine Ext.drewN _ ?_ | refine Ext.trans ?_ (by assumption))) hx1⟩
end Go.Proofs.YtejmmfjabmmihaaDoor
namespace Go.Proofs.YtejmmfjabmmihaaDoor.turnReadsBack
open Go.ChangeShapes Go.WideShapes Go.ChangeAt Go.RowKit

set_option maxRecDepth 100000 in
theorem contract (H : Type) (enc : TypeId × Value → H) (W : World) (base : Nat) (args : Array Value) (ds gs : List (DataW H)) (before : List MemPlace)
    (hval : ∀ (j : Nat) t v, Tryd.f6.params[j]? = some t → args[j]? = some v → Value.okWide Tryd.prog W .any base t v)
    (hW : DataW.Whole enc Tryd.prog Tryd.f6.params.toList Rows.turnReadsBackSpec.vars false W args.toList ds gs before) (hL : laidMetH Tryd.prog Rows.turnReadsBackRow.laid W) :
    Calls Tryd.prog 6 args W fun e W' => ∃ v, e = .returned v ∧ Rows.turnReadsBackSpec.post enc Tryd.prog Tryd.f6 false true false false W args v W' := by
  have hW' := hW
  obtain ⟨p, q, hA, hV, rfl, hfz, hnd⟩ := hW
  rw [show Tryd.f6.params = #[34, 9] from rfl] at hA hval
  obtain ⟨v0, vs0, d0, ds0, p0, q0, hargs, rfl, rfl, h0, r0⟩ := trodAll_cons hA
  obtain ⟨v1, vs1, d1, ds1, p1, q1, rfl, rfl, rfl, h1, r1⟩ := trodAll_cons r0
  obtain ⟨rfl, rfl, rfl⟩ := trodAll_nil r1
  obtain rfl : args = #[v0, v1] := by cases args; simp_all
  obtain ⟨rfl, rfl⟩ := trodVars_none hV
  obtain ⟨x0, y0, S0, rfl, hS0⟩ := open_minutes (hval 0 34 v0 rfl rfl) h0
  obtain ⟨x1, rfl, hd1, hp1⟩ := Go.ChangeMaps.open_string Tryd.underlying9 (hval 1 9 v1 rfl rfl) h1
  refine (TurnReadsBack_any _ _ S0 _ W (tab_of hL) hS0).mono fun e W' ⟨he, hg⟩ => ?_
  subst he
  refine ⟨_, rfl, post_true hW' rfl rfl ⟨rfl, rfl, rfl⟩ ?_ hg⟩
  rw [show Tryd.f6.params = #[34, 9] from rfl]
  intro t ht
  simp only [List.mem_cons, List.not_mem_nil, or_false] at ht
  rcases ht with rfl | rfl <;> exact ⟨by kernel_rfl, of_decide_eq_true (by kernel_rfl)⟩

noncomputable def wArgs : Array Value := #[.agg #[.slice none 0 0, .slice none 0 0], .string ⟨#[]⟩]
set_option maxRecDepth 100000 in
theorem laid_met (os : Os) : laidMet Tryd.prog Rows.turnReadsBackRow.laid ((laidWorld os).forCall (fun _ _ => 0) ⟨#[], wArgs, []⟩).memory :=
  laidMet_of_run' 8 (by kernel_rfl) (by kernel_rfl)
set_option maxRecDepth 100000 in
theorem reads (os : Os) {H : Type} (enc : TypeId × Value → H) : ∃ x places, DataW.whole enc Tryd.prog ((laidWorld os).forCall (fun _ _ => 0) ⟨#[], wArgs, []⟩).memory Tryd.f6.params.toList Rows.turnReadsBackSpec.vars false wArgs.toList 8 = some (x, [], places) :=
  ⟨[.agg [.nil, .nil], .lit (.string [])], [], by kernel_rfl⟩

set_option maxRecDepth 100000 in
theorem lifted (os : Os) (started : os.Started) (H : Type) (enc : TypeId × Value → H) (F : Stop.Interp) :
    ReturnsInHanded {} Tryd.checked os 6 .any ((OpenSpec.ofChange Rows.turnReadsBackSpec).preRow enc Tryd.prog Tryd.f6 Rows.turnReadsBackRow.domain false Rows.turnReadsBackRow.laid) (((OpenSpec.ofChange Rows.turnReadsBackSpec).at F).post enc Tryd.prog Tryd.f6 false true false false) := by
  obtain ⟨x, places, hx⟩ := reads os enc
  refine returnsInHanded_of_row (C := Tryd.checked) (s := OpenSpec.ofChange Rows.turnReadsBackSpec) own started (by kernel_rfl) Tryd.func6
    (witness_row_at (enc := enc) (C := Tryd.checked) false (laidWorld os) wArgs rfl (by kernel_rfl) (by kernel_rfl) (by kernel_rfl)
      (OpenSpec.preRow_of_cond 8 hx (by kernel_rfl) (fun k hk => by cases hk) (by kernel_rfl) (laid_met os))) ?_
  intro W base args ds gs before hval hW _ _ _ hL _ _
  exact contract H enc W base args ds gs before hval hW hL

set_option maxRecDepth 100000 in
theorem said : Rows.TurnReadsBackSaid :=
  OpenClaim.holds_of_cond 6 Tryd.f6 rfl rfl rfl rfl rfl rfl rfl ⟨rfl, rfl, rfl, rfl, rfl⟩ rfl rfl rfl rfl rfl (by kernel_rfl) Tryd.func6 (by kernel_rfl)
    (of_decide_eq_true (by kernel_rfl)) (by unfold Func.isWrapper; first | (rw [if_pos (by decide +kernel)]; kernel_rfl) | (rw [if_neg (by decide +kernel)]; exact ⟨rfl, rfl⟩))
    (fun os started H enc _ F => by rw [OpenClaim.pre_eq_preRow]; exact lifted os started H enc F)

set_option maxRecDepth 100000 in
theorem plain (f : FuncId) (fn : Func) (hf : Tryd.pinned.checked.prog.funcNamed "drowner/drownerlaw01.TurnReadsBack" = some f) (hfn : Tryd.pinned.checked.prog.funcs[f]? = some fn) :
    false = Tryd.pinned.checked.prog.looks [] ∧ ∀ (j : Nat) t, fn.params[j]? = some t → Tryd.pinned.checked.prog.wantsStandIn t = false := by
  obtain rfl : f = 6 := Option.some.inj ((show Tryd.prog.funcNamed "drowner/drownerlaw01.TurnReadsBack" = some 6 by kernel_rfl).symm.trans hf) |>.symm
  obtain rfl : fn = Tryd.f6 := (Option.some.inj (Tryd.func6.symm.trans hfn)).symm
  refine ⟨by kernel_rfl, fun j t ht => ?_⟩
  rw [show Tryd.f6.params = #[34, 9] from rfl] at ht
  have hm := Array.mem_of_getElem? ht
  simp only [List.mem_toArray, List.mem_cons, List.not_mem_nil, or_false] at hm
  rcases hm with rfl | rfl
  · exact (show Tryd.prog.wantsStandIn 34 = false by kernel_rfl)
  · exact (show Tryd.prog.wantsStandIn 9 = false by kernel_rfl)

set_option maxRecDepth 100000 in
theorem card : Rows.TurnReadsBackCardSaid :=
  Claim7.holds_tied_plain_at .later [] _ _ _ _ said (fun _ h => by cases h) (by kernel_rfl) (fun _ h => by cases h) turnReadsBack_row_tie rfl ⟨rfl, rfl⟩ (by kernel_rfl) rfl plain (by kernel_rfl)
end Go.Proofs.YtejmmfjabmmihaaDoor.turnReadsBack
