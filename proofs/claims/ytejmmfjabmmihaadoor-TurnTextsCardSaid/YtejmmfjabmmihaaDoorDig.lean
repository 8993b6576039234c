/- digits and Print of the specification. -/
import Derived.Test.YtejmmfjabmmihaaDoorPrint
namespace Go.Proofs.YtejmmfjabmmihaaDoor
open Go.RowKit Go.Shelf

theorem decDigits_small (u : Nat) (h : u < 10) : Lib.decDigits u = [UInt8.ofNat (48 + u)] := by rw [Lib.decDigits]; simp [h]
theorem decDigits_big (u : Nat) (h : ¬ u < 10) : Lib.decDigits u = Lib.decDigits (u / 10) ++ [UInt8.ofNat (48 + u % 10)] := by rw [Lib.decDigits]; simp [h]
theorem one_byte (w : World) (x : Nat) (hx : x < 256) : (convert 98 9 (.slice (some ⟨w.heap.size, 0, none⟩) 1 1)).run Tryd.prog (w.alloc (.cells #[.int .u8 (x : Int)] 5)) = .ok (.string ⟨#[UInt8.ofNat x]⟩) (w.alloc (.cells #[.int .u8 (x : Int)] 5)) := by
  have h := run_convert_bytes_back (P := Tryd.prog) (w.alloc (.cells #[.int .u8 (x : Int)] 5)) 98 9 5 ⟨w.heap.size, 0, none⟩ 1 [UInt8.ofNat x] Tryd.underlying98 Tryd.underlying5 Tryd.underlying9 (fun j hj => by
    simp only [List.length_singleton] at hj
    obtain rfl : j = 0 := by omega
    refine cell_at_new _ _ _ _ _ _ rfl ?_
    simp [UInt8.toNat_ofNat', Nat.mod_eq_of_lt hx])
  exact h
set_option maxRecDepth 100000 in
set_option maxHeartbeats 1000000 in
theorem digits_any (n : Nat) : ∀ (w : World), n ≤ 1000000000 → Calls Tryd.prog 77 #[.int .i64 n] w fun e w' => e = .returned (.string ⟨(dg n).toArray⟩) ∧ Ext w w' := by
  induction n using Nat.strongRecOn with
  | _ n ih =>
    intro w hn
    have hm : (n : Int).tmod 10 = ((n % 10 : Nat) : Int) := by rw [Int.tmod_eq_emod_of_nonneg (by omega)]; omega
    have hd : (n : Int).tdiv 10 = ((n / 10 : Nat) : Int) := by rw [Int.tdiv_eq_ediv_of_nonneg (by omega)]; omega
    have hlt : n % 10 < 10 := Nat.mod_lt _ (by omega)
    obtain ⟨r, hr⟩ : ∃ r, n % 10 = r := ⟨_, rfl⟩
    rw [hr] at hm hlt
    obtain ⟨q, hq⟩ : ∃ q, n / 10 = q := ⟨_, rfl⟩
    rw [hq] at hd
    have HR := Lib.hid hr
    have HQ := Lib.hid hq
    have IH := Lib.hid ih
    clear hr hq ih
    have hcv := one_byte w (48 + r) (by omega)
    rw [show ((48 + r : Nat) : Int) = 48 + (r : Int) by omega] at hcv
    obtain ⟨x8, hx8⟩ : ∃ x8, UInt8.ofNat (48 + r) = x8 := ⟨_, rfl⟩
    rw [hx8] at hcv
    have HX8 := Lib.hid hx8
    clear hx8
    have hwq := IntWalk.wrap64_in (q : Int) (by have := HQ.out; omega)
    have hdg : (dg n : List UInt8) = Lib.decDigits n := by simp [dg]
    have HDG := Lib.hid hdg
    clear hdg
    by_cases hs : n < 10
    · go_enter Tryd.func77, Tryd.ntmps77
      go_wp2_with fail
      go_ret
      refine ⟨?_, (by repeat (first | exact Ext.refl _ | assumption | refine Ext.alloc ?_ _ | refine Ext.drew ?_ | refine Ext.drewN _ ?_ | refine Ext.trans ?_ (by assumption)))⟩
      rw [HDG.out, decDigits_small n hs, show n = r by have := HR.out; omega, HX8.out]
      rfl
    · go_enter Tryd.func77, Tryd.ntmps77
      go_wp2_with fail
      refine (IH.out q (by have := HQ.out; omega) _ (by have := HQ.out; omega)).mono ?_
      rintro e w1 ⟨rfl, hx1⟩
      have hsz : (dg (q : Int)).length ≤ 10 := decDigits_len 9 _ (by have := HQ.out; simp; omega)
      have hsz2 : ¬ ((dg (q : Int)).length + 1 > 9223372036854775807) := by omega
      have hsz3 : ¬ (9223372036854775807 < (dg (q : Int)).length + 1) := by omega
      go_wp2_with fail
      go_ret
      refine ⟨?_, (by repeat (first | exact Ext.refl _ | assumption | refine Ext.alloc ?_ _ | refine Ext.drew ?_ | refine Ext.drewN _ ?_ | refine Ext.trans ?_ (by assumption)))⟩
      rw [HDG.out, decDigits_big n hs, HR.out, HX8.out, HQ.out]
      rw [show Lib.decDigits q = dg (q : Int) by simp [dg]]
      have ha := ByteArray.mk_append_mk (dg (q : Int)) [x8]
      show Ending.returned (.string (⟨(dg (q : Int)).toArray⟩ ++ ⟨#[x8]⟩)) = _
      rw [← ha]
end Go.Proofs.YtejmmfjabmmihaaDoor
