/- labels of the program: its closure. labels of the program: the least label. labels and Fairest of the program. Fairest of the program. -/
import Derived.Test.YtiofdfjcaklmcaaFWy
import Derived.Test.YtiofdfjcaklmcaaFPa
import Derived.Test.YtiofdfjcaklmcaaFSu
namespace Go.Proofs.Ytiofdfjcaklmcaa
open Go.RowKit Go.Shelf

def lb1 (P : Po) (g : List Int) (a : Int) (t : Te) : Int := if (wayTo (wayF P g a) t.id).isSome = true ∧ cntI g t.id < t.most then cntI g t.id else 41
set_option maxRecDepth 100000 in
set_option maxHeartbeats 8000000 in
theorem lab1_any (a b : Value) (P : Po) (g : List Int) (fr : Int) (hok : OkP P) (k : Nat) (hk : k < P.ts.length) (Bp Bf Bc M n₀ cc : Nat) (cA : Option Addr) (ml : List (Int × Value)) (w : World) (hT : PoAt w a b P)
    (q : Cls Bp 25 #[a, b] w) (qf : w.cell? ⟨Bf, 0, none⟩ = some (.map (some M))) (qc : w.cell? ⟨Bc, 0, none⟩ = some (.slice cA (cntT P g).length cc)) (hM : MapAt encI w M ml) (hF : FndR P n₀ w ml (wayF P g fr)) (hC : IntsAt w (.slice cA (cntT P g).length cc) (cntT P g)) :
    Calls Try.prog 129 #[.agg #[.int .i64 P.ts[k].id, .int .i64 P.ts[k].most], .pointer (some ⟨Bp, 0, none⟩), .pointer (some ⟨Bf, 0, none⟩), .pointer (some ⟨Bc, 0, none⟩)] w fun e w' => e = .returned (.int .i64 (lb1 P g fr P.ts[k])) ∧ Ext w w' := by
  have hlb : lb1 P g fr P.ts[k] = if (wayTo (wayF P g fr) P.ts[k].id).isSome = true ∧ cntI g P.ts[k].id < P.ts[k].most then cntI g P.ts[k].id else 41 := rfl
  have KT := fun W (x : Ext w W) => tn_any a b P P.ts[k].id W (hT.t.ext x) (by have := hok.lt; omega)
  have KR := fun n W (x : Ext w W) => room_any a b P k n W (hT.t.ext x) hk
  rw [tn_at hok hk] at KT
  have hcl : (cntT P g).length = P.ts.length := cntT_len P g
  have hkc : k < (cntT P g).length := by omega
  obtain ⟨cb, co, hce, cn⟩ := hC.get k hkc
  rw [cntT_get P g k hkc hk] at cn
  subst hce
  obtain ⟨x, hx⟩ : ∃ x, P.ts[k].id = x := ⟨_, rfl⟩
  obtain ⟨y, hy⟩ : ∃ y, P.ts[k].most = y := ⟨_, rfl⟩
  obtain ⟨R, hR⟩ : ∃ y, lb1 P g fr P.ts[k] = y := ⟨_, rfl⟩
  rw [hR] at hlb ⊢
  rw [hx] at KT hlb cn ⊢
  rw [hy] at hlb ⊢
  simp only [hy] at KR
  obtain ⟨n, hn⟩ : ∃ n, cntI g x = n := ⟨_, rfl⟩
  rw [hn] at cn hlb
  have hlt := hok.lt
  obtain ⟨C, hCC⟩ : ∃ C, cntT P g = C := ⟨_, rfl⟩
  rw [hCC] at qc hkc hcl
  have HL := Lib.hid hlb
  have HKT := Lib.hid KT
  have KRn := KR n
  obtain ⟨rb, hrb⟩ : ∃ r, decide (n < y) = r := ⟨_, rfl⟩
  simp only [hrb] at KRn
  have HRB := Lib.hid hrb
  have HKR := Lib.hid KRn
  have hkci : (k : Int) < C.length := by omega
  have hk0 : ¬ ((k : Int) < 0) := by omega
  clear hlb KT KR KRn hrb hx hy hR hn hCC hC hcl
  go_enter Try.func129, Try.ntmps129
  have d0 : w.cell? ⟨Bp, 0, none⟩ = some a := q.cell 0
  have d1 : w.cell? ⟨Bp, 1, none⟩ = some b := q.cell 1
  obtain ⟨B4, hB4⟩ : ∃ N, w.heap.size = N := ⟨_, rfl⟩
  obtain ⟨w1, hw1⟩ : ∃ W, w.alloc (.cells #[.int .i64 x, .int .i64 y] 45) = W := ⟨_, rfl⟩
  have hx1 : Ext w w1 := by rw [← hw1]; exact (by repeat (first | exact Ext.refl _ | assumption | refine Ext.alloc ?_ _ | refine Ext.drew ?_ | refine Ext.drewN _ ?_ | refine Ext.trans ?_ (by assumption)))
  have q4 : Cls B4 45 #[.int .i64 x, .int .i64 y] w1 := by rw [← hw1]; exact Cls.newAt _ _ _ hB4.symm
  have t0 : w1.cell? ⟨B4, 0, none⟩ = some (.int .i64 x) := q4.cell 0
  replace d0 := hx1.cell d0
  replace d1 := hx1.cell d1
  go_wp2_with fail
  refine (HKT.out _ hx1).mono ?_
  rintro e w2 ⟨rfl, hz⟩
  have hx := hx1.trans hz
  replace d0 := hz.cell d0
  replace d1 := hz.cell d1
  replace t0 := hz.cell t0
  have f0 := hx.cell qf
  have z0 := hx.cell qc
  replace cn := hx.cell cn
  replace hM := hM.ext hx
  replace hF := hF.ext hx
  clear hz hx1 hw1 hB4 q4 qf qc q
  cases hw : wayTo (wayF P g fr) x with
  | none =>
    have hs := HL.out
    rw [hw, if_neg (by simp)] at hs
    have hg0 := hF.lookN (wayTo_none hw)
    have HS := Lib.hid hs
    have HG := Lib.hid hg0
    clear hs hg0 hw
    go_wp2_with (refine wpList_lookupMap rfl _ _ true rfl KI mapTs rfl hM x rfl (zeroSs _) ?_; simp only [if_true]; rw [HG.out])
    refine wp_region_held_drew (S := fun W' => W'.cell? ⟨Bp, 0, none⟩ = some a ∧ W'.cell? ⟨Bp, 1, none⟩ = some b ∧ W'.cell? ⟨Bc, 0, none⟩ = some (.slice (some ⟨cb, co, none⟩) C.length cc) ∧ W'.cell? ⟨cb, co + k, none⟩ = some (.int .i64 n) ∧ Ext w2 W') (by kernel_rfl) ?_ (fun hHeld => ?_)
    · exact ⟨d0, d1, z0, cn, Ext.drew (Ext.refl _)⟩
    obtain ⟨V0, hV0⟩ : ∃ V, World.drew w2 = V := ⟨_, rfl⟩
    rw [hV0] at hHeld ⊢
    clear hV0
    (refine tkH (i := 0) (v := ?_) rfl ?_ ?_; rotate_left 1; (focus (intro w hSw; (try dsimp only at hSw); go_simp; try (with_reducible rfl))))
    try simp only [Act.put, xA1, xA2, xA4, xA5, xA6]
    (refine tkH (i := 1) (v := ?_) rfl ?_ ?_; rotate_left 1; (focus (intro w hSw; (try dsimp only at hSw); go_simp; try (with_reducible rfl))))
    try simp only [Act.put, xA1, xA2, xA3, xA4, xA5, xA6]
    (refine tkH (i := 2) (v := ?_) rfl ?_ ?_; rotate_left 1; (focus (intro w hSw; (try dsimp only at hSw); go_simp; try (with_reducible rfl))))
    try simp only [Act.put, xA1, xA2, xA3, xA4, xA5, xA6]
    (refine skH (i := 3) rfl ?_)
    try simp only [Act.put, xA1, xA2, xA3, xA4, xA5, xA6]
    (refine skH (i := 4) rfl ?_)
    try simp only [Act.put, xA1, xA2, xA3, xA4, xA5, xA6]
    (refine skH (i := 5) rfl ?_)
    try simp only [Act.put, xA1, xA2, xA3, xA4, xA5, xA6]
    (refine skH (i := 6) rfl ?_)
    try simp only [Act.put, xA1, xA2, xA3, xA4, xA5, xA6]
    (refine skH (i := 7) rfl ?_)
    try simp only [Act.put, xA1, xA2, xA3, xA4, xA5, xA6]
    (refine skH (i := 8) rfl ?_)
    try simp only [Act.put, xA1, xA2, xA3, xA4, xA5, xA6]
    (refine skH (i := 9) rfl ?_)
    try simp only [Act.put, xA1, xA2, xA3, xA4, xA5, xA6]
    (refine skH (i := 10) rfl ?_)
    try simp only [Act.put, xA1, xA2, xA3, xA4, xA5, xA6]
    (refine tkH (i := 11) (v := ?_) rfl ?_ ?_; rotate_left 1; (focus (intro w hSw; (try dsimp only at hSw); go_simp; try (with_reducible rfl))))
    try simp only [Act.put, xA1, xA2, xA3, xA4, xA5, xA6]
    refine wpAnyH_done (by kernel_rfl) ?_ _
    have hzz := hHeld.2.2.2.2
    go_wp2_with fail
    go_ret
    exact ⟨by rw [HS.out]; rfl, hx.trans hzz⟩
  | some l =>
    have hs := HL.out
    rw [hw] at hs
    simp only [Option.isSome_some, true_and] at hs
    obtain ⟨vl, hgl, hrl⟩ := hF.lookS hw
    have HG := Lib.hid hgl
    have HS := Lib.hid hs
    clear hs hgl hw
    go_wp2_with (refine wpList_lookupMap rfl _ _ true rfl KI mapTs rfl hM x rfl (zeroSs _) ?_; simp only [if_true]; rw [HG.out])
    refine wp_region_held_drew (S := fun W' => W'.cell? ⟨Bp, 0, none⟩ = some a ∧ W'.cell? ⟨Bp, 1, none⟩ = some b ∧ W'.cell? ⟨Bc, 0, none⟩ = some (.slice (some ⟨cb, co, none⟩) C.length cc) ∧ W'.cell? ⟨cb, co + k, none⟩ = some (.int .i64 n) ∧ Ext w2 W') (by kernel_rfl) ?_ (fun hHeld => ?_)
    · exact ⟨d0, d1, z0, cn, Ext.drew (Ext.refl _)⟩
    obtain ⟨V0, hV0⟩ : ∃ V, World.drew w2 = V := ⟨_, rfl⟩
    rw [hV0] at hHeld ⊢
    clear hV0
    (refine tkH (i := 0) (v := ?_) rfl ?_ ?_; rotate_left 1; (focus (intro w hSw; (try dsimp only at hSw); go_simp; try (with_reducible rfl))))
    try simp only [Act.put, xA1, xA2, xA4, xA5, xA6]
    (refine tkH (i := 1) (v := ?_) rfl ?_ ?_; rotate_left 1; (focus (intro w hSw; (try dsimp only at hSw); go_simp; try (with_reducible rfl))))
    try simp only [Act.put, xA1, xA2, xA3, xA4, xA5, xA6]
    (refine tkH (i := 2) (v := ?_) rfl ?_ ?_; rotate_left 1; (focus (intro w hSw; (try dsimp only at hSw); go_simp; try (with_reducible rfl))))
    try simp only [Act.put, xA1, xA2, xA3, xA4, xA5, xA6]
    (refine tkH (i := 3) (v := ?_) rfl ?_ ?_; rotate_left 1; (focus (intro w hSw; (try dsimp only at hSw); go_simp; try (with_reducible rfl))))
    try simp only [Act.put, xA1, xA2, xA3, xA4, xA5, xA6]
    (refine tkH (i := 4) (v := ?_) rfl ?_ ?_; rotate_left 1; (focus (intro w hSw; (try dsimp only at hSw); go_simp; try (with_reducible rfl))))
    try simp only [Act.put, xA1, xA2, xA3, xA4, xA5, xA6]
    (refine tkH (i := 5) (v := ?_) rfl ?_ ?_; rotate_left 1; (focus (intro w hSw; (try dsimp only at hSw); go_simp; try (with_reducible rfl))))
    try simp only [Act.put, xA1, xA2, xA3, xA4, xA5, xA6]
    (refine tkH (i := 6) (v := ?_) rfl ?_ ?_; rotate_left 1; (focus (intro w hSw; (try dsimp only at hSw); go_simp; try (with_reducible rfl))))
    try simp only [Act.put, xA1, xA2, xA3, xA4, xA5, xA6]
    (refine tkH (i := 7) (v := ?_) rfl ?_ ?_; rotate_left 1; (focus (intro w hSw; (try dsimp only at hSw); go_simp; try (with_reducible rfl))))
    try simp only [Act.put, xA1, xA2, xA3, xA4, xA5, xA6]
    (refine tkH (i := 8) (v := ?_) rfl ?_ ?_; rotate_left 1; (focus (intro w hSw; (try dsimp only at hSw); go_simp; try (with_reducible rfl))))
    try simp only [Act.put, xA1, xA2, xA3, xA4, xA5, xA6]
    refine wpAnyH_ready (rs := [9]) (by kernel_rfl) (by simp) ?_
    refine AllReadyH.cons rfl (fun K hK => ?_) AllReadyH.nil
    go_simp
    go_at_call 77; refine (HKR.out V0 (hx.trans hHeld.2.2.2.2)).mono ?_; rintro e V1 ⟨rfl, hz⟩
    refine hK.out _ _ ?_ (fun hHeld => ?_)
    · exact ⟨Ext.cell hz hHeld.1, Ext.cell hz hHeld.2.1, Ext.cell hz hHeld.2.2.1, Ext.cell hz hHeld.2.2.2.1, hHeld.2.2.2.2.trans hz⟩
    clear hK K
    clear hz
    try simp only [Act.put, xA1, xA2, xA3, xA4, xA5, xA6]
    (refine tkH (i := 10) (v := ?_) rfl ?_ ?_; rotate_left 1; (focus (intro w hSw; (try dsimp only at hSw); go_simp; try (with_reducible rfl))))
    try simp only [Act.put, xA1, xA2, xA3, xA4, xA5, xA6]
    (refine tkH (i := 11) (v := ?_) rfl ?_ ?_; rotate_left 1; (focus (intro w hSw; (try dsimp only at hSw); go_simp; try (with_reducible rfl))))
    try simp only [Act.put, xA1, xA2, xA3, xA4, xA5, xA6]
    refine wpAnyH_done (by kernel_rfl) ?_ _
    have hzz := hHeld.2.2.2.2
    replace z0 := hzz.cell z0
    replace cn := hzz.cell cn
    cases rb
    · have hs := HS.out
      rw [if_neg (by have := HRB.out; simpa using this)] at hs
      have HS2 := Lib.hid hs
      clear hs
      go_wp2_with fail
      go_ret
      exact ⟨by rw [HS2.out]; rfl, hx.trans hzz⟩
    · have hs := HS.out
      rw [if_pos (by have := HRB.out; simpa using this)] at hs
      have HS2 := Lib.hid hs
      clear hs
      go_wp2_with fail
      go_ret
      exact ⟨by rw [HS2.out]; rfl, hx.trans hzz⟩
end Go.Proofs.Ytiofdfjcaklmcaa
namespace Go.Proofs.Ytiofdfjcaklmcaa
open Go.RowKit Go.Shelf

theorem lblX_eq (P : Po) (g : List Int) (fr : Int) : lblX P g fr = P.ts.foldl (fun m t => min m (lb1 P g fr t)) 41 := rfl
set_option maxRecDepth 100000 in
set_option maxHeartbeats 8000000 in
theorem least_any (a b : Value) (P : Po) (g : List Int) (fr : Int) (hok : OkP P) (Bp Bf Bc M n₀ cc : Nat) (cA : Option Addr) (ml : List (Int × Value)) (w : World) (hT : PoAt w a b P)
    (q : Cls Bp 25 #[a, b] w) (qf : w.cell? ⟨Bf, 0, none⟩ = some (.map (some M))) (qc : w.cell? ⟨Bc, 0, none⟩ = some (.slice cA (cntT P g).length cc)) (hM : MapAt encI w M ml) (hF : FndR P n₀ w ml (wayF P g fr)) (hC : IntsAt w (.slice cA (cntT P g).length cc) (cntT P g)) :
    Calls Try.prog 128 #[a, .int .i64 41, .func (.func 129) #[] #[.pointer (some ⟨Bp, 0, none⟩), .pointer (some ⟨Bf, 0, none⟩), .pointer (some ⟨Bc, 0, none⟩)]] w fun e w' => e = .returned (.int .i64 (lblX P g fr)) ∧ Ext w w' := by
  have KL := fun (k : Nat) (hk : k < P.ts.length) W (x : Ext w W) => lab1_any a b P g fr hok k hk Bp Bf Bc M n₀ cc cA ml W (hT.ext x) (q.ext x) (x.cell qf) (x.cell qc) (hM.ext x) (hF.ext x) (hC.ext x)
  have hstep := fun k (hk : k < P.ts.length) => (show (P.ts.take (k + 1)).foldl (fun m t => min m (lb1 P g fr t)) 41 = min ((P.ts.take k).foldl (fun m t => min m (lb1 P g fr t)) 41) (lb1 P g fr P.ts[k]) by
    rw [List.take_succ_eq_append_getElem hk, List.foldl_append]; rfl)
  have hend := lblX_eq P g fr
  obtain ⟨aa, ca, rfl, hla⟩ := hT.t.len
  obtain ⟨R, hR⟩ : ∃ R, lblX P g fr = R := ⟨_, rfl⟩
  rw [hR] at hend ⊢
  have HKL := Lib.hid KL
  have HST := Lib.hid hstep
  have HE := Lib.hid hend
  have hlt := hok.lt
  clear KL hstep hend hR q qf qc hM hF hC
  go_enter Try.func128, Try.ntmps128
  go_wp2_with fail
  go_loopw [7, 13] (fun m i wr => ∃ k : Nat, k ≤ P.ts.length ∧ i = .int .i64 k ∧ m = .int .i64 ((P.ts.take k).foldl (fun m t => min m (lb1 P g fr t)) 41) ∧ Ext w wr) (fun _ i _ => P.ts.length - (intOf i).toNat)
  case atStart => exact ⟨0, Nat.zero_le _, rfl, rfl, Ext.refl _⟩
  case round =>
    obtain ⟨k, hk, rfl, rfl, hx⟩ := hrel
    by_cases hlk : k < P.ts.length
    · obtain ⟨bb, oo, haa, c0, c1⟩ := (hT.t.ext hx).get k hlk
      subst haa
      have K8 := HKL.out k hlk
      have hs := HST.out k hlk
      obtain ⟨v, hv⟩ : ∃ v, lb1 P g fr P.ts[k] = v := ⟨_, rfl⟩
      obtain ⟨x, hxx⟩ : ∃ x, P.ts[k].id = x := ⟨_, rfl⟩
      obtain ⟨y, hyy⟩ : ∃ y, P.ts[k].most = y := ⟨_, rfl⟩
      obtain ⟨m, hm⟩ : ∃ m, (P.ts.take k).foldl (fun m t => min m (lb1 P g fr t)) 41 = m := ⟨_, rfl⟩
      rw [hv, hm] at hs
      rw [hm]
      rw [hxx] at c0
      rw [hyy] at c1
      simp only [hv, hxx, hyy] at K8
      have HS := Lib.hid hs
      have HK8 := Lib.hid K8
      obtain ⟨TB, hTB⟩ : ∃ PB, wr.heap.size = PB := ⟨_, rfl⟩
      obtain ⟨Y, hY⟩ : ∃ Y, wr.alloc (.cells #[.int .i64 x, .int .i64 y] 45) = Y := ⟨_, rfl⟩
      have hxY : Ext wr Y := by rw [← hY]; exact (by repeat (first | exact Ext.refl _ | assumption | refine Ext.alloc ?_ _ | refine Ext.drew ?_ | refine Ext.drewN _ ?_ | refine Ext.trans ?_ (by assumption)))
      have hbY : Cls TB 45 #[.int .i64 x, .int .i64 y] Y := by rw [← hY]; exact Cls.newAt _ _ _ hTB.symm
      have e0 : Y.cell? ⟨TB, 0, none⟩ = some (.int .i64 x) := hbY.cell 0
      have e1 : Y.cell? ⟨TB, 1, none⟩ = some (.int .i64 y) := hbY.cell 1
      have hy := hx.trans hxY
      clear hs K8 hv hxx hyy hm hxY hbY hx
      go_wp2_with fail
      refine (HK8.out Y hy).mono ?_
      rintro e w2 ⟨rfl, hz⟩
      have hy2 := hy.trans hz
      clear hY hTB hz hy e0 e1
      go_wp2_with fail
      go_roundw
      case rel => exact ⟨k + 1, by omega, by go_num, by rw [HS.out], hy2⟩
      case measure => simp [intOf]; omega
    · obtain rfl : k = P.ts.length := by omega
      rw [List.take_length]
      have HE2 := HE.out
      rw [← HE2]
      go_wp2_with fail
      go_ret
      exact ⟨rfl, hx⟩
end Go.Proofs.Ytiofdfjcaklmcaa
namespace Go.Proofs.Ytiofdfjcaklmcaa
open Go.RowKit Go.Shelf

/-- the labels that are returned -/
def labL (P : Po) (g : List Int) : List Int := P.ts.map (fun t => lblX P g t.id)
set_option maxRecDepth 100000 in
set_option maxHeartbeats 8000000 in
theorem labels_any (a b v : Value) (P : Po) (g : List Int) (hok : OkP P) (hS : ShrV P g) (w : World) (hT : PoAt w a b P) (hg : IntsAt w v g) :
    Calls Try.prog 95 #[.agg #[a, b], v] w fun e w' => ∃ u, e = .returned u ∧ RowI w.heap.size u (labL P g) w' ∧ Ext w w' := by
  have hlt := hok.lt
  have hgl := hS.le hok
  have KC := fun W (x : Ext w W) => counts_any a b v P g W (hT.t.ext x) (hg.ext x) (by omega) (by omega)
  have KW := fun fr W (x : Ext w W) => ways_any a b v P g fr hok hS.len W (hT.ext x) (hg.ext x)
  have hstep := fun k (hk : k < P.ts.length) => (show (P.ts.take (k + 1)).map (fun t => lblX P g t.id) = (P.ts.take k).map (fun t => lblX P g t.id) ++ [lblX P g P.ts[k].id] by
    rw [List.take_succ_eq_append_getElem hk, List.map_append]; rfl)
  obtain ⟨aa, ca, rfl, hla⟩ := hT.t.len
  obtain ⟨gA, gc, rfl, hgl2⟩ := hg.len
  obtain ⟨R, hR⟩ : ∃ R, labL P g = R := ⟨_, rfl⟩
  rw [hR]
  have HR := Lib.hid hR
  have HKC := Lib.hid KC
  have HKW := Lib.hid KW
  have HST := Lib.hid hstep
  clear hR KC KW hstep
  go_enter Try.func95, Try.ntmps95
  go_wp2_with fail
  refine (HKC.out _ (by repeat (first | exact Ext.refl _ | assumption | refine Ext.alloc ?_ _ | refine Ext.drew ?_ | refine Ext.drewN _ ?_ | refine Ext.trans ?_ (by assumption)))).mono ?_
  rintro e w1 ⟨cv, rfl, hcr, hx1⟩
  obtain ⟨q, hx, hk0⟩ := alloc1 hx1
  have hcv := hcr.at_
  obtain ⟨cA, cc, rfl, _⟩ := hcv.len
  have d0 : w1.cell? ⟨w.heap.size, 0, none⟩ = some (.slice aa P.ts.length ca) := q.cell 0
  have d1 : w1.cell? ⟨w.heap.size, 1, none⟩ = some b := q.cell 1
  obtain ⟨Bc, hBc⟩ : ∃ N, w1.heap.size = N := ⟨_, rfl⟩
  obtain ⟨w2, hw2⟩ : ∃ W, w1.alloc (.cells #[.slice cA (cntT P g).length cc] 46) = W := ⟨_, rfl⟩
  have hx12 : Ext w1 w2 := by rw [← hw2]; exact (by repeat (first | exact Ext.refl _ | assumption | refine Ext.alloc ?_ _ | refine Ext.drew ?_ | refine Ext.drewN _ ?_ | refine Ext.trans ?_ (by assumption)))
  have qc : Cls Bc 46 #[.slice cA (cntT P g).length cc] w2 := by rw [← hw2]; exact Cls.newAt _ _ _ hBc.symm
  have q2 := q.ext hx12
  have hcv2 := hcv.ext hx12
  have hx2 := hx.trans hx12
  have d0 : w2.cell? ⟨w.heap.size, 0, none⟩ = some (.slice aa P.ts.length ca) := hx12.cell d0
  have KLe := fun fr W (x : Ext w2 W) Bf M n₀ ml (h1 : W.cell? ⟨Bf, 0, none⟩ = some (.map (some M))) (h2 : MapAt encI W M ml) (h3 : FndR P n₀ W ml (wayF P g fr)) => least_any _ b P g fr hok w.heap.size Bf Bc M n₀ cc cA ml W (hT.ext (hx2.trans x)) (q2.ext x) h1 (x.cell (qc.cell 0)) h2 h3 (hcv2.ext x)
  have HKL := Lib.hid KLe
  have hs2 := hx2.size
  clear hx1 hk0 hcr hcv hx q hx12 KLe
  obtain ⟨C, hC⟩ : ∃ C, cntT P g = C := ⟨_, rfl⟩
  simp only [hC] at hw2 qc hcv2 ⊢
  clear hC
  go_wp2_with fail
  clear hw2 hBc d0 d1
  go_loopw [6, 16] (fun o i wr => ∃ k : Nat, k ≤ P.ts.length ∧ i = .int .i64 k ∧ Hid (RowI w2.heap.size o ((P.ts.take k).map (fun t => lblX P g t.id)) wr) ∧ Ext w2 wr) (fun _ i _ => P.ts.length - (intOf i).toNat)
  case atStart => exact ⟨0, Nat.zero_le _, rfl, Lib.hid (rowI_nil _ _), Ext.refl _⟩
  case round =>
    obtain ⟨k, hk, rfl, HO, hy⟩ := hrel
    have hx := hx2.trans hy
    have d0 : wr.cell? ⟨w.heap.size, 0, none⟩ = some (.slice aa P.ts.length ca) := (q2.ext hy).cell 0
    have d1 : wr.cell? ⟨w.heap.size, 1, none⟩ = some b := (q2.ext hy).cell 1
    by_cases hlk : k < P.ts.length
    · obtain ⟨bb, oo, haa, c0, c1⟩ := (hT.t.ext hx).get k hlk
      subst haa
      have hs := HST.out k hlk
      obtain ⟨x, hxx⟩ : ∃ x, P.ts[k].id = x := ⟨_, rfl⟩
      obtain ⟨y, hyy⟩ : ∃ y, P.ts[k].most = y := ⟨_, rfl⟩
      have hLl : ((P.ts.take k).map (fun t => lblX P g t.id)).length ≤ 12 := by rw [List.length_map, List.length_take]; omega
      obtain ⟨L, hL⟩ : ∃ L, (P.ts.take k).map (fun t => lblX P g t.id) = L := ⟨_, rfl⟩
      rw [hL] at hs HO hLl
      rw [hxx] at c0 hs
      rw [hyy] at c1
      have KW := HKW.out x
      have KL := HKL.out x
      obtain ⟨z, hzz⟩ : ∃ z, lblX P g x = z := ⟨_, rfl⟩
      rw [hzz] at hs
      simp only [hzz] at KL
      have HKW8 := Lib.hid KW
      have HKL8 := Lib.hid KL
      have HS := Lib.hid hs
      obtain ⟨TB, hTB⟩ : ∃ PB, wr.heap.size = PB := ⟨_, rfl⟩
      obtain ⟨Y, hY⟩ : ∃ Y, wr.alloc (.cells #[.int .i64 x, .int .i64 y] 45) = Y := ⟨_, rfl⟩
      have hxY : Ext wr Y := by rw [← hY]; exact (by repeat (first | exact Ext.refl _ | assumption | refine Ext.alloc ?_ _ | refine Ext.drew ?_ | refine Ext.drewN _ ?_ | refine Ext.trans ?_ (by assumption)))
      have hbY : Cls TB 45 #[.int .i64 x, .int .i64 y] Y := by rw [← hY]; exact Cls.newAt _ _ _ hTB.symm
      have e0 : Y.cell? ⟨TB, 0, none⟩ = some (.int .i64 x) := hbY.cell 0
      have g0 := hxY.cell d0
      have g1 := hxY.cell d1
      have hyY := hy.trans hxY
      have hOY := Lib.hid (rowI_ext HO.out hxY)
      clear hs KW KL hzz hL hxx hyy hxY hbY hx hy HO
      go_wp2_with fail
      refine (HKW8.out Y (hx2.trans hyY)).mono ?_
      rintro e w3 ⟨M, ml, rfl, hMs, hM, hF, hz⟩
      obtain ⟨Bf, hBf⟩ : ∃ PB, w3.heap.size = PB := ⟨_, rfl⟩
      obtain ⟨Z, hZ⟩ : ∃ Y, w3.alloc (.cells #[.map (some M)] 117) = Y := ⟨_, rfl⟩
      have hxZ : Ext w3 Z := by rw [← hZ]; exact (by repeat (first | exact Ext.refl _ | assumption | refine Ext.alloc ?_ _ | refine Ext.drew ?_ | refine Ext.drewN _ ?_ | refine Ext.trans ?_ (by assumption)))
      have hbZ : Cls Bf 117 #[.map (some M)] Z := by rw [← hZ]; exact Cls.newAt _ _ _ hBf.symm
      have hzZ := hz.trans hxZ
      have hyZ := hyY.trans hzZ
      have g0 := hzZ.cell g0
      have g1 := hzZ.cell g1
      have hOZ := Lib.hid (rowI_ext hOY.out hzZ)
      have K9 := Lib.hid (HKL8.out Z hyZ Bf M _ ml (hbZ.cell 0) (hM.ext hxZ) (hF.ext hxZ))
      clear hY hTB hz hxZ hbZ hzZ hyY hOY hM hF hMs e0 d0 d1
      go_wp2_with fail
      refine K9.out.mono ?_
      rintro e w4 ⟨rfl, hz⟩
      have hy4 := hyZ.trans hz
      have hR4 := rowI_ext hOZ.out hz
      obtain ⟨oA, oc, hoe⟩ := hR4.form
      subst hoe
      have hs4 := hy4.size
      clear hZ hBf hz hyZ hOZ K9 g0 g1
      go_wp2_with (at_builtin; refine append_ints rfl _ _ rfl w2.heap.size _ _ L [z] rfl (rowI_ext hR4 (by repeat (first | exact Ext.refl _ | assumption | refine Ext.alloc ?_ _ | refine Ext.drew ?_ | refine Ext.drewN _ ?_ | refine Ext.trans ?_ (by assumption)))) rfl (ints_oneAt _ _ _ rfl) (by simp; omega) (by simp; omega) ?_; intro v7 W7 hr7 hg7 _; have hx7 := ext_own hy4 hR4 (Nat.le_refl _) (grown_pre hg7); clear hg7)
      go_roundw
      case rel => exact ⟨k + 1, by omega, by go_num, Lib.hid (by rw [HS.out]; exact hr7), hx7⟩
      case measure => simp [intOf]; omega
    · obtain rfl : k = P.ts.length := by omega
      have ho := HO.out
      rw [List.take_length] at ho
      have hR := HR.out
      unfold labL at hR
      rw [hR] at ho
      have HO2 := Lib.hid ho
      obtain ⟨oA, oc, hoe⟩ := ho.form
      subst hoe
      clear ho hR
      go_wp2_with fail
      go_ret
      exact ⟨_, rfl, rowI_base HO2.out hs2, hx⟩
end Go.Proofs.Ytiofdfjcaklmcaa
namespace Go.Proofs.Ytiofdfjcaklmcaa
open Go.RowKit Go.Shelf

theorem ints_setC {W : World} {B j : Nat} {t : TypeId} {x y u v : Value} {l : List Int} (h : IntsAt W v l) (hc : Cls B t #[x, y] W) (hx : ∀ k n, x ≠ .int k n) (hy : ∀ k n, y ≠ .int k n) : IntsAt (W.setCell ⟨B, j, none⟩ u) v l := by
  obtain ⟨ao, cap, hv, hle, hi⟩ := h
  refine ⟨ao, cap, hv, hle, fun i hl => ?_⟩
  obtain ⟨b, o, h0, h1⟩ := hi i hl
  refine ⟨b, o, h0, ?_⟩
  have hne : b ≠ B := fun e => by
    subst e
    rw [hc.cell] at h1
    rcases Nat.lt_or_ge (o + i) 2 with h2 | h2
    · rcases (show o + i = 0 ∨ o + i = 1 by omega) with h3 | h3
      · rw [h3] at h1; exact hx _ _ (Option.some.inj h1)
      · rw [h3] at h1; exact hy _ _ (Option.some.inj h1)
    · rw [Array.getElem?_eq_none (by simpa using h2)] at h1; cases h1
  have hh := Below.heap_setCell W ⟨B, j, none⟩ u b hne
  unfold World.cell? at h1 ⊢
  rw [hh]
  exact h1
def faxG (P : Po) : List Int := if chkE P = 0 then faiG P else []
def faxL (P : Po) : List Int := if chkE P = 0 then labL P (faiG P) else []
def FaiPost (w : World) (G L : List Int) (E : Int) (e : Ending) (w' : World) : Prop := ∃ u v, e = .returned (.tuple #[.agg #[u, v], .int .i64 E]) ∧ IntsAt w' u G ∧ IntsAt w' v L ∧ Ext w w'
theorem fai_ret {w W : World} {tmps : Array Value} {u v : Value} {G L : List Int} {E E' : Int} (h4 : tmps.getD 2 undef = .pointer (some ⟨w.heap.size + 1, 0, none⟩)) (h5 : tmps.getD 3 undef = .int .i64 E') (hc : Cls (w.heap.size + 1) 71 #[u, v] W) (hx : Ext w W) (he : E' = E) (hu : IntsAt W u G) (hv : IntsAt W v L) :
    bodyPost Try.prog Try.f39 (FaiPost w G L E) Exit.ret { tmps := tmps, defers := [] } W := by
  subst he
  have c0 : W.cell? ⟨w.heap.size + 1, 0, none⟩ = some u := hc.cell 0
  have c1 : W.cell? ⟨w.heap.size + 1, 1, none⟩ = some v := hc.cell 1
  have h4' : tmps[2]?.getD undef = .pointer (some ⟨w.heap.size + 1, 0, none⟩) := by simpa using h4
  have h5' : tmps[3]?.getD undef = .int .i64 E' := by simpa using h5
  exact bodyPost_ret (v := .tuple #[.agg #[u, v], .int .i64 E']) (by simp [results, Try.f39, go_sem, h4', h5', c0, c1]) rfl ⟨u, v, rfl, hu, hv, hx⟩
set_option maxRecDepth 100000 in
set_option maxHeartbeats 8000000 in
theorem Fairest_any (a b : Value) (P : Po) (w : World) (hT : PoAt w a b P) (hus : ∀ s ∈ P.ss, s.us.length ≤ 1000000) :
    Calls Try.prog 39 #[.agg #[a, b]] w (FaiPost w (faxG P) (faxL P) (chkE P)) := by
  have hXG : faxG P = if chkE P = 0 then faiG P else [] := rfl
  have hXL : faxL P = if chkE P = 0 then labL P (faiG P) else [] := rfl
  have hok := @chk_ok P
  have KC := fun W (x : Ext w W) => Check_any a b P W (hT.ext x) hus
  have KF := fun (h : OkP P) W (x : Ext w W) => fairest_any a b P h W (hT.ext x)
  have KL := fun (h : OkP P) v W (x : Ext w W) (hg : IntsAt W v (faiG P)) => labels_any a b v P (faiG P) h (faiG_V h.pv).1 W (hT.ext x) hg
  obtain ⟨XG, hG⟩ : ∃ E, faxG P = E := ⟨_, rfl⟩
  obtain ⟨XL, hL⟩ : ∃ E, faxL P = E := ⟨_, rfl⟩
  obtain ⟨E, hE⟩ : ∃ E, chkE P = E := ⟨_, rfl⟩
  obtain ⟨G, hg⟩ : ∃ E, faiG P = E := ⟨_, rfl⟩
  obtain ⟨L, hl⟩ : ∃ E, labL P G = E := ⟨_, rfl⟩
  rw [hG, hE, hg] at hXG
  rw [hL, hE, hg, hl] at hXL
  simp only [hE] at hok KC
  simp only [hg] at KF
  simp only [hg, hl] at KL
  rw [hG, hL, hE]
  have HG := Lib.hid hXG
  have HL := Lib.hid hXL
  have HKC := Lib.hid KC
  have HKF := Lib.hid KF
  have HKL := Lib.hid KL
  clear hXG hXL hG hL hE hg hl KC KF KL
  go_enter Try.func39, Try.ntmps39
  go_wp2_with fail
  refine (HKC.out _ (by repeat (first | exact Ext.refl _ | assumption | refine Ext.alloc ?_ _ | refine Ext.drew ?_ | refine Ext.drewN _ ?_ | refine Ext.trans ?_ (by assumption)))).mono ?_
  rintro e w1 ⟨rfl, hx1⟩
  obtain ⟨q, qr, hx, hk0⟩ := alloc2 hx1
  have d0 : w1.cell? ⟨w.heap.size, 0, none⟩ = some a := q.cell 0
  have d1 : w1.cell? ⟨w.heap.size, 1, none⟩ = some b := q.cell 1
  have r0 := qr.frozen 0
  have r1 := qr.frozen 1
  have r2 := qr.cell 0
  have r3 := qr.cell 1
  clear hx1 hk0
  by_cases h0 : E = 0
  · have h2 := HG.out
    have h3 := HL.out
    rw [if_pos h0] at h2 h3
    have HG2 := Lib.hid h2
    have HL2 := Lib.hid h3
    have HE0 := Lib.hid h0
    have hb : (E != 0) = false := by simp [h0]
    have hokk := hok.1 h0
    have HKF2 := Lib.hid (HKF.out hokk)
    have HKL2 := Lib.hid (HKL.out hokk)
    clear h2 h3 h0 hok HG HL r0 r1 r2 r3
    go_wp2_with fail
    refine (HKF2.out _ hx).mono ?_
    rintro e w2 ⟨gv, rfl, hgv, hz⟩
    obtain ⟨gA, gc, rfl, _⟩ := hgv.len
    have hx2 := hx.trans hz
    replace d0 := hz.cell d0
    replace d1 := hz.cell d1
    replace qr := qr.ext hz
    clear hz hx q
    go_wp2_with fail
    refine (HKL2.out _ w2 hx2 hgv).mono ?_
    rintro e w3 ⟨lv, rfl, hlv, hz⟩
    replace hlv := hlv.at_
    obtain ⟨lA, lc, rfl, _⟩ := hlv.len
    have hx3 := hx2.trans hz
    replace hgv := hgv.ext hz
    replace qr := qr.ext hz
    have r0 := qr.frozen 0
    have r1 := qr.frozen 1
    have r2 := qr.cell 0
    have r3 := qr.cell 1
    clear hz d0 d1 hx2
    go_wp2_with fail
    have q1 := qr.set 0 (.slice gA G.length gc)
    exact fai_ret rfl rfl (q1.set 1 _) ((hx3.setCell (by simp) _).setCell (by simp) _) HE0.out.symm (by rw [HG2.out]; exact ints_setC (ints_setC hgv qr (by simp) (by simp)) q1 (by simp) (by simp)) (by rw [HL2.out]; exact ints_setC (ints_setC hlv qr (by simp) (by simp)) q1 (by simp) (by simp))
  · have h2 := HG.out
    have h3 := HL.out
    rw [if_neg h0] at h2 h3
    have HG2 := Lib.hid h2
    have HL2 := Lib.hid h3
    have hb : (E != 0) = true := by simp [h0]
    clear h2 h3 h0
    go_wp2_with fail
    exact fai_ret rfl rfl ((qr.set 0 _).set 1 _) ((hx.setCell (by simp) _).setCell (by simp) _) rfl (by rw [HG2.out]; exact intsAt_nil _) (by rw [HL2.out]; exact intsAt_nil _)
end Go.Proofs.Ytiofdfjcaklmcaa
