/- at, between of the laws; a copy of tenants, and one's greatest number set. -/
import Derived.Test.YtiofdfjcaklmcaaFSpP
import Derived.Test.YtiofdfjcaklmcaaFSpd
import Derived.Deep.AppendSrc
namespace Go.Proofs.Ytiofdfjcaklmcaa
open Go.RowKit Go.Shelf

set_option maxRecDepth 100000 in
set_option maxHeartbeats 2000000 in
theorem at_any (a b : Value) (P : Po) (id : Int) (w : World) (hT : PoAt w a b P) (hn : P.ts.length ≤ 100000) :
    Calls Try.prog 45 #[.agg #[a, b], .int .i64 id] w fun e w' => e = .returned (.int .i64 (tnI P id)) ∧ Ext w w' := by
  have hI : tnI P id = ixF (fun x => x.id == id) 0 (P.ts.drop 0) := rfl
  obtain ⟨aa, ca, rfl, hla⟩ := hT.t.len
  obtain ⟨ab, cb, rfl, hlb⟩ := hT.s.len
  obtain ⟨F, hF⟩ : ∃ F, tnI P id = F := ⟨_, rfl⟩
  rw [hF] at hI ⊢
  have HF := Lib.hid hI.symm
  clear hI hF
  go_enter Try.func45, Try.ntmps45
  go_wp2_with fail
  go_loopw [5] (fun i wr => ∃ k : Nat, k ≤ P.ts.length ∧ i = .int .i64 k ∧ Hid (ixF (fun x => x.id == id) k (P.ts.drop k) = F) ∧ Cls w.heap.size 25 #[.slice aa P.ts.length ca, .slice ab P.ss.length cb] wr ∧ Ext w wr) (fun i _ => P.ts.length - (intOf i).toNat)
  case atStart => exact ⟨0, Nat.zero_le _, rfl, HF, Cls.newAt _ _ _ rfl, (by repeat (first | exact Ext.refl _ | assumption | refine Ext.alloc ?_ _ | refine Ext.drew ?_ | refine Ext.drewN _ ?_ | refine Ext.trans ?_ (by assumption)))⟩
  case round =>
    obtain ⟨k, hk, rfl, HK, q, hx⟩ := hrel
    have d0 : wr.cell? ⟨w.heap.size, 0, none⟩ = some (.slice aa P.ts.length ca) := q.cell 0
    have d1 : wr.cell? ⟨w.heap.size, 1, none⟩ = some (.slice ab P.ss.length cb) := q.cell 1
    by_cases hlt : k < P.ts.length
    · obtain ⟨b0, o0, he, c0, c1⟩ := (hT.t.ext hx).get k hlt
      subst he
      have hki : (k : Int) < P.ts.length := by omega
      have hhit := fun h => ixF_hit (p := fun x => x.id == id) hlt h
      have hmiss := fun h => ixF_miss (p := fun x => x.id == id) hlt h
      rw [HK.out] at hhit hmiss
      obtain ⟨x, hxx⟩ : ∃ x, P.ts[k].id = x := ⟨_, rfl⟩
      rw [hxx] at c0 hhit hmiss
      cases hq : (x == id)
      · have H1 := Lib.hid (hmiss hq)
        clear hxx hhit hmiss
        go_wp2_with fail
        go_roundw
        case rel => exact ⟨k + 1, by omega, by go_num, Lib.hid H1.out.symm, q, hx⟩
        case measure => simp [intOf]; omega
      · have H1 := Lib.hid (hhit hq)
        clear hxx hhit hmiss
        go_wp2_with fail
        go_ret
        exact ⟨ret_int H1.out.symm, hx⟩
    · obtain rfl : k = P.ts.length := by omega
      have he := ixF_end (p := fun x : Te => x.id == id) (l := P.ts)
      rw [HK.out] at he
      have HE := Lib.hid he
      clear he
      go_wp2_with fail
      go_ret
      exact ⟨ret_int HE.out.symm, hx⟩
theorem run_append_lit0T (w : World) (ty : TypeId) (base b : Nat) (u : Value) (r : List Te) (hrow : RowT base (.slice (some ⟨b, 0, none⟩) 0 0) [] w) (hu : TesAt w u r) (hb : base ≤ w.heap.size) (hl : r.length ≤ 1000000) :
    ∃ v' w', (Builtin.append_ #[22, 22] ty #[.slice (some ⟨b, 0, none⟩) 0 0, u]).run Try.prog w = .ok v' w' ∧ RowT base v' r w' ∧ Ext w w' := by
  obtain ⟨i0, hi0, hz0, hz1, hz2⟩ := info_parts infoTe
  have hu' := hu
  obtain ⟨ao, c, rfl, hc, _⟩ := hu
  by_cases hm : r.length = 0
  · have hn : r = [] := List.eq_nil_of_length_eq_zero hm
    subst hn
    have hsrc : Go.Src Try.prog i0.size 22 (.slice ao 0 c) 0 [] w := by
      cases ao with
      | none => exact Go.Src.ofNil w undTe c
      | some ad => exact Go.Src.ofSlice w undTe ad 0 c [] (by simp) (by simp) (by simp)
    exact ⟨_, w, run_append_nothing w 22 22 ty 45 i0 undTe hi0 _ 0 0 (Nat.le_refl _) _ hsrc, hrow, Ext.refl _⟩
  · obtain ⟨v', w', h1, h2, h3, h4⟩ := run_append_tes w ty base (.slice none 0 0) _ [] r (RowK.nil _ _ _ _ _) hu' hb (by simpa using by omega)
    obtain ⟨ad, hao, hcc⟩ := SeqK.cells fT_len (by decide) hu' hm
    subst hao
    have hsrc : Go.Src Try.prog i0.size 22 (.slice (some ad) r.length c) r.length (cellsK fT r) w := Go.Src.ofSlice w undTe ad r.length c (cellsK fT r) (by rw [cellsK_len fT_len, hz1]) hcc (cellsK_one fT r)
    have hfit : Builtin.nextslicecap (0 + r.length) 0 * i0.bytes ≤ 281474976710656 := growslice_fits (by omega) (by rw [hz2]; omega)
    have e1 := run_append_grow_src (P := Try.prog) w 22 22 ty 45 i0 _ undTe hi0 hz0 (some ⟨b, 0, none⟩) 0 0 [] (run_firstCells_some w.drew _ 0 ⟨b, 0, none⟩ 0 0 [] (by simp) (by simp)) _ r.length (cellsK fT r) hsrc (by omega) (by omega) hfit
    have e2 := run_append_grow_src (P := Try.prog) w 22 22 ty 45 i0 _ undTe hi0 hz0 none 0 0 [] (run_firstCells_none w.drew _ 0 0 0) _ r.length (cellsK fT r) hsrc (by omega) (by omega) hfit
    rw [List.nil_append] at h2
    rw [e2] at h1
    simp only [Result.ok.injEq] at h1
    refine ⟨v', w', ?_, h2, ext_own (Ext.refl _) (RowK.nil 45 fT 2 w.heap.size w) (Nat.le_refl _) h3⟩
    rw [e1, h1.1, h1.2]
theorem cellsT_set : ∀ (l : List Te) (i : Nat) (h : i < l.length) (m : Int), cellsK fT (l.set i ⟨l[i].id, m⟩) = (cellsK fT l).set (i * 2 + 1) (.int .i64 m)
  | [], i, h, _ => by simp at h
  | p :: l, 0, _, _ => rfl
  | p :: l, i + 1, h, m => by
    have e : cellsK fT (p :: l) = .int .i64 p.id :: .int .i64 p.most :: cellsK fT l := rfl
    have ih := cellsT_set l i (by simpa using h) m
    rw [e, show (i + 1) * 2 + 1 = (i * 2 + 1) + 1 + 1 by omega]
    show _ = Value.int .i64 p.id :: .int .i64 p.most :: (cellsK fT l).set (i * 2 + 1) (.int .i64 m)
    rw [← ih]
    rfl
theorem rowT_set {n₀ g c : Nat} {l : List Te} {W : World} (h : RowT n₀ (.slice (some ⟨g, 0, none⟩) l.length c) l W) {i : Nat} (hi : i < l.length) (m : Int) :
    RowT n₀ (.slice (some ⟨g, 0, none⟩) l.length c) (l.set i ⟨l[i].id, m⟩) (W.setCell ⟨g, i * 2 + 1, none⟩ (.int .i64 m)) := by
  have h1 := (World.ownsRow.stored h (i * 2 + 1) (.int .i64 m)).1
  unfold RowT RowK
  rw [List.length_set, cellsT_set l i hi m]
  exact h1
theorem rowT_cls {n₀ : Nat} {v : Value} {l : List Te} {W : World} (h : RowT n₀ v l W) (h0 : 0 < l.length) : ∃ g c cs, v = .slice (some ⟨g, 0, none⟩) l.length c ∧ Cls g 45 cs W ∧ n₀ ≤ g := by
  rcases h.2 with ⟨rfl, h1⟩ | ⟨g, cap, cur, rfl, h1, h2, _⟩
  · omega
  · exact ⟨g, cap, cur, rfl, h2, h1⟩
theorem setM_is {P : Po} {k : Nat} (hk : k < P.ts.length) (m : Int) : (setM P k m).ts = P.ts.set k ⟨P.ts[k].id, m⟩ := by
  have e : (P.ts.getD k ⟨0, 0⟩).id = P.ts[k].id := by rw [List.getD_eq_getElem?_getD, List.getElem?_eq_getElem hk]; rfl
  unfold setM
  rw [e]
theorem setM_setM {P : Po} {k : Nat} (hk : k < P.ts.length) (m n : Int) : setM (setM P k m) k n = setM P k n := by
  have h1 : k < (setM P k m).ts.length := by rw [setM_len]; exact hk
  have e1 := setM_is h1 n
  have e2 := setM_is hk n
  have e3 : (setM P k m).ts[k].id = P.ts[k].id := by
    have := setM_ts hk hk h1
    rw [if_pos rfl] at this
    rw [this]
  have e4 : (setM (setM P k m) k n).ts = (setM P k n).ts := by
    rw [e1, e2, e3, setM_is hk m, List.set_set]
  have e5 : (setM (setM P k m) k n).ss = (setM P k n).ss := rfl
  cases hA : setM (setM P k m) k n with
  | mk t1 s1 => cases hB : setM P k n with
    | mk t2 s2 =>
      rw [hA, hB] at e4 e5
      simp only at e4 e5
      rw [e4, e5]
set_option maxRecDepth 100000 in
set_option maxHeartbeats 8000000 in
theorem between_any (a b gv lv : Value) (P : Po) (g L : List Int) (k : Nat) (lo hi : Int) (hok : OkP P) (hS : ShrV P g) (hk : k < P.ts.length) (h1 : lo ≤ cntI g P.ts[k].id) (h2 : cntI g P.ts[k].id ≤ hi) (hus : ∀ s ∈ P.ss, s.us.length ≤ 1000000) (w : World) (hT : PoAt w a b P) (hg : IntsAt w gv g) (hL : IntsAt w lv L) :
    Calls Try.prog 46 #[.agg #[a, b], .agg #[gv, lv], .int .i64 k, .agg #[.int .i64 lo, .int .i64 hi]] w fun e w' => e = .returned (.bool true) ∧ Ext w w' := by
  obtain ⟨ga, gc, rfl, hlg⟩ := hg.len
  obtain ⟨la, lc, rfl, hll⟩ := hL.len
  have KN := fun W (x : Ext w W) => Counts_any a b _ P g W (hT.ext x) (hg.ext x) hus
  have hc := cg_V hok hS
  have hx : cntsX P g = cntT P g := by unfold cntsX; rw [if_pos hc]
  have hcl := cntT_len P g
  have hcg := cntT_get P g k (by rw [hcl]; exact hk) hk
  rw [hc, hx] at KN
  obtain ⟨C, hC⟩ : ∃ C, cntT P g = C := ⟨_, rfl⟩
  simp only [hC] at KN hcl hcg
  obtain ⟨n, hn⟩ : ∃ n, cntI g P.ts[k].id = n := ⟨_, rfl⟩
  rw [hn] at hcg h1 h2
  have HKN := Lib.hid KN
  have HCG : Hid (∀ h : k < C.length, C[k] = n) := Lib.hid (fun _ => hcg)
  have HCL := Lib.hid hcl
  clear KN hc hx hcg hC hn hlg hll
  go_enter Try.func46, Try.ntmps46
  go_wp2_with fail
  refine (HKN.out _ (by repeat (first | exact Ext.refl _ | assumption | refine Ext.alloc ?_ _ | refine Ext.drew ?_ | refine Ext.drewN _ ?_ | refine Ext.trans ?_ (by assumption)))).mono ?_
  rintro e w2 ⟨v, rfl, hv, hx1⟩
  obtain ⟨q, qf, qs, hx, hk0⟩ := alloc3 hx1
  have s0 : w2.cell? ⟨w.heap.size + 2, 0, none⟩ = some (.int .i64 lo) := qs.cell 0
  have s1 : w2.cell? ⟨w.heap.size + 2, 1, none⟩ = some (.int .i64 hi) := qs.cell 1
  obtain ⟨vA, vc, rfl, _⟩ := hv.len
  have hkc : k < C.length := by rw [HCL.out]; exact hk
  obtain ⟨nb, no, rfl, cn⟩ := hv.get k hkc
  rw [HCG.out hkc] at cn
  obtain ⟨nl, hnl⟩ : ∃ n, C.length = n := ⟨_, rfl⟩
  rw [hnl]
  have hkn : k < nl := by omega
  have hki : (k : Int) < nl := by omega
  have hkb : decide ((k : Int) < nl) = true := decide_eq_true hki
  have hkb2 : decide (k < nl) = true := decide_eq_true hkn
  have hg1 : decide (n ≥ lo) = true := decide_eq_true h1
  have hg2 : decide (lo ≤ n) = true := decide_eq_true h1
  have hg3 : decide (n ≤ hi) = true := decide_eq_true h2
  clear hx1 hk0 q qf qs hv hnl hkc
  go_upto_region 2 with fail
  refine wp_region_held_drew (S := fun W' => W'.cell? ⟨w.heap.size + 2, 0, none⟩ = some (.int .i64 lo) ∧ W'.cell? ⟨w.heap.size + 2, 1, none⟩ = some (.int .i64 hi) ∧ W'.cell? ⟨nb, no + k, none⟩ = some (.int .i64 n) ∧ Ext w2 W') (by kernel_rfl) ?_ (fun hHeld => ?_)
  · exact ⟨s0, s1, cn, Ext.drew (Ext.refl _)⟩
  obtain ⟨V0, hV0⟩ : ∃ V, World.drew w2 = V := ⟨_, rfl⟩
  rw [hV0] at hHeld ⊢
  clear hV0
  (refine tkH (i := 0) (v := ?_) rfl ?_ ?_; rotate_left 1; (focus (intro w hSw; (try dsimp only at hSw); go_simp; try (with_reducible rfl))))
  try simp only [Act.put, xA1, xA2, xA4, xA5, xA6]
  (refine tkH (i := 1) (v := ?_) rfl ?_ ?_; rotate_left 1; (focus (intro w hSw; (try dsimp only at hSw); go_simp; try (with_reducible rfl))))
  try simp only [Act.put, xA1, xA2, xA3, xA4, xA5, xA6]
  (refine tkH (i := 2) (v := ?_) rfl ?_ ?_; rotate_left 1; (focus (intro w hSw; (try dsimp only at hSw); go_simp; try (with_reducible rfl))))
  try simp only [Act.put, xA1, xA2, xA3, xA4, xA5, xA6]
  (refine tkH (i := 3) (v := ?_) rfl ?_ ?_; rotate_left 1; (focus (intro w hSw; (try dsimp only at hSw); go_simp; try (with_reducible rfl))))
  try simp only [Act.put, xA1, xA2, xA3, xA4, xA5, xA6]
  (refine tkH (i := 4) (v := ?_) rfl ?_ ?_; rotate_left 1; (focus (intro w hSw; (try dsimp only at hSw); go_simp; try (with_reducible rfl))))
  try simp only [Act.put, xA1, xA2, xA3, xA4, xA5, xA6]
  (refine tkH (i := 5) (v := ?_) rfl ?_ ?_; rotate_left 1; (focus (intro w hSw; (try dsimp only at hSw); go_simp; try (with_reducible rfl))))
  try simp only [Act.put, xA1, xA2, xA3, xA4, xA5, xA6]
  (refine tkH (i := 6) (v := ?_) rfl ?_ ?_; rotate_left 1; (focus (intro w hSw; (try dsimp only at hSw); go_simp; try (with_reducible rfl))))
  try simp only [Act.put, xA1, xA2, xA3, xA4, xA5, xA6]
  (refine tkH (i := 7) (v := ?_) rfl ?_ ?_; rotate_left 1; (focus (intro w hSw; (try dsimp only at hSw); go_simp; try (with_reducible rfl))))
  try simp only [Act.put, xA1, xA2, xA3, xA4, xA5, xA6]
  (refine tkH (i := 8) (v := ?_) rfl ?_ ?_; rotate_left 1; (focus (intro w hSw; (try dsimp only at hSw); go_simp; try (with_reducible rfl))))
  try simp only [Act.put, xA1, xA2, xA3, xA4, xA5, xA6]
  (refine tkH (i := 9) (v := ?_) rfl ?_ ?_; rotate_left 1; (focus (intro w hSw; (try dsimp only at hSw); go_simp; try (with_reducible rfl))))
  try simp only [Act.put, xA1, xA2, xA3, xA4, xA5, xA6]
  (refine tkH (i := 10) (v := ?_) rfl ?_ ?_; rotate_left 1; (focus (intro w hSw; (try dsimp only at hSw); go_simp; try (with_reducible rfl))))
  try simp only [Act.put, xA1, xA2, xA3, xA4, xA5, xA6]
  (refine tkH (i := 11) (v := ?_) rfl ?_ ?_; rotate_left 1; (focus (intro w hSw; (try dsimp only at hSw); go_simp; try (with_reducible rfl))))
  try simp only [Act.put, xA1, xA2, xA3, xA4, xA5, xA6]
  (refine tkH (i := 12) (v := ?_) rfl ?_ ?_; rotate_left 1; (focus (intro w hSw; (try dsimp only at hSw); go_simp; try (with_reducible rfl))))
  try simp only [Act.put, xA1, xA2, xA3, xA4, xA5, xA6]
  (refine tkH (i := 13) (v := ?_) rfl ?_ ?_; rotate_left 1; (focus (intro w hSw; (try dsimp only at hSw); go_simp; try (with_reducible rfl))))
  try simp only [Act.put, xA1, xA2, xA3, xA4, xA5, xA6]
  (refine tkH (i := 14) (v := ?_) rfl ?_ ?_; rotate_left 1; (focus (intro w hSw; (try dsimp only at hSw); go_simp; try (with_reducible rfl))))
  try simp only [Act.put, xA1, xA2, xA3, xA4, xA5, xA6]
  (refine tkH (i := 15) (v := ?_) rfl ?_ ?_; rotate_left 1; (focus (intro w hSw; (try dsimp only at hSw); go_simp; try (with_reducible rfl))))
  try simp only [Act.put, xA1, xA2, xA3, xA4, xA5, xA6]
  (refine tkH (i := 16) (v := ?_) rfl ?_ ?_; rotate_left 1; (focus (intro w hSw; (try dsimp only at hSw); go_simp; try (with_reducible rfl))))
  try simp only [Act.put, xA1, xA2, xA3, xA4, xA5, xA6]
  (refine tkH (i := 17) (v := ?_) rfl ?_ ?_; rotate_left 1; (focus (intro w hSw; (try dsimp only at hSw); go_simp; try (with_reducible rfl))))
  try simp only [Act.put, xA1, xA2, xA3, xA4, xA5, xA6]
  (refine tkH (i := 18) (v := ?_) rfl ?_ ?_; rotate_left 1; (focus (intro w hSw; (try dsimp only at hSw); go_simp; try (with_reducible rfl))))
  try simp only [Act.put, xA1, xA2, xA3, xA4, xA5, xA6]
  (refine tkH (i := 19) (v := ?_) rfl ?_ ?_; rotate_left 1; (focus (intro w hSw; (try dsimp only at hSw); go_simp; try (with_reducible rfl))))
  try simp only [Act.put, xA1, xA2, xA3, xA4, xA5, xA6]
  (refine tkH (i := 20) (v := ?_) rfl ?_ ?_; rotate_left 1; (focus (intro w hSw; (try dsimp only at hSw); go_simp; try (with_reducible rfl))))
  try simp only [Act.put, xA1, xA2, xA3, xA4, xA5, xA6]
  (refine tkH (i := 21) (v := ?_) rfl ?_ ?_; rotate_left 1; (focus (intro w hSw; (try dsimp only at hSw); go_simp; try (with_reducible rfl))))
  try simp only [Act.put, xA1, xA2, xA3, xA4, xA5, xA6]
  (refine tkH (i := 22) (v := ?_) rfl ?_ ?_; rotate_left 1; (focus (intro w hSw; (try dsimp only at hSw); go_simp; try (with_reducible rfl))))
  try simp only [Act.put, xA1, xA2, xA3, xA4, xA5, xA6]
  (refine tkH (i := 23) (v := ?_) rfl ?_ ?_; rotate_left 1; (focus (intro w hSw; (try dsimp only at hSw); go_simp; try (with_reducible rfl))))
  try simp only [Act.put, xA1, xA2, xA3, xA4, xA5, xA6]
  (refine tkH (i := 24) (v := ?_) rfl ?_ ?_; rotate_left 1; (focus (intro w hSw; (try dsimp only at hSw); go_simp; try (with_reducible rfl))))
  try simp only [Act.put, xA1, xA2, xA3, xA4, xA5, xA6]
  (refine tkH (i := 25) (v := ?_) rfl ?_ ?_; rotate_left 1; (focus (intro w hSw; (try dsimp only at hSw); go_simp; try (with_reducible rfl))))
  try simp only [Act.put, xA1, xA2, xA3, xA4, xA5, xA6]
  (refine tkH (i := 26) (v := ?_) rfl ?_ ?_; rotate_left 1; (focus (intro w hSw; (try dsimp only at hSw); go_simp; try (with_reducible rfl))))
  try simp only [Act.put, xA1, xA2, xA3, xA4, xA5, xA6]
  refine wpAnyH_done (by kernel_rfl) ?_ _
  have hzz := hHeld.2.2.2
  go_wp2_with fail
  go_ret
  exact ⟨rfl, hx.trans hzz⟩
end Go.Proofs.Ytiofdfjcaklmcaa
