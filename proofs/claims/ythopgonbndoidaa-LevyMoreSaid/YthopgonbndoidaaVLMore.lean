/- LevyMore: true whatever the tree, the reach, the cost and the payer. -/
import Derived.Test.YthopgonbndoidaaVHas
import Derived.Test.YthopgonbndoidaaVMoP
namespace Go.Proofs.Ythopgonbndoidaa
open Go.RowKit Go.Shelf

set_option maxRecDepth 100000 in
set_option maxHeartbeats 16000000 in
theorem LevyMore_any (a b : Value) (T : Tr) (z m : Int) (p : Py) (w : World) (hT : TrAt w a b T) (hz0 : 0 ≤ z ∧ z ≤ 255) (hm0 : 0 ≤ m ∧ m ≤ 65535) :
    Calls Try.prog 9 #[.agg #[a, b], .int .u8 z, .int .u16 m, .agg #[.int .i64 p.id, .int .i64 p.reach, .int .i64 p.w]] w fun e w' => e = .returned (.bool true) ∧ Ext w w' := by
  obtain ⟨aa, ca, rfl, hla⟩ := hT.r.len
  obtain ⟨ab, cb, rfl, hlb⟩ := hT.p.len
  have K1 := fun W (h : Ext w W) => few_any _ _ T W (hT.ext h)
  have san : ∀ W1 : World, Ext w W1 → Calls Try.prog 14 #[] W1 fun e w' => e = .returned (.bool true) ∧ Ext w w' := fun W1 h => (sanity_any W1).mono fun e W' ⟨he, hz⟩ => ⟨he, h.trans hz⟩
  have KC := fun W (h : Ext w W) => Check_any _ _ T W (hT.ext h)
  have K2 := fun W (h : Ext w W) (hn : T.rs.length ≤ 1000 ∧ T.ps.length ≤ 1000) => Shares_any _ _ T W (hT.ext h) hn
  have KU : chkE T = 0 → ∀ i, i < T.rs.length → ∀ W, Ext w W → Calls Try.prog 39 #[.agg #[.slice aa T.rs.length ca, .slice ab T.ps.length cb], .int .i64 (i : Int)] W (InsPost W (srtI (usnL T.rs (i : Int) T.ps)) 0) := fun h0 i hi W h => by
    have hr : reaE T (i : Int) = 0 := by
      unfold reaE
      rw [if_pos h0, if_pos]
      unfold inB
      rw [decide_eq_true (by omega), decide_eq_true (by omega)]
      rfl
    have := Users_any _ _ T (i : Int) W (hT.ext h) (by have := (Ok.of h0).lr; omega)
    unfold usnX at this
    rw [hr, if_pos rfl] at this
    exact this
  have KG : chkE T = 0 → ∀ i, i < T.rs.length → ∀ c, 0 ≤ c ∧ c ≤ 65536 → ∀ W, Ext w W → Calls Try.prog 29 #[.agg #[.slice aa T.rs.length ca, .slice ab T.ps.length cb], .int .i64 (i : Int), .int .i64 c] W (RasPost W (chgL T (i : Int) c T.ps) 0) := fun h0 i hi c hc W h => by
    have hr : reaE T (i : Int) = 0 := by
      unfold reaE
      rw [if_pos h0, if_pos]
      unfold inB
      rw [decide_eq_true (by omega), decide_eq_true (by omega)]
      rfl
    have hg : chgE T (i : Int) c = 0 := by
      unfold chgE
      rw [if_pos hr, if_pos]
      unfold inB
      rw [decide_eq_true hc.1, decide_eq_true hc.2]
      rfl
    have := Changed_any _ _ T (i : Int) c W (hT.ext h) (by have := (Ok.of h0).lr; omega) (by omega)
    unfold chgX at this
    rw [hg, if_pos rfl] at this
    exact this
  have KJ := fun W (h : Ext w W) (hn : T.rs.length ≤ 1000 ∧ T.ps.length ≤ 1000) => Joined_any _ _ T p W (hT.ext h) hn
  have KX : jnE T p = 0 → ∀ W a' b', TrAt W a' b' (jnX T p) → Calls Try.prog 15 #[.agg #[a', b']] W (RasPost W ((shN (jnT T p)).map ratM) 0) := fun h0 W a' b' hT' => by
    have hc : chkE T = 0 ∧ chkE (jnT T p) = 0 := by
      unfold jnE at h0
      split at h0
      · exact ⟨by assumption, h0⟩
      · exact absurd h0 (by assumption)
    have e : jnX T p = jnT T p := by unfold jnX; rw [if_pos h0]
    rw [e] at hT'
    have hok := Ok.of hc.2
    have := Shares_any _ _ (jnT T p) W hT' ⟨by have := hok.lr; omega, by have := hok.lp; omega⟩
    unfold shaX at this
    rw [if_pos hc.2, hc.2, shL_map] at this
    exact this
  have hjf : jnE T p = 0 → (shN (jnT T p)).length = T.ps.length + 1 ∧ (∀ x ∈ shN (jnT T p), 0 ≤ x ∧ x ≤ 8421473853112320) ∧ ∀ i, i < T.ps.length → (shN (jnT T p)).getD i 0 ≤ (shN T).getD i 0 := fun h0 => by
    have hc : chkE T = 0 ∧ chkE (jnT T p) = 0 := by
      unfold jnE at h0
      split at h0
      · exact ⟨by assumption, h0⟩
      · exact absurd h0 (by assumption)
    have hl : (jnT T p).ps.length = T.ps.length + 1 := by simp [jnT]
    refine ⟨by rw [shN_len, hl], shN_bd (Ok.of hc.2), fun i hi => ?_⟩
    rw [shN_at hi, shN_at (by omega)]
    exact jn_less (Ok.of hc.1) (Ok.of hc.2) hi
  have hX : chkE T = 0 → shaX T = (shN T).map ratM := fun h0 => by unfold shaX; rw [if_pos h0, shL_map]
  have hfc : chkE T = 0 → (T.rs.length ≤ 24 ∧ T.ps.length ≤ 24) ∧ (shN T).length = T.ps.length ∧ (∀ x ∈ shN T, 0 ≤ x ∧ x ≤ 8421473853112320) ∧ (∀ i (hi : i < T.rs.length), 0 ≤ T.rs[i].cost ∧ T.rs[i].cost ≤ 65536) ∧
      (∀ n (hn : n < T.rs.length) c, T.rs[n].cost ≤ c → ∀ i (hi : i < T.ps.length), 0 ≤ (chgR T n c T.ps[i]).n ∧ (0 < (chgR T n c T.ps[i]).n → T.ps[i].id ∈ srtI (usnL T.rs n T.ps))) ∧ (∀ n : Nat, (srtI (usnL T.rs n T.ps)).length ≤ 24) := fun h0 => by
    have hok := Ok.of h0
    refine ⟨⟨hok.lr, hok.lp⟩, shN_len T, shN_bd hok, fun i hi => (hok.rv.v i hi).2, fun n hn c hc i hi => chg_more hok hn hc hi, fun n => ?_⟩
    rw [show (srtI (usnL T.rs n T.ps)).length = (usnL T.rs n T.ps).length from (List.mergeSort_perm _ _).length_eq]
    exact Nat.le_trans (usnL_len _ _ _) hok.lp
  obtain ⟨C, hC⟩ : ∃ C, chkE T = C := ⟨_, rfl⟩
  obtain ⟨X, hXX⟩ : ∃ C, shaX T = C := ⟨_, rfl⟩
  obtain ⟨S, hS⟩ : ∃ C, shN T = C := ⟨_, rfl⟩
  obtain ⟨JE, hJE⟩ : ∃ C, jnE T p = C := ⟨_, rfl⟩
  obtain ⟨JX, hJX⟩ : ∃ C, jnX T p = C := ⟨_, rfl⟩
  obtain ⟨S2, hS2⟩ : ∃ C, shN (jnT T p) = C := ⟨_, rfl⟩
  rw [hC] at KC
  rw [hC, hXX] at K2
  rw [hC] at KU KG
  rw [hJE, hJX] at KJ
  rw [hJE, hJX, hS2] at KX
  rw [hJE, hS2, hS] at hjf
  rw [hC, hXX, hS] at hX
  rw [hC, hS] at hfc
  have HC := Lib.hid KC
  have H2 := Lib.hid K2
  have HU := Lib.hid KU
  have HG := Lib.hid KG
  have HJ := Lib.hid KJ
  have HXS := Lib.hid KX
  have HJF := Lib.hid hjf
  have HX := Lib.hid hX
  have HFC := Lib.hid hfc
  clear KC K2 KU KG KJ KX hjf hX hfc hC hXX hS hJE hJX hS2
  go_enter Try.func9, Try.ntmps9
  go_wp2_with fail
  refine (K1 _ (by repeat (first | exact Ext.refl _ | assumption | refine Ext.alloc ?_ _ | refine Ext.drew ?_ | refine Ext.drewN _ ?_ | refine Ext.trans ?_ (by assumption)))).mono ?_
  rintro e w1 ⟨F, rfl, hF, hx1⟩
  obtain ⟨q0, q1, hx, hk0⟩ := alloc2 hx1
  have d0 : w1.cell? ⟨w.heap.size, 0, none⟩ = some (.slice aa T.rs.length ca) := q0.cell 0
  have d1 : w1.cell? ⟨w.heap.size, 1, none⟩ = some (.slice ab T.ps.length cb) := q0.cell 1
  have g0 := q1.cell 0
  have g1 := q1.cell 1
  have g2 := q1.cell 2
  have HF := Lib.hid hF
  clear hx1 K1 hF q0 q1
  cases F with
  | false =>
    go_wp2_with fail
    refine (san _ hx).mono ?_
    rintro e w99 ⟨rfl, hz⟩
    go_wp2_with fail
    go_ret
    exact ⟨rfl, hz⟩
  | true =>
    have hmk := HF.out rfl
    have HM := Lib.hid hmk
    clear hmk
    by_cases hr0 : T.rs.length = 0
    · have hb : ((T.rs.length : Int) == 0) = true := by rw [hr0]; rfl
      clear hr0
      go_wp2_with fail
      refine (san _ hx).mono ?_
      rintro e w99 ⟨rfl, hz⟩
      go_wp2_with fail
      go_ret
      exact ⟨rfl, hz⟩
    have hb : ((T.rs.length : Int) == 0) = false := by rw [beq_eq_false_iff_ne]; omega
    have hb2 : ¬ ((T.rs.length : Int) = 0) := by omega
    go_wp2_with fail
    refine (HC.out _ hx).mono ?_
    rintro e w2 ⟨rfl, hz⟩
    have hx2 := hx.trans hz
    replace d0 := hz.cell d0
    replace d1 := hz.cell d1
    replace g0 := hz.cell g0
    replace g1 := hz.cell g1
    replace g2 := hz.cell g2
    clear hz hx
    by_cases h0 : C = 0
    rotate_left 1
    · have hc : (C != 0) = true := by simpa using h0
      clear h0
      go_wp2_with fail
      refine (san _ hx2).mono ?_
      rintro e w99 ⟨rfl, hz⟩
      go_wp2_with fail
      go_ret
      exact ⟨rfl, hz⟩
    subst h0
    have hxs := HX.out rfl
    subst hxs
    have hfc := HFC.out rfl
    obtain ⟨⟨hrl, hpl⟩, hSl, hSb, hcs, hmo, hul⟩ := hfc
    obtain ⟨r, hr, hrm⟩ : ∃ i : Nat, i < T.rs.length ∧ z.tmod (T.rs.length : Int) = i := by
      have h1 := Int.emod_nonneg z hb2
      have h2 := Int.emod_lt_of_pos z (show (0 : Int) < (T.rs.length : Int) by omega)
      exact ⟨(z % (T.rs.length : Int)).toNat, by omega, by rw [Int.tmod_eq_emod_of_nonneg hz0.1]; omega⟩
    have hzw : IntKind.i64.wrap z = z := IntWalk.i64_in _ (by omega)
    have hrw : IntKind.i64.wrap (r : Int) = r := IntWalk.i64_in _ (by omega)
    have hri : (r : Int) < (T.rs.length : Int) := by omega
    have hc0 := hcs r hr
    obtain ⟨cc, hcc⟩ : ∃ x, T.rs[r].cost = x := ⟨_, rfl⟩
    have hmor := hmo r hr (min 65536 (cc + m)) (by rw [hcc]; rw [hcc] at hc0; omega)
    rw [hcc] at hc0
    obtain ⟨nc, hnc⟩ : ∃ x, min 65536 (cc + m) = x := ⟨_, rfl⟩
    have hncb : 0 ≤ nc ∧ nc ≤ 65536 := by omega
    have hmw : IntKind.i64.wrap m = m := IntWalk.i64_in _ (by omega)
    have hcw : IntKind.i64.wrap (cc + m) = cc + m := IntWalk.i64_in _ (by omega)
    rw [hnc] at hmor
    have HNC := Lib.hid hnc
    have HU1 := Lib.hid (HU.out rfl r hr)
    have HG1 := Lib.hid (HG.out rfl r hr nc hncb)
    have hgl : (chgL T (r : Int) nc T.ps).length = T.ps.length := by unfold chgL; rw [List.length_map]
    have hgi : ∀ i (h : i < T.ps.length) (h' : i < (chgL T (r : Int) nc T.ps).length), (chgL T (r : Int) nc T.ps)[i] = chgR T (r : Int) nc T.ps[i] := fun i h h' => by simp only [chgL, List.getElem_map]
    obtain ⟨U, hU⟩ : ∃ x, srtI (usnL T.rs (r : Int) T.ps) = x := ⟨_, rfl⟩
    have hul2 := hul r
    rw [hU] at hul2 hmor
    have HU2 : Hid (∀ W, Ext w W → Calls Try.prog 39 #[.agg #[.slice aa T.rs.length ca, .slice ab T.ps.length cb], .int .i64 (r : Int)] W (InsPost W U 0)) := Lib.hid (by rw [← hU]; exact HU1.out)
    have HGL := Lib.hid hgl
    have HGI := Lib.hid hgi
    have HMO := Lib.hid hmor
    have HSl := Lib.hid hSl
    have HSb := Lib.hid hSb
    clear hgl hgi hmor hSl hSb hcs hmo hul hnc hU HU1 HU HG HX HFC HC
    go_wp2_with fail
    refine (HU2.out _ hx2).mono ?_
    rintro e w3 ⟨u3, rfl, hu3, hz⟩
    have hx3 := hx2.trans hz
    replace d0 := hz.cell d0
    replace d1 := hz.cell d1
    replace g0 := hz.cell g0
    replace g1 := hz.cell g1
    replace g2 := hz.cell g2
    clear hz hx2
    obtain ⟨A3, c3, rfl, _⟩ := hu3.len
    obtain ⟨br, orr, rfl, _, rc⟩ := (hT.r.ext hx3).get r hr
    rw [hcc] at rc
    go_upto_region 5 with fail
    have hnc := HNC.out
    refine wp_region_held_drew (S := fun W' => W'.cell? ⟨w.heap.size, 0, none⟩ = some (.slice (some ⟨br, orr, none⟩) T.rs.length ca) ∧ W'.cell? ⟨w.heap.size, 1, none⟩ = some (.slice ab T.ps.length cb) ∧ W'.cell? ⟨br, orr + r * 2 + 1, none⟩ = some (.int .i64 cc) ∧ Ext w3 W') (by kernel_rfl) ?_ (fun hHeld => ?_)
    · exact ⟨d0, d1, rc, Ext.drew (Ext.refl _)⟩
    (refine wpAnyH_take (i := 0) (v := ?_) rfl (by kernel_rfl) (by kernel_rfl) (by kernel_rfl) (fun _ _ _ h => h) (Or.inl ⟨by rfl, ?_⟩) (by assumption) ?_; rotate_left 1; (focus (intro w hSw; (try dsimp only at hSw); go_simp; try (with_reducible rfl))))
    try simp only [Act.put, List.getElem_toArray, List.getElem_cons_zero, List.setIfInBounds_toArray, List.set_cons_zero, List.set_cons_succ]
    (refine wpAnyH_take (i := 1) (v := ?_) rfl (by kernel_rfl) (by kernel_rfl) (by kernel_rfl) (fun _ _ _ h => h) (Or.inl ⟨by rfl, ?_⟩) (by assumption) ?_; rotate_left 1; (focus (intro w hSw; (try dsimp only at hSw); go_simp; try (with_reducible rfl))))
    try simp only [Act.put, List.getElem_toArray, List.getElem_cons_zero, List.getElem_cons_succ, List.setIfInBounds_toArray, List.set_cons_zero, List.set_cons_succ]
    (refine wpAnyH_take (i := 2) (v := ?_) rfl (by kernel_rfl) (by kernel_rfl) (by kernel_rfl) (fun _ _ _ h => h) (Or.inl ⟨by rfl, ?_⟩) (by assumption) ?_; rotate_left 1; (focus (intro w hSw; (try dsimp only at hSw); go_simp; try (with_reducible rfl))))
    try simp only [Act.put, List.getElem_toArray, List.getElem_cons_zero, List.getElem_cons_succ, List.setIfInBounds_toArray, List.set_cons_zero, List.set_cons_succ]
    (refine wpAnyH_take (i := 3) (v := ?_) rfl (by kernel_rfl) (by kernel_rfl) (by kernel_rfl) (fun _ _ _ h => h) (Or.inl ⟨by rfl, ?_⟩) (by assumption) ?_; rotate_left 1; (focus (intro w hSw; (try dsimp only at hSw); go_simp; try (with_reducible rfl))))
    try simp only [Act.put, List.getElem_toArray, List.getElem_cons_zero, List.getElem_cons_succ, List.setIfInBounds_toArray, List.set_cons_zero, List.set_cons_succ]
    (refine wpAnyH_take (i := 4) (v := ?_) rfl (by kernel_rfl) (by kernel_rfl) (by kernel_rfl) (fun _ _ _ h => h) (Or.inl ⟨by rfl, ?_⟩) (by assumption) ?_; rotate_left 1; (focus (intro w hSw; (try dsimp only at hSw); go_simp; try (with_reducible rfl))))
    try simp only [Act.put, List.getElem_toArray, List.getElem_cons_zero, List.getElem_cons_succ, List.setIfInBounds_toArray, List.set_cons_zero, List.set_cons_succ]
    (refine wpAnyH_take (i := 5) (v := ?_) rfl (by kernel_rfl) (by kernel_rfl) (by kernel_rfl) (fun _ _ _ h => h) (Or.inl ⟨by rfl, ?_⟩) (by assumption) ?_; rotate_left 1; (focus (intro w hSw; (try dsimp only at hSw); go_simp; try (with_reducible rfl))))
    try simp only [Act.put, List.getElem_toArray, List.getElem_cons_zero, List.getElem_cons_succ, List.setIfInBounds_toArray, List.set_cons_zero, List.set_cons_succ]
    (refine wpAnyH_take (i := 6) (v := ?_) rfl (by kernel_rfl) (by kernel_rfl) (by kernel_rfl) (fun _ _ _ h => h) (Or.inl ⟨by rfl, ?_⟩) (by assumption) ?_; rotate_left 1; (focus (intro w hSw; (try dsimp only at hSw); go_simp; try (with_reducible rfl))))
    try simp only [Act.put, List.getElem_toArray, List.getElem_cons_zero, List.getElem_cons_succ, List.setIfInBounds_toArray, List.set_cons_zero, List.set_cons_succ]
    (refine wpAnyH_take (i := 7) (v := ?_) rfl (by kernel_rfl) (by kernel_rfl) (by kernel_rfl) (fun _ _ _ h => h) (Or.inl ⟨by rfl, ?_⟩) (by assumption) ?_; rotate_left 1; (focus (intro w hSw; (try dsimp only at hSw); go_simp; try (with_reducible rfl))))
    try simp only [Act.put, List.getElem_toArray, List.getElem_cons_zero, List.getElem_cons_succ, List.setIfInBounds_toArray, List.set_cons_zero, List.set_cons_succ]
    (refine wpAnyH_take (i := 8) (v := ?_) rfl (by kernel_rfl) (by kernel_rfl) (by kernel_rfl) (fun _ _ _ h => h) (Or.inl ⟨by rfl, ?_⟩) (by assumption) ?_; rotate_left 1; (focus (intro w hSw; (try dsimp only at hSw); go_simp; try (with_reducible rfl))))
    try simp only [Act.put, List.getElem_toArray, List.getElem_cons_zero, List.getElem_cons_succ, List.setIfInBounds_toArray, List.set_cons_zero, List.set_cons_succ]
    (refine wpAnyH_take (i := 9) (v := ?_) rfl (by kernel_rfl) (by kernel_rfl) (by kernel_rfl) (fun _ _ _ h => h) (Or.inl ⟨by rfl, ?_⟩) (by assumption) ?_; rotate_left 1; (focus (intro w hSw; (try dsimp only at hSw); go_simp; try (with_reducible rfl))))
    try simp only [Act.put, List.getElem_toArray, List.getElem_cons_zero, List.getElem_cons_succ, List.setIfInBounds_toArray, List.set_cons_zero, List.set_cons_succ]
    (refine wpAnyH_take (i := 10) (v := ?_) rfl (by kernel_rfl) (by kernel_rfl) (by kernel_rfl) (fun _ _ _ h => h) (Or.inl ⟨by rfl, ?_⟩) (by assumption) ?_; rotate_left 1; (focus (intro w hSw; (try dsimp only at hSw); go_simp; try (with_reducible rfl))))
    try simp only [Act.put, List.getElem_toArray, List.getElem_cons_zero, List.getElem_cons_succ, List.setIfInBounds_toArray, List.set_cons_zero, List.set_cons_succ]
    (refine wpAnyH_take (i := 11) (v := ?_) rfl (by kernel_rfl) (by kernel_rfl) (by kernel_rfl) (fun _ _ _ h => h) (Or.inl ⟨by rfl, ?_⟩) (by assumption) ?_; rotate_left 1; (focus (intro w hSw; (try dsimp only at hSw); go_simp; try (with_reducible rfl))))
    try simp only [Act.put, List.getElem_toArray, List.getElem_cons_zero, List.getElem_cons_succ, List.setIfInBounds_toArray, List.set_cons_zero, List.set_cons_succ]
    refine wpAnyH_ready (rs := [12]) (by kernel_rfl) (by simp) ?_
    refine AllReadyH.cons rfl (fun K hK => ?_) AllReadyH.nil
    obtain ⟨V0, hV0⟩ : ∃ V, w3.drew = V := ⟨_, rfl⟩
    rw [hV0] at hHeld ⊢
    clear hV0
    go_simp
    try rw [hnc]
    go_at_call 29; refine (HG1.out _ (hx3.trans hHeld.2.2.2)).mono ?_; rintro e V1 ⟨ug, rfl, hug, hz⟩
    obtain ⟨gA, gc, rfl, _⟩ := hug.len
    refine hK.out _ _ ?_ (fun hHeld => ?_)
    · exact ⟨Ext.cell hz hHeld.1, Ext.cell hz hHeld.2.1, Ext.cell hz hHeld.2.2.1, hHeld.2.2.2.trans hz⟩
    clear hK K
    clear hz
    try simp only [Act.put, List.getElem_toArray, List.getElem_cons_zero, List.getElem_cons_succ, List.setIfInBounds_toArray, List.set_cons_zero, List.set_cons_succ]
    (refine wpAnyH_take (i := 13) (v := ?_) rfl (by kernel_rfl) (by kernel_rfl) (by kernel_rfl) (fun _ _ _ h => h) (Or.inl ⟨by rfl, ?_⟩) (by assumption) ?_; rotate_left 1; (focus (intro w hSw; (try dsimp only at hSw); go_simp; try (with_reducible rfl))))
    try simp only [Act.put, List.getElem_toArray, List.getElem_cons_zero, List.getElem_cons_succ, List.setIfInBounds_toArray, List.set_cons_zero, List.set_cons_succ]
    (refine wpAnyH_take (i := 14) (v := ?_) rfl (by kernel_rfl) (by kernel_rfl) (by kernel_rfl) (fun _ _ _ h => h) (Or.inl ⟨by rfl, ?_⟩) (by assumption) ?_; rotate_left 1; (focus (intro w hSw; (try dsimp only at hSw); go_simp; try (with_reducible rfl))))
    try simp only [Act.put, List.getElem_toArray, List.getElem_cons_zero, List.getElem_cons_succ, List.setIfInBounds_toArray, List.set_cons_zero, List.set_cons_succ]
    (refine wpAnyH_take (i := 15) (v := ?_) rfl (by kernel_rfl) (by kernel_rfl) (by kernel_rfl) (fun _ _ _ h => h) (Or.inl ⟨by rfl, ?_⟩) (by assumption) ?_; rotate_left 1; (focus (intro w hSw; (try dsimp only at hSw); go_simp; try (with_reducible rfl))))
    try simp only [Act.put, List.getElem_toArray, List.getElem_cons_zero, List.getElem_cons_succ, List.setIfInBounds_toArray, List.set_cons_zero, List.set_cons_succ]
    (refine wpAnyH_take (i := 16) (v := ?_) rfl (by kernel_rfl) (by kernel_rfl) (by kernel_rfl) (fun _ _ _ h => h) (Or.inl ⟨by rfl, ?_⟩) (by assumption) ?_; rotate_left 1; (focus (intro w hSw; (try dsimp only at hSw); go_simp; try (with_reducible rfl))))
    try simp only [Act.put, List.getElem_toArray, List.getElem_cons_zero, List.getElem_cons_succ, List.setIfInBounds_toArray, List.set_cons_zero, List.set_cons_succ]
    (refine wpAnyH_take (i := 17) (v := ?_) rfl (by kernel_rfl) (by kernel_rfl) (by kernel_rfl) (fun _ _ _ h => h) (Or.inl ⟨by rfl, ?_⟩) (by assumption) ?_; rotate_left 1; (focus (intro w hSw; (try dsimp only at hSw); go_simp; try (with_reducible rfl))))
    try simp only [Act.put, List.getElem_toArray, List.getElem_cons_zero, List.getElem_cons_succ, List.setIfInBounds_toArray, List.set_cons_zero, List.set_cons_succ]
    refine wpAnyH_done (by kernel_rfl) ?_ _
    rw [HGL.out] at hug ⊢
    obtain ⟨w4, hw4⟩ : ∃ V, V1 = V := ⟨_, rfl⟩
    rw [hw4] at hHeld hug ⊢
    have hzz := hHeld.2.2.2
    replace d0 := hHeld.1
    replace d1 := hHeld.2.1
    replace g0 := hzz.cell g0
    replace g1 := hzz.cell g1
    replace g2 := hzz.cell g2
    replace hu3 := hu3.ext hzz
    have hx4 := hx3.trans hzz
    clear hw4 hx3 hHeld hzz rc hnc HNC HG1 HU2 hc0 hcw hmw hcc
    go_wp2_with fail
    refine (H2.out _ hx4 (by have := HM.out; omega)).mono ?_
    rintro e w5 ⟨u5, rfl, hu5, hz⟩
    have hx5 := hx4.trans hz
    replace d0 := hz.cell d0
    replace d1 := hz.cell d1
    replace g0 := hz.cell g0
    replace g1 := hz.cell g1
    replace g2 := hz.cell g2
    replace hu3 := hu3.ext hz
    replace hug := hug.ext hz
    clear hz hx4
    obtain ⟨A5, c5, rfl, _⟩ := hu5.len
    rw [show (S.map ratM).length = T.ps.length by rw [List.length_map, HSl.out]] at hu5 ⊢
    have hd2 : ((T.ps.length : Int) != (T.ps.length : Int)) = false := by simp
    go_upto_region 10 with fail
    clear hd2
    go_loopw [16] (fun i wr => ∃ k : Nat, k ≤ T.ps.length ∧ i = .int .i64 k ∧ Ext w5 wr) (fun i _ => T.ps.length - (intOf i).toNat)
    case atStart => exact ⟨0, Nat.zero_le _, rfl, Ext.refl _⟩
    case round =>
      obtain ⟨k, hk, rfl, hxr⟩ := hrel
      replace d0 := hxr.cell d0
      replace d1 := hxr.cell d1
      replace g0 := hxr.cell g0
      replace g1 := hxr.cell g1
      replace g2 := hxr.cell g2
      replace hu3 := hu3.ext hxr
      replace hug := hug.ext hxr
      replace hu5 := hu5.ext hxr
      replace hx5 := hx5.trans hxr
      by_cases hlt : k < T.ps.length
      · have hkg : k < (chgL T (r : Int) nc T.ps).length := by rw [HGL.out]; exact hlt
        obtain ⟨b1, o1, rfl, c0, _⟩ := hug.get k hkg
        rw [HGI.out k hlt hkg] at c0
        obtain ⟨hx0, hxu⟩ := HMO.out k hlt
        obtain ⟨bb, oo, rfl, p0, _, _⟩ := (hT.p.ext hx5).get k hlt
        have KH := fun id W (h : Ext wr W) => has_any _ U id W (hu3.ext h) (by omega)
        obtain ⟨x, hxx⟩ : ∃ x, (chgR T (r : Int) nc T.ps[k]).n = x := ⟨_, rfl⟩
        rw [hxx] at c0 hx0 hxu
        obtain ⟨id, hid⟩ : ∃ x, T.ps[k].id = x := ⟨_, rfl⟩
        rw [hid] at p0 hxu
        have hki : (k : Int) < (T.ps.length : Int) := by omega
        have hb5 : decide (x < 0) = false := decide_eq_false (by omega)
        have KH2 := Lib.hid (KH id)
        clear hxx hid KH
        by_cases hxp : 0 < x
        · have hb6 : decide (x > 0) = true := decide_eq_true hxp
          have hin : decide (id ∈ U) = true := decide_eq_true (hxu hxp)
          have HIN := Lib.hid hin
          clear hxp hxu hin
          go_wp2_with fail
          refine (KH2.out _ (Ext.refl _)).mono ?_
          rw [HIN.out]
          rintro e w21 ⟨rfl, hz⟩
          have hx21 := hxr.trans hz
          clear hz p0 c0
          go_wp2_with fail
          go_roundw
          case rel => exact ⟨k + 1, by omega, by go_num, hx21⟩
          case measure => simp [intOf]; omega
        · have hb6 : decide (x > 0) = false := decide_eq_false (by omega)
          clear hxp hxu
          go_wp2_with fail
          go_roundw
          case rel => exact ⟨k + 1, by omega, by go_num, hxr⟩
          case measure => simp [intOf]; omega
      · obtain rfl : k = T.ps.length := by omega
        clear hug hu3
        go_wp2_with fail
        refine (HJ.out _ hx5 (by have := HM.out; omega)).mono ?_
        rintro e w31 ⟨ja, jb, rfl, hjt, hz⟩
        have hx31 := hx5.trans hz
        replace d0 := hz.cell d0
        replace d1 := hz.cell d1
        replace g0 := hz.cell g0
        replace g1 := hz.cell g1
        replace g2 := hz.cell g2
        replace hu5 := hu5.ext hz
        clear hz hx5
        obtain ⟨jA, jc, rfl, _⟩ := hjt.r.len
        obtain ⟨jB, jd, rfl, _⟩ := hjt.p.len
        obtain ⟨B9, hB9⟩ : ∃ B, w31.heap.size = B := ⟨_, rfl⟩
        obtain ⟨w32, hw32⟩ : ∃ Y, w31.alloc (.cells #[.slice jA JX.rs.length jc, .slice jB JX.ps.length jd] 25) = Y := ⟨_, rfl⟩
        have hz : Ext w31 w32 := by rw [← hw32]; exact (by repeat (first | exact Ext.refl _ | assumption | refine Ext.alloc ?_ _ | refine Ext.drew ?_ | refine Ext.drewN _ ?_ | refine Ext.trans ?_ (by assumption)))
        have k9 : Cls B9 25 #[.slice jA JX.rs.length jc, .slice jB JX.ps.length jd] w32 := by rw [← hw32]; exact Cls.newAt _ _ _ hB9.symm
        have hx32 := hx31.trans hz
        replace hjt := hjt.ext hz
        replace d0 := hz.cell d0
        replace d1 := hz.cell d1
        replace g0 := hz.cell g0
        replace g1 := hz.cell g1
        replace g2 := hz.cell g2
        replace hu5 := hu5.ext hz
        have j0 := k9.cell 0
        have j1 := k9.cell 1
        clear hz hx31
        by_cases hje : JE = 0
        rotate_left 1
        · have hc9 : (JE != 0) = true := by simpa using hje
          clear hje
          go_upto_region 15 with fail
          try rw [hB9]
          try rw [hw32]
          clear hw32 hB9
          go_wp2_with fail
          refine (san _ hx32).mono ?_
          rintro e w99 ⟨rfl, hz⟩
          go_wp2_with fail
          go_ret
          exact ⟨rfl, hz⟩
        subst hje
        obtain ⟨h2l, h2b, h2c⟩ := HJF.out rfl
        have H2l := Lib.hid h2l
        have H2b := Lib.hid h2b
        have H2c := Lib.hid h2c
        have HX1 := Lib.hid (HXS.out rfl)
        clear h2l h2b h2c HJF HXS
        go_upto_region 15 with fail
        try rw [hB9]
        try rw [hw32]
        clear hw32 hB9
        go_wp2_with fail
        refine (HX1.out _ _ _ hjt).mono ?_
        rintro e w31 ⟨u31, rfl, hu31, hz⟩
        have hx31 := hx32.trans hz
        replace d0 := hz.cell d0
        replace d1 := hz.cell d1
        replace j0 := hz.cell j0
        replace j1 := hz.cell j1
        replace hu5 := hu5.ext hz
        clear hz hx32
        obtain ⟨A31, c31, rfl, _⟩ := hu31.len
        rw [show (S2.map ratM).length = T.ps.length + 1 by rw [List.length_map, H2l.out]] at hu31 ⊢
        clear hjt j0 j1 k9
        have hlw : IntKind.i64.wrap ((T.ps.length : Int) + 1) = (T.ps.length : Int) + 1 := IntWalk.i64_in _ (by omega)
        have hd3 : ((T.ps.length : Int) + 1 != (T.ps.length : Int) + 1) = false := by simp
        obtain ⟨n1, hn1⟩ : ∃ n, T.ps.length + 1 = n := ⟨_, rfl⟩
        have hn1i : (T.ps.length : Int) + 1 = (n1 : Int) := by omega
        rw [hn1] at hu31 ⊢
        rw [hn1i] at hlw hd3
        have HN1 := Lib.hid hn1
        clear hn1
        go_upto_region 21 with fail
        go_loopw [21] (fun i wr => ∃ k : Nat, k ≤ T.ps.length ∧ i = .int .i64 k ∧ Ext w31 wr) (fun i _ => T.ps.length - (intOf i).toNat)
        case atStart => exact ⟨0, Nat.zero_le _, rfl, Ext.refl _⟩
        case round =>
          obtain ⟨k, hk, rfl, hxr⟩ := hrel
          replace hu5 := hu5.ext hxr
          replace hu31 := hu31.ext hxr
          replace hx31 := hx31.trans hxr
          clear d0 d1
          by_cases hlt : k < T.ps.length
          · have hkS : k < S.length := by rw [HSl.out]; exact hlt
            have hkS2 : k < S2.length := by rw [H2l.out]; omega
            obtain ⟨b1, o1, rfl, c0, c1⟩ := hu5.get k (by rw [List.length_map]; exact hkS)
            obtain ⟨b2, o2, rfl, e0, e1⟩ := hu31.get k (by rw [List.length_map]; exact hkS2)
            have hbx := HSb.out _ (List.getElem_mem hkS)
            have hby := H2b.out _ (List.getElem_mem hkS2)
            have hle := H2c.out k hlt
            rw [getD_at hkS, getD_at hkS2] at hle
            rw [List.getElem_map] at c0 c1 e0 e1
            have KPx := fun W => parts_any S[k] hbx.1 hbx.2 W
            have KPy := fun W => parts_any S2[k] hby.1 hby.2 W
            obtain ⟨x, hxx⟩ : ∃ x, S[k] = x := ⟨_, rfl⟩
            obtain ⟨y, hyy⟩ : ∃ x, S2[k] = x := ⟨_, rfl⟩
            rw [hxx] at KPx c0 c1 hle
            rw [hyy] at KPy e0 e1 hle
            have KP1 : ∀ W, Calls Try.prog 20 #[.agg #[.int .i64 (ratM x).n, .int .i64 (ratM x).d]] W fun e w' => e = .returned (.tuple #[.int .i64 x, .bool true]) ∧ Ext W w' := KPx
            have KP2 : ∀ W, Calls Try.prog 20 #[.agg #[.int .i64 (ratM y).n, .int .i64 (ratM y).d]] W fun e w' => e = .returned (.tuple #[.int .i64 y, .bool true]) ∧ Ext W w' := KPy
            obtain ⟨rn, hrn⟩ : ∃ r, (ratM x).n = r := ⟨_, rfl⟩
            obtain ⟨rd, hrd⟩ : ∃ r, (ratM x).d = r := ⟨_, rfl⟩
            obtain ⟨sn, hsn⟩ : ∃ r, (ratM y).n = r := ⟨_, rfl⟩
            obtain ⟨sd, hsd⟩ : ∃ r, (ratM y).d = r := ⟨_, rfl⟩
            rw [hrn, hrd] at KP1
            rw [hrn] at c0
            rw [hrd] at c1
            rw [hsn, hsd] at KP2
            rw [hsn] at e0
            rw [hsd] at e1
            have hki : (k : Int) < (T.ps.length : Int) := by omega
            have hki2 : (k : Int) < (n1 : Int) := by have := HN1.out; omega
            have hg1 : decide (y > x) = false := decide_eq_false (by omega)
            have HK1 := Lib.hid KP1
            have HK2 := Lib.hid KP2
            clear hrn hrd hsn hsd hxx hyy KPx KPy KP1 KP2 hle hlw hd3
            have hxs : Ext wr wr := Ext.refl _
            go_wp2_with fail
            refine (HK1.out _).mono ?_
            rintro e w41 ⟨rfl, hz⟩
            have hx41 := hxs.trans hz
            replace c0 := hz.cell c0
            replace c1 := hz.cell c1
            replace e0 := hz.cell e0
            replace e1 := hz.cell e1
            clear hz hxs
            go_wp2_with fail
            refine (HK2.out _).mono ?_
            rintro e w42 ⟨rfl, hz⟩
            have hx42 := hx41.trans hz
            replace c0 := hz.cell c0
            replace c1 := hz.cell c1
            replace e0 := hz.cell e0
            replace e1 := hz.cell e1
            clear hz hx41
            have hxe := hxr.trans hx42
            go_wp2_with fail
            go_roundw
            case rel => exact ⟨k + 1, by omega, by go_num, hxe⟩
            case measure => simp [intOf]; omega
          · obtain rfl : k = T.ps.length := by omega
            clear hu5 hu31 hlw hd3
            go_wp2_with fail
            refine (san _ hx31).mono ?_
            rintro e w99 ⟨rfl, hz⟩
            go_wp2_with fail
            go_ret
            exact ⟨rfl, hz⟩
end Go.Proofs.Ythopgonbndoidaa
namespace Go.Proofs.Ythopgonbndoidaa.levyMore
open Go.ChangeShapes Go.WideShapes Go.ChangeAt Go.RowKit Go.Deep Go.Joins

noncomputable def wArgs : Array Value := #[.agg #[.slice none 0 0, .slice none 0 0], .int .u8 0, .int .u16 0, .agg #[.int .i64 0, .int .i64 0, .int .i64 0]]
noncomputable def laidWorld (os : Os) : World := World.holding Try.prog os ⟨#[], #[], []⟩

set_option maxRecDepth 100000 in
theorem contract (H : Type) (enc : TypeId × Value → H) (W : World) (base : Nat) (args : Array Value) (ds gs : List (DataW H)) (before : List MemPlace)
    (hval : ∀ (j : Nat) t v, Try.f9.params[j]? = some t → args[j]? = some v → Value.okWide Try.prog W .any base t v)
    (hW : DataW.Whole enc Try.prog Try.f9.params.toList Rows.levyMoreSpec.vars false W args.toList ds gs before) :
    Calls Try.prog 9 args W fun e W' => ∃ v, e = .returned v ∧ Rows.levyMoreSpec.post enc Try.prog Try.f9 false true false false W args v W' := by
  have hW' := hW
  obtain ⟨p, q, hA, hV, rfl, hfz, hnd⟩ := hW
  rw [show Try.f9.params = #[25, 5, 75, 45] from rfl] at hA hval
  obtain ⟨v0, vs0, d0, ds0, p0, q0, hargs, rfl, rfl, h0, r0⟩ := trodAll_cons hA
  obtain ⟨v1, vs1, d1, ds1, p1, q1, rfl, rfl, rfl, h1, r1⟩ := trodAll_cons r0
  obtain ⟨v2, vs2, d2, ds2, p2, q2, rfl, rfl, rfl, h2, r2⟩ := trodAll_cons r1
  obtain ⟨v3, vs3, d3, ds3, p3, q3, rfl, rfl, rfl, h3, r3⟩ := trodAll_cons r2
  obtain ⟨rfl, rfl, rfl⟩ := trodAll_nil r3
  obtain rfl : args = #[v0, v1, v2, v3] := by cases args; simp_all
  obtain ⟨rfl, rfl⟩ := trodVars_none hV
  obtain ⟨a0, b0, T0, rfl, hT0⟩ := open_tree (hval 0 25 v0 rfl rfl) h0
  obtain ⟨x1, rfl, _, _, hf1⟩ := open_int Try.underlying5 (hval 1 5 v1 rfl rfl) h1
  obtain ⟨x2, rfl, _, _, hf2⟩ := open_int Try.underlying75 (hval 2 75 v2 rfl rfl) h2
  obtain ⟨Y3, rfl, _⟩ := open_payer (hval 3 45 v3 rfl rfl) h3
  refine (LevyMore_any _ _ T0 x1 x2 Y3 W hT0 (wf_u8 hf1) (wf_u16 hf2)).mono fun e W' ⟨he, hg⟩ => ?_
  subst he
  refine ⟨_, rfl, post_true hW' rfl rfl ⟨rfl, rfl, rfl⟩ ?_ hg⟩
  rw [show Try.f9.params = #[25, 5, 75, 45] from rfl]
  intro t ht
  simp only [List.mem_cons, List.not_mem_nil, or_false] at ht
  rcases ht with rfl | rfl | rfl | rfl <;> exact ⟨by kernel_rfl, of_decide_eq_true (by kernel_rfl)⟩

set_option maxRecDepth 100000 in
theorem laid_met (os : Os) : laidMet Try.prog Rows.levyMoreRow.laid ((laidWorld os).forCall (fun _ _ => 0) ⟨#[], wArgs, []⟩).memory :=
  laidMet_of_run' 8 (by kernel_rfl) (by kernel_rfl)
set_option maxRecDepth 100000 in
theorem reads (os : Os) {H : Type} (enc : TypeId × Value → H) : ∃ x places, DataW.whole enc Try.prog ((laidWorld os).forCall (fun _ _ => 0) ⟨#[], wArgs, []⟩).memory Try.f9.params.toList Rows.levyMoreSpec.vars false wArgs.toList 8 = some (x, [], places) :=
  ⟨[.agg [.nil, .nil], .lit (.int .u8 0), .lit (.int .u16 0), .agg [.lit (.int .i64 0), .lit (.int .i64 0), .lit (.int .i64 0)]], [], by kernel_rfl⟩

set_option maxRecDepth 100000 in
theorem lifted (os : Os) (started : os.Started) (H : Type) (enc : TypeId × Value → H) (F : Stop.Interp) :
    ReturnsInHanded {} Try.checked os 9 .any ((OpenSpec.ofChange Rows.levyMoreSpec).preRow enc Try.prog Try.f9 Rows.levyMoreRow.domain false Rows.levyMoreRow.laid) (((OpenSpec.ofChange Rows.levyMoreSpec).at F).post enc Try.prog Try.f9 false true false false) := by
  obtain ⟨x, places, hx⟩ := reads os enc
  refine returnsInHanded_of_row (C := Try.checked) (s := OpenSpec.ofChange Rows.levyMoreSpec) own started (by kernel_rfl) Try.func9
    (witness_row_at (enc := enc) (C := Try.checked) false (laidWorld os) wArgs rfl (by kernel_rfl) (by kernel_rfl) (by kernel_rfl)
      (OpenSpec.preRow_of_cond 8 hx (by kernel_rfl) (fun k hk => by cases hk) (by kernel_rfl) (laid_met os))) ?_
  intro W base args ds gs before hval hW _ _ _ hL _ _
  exact contract H enc W base args ds gs before hval hW

set_option maxRecDepth 100000 in
theorem said : Rows.LevyMoreSaid :=
  OpenClaim.holds_of_cond 9 Try.f9 rfl rfl rfl rfl rfl rfl rfl ⟨rfl, rfl, rfl, rfl, rfl⟩ rfl rfl rfl rfl rfl (by kernel_rfl) Try.func9 (by kernel_rfl)
    (of_decide_eq_true (by kernel_rfl)) (by unfold Func.isWrapper; first | (rw [if_pos (by decide +kernel)]; kernel_rfl) | (rw [if_neg (by decide +kernel)]; exact ⟨rfl, rfl⟩))
    (fun os started H enc _ F => by rw [OpenClaim.pre_eq_preRow]; exact lifted os started H enc F)
end Go.Proofs.Ythopgonbndoidaa.levyMore

