/- CheckFair of the program: labels that prove a sharing. Ladder. -/
import Derived.Test.YtiofdfjcaklmcaaFApW
import Derived.Test.YtiofdfjcaklmcaaFPb
namespace Go.Proofs.Ytiofdfjcaklmcaa
open Go.RowKit Go.Shelf

theorem lbOf_at {P : Po} (hok : OkP P) {L : List Int} (hl : L.length = P.ts.length) {u : Int} (hu : ∃ t ∈ P.ts, t.id = u) : ∃ k, ∃ (h : k < L.length), tnI P u = k ∧ k < P.ts.length ∧ lbOf P L u = L[k] := by
  obtain ⟨t, ht, rfl⟩ := hu
  obtain ⟨k, hk, rfl⟩ := List.getElem_of_mem ht
  have h1 := tn_at hok hk
  exact ⟨k, by omega, h1, hk, by unfold lbOf; rw [h1]; simp [show k < L.length by omega]⟩
set_option maxRecDepth 100000 in
set_option maxHeartbeats 4000000 in
theorem ckClo_any (Bf Bp Bl : Nat) (a b gv lv : Value) (P : Po) (L : List Int) (hok : OkP P) (hl : L.length = P.ts.length) (u low : Int) (hu : ∃ t ∈ P.ts, t.id = u) (w : World)
    (hF : Cls Bf 71 #[gv, lv] w) (hP : Cls Bp 25 #[a, b] w) (hB : Cls Bl 3 #[.int .i64 low] w) (hT : TesAt w a P.ts) (hL : IntsAt w lv L) :
    Calls Try.prog 99 #[.int .i64 u, .pointer (some ⟨Bf, 0, none⟩), .pointer (some ⟨Bp, 0, none⟩), .pointer (some ⟨Bl, 0, none⟩)] w fun e w' => e = .returned (.bool (decide (lbOf P L u < low))) ∧ Ext w w' := by
  have hlt := hok.lt
  obtain ⟨k, hk, hti, hkt, hlb⟩ := lbOf_at hok hl hu
  obtain ⟨aa, ca, rfl, hla⟩ := hT.len
  obtain ⟨al, cl, rfl, hlc⟩ := hL.len
  obtain ⟨bb, oo, rfl, c0⟩ := hL.get k hk
  have KT := fun W (h : Ext w W) => tn_any _ b P u W (hT.ext h) (by omega)
  simp only [hti] at KT
  rw [hlb]
  obtain ⟨z, hz⟩ : ∃ z, L[k] = z := ⟨_, rfl⟩
  rw [hz] at c0 ⊢
  have HKT := Lib.hid KT
  have f1 : w.cell? ⟨Bf, 1, none⟩ = some (.slice (some ⟨bb, oo, none⟩) L.length cl) := hF.cell 1
  have p0 : w.cell? ⟨Bp, 0, none⟩ = some (.slice aa P.ts.length ca) := hP.cell 0
  have p1 : w.cell? ⟨Bp, 1, none⟩ = some b := hP.cell 1
  have b0 : w.cell? ⟨Bl, 0, none⟩ = some (.int .i64 low) := hB.cell 0
  have hki : (k : Int) < L.length := by omega
  clear KT hlb hz hti hl
  go_enter Try.func99, Try.ntmps99
  go_upto_region 1 with fail
  refine wp_region_held_drew (S := fun W' => W'.cell? ⟨Bf, 1, none⟩ = some (.slice (some ⟨bb, oo, none⟩) L.length cl) ∧ W'.cell? ⟨Bp, 0, none⟩ = some (.slice aa P.ts.length ca) ∧ W'.cell? ⟨Bp, 1, none⟩ = some b ∧ W'.cell? ⟨Bl, 0, none⟩ = some (.int .i64 low) ∧ W'.cell? ⟨bb, oo + k, none⟩ = some (.int .i64 z) ∧ Ext w W') (by kernel_rfl) ?_ (fun hHeld => ?_)
  · exact ⟨f1, p0, p1, b0, c0, Ext.drew (Ext.refl _)⟩
  obtain ⟨V0, hV0⟩ : ∃ V, World.drew w = V := ⟨_, rfl⟩
  rw [hV0] at hHeld ⊢
  clear hV0
  (refine tkH (i := 0) (v := ?_) rfl ?_ ?_; rotate_left 1; (focus (intro w hSw; (try dsimp only at hSw); go_simp; try (with_reducible rfl))))
  try simp only [Act.put, xA1, xA2, xA4, xA5, xA6]
  (refine tkH (i := 1) (v := ?_) rfl ?_ ?_; rotate_left 1; (focus (intro w hSw; (try dsimp only at hSw); go_simp; try (with_reducible rfl))))
  try simp only [Act.put, xA1, xA2, xA3, xA4, xA5, xA6]
  (refine tkH (i := 2) (v := ?_) rfl ?_ ?_; rotate_left 1; (focus (intro w hSw; (try dsimp only at hSw); go_simp; try (with_reducible rfl))))
  try simp only [Act.put, xA1, xA2, xA3, xA4, xA5, xA6]
  (refine tkH (i := 3) (v := ?_) rfl ?_ ?_; rotate_left 1; (focus (intro w hSw; (try dsimp only at hSw); go_simp; try (with_reducible rfl))))
  try simp only [Act.put, xA1, xA2, xA3, xA4, xA5, xA6]
  (refine tkH (i := 7) (v := ?_) rfl ?_ ?_; rotate_left 1; (focus (intro w hSw; (try dsimp only at hSw); go_simp; try (with_reducible rfl))))
  try simp only [Act.put, xA1, xA2, xA3, xA4, xA5, xA6]
  refine wpAnyH_ready (rs := [4]) (by kernel_rfl) (by simp) ?_
  refine AllReadyH.cons rfl (fun K hK => ?_) AllReadyH.nil
  go_simp
  go_at_call 72; refine (HKT.out V0 hHeld.2.2.2.2.2).mono ?_; rintro e V1 ⟨rfl, hz⟩
  refine hK.out _ _ ?_ (fun hHeld => ?_)
  · exact ⟨Ext.cell hz hHeld.1, Ext.cell hz hHeld.2.1, Ext.cell hz hHeld.2.2.1, Ext.cell hz hHeld.2.2.2.1, Ext.cell hz hHeld.2.2.2.2.1, hHeld.2.2.2.2.2.trans hz⟩
  clear hK K
  clear hz
  try simp only [Act.put, xA1, xA2, xA3, xA4, xA5, xA6]
  (refine tkH (i := 5) (v := ?_) rfl ?_ ?_; rotate_left 1; (focus (intro w hSw; (try dsimp only at hSw); go_simp; try (with_reducible rfl))))
  try simp only [Act.put, xA1, xA2, xA3, xA4, xA5, xA6]
  (refine tkH (i := 6) (v := ?_) rfl ?_ ?_; rotate_left 1; (focus (intro w hSw; (try dsimp only at hSw); go_simp; try (with_reducible rfl))))
  try simp only [Act.put, xA1, xA2, xA3, xA4, xA5, xA6]
  (refine tkH (i := 8) (v := ?_) rfl ?_ ?_; rotate_left 1; (focus (intro w hSw; (try dsimp only at hSw); go_simp; try (with_reducible rfl))))
  try simp only [Act.put, xA1, xA2, xA3, xA4, xA5, xA6]
  (refine tkH (i := 9) (v := ?_) rfl ?_ ?_; rotate_left 1; (focus (intro w hSw; (try dsimp only at hSw); go_simp; try (with_reducible rfl))))
  try simp only [Act.put, xA1, xA2, xA3, xA4, xA5, xA6]
  refine wpAnyH_done (by kernel_rfl) ?_ _
  have hxx := hHeld.2.2.2.2.2
  go_wp2_with fail
  go_ret
  exact ⟨ret_bool (by simp), hxx⟩
set_option maxRecDepth 100000 in
set_option maxHeartbeats 4000000 in
theorem ckIx_any (Bf Bp Bl : Nat) (a b gv lv v : Value) (P : Po) (L us : List Int) (hok : OkP P) (hl : L.length = P.ts.length) (low : Int) (hu : ∀ u ∈ us, ∃ t ∈ P.ts, t.id = u) (hn : us.length ≤ 100000) (w : World)
    (hF : Cls Bf 71 #[gv, lv] w) (hP : Cls Bp 25 #[a, b] w) (hB : Cls Bl 3 #[.int .i64 low] w) (hT : TesAt w a P.ts) (hL : IntsAt w lv L) (hv : IntsAt w v us) :
    Calls Try.prog 98 #[v, .func (.func 99) #[] #[.pointer (some ⟨Bf, 0, none⟩), .pointer (some ⟨Bp, 0, none⟩), .pointer (some ⟨Bl, 0, none⟩)]] w fun e w' => e = .returned (.int .i64 (ixF (fun u => decide (lbOf P L u < low)) 0 us)) ∧ Ext w w' := by
  have KC := fun (u : Int) (h : ∃ t ∈ P.ts, t.id = u) W (x : Ext w W) => ckClo_any Bf Bp Bl a b gv lv P L hok hl u low h W (hF.ext x) (hP.ext x) (hB.ext x) (hT.ext x) (hL.ext x)
  obtain ⟨A, c, rfl, hlc⟩ := hv.len
  obtain ⟨p, hp⟩ : ∃ p, (fun u => decide (lbOf P L u < low)) = p := ⟨_, rfl⟩
  have hpu : ∀ u, decide (lbOf P L u < low) = p u := fun u => by rw [← hp]
  simp only [hpu] at KC
  rw [hp]
  have HKC := Lib.hid KC
  clear KC hpu hp hF hP hB hT hL
  have key : Calls Try.prog 130 #[.slice A us.length c, .func (.func 99) #[] #[.pointer (some ⟨Bf, 0, none⟩), .pointer (some ⟨Bp, 0, none⟩), .pointer (some ⟨Bl, 0, none⟩)]] w fun e w' => e = .returned (.int .i64 (ixF p 0 us)) ∧ Ext w w' := by
    obtain ⟨F, hF⟩ : ∃ F, ixF p 0 us = F := ⟨_, rfl⟩
    have HF := Lib.hid hF
    rw [hF]
    clear hF
    go_enter Try.func130, Try.ntmps130
    go_wp2_with fail
    go_loopw [8] (fun i wr => ∃ k : Nat, k ≤ us.length ∧ i = .int .i64 k ∧ Hid (ixF p k (us.drop k) = F) ∧ Ext w wr) (fun i _ => us.length - (intOf i).toNat)
    case atStart => exact ⟨0, Nat.zero_le _, rfl, HF, Ext.refl _⟩
    case round =>
      obtain ⟨k, hk, rfl, HK, hx⟩ := hrel
      by_cases hlt : k < us.length
      · obtain ⟨b, o, rfl, c0⟩ := (hv.ext hx).get k hlt
        have hhit := fun h => ixF_hit (p := p) hlt h
        have hmiss := fun h => ixF_miss (p := p) hlt h
        rw [HK.out] at hhit hmiss
        have C := HKC.out us[k] (hu _ (List.getElem_mem hlt)) wr hx
        obtain ⟨x, hxx⟩ : ∃ x, us[k] = x := ⟨_, rfl⟩
        rw [hxx] at c0 hhit hmiss C
        cases hq : p x
        · rw [hq] at C
          have H1 := Lib.hid (hmiss hq)
          clear hxx hhit hmiss
          go_wp2_with fail
          refine C.mono ?_
          rintro e w2 ⟨rfl, hy⟩
          go_wp2
          go_roundw
          case rel => exact ⟨k + 1, by omega, by go_num, Lib.hid H1.out.symm, hx.trans hy⟩
          case measure => simp [intOf]; omega
        · rw [hq] at C
          have H1 := Lib.hid (hhit hq)
          clear hxx hhit hmiss
          go_wp2_with fail
          refine C.mono ?_
          rintro e w2 ⟨rfl, hy⟩
          go_wp2
          go_ret
          exact ⟨ret_int H1.out.symm, hx.trans hy⟩
      · obtain rfl : k = us.length := by omega
        have he := ixF_end (p := p) (l := us)
        rw [HK.out] at he
        have HE := Lib.hid he
        clear he
        go_wp2
        go_ret
        exact ⟨ret_int HE.out.symm, hx⟩
  go_enter Try.func98, Try.ntmps98
  go_wp2_with fail
  refine key.mono ?_
  rintro e w2 ⟨rfl, hy⟩
  go_wp2
  go_ret
  exact ⟨rfl, hy⟩
set_option maxRecDepth 100000 in
set_option maxHeartbeats 16000000 in
theorem CheckFair_any (a b gv lv : Value) (P : Po) (g L : List Int) (w : World) (hT : PoAt w a b P) (hg : IntsAt w gv g) (hL : IntsAt w lv L) (hus : ∀ s ∈ P.ss, s.us.length ≤ 1000000) :
    Calls Try.prog 43 #[.agg #[a, b], .agg #[gv, lv]] w fun e w' => e = .returned (.int .i64 (cfE P g L)) ∧ Ext w w' := by
  obtain ⟨aa, ca, rfl, hla⟩ := hT.t.len
  obtain ⟨ab, cb, rfl, hlb⟩ := hT.s.len
  obtain ⟨ag, cg, rfl, hlg⟩ := hg.len
  obtain ⟨al, cl, rfl, hll⟩ := hL.len
  have hcok := (chk_ok (P := P)).1
  have hfe := cf_e (P := P) (g := g) (L := L)
  have hfS := cf_fS (P := P) (g := g) (L := L)
  have hfL := cf_fL (P := P) (g := g) (L := L)
  have hf1 := fun hc i => cf_f1 (P := P) (g := g) (L := L) hc (i := i)
  have hf2 := fun hc i => cf_f2 (P := P) (g := g) (L := L) hc (i := i)
  have hft := cf_t (P := P) (g := g) (L := L)
  have KCK := fun W (x : Ext w W) => Check_any _ _ P W (hT.ext x) hus
  have KSH := fun (h : OkP P) W (x : Ext w W) => sharing_any _ _ _ P g h W (hT.ext x) (hg.ext x)
  have KCN := fun (h : OkP P) (hl : g.length ≤ 1000) W (x : Ext w W) => counts_any _ (.slice ab P.ss.length cb) _ P g W (hT.t.ext x) (hg.ext x) (by have := h.lt; omega) (by omega)
  have hsl : shrB P g = true → ShrV P g := shr_iff.1
  obtain ⟨E, hE⟩ : ∃ E, cfE P g L = E := ⟨_, rfl⟩
  obtain ⟨C, hC⟩ : ∃ E, chkE P = E := ⟨_, rfl⟩
  obtain ⟨S, hS⟩ : ∃ E, shrB P g = E := ⟨_, rfl⟩
  rw [hC] at hcok
  rw [hE, hC] at hfe
  rw [hE, hC, hS] at hfS
  rw [hE, hC] at hfL
  simp only [hE, hC] at hf1 hf2
  rw [hE, hC, hS] at hft
  simp only [hC] at KCK
  simp only [hS] at KSH
  rw [hS] at hsl
  rw [hE]
  have HFE := Lib.hid hfe
  have HFS := Lib.hid hfS
  have HFL := Lib.hid hfL
  have HF1 := Lib.hid hf1
  have HF2 := Lib.hid hf2
  have HFT := Lib.hid hft
  have HSL := Lib.hid hsl
  have HKCK := Lib.hid KCK
  have HKSH := Lib.hid KSH
  have HKCN := Lib.hid KCN
  clear hfe hfS hfL hf1 hf2 hft hsl KCK KSH KCN hE hC hS
  go_enter Try.func43, Try.ntmps43
  go_wp2_with fail
  refine (HKCK.out _ (by repeat (first | exact Ext.refl _ | assumption | refine Ext.alloc ?_ _ | refine Ext.drew ?_ | refine Ext.drewN _ ?_ | refine Ext.trans ?_ (by assumption)))).mono ?_
  rintro e w1 ⟨rfl, hx1⟩
  obtain ⟨q, qf, hx, hk0⟩ := alloc2 hx1
  have d0 : w1.cell? ⟨w.heap.size, 0, none⟩ = some (.slice aa P.ts.length ca) := q.cell 0
  have d1 : w1.cell? ⟨w.heap.size, 1, none⟩ = some (.slice ab P.ss.length cb) := q.cell 1
  have e0 : w1.cell? ⟨w.heap.size + 1, 0, none⟩ = some (.slice ag g.length cg) := qf.cell 0
  have e1 : w1.cell? ⟨w.heap.size + 1, 1, none⟩ = some (.slice al L.length cl) := qf.cell 1
  clear hx1 hk0
  by_cases h0 : C = 0
  · have hok := hcok h0
    have hlt := hok.lt
    have hls := hok.ls
    have H0 := Lib.hid h0
    have hb : (C != 0) = false := by simp [h0]
    clear h0 hcok HFE
    go_wp2_with fail
    refine (HKSH.out hok _ hx).mono ?_
    rintro e w2 ⟨rfl, hz⟩
    have q2 := q.ext hz
    have qf2 := qf.ext hz
    have hx2 := hx.trans hz
    replace d0 := hz.cell d0
    replace d1 := hz.cell d1
    replace e0 := hz.cell e0
    replace e1 := hz.cell e1
    clear q qf hx hz HKSH HKCK
    cases S
    · have HE := Lib.hid (HFS.out H0.out rfl)
      go_wp2_with fail
      go_ret
      exact ⟨by rw [HE.out]; rfl, hx2⟩
    · by_cases hlL : L.length = P.ts.length
      · have hli : ((L.length : Int) != P.ts.length) = false := by simp [hlL]
        have HLL := Lib.hid hlL
        have hSV := HSL.out rfl
        have hgS := hSV.len
        have HSV := Lib.hid hSV
        have hg40 : g.length ≤ 40 := by omega
        have HGS := Lib.hid hgS
        clear hlL hgS hSV
        go_wp2_with fail
        refine (HKCN.out hok (by omega) _ hx2).mono ?_
        rintro e w3 ⟨nv, rfl, hn3, hz⟩
        have q3 := q2.ext hz
        have qf3 := qf2.ext hz
        have hx3 := hx2.trans hz
        obtain ⟨nA, nc, hnv⟩ := hn3.form
        subst hnv
        have hN := cntT_len P g
        have hNg := cntT_get P g
        have hNb := cntT_bd (P := P) g (by omega)
        have hn3' := rowI_base hn3 hx2.size
        obtain ⟨CN, hCN⟩ : ∃ C, cntT P g = C := ⟨_, rfl⟩
        rw [hCN] at hN hNg hNb hn3'
        have HN := Lib.hid hN
        have HNG := Lib.hid hNg
        have HNB := Lib.hid hNb
        have HN3 := Lib.hid hn3'
        replace e1 := hz.cell e1
        try rw [hCN]
        clear hN hNg hNb hCN hn3 hn3' q2 qf2 hx2 hz d0 d1 e0
        go_wp2_with fail
        go_loopw [38] (fun i wr => ∃ k : Nat, k ≤ L.length ∧ i = .int .i64 k ∧ Hid (∀ j, j < k → lbI P g L j = true) ∧ Ext w3 wr) (fun i _ => L.length - (intOf i).toNat)
        case atStart => exact ⟨0, Nat.zero_le _, rfl, Lib.hid (fun j h => by omega), Ext.refl _⟩
        case round =>
          clear e1
          obtain ⟨k, hk, rfl, HJ, hy⟩ := hrel
          have hx := hx3.trans hy
          have d0 : wr.cell? ⟨w.heap.size, 0, none⟩ = some (.slice aa P.ts.length ca) := (q3.ext hy).cell 0
          have d1 : wr.cell? ⟨w.heap.size, 1, none⟩ = some (.slice ab P.ss.length cb) := (q3.ext hy).cell 1
          by_cases hlk : k < L.length
          · have hkt : k < P.ts.length := by have := HLL.out; omega
            have hkc : k < CN.length := by have := HN.out; omega
            obtain ⟨b1, o1, hae, c0⟩ := (hL.ext hx).get k hlk
            subst hae
            obtain ⟨b2, o2, hne, cn⟩ := (rowI_ext HN3.out hy).at_.get k hkc
            subst hne
            have hlb := lbI_at (g := g) hkt hlk
            have hcn := HNG.out k hkc hkt
            have hbn := HNB.out _ (List.getElem_mem hkc)
            have KR := fun W (h : Ext w W) => room_any _ (.slice ab P.ss.length cb) P k CN[k] W (hT.t.ext h) hkt
            rw [← hcn] at hlb
            obtain ⟨n, hn⟩ : ∃ n, CN[k] = n := ⟨_, rfl⟩
            obtain ⟨x, hxx⟩ : ∃ x, L[k] = x := ⟨_, rfl⟩
            obtain ⟨y, hyy⟩ : ∃ y, P.ts[k].most = y := ⟨_, rfl⟩
            rw [hn] at cn hlb hbn
            rw [hxx] at c0 hlb
            rw [hyy] at hlb
            simp only [hn, hyy] at KR
            have HLB := Lib.hid hlb
            have HKR := Lib.hid KR
            have hki : (k : Int) < CN.length := by omega
            obtain ⟨i1, hi1⟩ : ∃ i1, inB x 0 41 = i1 := ⟨_, rfl⟩
            have KI1 := fun W => within_any x 0 41 W
            simp only [hi1] at KI1
            have KI2 : ∀ W, Calls Try.prog 87 #[.int .i64 x, .int .i64 0, .int .i64 41] W fun e w' => e = .returned (.bool i1) ∧ Ext W w' := fun W => (KI1 W).mono (fun e W' h => ⟨h.1, h.2 ▸ Ext.refl _⟩)
            have HKI := Lib.hid KI2
            have HI1 := Lib.hid hi1
            clear hlb KR hn hxx hyy hcn hi1 KI1 KI2
            cases i1
            · have hl := HLB.out
              rw [HI1.out, Bool.false_and, Bool.false_and] at hl
              have HE := Lib.hid (HF1.out H0.out k hkt hl)
              clear hl
              go_upto_region 10 with fail
              refine wp_region_held_drew (S := fun W' => W'.cell? ⟨w.heap.size, 0, none⟩ = some (.slice aa P.ts.length ca) ∧ W'.cell? ⟨w.heap.size, 1, none⟩ = some (.slice ab P.ss.length cb) ∧ W'.cell? ⟨b2, o2 + k, none⟩ = some (.int .i64 n) ∧ Ext wr W') (by kernel_rfl) ?_ (fun hHeld => ?_)
              · exact ⟨d0, d1, cn, Ext.drew (Ext.refl _)⟩
              obtain ⟨V0, hV0⟩ : ∃ V, World.drew wr = V := ⟨_, rfl⟩
              rw [hV0] at hHeld ⊢
              clear hV0
              (refine tkH (i := 0) (v := ?_) rfl ?_ ?_; rotate_left 1; (focus (intro w hSw; (try dsimp only at hSw); go_simp; try (with_reducible rfl))))
              try simp only [Act.put, xA1, xA2, xA4, xA5, xA6]
              refine wpAnyH_ready (rs := [1]) (by kernel_rfl) (by simp) ?_
              refine AllReadyH.cons rfl (fun K hK => ?_) AllReadyH.nil
              go_simp
              go_at_call 87; refine (HKI.out V0).mono ?_; rintro e V1 ⟨rfl, hz⟩
              refine hK.out _ _ ?_ (fun hHeld => ?_)
              · exact ⟨Ext.cell hz hHeld.1, Ext.cell hz hHeld.2.1, Ext.cell hz hHeld.2.2.1, hHeld.2.2.2.trans hz⟩
              clear hK K
              clear hz
              try simp only [Act.put, xA1, xA2, xA3, xA4, xA5, xA6]
              (refine tkH (i := 2) (v := ?_) rfl ?_ ?_; rotate_left 1; (focus (intro w hSw; (try dsimp only at hSw); go_simp; try (with_reducible rfl))))
              try simp only [Act.put, xA1, xA2, xA3, xA4, xA5, xA6]
              (refine tkH (i := 3) (v := ?_) rfl ?_ ?_; rotate_left 1; (focus (intro w hSw; (try dsimp only at hSw); go_simp; try (with_reducible rfl))))
              try simp only [Act.put, xA1, xA2, xA3, xA4, xA5, xA6]
              (refine skH (i := 4) rfl ?_)
              try simp only [Act.put, xA1, xA2, xA3, xA4, xA5, xA6]
              (refine skH (i := 5) rfl ?_)
              try simp only [Act.put, xA1, xA2, xA3, xA4, xA5, xA6]
              (refine skH (i := 6) rfl ?_)
              try simp only [Act.put, xA1, xA2, xA3, xA4, xA5, xA6]
              (refine skH (i := 7) rfl ?_)
              try simp only [Act.put, xA1, xA2, xA3, xA4, xA5, xA6]
              (refine skH (i := 8) rfl ?_)
              try simp only [Act.put, xA1, xA2, xA3, xA4, xA5, xA6]
              (refine skH (i := 9) rfl ?_)
              try simp only [Act.put, xA1, xA2, xA3, xA4, xA5, xA6]
              (refine skH (i := 10) rfl ?_)
              try simp only [Act.put, xA1, xA2, xA3, xA4, xA5, xA6]
              (refine tkH (i := 11) (v := ?_) rfl ?_ ?_; rotate_left 1; (focus (intro w hSw; (try dsimp only at hSw); go_simp; try (with_reducible rfl))))
              try simp only [Act.put, xA1, xA2, xA3, xA4, xA5, xA6]
              (refine tkH (i := 12) (v := ?_) rfl ?_ ?_; rotate_left 1; (focus (intro w hSw; (try dsimp only at hSw); go_simp; try (with_reducible rfl))))
              try simp only [Act.put, xA1, xA2, xA3, xA4, xA5, xA6]
              (refine skH (i := 13) rfl ?_)
              try simp only [Act.put, xA1, xA2, xA3, xA4, xA5, xA6]
              (refine skH (i := 14) rfl ?_)
              try simp only [Act.put, xA1, xA2, xA3, xA4, xA5, xA6]
              (refine skH (i := 15) rfl ?_)
              try simp only [Act.put, xA1, xA2, xA3, xA4, xA5, xA6]
              (refine skH (i := 16) rfl ?_)
              try simp only [Act.put, xA1, xA2, xA3, xA4, xA5, xA6]
              (refine skH (i := 17) rfl ?_)
              try simp only [Act.put, xA1, xA2, xA3, xA4, xA5, xA6]
              (refine skH (i := 18) rfl ?_)
              try simp only [Act.put, xA1, xA2, xA3, xA4, xA5, xA6]
              (refine skH (i := 19) rfl ?_)
              try simp only [Act.put, xA1, xA2, xA3, xA4, xA5, xA6]
              (refine skH (i := 20) rfl ?_)
              try simp only [Act.put, xA1, xA2, xA3, xA4, xA5, xA6]
              (refine skH (i := 21) rfl ?_)
              try simp only [Act.put, xA1, xA2, xA3, xA4, xA5, xA6]
              (refine skH (i := 22) rfl ?_)
              try simp only [Act.put, xA1, xA2, xA3, xA4, xA5, xA6]
              (refine skH (i := 23) rfl ?_)
              try simp only [Act.put, xA1, xA2, xA3, xA4, xA5, xA6]
              (refine skH (i := 24) rfl ?_)
              try simp only [Act.put, xA1, xA2, xA3, xA4, xA5, xA6]
              (refine skH (i := 25) rfl ?_)
              try simp only [Act.put, xA1, xA2, xA3, xA4, xA5, xA6]
              (refine skH (i := 26) rfl ?_)
              try simp only [Act.put, xA1, xA2, xA3, xA4, xA5, xA6]
              (refine skH (i := 27) rfl ?_)
              try simp only [Act.put, xA1, xA2, xA3, xA4, xA5, xA6]
              (refine tkH (i := 28) (v := ?_) rfl ?_ ?_; rotate_left 1; (focus (intro w hSw; (try dsimp only at hSw); go_simp; try (with_reducible rfl))))
              try simp only [Act.put, xA1, xA2, xA3, xA4, xA5, xA6]
              refine wpAnyH_done (by kernel_rfl) ?_ _
              have hzz := hHeld.2.2.2
              go_wp2_with fail
              go_ret
              exact ⟨by rw [HE.out]; rfl, hx.trans hzz⟩
            · have hxb := inB_t.1 HI1.out
              have hwr : IntKind.i64.wrap (x + 1) = x + 1 := IntWalk.i64_in _ (by omega)
              by_cases hnx : n ≤ x + 1
              · have hgt : ¬ (n > x + 1) := by omega
                have hgb : decide (n > x + 1) = false := decide_eq_false hgt
                by_cases hny : n < y
                · by_cases hxn : x ≤ n
                  · have hl := HLB.out
                    rw [HI1.out, decide_eq_true hnx, decide_eq_true hny, decide_eq_true hxn] at hl
                    have HL := Lib.hid hl
                    have KR := HKR.out
                    simp only [decide_eq_true hny] at KR
                    have HKR2 := Lib.hid KR
                    have hxg : ¬ (x > n) := by omega
                    clear hl KR hnx hny hxn
                    go_upto_region 10 with fail
                    refine wp_region_held_drew (S := fun W' => W'.cell? ⟨w.heap.size, 0, none⟩ = some (.slice aa P.ts.length ca) ∧ W'.cell? ⟨w.heap.size, 1, none⟩ = some (.slice ab P.ss.length cb) ∧ W'.cell? ⟨b2, o2 + k, none⟩ = some (.int .i64 n) ∧ Ext wr W') (by kernel_rfl) ?_ (fun hHeld => ?_)
                    · exact ⟨d0, d1, cn, Ext.drew (Ext.refl _)⟩
                    obtain ⟨V0, hV0⟩ : ∃ V, World.drew wr = V := ⟨_, rfl⟩
                    rw [hV0] at hHeld ⊢
                    clear hV0
                    (refine tkH (i := 0) (v := ?_) rfl ?_ ?_; rotate_left 1; (focus (intro w hSw; (try dsimp only at hSw); go_simp; try (with_reducible rfl))))
                    try simp only [Act.put, xA1, xA2, xA4, xA5, xA6]
                    refine wpAnyH_ready (rs := [1]) (by kernel_rfl) (by simp) ?_
                    refine AllReadyH.cons rfl (fun K hK => ?_) AllReadyH.nil
                    go_simp
                    go_at_call 87; refine (HKI.out V0).mono ?_; rintro e V1 ⟨rfl, hz⟩
                    refine hK.out _ _ ?_ (fun hHeld => ?_)
                    · exact ⟨Ext.cell hz hHeld.1, Ext.cell hz hHeld.2.1, Ext.cell hz hHeld.2.2.1, hHeld.2.2.2.trans hz⟩
                    clear hK K
                    clear hz
                    try simp only [Act.put, xA1, xA2, xA3, xA4, xA5, xA6]
                    (refine tkH (i := 2) (v := ?_) rfl ?_ ?_; rotate_left 1; (focus (intro w hSw; (try dsimp only at hSw); go_simp; try (with_reducible rfl))))
                    try simp only [Act.put, xA1, xA2, xA3, xA4, xA5, xA6]
                    (refine tkH (i := 3) (v := ?_) rfl ?_ ?_; rotate_left 1; (focus (intro w hSw; (try dsimp only at hSw); go_simp; try (with_reducible rfl))))
                    try simp only [Act.put, xA1, xA2, xA3, xA4, xA5, xA6]
                    (refine tkH (i := 4) (v := ?_) rfl ?_ ?_; rotate_left 1; (focus (intro w hSw; (try dsimp only at hSw); go_simp; try (with_reducible rfl))))
                    try simp only [Act.put, xA1, xA2, xA3, xA4, xA5, xA6]
                    (refine tkH (i := 5) (v := ?_) rfl ?_ ?_; rotate_left 1; (focus (intro w hSw; (try dsimp only at hSw); go_simp; try (with_reducible rfl))))
                    try simp only [Act.put, xA1, xA2, xA3, xA4, xA5, xA6]
                    (refine tkH (i := 6) (v := ?_) rfl ?_ ?_; rotate_left 1; (focus (intro w hSw; (try dsimp only at hSw); go_simp; try (with_reducible rfl))))
                    try simp only [Act.put, xA1, xA2, xA3, xA4, xA5, xA6]
                    (refine tkH (i := 7) (v := ?_) rfl ?_ ?_; rotate_left 1; (focus (intro w hSw; (try dsimp only at hSw); go_simp; try (with_reducible rfl))))
                    try simp only [Act.put, xA1, xA2, xA3, xA4, xA5, xA6]
                    (refine tkH (i := 8) (v := ?_) rfl ?_ ?_; rotate_left 1; (focus (intro w hSw; (try dsimp only at hSw); go_simp; try (with_reducible rfl))))
                    try simp only [Act.put, xA1, xA2, xA3, xA4, xA5, xA6]
                    (refine tkH (i := 9) (v := ?_) rfl ?_ ?_; rotate_left 1; (focus (intro w hSw; (try dsimp only at hSw); go_simp; try (with_reducible rfl))))
                    try simp only [Act.put, xA1, xA2, xA3, xA4, xA5, xA6]
                    (refine tkH (i := 10) (v := ?_) rfl ?_ ?_; rotate_left 1; (focus (intro w hSw; (try dsimp only at hSw); go_simp; try (with_reducible rfl))))
                    try simp only [Act.put, xA1, xA2, xA3, xA4, xA5, xA6]
                    (refine tkH (i := 11) (v := ?_) rfl ?_ ?_; rotate_left 1; (focus (intro w hSw; (try dsimp only at hSw); go_simp; try (with_reducible rfl))))
                    try simp only [Act.put, xA1, xA2, xA3, xA4, xA5, xA6]
                    (refine tkH (i := 12) (v := ?_) rfl ?_ ?_; rotate_left 1; (focus (intro w hSw; (try dsimp only at hSw); go_simp; try (with_reducible rfl))))
                    try simp only [Act.put, xA1, xA2, xA3, xA4, xA5, xA6]
                    (refine tkH (i := 13) (v := ?_) rfl ?_ ?_; rotate_left 1; (focus (intro w hSw; (try dsimp only at hSw); go_simp; try (with_reducible rfl))))
                    try simp only [Act.put, xA1, xA2, xA3, xA4, xA5, xA6]
                    (refine tkH (i := 14) (v := ?_) rfl ?_ ?_; rotate_left 1; (focus (intro w hSw; (try dsimp only at hSw); go_simp; try (with_reducible rfl))))
                    try simp only [Act.put, xA1, xA2, xA3, xA4, xA5, xA6]
                    (refine tkH (i := 15) (v := ?_) rfl ?_ ?_; rotate_left 1; (focus (intro w hSw; (try dsimp only at hSw); go_simp; try (with_reducible rfl))))
                    try simp only [Act.put, xA1, xA2, xA3, xA4, xA5, xA6]
                    (refine tkH (i := 16) (v := ?_) rfl ?_ ?_; rotate_left 1; (focus (intro w hSw; (try dsimp only at hSw); go_simp; try (with_reducible rfl))))
                    try simp only [Act.put, xA1, xA2, xA3, xA4, xA5, xA6]
                    (refine tkH (i := 17) (v := ?_) rfl ?_ ?_; rotate_left 1; (focus (intro w hSw; (try dsimp only at hSw); go_simp; try (with_reducible rfl))))
                    try simp only [Act.put, xA1, xA2, xA3, xA4, xA5, xA6]
                    (refine tkH (i := 18) (v := ?_) rfl ?_ ?_; rotate_left 1; (focus (intro w hSw; (try dsimp only at hSw); go_simp; try (with_reducible rfl))))
                    try simp only [Act.put, xA1, xA2, xA3, xA4, xA5, xA6]
                    refine wpAnyH_ready (rs := [19]) (by kernel_rfl) (by simp) ?_
                    refine AllReadyH.cons rfl (fun K hK => ?_) AllReadyH.nil
                    go_simp
                    go_at_call 77; refine (HKR2.out V1 (hx.trans hHeld.2.2.2)).mono ?_; rintro e V2 ⟨rfl, hz⟩
                    refine hK.out _ _ ?_ (fun hHeld => ?_)
                    · exact ⟨Ext.cell hz hHeld.1, Ext.cell hz hHeld.2.1, Ext.cell hz hHeld.2.2.1, hHeld.2.2.2.trans hz⟩
                    clear hK K
                    clear hz
                    try simp only [Act.put, xA1, xA2, xA3, xA4, xA5, xA6]
                    (refine tkH (i := 20) (v := ?_) rfl ?_ ?_; rotate_left 1; (focus (intro w hSw; (try dsimp only at hSw); go_simp; try (with_reducible rfl))))
                    try simp only [Act.put, xA1, xA2, xA3, xA4, xA5, xA6]
                    (refine tkH (i := 21) (v := ?_) rfl ?_ ?_; rotate_left 1; (focus (intro w hSw; (try dsimp only at hSw); go_simp; try (with_reducible rfl))))
                    try simp only [Act.put, xA1, xA2, xA3, xA4, xA5, xA6]
                    (refine tkH (i := 22) (v := ?_) rfl ?_ ?_; rotate_left 1; (focus (intro w hSw; (try dsimp only at hSw); go_simp; try (with_reducible rfl))))
                    try simp only [Act.put, xA1, xA2, xA3, xA4, xA5, xA6]
                    (refine tkH (i := 23) (v := ?_) rfl ?_ ?_; rotate_left 1; (focus (intro w hSw; (try dsimp only at hSw); go_simp; try (with_reducible rfl))))
                    try simp only [Act.put, xA1, xA2, xA3, xA4, xA5, xA6]
                    (refine tkH (i := 24) (v := ?_) rfl ?_ ?_; rotate_left 1; (focus (intro w hSw; (try dsimp only at hSw); go_simp; try (with_reducible rfl))))
                    try simp only [Act.put, xA1, xA2, xA3, xA4, xA5, xA6]
                    (refine tkH (i := 25) (v := ?_) rfl ?_ ?_; rotate_left 1; (focus (intro w hSw; (try dsimp only at hSw); go_simp; try (with_reducible rfl))))
                    try simp only [Act.put, xA1, xA2, xA3, xA4, xA5, xA6]
                    (refine tkH (i := 26) (v := ?_) rfl ?_ ?_; rotate_left 1; (focus (intro w hSw; (try dsimp only at hSw); go_simp; try (with_reducible rfl))))
                    try simp only [Act.put, xA1, xA2, xA3, xA4, xA5, xA6]
                    (refine tkH (i := 27) (v := ?_) rfl ?_ ?_; rotate_left 1; (focus (intro w hSw; (try dsimp only at hSw); go_simp; try (with_reducible rfl))))
                    try simp only [Act.put, xA1, xA2, xA3, xA4, xA5, xA6]
                    (refine tkH (i := 28) (v := ?_) rfl ?_ ?_; rotate_left 1; (focus (intro w hSw; (try dsimp only at hSw); go_simp; try (with_reducible rfl))))
                    try simp only [Act.put, xA1, xA2, xA3, xA4, xA5, xA6]
                    refine wpAnyH_done (by kernel_rfl) ?_ _
                    have hzz := hHeld.2.2.2
                    go_wp2_with fail
                    go_roundw
                    case rel => exact ⟨k + 1, by omega, by go_num, Lib.hid (fun j hj => by
                        by_cases e : j = k
                        · rw [e, HL.out]; rfl
                        · exact HJ.out j (by omega)), hy.trans hzz⟩
                    case measure => simp [intOf]; omega
                  · have hl := HLB.out
                    rw [HI1.out, decide_eq_true hnx, decide_eq_true hny, decide_eq_false hxn] at hl
                    have HE := Lib.hid (HF1.out H0.out k hkt hl)
                    have KR := HKR.out
                    simp only [decide_eq_true hny] at KR
                    have HKR2 := Lib.hid KR
                    have hxg : x > n := by omega
                    clear hl KR hnx hny hxn
                    go_upto_region 10 with fail
                    refine wp_region_held_drew (S := fun W' => W'.cell? ⟨w.heap.size, 0, none⟩ = some (.slice aa P.ts.length ca) ∧ W'.cell? ⟨w.heap.size, 1, none⟩ = some (.slice ab P.ss.length cb) ∧ W'.cell? ⟨b2, o2 + k, none⟩ = some (.int .i64 n) ∧ Ext wr W') (by kernel_rfl) ?_ (fun hHeld => ?_)
                    · exact ⟨d0, d1, cn, Ext.drew (Ext.refl _)⟩
                    obtain ⟨V0, hV0⟩ : ∃ V, World.drew wr = V := ⟨_, rfl⟩
                    rw [hV0] at hHeld ⊢
                    clear hV0
                    (refine tkH (i := 0) (v := ?_) rfl ?_ ?_; rotate_left 1; (focus (intro w hSw; (try dsimp only at hSw); go_simp; try (with_reducible rfl))))
                    try simp only [Act.put, xA1, xA2, xA4, xA5, xA6]
                    refine wpAnyH_ready (rs := [1]) (by kernel_rfl) (by simp) ?_
                    refine AllReadyH.cons rfl (fun K hK => ?_) AllReadyH.nil
                    go_simp
                    go_at_call 87; refine (HKI.out V0).mono ?_; rintro e V1 ⟨rfl, hz⟩
                    refine hK.out _ _ ?_ (fun hHeld => ?_)
                    · exact ⟨Ext.cell hz hHeld.1, Ext.cell hz hHeld.2.1, Ext.cell hz hHeld.2.2.1, hHeld.2.2.2.trans hz⟩
                    clear hK K
                    clear hz
                    try simp only [Act.put, xA1, xA2, xA3, xA4, xA5, xA6]
                    (refine tkH (i := 2) (v := ?_) rfl ?_ ?_; rotate_left 1; (focus (intro w hSw; (try dsimp only at hSw); go_simp; try (with_reducible rfl))))
                    try simp only [Act.put, xA1, xA2, xA3, xA4, xA5, xA6]
                    (refine tkH (i := 3) (v := ?_) rfl ?_ ?_; rotate_left 1; (focus (intro w hSw; (try dsimp only at hSw); go_simp; try (with_reducible rfl))))
                    try simp only [Act.put, xA1, xA2, xA3, xA4, xA5, xA6]
                    (refine tkH (i := 4) (v := ?_) rfl ?_ ?_; rotate_left 1; (focus (intro w hSw; (try dsimp only at hSw); go_simp; try (with_reducible rfl))))
                    try simp only [Act.put, xA1, xA2, xA3, xA4, xA5, xA6]
                    (refine tkH (i := 5) (v := ?_) rfl ?_ ?_; rotate_left 1; (focus (intro w hSw; (try dsimp only at hSw); go_simp; try (with_reducible rfl))))
                    try simp only [Act.put, xA1, xA2, xA3, xA4, xA5, xA6]
                    (refine tkH (i := 6) (v := ?_) rfl ?_ ?_; rotate_left 1; (focus (intro w hSw; (try dsimp only at hSw); go_simp; try (with_reducible rfl))))
                    try simp only [Act.put, xA1, xA2, xA3, xA4, xA5, xA6]
                    (refine tkH (i := 7) (v := ?_) rfl ?_ ?_; rotate_left 1; (focus (intro w hSw; (try dsimp only at hSw); go_simp; try (with_reducible rfl))))
                    try simp only [Act.put, xA1, xA2, xA3, xA4, xA5, xA6]
                    (refine tkH (i := 8) (v := ?_) rfl ?_ ?_; rotate_left 1; (focus (intro w hSw; (try dsimp only at hSw); go_simp; try (with_reducible rfl))))
                    try simp only [Act.put, xA1, xA2, xA3, xA4, xA5, xA6]
                    (refine tkH (i := 9) (v := ?_) rfl ?_ ?_; rotate_left 1; (focus (intro w hSw; (try dsimp only at hSw); go_simp; try (with_reducible rfl))))
                    try simp only [Act.put, xA1, xA2, xA3, xA4, xA5, xA6]
                    (refine tkH (i := 10) (v := ?_) rfl ?_ ?_; rotate_left 1; (focus (intro w hSw; (try dsimp only at hSw); go_simp; try (with_reducible rfl))))
                    try simp only [Act.put, xA1, xA2, xA3, xA4, xA5, xA6]
                    (refine tkH (i := 11) (v := ?_) rfl ?_ ?_; rotate_left 1; (focus (intro w hSw; (try dsimp only at hSw); go_simp; try (with_reducible rfl))))
                    try simp only [Act.put, xA1, xA2, xA3, xA4, xA5, xA6]
                    (refine tkH (i := 12) (v := ?_) rfl ?_ ?_; rotate_left 1; (focus (intro w hSw; (try dsimp only at hSw); go_simp; try (with_reducible rfl))))
                    try simp only [Act.put, xA1, xA2, xA3, xA4, xA5, xA6]
                    (refine tkH (i := 13) (v := ?_) rfl ?_ ?_; rotate_left 1; (focus (intro w hSw; (try dsimp only at hSw); go_simp; try (with_reducible rfl))))
                    try simp only [Act.put, xA1, xA2, xA3, xA4, xA5, xA6]
                    (refine tkH (i := 14) (v := ?_) rfl ?_ ?_; rotate_left 1; (focus (intro w hSw; (try dsimp only at hSw); go_simp; try (with_reducible rfl))))
                    try simp only [Act.put, xA1, xA2, xA3, xA4, xA5, xA6]
                    (refine tkH (i := 15) (v := ?_) rfl ?_ ?_; rotate_left 1; (focus (intro w hSw; (try dsimp only at hSw); go_simp; try (with_reducible rfl))))
                    try simp only [Act.put, xA1, xA2, xA3, xA4, xA5, xA6]
                    (refine tkH (i := 16) (v := ?_) rfl ?_ ?_; rotate_left 1; (focus (intro w hSw; (try dsimp only at hSw); go_simp; try (with_reducible rfl))))
                    try simp only [Act.put, xA1, xA2, xA3, xA4, xA5, xA6]
                    (refine tkH (i := 17) (v := ?_) rfl ?_ ?_; rotate_left 1; (focus (intro w hSw; (try dsimp only at hSw); go_simp; try (with_reducible rfl))))
                    try simp only [Act.put, xA1, xA2, xA3, xA4, xA5, xA6]
                    (refine tkH (i := 18) (v := ?_) rfl ?_ ?_; rotate_left 1; (focus (intro w hSw; (try dsimp only at hSw); go_simp; try (with_reducible rfl))))
                    try simp only [Act.put, xA1, xA2, xA3, xA4, xA5, xA6]
                    refine wpAnyH_ready (rs := [19]) (by kernel_rfl) (by simp) ?_
                    refine AllReadyH.cons rfl (fun K hK => ?_) AllReadyH.nil
                    go_simp
                    go_at_call 77; refine (HKR2.out V1 (hx.trans hHeld.2.2.2)).mono ?_; rintro e V2 ⟨rfl, hz⟩
                    refine hK.out _ _ ?_ (fun hHeld => ?_)
                    · exact ⟨Ext.cell hz hHeld.1, Ext.cell hz hHeld.2.1, Ext.cell hz hHeld.2.2.1, hHeld.2.2.2.trans hz⟩
                    clear hK K
                    clear hz
                    try simp only [Act.put, xA1, xA2, xA3, xA4, xA5, xA6]
                    (refine tkH (i := 20) (v := ?_) rfl ?_ ?_; rotate_left 1; (focus (intro w hSw; (try dsimp only at hSw); go_simp; try (with_reducible rfl))))
                    try simp only [Act.put, xA1, xA2, xA3, xA4, xA5, xA6]
                    (refine tkH (i := 21) (v := ?_) rfl ?_ ?_; rotate_left 1; (focus (intro w hSw; (try dsimp only at hSw); go_simp; try (with_reducible rfl))))
                    try simp only [Act.put, xA1, xA2, xA3, xA4, xA5, xA6]
                    (refine tkH (i := 22) (v := ?_) rfl ?_ ?_; rotate_left 1; (focus (intro w hSw; (try dsimp only at hSw); go_simp; try (with_reducible rfl))))
                    try simp only [Act.put, xA1, xA2, xA3, xA4, xA5, xA6]
                    (refine tkH (i := 23) (v := ?_) rfl ?_ ?_; rotate_left 1; (focus (intro w hSw; (try dsimp only at hSw); go_simp; try (with_reducible rfl))))
                    try simp only [Act.put, xA1, xA2, xA3, xA4, xA5, xA6]
                    (refine tkH (i := 24) (v := ?_) rfl ?_ ?_; rotate_left 1; (focus (intro w hSw; (try dsimp only at hSw); go_simp; try (with_reducible rfl))))
                    try simp only [Act.put, xA1, xA2, xA3, xA4, xA5, xA6]
                    (refine tkH (i := 25) (v := ?_) rfl ?_ ?_; rotate_left 1; (focus (intro w hSw; (try dsimp only at hSw); go_simp; try (with_reducible rfl))))
                    try simp only [Act.put, xA1, xA2, xA3, xA4, xA5, xA6]
                    (refine tkH (i := 26) (v := ?_) rfl ?_ ?_; rotate_left 1; (focus (intro w hSw; (try dsimp only at hSw); go_simp; try (with_reducible rfl))))
                    try simp only [Act.put, xA1, xA2, xA3, xA4, xA5, xA6]
                    (refine tkH (i := 27) (v := ?_) rfl ?_ ?_; rotate_left 1; (focus (intro w hSw; (try dsimp only at hSw); go_simp; try (with_reducible rfl))))
                    try simp only [Act.put, xA1, xA2, xA3, xA4, xA5, xA6]
                    (refine tkH (i := 28) (v := ?_) rfl ?_ ?_; rotate_left 1; (focus (intro w hSw; (try dsimp only at hSw); go_simp; try (with_reducible rfl))))
                    try simp only [Act.put, xA1, xA2, xA3, xA4, xA5, xA6]
                    refine wpAnyH_done (by kernel_rfl) ?_ _
                    have hzz := hHeld.2.2.2
                    go_wp2_with fail
                    go_ret
                    exact ⟨by rw [HE.out]; rfl, hx.trans hzz⟩
                · have hl := HLB.out
                  rw [HI1.out, decide_eq_true hnx, decide_eq_false hny] at hl
                  have HL := Lib.hid hl
                  have KR := HKR.out
                  simp only [decide_eq_false hny] at KR
                  have HKR2 := Lib.hid KR
                  clear hl KR hnx hny
                  go_upto_region 10 with fail
                  refine wp_region_held_drew (S := fun W' => W'.cell? ⟨w.heap.size, 0, none⟩ = some (.slice aa P.ts.length ca) ∧ W'.cell? ⟨w.heap.size, 1, none⟩ = some (.slice ab P.ss.length cb) ∧ W'.cell? ⟨b2, o2 + k, none⟩ = some (.int .i64 n) ∧ Ext wr W') (by kernel_rfl) ?_ (fun hHeld => ?_)
                  · exact ⟨d0, d1, cn, Ext.drew (Ext.refl _)⟩
                  obtain ⟨V0, hV0⟩ : ∃ V, World.drew wr = V := ⟨_, rfl⟩
                  rw [hV0] at hHeld ⊢
                  clear hV0
                  (refine tkH (i := 0) (v := ?_) rfl ?_ ?_; rotate_left 1; (focus (intro w hSw; (try dsimp only at hSw); go_simp; try (with_reducible rfl))))
                  try simp only [Act.put, xA1, xA2, xA4, xA5, xA6]
                  refine wpAnyH_ready (rs := [1]) (by kernel_rfl) (by simp) ?_
                  refine AllReadyH.cons rfl (fun K hK => ?_) AllReadyH.nil
                  go_simp
                  go_at_call 87; refine (HKI.out V0).mono ?_; rintro e V1 ⟨rfl, hz⟩
                  refine hK.out _ _ ?_ (fun hHeld => ?_)
                  · exact ⟨Ext.cell hz hHeld.1, Ext.cell hz hHeld.2.1, Ext.cell hz hHeld.2.2.1, hHeld.2.2.2.trans hz⟩
                  clear hK K
                  clear hz
                  try simp only [Act.put, xA1, xA2, xA3, xA4, xA5, xA6]
                  (refine tkH (i := 2) (v := ?_) rfl ?_ ?_; rotate_left 1; (focus (intro w hSw; (try dsimp only at hSw); go_simp; try (with_reducible rfl))))
                  try simp only [Act.put, xA1, xA2, xA3, xA4, xA5, xA6]
                  (refine tkH (i := 3) (v := ?_) rfl ?_ ?_; rotate_left 1; (focus (intro w hSw; (try dsimp only at hSw); go_simp; try (with_reducible rfl))))
                  try simp only [Act.put, xA1, xA2, xA3, xA4, xA5, xA6]
                  (refine tkH (i := 4) (v := ?_) rfl ?_ ?_; rotate_left 1; (focus (intro w hSw; (try dsimp only at hSw); go_simp; try (with_reducible rfl))))
                  try simp only [Act.put, xA1, xA2, xA3, xA4, xA5, xA6]
                  (refine tkH (i := 5) (v := ?_) rfl ?_ ?_; rotate_left 1; (focus (intro w hSw; (try dsimp only at hSw); go_simp; try (with_reducible rfl))))
                  try simp only [Act.put, xA1, xA2, xA3, xA4, xA5, xA6]
                  (refine tkH (i := 6) (v := ?_) rfl ?_ ?_; rotate_left 1; (focus (intro w hSw; (try dsimp only at hSw); go_simp; try (with_reducible rfl))))
                  try simp only [Act.put, xA1, xA2, xA3, xA4, xA5, xA6]
                  (refine tkH (i := 7) (v := ?_) rfl ?_ ?_; rotate_left 1; (focus (intro w hSw; (try dsimp only at hSw); go_simp; try (with_reducible rfl))))
                  try simp only [Act.put, xA1, xA2, xA3, xA4, xA5, xA6]
                  (refine tkH (i := 8) (v := ?_) rfl ?_ ?_; rotate_left 1; (focus (intro w hSw; (try dsimp only at hSw); go_simp; try (with_reducible rfl))))
                  try simp only [Act.put, xA1, xA2, xA3, xA4, xA5, xA6]
                  (refine tkH (i := 9) (v := ?_) rfl ?_ ?_; rotate_left 1; (focus (intro w hSw; (try dsimp only at hSw); go_simp; try (with_reducible rfl))))
                  try simp only [Act.put, xA1, xA2, xA3, xA4, xA5, xA6]
                  (refine tkH (i := 10) (v := ?_) rfl ?_ ?_; rotate_left 1; (focus (intro w hSw; (try dsimp only at hSw); go_simp; try (with_reducible rfl))))
                  try simp only [Act.put, xA1, xA2, xA3, xA4, xA5, xA6]
                  (refine tkH (i := 11) (v := ?_) rfl ?_ ?_; rotate_left 1; (focus (intro w hSw; (try dsimp only at hSw); go_simp; try (with_reducible rfl))))
                  try simp only [Act.put, xA1, xA2, xA3, xA4, xA5, xA6]
                  (refine tkH (i := 12) (v := ?_) rfl ?_ ?_; rotate_left 1; (focus (intro w hSw; (try dsimp only at hSw); go_simp; try (with_reducible rfl))))
                  try simp only [Act.put, xA1, xA2, xA3, xA4, xA5, xA6]
                  (refine tkH (i := 13) (v := ?_) rfl ?_ ?_; rotate_left 1; (focus (intro w hSw; (try dsimp only at hSw); go_simp; try (with_reducible rfl))))
                  try simp only [Act.put, xA1, xA2, xA3, xA4, xA5, xA6]
                  (refine tkH (i := 14) (v := ?_) rfl ?_ ?_; rotate_left 1; (focus (intro w hSw; (try dsimp only at hSw); go_simp; try (with_reducible rfl))))
                  try simp only [Act.put, xA1, xA2, xA3, xA4, xA5, xA6]
                  (refine tkH (i := 15) (v := ?_) rfl ?_ ?_; rotate_left 1; (focus (intro w hSw; (try dsimp only at hSw); go_simp; try (with_reducible rfl))))
                  try simp only [Act.put, xA1, xA2, xA3, xA4, xA5, xA6]
                  (refine tkH (i := 16) (v := ?_) rfl ?_ ?_; rotate_left 1; (focus (intro w hSw; (try dsimp only at hSw); go_simp; try (with_reducible rfl))))
                  try simp only [Act.put, xA1, xA2, xA3, xA4, xA5, xA6]
                  (refine tkH (i := 17) (v := ?_) rfl ?_ ?_; rotate_left 1; (focus (intro w hSw; (try dsimp only at hSw); go_simp; try (with_reducible rfl))))
                  try simp only [Act.put, xA1, xA2, xA3, xA4, xA5, xA6]
                  (refine tkH (i := 18) (v := ?_) rfl ?_ ?_; rotate_left 1; (focus (intro w hSw; (try dsimp only at hSw); go_simp; try (with_reducible rfl))))
                  try simp only [Act.put, xA1, xA2, xA3, xA4, xA5, xA6]
                  refine wpAnyH_ready (rs := [19]) (by kernel_rfl) (by simp) ?_
                  refine AllReadyH.cons rfl (fun K hK => ?_) AllReadyH.nil
                  go_simp
                  go_at_call 77; refine (HKR2.out V1 (hx.trans hHeld.2.2.2)).mono ?_; rintro e V2 ⟨rfl, hz⟩
                  refine hK.out _ _ ?_ (fun hHeld => ?_)
                  · exact ⟨Ext.cell hz hHeld.1, Ext.cell hz hHeld.2.1, Ext.cell hz hHeld.2.2.1, hHeld.2.2.2.trans hz⟩
                  clear hK K
                  clear hz
                  try simp only [Act.put, xA1, xA2, xA3, xA4, xA5, xA6]
                  (refine tkH (i := 20) (v := ?_) rfl ?_ ?_; rotate_left 1; (focus (intro w hSw; (try dsimp only at hSw); go_simp; try (with_reducible rfl))))
                  try simp only [Act.put, xA1, xA2, xA3, xA4, xA5, xA6]
                  (refine skH (i := 21) rfl ?_)
                  try simp only [Act.put, xA1, xA2, xA3, xA4, xA5, xA6]
                  (refine skH (i := 22) rfl ?_)
                  try simp only [Act.put, xA1, xA2, xA3, xA4, xA5, xA6]
                  (refine skH (i := 23) rfl ?_)
                  try simp only [Act.put, xA1, xA2, xA3, xA4, xA5, xA6]
                  (refine skH (i := 24) rfl ?_)
                  try simp only [Act.put, xA1, xA2, xA3, xA4, xA5, xA6]
                  (refine skH (i := 25) rfl ?_)
                  try simp only [Act.put, xA1, xA2, xA3, xA4, xA5, xA6]
                  (refine skH (i := 26) rfl ?_)
                  try simp only [Act.put, xA1, xA2, xA3, xA4, xA5, xA6]
                  (refine tkH (i := 27) (v := ?_) rfl ?_ ?_; rotate_left 1; (focus (intro w hSw; (try dsimp only at hSw); go_simp; try (with_reducible rfl))))
                  try simp only [Act.put, xA1, xA2, xA3, xA4, xA5, xA6]
                  (refine tkH (i := 28) (v := ?_) rfl ?_ ?_; rotate_left 1; (focus (intro w hSw; (try dsimp only at hSw); go_simp; try (with_reducible rfl))))
                  try simp only [Act.put, xA1, xA2, xA3, xA4, xA5, xA6]
                  refine wpAnyH_done (by kernel_rfl) ?_ _
                  have hzz := hHeld.2.2.2
                  go_wp2_with fail
                  go_roundw
                  case rel => exact ⟨k + 1, by omega, by go_num, Lib.hid (fun j hj => by
                      by_cases e : j = k
                      · rw [e, HL.out]; rfl
                      · exact HJ.out j (by omega)), hy.trans hzz⟩
                  case measure => simp [intOf]; omega
              · have hgt : n > x + 1 := by omega
                have hl := HLB.out
                rw [HI1.out, decide_eq_false hnx, Bool.and_false, Bool.false_and] at hl
                have HE := Lib.hid (HF1.out H0.out k hkt hl)
                clear hl hnx
                go_upto_region 10 with fail
                refine wp_region_held_drew (S := fun W' => W'.cell? ⟨w.heap.size, 0, none⟩ = some (.slice aa P.ts.length ca) ∧ W'.cell? ⟨w.heap.size, 1, none⟩ = some (.slice ab P.ss.length cb) ∧ W'.cell? ⟨b2, o2 + k, none⟩ = some (.int .i64 n) ∧ Ext wr W') (by kernel_rfl) ?_ (fun hHeld => ?_)
                · exact ⟨d0, d1, cn, Ext.drew (Ext.refl _)⟩
                obtain ⟨V0, hV0⟩ : ∃ V, World.drew wr = V := ⟨_, rfl⟩
                rw [hV0] at hHeld ⊢
                clear hV0
                (refine tkH (i := 0) (v := ?_) rfl ?_ ?_; rotate_left 1; (focus (intro w hSw; (try dsimp only at hSw); go_simp; try (with_reducible rfl))))
                try simp only [Act.put, xA1, xA2, xA4, xA5, xA6]
                refine wpAnyH_ready (rs := [1]) (by kernel_rfl) (by simp) ?_
                refine AllReadyH.cons rfl (fun K hK => ?_) AllReadyH.nil
                go_simp
                go_at_call 87; refine (HKI.out V0).mono ?_; rintro e V1 ⟨rfl, hz⟩
                refine hK.out _ _ ?_ (fun hHeld => ?_)
                · exact ⟨Ext.cell hz hHeld.1, Ext.cell hz hHeld.2.1, Ext.cell hz hHeld.2.2.1, hHeld.2.2.2.trans hz⟩
                clear hK K
                clear hz
                try simp only [Act.put, xA1, xA2, xA3, xA4, xA5, xA6]
                (refine tkH (i := 2) (v := ?_) rfl ?_ ?_; rotate_left 1; (focus (intro w hSw; (try dsimp only at hSw); go_simp; try (with_reducible rfl))))
                try simp only [Act.put, xA1, xA2, xA3, xA4, xA5, xA6]
                (refine tkH (i := 3) (v := ?_) rfl ?_ ?_; rotate_left 1; (focus (intro w hSw; (try dsimp only at hSw); go_simp; try (with_reducible rfl))))
                try simp only [Act.put, xA1, xA2, xA3, xA4, xA5, xA6]
                (refine tkH (i := 4) (v := ?_) rfl ?_ ?_; rotate_left 1; (focus (intro w hSw; (try dsimp only at hSw); go_simp; try (with_reducible rfl))))
                try simp only [Act.put, xA1, xA2, xA3, xA4, xA5, xA6]
                (refine tkH (i := 5) (v := ?_) rfl ?_ ?_; rotate_left 1; (focus (intro w hSw; (try dsimp only at hSw); go_simp; try (with_reducible rfl))))
                try simp only [Act.put, xA1, xA2, xA3, xA4, xA5, xA6]
                (refine tkH (i := 6) (v := ?_) rfl ?_ ?_; rotate_left 1; (focus (intro w hSw; (try dsimp only at hSw); go_simp; try (with_reducible rfl))))
                try simp only [Act.put, xA1, xA2, xA3, xA4, xA5, xA6]
                (refine tkH (i := 7) (v := ?_) rfl ?_ ?_; rotate_left 1; (focus (intro w hSw; (try dsimp only at hSw); go_simp; try (with_reducible rfl))))
                try simp only [Act.put, xA1, xA2, xA3, xA4, xA5, xA6]
                (refine tkH (i := 8) (v := ?_) rfl ?_ ?_; rotate_left 1; (focus (intro w hSw; (try dsimp only at hSw); go_simp; try (with_reducible rfl))))
                try simp only [Act.put, xA1, xA2, xA3, xA4, xA5, xA6]
                (refine tkH (i := 9) (v := ?_) rfl ?_ ?_; rotate_left 1; (focus (intro w hSw; (try dsimp only at hSw); go_simp; try (with_reducible rfl))))
                try simp only [Act.put, xA1, xA2, xA3, xA4, xA5, xA6]
                (refine tkH (i := 10) (v := ?_) rfl ?_ ?_; rotate_left 1; (focus (intro w hSw; (try dsimp only at hSw); go_simp; try (with_reducible rfl))))
                try simp only [Act.put, xA1, xA2, xA3, xA4, xA5, xA6]
                (refine tkH (i := 11) (v := ?_) rfl ?_ ?_; rotate_left 1; (focus (intro w hSw; (try dsimp only at hSw); go_simp; try (with_reducible rfl))))
                try simp only [Act.put, xA1, xA2, xA3, xA4, xA5, xA6]
                (refine tkH (i := 12) (v := ?_) rfl ?_ ?_; rotate_left 1; (focus (intro w hSw; (try dsimp only at hSw); go_simp; try (with_reducible rfl))))
                try simp only [Act.put, xA1, xA2, xA3, xA4, xA5, xA6]
                (refine skH (i := 13) rfl ?_)
                try simp only [Act.put, xA1, xA2, xA3, xA4, xA5, xA6]
                (refine skH (i := 14) rfl ?_)
                try simp only [Act.put, xA1, xA2, xA3, xA4, xA5, xA6]
                (refine skH (i := 15) rfl ?_)
                try simp only [Act.put, xA1, xA2, xA3, xA4, xA5, xA6]
                (refine skH (i := 16) rfl ?_)
                try simp only [Act.put, xA1, xA2, xA3, xA4, xA5, xA6]
                (refine skH (i := 17) rfl ?_)
                try simp only [Act.put, xA1, xA2, xA3, xA4, xA5, xA6]
                (refine skH (i := 18) rfl ?_)
                try simp only [Act.put, xA1, xA2, xA3, xA4, xA5, xA6]
                (refine skH (i := 19) rfl ?_)
                try simp only [Act.put, xA1, xA2, xA3, xA4, xA5, xA6]
                (refine skH (i := 20) rfl ?_)
                try simp only [Act.put, xA1, xA2, xA3, xA4, xA5, xA6]
                (refine skH (i := 21) rfl ?_)
                try simp only [Act.put, xA1, xA2, xA3, xA4, xA5, xA6]
                (refine skH (i := 22) rfl ?_)
                try simp only [Act.put, xA1, xA2, xA3, xA4, xA5, xA6]
                (refine skH (i := 23) rfl ?_)
                try simp only [Act.put, xA1, xA2, xA3, xA4, xA5, xA6]
                (refine skH (i := 24) rfl ?_)
                try simp only [Act.put, xA1, xA2, xA3, xA4, xA5, xA6]
                (refine skH (i := 25) rfl ?_)
                try simp only [Act.put, xA1, xA2, xA3, xA4, xA5, xA6]
                (refine skH (i := 26) rfl ?_)
                try simp only [Act.put, xA1, xA2, xA3, xA4, xA5, xA6]
                (refine skH (i := 27) rfl ?_)
                try simp only [Act.put, xA1, xA2, xA3, xA4, xA5, xA6]
                (refine tkH (i := 28) (v := ?_) rfl ?_ ?_; rotate_left 1; (focus (intro w hSw; (try dsimp only at hSw); go_simp; try (with_reducible rfl))))
                try simp only [Act.put, xA1, xA2, xA3, xA4, xA5, xA6]
                refine wpAnyH_done (by kernel_rfl) ?_ _
                have hzz := hHeld.2.2.2
                go_wp2_with fail
                go_ret
                exact ⟨by rw [HE.out]; rfl, hx.trans hzz⟩
          · obtain rfl : k = L.length := by omega
            have e0 : wr.cell? ⟨w.heap.size + 1, 0, none⟩ = some (.slice ag g.length cg) := (qf3.ext hy).cell 0
            have q4 := q3.ext hy
            have qf4 := qf3.ext hy
            have HJ1 := HJ
            clear HJ hk hlk d0 d1 HKCN q3 qf3
            have HT0 := Lib.hid hok.us
            have HUL := Lib.hid hok.ul
            have hxx := hx
            go_wp2_with fail
            go_loopw [76] (fun i wt => ∃ k : Nat, k ≤ g.length ∧ i = .int .i64 k ∧ Hid (∀ j, j < k → loI P g L j = true) ∧ Cls w.heap.size 25 #[.slice aa P.ts.length ca, .slice ab P.ss.length cb] wt ∧ Cls (w.heap.size + 1) 71 #[.slice ag g.length cg, .slice al L.length cl] wt ∧ Ext w wt) (fun i _ => g.length - (intOf i).toNat)
            case atStart => exact ⟨0, Nat.zero_le _, rfl, Lib.hid (fun j h => by omega), q4, qf4, hxx⟩
            case round =>
              clear e0 q4 qf4 hxx hx hy
              obtain ⟨k, hk, rfl, HJ, q, qf, hx⟩ := hrel
              by_cases hlk : k < g.length
              · have hks : k < P.ss.length := by have := HGS.out; omega
                obtain ⟨b1, o1, hae, c0⟩ := (hg.ext hx).get k hlk
                subst hae
                obtain ⟨b2, o2, ua, uc, hab, s0, s1, hul, hU⟩ := (hT.s.ext hx).get k hks
                subst hab
                have hlo := loI_at (L := L) hlk hks
                have hus1 := HT0.out _ (List.getElem_mem hks)
                have hgu := HSV.out.us k hlk hks
                have hul2 := HUL.out _ (List.getElem_mem hks)
                have hti : g[k] ≠ 0 → ∃ t ∈ P.ts, t.id = g[k] := fun h => by
                  rcases hgu with h1 | h1
                  · exact absurd h1 h
                  · exact hus1 _ h1
                obtain ⟨x, hxx⟩ : ∃ x, g[k] = x := ⟨_, rfl⟩
                obtain ⟨us, huu⟩ : ∃ us, P.ss[k].us = us := ⟨_, rfl⟩
                rw [hxx] at c0 hlo hti
                rw [huu] at s1 hul hU hlo hus1 hul2
                obtain ⟨low, hlow⟩ : ∃ low, lowF P L x = low := ⟨_, rfl⟩
                rw [hlow] at hlo
                obtain ⟨F, hF⟩ : ∃ F, ixF (fun u => decide (lbOf P L u < low)) 0 us = F := ⟨_, rfl⟩
                have hFlo : loI P g L k = decide (F < 0) := by
                  rw [hlo, ← hF, Bool.eq_iff_iff, List.all_eq_true, decide_eq_true_eq, ixF_none]
                  constructor
                  · intro h u hu
                    have := of_decide_eq_true (h u hu)
                    exact decide_eq_false (by omega)
                  · intro h u hu
                    have := of_decide_eq_false (h u hu)
                    exact decide_eq_true (by omega)
                have KX := fun Bl ua uc W (hx' : Ext w W) (h1 : Cls (w.heap.size + 1) 71 #[.slice (some ⟨b1, o1, none⟩) g.length cg, .slice al L.length cl] W) (h2 : Cls w.heap.size 25 #[.slice aa P.ts.length ca, .slice (some ⟨b2, o2, none⟩) P.ss.length cb] W) (h3 : Cls Bl 3 #[.int .i64 low] W) (h4 : IntsAt W (.slice ua us.length uc) us) => ckIx_any (w.heap.size + 1) w.heap.size Bl _ _ _ _ _ P L us hok HLL.out low hus1 (by omega) W h1 h2 h3 (hT.t.ext hx') (hL.ext hx') h4
                simp only [hF] at KX
                have HKX := Lib.hid KX
                have HFLO := Lib.hid hFlo
                have HLOW := Lib.hid hlow
                have HTI := Lib.hid hti
                have HUS := Lib.hid huu
                have d0 : wr.cell? ⟨w.heap.size, 0, none⟩ = some (.slice aa P.ts.length ca) := q.cell 0
                have d1 : wr.cell? ⟨w.heap.size, 1, none⟩ = some (.slice (some ⟨b2, o2, none⟩) P.ss.length cb) := q.cell 1
                have e1 : wr.cell? ⟨w.heap.size + 1, 1, none⟩ = some (.slice al L.length cl) := qf.cell 1
                clear hlo hgu hti hxx huu hlow hF hFlo KX
                obtain ⟨PB, hPB⟩ : ∃ PB, wr.heap.size = PB := ⟨_, rfl⟩
                obtain ⟨Y, hY⟩ : ∃ Y, wr.alloc (.cells #[.int .i64 41] 3) = Y := ⟨_, rfl⟩
                have hxY : Ext wr Y := by rw [← hY]; exact (by repeat (first | exact Ext.refl _ | assumption | refine Ext.alloc ?_ _ | refine Ext.drew ?_ | refine Ext.drewN _ ?_ | refine Ext.trans ?_ (by assumption)))
                have hbY : Cls PB 3 #[.int .i64 41] Y := by rw [← hY]; exact Cls.newAt _ _ _ hPB.symm
                have qY := q.ext hxY
                have qfY := qf.ext hxY
                have hx' := hx.trans hxY
                have hUY := hU.ext hxY
                replace d0 := hxY.cell d0
                replace d1 := hxY.cell d1
                replace e1 := hxY.cell e1
                replace s1 := hxY.cell s1
                have hPBx : w.heap.size + 1 < PB := by rw [← hPB]; exact qf.lt
                clear q qf hU hx hxY s0
                by_cases hx0 : x = 0
                · have hbx : (x != 0) = false := by simp [hx0]
                  have h41 : low = 41 := by rw [← HLOW.out]; unfold lowF; rw [if_pos hx0]
                  subst h41
                  clear hx0
                  go_wp2_with fail
                  refine (HKX.out PB _ _ _ hx' qfY qY hbY hUY).mono ?_
                  rintro e w5 ⟨rfl, hz⟩
                  have hxz := hx'.trans hz
                  have q5 := qY.ext hz
                  have qf5 := qfY.ext hz
                  by_cases hF : F ≥ 0
                  · have HE := Lib.hid (HF2.out H0.out k hlk (by rw [HFLO.out]; exact decide_eq_false (by omega)))
                    go_wp2_with fail
                    go_ret
                    exact ⟨by rw [HE.out]; rfl, hxz⟩
                  · have HL := Lib.hid (show loI P g L k = true by rw [HFLO.out]; exact decide_eq_true (by omega))
                    go_wp2_with fail
                    go_roundw
                    case rel => exact ⟨k + 1, by omega, by go_num, Lib.hid (fun j hj => by
                        by_cases e : j = k
                        · rw [e]; exact HL.out
                        · exact HJ.out j (by omega)), q5, qf5, hxz⟩
                    case measure => simp [intOf]; omega
                · have hbx : (x != 0) = true := by simp [hx0]
                  obtain ⟨kk, hkk, htx, _, hlbx⟩ := lbOf_at hok HLL.out (HTI.out hx0)
                  have hlw : lowF P L x = lbOf P L x := by unfold lowF; rw [if_neg hx0]
                  rw [HLOW.out, hlbx] at hlw
                  obtain ⟨b3, o3, hae3, cz⟩ := (hL.ext hx').get kk hkk
                  rw [← hlw] at cz
                  subst hae3
                  have KT := fun W (h : Ext w W) => tn_any _ (.slice (some ⟨b2, o2, none⟩) P.ss.length cb) P x W (hT.t.ext h) (by omega)
                  simp only [htx] at KT
                  have HKT := Lib.hid KT
                  have hkki : (kk : Int) < L.length := by omega
                  clear hx0 hlw hlbx htx KT
                  go_upto_region 18 with fail
                  refine wp_region_last (z := 7) (S := fun W' => W'.cell? ⟨w.heap.size + 1, 1, none⟩ = some (.slice (some ⟨b3, o3, none⟩) L.length cl) ∧ W'.cell? ⟨w.heap.size, 0, none⟩ = some (.slice aa P.ts.length ca) ∧ W'.cell? ⟨w.heap.size, 1, none⟩ = some (.slice (some ⟨b2, o2, none⟩) P.ss.length cb) ∧ W'.cell? ⟨b3, o3 + kk, none⟩ = some (.int .i64 low) ∧ Ext Y W') (by kernel_rfl) ?_ (fun hHeld => ?_)
                  · exact ⟨e1, d0, d1, cz, Ext.drew (Ext.refl _)⟩
                  obtain ⟨V0, hV0⟩ : ∃ V, World.drew Y = V := ⟨_, rfl⟩
                  rw [hV0] at hHeld ⊢
                  clear hV0
                  (refine tkL (i := 0) (v := ?_) rfl ?_ ?_; rotate_left 1; (focus (intro w hSw; (try dsimp only at hSw); go_simp; try (with_reducible rfl))))
                  try simp only [Act.put, xA1, xA2, xA4, xA5, xA6]
                  (refine tkL (i := 1) (v := ?_) rfl ?_ ?_; rotate_left 1; (focus (intro w hSw; (try dsimp only at hSw); go_simp; try (with_reducible rfl))))
                  try simp only [Act.put, xA1, xA2, xA3, xA4, xA5, xA6]
                  (refine tkL (i := 2) (v := ?_) rfl ?_ ?_; rotate_left 1; (focus (intro w hSw; (try dsimp only at hSw); go_simp; try (with_reducible rfl))))
                  try simp only [Act.put, xA1, xA2, xA3, xA4, xA5, xA6]
                  (refine tkL (i := 3) (v := ?_) rfl ?_ ?_; rotate_left 1; (focus (intro w hSw; (try dsimp only at hSw); go_simp; try (with_reducible rfl))))
                  try simp only [Act.put, xA1, xA2, xA3, xA4, xA5, xA6]
                  refine wpAnyL_one (i := 4) (by kernel_rfl) rfl (fun K hK => ?_)
                  go_simp
                  go_at_call 72; refine (HKT.out V0 (hx'.trans hHeld.2.2.2.2)).mono ?_; rintro e V1 ⟨rfl, hz⟩
                  refine hK.out _ _ (fun _ => ?_) (fun hHeld => ?_)
                  · exact ⟨Ext.cell hz hHeld.1, Ext.cell hz hHeld.2.1, Ext.cell hz hHeld.2.2.1, Ext.cell hz hHeld.2.2.2.1, hHeld.2.2.2.2.trans hz⟩
                  replace hHeld := hHeld (by decide)
                  clear hK K
                  clear hz
                  try simp only [Act.put, xA1, xA2, xA3, xA4, xA5, xA6]
                  (refine tkL (i := 5) (v := ?_) rfl ?_ ?_; rotate_left 1; (focus (intro w hSw; (try dsimp only at hSw); go_simp; try (with_reducible rfl))))
                  try simp only [Act.put, xA1, xA2, xA3, xA4, xA5, xA6]
                  (refine tkL (i := 6) (v := ?_) rfl ?_ ?_; rotate_left 1; (focus (intro w hSw; (try dsimp only at hSw); go_simp; try (with_reducible rfl))))
                  try simp only [Act.put, xA1, xA2, xA3, xA4, xA5, xA6]
                  refine wpAnyL_one (i := 7) (by kernel_rfl) rfl (fun K hK => ?_)
                  have k2 := (hbY.ext hHeld.2.2.2.2).frozen 0
                  have k3 := (hbY.ext hHeld.2.2.2.2).cell 0
                  go_simp
                  refine hK.out _ _ (fun h => absurd rfl h) (fun _ => ?_)
                  clear hK K
                  try simp only [Act.put, xA1, xA2, xA3, xA4, xA5, xA6]
                  refine wpAnyL_done (by kernel_rfl) ?_ _
                  have hzz := hHeld.2.2.2.2
                  have hx6 := (hx'.trans hzz).setCell (p := ⟨PB, 0, none⟩) (by simp; omega) (.int .i64 low)
                  have q6 := (qY.ext hzz).other (B' := PB) (by omega) 0 (.int .i64 low)
                  have qf6 := (qfY.ext hzz).other (B' := PB) (by omega) 0 (.int .i64 low)
                  have hb6 := (hbY.ext hzz).set 0 (.int .i64 low)
                  have hU0 := hT.s.get k hks
                  have hT6 := hT.ext hx6
                  obtain ⟨b5, o5, ua5, uc5, hab5, _, s5, _, hU5⟩ := hT6.s.get k hks
                  simp only [Option.some.injEq, Addr.mk.injEq, and_true] at hab5
                  obtain ⟨rfl, rfl⟩ := hab5
                  rw [HUS.out] at s5 hU5
                  obtain ⟨W6, hW6⟩ : ∃ W6, World.setCell V1 ⟨PB, 0, none⟩ (.int .i64 low) = W6 := ⟨_, rfl⟩
                  rw [hW6] at hx6 q6 qf6 hb6 s5 hU5 ⊢
                  have g0 : W6.cell? ⟨w.heap.size, 0, none⟩ = some (.slice aa P.ts.length ca) := q6.cell 0
                  have g1 : W6.cell? ⟨w.heap.size, 1, none⟩ = some (.slice (some ⟨b2, o2, none⟩) P.ss.length cb) := q6.cell 1
                  clear hW6 hU0 hT6 hHeld hzz d0 d1 e1 s1 cz hbY qY qfY hUY
                  go_wp2_with fail
                  refine (HKX.out PB _ _ _ hx6 qf6 q6 hb6 hU5).mono ?_
                  rintro e w5 ⟨rfl, hz⟩
                  have hxz := hx6.trans hz
                  have q5 := q6.ext hz
                  have qf5 := qf6.ext hz
                  by_cases hF : F ≥ 0
                  · have HE := Lib.hid (HF2.out H0.out k hlk (by rw [HFLO.out]; exact decide_eq_false (by omega)))
                    go_wp2_with fail
                    go_ret
                    exact ⟨by rw [HE.out]; rfl, hxz⟩
                  · have HL := Lib.hid (show loI P g L k = true by rw [HFLO.out]; exact decide_eq_true (by omega))
                    go_wp2_with fail
                    go_roundw
                    case rel => exact ⟨k + 1, by omega, by go_num, Lib.hid (fun j hj => by
                        by_cases e : j = k
                        · rw [e]; exact HL.out
                        · exact HJ.out j (by omega)), q5, qf5, hxz⟩
                    case measure => simp [intOf]; omega
              · obtain rfl : k = g.length := by omega
                have hE := HFT.out H0.out trivial HLL.out (fun i hi => HJ1.out i (by rw [HLL.out]; exact hi)) HJ.out
                have HE := Lib.hid hE
                clear hE
                go_wp2_with fail
                go_ret
                exact ⟨by rw [HE.out]; rfl, hx⟩
      · have hli : ((L.length : Int) != P.ts.length) = true := by
          have : ¬ (L.length : Int) = P.ts.length := by omega
          simp [this]
        have HE := Lib.hid (HFL.out H0.out hlL)
        clear hlL
        go_wp2_with fail
        go_ret
        exact ⟨by rw [HE.out]; rfl, hx2⟩
  · have HE := Lib.hid (HFE.out h0)
    have hb : (C != 0) = true := by simp [h0]
    clear h0
    go_wp2_with fail
    go_ret
    exact ⟨by rw [HE.out]; rfl, hx⟩
end Go.Proofs.Ytiofdfjcaklmcaa
