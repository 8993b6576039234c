/- Spread of the program: the least and the greatest count of a tenant in fairest sharings. -/
import Derived.Test.YtiofdfjcaklmcaaFSu
import Derived.Test.YtiofdfjcaklmcaaFPb
namespace Go.Proofs.Ytiofdfjcaklmcaa
open Go.RowKit Go.Shelf Go.Maps

/-- what stands while the ways are looked at -/
structure SpdA (w w5 : World) (SB : Nat) (a b : Value) (W : World) (s : Int × Int) : Prop where
  bx : Cls w.heap.size 25 #[a, b] W
  rb : Cls (w.heap.size + 1) 29 #[.int .i64 0, .int .i64 0] W
  sb : Cls SB 29 #[.int .i64 s.1, .int .i64 s.2] W
  ex : Ext w5 W
theorem SpdA.ext {w w5 W W' : World} {SB : Nat} {a b : Value} {s : Int × Int} (h : SpdA w w5 SB a b W s) (x : Ext W W') : SpdA w w5 SB a b W' s := ⟨h.bx.ext x, h.rb.ext x, h.sb.ext x, h.ex.trans x⟩
theorem SpdA.grown {w w5 W W' : World} {SB r : Nat} {a b : Value} {s : Int × Int} {o : Obj} (h : SpdA w w5 SB a b W s) (hg : W.grownBy W' (some r)) (hr : w5.heap.size ≤ r) (ho : W.heap[r]? = some o) (hc : o.isCells = false) : SpdA w w5 SB a b W' s :=
  have hne : ∀ {c : Nat} {t : TypeId} {cs : Array Value}, Cls c t cs W → some c ≠ some r := fun hcl e => by
    obtain rfl := Option.some.inj e
    exact not_cls ho hc _ hcl
  ⟨h.bx.kept hg (hne h.bx), h.rb.kept hg (hne h.rb), h.sb.kept hg (hne h.sb), h.ex.grown hg hr⟩
theorem SpdA.set {w w5 W : World} {SB : Nat} {a b : Value} {s : Int × Int} (h : SpdA w w5 SB a b W s) (h1 : w.heap.size + 1 < SB) (h2 : w5.heap.size ≤ SB) (x y : Int) : SpdA w w5 SB a b ((W.setCell ⟨SB, 0, none⟩ (.int .i64 x)).setCell ⟨SB, 1, none⟩ (.int .i64 y)) (x, y) :=
  ⟨(h.bx.other (by omega) 0 _).other (by omega) 1 _, (h.rb.other (by omega) 0 _).other (by omega) 1 _, (h.sb.set 0 (.int .i64 x)).set 1 (.int .i64 y), (h.ex.setCell (p := ⟨SB, 0, none⟩) h2 _).setCell (p := ⟨SB, 1, none⟩) h2 _⟩
theorem filter_lt {α : Type} (p q : α → Bool) : ∀ (l : List α), (∀ x ∈ l, q x = true → p x = true) → (∃ x ∈ l, p x = true ∧ q x = false) → (l.filter q).length < (l.filter p).length := by
  have hle : ∀ (l : List α), (∀ x ∈ l, q x = true → p x = true) → (l.filter q).length ≤ (l.filter p).length := by
    intro l
    induction l with
    | nil => intro _; exact Nat.le_refl _
    | cons x l ih =>
      intro h
      have i := ih (fun y hy => h y (by simp [hy]))
      rw [List.filter_cons, List.filter_cons]
      have hx := h x (by simp)
      cases hq : q x <;> cases hp : p x <;> simp_all <;> omega
  intro l
  induction l with
  | nil => rintro _ ⟨x, hx, _⟩; cases hx
  | cons y l ih =>
    rintro h ⟨x, hx, h1, h2⟩
    have i := hle l (fun z hz => h z (by simp [hz]))
    rw [List.filter_cons, List.filter_cons]
    rcases List.mem_cons.1 hx with rfl | hx
    · rw [if_neg (by rw [h2]; decide), if_pos h1, List.length_cons]; omega
    · have i2 := ih (fun z hz => h z (by simp [hz])) ⟨x, hx, h1, h2⟩
      have hy := h y (by simp)
      cases hq : q y <;> cases hp : p y <;> simp_all <;> omega
def leftK (L : List (Int × Value)) (d : List Int) : Nat := ((L.map (·.1)).filter (fun x => !decide (x ∈ d))).length
theorem leftK_lt {L : List (Int × Value)} {d : List Int} {k : Int} (h : k ∈ L.map (·.1)) (hd : k ∉ d) : leftK L (d ++ [k]) < leftK L d :=
  filter_lt _ _ _ (fun x _ hx => by simp at hx ⊢; exact hx.1) ⟨k, h, by simp [hd], by simp⟩
theorem FndR.mem {P : Po} {n₀ : Nat} {W : World} {l : List (Int × Value)} {F : Fnd} (h : FndR P n₀ W l F) (hn : (F.map (·.1)).Nodup) {r : Int} {v : Value} (hm : (r, v) ∈ l) : ∃ wy, wayTo F r = some wy ∧ (r, wy) ∈ F ∧ RowS n₀ v (shW P wy) W := by
  have hk : r ∈ F.map (·.1) := by rw [← h.keys]; exact List.mem_map.2 ⟨_, hm, rfl⟩
  obtain ⟨q, hq, rfl⟩ := List.mem_map.1 hk
  have h1 := wayTo_mem hn q hq
  obtain ⟨v', h2, h3⟩ := h.lookS h1
  have h4 := getK_some (by rw [h.keys]; exact hn) hm
  rw [h4] at h2
  cases h2
  exact ⟨q.2, h1, hq, h3⟩
theorem mapAt_setC {κ : Type} {enc : κ → Value} {W : World} {M : Nat} {l : List (κ × Value)} {B j : Nat} {t : TypeId} {cs : Array Value} {u : Value} (h : MapAt enc W M l) (hc : Cls B t cs W) : MapAt enc (W.setCell ⟨B, j, none⟩ u) M l := by
  refine h.same (Below.heap_setCell W ⟨B, j, none⟩ u M (fun e => ?_))
  obtain ⟨es, ck, h3, _⟩ := h
  have e' : M = B := e
  subst e'
  exact not_cls h3 rfl _ hc
theorem rangeAt_setC {κ : Type} {enc : κ → Value} {W : World} {M r : Nat} {l : List (κ × Value)} {d : List κ} {B j : Nat} {t : TypeId} {cs : Array Value} {u : Value} (h : RangeAt enc W M r l d) (hc : Cls B t cs W) : RangeAt enc (W.setCell ⟨B, j, none⟩ u) M r l d := by
  obtain ⟨hM, ⟨es, clock, since, c0, seen, hb, hr, rest⟩, hd⟩ := h
  refine ⟨mapAt_setC hM hc, ⟨es, clock, since, c0, seen, (Below.heap_setCell W ⟨B, j, none⟩ u M (fun e => ?_)).trans hb, (Below.heap_setCell W ⟨B, j, none⟩ u r (fun e => ?_)).trans hr, rest⟩, hd⟩
  · have e' : M = B := e
    subst e'
    exact not_cls hb rfl _ hc
  · have e' : r = B := e
    subst e'
    exact not_cls hr rfl _ hc
def SpdPost (w : World) (s : Int × Int) (E : Int) (e : Ending) (w' : World) : Prop := e = .returned (.tuple #[.agg #[.int .i64 s.1, .int .i64 s.2], .int .i64 E]) ∧ Ext w w'
theorem spd_ret {w W : World} {tmps : Array Value} {x y : Int} {X : Int × Int} {E E' : Int} (h4 : tmps.getD 4 undef = .pointer (some ⟨w.heap.size + 1, 0, none⟩)) (h5 : tmps.getD 5 undef = .int .i64 E') (hc : Cls (w.heap.size + 1) 29 #[.int .i64 x, .int .i64 y] W) (hx : Ext w W) (he : E' = E) (hX : (x, y) = X) :
    bodyPost Try.prog Try.f20 (SpdPost w X E) Exit.ret { tmps := tmps, defers := [] } W := by
  subst he hX
  have c0 : W.cell? ⟨w.heap.size + 1, 0, none⟩ = some (.int .i64 x) := hc.cell 0
  have c1 : W.cell? ⟨w.heap.size + 1, 1, none⟩ = some (.int .i64 y) := hc.cell 1
  have h4' : tmps[4]?.getD undef = .pointer (some ⟨w.heap.size + 1, 0, none⟩) := by simpa using h4
  have h5' : tmps[5]?.getD undef = .int .i64 E' := by simpa using h5
  exact bodyPost_ret (v := .tuple #[.agg #[.int .i64 x, .int .i64 y], .int .i64 E']) (by simp [results, Try.f20, go_sem, h4', h5', c0, c1]) rfl ⟨rfl, hx⟩
set_option maxRecDepth 100000 in
set_option maxHeartbeats 16000000 in
theorem Spread_any (a b : Value) (P : Po) (tn : Int) (w : World) (hT : PoAt w a b P) (hus : ∀ s ∈ P.ss, s.us.length ≤ 1000000) :
    Calls Try.prog 20 #[.agg #[a, b], .int .i64 tn] w (SpdPost w (spdX P tn) (spdE P tn)) := by
  have hX : spdX P tn = if spdE P tn = 0 then spO P (faiG P) tn P.ts.length else (0, 0) := rfl
  have hE : spdE P tn = if chkE P = 0 then (if tnI P tn < 0 then 5 else 0) else chkE P := rfl
  have hok := @chk_ok P
  have KC := fun W (x : Ext w W) => Check_any a b P W (hT.ext x) hus
  have KT := fun (h : OkP P) (i : Int) W (x : Ext w W) => tn_any a b P i W (hT.t.ext x) (by have := h.lt; omega)
  have KF := fun (h : OkP P) W (x : Ext w W) => fairest_any a b P h W (hT.ext x)
  have hfv := fun (h : OkP P) => faiG_V h.pv
  obtain ⟨aa, ca, rfl, hla⟩ := hT.t.len
  obtain ⟨X, hXX⟩ : ∃ E, spdX P tn = E := ⟨_, rfl⟩
  obtain ⟨D, hD⟩ : ∃ E, spdE P tn = E := ⟨_, rfl⟩
  obtain ⟨E, hEE⟩ : ∃ E, chkE P = E := ⟨_, rfl⟩
  obtain ⟨G, hG⟩ : ∃ G, faiG P = G := ⟨_, rfl⟩
  rw [hXX, hD, hG] at hX
  rw [hD, hEE] at hE
  simp only [hEE] at hok KC
  simp only [hG] at KF hfv
  rw [hXX, hD]
  have HX := Lib.hid hX
  have HE := Lib.hid hE
  have HKC := Lib.hid KC
  have HKT := Lib.hid KT
  have HKF := Lib.hid KF
  have HFV := Lib.hid hfv
  clear hX hE hXX hD hEE hG KC KT KF hfv
  go_enter Try.func20, Try.ntmps20
  go_wp2_with fail
  refine (HKC.out _ (by repeat (first | exact Ext.refl _ | assumption | refine Ext.alloc ?_ _ | refine Ext.drew ?_ | refine Ext.drewN _ ?_ | refine Ext.trans ?_ (by assumption)))).mono ?_
  rintro e w1 ⟨rfl, hx1⟩
  obtain ⟨q, qr, hx, hk0⟩ := alloc2 hx1
  have d0 : w1.cell? ⟨w.heap.size, 0, none⟩ = some (.slice aa P.ts.length ca) := q.cell 0
  have d1 : w1.cell? ⟨w.heap.size, 1, none⟩ = some b := q.cell 1
  have r0 := qr.frozen 0
  have r1 := qr.frozen 1
  have r2 := qr.cell 0
  have r3 := qr.cell 1
  clear hx1 hk0
  by_cases h0 : E = 0
  · have h2 := HE.out
    rw [if_pos h0] at h2
    have HE2 := Lib.hid h2
    have hb : (E != 0) = false := by simp [h0]
    have hokk := hok.1 h0
    have hlt := hokk.lt
    have hls := hokk.ls
    clear h2 h0 hok
    go_wp2_with fail
    refine (HKT.out hokk tn _ hx).mono ?_
    rintro e w2 ⟨rfl, hz⟩
    have hx2 := hx.trans hz
    have q2 := q.ext hz
    have qr2 := qr.ext hz
    replace d0 := hz.cell d0
    replace d1 := hz.cell d1
    by_cases hT0 : tnI P tn < 0
    · have h2 := HE2.out
      rw [if_pos hT0] at h2
      have h3 := HX.out
      rw [h2, if_neg (by decide)] at h3
      have H2 := Lib.hid h2
      have H3 := Lib.hid h3
      obtain ⟨T, hTT⟩ : ∃ T, tnI P tn = T := ⟨_, rfl⟩
      rw [hTT] at hT0 ⊢
      have r0 := qr2.frozen 0
      have r1 := qr2.frozen 1
      have r2 := qr2.cell 0
      have r3 := qr2.cell 1
      clear h2 h3 hTT
      go_wp2_with fail
      exact spd_ret rfl rfl ((qr2.set 0 _).set 1 _) ((hx2.setCell (by simp) _).setCell (by simp) _) H2.out.symm H3.out.symm
    · obtain ⟨i, hi, hti, hmo, hid⟩ : ∃ k, ∃ (hk : k < P.ts.length), tnI P tn = k ∧ mostOf P tn = P.ts[k].most ∧ P.ts[k].id = tn := most_at hokk (Classical.byContradiction (fun h => hT0 (tnI_none.2 (fun t ht e => h ⟨t, ht, e⟩))))
      have h2 := HE2.out
      rw [if_neg hT0] at h2
      have h3 := HX.out
      rw [if_pos h2] at h3
      have HE3 := Lib.hid h2
      have HX3 := Lib.hid h3
      have HID := Lib.hid hid
      rw [hti]
      obtain ⟨hGS, hGN⟩ := HFV.out hokk
      have hg40 := hGS.le hokk
      have HGS := Lib.hid hGS
      clear h2 h3 hT0 hti hmo hid hGN hz r0 r1 r2 r3 q qr hx
      go_wp2_with fail
      refine (HKF.out hokk _ hx2).mono ?_
      rintro e w3 ⟨gv, rfl, hgv, hz⟩
      have hx3 := hx2.trans hz
      have q3 := q2.ext hz
      have qr3 := qr2.ext hz
      replace d0 := hz.cell d0
      replace d1 := hz.cell d1
      obtain ⟨gA, gc, hge, _⟩ := hgv.len
      subst hge
      clear hz hx2 q2 qr2
      go_wp2_with fail
      refine (ladder_any _ b _ P G w3 (hT.t.ext hx3) hgv (by omega) (by omega)).mono ?_
      rintro e w4 ⟨lv, rfl, hlv, hz⟩
      have hlv := hlv.at_
      obtain ⟨lA, lc, hle, _⟩ := hlv.len
      subst hle
      have hx4 := hx3.trans hz
      have q4 := q3.ext hz
      have qr4 := qr3.ext hz
      have hgv4 := hgv.ext hz
      replace d0 := hz.cell d0
      replace d1 := hz.cell d1
      clear hz hx3 q3 qr3 hgv
      go_wp2_with fail
      refine (counts_any _ b _ P G w4 (hT.t.ext hx4) hgv4 (by omega) (by omega)).mono ?_
      rintro e w5 ⟨nv, rfl, hnr, hz⟩
      have hnv := hnr.at_
      obtain ⟨nA, nc, hne, _⟩ := hnv.len
      subst hne
      have hx5 := hx4.trans hz
      have q5 := q4.ext hz
      have qr5 := qr4.ext hz
      have hgv5 := hgv4.ext hz
      have hlv5 := hlv.ext hz
      replace d0 := hz.cell d0
      replace d1 := hz.cell d1
      have hN := cntT_len P G
      have hNg := cntT_get P G
      have hLl := ladL_len P G
      obtain ⟨C, hC⟩ : ∃ C, cntT P G = C := ⟨_, rfl⟩
      obtain ⟨L, hL⟩ : ∃ L, ladL P G = L := ⟨_, rfl⟩
      rw [hC] at hN hNg hnv
      rw [hL] at hLl hlv5
      have HN := Lib.hid hN
      have HNG := Lib.hid hNg
      have HLL := Lib.hid hL
      have HLl := Lib.hid hLl
      try rw [hC]
      try rw [hL]
      have hic : i < C.length := by omega
      obtain ⟨nb, no, hnAe, cn⟩ := hnv.get i hic
      rw [HNG.out i hic hi, HID.out] at cn
      subst hnAe
      obtain ⟨n0, hn0⟩ : ∃ n, cntI G tn = n := ⟨_, rfl⟩
      rw [hn0] at cn
      have HN0 := Lib.hid hn0
      have hici : (i : Int) < C.length := by omega
      clear hz hx4 q4 qr4 hgv4 hlv hN hNg hLl hC hL hnr hn0
      go_upto_region 10 with fail
      refine wp_region_last (z := 10) (S := fun W' => W'.cell? ⟨nb, no + i, none⟩ = some (.int .i64 n0) ∧ Ext w5 W') (by kernel_rfl) ?_ (fun hHeld => ?_)
      · exact ⟨cn, Ext.drew (Ext.refl _)⟩
      obtain ⟨V0, hV0⟩ : ∃ V, World.drew w5 = V := ⟨_, rfl⟩
      rw [hV0] at hHeld ⊢
      clear hV0
      (refine tkL (i := 0) (v := ?_) rfl ?_ ?_; rotate_left 1; (focus (intro w hSw; (try dsimp only at hSw); go_simp; try (with_reducible rfl))))
      try simp only [Act.put, xA1, xA2, xA4, xA5, xA6]
      (refine tkL (i := 1) (v := ?_) rfl ?_ ?_; rotate_left 1; (focus (intro w hSw; (try dsimp only at hSw); go_simp; try (with_reducible rfl))))
      try simp only [Act.put, xA1, xA2, xA3, xA4, xA5, xA6]
      (refine tkL (i := 2) (v := ?_) rfl ?_ ?_; rotate_left 1; (focus (intro w hSw; (try dsimp only at hSw); go_simp; try (with_reducible rfl))))
      try simp only [Act.put, xA1, xA2, xA3, xA4, xA5, xA6]
      (refine tkL (i := 3) (v := ?_) rfl ?_ ?_; rotate_left 1; (focus (intro w hSw; (try dsimp only at hSw); go_simp; try (with_reducible rfl))))
      try simp only [Act.put, xA1, xA2, xA3, xA4, xA5, xA6]
      (refine tkL (i := 4) (v := ?_) rfl ?_ ?_; rotate_left 1; (focus (intro w hSw; (try dsimp only at hSw); go_simp; try (with_reducible rfl))))
      try simp only [Act.put, xA1, xA2, xA3, xA4, xA5, xA6]
      (refine tkL (i := 5) (v := ?_) rfl ?_ ?_; rotate_left 1; (focus (intro w hSw; (try dsimp only at hSw); go_simp; try (with_reducible rfl))))
      try simp only [Act.put, xA1, xA2, xA3, xA4, xA5, xA6]
      (refine tkL (i := 6) (v := ?_) rfl ?_ ?_; rotate_left 1; (focus (intro w hSw; (try dsimp only at hSw); go_simp; try (with_reducible rfl))))
      try simp only [Act.put, xA1, xA2, xA3, xA4, xA5, xA6]
      (refine tkL (i := 7) (v := ?_) rfl ?_ ?_; rotate_left 1; (focus (intro w hSw; (try dsimp only at hSw); go_simp; try (with_reducible rfl))))
      try simp only [Act.put, xA1, xA2, xA3, xA4, xA5, xA6]
      (refine tkL (i := 8) (v := ?_) rfl ?_ ?_; rotate_left 1; (focus (intro w hSw; (try dsimp only at hSw); go_simp; try (with_reducible rfl))))
      try simp only [Act.put, xA1, xA2, xA3, xA4, xA5, xA6]
      refine wpAnyL_one (i := 9) (by kernel_rfl) rfl (fun K hK => ?_)
      go_simp
      obtain ⟨SB, hSB⟩ : ∃ N, V0.heap.size = N := ⟨_, rfl⟩
      have hSBs : w5.heap.size ≤ SB := by rw [← hSB]; exact hHeld.2.size
      obtain ⟨V1, hN⟩ : ∃ X, V0.alloc (.cells #[.int .i64 0, .int .i64 0] 29) = X := ⟨_, rfl⟩
      have hz : Ext V0 V1 := by rw [← hN]; exact (by repeat (first | exact Ext.refl _ | assumption | refine Ext.alloc ?_ _ | refine Ext.drew ?_ | refine Ext.drewN _ ?_ | refine Ext.trans ?_ (by assumption)))
      have hsb : Cls SB 29 #[.int .i64 0, .int .i64 0] V1 := by rw [← hN]; exact Cls.newAt _ _ _ hSB.symm
      rw [hN, hSB]
      refine hK.out _ _ (fun _ => ?_) (fun hHeld => ?_)
      · exact ⟨Ext.cell hz hHeld.1, hHeld.2.trans hz⟩
      replace hHeld := hHeld (by decide)
      clear hK K
      clear hz hN hSB
      try simp only [Act.put, xA1, xA2, xA3, xA4, xA5, xA6]
      refine wpAnyL_one (i := 10) (by kernel_rfl) rfl (fun K hK => ?_)
      have k0 := hsb.frozen 0
      have k1 := hsb.frozen 1
      have k2 := hsb.cell 0
      have k3 := hsb.cell 1
      go_simp
      refine hK.out _ _ (fun h => absurd rfl h) (fun _ => ?_)
      clear hK K
      try simp only [Act.put, xA1, xA2, xA3, xA4, xA5, xA6]
      refine wpAnyL_done (by kernel_rfl) ?_ _
      have hzz := hHeld.2
      obtain ⟨w6, hw6⟩ : ∃ W, World.setCell (World.setCell V1 ⟨SB, 0, none⟩ (.int .i64 n0)) ⟨SB, 1, none⟩ (.int .i64 n0) = W := ⟨_, rfl⟩
      rw [hw6]
      have hx5s := hx5.size
      have hSBw : w.heap.size + 1 < SB := by have := qr5.lt; omega
      have hA6 : SpdA w w5 SB (.slice aa P.ts.length ca) b w6 (spO P G tn 0) := by
        rw [← hw6]
        have h1 : SpdA w w5 SB (.slice aa P.ts.length ca) b V1 (0, 0) := ⟨q5.ext hzz, qr5.ext hzz, hsb, hzz⟩
        have h2 := h1.set hSBw hSBs n0 n0
        have h3 : spO P G tn 0 = (n0, n0) := by unfold spO; rw [List.take_zero, List.foldl_nil, HN0.out]
        rw [h3]
        exact h2
      have HA6 := Lib.hid hA6
      have d0 : w6.cell? ⟨w.heap.size, 0, none⟩ = some (.slice aa P.ts.length ca) := hA6.bx.cell 0
      clear hHeld hsb hzz hw6 q5 qr5 cn hA6
      go_wp2_with fail
      go_loopw [51] (fun j wr => ∃ k : Nat, k ≤ P.ts.length ∧ j = .int .i64 k ∧ Hid (SpdA w w5 SB (.slice aa P.ts.length ca) b wr (spO P G tn k))) (fun j _ => P.ts.length - (intOf j).toNat)
      case atStart => exact ⟨0, Nat.zero_le _, rfl, HA6⟩
      case round =>
        clear HA6 d0
        obtain ⟨k, hk, rfl, HA⟩ := hrel
        have hx := hx5.trans HA.out.ex
        by_cases hlk : k < P.ts.length
        · obtain ⟨bb, oo, haa, c0, c1⟩ := (hT.t.ext hx).get k hlk
          subst haa
          have hst := spO_step (g := G) (tn := tn) hlk
          have hxt : ∃ t ∈ P.ts, t.id = P.ts[k].id := ⟨_, List.getElem_mem hlk, rfl⟩
          obtain ⟨x, hxx⟩ : ∃ x, P.ts[k].id = x := ⟨_, rfl⟩
          obtain ⟨y, hyy⟩ : ∃ x, P.ts[k].most = x := ⟨_, rfl⟩
          rw [hxx] at c0 hst hxt
          rw [hyy] at c1
          obtain ⟨s0, hs0⟩ : ∃ s, spO P G tn k = s := ⟨_, rfl⟩
          rw [hs0] at hst HA
          have HST := Lib.hid hst
          have HXT := Lib.hid hxt
          obtain ⟨TB, hTB⟩ : ∃ PB, wr.heap.size = PB := ⟨_, rfl⟩
          obtain ⟨Y, hY⟩ : ∃ Y, wr.alloc (.cells #[.int .i64 x, .int .i64 y] 45) = Y := ⟨_, rfl⟩
          have hxY : Ext wr Y := by rw [← hY]; exact (by repeat (first | exact Ext.refl _ | assumption | refine Ext.alloc ?_ _ | refine Ext.drew ?_ | refine Ext.drewN _ ?_ | refine Ext.trans ?_ (by assumption)))
          have hbY : Cls TB 45 #[.int .i64 x, .int .i64 y] Y := by rw [← hY]; exact Cls.newAt _ _ _ hTB.symm
          have hAY := HA.out.ext hxY
          have e0 : Y.cell? ⟨TB, 0, none⟩ = some (.int .i64 x) := hbY.cell 0
          have d0 : Y.cell? ⟨w.heap.size, 0, none⟩ = some (.slice (some ⟨bb, oo, none⟩) P.ts.length ca) := hAY.bx.cell 0
          have d1 : Y.cell? ⟨w.heap.size, 1, none⟩ = some b := hAY.bx.cell 1
          have HAY := Lib.hid hAY
          clear hst hxx hyy hs0 hxt hxY HA hx hAY
          go_wp2_with fail
          refine (ways_any _ b _ P G x hokk HGS.out.len _ (hT.ext (hx5.trans HAY.out.ex)) (hgv5.ext HAY.out.ex)).mono ?_
          rintro e w7 ⟨M, ml, rfl, hMw, hM, hF, hz⟩
          have hA7 := HAY.out.ext hz
          have hb7 := hbY.ext hz
          have hFn := (bfs_V (P := P) HGS.out.len x (P.ts.length + 1)).nd
          have hFi : ∀ q ∈ wayF P G x, q.1 = x ∨ ∃ t ∈ P.ts, t.id = q.1 := fun q hq => reach_id hokk.pv (bfs_reach HGS.out.len hq)
          have hFl : ∀ q ∈ wayF P G x, q.2.length ≤ 13 ∧ ∀ m ∈ q.2, m.1 < G.length ∧ m.1 < P.ss.length := fun q hq => by
            have h1 := wayTo_mem hFn q hq
            exact ⟨way_len hokk HGS.out.len h1, way_ix (way_ok HGS.out.len h1).1⟩
          have hFs : ∀ q ∈ wayF P G x, (appW G q.2).length ≤ 40 := fun q _ => by rw [appW_len]; exact hg40
          have hkeys := hF.keys
          obtain ⟨F, hFF⟩ : ∃ F, wayF P G x = F := ⟨_, rfl⟩
          have hFn' : (F.map (·.1)).Nodup := by rw [← hFF]; exact hFn
          rw [hFF] at hF hFi hFl hkeys HST hFs
          have HFN := Lib.hid hFn'
          have HFI := Lib.hid hFi
          have HFL := Lib.hid hFl
          have HFS := Lib.hid hFs
          have HKY := Lib.hid hkeys
          have hx7 := hx5.trans hA7.ex
          have hF7 := FndR.base (hx5.trans HAY.out.ex).size hF
          clear hFn hFi hFl hFF hz hbY e0 d0 d1 HAY hF hkeys hMw hY hFs hFn'
          go_wp2_with (refine wpList_rangeMap rfl _ rfl mapTs rfl hM ?_; intro w8 hR8 hx8)
          have hA8 := hA7.ext hx8
          have hM8 := hM.ext hx8
          have hF8 := hF7.ext hx8
          have hb8 := hb7.ext hx8
          obtain ⟨rr, hrr⟩ : ∃ rr, w7.heap.size = rr := ⟨_, rfl⟩
          rw [hrr] at hR8 ⊢
          have hrr5 : w5.heap.size ≤ rr := by rw [← hrr]; exact hA7.ex.size
          have hTBM : TB ≠ rr := by have := hb7.lt; omega
          have HA8 := Lib.hid hA8
          clear hrr hA7 hb7 hM hF7 hx8 hx7 hA8
          go_frame
          go_loopg [] (leftK ml []) (fun gh wr => ∃ d, RangeAt encI wr M rr ml d ∧ gh = leftK ml d ∧ MapAt encI wr M ml ∧ Hid (FndR P w.heap.size wr ml F) ∧ Hid (SpdA w w5 SB (.slice (some ⟨bb, oo, none⟩) P.ts.length ca) b wr (spL P G tn x s0 (entF F d))) ∧ Cls TB 45 #[.int .i64 x, .int .i64 y] wr)
          case atStart => exact ⟨[], hR8, rfl, hM8, Lib.hid hF8, HA8, hb8⟩
          case round =>
            clear HA8 hb8 hF8 hM8 hR8
            obtain ⟨d, hR, hgh, hM, HF, HA, hbx⟩ := hrel
            have HG := Lib.hid hgh
            clear hgh
            have hdn := hR.2.2.1
            have hdk := hR.2.2.2
            have HDN := Lib.hid hdn
            have HDK := Lib.hid hdk
            clear hdn hdk
            go_wp2_with fail
            rcases run_nextMap (P := Try.prog) encI_inj hR 0 with ⟨hall, hrun⟩ | ⟨r, v, w9, hrv, hrd, hrun, hR9, hg9, hent⟩
            · have HALL := Lib.hid hall
              clear hall
              rw [hrun]
              clear hrun
              go_wp2_with fail
              go_roundw
              case rel =>
                have hfin := spL_all (P := P) (g := G) (tn := tn) (a := x) HFN.out HDN.out (fun c hc => by rw [← HKY.out]; exact HDK.out c hc) (fun c hc => HALL.out c (by rw [HKY.out]; exact hc)) s0
                exact ⟨k + 1, by omega, by go_num, Lib.hid (by rw [HST.out, ← hfin]; exact HA.out)⟩
              case measure => simp [intOf]; omega
            · have hkey : r ∈ ml.map (·.1) := List.mem_map.2 ⟨_, hrv, rfl⟩
              have HLK := Lib.hid (leftK_lt hkey hrd)
              obtain ⟨es, ck, si, cc0, se, _, hwk, _⟩ := hR.2.1
              have hA9 := HA.out.grown hg9 hrr5 hwk rfl
              have hM9 := hM.grown hg9 (fun e => hR.ne (Option.some.inj e).symm)
              have hF9 := HF.out.kept hg9 (fun r' e cs hc => by
                obtain rfl := Option.some.inj e
                exact not_cls hwk rfl cs hc)
              have hb9 := hbx.kept hg9 (fun e => hTBM (Option.some.inj e))
              obtain ⟨wy, hwy, hmem, hrow⟩ := hF9.mem HFN.out hrv
              have hrt : ∃ t ∈ P.ts, t.id = r := by
                rcases HFI.out _ hmem with h | h
                · have h' : r = x := h
                  rw [h']; exact HXT.out
                · exact h
              obtain ⟨kk, hkk, htr, hmr, hidr⟩ := most_at hokk hrt
              obtain ⟨hw13, hwix⟩ := HFL.out _ hmem
              have hw13 : wy.length ≤ 13 := hw13
              have hfs := HFS.out _ hmem
              have hfs : (appW G wy).length ≤ 40 := hfs
              obtain ⟨vA, vc, hve⟩ := hrow.form
              rw [shW_len] at hve
              subst hve
              obtain ⟨sc, hsc⟩ : ∃ sc, spL P G tn x s0 (entF F d) = sc := ⟨_, rfl⟩
              have hsn : spL P G tn x s0 (entF F (d ++ [r])) = spS P G tn x sc (r, wy) := by
                rw [entF_snoc, hwy, ← hsc]
                unfold spL
                rw [List.foldl_append]; rfl
              have hst : spT P G tn x (r, wy) = (!(decide (wy.length = 0)) && decide (cntI G r < mostOf P r) && (decide (r = tn) || decide (x = tn)) && (ladL P (appW G wy) == L)) := by rw [← HLL.out]; rfl
              have hss : spS P G tn x sc (r, wy) = if spT P G tn x (r, wy) = true then (min sc.1 (cntI (appW G wy) tn), max sc.2 (cntI (appW G wy) tn)) else sc := rfl
              rw [hss] at hsn
              rw [hsc] at hA9
              rw [hmr] at hst
              have hkc : kk < C.length := by rw [HN.out]; exact hkk
              obtain ⟨nb2, no2, hne2, cn⟩ := (hnv.ext hA9.ex).get kk hkc
              rw [HNG.out kk hkc hkk, hidr] at cn
              simp only [Option.some.injEq, Addr.mk.injEq, and_true] at hne2
              obtain ⟨rfl, rfl⟩ := hne2
              obtain ⟨nr, hnr⟩ : ∃ n, cntI G r = n := ⟨_, rfl⟩
              have KR := fun W (h : Ext w W) => room_any _ b P kk nr W (hT.t.ext h) hkk
              obtain ⟨mk, hmk⟩ : ∃ m, P.ts[kk].most = m := ⟨_, rfl⟩
              rw [hnr] at cn hst
              rw [hmk] at hst
              simp only [hmk] at KR
              have KT9 := HKT.out hokk r
              simp only [htr] at KT9
              have HSN := Lib.hid hsn
              have HST9 := Lib.hid hst
              have HKR := Lib.hid KR
              have HA9 := Lib.hid hA9
              have HF9 := Lib.hid hF9
              have HWX := Lib.hid hwix
              have hx9 := hx5.trans hA9.ex
              have henc : encI r = .int .i64 r := rfl
              rw [henc] at hrun hent
              have d0 : w9.cell? ⟨w.heap.size, 0, none⟩ = some (.slice (some ⟨bb, oo, none⟩) P.ts.length ca) := hA9.bx.cell 0
              have d1 : w9.cell? ⟨w.heap.size, 1, none⟩ = some b := hA9.bx.cell 1
              rw [hrun]
              clear hrun hkey hwk hrt htr hmr hidr hss hsn hst hsc hnr hmk KR hwy hmem hA9 hF9 hM hbx hg9 HA HF hR henc hwix hrv
              go_wp2_with fail
              refine (KT9 _ hx9).mono ?_
              rintro e w10 ⟨rfl, hz⟩
              have HA10 := Lib.hid (HA9.out.ext hz)
              have HF10 := Lib.hid (HF9.out.ext hz)
              have hM10 := hM9.ext hz
              have hb10 := hb9.ext hz
              have hR10 := hR9.ext hz
              have hrow10 := RowS.ext hrow hz
              have hx10 := hx9.trans hz
              have e0 : w10.cell? ⟨TB, 0, none⟩ = some (.int .i64 x) := hb10.cell 0
              replace d0 := hz.cell d0
              replace d1 := hz.cell d1
              replace cn := hz.cell cn
              have hkki : (kk : Int) < C.length := by omega
              have hkk0 : ¬ ((kk : Int) < 0) := by omega
              clear hz HA9 HF9 hM9 hb9 hR9 hrow hx9 hent KT9
              by_cases hl0 : wy.length = 0
              · have hs := HSN.out
                have ht := HST9.out
                rw [decide_eq_true hl0] at ht
                rw [if_neg (by rw [ht]; simp)] at hs
                have HS := Lib.hid hs
                have hlb : ((wy.length : Int) == 0) = true := by simp [hl0]
                clear hs ht hl0
                go_upto_region 18 with fail
                refine wp_region_held_drew (S := fun W' => W'.cell? ⟨w.heap.size, 0, none⟩ = some (.slice (some ⟨bb, oo, none⟩) P.ts.length ca) ∧ W'.cell? ⟨w.heap.size, 1, none⟩ = some b ∧ W'.cell? ⟨TB, 0, none⟩ = some (.int .i64 x) ∧ W'.cell? ⟨nb, no + kk, none⟩ = some (.int .i64 nr) ∧ Ext w10 W') (by kernel_rfl) ?_ (fun hHeld => ?_)
                · exact ⟨d0, d1, e0, cn, Ext.drew (Ext.refl _)⟩
                obtain ⟨V0, hV0⟩ : ∃ V, World.drew w10 = V := ⟨_, rfl⟩
                rw [hV0] at hHeld ⊢
                clear hV0
                (refine tkH (i := 0) (v := ?_) rfl ?_ ?_; rotate_left 1; (focus (intro w hSw; (try dsimp only at hSw); go_simp; try (with_reducible rfl))))
                try simp only [Act.put, xA1, xA2, xA4, xA5, xA6]
                (refine tkH (i := 1) (v := ?_) rfl ?_ ?_; rotate_left 1; (focus (intro w hSw; (try dsimp only at hSw); go_simp; try (with_reducible rfl))))
                try simp only [Act.put, xA1, xA2, xA3, xA4, xA5, xA6]
                (refine tkH (i := 2) (v := ?_) rfl ?_ ?_; rotate_left 1; (focus (intro w hSw; (try dsimp only at hSw); go_simp; try (with_reducible rfl))))
                try simp only [Act.put, xA1, xA2, xA3, xA4, xA5, xA6]
                (refine tkH (i := 3) (v := ?_) rfl ?_ ?_; rotate_left 1; (focus (intro w hSw; (try dsimp only at hSw); go_simp; try (with_reducible rfl))))
                try simp only [Act.put, xA1, xA2, xA3, xA4, xA5, xA6]
                (refine skH (i := 4) rfl ?_)
                try simp only [Act.put, xA1, xA2, xA3, xA4, xA5, xA6]
                (refine skH (i := 5) rfl ?_)
                try simp only [Act.put, xA1, xA2, xA3, xA4, xA5, xA6]
                (refine tkH (i := 6) (v := ?_) rfl ?_ ?_; rotate_left 1; (focus (intro w hSw; (try dsimp only at hSw); go_simp; try (with_reducible rfl))))
                try simp only [Act.put, xA1, xA2, xA3, xA4, xA5, xA6]
                (refine tkH (i := 7) (v := ?_) rfl ?_ ?_; rotate_left 1; (focus (intro w hSw; (try dsimp only at hSw); go_simp; try (with_reducible rfl))))
                try simp only [Act.put, xA1, xA2, xA3, xA4, xA5, xA6]
                (refine skH (i := 8) rfl ?_)
                try simp only [Act.put, xA1, xA2, xA3, xA4, xA5, xA6]
                (refine skH (i := 9) rfl ?_)
                try simp only [Act.put, xA1, xA2, xA3, xA4, xA5, xA6]
                (refine skH (i := 10) rfl ?_)
                try simp only [Act.put, xA1, xA2, xA3, xA4, xA5, xA6]
                (refine skH (i := 11) rfl ?_)
                try simp only [Act.put, xA1, xA2, xA3, xA4, xA5, xA6]
                (refine skH (i := 12) rfl ?_)
                try simp only [Act.put, xA1, xA2, xA3, xA4, xA5, xA6]
                (refine skH (i := 13) rfl ?_)
                try simp only [Act.put, xA1, xA2, xA3, xA4, xA5, xA6]
                (refine skH (i := 14) rfl ?_)
                try simp only [Act.put, xA1, xA2, xA3, xA4, xA5, xA6]
                (refine skH (i := 15) rfl ?_)
                try simp only [Act.put, xA1, xA2, xA3, xA4, xA5, xA6]
                (refine tkH (i := 16) (v := ?_) rfl ?_ ?_; rotate_left 1; (focus (intro w hSw; (try dsimp only at hSw); go_simp; try (with_reducible rfl))))
                try simp only [Act.put, xA1, xA2, xA3, xA4, xA5, xA6]
                (refine tkH (i := 17) (v := ?_) rfl ?_ ?_; rotate_left 1; (focus (intro w hSw; (try dsimp only at hSw); go_simp; try (with_reducible rfl))))
                try simp only [Act.put, xA1, xA2, xA3, xA4, xA5, xA6]
                (refine skH (i := 18) rfl ?_)
                try simp only [Act.put, xA1, xA2, xA3, xA4, xA5, xA6]
                (refine skH (i := 19) rfl ?_)
                try simp only [Act.put, xA1, xA2, xA3, xA4, xA5, xA6]
                (refine skH (i := 20) rfl ?_)
                try simp only [Act.put, xA1, xA2, xA3, xA4, xA5, xA6]
                (refine skH (i := 21) rfl ?_)
                try simp only [Act.put, xA1, xA2, xA3, xA4, xA5, xA6]
                (refine skH (i := 22) rfl ?_)
                try simp only [Act.put, xA1, xA2, xA3, xA4, xA5, xA6]
                (refine skH (i := 23) rfl ?_)
                try simp only [Act.put, xA1, xA2, xA3, xA4, xA5, xA6]
                (refine skH (i := 24) rfl ?_)
                try simp only [Act.put, xA1, xA2, xA3, xA4, xA5, xA6]
                (refine skH (i := 25) rfl ?_)
                try simp only [Act.put, xA1, xA2, xA3, xA4, xA5, xA6]
                (refine skH (i := 26) rfl ?_)
                try simp only [Act.put, xA1, xA2, xA3, xA4, xA5, xA6]
                (refine tkH (i := 27) (v := ?_) rfl ?_ ?_; rotate_left 1; (focus (intro w hSw; (try dsimp only at hSw); go_simp; try (with_reducible rfl))))
                try simp only [Act.put, xA1, xA2, xA3, xA4, xA5, xA6]
                refine wpAnyH_done (by kernel_rfl) ?_ _
                have hzz := hHeld.2.2.2.2
                go_wp2_with fail
                go_roundg (leftK ml (d ++ [r]))
                case measure => have h1 := HG.out; have h2 := HLK.out; omega
                case rel => exact ⟨d ++ [r], hR10.ext hzz, rfl, hM10.ext hzz, Lib.hid (HF10.out.ext hzz), Lib.hid (by rw [HS.out]; exact HA10.out.ext hzz), hb10.ext hzz⟩
              · have hlb : ((wy.length : Int) == 0) = false := by rw [beq_eq_false_iff_ne]; omega
                have hln : ¬ ((wy.length : Int) = 0) := by omega
                by_cases hnm : nr < mk
                · have KR := HKR.out
                  simp only [decide_eq_true hnm] at KR
                  have HKR2 := Lib.hid KR
                  clear KR
                  by_cases hrt : r = tn
                  · have hrb : (r != tn) = false := by simp [hrt]
                    have ht := HST9.out
                    rw [decide_eq_false hl0, decide_eq_true hnm, decide_eq_true hrt] at ht
                    simp only [Bool.not_false, Bool.true_and, Bool.true_or] at ht
                    have HTT := Lib.hid ht
                    clear ht hl0 hnm hrt
                    go_upto_region 18 with fail
                    refine wp_region_held_drew (S := fun W' => W'.cell? ⟨w.heap.size, 0, none⟩ = some (.slice (some ⟨bb, oo, none⟩) P.ts.length ca) ∧ W'.cell? ⟨w.heap.size, 1, none⟩ = some b ∧ W'.cell? ⟨TB, 0, none⟩ = some (.int .i64 x) ∧ W'.cell? ⟨nb, no + kk, none⟩ = some (.int .i64 nr) ∧ Ext w10 W') (by kernel_rfl) ?_ (fun hHeld => ?_)
                    · exact ⟨d0, d1, e0, cn, Ext.drew (Ext.refl _)⟩
                    obtain ⟨V0, hV0⟩ : ∃ V, World.drew w10 = V := ⟨_, rfl⟩
                    rw [hV0] at hHeld ⊢
                    clear hV0
                    (refine tkH (i := 0) (v := ?_) rfl ?_ ?_; rotate_left 1; (focus (intro w hSw; (try dsimp only at hSw); go_simp; try (with_reducible rfl))))
                    try simp only [Act.put, xA1, xA2, xA4, xA5, xA6]
                    (refine tkH (i := 1) (v := ?_) rfl ?_ ?_; rotate_left 1; (focus (intro w hSw; (try dsimp only at hSw); go_simp; try (with_reducible rfl))))
                    try simp only [Act.put, xA1, xA2, xA3, xA4, xA5, xA6]
                    (refine tkH (i := 2) (v := ?_) rfl ?_ ?_; rotate_left 1; (focus (intro w hSw; (try dsimp only at hSw); go_simp; try (with_reducible rfl))))
                    try simp only [Act.put, xA1, xA2, xA3, xA4, xA5, xA6]
                    (refine tkH (i := 3) (v := ?_) rfl ?_ ?_; rotate_left 1; (focus (intro w hSw; (try dsimp only at hSw); go_simp; try (with_reducible rfl))))
                    try simp only [Act.put, xA1, xA2, xA3, xA4, xA5, xA6]
                    (refine tkH (i := 4) (v := ?_) rfl ?_ ?_; rotate_left 1; (focus (intro w hSw; (try dsimp only at hSw); go_simp; try (with_reducible rfl))))
                    try simp only [Act.put, xA1, xA2, xA3, xA4, xA5, xA6]
                    (refine tkH (i := 5) (v := ?_) rfl ?_ ?_; rotate_left 1; (focus (intro w hSw; (try dsimp only at hSw); go_simp; try (with_reducible rfl))))
                    try simp only [Act.put, xA1, xA2, xA3, xA4, xA5, xA6]
                    (refine tkH (i := 6) (v := ?_) rfl ?_ ?_; rotate_left 1; (focus (intro w hSw; (try dsimp only at hSw); go_simp; try (with_reducible rfl))))
                    try simp only [Act.put, xA1, xA2, xA3, xA4, xA5, xA6]
                    (refine tkH (i := 7) (v := ?_) rfl ?_ ?_; rotate_left 1; (focus (intro w hSw; (try dsimp only at hSw); go_simp; try (with_reducible rfl))))
                    try simp only [Act.put, xA1, xA2, xA3, xA4, xA5, xA6]
                    (refine tkH (i := 8) (v := ?_) rfl ?_ ?_; rotate_left 1; (focus (intro w hSw; (try dsimp only at hSw); go_simp; try (with_reducible rfl))))
                    try simp only [Act.put, xA1, xA2, xA3, xA4, xA5, xA6]
                    (refine tkH (i := 9) (v := ?_) rfl ?_ ?_; rotate_left 1; (focus (intro w hSw; (try dsimp only at hSw); go_simp; try (with_reducible rfl))))
                    try simp only [Act.put, xA1, xA2, xA3, xA4, xA5, xA6]
                    (refine tkH (i := 10) (v := ?_) rfl ?_ ?_; rotate_left 1; (focus (intro w hSw; (try dsimp only at hSw); go_simp; try (with_reducible rfl))))
                    try simp only [Act.put, xA1, xA2, xA3, xA4, xA5, xA6]
                    (refine tkH (i := 11) (v := ?_) rfl ?_ ?_; rotate_left 1; (focus (intro w hSw; (try dsimp only at hSw); go_simp; try (with_reducible rfl))))
                    try simp only [Act.put, xA1, xA2, xA3, xA4, xA5, xA6]
                    (refine tkH (i := 12) (v := ?_) rfl ?_ ?_; rotate_left 1; (focus (intro w hSw; (try dsimp only at hSw); go_simp; try (with_reducible rfl))))
                    try simp only [Act.put, xA1, xA2, xA3, xA4, xA5, xA6]
                    (refine tkH (i := 13) (v := ?_) rfl ?_ ?_; rotate_left 1; (focus (intro w hSw; (try dsimp only at hSw); go_simp; try (with_reducible rfl))))
                    try simp only [Act.put, xA1, xA2, xA3, xA4, xA5, xA6]
                    refine wpAnyH_ready (rs := [14]) (by kernel_rfl) (by simp) ?_
                    refine AllReadyH.cons rfl (fun K hK => ?_) AllReadyH.nil
                    go_simp
                    go_at_call 77; refine (HKR2.out V0 (hx10.trans hHeld.2.2.2.2)).mono ?_; rintro e V1 ⟨rfl, hz⟩
                    refine hK.out _ _ ?_ (fun hHeld => ?_)
                    · exact ⟨Ext.cell hz hHeld.1, Ext.cell hz hHeld.2.1, Ext.cell hz hHeld.2.2.1, Ext.cell hz hHeld.2.2.2.1, hHeld.2.2.2.2.trans hz⟩
                    clear hK K
                    clear hz
                    try simp only [Act.put, xA1, xA2, xA3, xA4, xA5, xA6]
                    (refine tkH (i := 15) (v := ?_) rfl ?_ ?_; rotate_left 1; (focus (intro w hSw; (try dsimp only at hSw); go_simp; try (with_reducible rfl))))
                    try simp only [Act.put, xA1, xA2, xA3, xA4, xA5, xA6]
                    (refine tkH (i := 16) (v := ?_) rfl ?_ ?_; rotate_left 1; (focus (intro w hSw; (try dsimp only at hSw); go_simp; try (with_reducible rfl))))
                    try simp only [Act.put, xA1, xA2, xA3, xA4, xA5, xA6]
                    (refine tkH (i := 17) (v := ?_) rfl ?_ ?_; rotate_left 1; (focus (intro w hSw; (try dsimp only at hSw); go_simp; try (with_reducible rfl))))
                    try simp only [Act.put, xA1, xA2, xA3, xA4, xA5, xA6]
                    (refine tkH (i := 18) (v := ?_) rfl ?_ ?_; rotate_left 1; (focus (intro w hSw; (try dsimp only at hSw); go_simp; try (with_reducible rfl))))
                    try simp only [Act.put, xA1, xA2, xA3, xA4, xA5, xA6]
                    (refine tkH (i := 19) (v := ?_) rfl ?_ ?_; rotate_left 1; (focus (intro w hSw; (try dsimp only at hSw); go_simp; try (with_reducible rfl))))
                    try simp only [Act.put, xA1, xA2, xA3, xA4, xA5, xA6]
                    (refine tkH (i := 20) (v := ?_) rfl ?_ ?_; rotate_left 1; (focus (intro w hSw; (try dsimp only at hSw); go_simp; try (with_reducible rfl))))
                    try simp only [Act.put, xA1, xA2, xA3, xA4, xA5, xA6]
                    (refine tkH (i := 21) (v := ?_) rfl ?_ ?_; rotate_left 1; (focus (intro w hSw; (try dsimp only at hSw); go_simp; try (with_reducible rfl))))
                    try simp only [Act.put, xA1, xA2, xA3, xA4, xA5, xA6]
                    (refine skH (i := 22) rfl ?_)
                    try simp only [Act.put, xA1, xA2, xA3, xA4, xA5, xA6]
                    (refine skH (i := 23) rfl ?_)
                    try simp only [Act.put, xA1, xA2, xA3, xA4, xA5, xA6]
                    (refine skH (i := 24) rfl ?_)
                    try simp only [Act.put, xA1, xA2, xA3, xA4, xA5, xA6]
                    (refine skH (i := 25) rfl ?_)
                    try simp only [Act.put, xA1, xA2, xA3, xA4, xA5, xA6]
                    (refine tkH (i := 26) (v := ?_) rfl ?_ ?_; rotate_left 1; (focus (intro w hSw; (try dsimp only at hSw); go_simp; try (with_reducible rfl))))
                    try simp only [Act.put, xA1, xA2, xA3, xA4, xA5, xA6]
                    (refine tkH (i := 27) (v := ?_) rfl ?_ ?_; rotate_left 1; (focus (intro w hSw; (try dsimp only at hSw); go_simp; try (with_reducible rfl))))
                    try simp only [Act.put, xA1, xA2, xA3, xA4, xA5, xA6]
                    refine wpAnyH_done (by kernel_rfl) ?_ _
                    have hzz := hHeld.2.2.2.2
                    obtain ⟨w11, hw11⟩ : ∃ W, V1 = W := ⟨_, rfl⟩
                    rw [hw11] at hzz ⊢
                    replace d0 := hzz.cell d0
                    replace d1 := hzz.cell d1
                    have hx11 := hx10.trans hzz
                    have hy11 : Ext w5 w11 := HA10.out.ex.trans hzz
                    clear hw11 hHeld
                    go_wp2_with fail
                    refine (apply_any _ b _ _ P G wy hokk (by omega) (by omega) HWX.out w11 (hT.ext hx11) (hgv5.ext hy11) (RowS.ext hrow10 hzz).at_).mono ?_
                    rintro e w12 ⟨ov, rfl, hor, hz⟩
                    have hov := hor.at_
                    obtain ⟨oA, oc, hoe, _⟩ := hov.len
                    subst hoe
                    have hzz2 := hzz.trans hz
                    replace d0 := hz.cell d0
                    replace d1 := hz.cell d1
                    have hx12 := hx11.trans hz
                    have hy12 := hy11.trans hz
                    have hgl : (appW G wy).length = G.length := appW_len _ _
                    obtain ⟨O, hO⟩ : ∃ O, appW G wy = O := ⟨_, rfl⟩
                    rw [hO] at hov hgl
                    have HSN2 := HSN.out
                    have HTT2 := HTT.out
                    rw [hO] at HSN2 HTT2
                    have HSN3 := Lib.hid HSN2
                    have HTT3 := Lib.hid HTT2
                    have hOl : O.length ≤ 40 := by omega
                    have HGLO := Lib.hid hgl
                    try rw [hO]
                    clear hz hzz hor hO HSN2 HTT2 hgl
                    go_wp2_with fail
                    refine (ladder_any _ b _ P O w12 (hT.t.ext hx12) hov (by omega) (by omega)).mono ?_
                    rintro e w13 ⟨lv, rfl, hlr, hz⟩
                    have hlv := hlr.at_
                    have hzz3 := hzz2.trans hz
                    have hov3 := hov.ext hz
                    have hx13 := hx12.trans hz
                    have hy13 := hy12.trans hz
                    replace d0 := hz.cell d0
                    replace d1 := hz.cell d1
                    clear hz hlr hov hx12 hy12 hzz2
                    go_wp2_with fail
                    have hll := ladL_len P O
                    have hLl := HLl.out
                    refine (equal_any _ _ (ladL P O) L w13 hlv (hlv5.ext hy13) (by omega) (by omega)).mono ?_
                    rintro e w14 ⟨rfl, hz⟩
                    have hzz := hzz3.trans hz
                    have hov4 := hov3.ext hz
                    have hx14 := hx13.trans hz
                    replace d0 := hz.cell d0
                    replace d1 := hz.cell d1
                    obtain ⟨eq, heq⟩ : ∃ q, (ladL P O == L) = q := ⟨_, rfl⟩
                    have HTT4 := HTT3.out
                    rw [heq] at HTT4 ⊢
                    have HTT5 := Lib.hid HTT4
                    clear hz hlv hov3 hx13 hy13 hzz3 heq HTT4 hll hLl
                    cases eq
                    · have hs := HSN3.out
                      rw [if_neg (by rw [HTT5.out]; decide)] at hs
                      have HS := Lib.hid hs
                      clear hs
                      go_wp2_with fail
                      go_roundg (leftK ml (d ++ [r]))
                      case measure => have h1 := HG.out; have h2 := HLK.out; omega
                      case rel => exact ⟨d ++ [r], hR10.ext hzz, rfl, hM10.ext hzz, Lib.hid (HF10.out.ext hzz), Lib.hid (by rw [HS.out]; exact HA10.out.ext hzz), hb10.ext hzz⟩
                    · have hs := HSN3.out
                      rw [if_pos HTT5.out] at hs
                      have HS := Lib.hid hs
                      clear hs
                      go_wp2_with fail
                      refine (counts_any _ b _ P O w14 (hT.t.ext hx14) hov4 (by omega) (by omega)).mono ?_
                      rintro e w15 ⟨cv, rfl, hcr, hz⟩
                      have hcv := hcr.at_
                      obtain ⟨cA, cc, hce, _⟩ := hcv.len
                      subst hce
                      have hcl := cntT_len P O
                      have hcg := cntT_get P O
                      have hic2 : i < (cntT P O).length := by omega
                      obtain ⟨cb, co, hcae, cm⟩ := hcv.get i hic2
                      rw [hcg i hic2 hi, HID.out] at cm
                      subst hcae
                      obtain ⟨m, hm⟩ : ∃ m, cntI O tn = m := ⟨_, rfl⟩
                      rw [hm] at cm
                      have HS2 := HS.out
                      rw [hm] at HS2
                      have HS3 := Lib.hid HS2
                      obtain ⟨CL, hCL⟩ : ∃ n, (cntT P O).length = n := ⟨_, rfl⟩
                      rw [hCL] at hic2 hcl
                      try rw [hCL]
                      have hzz5 := hzz.trans hz
                      have hA15 := HA10.out.ext hzz5
                      have q0 := hA15.sb.frozen 0
                      have q1 := hA15.sb.frozen 1
                      have q2 : w15.cell? ⟨SB, 0, none⟩ = some (.int .i64 sc.1) := hA15.sb.cell 0
                      have q3 : w15.cell? ⟨SB, 1, none⟩ = some (.int .i64 sc.2) := hA15.sb.cell 1
                      have hicl : (i : Int) < CL := by omega
                      have HA15 := Lib.hid hA15
                      clear hm HS2 hCL hcl hcg hz hcr hcv hA15 hic2 d0 d1
                      go_wp2_with fail
                      have hset := HA15.out.set hSBw hSBs (min sc.1 m) (max sc.2 m)
                      have HSET := Lib.hid hset
                      go_roundg (leftK ml (d ++ [r]))
                      case measure => have h1 := HG.out; have h2 := HLK.out; omega
                      case rel => exact ⟨d ++ [r], rangeAt_setC (rangeAt_setC (hR10.ext hzz5) HA15.out.sb) (HA15.out.sb.set 0 _), rfl, mapAt_setC (mapAt_setC (hM10.ext hzz5) HA15.out.sb) (HA15.out.sb.set 0 _), Lib.hid (((HF10.out.ext hzz5).kept (grown_set _ SB 0 _) (fun r' e cs hc => by obtain rfl := Option.some.inj e; exact absurd (cls_uniq hc HA15.out.sb) (by decide))).kept (grown_set _ SB 1 _) (fun r' e cs hc => by obtain rfl := Option.some.inj e; exact absurd (cls_uniq hc (HA15.out.sb.set 0 _)) (by decide))), Lib.hid (by rw [HS3.out]; exact HSET.out), ((hb10.ext hzz5).other (cls_ne (hb10.ext hzz5) HA15.out.sb (by decide)) 0 _).other (cls_ne (hb10.ext hzz5) HA15.out.sb (by decide)) 1 _⟩
                  · have hrb : (r != tn) = true := by simp [hrt]
                    by_cases hxt : x = tn
                    · have hxb : (x != tn) = false := by simp [hxt]
                      have ht := HST9.out
                      rw [decide_eq_false hl0, decide_eq_true hnm, decide_eq_false hrt, decide_eq_true hxt] at ht
                      simp only [Bool.not_false, Bool.true_and, Bool.false_or] at ht
                      have HTT := Lib.hid ht
                      clear ht hl0 hnm hrt hxt
                      go_upto_region 18 with fail
                      refine wp_region_held_drew (S := fun W' => W'.cell? ⟨w.heap.size, 0, none⟩ = some (.slice (some ⟨bb, oo, none⟩) P.ts.length ca) ∧ W'.cell? ⟨w.heap.size, 1, none⟩ = some b ∧ W'.cell? ⟨TB, 0, none⟩ = some (.int .i64 x) ∧ W'.cell? ⟨nb, no + kk, none⟩ = some (.int .i64 nr) ∧ Ext w10 W') (by kernel_rfl) ?_ (fun hHeld => ?_)
                      · exact ⟨d0, d1, e0, cn, Ext.drew (Ext.refl _)⟩
                      obtain ⟨V0, hV0⟩ : ∃ V, World.drew w10 = V := ⟨_, rfl⟩
                      rw [hV0] at hHeld ⊢
                      clear hV0
                      (refine tkH (i := 0) (v := ?_) rfl ?_ ?_; rotate_left 1; (focus (intro w hSw; (try dsimp only at hSw); go_simp; try (with_reducible rfl))))
                      try simp only [Act.put, xA1, xA2, xA4, xA5, xA6]
                      (refine tkH (i := 1) (v := ?_) rfl ?_ ?_; rotate_left 1; (focus (intro w hSw; (try dsimp only at hSw); go_simp; try (with_reducible rfl))))
                      try simp only [Act.put, xA1, xA2, xA3, xA4, xA5, xA6]
                      (refine tkH (i := 2) (v := ?_) rfl ?_ ?_; rotate_left 1; (focus (intro w hSw; (try dsimp only at hSw); go_simp; try (with_reducible rfl))))
                      try simp only [Act.put, xA1, xA2, xA3, xA4, xA5, xA6]
                      (refine tkH (i := 3) (v := ?_) rfl ?_ ?_; rotate_left 1; (focus (intro w hSw; (try dsimp only at hSw); go_simp; try (with_reducible rfl))))
                      try simp only [Act.put, xA1, xA2, xA3, xA4, xA5, xA6]
                      (refine tkH (i := 4) (v := ?_) rfl ?_ ?_; rotate_left 1; (focus (intro w hSw; (try dsimp only at hSw); go_simp; try (with_reducible rfl))))
                      try simp only [Act.put, xA1, xA2, xA3, xA4, xA5, xA6]
                      (refine tkH (i := 5) (v := ?_) rfl ?_ ?_; rotate_left 1; (focus (intro w hSw; (try dsimp only at hSw); go_simp; try (with_reducible rfl))))
                      try simp only [Act.put, xA1, xA2, xA3, xA4, xA5, xA6]
                      (refine tkH (i := 6) (v := ?_) rfl ?_ ?_; rotate_left 1; (focus (intro w hSw; (try dsimp only at hSw); go_simp; try (with_reducible rfl))))
                      try simp only [Act.put, xA1, xA2, xA3, xA4, xA5, xA6]
                      (refine tkH (i := 7) (v := ?_) rfl ?_ ?_; rotate_left 1; (focus (intro w hSw; (try dsimp only at hSw); go_simp; try (with_reducible rfl))))
                      try simp only [Act.put, xA1, xA2, xA3, xA4, xA5, xA6]
                      (refine tkH (i := 8) (v := ?_) rfl ?_ ?_; rotate_left 1; (focus (intro w hSw; (try dsimp only at hSw); go_simp; try (with_reducible rfl))))
                      try simp only [Act.put, xA1, xA2, xA3, xA4, xA5, xA6]
                      (refine tkH (i := 9) (v := ?_) rfl ?_ ?_; rotate_left 1; (focus (intro w hSw; (try dsimp only at hSw); go_simp; try (with_reducible rfl))))
                      try simp only [Act.put, xA1, xA2, xA3, xA4, xA5, xA6]
                      (refine tkH (i := 10) (v := ?_) rfl ?_ ?_; rotate_left 1; (focus (intro w hSw; (try dsimp only at hSw); go_simp; try (with_reducible rfl))))
                      try simp only [Act.put, xA1, xA2, xA3, xA4, xA5, xA6]
                      (refine tkH (i := 11) (v := ?_) rfl ?_ ?_; rotate_left 1; (focus (intro w hSw; (try dsimp only at hSw); go_simp; try (with_reducible rfl))))
                      try simp only [Act.put, xA1, xA2, xA3, xA4, xA5, xA6]
                      (refine tkH (i := 12) (v := ?_) rfl ?_ ?_; rotate_left 1; (focus (intro w hSw; (try dsimp only at hSw); go_simp; try (with_reducible rfl))))
                      try simp only [Act.put, xA1, xA2, xA3, xA4, xA5, xA6]
                      (refine tkH (i := 13) (v := ?_) rfl ?_ ?_; rotate_left 1; (focus (intro w hSw; (try dsimp only at hSw); go_simp; try (with_reducible rfl))))
                      try simp only [Act.put, xA1, xA2, xA3, xA4, xA5, xA6]
                      refine wpAnyH_ready (rs := [14]) (by kernel_rfl) (by simp) ?_
                      refine AllReadyH.cons rfl (fun K hK => ?_) AllReadyH.nil
                      go_simp
                      go_at_call 77; refine (HKR2.out V0 (hx10.trans hHeld.2.2.2.2)).mono ?_; rintro e V1 ⟨rfl, hz⟩
                      refine hK.out _ _ ?_ (fun hHeld => ?_)
                      · exact ⟨Ext.cell hz hHeld.1, Ext.cell hz hHeld.2.1, Ext.cell hz hHeld.2.2.1, Ext.cell hz hHeld.2.2.2.1, hHeld.2.2.2.2.trans hz⟩
                      clear hK K
                      clear hz
                      try simp only [Act.put, xA1, xA2, xA3, xA4, xA5, xA6]
                      (refine tkH (i := 15) (v := ?_) rfl ?_ ?_; rotate_left 1; (focus (intro w hSw; (try dsimp only at hSw); go_simp; try (with_reducible rfl))))
                      try simp only [Act.put, xA1, xA2, xA3, xA4, xA5, xA6]
                      (refine tkH (i := 16) (v := ?_) rfl ?_ ?_; rotate_left 1; (focus (intro w hSw; (try dsimp only at hSw); go_simp; try (with_reducible rfl))))
                      try simp only [Act.put, xA1, xA2, xA3, xA4, xA5, xA6]
                      (refine tkH (i := 17) (v := ?_) rfl ?_ ?_; rotate_left 1; (focus (intro w hSw; (try dsimp only at hSw); go_simp; try (with_reducible rfl))))
                      try simp only [Act.put, xA1, xA2, xA3, xA4, xA5, xA6]
                      (refine tkH (i := 18) (v := ?_) rfl ?_ ?_; rotate_left 1; (focus (intro w hSw; (try dsimp only at hSw); go_simp; try (with_reducible rfl))))
                      try simp only [Act.put, xA1, xA2, xA3, xA4, xA5, xA6]
                      (refine tkH (i := 19) (v := ?_) rfl ?_ ?_; rotate_left 1; (focus (intro w hSw; (try dsimp only at hSw); go_simp; try (with_reducible rfl))))
                      try simp only [Act.put, xA1, xA2, xA3, xA4, xA5, xA6]
                      (refine tkH (i := 20) (v := ?_) rfl ?_ ?_; rotate_left 1; (focus (intro w hSw; (try dsimp only at hSw); go_simp; try (with_reducible rfl))))
                      try simp only [Act.put, xA1, xA2, xA3, xA4, xA5, xA6]
                      (refine tkH (i := 21) (v := ?_) rfl ?_ ?_; rotate_left 1; (focus (intro w hSw; (try dsimp only at hSw); go_simp; try (with_reducible rfl))))
                      try simp only [Act.put, xA1, xA2, xA3, xA4, xA5, xA6]
                      (refine tkH (i := 22) (v := ?_) rfl ?_ ?_; rotate_left 1; (focus (intro w hSw; (try dsimp only at hSw); go_simp; try (with_reducible rfl))))
                      try simp only [Act.put, xA1, xA2, xA3, xA4, xA5, xA6]
                      (refine tkH (i := 23) (v := ?_) rfl ?_ ?_; rotate_left 1; (focus (intro w hSw; (try dsimp only at hSw); go_simp; try (with_reducible rfl))))
                      try simp only [Act.put, xA1, xA2, xA3, xA4, xA5, xA6]
                      (refine tkH (i := 24) (v := ?_) rfl ?_ ?_; rotate_left 1; (focus (intro w hSw; (try dsimp only at hSw); go_simp; try (with_reducible rfl))))
                      try simp only [Act.put, xA1, xA2, xA3, xA4, xA5, xA6]
                      (refine tkH (i := 25) (v := ?_) rfl ?_ ?_; rotate_left 1; (focus (intro w hSw; (try dsimp only at hSw); go_simp; try (with_reducible rfl))))
                      try simp only [Act.put, xA1, xA2, xA3, xA4, xA5, xA6]
                      (refine tkH (i := 26) (v := ?_) rfl ?_ ?_; rotate_left 1; (focus (intro w hSw; (try dsimp only at hSw); go_simp; try (with_reducible rfl))))
                      try simp only [Act.put, xA1, xA2, xA3, xA4, xA5, xA6]
                      (refine tkH (i := 27) (v := ?_) rfl ?_ ?_; rotate_left 1; (focus (intro w hSw; (try dsimp only at hSw); go_simp; try (with_reducible rfl))))
                      try simp only [Act.put, xA1, xA2, xA3, xA4, xA5, xA6]
                      refine wpAnyH_done (by kernel_rfl) ?_ _
                      have hzz := hHeld.2.2.2.2
                      obtain ⟨w11, hw11⟩ : ∃ W, V1 = W := ⟨_, rfl⟩
                      rw [hw11] at hzz ⊢
                      replace d0 := hzz.cell d0
                      replace d1 := hzz.cell d1
                      have hx11 := hx10.trans hzz
                      have hy11 : Ext w5 w11 := HA10.out.ex.trans hzz
                      clear hw11 hHeld
                      go_wp2_with fail
                      refine (apply_any _ b _ _ P G wy hokk (by omega) (by omega) HWX.out w11 (hT.ext hx11) (hgv5.ext hy11) (RowS.ext hrow10 hzz).at_).mono ?_
                      rintro e w12 ⟨ov, rfl, hor, hz⟩
                      have hov := hor.at_
                      obtain ⟨oA, oc, hoe, _⟩ := hov.len
                      subst hoe
                      have hzz2 := hzz.trans hz
                      replace d0 := hz.cell d0
                      replace d1 := hz.cell d1
                      have hx12 := hx11.trans hz
                      have hy12 := hy11.trans hz
                      have hgl : (appW G wy).length = G.length := appW_len _ _
                      obtain ⟨O, hO⟩ : ∃ O, appW G wy = O := ⟨_, rfl⟩
                      rw [hO] at hov hgl
                      have HSN2 := HSN.out
                      have HTT2 := HTT.out
                      rw [hO] at HSN2 HTT2
                      have HSN3 := Lib.hid HSN2
                      have HTT3 := Lib.hid HTT2
                      have hOl : O.length ≤ 40 := by omega
                      have HGLO := Lib.hid hgl
                      try rw [hO]
                      clear hz hzz hor hO HSN2 HTT2 hgl
                      go_wp2_with fail
                      refine (ladder_any _ b _ P O w12 (hT.t.ext hx12) hov (by omega) (by omega)).mono ?_
                      rintro e w13 ⟨lv, rfl, hlr, hz⟩
                      have hlv := hlr.at_
                      have hzz3 := hzz2.trans hz
                      have hov3 := hov.ext hz
                      have hx13 := hx12.trans hz
                      have hy13 := hy12.trans hz
                      replace d0 := hz.cell d0
                      replace d1 := hz.cell d1
                      clear hz hlr hov hx12 hy12 hzz2
                      go_wp2_with fail
                      have hll := ladL_len P O
                      have hLl := HLl.out
                      refine (equal_any _ _ (ladL P O) L w13 hlv (hlv5.ext hy13) (by omega) (by omega)).mono ?_
                      rintro e w14 ⟨rfl, hz⟩
                      have hzz := hzz3.trans hz
                      have hov4 := hov3.ext hz
                      have hx14 := hx13.trans hz
                      replace d0 := hz.cell d0
                      replace d1 := hz.cell d1
                      obtain ⟨eq, heq⟩ : ∃ q, (ladL P O == L) = q := ⟨_, rfl⟩
                      have HTT4 := HTT3.out
                      rw [heq] at HTT4 ⊢
                      have HTT5 := Lib.hid HTT4
                      clear hz hlv hov3 hx13 hy13 hzz3 heq HTT4 hll hLl
                      cases eq
                      · have hs := HSN3.out
                        rw [if_neg (by rw [HTT5.out]; decide)] at hs
                        have HS := Lib.hid hs
                        clear hs
                        go_wp2_with fail
                        go_roundg (leftK ml (d ++ [r]))
                        case measure => have h1 := HG.out; have h2 := HLK.out; omega
                        case rel => exact ⟨d ++ [r], hR10.ext hzz, rfl, hM10.ext hzz, Lib.hid (HF10.out.ext hzz), Lib.hid (by rw [HS.out]; exact HA10.out.ext hzz), hb10.ext hzz⟩
                      · have hs := HSN3.out
                        rw [if_pos HTT5.out] at hs
                        have HS := Lib.hid hs
                        clear hs
                        go_wp2_with fail
                        refine (counts_any _ b _ P O w14 (hT.t.ext hx14) hov4 (by omega) (by omega)).mono ?_
                        rintro e w15 ⟨cv, rfl, hcr, hz⟩
                        have hcv := hcr.at_
                        obtain ⟨cA, cc, hce, _⟩ := hcv.len
                        subst hce
                        have hcl := cntT_len P O
                        have hcg := cntT_get P O
                        have hic2 : i < (cntT P O).length := by omega
                        obtain ⟨cb, co, hcae, cm⟩ := hcv.get i hic2
                        rw [hcg i hic2 hi, HID.out] at cm
                        subst hcae
                        obtain ⟨m, hm⟩ : ∃ m, cntI O tn = m := ⟨_, rfl⟩
                        rw [hm] at cm
                        have HS2 := HS.out
                        rw [hm] at HS2
                        have HS3 := Lib.hid HS2
                        obtain ⟨CL, hCL⟩ : ∃ n, (cntT P O).length = n := ⟨_, rfl⟩
                        rw [hCL] at hic2 hcl
                        try rw [hCL]
                        have hzz5 := hzz.trans hz
                        have hA15 := HA10.out.ext hzz5
                        have q0 := hA15.sb.frozen 0
                        have q1 := hA15.sb.frozen 1
                        have q2 : w15.cell? ⟨SB, 0, none⟩ = some (.int .i64 sc.1) := hA15.sb.cell 0
                        have q3 : w15.cell? ⟨SB, 1, none⟩ = some (.int .i64 sc.2) := hA15.sb.cell 1
                        have hicl : (i : Int) < CL := by omega
                        have HA15 := Lib.hid hA15
                        clear hm HS2 hCL hcl hcg hz hcr hcv hA15 hic2 d0 d1
                        go_wp2_with fail
                        have hset := HA15.out.set hSBw hSBs (min sc.1 m) (max sc.2 m)
                        have HSET := Lib.hid hset
                        go_roundg (leftK ml (d ++ [r]))
                        case measure => have h1 := HG.out; have h2 := HLK.out; omega
                        case rel => exact ⟨d ++ [r], rangeAt_setC (rangeAt_setC (hR10.ext hzz5) HA15.out.sb) (HA15.out.sb.set 0 _), rfl, mapAt_setC (mapAt_setC (hM10.ext hzz5) HA15.out.sb) (HA15.out.sb.set 0 _), Lib.hid (((HF10.out.ext hzz5).kept (grown_set _ SB 0 _) (fun r' e cs hc => by obtain rfl := Option.some.inj e; exact absurd (cls_uniq hc HA15.out.sb) (by decide))).kept (grown_set _ SB 1 _) (fun r' e cs hc => by obtain rfl := Option.some.inj e; exact absurd (cls_uniq hc (HA15.out.sb.set 0 _)) (by decide))), Lib.hid (by rw [HS3.out]; exact HSET.out), ((hb10.ext hzz5).other (cls_ne (hb10.ext hzz5) HA15.out.sb (by decide)) 0 _).other (cls_ne (hb10.ext hzz5) HA15.out.sb (by decide)) 1 _⟩
                    · have hxb : (x != tn) = true := by simp [hxt]
                      have ht := HST9.out
                      rw [decide_eq_false hrt, decide_eq_false hxt] at ht
                      have hs := HSN.out
                      rw [if_neg (by rw [ht]; simp)] at hs
                      have HS := Lib.hid hs
                      clear hs ht hl0 hnm hrt hxt
                      go_upto_region 18 with fail
                      refine wp_region_held_drew (S := fun W' => W'.cell? ⟨w.heap.size, 0, none⟩ = some (.slice (some ⟨bb, oo, none⟩) P.ts.length ca) ∧ W'.cell? ⟨w.heap.size, 1, none⟩ = some b ∧ W'.cell? ⟨TB, 0, none⟩ = some (.int .i64 x) ∧ W'.cell? ⟨nb, no + kk, none⟩ = some (.int .i64 nr) ∧ Ext w10 W') (by kernel_rfl) ?_ (fun hHeld => ?_)
                      · exact ⟨d0, d1, e0, cn, Ext.drew (Ext.refl _)⟩
                      obtain ⟨V0, hV0⟩ : ∃ V, World.drew w10 = V := ⟨_, rfl⟩
                      rw [hV0] at hHeld ⊢
                      clear hV0
                      (refine tkH (i := 0) (v := ?_) rfl ?_ ?_; rotate_left 1; (focus (intro w hSw; (try dsimp only at hSw); go_simp; try (with_reducible rfl))))
                      try simp only [Act.put, xA1, xA2, xA4, xA5, xA6]
                      (refine tkH (i := 1) (v := ?_) rfl ?_ ?_; rotate_left 1; (focus (intro w hSw; (try dsimp only at hSw); go_simp; try (with_reducible rfl))))
                      try simp only [Act.put, xA1, xA2, xA3, xA4, xA5, xA6]
                      (refine tkH (i := 2) (v := ?_) rfl ?_ ?_; rotate_left 1; (focus (intro w hSw; (try dsimp only at hSw); go_simp; try (with_reducible rfl))))
                      try simp only [Act.put, xA1, xA2, xA3, xA4, xA5, xA6]
                      (refine tkH (i := 3) (v := ?_) rfl ?_ ?_; rotate_left 1; (focus (intro w hSw; (try dsimp only at hSw); go_simp; try (with_reducible rfl))))
                      try simp only [Act.put, xA1, xA2, xA3, xA4, xA5, xA6]
                      (refine tkH (i := 4) (v := ?_) rfl ?_ ?_; rotate_left 1; (focus (intro w hSw; (try dsimp only at hSw); go_simp; try (with_reducible rfl))))
                      try simp only [Act.put, xA1, xA2, xA3, xA4, xA5, xA6]
                      (refine tkH (i := 5) (v := ?_) rfl ?_ ?_; rotate_left 1; (focus (intro w hSw; (try dsimp only at hSw); go_simp; try (with_reducible rfl))))
                      try simp only [Act.put, xA1, xA2, xA3, xA4, xA5, xA6]
                      (refine tkH (i := 6) (v := ?_) rfl ?_ ?_; rotate_left 1; (focus (intro w hSw; (try dsimp only at hSw); go_simp; try (with_reducible rfl))))
                      try simp only [Act.put, xA1, xA2, xA3, xA4, xA5, xA6]
                      (refine tkH (i := 7) (v := ?_) rfl ?_ ?_; rotate_left 1; (focus (intro w hSw; (try dsimp only at hSw); go_simp; try (with_reducible rfl))))
                      try simp only [Act.put, xA1, xA2, xA3, xA4, xA5, xA6]
                      (refine tkH (i := 8) (v := ?_) rfl ?_ ?_; rotate_left 1; (focus (intro w hSw; (try dsimp only at hSw); go_simp; try (with_reducible rfl))))
                      try simp only [Act.put, xA1, xA2, xA3, xA4, xA5, xA6]
                      (refine tkH (i := 9) (v := ?_) rfl ?_ ?_; rotate_left 1; (focus (intro w hSw; (try dsimp only at hSw); go_simp; try (with_reducible rfl))))
                      try simp only [Act.put, xA1, xA2, xA3, xA4, xA5, xA6]
                      (refine tkH (i := 10) (v := ?_) rfl ?_ ?_; rotate_left 1; (focus (intro w hSw; (try dsimp only at hSw); go_simp; try (with_reducible rfl))))
                      try simp only [Act.put, xA1, xA2, xA3, xA4, xA5, xA6]
                      (refine tkH (i := 11) (v := ?_) rfl ?_ ?_; rotate_left 1; (focus (intro w hSw; (try dsimp only at hSw); go_simp; try (with_reducible rfl))))
                      try simp only [Act.put, xA1, xA2, xA3, xA4, xA5, xA6]
                      (refine tkH (i := 12) (v := ?_) rfl ?_ ?_; rotate_left 1; (focus (intro w hSw; (try dsimp only at hSw); go_simp; try (with_reducible rfl))))
                      try simp only [Act.put, xA1, xA2, xA3, xA4, xA5, xA6]
                      (refine tkH (i := 13) (v := ?_) rfl ?_ ?_; rotate_left 1; (focus (intro w hSw; (try dsimp only at hSw); go_simp; try (with_reducible rfl))))
                      try simp only [Act.put, xA1, xA2, xA3, xA4, xA5, xA6]
                      refine wpAnyH_ready (rs := [14]) (by kernel_rfl) (by simp) ?_
                      refine AllReadyH.cons rfl (fun K hK => ?_) AllReadyH.nil
                      go_simp
                      go_at_call 77; refine (HKR2.out V0 (hx10.trans hHeld.2.2.2.2)).mono ?_; rintro e V1 ⟨rfl, hz⟩
                      refine hK.out _ _ ?_ (fun hHeld => ?_)
                      · exact ⟨Ext.cell hz hHeld.1, Ext.cell hz hHeld.2.1, Ext.cell hz hHeld.2.2.1, Ext.cell hz hHeld.2.2.2.1, hHeld.2.2.2.2.trans hz⟩
                      clear hK K
                      clear hz
                      try simp only [Act.put, xA1, xA2, xA3, xA4, xA5, xA6]
                      (refine tkH (i := 15) (v := ?_) rfl ?_ ?_; rotate_left 1; (focus (intro w hSw; (try dsimp only at hSw); go_simp; try (with_reducible rfl))))
                      try simp only [Act.put, xA1, xA2, xA3, xA4, xA5, xA6]
                      (refine tkH (i := 16) (v := ?_) rfl ?_ ?_; rotate_left 1; (focus (intro w hSw; (try dsimp only at hSw); go_simp; try (with_reducible rfl))))
                      try simp only [Act.put, xA1, xA2, xA3, xA4, xA5, xA6]
                      (refine tkH (i := 17) (v := ?_) rfl ?_ ?_; rotate_left 1; (focus (intro w hSw; (try dsimp only at hSw); go_simp; try (with_reducible rfl))))
                      try simp only [Act.put, xA1, xA2, xA3, xA4, xA5, xA6]
                      (refine tkH (i := 18) (v := ?_) rfl ?_ ?_; rotate_left 1; (focus (intro w hSw; (try dsimp only at hSw); go_simp; try (with_reducible rfl))))
                      try simp only [Act.put, xA1, xA2, xA3, xA4, xA5, xA6]
                      (refine tkH (i := 19) (v := ?_) rfl ?_ ?_; rotate_left 1; (focus (intro w hSw; (try dsimp only at hSw); go_simp; try (with_reducible rfl))))
                      try simp only [Act.put, xA1, xA2, xA3, xA4, xA5, xA6]
                      (refine tkH (i := 20) (v := ?_) rfl ?_ ?_; rotate_left 1; (focus (intro w hSw; (try dsimp only at hSw); go_simp; try (with_reducible rfl))))
                      try simp only [Act.put, xA1, xA2, xA3, xA4, xA5, xA6]
                      (refine tkH (i := 21) (v := ?_) rfl ?_ ?_; rotate_left 1; (focus (intro w hSw; (try dsimp only at hSw); go_simp; try (with_reducible rfl))))
                      try simp only [Act.put, xA1, xA2, xA3, xA4, xA5, xA6]
                      (refine tkH (i := 22) (v := ?_) rfl ?_ ?_; rotate_left 1; (focus (intro w hSw; (try dsimp only at hSw); go_simp; try (with_reducible rfl))))
                      try simp only [Act.put, xA1, xA2, xA3, xA4, xA5, xA6]
                      (refine tkH (i := 23) (v := ?_) rfl ?_ ?_; rotate_left 1; (focus (intro w hSw; (try dsimp only at hSw); go_simp; try (with_reducible rfl))))
                      try simp only [Act.put, xA1, xA2, xA3, xA4, xA5, xA6]
                      (refine tkH (i := 24) (v := ?_) rfl ?_ ?_; rotate_left 1; (focus (intro w hSw; (try dsimp only at hSw); go_simp; try (with_reducible rfl))))
                      try simp only [Act.put, xA1, xA2, xA3, xA4, xA5, xA6]
                      (refine tkH (i := 25) (v := ?_) rfl ?_ ?_; rotate_left 1; (focus (intro w hSw; (try dsimp only at hSw); go_simp; try (with_reducible rfl))))
                      try simp only [Act.put, xA1, xA2, xA3, xA4, xA5, xA6]
                      (refine tkH (i := 26) (v := ?_) rfl ?_ ?_; rotate_left 1; (focus (intro w hSw; (try dsimp only at hSw); go_simp; try (with_reducible rfl))))
                      try simp only [Act.put, xA1, xA2, xA3, xA4, xA5, xA6]
                      (refine tkH (i := 27) (v := ?_) rfl ?_ ?_; rotate_left 1; (focus (intro w hSw; (try dsimp only at hSw); go_simp; try (with_reducible rfl))))
                      try simp only [Act.put, xA1, xA2, xA3, xA4, xA5, xA6]
                      refine wpAnyH_done (by kernel_rfl) ?_ _
                      have hzz := hHeld.2.2.2.2
                      go_wp2_with fail
                      go_roundg (leftK ml (d ++ [r]))
                      case measure => have h1 := HG.out; have h2 := HLK.out; omega
                      case rel => exact ⟨d ++ [r], hR10.ext hzz, rfl, hM10.ext hzz, Lib.hid (HF10.out.ext hzz), Lib.hid (by rw [HS.out]; exact HA10.out.ext hzz), hb10.ext hzz⟩
                · have KR := HKR.out
                  simp only [decide_eq_false hnm] at KR
                  have HKR2 := Lib.hid KR
                  have ht := HST9.out
                  rw [decide_eq_false hnm] at ht
                  have hs := HSN.out
                  rw [if_neg (by rw [ht]; simp)] at hs
                  have HS := Lib.hid hs
                  clear hs ht hl0 hnm KR
                  go_upto_region 18 with fail
                  refine wp_region_held_drew (S := fun W' => W'.cell? ⟨w.heap.size, 0, none⟩ = some (.slice (some ⟨bb, oo, none⟩) P.ts.length ca) ∧ W'.cell? ⟨w.heap.size, 1, none⟩ = some b ∧ W'.cell? ⟨TB, 0, none⟩ = some (.int .i64 x) ∧ W'.cell? ⟨nb, no + kk, none⟩ = some (.int .i64 nr) ∧ Ext w10 W') (by kernel_rfl) ?_ (fun hHeld => ?_)
                  · exact ⟨d0, d1, e0, cn, Ext.drew (Ext.refl _)⟩
                  obtain ⟨V0, hV0⟩ : ∃ V, World.drew w10 = V := ⟨_, rfl⟩
                  rw [hV0] at hHeld ⊢
                  clear hV0
                  (refine tkH (i := 0) (v := ?_) rfl ?_ ?_; rotate_left 1; (focus (intro w hSw; (try dsimp only at hSw); go_simp; try (with_reducible rfl))))
                  try simp only [Act.put, xA1, xA2, xA4, xA5, xA6]
                  (refine tkH (i := 1) (v := ?_) rfl ?_ ?_; rotate_left 1; (focus (intro w hSw; (try dsimp only at hSw); go_simp; try (with_reducible rfl))))
                  try simp only [Act.put, xA1, xA2, xA3, xA4, xA5, xA6]
                  (refine tkH (i := 2) (v := ?_) rfl ?_ ?_; rotate_left 1; (focus (intro w hSw; (try dsimp only at hSw); go_simp; try (with_reducible rfl))))
                  try simp only [Act.put, xA1, xA2, xA3, xA4, xA5, xA6]
                  (refine tkH (i := 3) (v := ?_) rfl ?_ ?_; rotate_left 1; (focus (intro w hSw; (try dsimp only at hSw); go_simp; try (with_reducible rfl))))
                  try simp only [Act.put, xA1, xA2, xA3, xA4, xA5, xA6]
                  (refine tkH (i := 4) (v := ?_) rfl ?_ ?_; rotate_left 1; (focus (intro w hSw; (try dsimp only at hSw); go_simp; try (with_reducible rfl))))
                  try simp only [Act.put, xA1, xA2, xA3, xA4, xA5, xA6]
                  (refine tkH (i := 5) (v := ?_) rfl ?_ ?_; rotate_left 1; (focus (intro w hSw; (try dsimp only at hSw); go_simp; try (with_reducible rfl))))
                  try simp only [Act.put, xA1, xA2, xA3, xA4, xA5, xA6]
                  (refine tkH (i := 6) (v := ?_) rfl ?_ ?_; rotate_left 1; (focus (intro w hSw; (try dsimp only at hSw); go_simp; try (with_reducible rfl))))
                  try simp only [Act.put, xA1, xA2, xA3, xA4, xA5, xA6]
                  (refine tkH (i := 7) (v := ?_) rfl ?_ ?_; rotate_left 1; (focus (intro w hSw; (try dsimp only at hSw); go_simp; try (with_reducible rfl))))
                  try simp only [Act.put, xA1, xA2, xA3, xA4, xA5, xA6]
                  (refine tkH (i := 8) (v := ?_) rfl ?_ ?_; rotate_left 1; (focus (intro w hSw; (try dsimp only at hSw); go_simp; try (with_reducible rfl))))
                  try simp only [Act.put, xA1, xA2, xA3, xA4, xA5, xA6]
                  (refine tkH (i := 9) (v := ?_) rfl ?_ ?_; rotate_left 1; (focus (intro w hSw; (try dsimp only at hSw); go_simp; try (with_reducible rfl))))
                  try simp only [Act.put, xA1, xA2, xA3, xA4, xA5, xA6]
                  (refine tkH (i := 10) (v := ?_) rfl ?_ ?_; rotate_left 1; (focus (intro w hSw; (try dsimp only at hSw); go_simp; try (with_reducible rfl))))
                  try simp only [Act.put, xA1, xA2, xA3, xA4, xA5, xA6]
                  (refine tkH (i := 11) (v := ?_) rfl ?_ ?_; rotate_left 1; (focus (intro w hSw; (try dsimp only at hSw); go_simp; try (with_reducible rfl))))
                  try simp only [Act.put, xA1, xA2, xA3, xA4, xA5, xA6]
                  (refine tkH (i := 12) (v := ?_) rfl ?_ ?_; rotate_left 1; (focus (intro w hSw; (try dsimp only at hSw); go_simp; try (with_reducible rfl))))
                  try simp only [Act.put, xA1, xA2, xA3, xA4, xA5, xA6]
                  (refine tkH (i := 13) (v := ?_) rfl ?_ ?_; rotate_left 1; (focus (intro w hSw; (try dsimp only at hSw); go_simp; try (with_reducible rfl))))
                  try simp only [Act.put, xA1, xA2, xA3, xA4, xA5, xA6]
                  refine wpAnyH_ready (rs := [14]) (by kernel_rfl) (by simp) ?_
                  refine AllReadyH.cons rfl (fun K hK => ?_) AllReadyH.nil
                  go_simp
                  go_at_call 77; refine (HKR2.out V0 (hx10.trans hHeld.2.2.2.2)).mono ?_; rintro e V1 ⟨rfl, hz⟩
                  refine hK.out _ _ ?_ (fun hHeld => ?_)
                  · exact ⟨Ext.cell hz hHeld.1, Ext.cell hz hHeld.2.1, Ext.cell hz hHeld.2.2.1, Ext.cell hz hHeld.2.2.2.1, hHeld.2.2.2.2.trans hz⟩
                  clear hK K
                  clear hz
                  try simp only [Act.put, xA1, xA2, xA3, xA4, xA5, xA6]
                  (refine tkH (i := 15) (v := ?_) rfl ?_ ?_; rotate_left 1; (focus (intro w hSw; (try dsimp only at hSw); go_simp; try (with_reducible rfl))))
                  try simp only [Act.put, xA1, xA2, xA3, xA4, xA5, xA6]
                  (refine tkH (i := 16) (v := ?_) rfl ?_ ?_; rotate_left 1; (focus (intro w hSw; (try dsimp only at hSw); go_simp; try (with_reducible rfl))))
                  try simp only [Act.put, xA1, xA2, xA3, xA4, xA5, xA6]
                  (refine tkH (i := 17) (v := ?_) rfl ?_ ?_; rotate_left 1; (focus (intro w hSw; (try dsimp only at hSw); go_simp; try (with_reducible rfl))))
                  try simp only [Act.put, xA1, xA2, xA3, xA4, xA5, xA6]
                  (refine skH (i := 18) rfl ?_)
                  try simp only [Act.put, xA1, xA2, xA3, xA4, xA5, xA6]
                  (refine skH (i := 19) rfl ?_)
                  try simp only [Act.put, xA1, xA2, xA3, xA4, xA5, xA6]
                  (refine skH (i := 20) rfl ?_)
                  try simp only [Act.put, xA1, xA2, xA3, xA4, xA5, xA6]
                  (refine skH (i := 21) rfl ?_)
                  try simp only [Act.put, xA1, xA2, xA3, xA4, xA5, xA6]
                  (refine skH (i := 22) rfl ?_)
                  try simp only [Act.put, xA1, xA2, xA3, xA4, xA5, xA6]
                  (refine skH (i := 23) rfl ?_)
                  try simp only [Act.put, xA1, xA2, xA3, xA4, xA5, xA6]
                  (refine skH (i := 24) rfl ?_)
                  try simp only [Act.put, xA1, xA2, xA3, xA4, xA5, xA6]
                  (refine skH (i := 25) rfl ?_)
                  try simp only [Act.put, xA1, xA2, xA3, xA4, xA5, xA6]
                  (refine skH (i := 26) rfl ?_)
                  try simp only [Act.put, xA1, xA2, xA3, xA4, xA5, xA6]
                  (refine tkH (i := 27) (v := ?_) rfl ?_ ?_; rotate_left 1; (focus (intro w hSw; (try dsimp only at hSw); go_simp; try (with_reducible rfl))))
                  try simp only [Act.put, xA1, xA2, xA3, xA4, xA5, xA6]
                  refine wpAnyH_done (by kernel_rfl) ?_ _
                  have hzz := hHeld.2.2.2.2
                  go_wp2_with fail
                  go_roundg (leftK ml (d ++ [r]))
                  case measure => have h1 := HG.out; have h2 := HLK.out; omega
                  case rel => exact ⟨d ++ [r], hR10.ext hzz, rfl, hM10.ext hzz, Lib.hid (HF10.out.ext hzz), Lib.hid (by rw [HS.out]; exact HA10.out.ext hzz), hb10.ext hzz⟩
        · obtain rfl : k = P.ts.length := by omega
          rw [HX3.out.symm] at HA
          have r0 := HA.out.rb.frozen 0
          have r1 := HA.out.rb.frozen 1
          have r2 := HA.out.rb.cell 0
          have r3 := HA.out.rb.cell 1
          have s0 := HA.out.sb.cell 0
          have s1 := HA.out.sb.cell 1
          go_wp2_with fail
          have hx := hx5.trans HA.out.ex
          exact spd_ret rfl rfl ((HA.out.rb.set 0 _).set 1 _) ((hx.setCell (by simp) _).setCell (by simp) _) HE3.out.symm rfl
  · have h2 := HE.out
    rw [if_neg h0] at h2
    have h3 := HX.out
    rw [if_neg (by rw [h2]; exact h0)] at h3
    have H2 := Lib.hid h2
    have H3 := Lib.hid h3
    have hb : (E != 0) = true := by simp [h0]
    clear h2 h3 h0
    go_wp2_with fail
    exact spd_ret rfl rfl ((qr.set 0 _).set 1 _) ((hx.setCell (by simp) _).setCell (by simp) _) H2.out.symm H3.out.symm
end Go.Proofs.Ytiofdfjcaklmcaa
