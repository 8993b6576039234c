/- objects of the program: by how much those who use a reach pay too much. -/
import Derived.Test.YthopgonbndoidaaVSeq
import Derived.Test.YthopgonbndoidaaVBase
import Derived.Test.YthopgonbndoidaaVPen
import Derived.Test.YthopgonbndoidaaVWt
import Derived.StillTailTactics
namespace Go.Proofs.Ythopgonbndoidaa
open Go.RowKit Go.Shelf

attribute [local go_sem] Oper.semAt_some

/-- the four blocks -/
structure ObI (w W : World) (cs : Array Value) (f g : Nat → Int) : Prop where
  b0 : Cls w.heap.size 114 cs W
  b1 : Cls (w.heap.size + 1) 107 (arr (fun _ => 0)) W
  b2 : Cls (w.heap.size + 1 + 1) 107 (arr f) W
  b3 : Cls (w.heap.size + 1 + 1 + 1) 107 (arr g) W
  ex : Ext w W
theorem ObI.ext {w W W' : World} {cs : Array Value} {f g : Nat → Int} (h : ObI w W cs f g) (x : Ext W W') : ObI w W' cs f g := ⟨h.b0.ext x, h.b1.ext x, h.b2.ext x, h.b3.ext x, h.ex.trans x⟩
theorem ObI.setF {w W : World} {cs : Array Value} {f g : Nat → Int} (h : ObI w W cs f g) (i : Nat) (v : Int) : ObI w (W.setCell ⟨w.heap.size + 1 + 1, i, none⟩ (.int .i64 v)) cs (fun r => if r = i then v else f r) g :=
  ⟨h.b0.other (by omega) i _, h.b1.other (by omega) i _, h.b2.setArr i v, h.b3.other (by omega) i _, h.ex.setCell (by simp; omega) _⟩
theorem ObI.setG {w W : World} {cs : Array Value} {f g : Nat → Int} (h : ObI w W cs f g) (i : Nat) (v : Int) : ObI w (W.setCell ⟨w.heap.size + 1 + 1 + 1, i, none⟩ (.int .i64 v)) cs f (fun r => if r = i then v else g r) :=
  ⟨h.b0.other (by omega) i _, h.b1.other (by omega) i _, h.b2.other (by omega) i _, h.b3.setArr i v, h.ex.setCell (by simp; omega) _⟩

set_option maxRecDepth 100000 in
set_option maxHeartbeats 8000000 in
theorem objects_any (a b v : Value) (T : Tr) (hok : Ok T) (l : List Int) (w : World) (hT : TrAt w a b T) (hl : IntsAt w v l) (hlen : l.length = T.ps.length) (hb : ∀ n ∈ l, 0 ≤ n ∧ n ≤ 1073741824) :
    Calls Try.prog 113 #[.agg #[a, b, v]] w fun e w' => e = .returned (.agg (arr (objX T l))) ∧ Ext w w' := by
  obtain ⟨OX, hOX⟩ : ∃ OX, objX T l = OX := ⟨_, rfl⟩
  have HOX := Lib.hid hOX
  rw [hOX]
  clear hOX
  obtain ⟨ar, cr, rfl, hlr⟩ := hT.r.len
  obtain ⟨ab, cb, rfl, hlb⟩ := hT.p.len
  obtain ⟨av, cv, rfl, hlv⟩ := hl.len
  rw [hlen]
  have hlp := hok.lp
  have hlrs := hok.lr
  have HLEN := Lib.hid hlen
  have HB := Lib.hid hb
  refine (callsIn_wide (n := 5)).1 ?_
  refine callsIn_of_wp_marks Try.func113 rfl trivial ?_ rfl; simp only [Try.ntmps113, List.size_toArray, List.length_cons, List.length_nil, Nat.reduceAdd, Nat.reduceSub, Array.replicate_succ, Array.replicate_zero, List.push_toArray, List.append_toArray, List.nil_append, List.cons_append]
  gi_wp2_with fail
  obtain ⟨W1, hW1⟩ : ∃ W1, (((w.alloc (.cells #[.slice ar T.rs.length cr, .slice ab T.ps.length cb, .slice av T.ps.length cv] 114)).alloc (.cells (arr (fun _ => 0)) 107)).alloc (.cells (arr (fun _ => 0)) 107)).alloc (.cells (arr (fun _ => 0)) 107) = W1 := ⟨_, rfl⟩
  obtain ⟨q0, q1, q2, q3, hx1, _⟩ := alloc4 (w := w) (Ext.refl ((((w.alloc (.cells #[.slice ar T.rs.length cr, .slice ab T.ps.length cb, .slice av T.ps.length cv] 114)).alloc (.cells (arr (fun _ => 0)) 107)).alloc (.cells (arr (fun _ => 0)) 107)).alloc (.cells (arr (fun _ => 0)) 107)))
  rw [hW1] at q0 q1 q2 q3 hx1
  rw [arr_zero] at hW1
  try rw [hW1]
  clear hW1 hlen hb
  gi_loopw [13] (fun i W => ∃ j : Nat, j ≤ T.ps.length ∧ i = .int .i64 j ∧ Hid (ObI w W #[.slice ar T.rs.length cr, .slice ab T.ps.length cb, .slice av T.ps.length cv] (atP ((T.ps.zip l).take j)) (fun _ => 0))) (fun i _ => T.ps.length - (intOf i).toNat)
  case atStart => exact ⟨0, Nat.zero_le _, rfl, Lib.hid ⟨q0, q1, q2, q3, hx1⟩⟩
  case round =>
    obtain ⟨j, hj, rfl, HI⟩ := hrel
    by_cases hlt : j < T.ps.length
    · have hI := HI.out
      have hlt2 : j < l.length := by have := HLEN.out; omega
      obtain ⟨bb, oo, rfl, c0, c1, c2⟩ := (hT.p.ext hI.ex).get j hlt
      have hl' := hl
      rw [HLEN.out] at hl'
      obtain ⟨bp, op, rfl, cp⟩ := (hl.ext hI.ex).get j hlt2
      have hpv := hok.pv _ (List.getElem_mem hlt)
      have hpn := HB.out _ (List.getElem_mem hlt2)
      have hzl : j < (T.ps.zip l).length := by simp; omega
      have hzg : (T.ps.zip l)[j] = (T.ps[j], l[j]) := by simp
      have hsn : atP ((T.ps.zip l).take (j + 1)) = atS (atP ((T.ps.zip l).take j)) (T.ps[j], l[j]) := by rw [take_succ_get _ j hzl, atP_snoc, hzg]
      have hbd := fun r => atP_bd ((T.ps.zip l).take j) (fun q hq => HB.out q.2 (List.of_mem_zip (List.mem_of_mem_take hq)).2) r
      have hzt : ((T.ps.zip l).take j).length = j := by simp; omega
      rw [hzt] at hbd
      obtain ⟨f, hf⟩ : ∃ f, atP ((T.ps.zip l).take j) = f := ⟨_, rfl⟩
      rw [hf] at hsn hbd hI
      obtain ⟨x, hx⟩ : ∃ x, T.ps[j].id = x := ⟨_, rfl⟩
      obtain ⟨z, hz⟩ : ∃ x, T.ps[j].w = x := ⟨_, rfl⟩
      obtain ⟨y, hy⟩ : ∃ y : Nat, T.ps[j].reach = y := ⟨T.ps[j].reach.toNat, by omega⟩
      obtain ⟨n, hn⟩ : ∃ n, l[j] = n := ⟨_, rfl⟩
      have hatS : atS f (T.ps[j], l[j]) = fun r => if r = y then f y + n else f r := by
        funext r
        unfold atS
        simp only [hy, hn, Int.toNat_natCast]
        by_cases h : r = y
        · rw [if_pos h, if_pos h, h]
        · rw [if_neg h, if_neg h]
      rw [hatS] at hsn
      rw [hx] at c0
      rw [hy] at c1 hpv
      rw [hz] at c2
      rw [hn] at cp hpn
      have hy24 : y < 24 := by have := hpv.2.1.2; omega
      have hy24i : (y : Int) < 24 := by omega
      have hby := hbd y
      have HSN := Lib.hid hsn
      have HI2 := Lib.hid hI
      have HPN := Lib.hid hpn
      obtain ⟨Y, hY⟩ : ∃ Y, wr.alloc (.cells #[.int .i64 x, .int .i64 y, .int .i64 z] 45) = Y := ⟨_, rfl⟩
      have hxY : Ext wr Y := by rw [← hY]; exact (by repeat (first | exact Ext.refl _ | assumption | refine Ext.alloc ?_ _ | refine Ext.drew ?_ | refine Ext.drewN _ ?_ | refine Ext.trans ?_ (by assumption)))
      have hbY : Cls wr.heap.size 45 #[.int .i64 x, .int .i64 y, .int .i64 z] Y := by rw [← hY]; exact Cls.new _ _ _
      have hIY := hI.ext hxY
      have d1 : wr.cell? ⟨w.heap.size, 1, none⟩ = some (.slice (some ⟨bb, oo, none⟩) T.ps.length cb) := hI.b0.cell 1
      have e2 : Y.cell? ⟨w.heap.size, 2, none⟩ = some (.slice (some ⟨bp, op, none⟩) T.ps.length cv) := hIY.b0.cell 2
      have e3 : Y.cell? ⟨wr.heap.size, 1, none⟩ = some (.int .i64 y) := hbY.cell 1
      have e4 := hxY.cell cp
      have e5 := arr_cell hIY.b2 hy24
      have e6 := hIY.b2.frozen y
      obtain ⟨fy, hfy⟩ : ∃ fy, f y = fy := ⟨_, rfl⟩
      rw [hfy] at e5 hby
      have HFY := Lib.hid hfy
      have hbb : 0 ≤ fy ∧ fy ≤ 25769803776 := by omega
      clear hf hx hz hy hn hatS hsn hbd hzt hzg hzl hby hpv hl' hfy HI hI
      have hmx : (Try.prog).follows .mixedOrders = true := by kernel_rfl
      gi_wp2_with fail
      refine wpIn_wide.2 ?_
      go_still_tail 11, (by kernel_rfl)
      change wpList _ _ _ _ _ Y.drew
      obtain ⟨W2, hW2⟩ : ∃ W2, Y.drew = W2 := ⟨_, rfl⟩
      have hy2 : Ext Y W2 := by rw [← hW2]; exact (by repeat (first | exact Ext.refl _ | assumption | refine Ext.alloc ?_ _ | refine Ext.drew ?_ | refine Ext.drewN _ ?_ | refine Ext.trans ?_ (by assumption)))
      rw [hW2]
      clear hW2 e2 e3 e4 e6
      replace e5 := hy2.cell e5
      have e6 := (hIY.b2.ext hy2).frozen y
      have hI9 := (hIY.ext hy2).setF y (fy + n)
      have HI9 := Lib.hid hI9
      clear hI9
      go_wp2
      gi_wp2
      go_roundw
      case rel => exact ⟨j + 1, by omega, by go_num, Lib.hid (by rw [HSN.out, HFY.out]; exact HI9.out)⟩
      case measure => simp [intOf]; omega
    · obtain rfl : j = T.ps.length := by omega
      have hI := HI.out
      rw [List.take_of_length_le (by simp; omega)] at hI
      obtain ⟨f0, hf0⟩ : ∃ f0, atP (T.ps.zip l) = f0 := ⟨_, rfl⟩
      have hbd := fun r => atP_bd (T.ps.zip l) (fun q hq => HB.out q.2 (List.of_mem_zip hq).2) r
      have hzl : (T.ps.zip l).length ≤ 24 := by simp; omega
      rw [hf0] at hI hbd
      have hbd2 : ∀ r, 0 ≤ f0 r ∧ f0 r ≤ 25769803776 := fun r => by have := hbd r; omega
      have HBD := Lib.hid hbd2
      have HF0 := Lib.hid hf0
      clear hbd hbd2 hf0 HI
      have d0 : wr.cell? ⟨w.heap.size, 0, none⟩ = some (.slice ar T.rs.length cr) := hI.b0.cell 0
      gi_wp2_with fail
      refine ⟨trivial, (callsIn_wide.2 (Backward_any ar _ _ _)).mono ?_⟩
      rintro e w3 ⟨rfl, hw3⟩
      obtain ⟨O, hO⟩ : ∃ O, wr.heap.size = O := ⟨_, rfl⟩
      have hx3 : Ext wr w3 := by rw [← hw3]; exact (by repeat (first | exact Ext.refl _ | assumption | refine Ext.alloc ?_ _ | refine Ext.drew ?_ | refine Ext.drewN _ ?_ | refine Ext.trans ?_ (by assumption)))
      have hbO : Cls O 22 #[.slice ar T.rs.length cr] w3 := by rw [← hw3]; exact Cls.newAt _ _ _ hO.symm
      have hs3 : w3.heap.size = O + 1 := by rw [← hw3, World.size_alloc, hO]
      have hI3 := hI.ext hx3
      have h3lt := hI.b3.lt
      rw [hO] at h3lt
      try rw [hO]
      clear hw3 d0
      gi_wp2_with fail
      have hseq := back_seq O T.rs (by omega) (.slice ar T.rs.length cr) w w3 hI3.ex _ hbO hT.r
      have hbs : ∀ b ∈ [O], b < w3.heap.size := by simp; omega
      have hIb : AbidesBox O (fun (pre : List Nat) W => (ObI w W #[.slice ar T.rs.length cr, .slice ab T.ps.length cb, .slice av T.ps.length cv] (obF T.rs f0 pre).1 (obF T.rs f0 pre).2) ∧ w3.heap.size ≤ W.heap.size) :=
        ⟨fun s W u h => ⟨⟨h.1.b0.other (by omega) 0 _, h.1.b1.other (by omega) 0 _, h.1.b2.other (by omega) 0 _, h.1.b3.other (by omega) 0 _, h.1.ex.setCell (p := ⟨O, 0, none⟩) (by simp; omega) _⟩, by simpa [World.setCell] using h.2⟩, fun s W o h => ⟨h.1.ext (by repeat (first | exact Ext.refl _ | assumption | refine Ext.alloc ?_ _ | refine Ext.drew ?_ | refine Ext.drewN _ ?_ | refine Ext.trans ?_ (by assumption))), by simp; omega⟩⟩
      have hI0 : OwnFrom w3.heap.size (fun (pre : List Nat) W => (ObI w W #[.slice ar T.rs.length cr, .slice ab T.ps.length cb, .slice av T.ps.length cv] (obF T.rs f0 pre).1 (obF T.rs f0 pre).2) ∧ w3.heap.size ≤ W.heap.size) := by
        have h1 := OwnFrom.and (OwnFrom.and (OwnFrom.and ((Cls.own (w.heap.size) 114 (fun (_ : List Nat) => #[.slice ar T.rs.length cr, .slice ab T.ps.length cb, .slice av T.ps.length cv])).from w3.heap.size) ((Cls.own (w.heap.size + 1) 107 (fun (_ : List Nat) => arr (fun _ => 0))).from w3.heap.size)) (OwnFrom.and ((Cls.own (w.heap.size + 1 + 1) 107 (fun (pre : List Nat) => arr (obF T.rs f0 pre).1)).from w3.heap.size) ((Cls.own (w.heap.size + 1 + 1 + 1) 107 (fun (pre : List Nat) => arr (obF T.rs f0 pre).2)).from w3.heap.size))) (OwnFrom.and (ownFrom_below (w₀ := w) (β := List Nat) (Nat.le_refl _) hI3.ex.size) (ownFrom_size w3.heap.size w3.heap.size))
        intro s X Z row hs hg hr
        obtain ⟨⟨⟨k0, k1⟩, k2, k3⟩, k4, k5⟩ := h1 s X Z row ⟨⟨⟨hs.1.b0, hs.1.b1⟩, hs.1.b2, hs.1.b3⟩, hs.1.ex, hs.2⟩ hg hr
        exact ⟨⟨k0, k1, k2, k3, k4⟩, k5⟩
      have hIx : ∀ c : Code, OwnFrom w3.heap.size (fun (_ : List Nat) (_ : World) => False) := fun c => fun _ _ _ _ hs _ _ => hs
      have hn3 : w.heap.size ≤ w3.heap.size := by omega
      refine range_own2 (gf := 118) (lb := #[.pointer (some ⟨O, 0, none⟩)]) ?hg ?eg (n₀ := w.heap.size) (bs := [O]) (Br := O) hn3 hbs (by omega)
        hseq ?hps (fun (pre : List Nat) W => (ObI w W #[.slice ar T.rs.length cr, .slice ab T.ps.length cb, .slice av T.ps.length cv] (obF T.rs f0 pre).1 (obF T.rs f0 pre).2) ∧ w3.heap.size ≤ W.heap.size) _ hI0 hIx hIb ⟨hI3, Nat.le_refl _⟩ (fun x => .cells #[.int .i64 (abv T.rs x), .int .i64 (cst T.rs x)] 78) ?round ?done ?stop
      case hg => rfl
      case eg => exact enters_of Try.func118 (by kernel_rfl) rfl
      case hps => exact fun _ => rfl
      case round =>
        apply Exists.intro
        constructor
        · intro l x W K hK
          dsimp only [encB]
          gi_wp2
          exact hK
        · rintro l pre i W0 W ⟨hJ, hsz⟩ hpl hbx hB
          obtain ⟨B, hBB⟩ : ∃ B, W0.heap.size = B := ⟨_, rfl⟩
          rw [hBB] at hbx hB ⊢
          clear hBB
          replace hbx : Cls B 78 #[.int .i64 (abv T.rs i), .int .i64 (cst T.rs i)] W := hbx
          have hnx := bk_next hpl
          have hil : i < T.rs.length := by omega
          have hi24 : i < 24 := by omega
          have hi24i : (i : Int) < 24 := by omega
          have hab := (hok.rv.v i hil).1
          rw [← abv_get hil] at hab
          have hcb := cst_bd hok.rv i
          have hob := fun r => obF_bd hok.rv (M := 25769803776) (by omega) HBD.out pre r
          have hp24 : pre.length ≤ 24 := by omega
          have hpw : (2 : Int) ^ pre.length ≤ 2 ^ 24 := by exact_mod_cast Nat.pow_le_pow_right (by omega) hp24
          obtain ⟨pw, hpw2⟩ : ∃ pw : Int, 2 ^ pre.length = pw := ⟨_, rfl⟩
          rw [hpw2] at hob hpw
          have hpw3 : 25769803776 * pw ≤ 432345564227567616 := by omega
          have hsn := obF_snoc T.rs f0 pre i
          obtain ⟨s1, hs1⟩ : ∃ s, (obF T.rs f0 pre).1 = s := ⟨_, rfl⟩
          obtain ⟨s2, hs2⟩ : ∃ s, (obF T.rs f0 pre).2 = s := ⟨_, rfl⟩
          have hsn1 : (obF T.rs f0 (pre ++ [i])).1 = obA T.rs s1 i := by rw [hsn, ← hs1]; rfl
          have hsn2 : (obF T.rs f0 (pre ++ [i])).2 = fun k => if k = i then obO T.rs s1 i else s2 k := by rw [hsn, ← hs1, ← hs2]; rfl
          rw [hs1, hs2] at hJ
          rw [hs1] at hob
          have hfi := (hob i).1
          have hoi : obO T.rs s1 i = max 0 (s1 i - cst T.rs i) := rfl
          obtain ⟨ov, hov⟩ : ∃ ov, obO T.rs s1 i = ov := ⟨_, rfl⟩
          rw [hov] at hoi hsn2
          obtain ⟨si, hsi⟩ : ∃ si, s1 i = si := ⟨_, rfl⟩
          rw [hsi] at hoi hfi
          obtain ⟨ci, hci⟩ : ∃ ci, cst T.rs i = ci := ⟨_, rfl⟩
          rw [hci] at hoi hcb hbx
          have hsb : 0 ≤ si ∧ si ≤ 432345564227567616 := by omega
          have hwr : IntKind.i64.wrap (si - ci) = si - ci := IntWalk.i64_in _ (by omega)
          have g1 := arr_cell hJ.b2 hi24
          rw [hsi] at g1
          have g2 : W.cell? ⟨B, 1, none⟩ = some (.int .i64 ci) := hbx.cell 1
          have g3 : W.cell? ⟨B, 0, none⟩ = some (.int .i64 (abv T.rs i)) := hbx.cell 0
          have g4 := hJ.b3.frozen i
          have g5 : W.cell? ⟨w.heap.size + 1 + 1 + 1, i, none⟩ = some (.int .i64 (s2 i)) := arr_cell hJ.b3 hi24
          have hmx : (Try.prog).follows .mixedOrders = true := by kernel_rfl
          have HOI := Lib.hid hoi
          have HS1 := Lib.hid hsn1
          have HS2 := Lib.hid hsn2
          have HOB := Lib.hid hob
          have HAB := Lib.hid hab
          have HOV := Lib.hid hov
          have HPW := Lib.hid hpw3
          clear hoi hsn1 hsn2 hob hab hov hs1 hs2 hsn hpw2 hpw hpw3 hnx hsi hci hfi
          gi_wp2
          refine wpIn_round_last (z := 9) (S := fun W' => W'.cell? ⟨w.heap.size + 1 + 1, i, none⟩ = some (.int .i64 si) ∧ W'.cell? ⟨B, 1, none⟩ = some (.int .i64 ci) ∧ Ext W W') (by kernel_rfl) (by kernel_rfl) (by rintro ⟨_, _, h⟩; exact h) ?_ (fun hHeld => ?_)
          · exact ⟨g1, g2, Ext.drew (Ext.refl _)⟩
          (refine wpAnyL_take (i := 0) (v := ?_) rfl (by kernel_rfl) (by kernel_rfl) (by kernel_rfl) (by kernel_rfl) (fun _ _ _ h => h) (Or.inl ⟨by rfl, ?_⟩) (by assumption) ?_; rotate_left 1; (focus (intro w hSw; (try dsimp only at hSw); go_simp; try (with_reducible rfl))))
          try simp only [Act.put, List.getElem_toArray, List.getElem_cons_zero, List.setIfInBounds_toArray, List.set_cons_zero, List.set_cons_succ]
          (refine wpAnyL_take (i := 1) (v := ?_) rfl (by kernel_rfl) (by kernel_rfl) (by kernel_rfl) (by kernel_rfl) (fun _ _ _ h => h) (Or.inl ⟨by rfl, ?_⟩) (by assumption) ?_; rotate_left 1; (focus (intro w hSw; (try dsimp only at hSw); go_simp; try (with_reducible rfl))))
          try simp only [Act.put, List.getElem_toArray, List.getElem_cons_zero, List.getElem_cons_succ, List.setIfInBounds_toArray, List.set_cons_zero, List.set_cons_succ]
          (refine wpAnyL_take (i := 2) (v := ?_) rfl (by kernel_rfl) (by kernel_rfl) (by kernel_rfl) (by kernel_rfl) (fun _ _ _ h => h) (Or.inl ⟨by rfl, ?_⟩) (by assumption) ?_; rotate_left 1; (focus (intro w hSw; (try dsimp only at hSw); go_simp; try (with_reducible rfl))))
          try simp only [Act.put, List.getElem_toArray, List.getElem_cons_zero, List.getElem_cons_succ, List.setIfInBounds_toArray, List.set_cons_zero, List.set_cons_succ]
          (refine wpAnyL_take (i := 3) (v := ?_) rfl (by kernel_rfl) (by kernel_rfl) (by kernel_rfl) (by kernel_rfl) (fun _ _ _ h => h) (Or.inl ⟨by rfl, ?_⟩) (by assumption) ?_; rotate_left 1; (focus (intro w hSw; (try dsimp only at hSw); go_simp; try (with_reducible rfl))))
          try simp only [Act.put, List.getElem_toArray, List.getElem_cons_zero, List.getElem_cons_succ, List.setIfInBounds_toArray, List.set_cons_zero, List.set_cons_succ]
          (refine wpAnyL_take (i := 4) (v := ?_) rfl (by kernel_rfl) (by kernel_rfl) (by kernel_rfl) (by kernel_rfl) (fun _ _ _ h => h) (Or.inl ⟨by rfl, ?_⟩) (by assumption) ?_; rotate_left 1; (focus (intro w hSw; (try dsimp only at hSw); go_simp; try (with_reducible rfl))))
          try simp only [Act.put, List.getElem_toArray, List.getElem_cons_zero, List.getElem_cons_succ, List.setIfInBounds_toArray, List.set_cons_zero, List.set_cons_succ]
          (refine wpAnyL_take (i := 5) (v := ?_) rfl (by kernel_rfl) (by kernel_rfl) (by kernel_rfl) (by kernel_rfl) (fun _ _ _ h => h) (Or.inl ⟨by rfl, ?_⟩) (by assumption) ?_; rotate_left 1; (focus (intro w hSw; (try dsimp only at hSw); go_simp; try (with_reducible rfl))))
          try simp only [Act.put, List.getElem_toArray, List.getElem_cons_zero, List.getElem_cons_succ, List.setIfInBounds_toArray, List.set_cons_zero, List.set_cons_succ]
          (refine wpAnyL_take (i := 6) (v := ?_) rfl (by kernel_rfl) (by kernel_rfl) (by kernel_rfl) (by kernel_rfl) (fun _ _ _ h => h) (Or.inl ⟨by rfl, ?_⟩) (by assumption) ?_; rotate_left 1; (focus (intro w hSw; (try dsimp only at hSw); go_simp; try (with_reducible rfl))))
          try simp only [Act.put, List.getElem_toArray, List.getElem_cons_zero, List.getElem_cons_succ, List.setIfInBounds_toArray, List.set_cons_zero, List.set_cons_succ]
          (refine wpAnyL_take (i := 7) (v := ?_) rfl (by kernel_rfl) (by kernel_rfl) (by kernel_rfl) (by kernel_rfl) (fun _ _ _ h => h) (Or.inl ⟨by rfl, ?_⟩) (by assumption) ?_; rotate_left 1; (focus (intro w hSw; (try dsimp only at hSw); go_simp; try (with_reducible rfl))))
          try simp only [Act.put, List.getElem_toArray, List.getElem_cons_zero, List.getElem_cons_succ, List.setIfInBounds_toArray, List.set_cons_zero, List.set_cons_succ]
          (refine wpAnyL_take (i := 8) (v := ?_) rfl (by kernel_rfl) (by kernel_rfl) (by kernel_rfl) (by kernel_rfl) (fun _ _ _ h => h) (Or.inl ⟨by rfl, ?_⟩) (by assumption) ?_; rotate_left 1; (focus (intro w hSw; (try dsimp only at hSw); go_simp; try (with_reducible rfl))))
          try simp only [Act.put, List.getElem_toArray, List.getElem_cons_zero, List.getElem_cons_succ, List.setIfInBounds_toArray, List.set_cons_zero, List.set_cons_succ]
          refine wpAnyL_one (i := 9) (by kernel_rfl) rfl (fun K hK => ?_)
          have k2 := (hJ.b3.ext hHeld.2.2).frozen i; have k3 : W.drew.cell? ⟨w.heap.size + 1 + 1 + 1, i, none⟩ = some (.int .i64 (s2 i)) := g5
          go_simp
          refine hK.out _ _ (fun h => absurd rfl h) (fun _ => ?_)
          clear hK K
          try simp only [Act.put, List.getElem_toArray, List.getElem_cons_zero, List.getElem_cons_succ, List.setIfInBounds_toArray, List.set_cons_zero, List.set_cons_succ]
          refine wpAnyL_done (by kernel_rfl) ?_ _
          have hmaxv : (if ci < si then si - ci else 0) = ov := by have h := HOI.out; split <;> omega
          rw [hmaxv]
          clear hmaxv
          have dr : Ext (W.setCell ⟨w.heap.size + 1 + 1 + 1, i, none⟩ (.int .i64 ov)) (W.setCell ⟨w.heap.size + 1 + 1 + 1, i, none⟩ (.int .i64 ov)).drew := Ext.drew (Ext.refl _)
          have hV := (hJ.setG i ov).ext dr
          have hBV := (hbx.other (B' := w.heap.size + 1 + 1 + 1) (by omega) i (.int .i64 ov)).ext dr
          have hKO : KeepsOthers W (W.setCell ⟨w.heap.size + 1 + 1 + 1, i, none⟩ (.int .i64 ov)).drew := (KeepsOthers.setCell _ _ _).trans (KeepsOthers.drew _)
          have hKp : KpB w.heap.size [O] W (W.setCell ⟨w.heap.size + 1 + 1 + 1, i, none⟩ (.int .i64 ov)).drew := KpB.trans (KpB.set W (p := ⟨w.heap.size + 1 + 1 + 1, i, none⟩) (by simp; omega) (by simp; omega) _) (KpB.ext dr (by simp [World.setCell]; omega) (by simp [World.setCell]; omega))
          have hsV : w3.heap.size ≤ (W.setCell ⟨w.heap.size + 1 + 1 + 1, i, none⟩ (.int .i64 ov)).drew.heap.size := Nat.le_trans hsz hKO.size
          obtain ⟨V, hVV⟩ : ∃ V, (W.setCell ⟨w.heap.size + 1 + 1 + 1, i, none⟩ (.int .i64 ov)).drew = V := ⟨_, rfl⟩
          rw [hVV] at hV hBV hKO hKp hsV ⊢
          clear hVV dr g1 g2 g3 g4 g5 hHeld hwr
          have r1 : V.cell? ⟨B, 0, none⟩ = some (.int .i64 (abv T.rs i)) := hBV.cell 0
          by_cases hab0 : 0 ≤ abv T.rs i
          · obtain ⟨y, hy⟩ : ∃ y : Nat, abv T.rs i = y := ⟨(abv T.rs i).toNat, by omega⟩
            have hab := HAB.out
            have hA : obA T.rs s1 i = fun k => if k = y then s1 y + ov else s1 k := by
              unfold obA
              rw [if_pos hab0, hy, HOV.out]
              funext k
              simp only [Int.toNat_natCast]
              by_cases h : k = y
              · rw [if_pos h, if_pos h, h]
              · rw [if_neg h, if_neg h]
            rw [hy] at r1 hab ⊢
            have hy24 : y < 24 := by omega
            have hy24i : (y : Int) < 24 := by omega
            have hyi : (0 : Int) ≤ y := by omega
            have hsy := (HOB.out y).1
            obtain ⟨sy, hsyy⟩ : ∃ sy, s1 y = sy := ⟨_, rfl⟩
            rw [hsyy] at hsy hA
            have hov := HOI.out
            have hwr2 : IntKind.i64.wrap (sy + ov) = sy + ov := IntWalk.i64_in _ (by have hpw' := HPW.out; omega)
            have r2 : V.cell? ⟨w.heap.size + 1 + 1, y, none⟩ = some (.int .i64 sy) := by have h := arr_cell hV.b2 hy24; rw [hsyy] at h; exact h
            have r3 : V.cell? ⟨w.heap.size + 1 + 1 + 1, i, none⟩ = some (.int .i64 ov) := by have h := arr_cell hV.b3 hi24; simpa using h
            have r4 := hV.b2.frozen y
            have HA := Lib.hid hA
            clear hA hy hsyy hov hsy hab hab0
            gi_wp2
            refine wpIn_round_last (z := 9) (S := fun W' => W'.cell? ⟨B, 0, none⟩ = some (.int .i64 y) ∧ W'.cell? ⟨w.heap.size + 1 + 1, y, none⟩ = some (.int .i64 sy) ∧ W'.cell? ⟨w.heap.size + 1 + 1 + 1, i, none⟩ = some (.int .i64 ov) ∧ Ext V W') (by kernel_rfl) (by kernel_rfl) (by rintro ⟨_, _, h⟩; exact h) ?_ (fun hHeld => ?_)
            · exact ⟨r1, r2, r3, Ext.drew (Ext.refl _)⟩
            (refine wpAnyL_take (i := 0) (v := ?_) rfl (by kernel_rfl) (by kernel_rfl) (by kernel_rfl) (by kernel_rfl) (fun _ _ _ h => h) (Or.inl ⟨by rfl, ?_⟩) (by assumption) ?_; rotate_left 1; (focus (intro w hSw; (try dsimp only at hSw); go_simp; try (with_reducible rfl))))
            try simp only [Act.put, List.getElem_toArray, List.getElem_cons_zero, List.setIfInBounds_toArray, List.set_cons_zero, List.set_cons_succ]
            (refine wpAnyL_take (i := 1) (v := ?_) rfl (by kernel_rfl) (by kernel_rfl) (by kernel_rfl) (by kernel_rfl) (fun _ _ _ h => h) (Or.inl ⟨by rfl, ?_⟩) (by assumption) ?_; rotate_left 1; (focus (intro w hSw; (try dsimp only at hSw); go_simp; try (with_reducible rfl))))
            try simp only [Act.put, List.getElem_toArray, List.getElem_cons_zero, List.getElem_cons_succ, List.setIfInBounds_toArray, List.set_cons_zero, List.set_cons_succ]
            (refine wpAnyL_take (i := 2) (v := ?_) rfl (by kernel_rfl) (by kernel_rfl) (by kernel_rfl) (by kernel_rfl) (fun _ _ _ h => h) (Or.inl ⟨by rfl, ?_⟩) (by assumption) ?_; rotate_left 1; (focus (intro w hSw; (try dsimp only at hSw); go_simp; try (with_reducible rfl))))
            try simp only [Act.put, List.getElem_toArray, List.getElem_cons_zero, List.getElem_cons_succ, List.setIfInBounds_toArray, List.set_cons_zero, List.set_cons_succ]
            (refine wpAnyL_take (i := 3) (v := ?_) rfl (by kernel_rfl) (by kernel_rfl) (by kernel_rfl) (by kernel_rfl) (fun _ _ _ h => h) (Or.inl ⟨by rfl, ?_⟩) (by assumption) ?_; rotate_left 1; (focus (intro w hSw; (try dsimp only at hSw); go_simp; try (with_reducible rfl))))
            try simp only [Act.put, List.getElem_toArray, List.getElem_cons_zero, List.getElem_cons_succ, List.setIfInBounds_toArray, List.set_cons_zero, List.set_cons_succ]
            (refine wpAnyL_take (i := 4) (v := ?_) rfl (by kernel_rfl) (by kernel_rfl) (by kernel_rfl) (by kernel_rfl) (fun _ _ _ h => h) (Or.inl ⟨by rfl, ?_⟩) (by assumption) ?_; rotate_left 1; (focus (intro w hSw; (try dsimp only at hSw); go_simp; try (with_reducible rfl))))
            try simp only [Act.put, List.getElem_toArray, List.getElem_cons_zero, List.getElem_cons_succ, List.setIfInBounds_toArray, List.set_cons_zero, List.set_cons_succ]
            (refine wpAnyL_take (i := 5) (v := ?_) rfl (by kernel_rfl) (by kernel_rfl) (by kernel_rfl) (by kernel_rfl) (fun _ _ _ h => h) (Or.inl ⟨by rfl, ?_⟩) (by assumption) ?_; rotate_left 1; (focus (intro w hSw; (try dsimp only at hSw); go_simp; try (with_reducible rfl))))
            try simp only [Act.put, List.getElem_toArray, List.getElem_cons_zero, List.getElem_cons_succ, List.setIfInBounds_toArray, List.set_cons_zero, List.set_cons_succ]
            (refine wpAnyL_take (i := 6) (v := ?_) rfl (by kernel_rfl) (by kernel_rfl) (by kernel_rfl) (by kernel_rfl) (fun _ _ _ h => h) (Or.inl ⟨by rfl, ?_⟩) (by assumption) ?_; rotate_left 1; (focus (intro w hSw; (try dsimp only at hSw); go_simp; try (with_reducible rfl))))
            try simp only [Act.put, List.getElem_toArray, List.getElem_cons_zero, List.getElem_cons_succ, List.setIfInBounds_toArray, List.set_cons_zero, List.set_cons_succ]
            (refine wpAnyL_take (i := 7) (v := ?_) rfl (by kernel_rfl) (by kernel_rfl) (by kernel_rfl) (by kernel_rfl) (fun _ _ _ h => h) (Or.inl ⟨by rfl, ?_⟩) (by assumption) ?_; rotate_left 1; (focus (intro w hSw; (try dsimp only at hSw); go_simp; try (with_reducible rfl))))
            try simp only [Act.put, List.getElem_toArray, List.getElem_cons_zero, List.getElem_cons_succ, List.setIfInBounds_toArray, List.set_cons_zero, List.set_cons_succ]
            (refine wpAnyL_take (i := 8) (v := ?_) rfl (by kernel_rfl) (by kernel_rfl) (by kernel_rfl) (by kernel_rfl) (fun _ _ _ h => h) (Or.inl ⟨by rfl, ?_⟩) (by assumption) ?_; rotate_left 1; (focus (intro w hSw; (try dsimp only at hSw); go_simp; try (with_reducible rfl))))
            try simp only [Act.put, List.getElem_toArray, List.getElem_cons_zero, List.getElem_cons_succ, List.setIfInBounds_toArray, List.set_cons_zero, List.set_cons_succ]
            refine wpAnyL_one (i := 9) (by kernel_rfl) rfl (fun K hK => ?_)
            have k2 := (hV.b2.ext hHeld.2.2.2).frozen y; have k3 : V.drew.cell? ⟨w.heap.size + 1 + 1, y, none⟩ = some (.int .i64 sy) := r2
            go_simp
            refine hK.out _ _ (fun h => absurd rfl h) (fun _ => ?_)
            clear hK K
            try simp only [Act.put, List.getElem_toArray, List.getElem_cons_zero, List.getElem_cons_succ, List.setIfInBounds_toArray, List.set_cons_zero, List.set_cons_succ]
            refine wpAnyL_done (by kernel_rfl) ?_ _
            have hF := hV.setF y (sy + ov)
            have hE : Ext (V.setCell ⟨w.heap.size + 1 + 1, y, none⟩ (.int .i64 (sy + ov))) (V.setCell ⟨w.heap.size + 1 + 1, y, none⟩ (.int .i64 (sy + ov))).drew := Ext.drew (Ext.refl _)
            refine ⟨(hKO.trans ((KeepsOthers.setCell _ _ _).trans (KeepsOthers.drew _))).from _, hKp.trans (KpB.trans (KpB.set V (p := ⟨w.heap.size + 1 + 1, y, none⟩) (by simp; omega) (by simp; omega) _) (KpB.ext hE (by simp [World.setCell]; omega) (by simp [World.setCell]; omega))), ?_, Nat.le_trans hsV ((KeepsOthers.setCell V ⟨w.heap.size + 1 + 1, y, none⟩ (.int .i64 (sy + ov))).trans (KeepsOthers.drew _)).size⟩
            rw [HS1.out, HS2.out, HA.out]
            exact hF.ext hE
          · have hA : obA T.rs s1 i = s1 := by unfold obA; rw [if_neg hab0]
            have HA := Lib.hid hA
            clear hA
            gi_wp2
            refine ⟨hKO.from _, hKp, ?_, by omega⟩
            rw [HS1.out, HS2.out, HA.out]
            exact hV
      case done =>
        rintro D xs W5 hD rfl ⟨hJ, hsz⟩ hK
        have hX : (obF T.rs f0 (bk T.rs.length)).2 = OX := by rw [← HOX.out, ← HF0.out]; rfl
        have hb3 := hJ.b3
        rw [hX] at hb3
        have hb1 := hJ.b1
        have hex := hJ.ex
        clear hX hJ
        gi_wp2_with (first | (refine wpListIn_load_row rfl _ _ rfl _ rfl _ _ _ hb3 Try.underlying107 rfl (by rw [arr_size]; kernel_rfl) ?_) | (refine wpListIn_store_row rfl _ _ _ rfl _ (arr OX) rfl rfl _ _ hb1 (by rw [arr_size]; kernel_rfl) (by rw [arr_size, arr_size]) (arr_one _) ?_; intro w5 hC5 hg5))
        have hK5 : w5.heap[D]? = some (.deferred (some [])) := (hg5.block D (Array.getElem?_eq_some_iff.1 hK).1 (fun e => by injection e with e; omega)).trans hK
        refine ⟨by simp, .inl ⟨_, _, rfl, run_takeDeferred hK5, ?_⟩⟩
        have hC := hC5.putObj (.deferred none) hK5 rfl
        exact ⟨_, results_cell_row rfl _ _ (w.heap.size + 1) _ _ _ _ rfl hC Try.underlying107 rfl (by rw [arr_size]; kernel_rfl), rfl, Below.trans (show Below w.heap.size w w5 from hex.grown hg5 (by omega)) (belowK_b (w := w) (Nat.le_refl _) _ D _ _ (by omega) hK5 rfl rfl)⟩
      case stop =>
        rintro D c pre W5 _ _ h _
        exact h.elim
end Go.Proofs.Ythopgonbndoidaa
