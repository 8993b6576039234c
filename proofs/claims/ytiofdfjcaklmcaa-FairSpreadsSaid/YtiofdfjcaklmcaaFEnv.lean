/- Envy of the program: the first chain of one shift. -/
import Derived.Test.YtiofdfjcaklmcaaFLnk
import Derived.WalkMore
namespace Go.Proofs.Ytiofdfjcaklmcaa
open Go.RowKit Go.Shelf

/-- what stands while the shifts are looked at -/
structure EnvA (w : World) (B : Nat) (a b : Value) (W : World) : Prop where
  bx : Cls w.heap.size 25 #[a, b] W
  rb : Cls (w.heap.size + 1) 58 #[.int .i64 0, .int .i64 0] W
  sb : Cls B 58 #[.int .i64 0, .int .i64 0] W
  ex : Ext w W
theorem EnvA.ext {w W W' : World} {B : Nat} {a b : Value} (h : EnvA w B a b W) (x : Ext W W') : EnvA w B a b W' := ⟨h.bx.ext x, h.rb.ext x, h.sb.ext x, h.ex.trans x⟩
def EnvPost (w : World) (X : Option (Int × Int)) (E : Int) (e : Ending) (w' : World) : Prop := e = .returned (.tuple #[.agg #[.int .i64 (X.getD (0, 0)).1, .int .i64 (X.getD (0, 0)).2], .bool X.isSome, .int .i64 E]) ∧ Ext w w'
theorem env_ret {w W : World} {tmps : Array Value} {x y : Int} {X : Option (Int × Int)} {B : Bool} {E E' : Int} (h4 : tmps.getD 4 undef = .pointer (some ⟨w.heap.size + 1, 0, none⟩)) (h5 : tmps.getD 5 undef = .bool B) (h6 : tmps.getD 6 undef = .int .i64 E') (hc : Cls (w.heap.size + 1) 58 #[.int .i64 x, .int .i64 y] W) (hx : Ext w W) (he : E' = E) (hB : B = X.isSome) (hX : (x, y) = X.getD (0, 0)) :
    bodyPost Try.prog Try.f32 (EnvPost w X E) Exit.ret { tmps := tmps, defers := [] } W := by
  subst he hB
  have c0 : W.cell? ⟨w.heap.size + 1, 0, none⟩ = some (.int .i64 x) := hc.cell 0
  have c1 : W.cell? ⟨w.heap.size + 1, 1, none⟩ = some (.int .i64 y) := hc.cell 1
  have h4' : tmps[4]?.getD undef = .pointer (some ⟨w.heap.size + 1, 0, none⟩) := by simpa using h4
  have h5' : tmps[5]?.getD undef = .bool X.isSome := by simpa using h5
  have h6' : tmps[6]?.getD undef = .int .i64 E' := by simpa using h6
  exact bodyPost_ret (v := .tuple #[.agg #[.int .i64 x, .int .i64 y], .bool X.isSome, .int .i64 E']) (by simp [results, Try.f32, go_sem, h4', h5', h6', c0, c1]) rfl ⟨by rw [← hX], hx⟩
theorem opt_none {α β : Type} {X : Option α} {y z : β} (h : y = z) (hX : none = X) : X = none ∧ y = z := ⟨hX.symm, h⟩
set_option maxRecDepth 100000 in
set_option maxHeartbeats 16000000 in
theorem Envy_any (a b v : Value) (P : Po) (g : List Int) (w : World) (hT : PoAt w a b P) (hg : IntsAt w v g) (hus : ∀ s ∈ P.ss, s.us.length ≤ 1000000) :
    Calls Try.prog 32 #[.agg #[a, b], v] w (EnvPost w (envX P g) (cgE P g)) := by
  have hX : envX P g = if cgE P g = 0 then envS P g 0 P.ss else none := rfl
  have hok := @cg_ok P g
  have KC := fun W (x : Ext w W) => CheckGiven_any a b v P g W (hT.ext x) (hg.ext x) hus
  have KL := fun (h : OkP P ∧ ShrV P g) W (x : Ext w W) lv (s u : Int) (hl : SfsAt W lv [(s, u)]) => linked_any a b v lv P g [(s, u)] h.1 h.2 (by simp) W (hT.ext x) (hg.ext x) hl
  obtain ⟨gA, gc, rfl, hgl⟩ := hg.len
  obtain ⟨ab, cb, rfl, hlb⟩ := hT.s.len
  obtain ⟨X, hXX⟩ : ∃ E, envX P g = E := ⟨_, rfl⟩
  obtain ⟨E, hEE⟩ : ∃ E, cgE P g = E := ⟨_, rfl⟩
  rw [hXX, hEE] at hX
  simp only [hEE] at hok KC
  rw [hXX, hEE]
  have HX := Lib.hid hX
  have HKC := Lib.hid KC
  have HKL := Lib.hid KL
  clear hX hXX hEE KC KL
  go_enter Try.func32, Try.ntmps32
  go_wp2_with fail
  go_step3
  go_wp2_with fail
  refine (HKC.out _ (by repeat (first | exact Ext.refl _ | assumption | refine Ext.alloc ?_ _ | refine Ext.drew ?_ | refine Ext.drewN _ ?_ | refine Ext.trans ?_ (by assumption)))).mono ?_
  rintro e w1 ⟨rfl, hx1⟩
  obtain ⟨q, qr, hx, hk0⟩ := alloc2 hx1
  have d0 : w1.cell? ⟨w.heap.size, 0, none⟩ = some a := q.cell 0
  have d1 : w1.cell? ⟨w.heap.size, 1, none⟩ = some (.slice ab P.ss.length cb) := q.cell 1
  have r0 := qr.frozen 0
  have r1 := qr.frozen 1
  have r2 := qr.cell 0
  have r3 := qr.cell 1
  clear hx1 hk0
  by_cases h0 : E = 0
  · have h2 := HX.out
    rw [if_pos h0] at h2
    have HX2 := Lib.hid h2
    have HE0 := Lib.hid h0
    have hb : (E != 0) = false := by simp [h0]
    have hokk := hok.1 h0
    have hls := hokk.1.ls
    have HUL := Lib.hid hokk.1.ul
    have HGL := Lib.hid hokk.2.len
    have HKL2 := Lib.hid (HKL.out hokk)
    obtain ⟨B8, hB8⟩ : ∃ N, w1.heap.size = N := ⟨_, rfl⟩
    obtain ⟨w2, hw2⟩ : ∃ W, w1.alloc (.cells #[.int .i64 0, .int .i64 0] 58) = W := ⟨_, rfl⟩
    have hx2 : Ext w1 w2 := by rw [← hw2]; exact (by repeat (first | exact Ext.refl _ | assumption | refine Ext.alloc ?_ _ | refine Ext.drew ?_ | refine Ext.drewN _ ?_ | refine Ext.trans ?_ (by assumption)))
    have hB8s : w.heap.size + 1 < B8 := by have := qr.lt; omega
    have HA : Hid (EnvA w B8 a (.slice ab P.ss.length cb) w2) := Lib.hid ⟨q.ext hx2, qr.ext hx2, by rw [← hw2]; exact Cls.newAt _ _ _ hB8.symm, hx.trans hx2⟩
    have d0 : w2.cell? ⟨w.heap.size, 0, none⟩ = some a := hx2.cell d0
    have d1 : w2.cell? ⟨w.heap.size, 1, none⟩ = some (.slice ab P.ss.length cb) := hx2.cell d1
    clear h2 h0 hok HX HKL HKC hx2 hx q qr r0 r1 r2 r3
    go_wp2_with fail
    go_step3
    go_wp2_with fail
    clear hw2 hB8
    go_loopw [25, 9] (fun i fo wr => ∃ k : Nat, k ≤ P.ss.length ∧ i = .int .i64 k ∧ fo = .bool false ∧ Hid (envS P g k (P.ss.drop k) = X) ∧ Hid (EnvA w B8 a (.slice ab P.ss.length cb) wr)) (fun i _ _ => P.ss.length - (intOf i).toNat)
    case atStart => exact ⟨0, Nat.zero_le _, rfl, rfl, Lib.hid HX2.out.symm, HA⟩
    case round =>
      clear HA d0 d1
      obtain ⟨k, hk, rfl, rfl, HR, HA⟩ := hrel
      have hx := HA.out.ex
      by_cases hlk : k < P.ss.length
      · obtain ⟨b2, o2, ua, uc, hab, s0, s1, hucl, hU⟩ := (hT.s.ext hx).get k hlk
        subst hab
        have hst := HR.out
        rw [envS_step hlk] at hst
        have hul := HUL.out _ (List.getElem_mem hlk)
        have hgk : k < g.length := by rw [HGL.out]; exact hlk
        obtain ⟨gb, go, hge, cg⟩ := (hg.ext hx).get k hgk
        subst hge
        have hgd : g.getD k 0 = g[k] := by simp [hgk]
        have hid : (P.ss.getD k ⟨0, []⟩).id = P.ss[k].id := by simp [hlk]
        obtain ⟨s, hs⟩ : ∃ s, P.ss[k].id = s := ⟨_, rfl⟩
        obtain ⟨us, huu⟩ : ∃ us, P.ss[k].us = us := ⟨_, rfl⟩
        obtain ⟨y, hy⟩ : ∃ y, g[k] = y := ⟨_, rfl⟩
        rw [hy] at cg
        have htt : ∀ u, envT P g k u = (!(decide (y = u)) && lnkB P g [(s, u)]) := fun u => by unfold envT; rw [hgd, hid, hs, hy]
        have hstep : ∀ j (h : j < us.length), envU P g k (us.drop j) = if envT P g k us[j] = true then some (s, us[j]) else envU P g k (us.drop (j + 1)) := fun j h => by have h2 := envU_step (P := P) (g := g) (i := k) h; rw [hid, hs] at h2; exact h2
        rw [hs] at s0
        rw [huu] at s1 hucl hU hst hul
        obtain ⟨U, hUU⟩ : ∃ U, envU P g k us = U := ⟨_, rfl⟩
        rw [hUU] at hst
        have HST := Lib.hid hst
        have HTT := Lib.hid htt
        have HSTEP := Lib.hid hstep
        have HU0 : Hid (envU P g k (us.drop 0) = U) := Lib.hid hUU
        obtain ⟨PB, hPB⟩ : ∃ PB, wr.heap.size = PB := ⟨_, rfl⟩
        obtain ⟨Y, hY⟩ : ∃ Y, wr.alloc (.cells #[.int .i64 s, .slice ua us.length uc] 48) = Y := ⟨_, rfl⟩
        have hxY : Ext wr Y := by rw [← hY]; exact (by repeat (first | exact Ext.refl _ | assumption | refine Ext.alloc ?_ _ | refine Ext.drew ?_ | refine Ext.drewN _ ?_ | refine Ext.trans ?_ (by assumption)))
        have hbY : Cls PB 48 #[.int .i64 s, .slice ua us.length uc] Y := by rw [← hY]; exact Cls.newAt _ _ _ hPB.symm
        have e1 : Y.cell? ⟨PB, 1, none⟩ = some (.slice ua us.length uc) := hbY.cell 1
        have HAY := Lib.hid (HA.out.ext hxY)
        have hUY := hU.ext hxY
        have hcgY := hxY.cell cg
        have d0 : wr.cell? ⟨w.heap.size, 0, none⟩ = some a := HA.out.bx.cell 0
        have d1 : wr.cell? ⟨w.heap.size, 1, none⟩ = some (.slice (some ⟨b2, o2, none⟩) P.ss.length cb) := HA.out.bx.cell 1
        have hgki : (k : Int) < g.length := by omega
        clear hst htt hstep hid hgd hs huu hy hUU hxY HA hU cg hx HR
        go_wp2_with fail
        clear hY hPB d0 d1 e1 s0 s1
        go_loopw [33, 9] (fun i fo wt => ∃ j : Nat, j ≤ us.length ∧ i = .int .i64 j ∧ fo = .bool false ∧ Hid (envU P g k (us.drop j) = U) ∧ Hid (EnvA w B8 a (.slice (some ⟨b2, o2, none⟩) P.ss.length cb) wt) ∧ Cls PB 48 #[.int .i64 s, .slice ua us.length uc] wt ∧ Ext Y wt) (fun i _ _ => us.length - (intOf i).toNat)
        case atStart => exact ⟨0, Nat.zero_le _, rfl, rfl, HU0, HAY, hbY, Ext.refl _⟩
        case round =>
          clear HAY hbY HU0
          obtain ⟨j, hj, rfl, rfl, HU, HA, hbx, hyw⟩ := hrel
          have hx := HA.out.ex
          by_cases hlj : j < us.length
          · obtain ⟨b5, o5, hue, c5⟩ := (hUY.ext hyw).get j hlj
            subst hue
            have hst := HU.out
            rw [HSTEP.out j hlj, HTT.out us[j]] at hst
            obtain ⟨x, hxx⟩ : ∃ x, us[j] = x := ⟨_, rfl⟩
            rw [hxx] at c5 hst
            have cg := hyw.cell hcgY
            have p0 : wr.cell? ⟨PB, 0, none⟩ = some (.int .i64 s) := hbx.cell 0
            obtain ⟨ZB, hZB⟩ : ∃ PB, wr.heap.size = PB := ⟨_, rfl⟩
            obtain ⟨Z, hZ⟩ : ∃ Y, wr.alloc (.cells #[.int .i64 s, .int .i64 x] 58) = Y := ⟨_, rfl⟩
            have hxZ : Ext wr Z := by rw [← hZ]; exact (by repeat (first | exact Ext.refl _ | assumption | refine Ext.alloc ?_ _ | refine Ext.drew ?_ | refine Ext.drewN _ ?_ | refine Ext.trans ?_ (by assumption)))
            have hbZ : Cls ZB 58 #[.int .i64 s, .int .i64 x] Z := by rw [← hZ]; exact Cls.newAt _ _ _ hZB.symm
            have HAZ := Lib.hid (HA.out.ext hxZ)
            have hbxZ := hbx.ext hxZ
            have hywZ := hyw.trans hxZ
            have cgZ := hxZ.cell cg
            have z0 : Z.cell? ⟨ZB, 0, none⟩ = some (.int .i64 s) := hbZ.cell 0
            have z1 : Z.cell? ⟨ZB, 1, none⟩ = some (.int .i64 x) := hbZ.cell 1
            have d0 : Z.cell? ⟨w.heap.size, 0, none⟩ = some a := HAZ.out.bx.cell 0
            have d1 : Z.cell? ⟨w.heap.size, 1, none⟩ = some (.slice (some ⟨b2, o2, none⟩) P.ss.length cb) := HAZ.out.bx.cell 1
            clear hxx hx HA hbx hyw hxZ HU
            by_cases hgx : y = x
            · have hne : (y != x) = false := by simp [hgx]
              rw [decide_eq_true hgx, Bool.not_true, Bool.false_and, if_neg (by decide)] at hst
              have HS := Lib.hid hst
              clear hst hgx
              go_wp2_with fail
              clear hZ hZB
              go_roundw
              case rel => exact ⟨j + 1, by omega, by go_num, rfl, HS, HAZ, hbxZ, hywZ⟩
              case measure => simp [intOf]; omega
            · have hne : (y != x) = true := by simp [hgx]
              rw [decide_eq_false hgx, Bool.not_false, Bool.true_and] at hst
              have HS := Lib.hid hst
              obtain ⟨ZC, hZC⟩ : ∃ PB, Z.heap.size = PB := ⟨_, rfl⟩
              obtain ⟨Z2, hZ2⟩ : ∃ Y, Z.alloc (.cells #[.int .i64 s, .int .i64 x] 58) = Y := ⟨_, rfl⟩
              have hxZ2 : Ext Z Z2 := by rw [← hZ2]; exact (by repeat (first | exact Ext.refl _ | assumption | refine Ext.alloc ?_ _ | refine Ext.drew ?_ | refine Ext.drewN _ ?_ | refine Ext.trans ?_ (by assumption)))
              have hbZ2 : Cls ZC 58 #[.int .i64 s, .int .i64 x] Z2 := by rw [← hZ2]; exact Cls.newAt _ _ _ hZC.symm
              have hsf := sfs_one hbZ2
              clear hst hgx
              go_wp2_with fail
              refine (HKL2.out Z2 (HAZ.out.ex.trans hxZ2) _ s x hsf).mono ?_
              rintro e w9 ⟨rfl, hz⟩
              have hz2 := hxZ2.trans hz
              have HA9 := Lib.hid (HAZ.out.ext hz2)
              have hbx9 := hbxZ.ext hz2
              have hyw9 := hywZ.trans hz2
              have z0 := hz2.cell z0
              have z1 := hz2.cell z1
              clear hZ hZB hZ2 hZC hxZ2 hbZ2 hsf hz HAZ hbxZ hywZ d0 d1 cgZ p0 c5
              obtain ⟨lk, hlk⟩ : ∃ q, lnkB P g [(s, x)] = q := ⟨_, rfl⟩
              have hs := HS.out
              rw [hlk] at hs
              rw [hlk]
              have HS2 := Lib.hid hs
              clear hs hlk HS
              cases lk
              · have hs := HS2.out
                rw [if_neg (by decide)] at hs
                have HS3 := Lib.hid hs
                clear hs
                go_wp2_with fail
                go_roundw
                case rel => exact ⟨j + 1, by omega, by go_num, rfl, HS3, HA9, hbx9, hyw9⟩
                case measure => simp [intOf]; omega
              · have hs := HS2.out
                rw [if_pos rfl] at hs
                have h5 := HST.out
                rw [← hs] at h5
                have HS3 := Lib.hid h5
                have hr := HA9.out.rb
                have hq := HA9.out.sb
                have hxx := HA9.out.ex
                have r0 := hr.frozen 0
                have r1 := hr.frozen 1
                have r2 := hr.cell 0
                have r3 := hr.cell 1
                have q0 := hq.frozen 0
                have q1 := hq.frozen 1
                have q2 := hq.cell 0
                have q3 := hq.cell 1
                clear hs h5
                go_wp2_with fail
                try rw [Exit.noGoto_ret]
                exact env_ret rfl rfl rfl ((((hr.other (by omega) 0 _).other (by omega) 1 _).set 0 _).set 1 _) ((((hxx.setCell (by simp <;> omega) _).setCell (by simp <;> omega) _).setCell (by simp) _).setCell (by simp) _) HE0.out.symm (by rw [← HS3.out]; rfl) (by rw [← HS3.out]; rfl)
          · obtain rfl : j = us.length := by omega
            have hu := HU.out
            rw [List.drop_length] at hu
            have h5 := HST.out
            rw [← hu] at h5
            have HS3 := Lib.hid (show envS P g (k + 1) (P.ss.drop (k + 1)) = X from h5)
            clear h5 hu
            go_wp2_with fail
            go_roundw
            case rel => exact ⟨k + 1, by omega, by go_num, rfl, HS3, HA⟩
            case measure => simp [intOf]; omega
      · obtain rfl : k = P.ss.length := by omega
        have hu := HR.out
        rw [List.drop_length] at hu
        have HS3 := Lib.hid (show none = X from hu)
        have hr := HA.out.rb
        have hq := HA.out.sb
        have r0 := hr.frozen 0
        have r1 := hr.frozen 1
        have r2 := hr.cell 0
        have r3 := hr.cell 1
        have q2 := hq.cell 0
        have q3 := hq.cell 1
        clear hu
        go_wp2_with fail
        try rw [Exit.noGoto_ret]
        exact env_ret rfl rfl rfl ((hr.set 0 _).set 1 _) ((hx.setCell (by simp) _).setCell (by simp) _) HE0.out.symm (by rw [← HS3.out]; rfl) (by rw [← HS3.out]; rfl)
  · have h2 := HX.out
    rw [if_neg h0] at h2
    have H2 := Lib.hid h2
    have hb : (E != 0) = true := by simp [h0]
    clear h2 h0
    go_wp2_with fail
    try rw [Exit.noGoto_ret]
    exact env_ret rfl rfl rfl ((qr.set 0 _).set 1 _) ((hx.setCell (by simp) _).setCell (by simp) _) rfl (by rw [H2.out]; rfl) (by rw [H2.out]; rfl)
end Go.Proofs.Ytiofdfjcaklmcaa
