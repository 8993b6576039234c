/- next, end and Last over a set whose turns are valid: as numbers told of its parts. -/
import Derived.Test.YtejcmdoalhnpeaaGreatDoorMem
import Derived.Deep.RegionHeld3
import Derived.Deep.RegionWith
namespace Go.Proofs.YtejcmdoalhnpeaaGreatDoor
open Go.RowKit Go.Shelf

theorem okPt {S : Mn} (h : OkT S) : ∀ x ∈ pts S, (x.tag = true → tnB x.t.p x.t.f x.t.l = true) := by
  intro x hx ht
  simp only [pts, List.mem_append, List.mem_map] at hx
  rcases hx with ⟨t, h1, rfl⟩ | ⟨s, h1, rfl⟩
  · exact h t h1
  · cases ht
def okL (S : Mn) (h : OkT S) : List PtOk := (pts S).pmap (fun x hx => (⟨x, hx⟩ : PtOk)) (okPt h)
theorem pmap_val (l : List Pt) (hl : ∀ x ∈ l, (x.tag = true → tnB x.t.p x.t.f x.t.l = true)) (k : Nat) (hk : k < (l.pmap (fun x hx => (⟨x, hx⟩ : PtOk)) hl).length) : ((l.pmap (fun x hx => (⟨x, hx⟩ : PtOk)) hl)[k]).1 = l[k]'(by simpa using hk) := by simp
theorem okL_len (S : Mn) (h : OkT S) : (okL S h).length = (pts S).length := by unfold okL; exact List.length_pmap ..
theorem okL_enc (S : Mn) (h : OkT S) (k : Nat) (hk : k < (okL S h).length) : encOk (okL S h)[k] = encPt ((pts S)[k]'(okL_len S h ▸ hk)) := by
  exact congrArg (fun v => #[ptV v]) (pmap_val (pts S) (okPt h) k hk)
theorem bestF_okL (S : Mn) (h : OkT S) (tl : Pt → Int) (bt : Int → Int → Bool) (z : Int) : bestF (fun x : PtOk => tl x.1) bt z (okL S h) = bestF tl bt z (pts S) := by
  have : ∀ (l : List Pt) (hl : ∀ x ∈ l, (x.tag = true → tnB x.t.p x.t.f x.t.l = true)) (z : Int), bestF (fun x : PtOk => tl x.1) bt z (l.pmap (fun x hx => (⟨x, hx⟩ : PtOk)) hl) = bestF tl bt z l := by
    intro l
    induction l with
    | nil => intro _ z; rfl
    | cons x l ih => intro hl z; simp only [List.pmap_cons, bestF, List.foldl_cons]; exact ih _ _
  exact this _ _ _

set_option maxHeartbeats 400000 in
theorem parts_any (a b : Value) (w : World) :
    Calls Tryz.prog 74 #[.agg #[a, b]] w fun e w' => e = .returned (.func (.func 92) #[] #[.pointer (some ⟨w.heap.size, 0, none⟩)]) ∧ w.alloc (.cells #[a, b] 25) = w' := by
  go_enter Tryz.func74, Tryz.ntmps74
  go_wp2
  go_ret
  exact ⟨rfl, rfl⟩

theorem tellN (n : Int) (Bn : Nat) (w0 : World) (hn : w0.cell? ⟨Bn, 0, none⟩ = some (.int .i64 n)) (h1 : -2000000000000000 ≤ n) (h2 : n ≤ 2000000000000000) (x : PtOk) (W : World) (hW : Ext w0 W) :
    Calls Tryz.prog 75 #[ptV x.1, .pointer (some ⟨Bn, 0, none⟩)] W fun e W' => e = .returned (.int .i64 (tlN n x.1)) ∧ Ext W W' := by
  obtain ⟨⟨tag, t, s⟩, hx⟩ := x
  cases tag
  · exact next1S_any _ _ n Bn W (hW.cell hn)
  · exact next1T_any _ _ _ n Bn W (hW.cell hn) (hx rfl) h1 h2
theorem tellE (n out : Int) (Bn Bo : Nat) (w0 : World) (hn : w0.cell? ⟨Bn, 0, none⟩ = some (.int .i64 n)) (ho : w0.cell? ⟨Bo, 0, none⟩ = some (.int .i64 out)) (h1 : -2000000000000000 ≤ n) (h2 : n ≤ 2000000000000000) (x : PtOk) (W : World) (hW : Ext w0 W) :
    Calls Tryz.prog 93 #[ptV x.1, .pointer (some ⟨Bn, 0, none⟩), .pointer (some ⟨Bo, 0, none⟩)] W fun e W' => e = .returned (.int .i64 (tlE n out x.1)) ∧ Ext W W' := by
  obtain ⟨⟨tag, t, s⟩, hx⟩ := x
  cases tag
  · exact end1S_any _ _ n out Bn Bo W (hW.cell hn) (hW.cell ho)
  · exact end1T_any _ _ _ n out Bn Bo W (hW.cell hn) (hW.cell ho) (hx rfl) h1 h2

set_option maxHeartbeats 1000000 in
theorem next_any (a b : Value) (S : Mn) (n : Int) (w : World) (hS : MinsAt w a b S) (hok : Ok S) (h1 : -2000000000000000 ≤ n) (h2 : n ≤ 2000000000000000) :
    Calls Tryz.prog 46 #[.agg #[a, b], .int .i64 n] w fun e w' => e = .returned (.int .i64 (nextF S n)) ∧ Ext w w' := by
  have hl1 : S.ts.length ≤ 1000 := by have := hok.lt; omega
  have hl2 : S.ss.length ≤ 1000 := by have := hok.ls; omega
  go_enter Tryz.func46, Tryz.ntmps46
  go_wp2_with fail
  refine (parts_any a b _).mono ?_
  rintro e w1 ⟨rfl, rfl⟩
  go_wp2_with fail
  obtain ⟨W0, hW0⟩ : ∃ W0, ((w.alloc (.cells #[a, b] 25)).alloc (.cells #[.int .i64 n] 3)).alloc (.cells #[a, b] 25) = W0 := ⟨_, rfl⟩
  have hx0 : Ext w W0 := by rw [← hW0]; exact (by repeat (first | exact Ext.refl _ | assumption | refine Ext.alloc ?_ _ | refine Ext.drew ?_ | refine Ext.drewN _ ?_ | refine Ext.trans ?_ (by assumption)))
  have e0 : W0.cell? ⟨w.heap.size + 1 + 1, 0, none⟩ = some a := by rw [← hW0]; exact cell_at_new _ _ _ _ _ _ (by simp) rfl
  have e1 : W0.cell? ⟨w.heap.size + 1 + 1, 1, none⟩ = some b := by rw [← hW0]; exact cell_at_new _ _ _ _ _ _ (by simp) rfl
  have e2 : W0.cell? ⟨w.heap.size + 1, 0, none⟩ = some (.int .i64 n) := by rw [← hW0]; exact Ext.cell (by repeat (first | exact Ext.refl _ | assumption | refine Ext.alloc ?_ _ | refine Ext.drew ?_ | refine Ext.drewN _ ?_ | refine Ext.trans ?_ (by assumption))) (cell_at_new (w.alloc (.cells #[a, b] 25)) _ _ _ _ _ (by simp) rfl)
  rw [hW0]
  refine (bestNext_any (okL S hok.t) _ (w.heap.size + 1 + 1) (w.heap.size + 1) (fun x => tlN n x.1) _ (parts_stops encOk _ 4 _ (by omega) S a b _ e0 e1 (hS.ext hx0) hl1 hl2 (okL_len S hok.t) (okL_enc S hok.t)) (tellN n _ _ e2 h1 h2)).mono ?_
  rintro e w2 ⟨rfl, hx⟩
  go_wp2_with fail
  go_ret
  exact ⟨ret_int (by rw [nextF, bestF_okL]), hx0.trans hx⟩

/-- the state of end's loop: all minutes up to 'out' are in the set -/
def EndI (S : Mn) (n _limit out : Int) : Prop := n - 1 ≤ out ∧ (∀ i, n ≤ i → i ≤ out → mem S i = true)
theorem EndI.grow {S : Mn} {n limit out : Int} (h : EndI S n limit out) (hS : Ok S) : EndI S n limit (endF S out) := by
  obtain ⟨e1, e2, _⟩ := endF_spec hS out
  refine ⟨by have := h.1; omega, fun i h1 h2 => ?_⟩
  by_cases hi : i ≤ out
  · exact h.2 i h1 hi
  · exact e2 i (by omega) h2
theorem EndI.stop {S : Mn} {n limit out : Int} (h : EndI S n limit out) (hS : Ok S) (hlt : out < limit) (hl : limit ≤ 1000000000000000) (he : endF S out = out) : out = runEnd S n limit :=
  (runEnd_eq h.1 (by omega) h.2 (.inr ((endF_spec hS out).2.2 he (by omega)))).symm
theorem EndI.full {S : Mn} {n limit out : Int} (h : EndI S n limit out) (hn : n ≤ limit + 1) (hlt : ¬ out < limit) : limit = runEnd S n limit :=
  (runEnd_eq (by omega) (by omega) (fun i h1 h2 => h.2 i h1 (by omega)) (.inl rfl)).symm

set_option maxHeartbeats 2000000 in
theorem end_any (a b : Value) (S : Mn) (n limit : Int) (w : World) (hS : MinsAt w a b S) (hok : Ok S) (h1 : -1000000000000000 ≤ n) (h2 : n ≤ limit + 1) (h3 : limit ≤ 1000000000000) :
    Calls Tryz.prog 82 #[.agg #[a, b], .int .i64 n, .int .i64 limit] w fun e w' => e = .returned (.int .i64 (runEnd S n limit)) ∧ Ext w w' := by
  have hl1 : S.ts.length ≤ 1000 := by have := hok.lt; omega
  have hl2 : S.ss.length ≤ 1000 := by have := hok.ls; omega
  go_enter Tryz.func82, Tryz.ntmps82
  go_wp2_with fail
  go_step3
  go_wp2_with fail
  go_step3
  go_wp2_with fail
  obtain ⟨W0, hW0⟩ : ∃ W0, (w.alloc (.cells #[a, b] 25)).alloc (.cells #[.int .i64 (n - 1)] 3) = W0 := ⟨_, rfl⟩
  have hx0 : Ext w W0 := by rw [← hW0]; exact (by repeat (first | exact Ext.refl _ | assumption | refine Ext.alloc ?_ _ | refine Ext.drew ?_ | refine Ext.drewN _ ?_ | refine Ext.trans ?_ (by assumption)))
  have e0 : W0.cell? ⟨w.heap.size, 0, none⟩ = some a := by rw [← hW0]; exact Ext.cell (by repeat (first | exact Ext.refl _ | assumption | refine Ext.alloc ?_ _ | refine Ext.drew ?_ | refine Ext.drewN _ ?_ | refine Ext.trans ?_ (by assumption))) (cell_at_new w _ _ _ _ _ rfl rfl)
  have e1 : W0.cell? ⟨w.heap.size, 1, none⟩ = some b := by rw [← hW0]; exact Ext.cell (by repeat (first | exact Ext.refl _ | assumption | refine Ext.alloc ?_ _ | refine Ext.drew ?_ | refine Ext.drewN _ ?_ | refine Ext.trans ?_ (by assumption))) (cell_at_new w _ _ _ _ _ rfl rfl)
  have e2 : BoxI (w.heap.size + 1) (.int .i64 (n - 1)) W0 := by
    rw [← hW0]
    have := boxI_new (w.alloc (.cells #[a, b] 25)) (.int .i64 (n - 1)) 3
    rwa [World.size_alloc] at this
  rw [hW0]
  clear hW0
  go_loopg [] (limit - (n - 1)).toNat (fun g wr => ∃ out : Int, BoxI (w.heap.size + 1) (.int .i64 out) wr ∧ (wr.cell? ⟨w.heap.size, 0, none⟩ = some a ∧ wr.cell? ⟨w.heap.size, 1, none⟩ = some b) ∧ Ext w wr ∧ g = (limit - out).toNat ∧ n - 1 ≤ out ∧ EndI S n limit out)
  case atStart => exact ⟨n - 1, e2, ⟨e0, e1⟩, hx0, by omega, by omega, by omega, fun i hi1 hi2 => by omega⟩
  case round =>
    obtain ⟨out, ⟨c2, f2⟩, ⟨c0, c1⟩, hx, hg, ho1, hI⟩ := hrel
    have HG := Lib.hid hg
    clear hg
    by_cases hlt : out < limit
    · go_wp2_with fail
      obtain ⟨W1, hW1⟩ : ∃ W1, wr.alloc (.cells #[.int .i64 (out + 1)] 3) = W1 := ⟨_, rfl⟩
      have hx1 : Ext wr W1 := by rw [← hW1]; exact (by repeat (first | exact Ext.refl _ | assumption | refine Ext.alloc ?_ _ | refine Ext.drew ?_ | refine Ext.drewN _ ?_ | refine Ext.trans ?_ (by assumption)))
      have d0 := hx1.cell c0
      have d1 := hx1.cell c1
      have d2 := hx1.cell c2
      have d3 : W1.cell? ⟨wr.heap.size, 0, none⟩ = some (.int .i64 (out + 1)) := by rw [← hW1]; exact cell_at_new _ _ _ _ _ _ rfl rfl
      rw [hW1]
      clear hW1
      go_region_held3 (fun W' => W'.cell? ⟨w.heap.size, 0, none⟩ = some a ∧ W'.cell? ⟨w.heap.size, 1, none⟩ = some b ∧ W'.cell? ⟨w.heap.size + 1, 0, none⟩ = some (.int .i64 out) ∧ Ext W1 W') ((refine ⟨Ext.cell (w := W1) ?_ d0, Ext.cell (w := W1) ?_ d1, Ext.cell (w := W1) ?_ d2, ?_⟩; all_goals exact (by repeat (first | exact Ext.refl _ | assumption | refine Ext.alloc ?_ _ | refine Ext.drew ?_ | refine Ext.drewN _ ?_ | refine Ext.trans ?_ (by assumption)))))
        ((first | (go_at_call 74; refine (parts_any a b _).mono ?_; rintro e w' ⟨rfl, rfl⟩) | (go_at_call 73; refine (bestEnd_any (okL S hok.t) out W1.heap.size wr.heap.size (w.heap.size + 1) (fun x => tlE (out + 1) out x.1) _ (parts_stops encOk _ 4 _ (by omega) S a b _ (by exact cell_at_new W1 _ _ _ _ _ rfl rfl) (by exact cell_at_new W1 _ _ _ _ _ rfl rfl) (hS.ext (by exact hx.trans (hx1.trans (by repeat (first | exact Ext.refl _ | assumption | refine Ext.alloc ?_ _ | refine Ext.drew ?_ | refine Ext.drewN _ ?_ | refine Ext.trans ?_ (by assumption)))))) hl1 hl2 (okL_len S hok.t) (okL_enc S hok.t)) (tellE (out + 1) out _ _ _ (by exact Ext.cell (w := W1) (by repeat (first | exact Ext.refl _ | assumption | refine Ext.alloc ?_ _ | refine Ext.drew ?_ | refine Ext.drewN _ ?_ | refine Ext.trans ?_ (by assumption))) d3) (by exact Ext.cell (w := W1) (by repeat (first | exact Ext.refl _ | assumption | refine Ext.alloc ?_ _ | refine Ext.drew ?_ | refine Ext.drewN _ ?_ | refine Ext.trans ?_ (by assumption))) d2) (by omega) (by omega))).mono ?_; rintro e w' ⟨rfl, hx2⟩)))
      all_goals
        have hx3 : Ext wr w' := hx1.trans (Ext.trans (by repeat (first | exact Ext.refl _ | assumption | refine Ext.alloc ?_ _ | refine Ext.drew ?_ | refine Ext.drewN _ ?_ | refine Ext.trans ?_ (by assumption))) hx2)
        clear hx2
        have hbe : bestF (fun x : PtOk => tlE (out + 1) out x.1) (fun a b => decide (b < a)) out (okL S hok.t) = endF S out := bestF_okL S hok.t (tlE (out + 1) out) _ out
        rw [hbe]
        clear hbe
        have g2 := hx3.cell c2
        have gf := ((ecell hx3).2 _ 0 (cell_lt c2)).trans f2
        have g0 := hx3.cell c0
        have g1 := hx3.cell c1
        have hgr := hI.grow (limit := limit) hok
        have hge := (endF_spec hok out).1
        by_cases he : endF S out = out
        · have hst := hI.stop hok hlt (by omega) he
          have HST := Lib.hid hst
          clear hst
          have hb : (endF S out == out) = true := by simpa using he
          clear he
          go_wp2_with fail
          (try rw [Exit.noGoto_ret])
          go_ret
          exact ⟨ret_int HST.out, hx.trans hx3⟩
        · have hb : (endF S out == out) = false := by simpa using he
          clear he
          go_wp2_with fail
          go_roundg (limit - endF S out).toNat
          case measure => have := HG.out; simp at hb; omega
          case rel => exact ⟨endF S out, ⟨World.cell?_setCell_same' _ _ _ (by rw [g2]; rfl), by rw [World.frozen?_setCell]; exact gf⟩, ⟨by rw [← g0]; exact World.cell?_of_block (Below.heap_setCell _ _ _ _ (by simp)), by rw [← g1]; exact World.cell?_of_block (Below.heap_setCell _ _ _ _ (by simp))⟩, (hx.trans hx3).setCell (by simp) _, rfl, by omega, hgr⟩
    · have hst := hI.full h2 hlt
      have HST := Lib.hid hst
      clear hst
      go_wp2_with fail
      all_goals
        (try rw [Exit.noGoto_ret])
        go_ret
        exact ⟨ret_int (by have := HST.out; omega), hx⟩

end Go.Proofs.YtejcmdoalhnpeaaGreatDoor
