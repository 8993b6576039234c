/- The best of what is told of the parts of a set. -/
import Derived.Test.YtejcmdoalhnpeaaGreatDoorTell
namespace Go.Proofs.YtejcmdoalhnpeaaGreatDoor
open Go.RowKit Go.Shelf

attribute [local go_sem] Oper.semAt_some

/-- a part whose turn is valid, if it is one -/
abbrev PtOk : Type := { x : Pt // x.tag = true → tnB x.t.p x.t.f x.t.l = true }
def encOk (x : PtOk) : Array Value := #[ptV x.1]

/-- the best number that is told of some things, or what there is without them -/
def bestF {α : Type} (tl : α → Int) (bt : Int → Int → Bool) (z0 : Int) (l : List α) : Int := l.foldl (fun out x => if bt (tl x) out = true then tl x else out) z0
theorem bestF_snoc {α : Type} (tl : α → Int) (bt : Int → Int → Bool) (z0 : Int) (l : List α) (x : α) : bestF tl bt z0 (l ++ [x]) = if bt (tl x) (bestF tl bt z0 l) = true then tl x else bestF tl bt z0 l := by
  unfold bestF; rw [List.foldl_append]; rfl

set_option maxRecDepth 100000 in
set_option maxHeartbeats 1000000 in
theorem bestNext_any (xs : List PtOk) (z0 : Int) (Bs Bn : Nat) (tl : PtOk → Int) (w : World)
    (hseq : SeqStopsK Fence.wide 4 Tryz.prog 92 #[.pointer (some ⟨Bs, 0, none⟩)] encOk (Below w.heap.size) (fun ys => ys = xs) (fun ys => ys <+: xs) xs.length w)
    (htell : ∀ (x : PtOk) (W : World), Ext w W → Calls Tryz.prog 75 #[ptV x.1, .pointer (some ⟨Bn, 0, none⟩)] W fun e W' => e = .returned (.int .i64 (tl x)) ∧ Ext W W') :
    Calls Tryz.prog 73 #[.func (.func 92) #[] #[.pointer (some ⟨Bs, 0, none⟩)], .int .i64 z0, (.func (.func 75) #[] #[.pointer (some ⟨Bn, 0, none⟩)]), (.func (.func 76) #[] #[])] w
      fun e w' => e = .returned (.int .i64 (bestF tl (fun a b => decide (a < b)) z0 xs)) ∧ Ext w w' := by
  refine (callsIn_wide (n := 5)).1 ?_
  refine callsIn_of_wp_marks Tryz.func73 rfl trivial ?_ rfl; simp only [Tryz.ntmps73, List.size_toArray, List.length_cons, List.length_nil, Nat.reduceAdd, Nat.reduceSub, Array.replicate_succ, Array.replicate_zero, List.push_toArray, List.append_toArray, List.nil_append, List.cons_append]
  gi_wp2
  obtain ⟨W0, hW0⟩ : ∃ W0, ((w.alloc (.cells #[(.func (.func 75) #[] #[.pointer (some ⟨Bn, 0, none⟩)])] 125)).alloc (.cells #[(.func (.func 76) #[] #[])] 126)).alloc (.cells #[.int .i64 z0] 3) = W0 := ⟨_, rfl⟩
  have hx0 : Ext w W0 := by rw [← hW0]; exact (by repeat (first | exact Ext.refl _ | assumption | refine Ext.alloc ?_ _ | refine Ext.drew ?_ | refine Ext.drewN _ ?_ | refine Ext.trans ?_ (by assumption)))
  have hsz : W0.heap.size = w.heap.size + 3 := by rw [← hW0]; simp
  have b0 : BoxI w.heap.size (.func (.func 75) #[] #[.pointer (some ⟨Bn, 0, none⟩)]) W0 := by rw [← hW0]; exact ((boxI_new _ _ _).ext (by repeat (first | exact Ext.refl _ | assumption | refine Ext.alloc ?_ _ | refine Ext.drew ?_ | refine Ext.drewN _ ?_ | refine Ext.trans ?_ (by assumption))))
  have b1 : BoxI (w.heap.size + 1) (.func (.func 76) #[] #[]) W0 := by
    rw [← hW0]
    have := (boxI_new (w.alloc (.cells #[(.func (.func 75) #[] #[.pointer (some ⟨Bn, 0, none⟩)])] 125)) (.func (.func 76) #[] #[]) 126)
    rw [World.size_alloc] at this
    exact this.ext (by repeat (first | exact Ext.refl _ | assumption | refine Ext.alloc ?_ _ | refine Ext.drew ?_ | refine Ext.drewN _ ?_ | refine Ext.trans ?_ (by assumption)))
  have b2 : BoxI (w.heap.size + 1 + 1) (.int .i64 z0) W0 := by
    rw [← hW0]
    have := boxI_new ((w.alloc (.cells #[(.func (.func 75) #[] #[.pointer (some ⟨Bn, 0, none⟩)])] 125)).alloc (.cells #[(.func (.func 76) #[] #[])] 126)) (.int .i64 z0) 3
    rw [World.size_alloc, World.size_alloc] at this
    exact this
  rw [hW0]
  clear hW0
  have HSZ := Lib.hid hsz
  clear hsz
  refine range_law (w0 := w) (gf := 92) (lb := #[.pointer (some ⟨Bs, 0, none⟩)]) rfl (enters_of Tryz.func92 (by kernel_rfl) rfl) hseq hx0 (fun _ => rfl)
    (fun pre W => (BoxI (w.heap.size + 1 + 1) (.int .i64 (bestF tl (fun a b => decide (a < b)) z0 pre)) W ∧ BoxI w.heap.size (.func (.func 75) #[] #[.pointer (some ⟨Bn, 0, none⟩)]) W ∧ BoxI (w.heap.size + 1) (.func (.func 76) #[] #[]) W) ∧ Below w.heap.size w W)
    (fun _ _ _ => False)
    (OwnFrom.and (OwnFrom.and ((boxI_own _ _).from _) (OwnFrom.and ((boxI_own _ (fun _ => (.func (.func 75) #[] #[.pointer (some ⟨Bn, 0, none⟩)]))).from _) ((boxI_own _ (fun _ => (.func (.func 76) #[] #[]))).from _))) (ownFrom_below (Nat.le_refl _) hx0.size))
    (fun _ _ _ _ _ hs _ _ => hs) ⟨⟨b2, b0, b1⟩, hx0⟩ ?round ?done ?stop
  case round =>
    apply Exists.intro
    constructor
    · intro l x W K hK
      dsimp only [encOk]
      gi_wp2
      exact hK
    · rintro l pre x W ⟨⟨⟨c2, f2⟩, ⟨c0, f0⟩, ⟨c1, f1⟩⟩, hB⟩ _
      gi_wp2_with (refine ⟨trivial, ?_⟩; first | (gi_at_call 75; refine (CallsIn.inRound l (callsIn_wide.2 (htell x _ hB))).mono ?_; rintro e w' ⟨rfl, hx⟩; have c0' := hx.cell c0; have c1' := hx.cell c1; have c2' := hx.cell c2; have f2' := ((ecell hx).2 _ 0 (cell_lt c2)).trans f2) | (gi_at_call 76; refine (CallsIn.inRound l (callsIn_wide.2 (less_any _ _ _))).mono ?_; rintro e w' ⟨rfl, rfl⟩))
      · refine ⟨((ext_keeps hx).trans (KeepsOthers.setCell _ _ _)).from _, Below.trans (Below.mono hx hB.size) ((Below.refl _ _).setCell (p := ⟨w.heap.size + 1 + 1, 0, none⟩) (by simp; omega) _), ⟨⟨?_, ?_, ?_⟩, ?_⟩⟩
        · rw [bestF_snoc, if_pos (by simpa using ‹_›)]
          exact BoxI.set ⟨c2', f2'⟩ _
        · exact BoxI.other (BoxI.ext ⟨c0, f0⟩ hx) (by omega) _
        · exact BoxI.other (BoxI.ext ⟨c1, f1⟩ hx) (by omega) _
        · exact (hB.trans (Below.mono hx hB.size)).setCell (p := ⟨w.heap.size + 1 + 1, 0, none⟩) (by simp; omega) _
      · refine ⟨(ext_keeps hx).from _, Below.mono hx hB.size, ⟨⟨?_, ?_, ?_⟩, ?_⟩⟩
        · rw [bestF_snoc, if_neg (by simpa using ‹_›)]
          exact BoxI.ext ⟨c2, f2⟩ hx
        · exact BoxI.ext ⟨c0, f0⟩ hx
        · exact BoxI.ext ⟨c1, f1⟩ hx
        · exact hB.trans (Below.mono hx hB.size)
  case done =>
    rintro D ys W hD rfl ⟨⟨⟨c2, f2⟩, _, _⟩, hB⟩ hK
    gi_wp2
    refine ⟨by simp, .inl ⟨_, _, rfl, run_takeDeferred hK, ?_⟩⟩
    exact ⟨_, results_tmp rfl _ _ _, rfl, hB.trans (belowK_b (w := w) (Nat.le_refl _) W D _ _ (by have := HSZ.out; omega) hK rfl rfl)⟩
  case stop =>
    rintro D c pre W _ _ h _
    exact h.elim

set_option maxRecDepth 100000 in
set_option maxHeartbeats 1000000 in
theorem bestEnd_any (xs : List PtOk) (z0 : Int) (Bs Bn Bo : Nat) (tl : PtOk → Int) (w : World)
    (hseq : SeqStopsK Fence.wide 4 Tryz.prog 92 #[.pointer (some ⟨Bs, 0, none⟩)] encOk (Below w.heap.size) (fun ys => ys = xs) (fun ys => ys <+: xs) xs.length w)
    (htell : ∀ (x : PtOk) (W : World), Ext w W → Calls Tryz.prog 93 #[ptV x.1, .pointer (some ⟨Bn, 0, none⟩), .pointer (some ⟨Bo, 0, none⟩)] W fun e W' => e = .returned (.int .i64 (tl x)) ∧ Ext W W') :
    Calls Tryz.prog 73 #[.func (.func 92) #[] #[.pointer (some ⟨Bs, 0, none⟩)], .int .i64 z0, (.func (.func 93) #[] #[.pointer (some ⟨Bn, 0, none⟩), .pointer (some ⟨Bo, 0, none⟩)]), (.func (.func 94) #[] #[])] w
      fun e w' => e = .returned (.int .i64 (bestF tl (fun a b => decide (b < a)) z0 xs)) ∧ Ext w w' := by
  refine (callsIn_wide (n := 5)).1 ?_
  refine callsIn_of_wp_marks Tryz.func73 rfl trivial ?_ rfl; simp only [Tryz.ntmps73, List.size_toArray, List.length_cons, List.length_nil, Nat.reduceAdd, Nat.reduceSub, Array.replicate_succ, Array.replicate_zero, List.push_toArray, List.append_toArray, List.nil_append, List.cons_append]
  gi_wp2
  obtain ⟨W0, hW0⟩ : ∃ W0, ((w.alloc (.cells #[(.func (.func 93) #[] #[.pointer (some ⟨Bn, 0, none⟩), .pointer (some ⟨Bo, 0, none⟩)])] 125)).alloc (.cells #[(.func (.func 94) #[] #[])] 126)).alloc (.cells #[.int .i64 z0] 3) = W0 := ⟨_, rfl⟩
  have hx0 : Ext w W0 := by rw [← hW0]; exact (by repeat (first | exact Ext.refl _ | assumption | refine Ext.alloc ?_ _ | refine Ext.drew ?_ | refine Ext.drewN _ ?_ | refine Ext.trans ?_ (by assumption)))
  have hsz : W0.heap.size = w.heap.size + 3 := by rw [← hW0]; simp
  have b0 : BoxI w.heap.size (.func (.func 93) #[] #[.pointer (some ⟨Bn, 0, none⟩), .pointer (some ⟨Bo, 0, none⟩)]) W0 := by rw [← hW0]; exact ((boxI_new _ _ _).ext (by repeat (first | exact Ext.refl _ | assumption | refine Ext.alloc ?_ _ | refine Ext.drew ?_ | refine Ext.drewN _ ?_ | refine Ext.trans ?_ (by assumption))))
  have b1 : BoxI (w.heap.size + 1) (.func (.func 94) #[] #[]) W0 := by
    rw [← hW0]
    have := (boxI_new (w.alloc (.cells #[(.func (.func 93) #[] #[.pointer (some ⟨Bn, 0, none⟩), .pointer (some ⟨Bo, 0, none⟩)])] 125)) (.func (.func 94) #[] #[]) 126)
    rw [World.size_alloc] at this
    exact this.ext (by repeat (first | exact Ext.refl _ | assumption | refine Ext.alloc ?_ _ | refine Ext.drew ?_ | refine Ext.drewN _ ?_ | refine Ext.trans ?_ (by assumption)))
  have b2 : BoxI (w.heap.size + 1 + 1) (.int .i64 z0) W0 := by
    rw [← hW0]
    have := boxI_new ((w.alloc (.cells #[(.func (.func 93) #[] #[.pointer (some ⟨Bn, 0, none⟩), .pointer (some ⟨Bo, 0, none⟩)])] 125)).alloc (.cells #[(.func (.func 94) #[] #[])] 126)) (.int .i64 z0) 3
    rw [World.size_alloc, World.size_alloc] at this
    exact this
  rw [hW0]
  clear hW0
  have HSZ := Lib.hid hsz
  clear hsz
  refine range_law (w0 := w) (gf := 92) (lb := #[.pointer (some ⟨Bs, 0, none⟩)]) rfl (enters_of Tryz.func92 (by kernel_rfl) rfl) hseq hx0 (fun _ => rfl)
    (fun pre W => (BoxI (w.heap.size + 1 + 1) (.int .i64 (bestF tl (fun a b => decide (b < a)) z0 pre)) W ∧ BoxI w.heap.size (.func (.func 93) #[] #[.pointer (some ⟨Bn, 0, none⟩), .pointer (some ⟨Bo, 0, none⟩)]) W ∧ BoxI (w.heap.size + 1) (.func (.func 94) #[] #[]) W) ∧ Below w.heap.size w W)
    (fun _ _ _ => False)
    (OwnFrom.and (OwnFrom.and ((boxI_own _ _).from _) (OwnFrom.and ((boxI_own _ (fun _ => (.func (.func 93) #[] #[.pointer (some ⟨Bn, 0, none⟩), .pointer (some ⟨Bo, 0, none⟩)]))).from _) ((boxI_own _ (fun _ => (.func (.func 94) #[] #[]))).from _))) (ownFrom_below (Nat.le_refl _) hx0.size))
    (fun _ _ _ _ _ hs _ _ => hs) ⟨⟨b2, b0, b1⟩, hx0⟩ ?round ?done ?stop
  case round =>
    apply Exists.intro
    constructor
    · intro l x W K hK
      dsimp only [encOk]
      gi_wp2
      exact hK
    · rintro l pre x W ⟨⟨⟨c2, f2⟩, ⟨c0, f0⟩, ⟨c1, f1⟩⟩, hB⟩ _
      gi_wp2_with (refine ⟨trivial, ?_⟩; first | (gi_at_call 93; refine (CallsIn.inRound l (callsIn_wide.2 (htell x _ hB))).mono ?_; rintro e w' ⟨rfl, hx⟩; have c0' := hx.cell c0; have c1' := hx.cell c1; have c2' := hx.cell c2; have f2' := ((ecell hx).2 _ 0 (cell_lt c2)).trans f2) | (gi_at_call 94; refine (CallsIn.inRound l (callsIn_wide.2 (more_any _ _ _))).mono ?_; rintro e w' ⟨rfl, rfl⟩))
      · refine ⟨((ext_keeps hx).trans (KeepsOthers.setCell _ _ _)).from _, Below.trans (Below.mono hx hB.size) ((Below.refl _ _).setCell (p := ⟨w.heap.size + 1 + 1, 0, none⟩) (by simp; omega) _), ⟨⟨?_, ?_, ?_⟩, ?_⟩⟩
        · rw [bestF_snoc, if_pos (by simpa using ‹_›)]
          exact BoxI.set ⟨c2', f2'⟩ _
        · exact BoxI.other (BoxI.ext ⟨c0, f0⟩ hx) (by omega) _
        · exact BoxI.other (BoxI.ext ⟨c1, f1⟩ hx) (by omega) _
        · exact (hB.trans (Below.mono hx hB.size)).setCell (p := ⟨w.heap.size + 1 + 1, 0, none⟩) (by simp; omega) _
      · refine ⟨(ext_keeps hx).from _, Below.mono hx hB.size, ⟨⟨?_, ?_, ?_⟩, ?_⟩⟩
        · rw [bestF_snoc, if_neg (by simpa using ‹_›)]
          exact BoxI.ext ⟨c2, f2⟩ hx
        · exact BoxI.ext ⟨c0, f0⟩ hx
        · exact BoxI.ext ⟨c1, f1⟩ hx
        · exact hB.trans (Below.mono hx hB.size)
  case done =>
    rintro D ys W hD rfl ⟨⟨⟨c2, f2⟩, _, _⟩, hB⟩ hK
    gi_wp2
    refine ⟨by simp, .inl ⟨_, _, rfl, run_takeDeferred hK, ?_⟩⟩
    exact ⟨_, results_tmp rfl _ _ _, rfl, hB.trans (belowK_b (w := w) (Nat.le_refl _) W D _ _ (by have := HSZ.out; omega) hK rfl rfl)⟩
  case stop =>
    rintro D c pre W _ _ h _
    exact h.elim


end Go.Proofs.YtejcmdoalhnpeaaGreatDoor
