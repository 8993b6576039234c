/- Print of the program: the text of a set. -/
import Derived.Test.YtejcmdoalhnpeaaGreatDoorBld
import Derived.Test.YtejcmdoalhnpeaaGreatDoorAsk
namespace Go.Proofs.YtejcmdoalhnpeaaGreatDoor
open Go.RowKit Go.Shelf

/-- the text of a turn, of a span, of a set -/
def tnTxt (t : Tn) : List UInt8 := [101, 118, 101, 114, 121, 32] ++ dg t.p ++ [32, 102, 114, 111, 109, 32] ++ dg t.f ++ [32, 102, 111, 114, 32] ++ dg t.l ++ [59, 10]
def spTxt (s : Sp) : List UInt8 := [98, 101, 116, 119, 101, 101, 110, 32] ++ dg s.lo ++ [32, 97, 110, 100, 32] ++ dg s.hi ++ [59, 10]
def txt (S : Mn) : List UInt8 := S.ts.flatMap tnTxt ++ S.ss.flatMap spTxt
def prtX (S : Mn) : List UInt8 := if chkE S = 0 then txt S else []
theorem decDigits_len (k : Nat) : ∀ u, u < 10 ^ (k + 1) → (Lib.decDigits u).length ≤ k + 1 := by
  induction k with
  | zero => intro u h; rw [Lib.decDigits]; rw [dif_pos (by simpa using h)]; simp
  | succ k ih =>
    intro u h
    rw [Lib.decDigits]
    split
    · simp
    · have := ih (u / 10) (by rw [Nat.pow_succ] at h; omega)
      simp; omega
theorem dg_len (n : Int) (h : n ≤ 9999999) : (dg n).length ≤ 7 := decDigits_len 6 _ (by simp; omega)
theorem tnTxt_len (t : Tn) (hv : tnB t.p t.f t.l = true) : (tnTxt t).length ≤ 40 := by
  have := tnB_t hv
  have h1 := dg_len t.p (by omega); have h2 := dg_len t.f (by omega); have h3 := dg_len t.l (by omega)
  simp [tnTxt]; omega
theorem spTxt_len (s : Sp) (hv : spB s.lo s.hi = true) : (spTxt s).length ≤ 40 := by
  have := spB_t hv
  have h1 := dg_len s.lo (by omega); have h2 := dg_len s.hi (by omega)
  simp [spTxt]; omega
theorem flat_len {α : Type} (f : α → List UInt8) (l : List α) (h : ∀ x ∈ l, (f x).length ≤ 40) : (l.flatMap f).length ≤ l.length * 40 := by
  induction l with
  | nil => simp
  | cons x l ih =>
    have h1 := h x (List.mem_cons_self ..)
    have h2 := ih (fun y hy => h y (List.mem_cons_of_mem _ hy))
    simp only [List.flatMap_cons, List.length_append, List.length_cons]
    omega

theorem strCells_list (l : List UInt8) : Lib.strCells ⟨l.toArray⟩ = Lib.byteCells l := rfl
/-- what holds through the region that builds a part's text -/
def KS (w : World) (T : Nat) (t : TypeId) (cs : Array Value) (W : World) : Prop := Cls T t cs W ∧ Ext w W
theorem mk3 {w : World} {T : Nat} {t : TypeId} {x y z : Value} {W : World} (h : Cls T t #[x, y, z] W) (k : Ext w W) : W.cell? ⟨T, 0, none⟩ = some x ∧ W.cell? ⟨T, 1, none⟩ = some y ∧ W.cell? ⟨T, 2, none⟩ = some z ∧ KS w T t #[x, y, z] W := ⟨h.cell 0, h.cell 1, h.cell 2, h, k⟩
theorem mk2 {w : World} {T : Nat} {t : TypeId} {x y : Value} {W : World} (h : Cls T t #[x, y] W) (k : Ext w W) : W.cell? ⟨T, 0, none⟩ = some x ∧ W.cell? ⟨T, 1, none⟩ = some y ∧ KS w T t #[x, y] W := ⟨h.cell 0, h.cell 1, h, k⟩

set_option maxRecDepth 100000 in
set_option maxHeartbeats 2000000 in
theorem Print_any (a b : Value) (S : Mn) (w : World) (hS : MinsAt w a b S) (ht : Tab w) :
    Calls Tryz.prog 23 #[.agg #[a, b]] w fun e w' => e = .returned (.tuple #[.string ⟨(prtX S).toArray⟩, .int .i64 (chkE S)]) ∧ Ext w w' := by
  obtain ⟨aa, ca, rfl⟩ := hS.t.len
  obtain ⟨ab, cb, rfl⟩ := hS.s.len
  cases hE : (chkE S != 0)
  · have h0 : chkE S = 0 := by simpa using hE
    have hok : Ok S := by
      refine (@ask_ok S 0 ?_).1
      unfold askE
      rw [if_neg (by omega), if_pos (by decide)]
    have H0 := Lib.hid h0
    clear h0
    have hl1 := hok.lt
    have hl2 := hok.ls
    go_enter Tryz.func23, Tryz.ntmps23
    go_wp2_with fail
    refine (Check_any _ _ S _ (hS.ext (by repeat (first | exact Ext.refl _ | assumption | refine Ext.alloc ?_ _ | refine Ext.drew ?_ | refine Ext.drewN _ ?_ | refine Ext.trans ?_ (by assumption))))).mono ?_
    rintro e w1 ⟨rfl, hx1⟩
    rw [H0.out]
    obtain ⟨q0, hx2, hzz⟩ := alloc1 hx1
    have g0 : (w1.alloc (.cells #[.pointer none, .slice none 0 0] 96)).cell? ⟨w.heap.size, 0, none⟩ = some (.slice aa S.ts.length ca) := (q0.ext (by repeat (first | exact Ext.refl _ | assumption | refine Ext.alloc ?_ _ | refine Ext.drew ?_ | refine Ext.drewN _ ?_ | refine Ext.trans ?_ (by assumption)))).cell 0
    have ht1 : Tab (w1.alloc (.cells #[.pointer none, .slice none 0 0] 96)) := ht.ext (by repeat (first | exact Ext.refl _ | assumption | refine Ext.alloc ?_ _ | refine Ext.drew ?_ | refine Ext.drewN _ ?_ | refine Ext.trans ?_ (by assumption)))
    clear hx1
    go_wp2_with fail
    obtain ⟨W0, hW0⟩ : ∃ W0, w1.alloc (.cells #[.pointer none, .slice none 0 0] 96) = W0 := ⟨_, rfl⟩
    have hx3 : Ext w W0 := by rw [← hW0]; exact (by repeat (first | exact Ext.refl _ | assumption | refine Ext.alloc ?_ _ | refine Ext.drew ?_ | refine Ext.drewN _ ?_ | refine Ext.trans ?_ (by assumption)))
    have hb0 : Lib.IsBuilder 96 5 w1.heap.size w1.heap.size (Lib.byteCells ((S.ts.take 0).flatMap tnTxt)) W0 := by rw [← hW0]; exact Lib.fresh_isBuilder _ _ _
    have hq0 : Cls w.heap.size 25 #[.slice aa S.ts.length ca, .slice ab S.ss.length cb] W0 := by rw [← hW0]; exact q0.ext (by repeat (first | exact Ext.refl _ | assumption | refine Ext.alloc ?_ _ | refine Ext.drew ?_ | refine Ext.drewN _ ?_ | refine Ext.trans ?_ (by assumption)))
    rw [hW0] at ht1 ⊢
    have hb3 : Below w1.heap.size w1 W0 := by rw [← hW0]; exact (by repeat (first | exact Ext.refl _ | assumption | refine Ext.alloc ?_ _ | refine Ext.drew ?_ | refine Ext.drewN _ ?_ | refine Ext.trans ?_ (by assumption)))
    clear hW0 g0 q0
    obtain ⟨B, hB⟩ : ∃ B, w1.heap.size = B := ⟨_, rfl⟩
    rw [hB] at hb0 hzz hb3 ⊢
    go_loopw [18] (fun i wr => ∃ j : Nat, j ≤ S.ts.length ∧ i = .int .i64 j ∧ Hid (Lib.IsBuilder 96 5 B B (Lib.byteCells ((S.ts.take j).flatMap tnTxt)) wr) ∧ Ext w wr ∧ B ≤ wr.heap.size ∧ Below B W0 wr) (fun i _ => S.ts.length - (intOf i).toNat)
    case atStart => exact ⟨0, by omega, rfl, Lib.hid hb0, hx3, by have := hb3.size; omega, Below.refl _ _⟩
    case round =>
      obtain ⟨j, hj, rfl, HB, hx, hzr, hxB⟩ := hrel
      by_cases hlt : j < S.ts.length
      · obtain ⟨bb, oo, rfl, c0, c1, c2⟩ := (hS.t.ext hx).get j hlt
        have hv := tnB_t (hok.t _ (List.getElem_mem hlt))
        go_wp2_with fail
        obtain ⟨W1, hW1⟩ : ∃ W1, wr.alloc (.cells #[.int .i64 S.ts[j].p, .int .i64 S.ts[j].f, .int .i64 S.ts[j].l] 42) = W1 := ⟨_, rfl⟩
        have hx5 : Ext wr W1 := by rw [← hW1]; exact (by repeat (first | exact Ext.refl _ | assumption | refine Ext.alloc ?_ _ | refine Ext.drew ?_ | refine Ext.drewN _ ?_ | refine Ext.trans ?_ (by assumption)))
        have hx6 : Ext w W1 := hx.trans hx5
        have hb1 := Lib.hid (isBuilder_ext HB.out hx5)
        have hzb : B ≤ W1.heap.size := by have h1 := hx5.size; omega
        have hcl : Cls wr.heap.size 42 #[.int .i64 S.ts[j].p, .int .i64 S.ts[j].f, .int .i64 S.ts[j].l] W1 := by rw [← hW1]; exact Cls.new _ _ _
        have hneB : wr.heap.size ≠ B := by have := HB.out; rcases this with h | h <;> (obtain ⟨_, v, h2, _⟩ := h; have := (Array.getElem?_eq_some_iff.1 h2).1; omega)
        have hlen : ((S.ts.take j).flatMap tnTxt).length ≤ 960 := by
          have := flat_len tnTxt (S.ts.take j) (fun t h => tnTxt_len t (hok.t t (List.mem_of_mem_take h)))
          have := List.length_take_le j S.ts
          omega
        rw [hW1]
        clear hW1
        have l1 := dg_len S.ts[j].p (by omega)
        have l2 := dg_len S.ts[j].f (by omega)
        have l3 := dg_len S.ts[j].l (by omega)
        obtain ⟨T0, hT0⟩ : ∃ T, (S.ts.take j).flatMap tnTxt = T := ⟨_, rfl⟩
        have HT0 := Lib.hid hT0
        rw [hT0] at hb1 hlen
        clear hT0
        obtain ⟨A1, a1⟩ : ∃ A, A = [101, 118, 101, 114, 121, 32] ++ dg S.ts[j].p := ⟨_, rfl⟩
        obtain ⟨A2, a2⟩ : ∃ A, A = A1 ++ [32, 102, 114, 111, 109, 32] := ⟨_, rfl⟩
        obtain ⟨A3, a3⟩ : ∃ A, A = A2 ++ dg S.ts[j].f := ⟨_, rfl⟩
        obtain ⟨A4, a4⟩ : ∃ A, A = A3 ++ [32, 102, 111, 114, 32] := ⟨_, rfl⟩
        obtain ⟨A5, a5⟩ : ∃ A, A = A4 ++ dg S.ts[j].l := ⟨_, rfl⟩
        obtain ⟨A6, a6⟩ : ∃ A, A = A5 ++ [59, 10] := ⟨_, rfl⟩
        have n1 : A1.length ≤ 13 := by rw [a1]; simp; omega
        have n2 : A2.length ≤ 19 := by rw [a2]; simp; omega
        have n3 : A3.length ≤ 26 := by rw [a3]; simp; omega
        have n4 : A4.length ≤ 31 := by rw [a4]; simp; omega
        have n5 : A5.length ≤ 38 := by rw [a5]; simp; omega
        have n6 : A6.length ≤ 40 := by rw [a6]; simp; omega
        have s1 := catS #[101, 118, 101, 114, 121, 32] (dg S.ts[j].p).toArray rfl rfl (by simp) (by omega) a1
        have s2 := catS A1.toArray #[32, 102, 114, 111, 109, 32] rfl rfl (by omega) (by simp) a2
        have s3 := catS A2.toArray (dg S.ts[j].f).toArray rfl rfl (by omega) (by omega) a3
        have s4 := catS A3.toArray #[32, 102, 111, 114, 32] rfl rfl (by omega) (by simp) a4
        have s5 := catS A4.toArray (dg S.ts[j].l).toArray rfl rfl (by omega) (by omega) a5
        have s6 := catS A5.toArray #[59, 10] rfl rfl (by omega) (by simp) a6
        have HA : Hid (A6 = tnTxt S.ts[j]) := Lib.hid (by rw [a6, a5, a4, a3, a2, a1]; rfl)
        clear a1 a2 a3 a4 a5 a6 l1 l2 l3 n1 n2 n3 n4 n5
        have hwl : (Lib.byteCells T0).length + ByteArray.size ⟨A6.toArray⟩ ≤ 140737488355328 := by
          rw [Lib.byteCells_length]
          have : ByteArray.size ⟨A6.toArray⟩ = A6.length := by simp [ByteArray.size]
          omega
        have d0 := hcl.cell 0
        have d1 := hcl.cell 1
        have d2 := hcl.cell 2
        simp only [List.getElem?_toArray, List.getElem?_cons_zero, List.getElem?_cons_succ] at d0 d1 d2
        go_region_held3 (fun W' => W'.cell? ⟨wr.heap.size, 0, none⟩ = some (.int .i64 S.ts[j].p) ∧ W'.cell? ⟨wr.heap.size, 1, none⟩ = some (.int .i64 S.ts[j].f) ∧ W'.cell? ⟨wr.heap.size, 2, none⟩ = some (.int .i64 S.ts[j].l) ∧ KS w wr.heap.size 42 #[.int .i64 S.ts[j].p, .int .i64 S.ts[j].f, .int .i64 S.ts[j].l] W')
          ((refine mk3 ?_ ?_; all_goals (first | (refine Cls.ext (W := W1) hcl ?_; (repeat (first | exact Ext.refl _ | assumption | refine Ext.alloc ?_ _ | refine Ext.drew ?_ | refine Ext.drewN _ ?_ | refine Ext.trans ?_ (by assumption))); done) | (refine Ext.trans (b := W1) hx6 ?_; (repeat (first | exact Ext.refl _ | assumption | refine Ext.alloc ?_ _ | refine Ext.drew ?_ | refine Ext.drewN _ ?_ | refine Ext.trans ?_ (by assumption))); done) | (refine hkk _ _ _ hneB (by decide) (Cls.ext (W := W1) hcl ?_); (repeat (first | exact Ext.refl _ | assumption | refine Ext.alloc ?_ _ | refine Ext.drew ?_ | refine Ext.drewN _ ?_ | refine Ext.trans ?_ (by assumption))); done) | (refine Ext.trans' (Ext.trans (b := W1) hx6 ?_) (Below.mono hbl (by omega)); (repeat (first | exact Ext.refl _ | assumption | refine Ext.alloc ?_ _ | refine Ext.drew ?_ | refine Ext.drewN _ ?_ | refine Ext.trans ?_ (by assumption))); done))))
          ((first | (go_at_call 57; refine (Itoa_any _ _ (by omega) (by omega) (ht.ext (Ext.trans (b := W1) hx6 (by repeat (first | exact Ext.refl _ | assumption | refine Ext.alloc ?_ _ | refine Ext.drew ?_ | refine Ext.drewN _ ?_ | refine Ext.trans ?_ (by assumption)))))).mono ?_; rintro e w' ⟨rfl, hx⟩) | (go_at_call 56; refine (WriteString_any B B _ ⟨A6.toArray⟩ _ (isBuilder_ext (w := W1) hb1.out (by repeat (first | exact Ext.refl _ | assumption | refine Ext.alloc ?_ _ | refine Ext.drew ?_ | refine Ext.drewN _ ?_ | refine Ext.trans ?_ (by assumption)))) hwl (Nat.le_trans hzb (Ext.size (w := W1) (by repeat (first | exact Ext.refl _ | assumption | refine Ext.alloc ?_ _ | refine Ext.drew ?_ | refine Ext.drewN _ ?_ | refine Ext.trans ?_ (by assumption)))))).mono ?_; rintro e w' ⟨rfl, hbn, hbl, hkk⟩)))
        have hbn2 := hbn
        rw [strCells_list, ← Lib.byteCells_append, HA.out, ← HT0.out] at hbn2
        have hfl : (S.ts.take j).flatMap tnTxt ++ tnTxt S.ts[j] = (S.ts.take (j + 1)).flatMap tnTxt := by rw [take_succ_get S.ts j hlt, List.flatMap_append, List.flatMap_singleton]
        rw [hfl] at hbn2
        have HBN := Lib.hid hbn2
        have hxn : Ext w w' := by refine Ext.trans' (Ext.trans (b := W1) hx6 ?_) (Below.mono hbl (by omega)); (repeat (first | exact Ext.refl _ | assumption | refine Ext.alloc ?_ _ | refine Ext.drew ?_ | refine Ext.drewN _ ?_ | refine Ext.trans ?_ (by assumption))); done
        have hzn : B ≤ w'.heap.size := by obtain ⟨_, v, h2, _⟩ := hbn; have := (Array.getElem?_eq_some_iff.1 h2).1; omega
        have hxW : Below B W0 w' := by refine Below.trans (Below.trans hxB (Below.mono (Ext.trans (b := W1) hx5 ?_) hzr)) hbl; (repeat (first | exact Ext.refl _ | assumption | refine Ext.alloc ?_ _ | refine Ext.drew ?_ | refine Ext.drewN _ ?_ | refine Ext.trans ?_ (by assumption))); done
        clear hbn2 hfl
        go_wp2_with fail
        go_roundw
        case rel => exact ⟨j + 1, by omega, by go_num, Lib.hid (.inr HBN.out), hxn, hzn, hxW⟩
        case measure => simp [intOf]; omega
      · obtain rfl : j = S.ts.length := by omega
        rw [List.take_length] at HB
        have g1 : Cls w.heap.size 25 #[.slice aa S.ts.length ca, .slice ab S.ss.length cb] wr := (hxB.block _ (by omega)).trans hq0
        have k1 : wr.cell? ⟨w.heap.size, 1, none⟩ = some (.slice ab S.ss.length cb) := g1.cell 1
        go_wp2_with fail
        obtain ⟨W9, rfl⟩ : ∃ W9 : World, W9 = wr := ⟨_, rfl⟩
        go_loopw [42] (fun i wr => ∃ j : Nat, j ≤ S.ss.length ∧ i = .int .i64 j ∧ Hid (Lib.IsBuilder 96 5 B B (Lib.byteCells (S.ts.flatMap tnTxt ++ (S.ss.take j).flatMap spTxt)) wr) ∧ Ext w wr ∧ B ≤ wr.heap.size) (fun i _ => S.ss.length - (intOf i).toNat)
        case atStart => exact ⟨0, by omega, rfl, Lib.hid (by simpa using HB.out), hx, hzr⟩
        case round =>
          obtain ⟨j, hj, rfl, HB, hx, hzr⟩ := hrel
          by_cases hlt : j < S.ss.length
          · obtain ⟨bb, oo, rfl, c0, c1⟩ := (hS.s.ext hx).get j hlt
            have hv := spB_t (hok.s _ (List.getElem_mem hlt))
            go_wp2_with fail
            obtain ⟨W1, hW1⟩ : ∃ W1, wr.alloc (.cells #[.int .i64 S.ss[j].lo, .int .i64 S.ss[j].hi] 45) = W1 := ⟨_, rfl⟩
            have hx5 : Ext wr W1 := by rw [← hW1]; exact (by repeat (first | exact Ext.refl _ | assumption | refine Ext.alloc ?_ _ | refine Ext.drew ?_ | refine Ext.drewN _ ?_ | refine Ext.trans ?_ (by assumption)))
            have hx6 : Ext w W1 := hx.trans hx5
            have hb1 := Lib.hid (isBuilder_ext HB.out hx5)
            have hzb : B ≤ W1.heap.size := by have h1 := hx5.size; omega
            have hcl : Cls wr.heap.size 45 #[.int .i64 S.ss[j].lo, .int .i64 S.ss[j].hi] W1 := by rw [← hW1]; exact Cls.new _ _ _
            have hneB : wr.heap.size ≠ B := by have := HB.out; rcases this with h | h <;> (obtain ⟨_, v, h2, _⟩ := h; have := (Array.getElem?_eq_some_iff.1 h2).1; omega)
            have hlen : (S.ts.flatMap tnTxt ++ (S.ss.take j).flatMap spTxt).length ≤ 2560 := by
              have := flat_len tnTxt S.ts (fun t h => tnTxt_len t (hok.t t h))
              have := flat_len spTxt (S.ss.take j) (fun t h => spTxt_len t (hok.s t (List.mem_of_mem_take h)))
              have := List.length_take_le j S.ss
              rw [List.length_append]
              omega
            rw [hW1]
            clear hW1
            obtain ⟨T0, hT0⟩ : ∃ T, S.ts.flatMap tnTxt ++ (S.ss.take j).flatMap spTxt = T := ⟨_, rfl⟩
            have HT0 := Lib.hid hT0
            rw [hT0] at hb1 hlen
            clear hT0
            have l1 := dg_len S.ss[j].lo (by omega)
            have l2 := dg_len S.ss[j].hi (by omega)
            obtain ⟨A1, a1⟩ : ∃ A, A = [98, 101, 116, 119, 101, 101, 110, 32] ++ dg S.ss[j].lo := ⟨_, rfl⟩
            obtain ⟨A2, a2⟩ : ∃ A, A = A1 ++ [32, 97, 110, 100, 32] := ⟨_, rfl⟩
            obtain ⟨A3, a3⟩ : ∃ A, A = A2 ++ dg S.ss[j].hi := ⟨_, rfl⟩
            obtain ⟨A6, a6⟩ : ∃ A, A = A3 ++ [59, 10] := ⟨_, rfl⟩
            have n1 : A1.length ≤ 15 := by rw [a1]; simp; omega
            have n2 : A2.length ≤ 20 := by rw [a2]; simp; omega
            have n3 : A3.length ≤ 27 := by rw [a3]; simp; omega
            have n6 : A6.length ≤ 40 := by rw [a6]; simp; omega
            have s1 := catS #[98, 101, 116, 119, 101, 101, 110, 32] (dg S.ss[j].lo).toArray rfl rfl (by simp) (by omega) a1
            have s2 := catS A1.toArray #[32, 97, 110, 100, 32] rfl rfl (by omega) (by simp) a2
            have s3 := catS A2.toArray (dg S.ss[j].hi).toArray rfl rfl (by omega) (by omega) a3
            have s4 := catS A3.toArray #[59, 10] rfl rfl (by omega) (by simp) a6
            have HA : Hid (A6 = spTxt S.ss[j]) := Lib.hid (by rw [a6, a3, a2, a1]; rfl)
            clear a1 a2 a3 a6 l1 l2 n1 n2 n3
            have hwl : (Lib.byteCells T0).length + ByteArray.size ⟨A6.toArray⟩ ≤ 140737488355328 := by
              rw [Lib.byteCells_length]
              have : ByteArray.size ⟨A6.toArray⟩ = A6.length := by simp [ByteArray.size]
              omega
            have d0 := hcl.cell 0
            have d1 := hcl.cell 1
            simp only [List.getElem?_toArray, List.getElem?_cons_zero, List.getElem?_cons_succ] at d0 d1
            go_region_held3 (fun W' => W'.cell? ⟨wr.heap.size, 0, none⟩ = some (.int .i64 S.ss[j].lo) ∧ W'.cell? ⟨wr.heap.size, 1, none⟩ = some (.int .i64 S.ss[j].hi) ∧ KS w wr.heap.size 45 #[.int .i64 S.ss[j].lo, .int .i64 S.ss[j].hi] W')
              ((refine mk2 ?_ ?_; all_goals (first | (refine Cls.ext (W := W1) hcl ?_; (repeat (first | exact Ext.refl _ | assumption | refine Ext.alloc ?_ _ | refine Ext.drew ?_ | refine Ext.drewN _ ?_ | refine Ext.trans ?_ (by assumption))); done) | (refine Ext.trans (b := W1) hx6 ?_; (repeat (first | exact Ext.refl _ | assumption | refine Ext.alloc ?_ _ | refine Ext.drew ?_ | refine Ext.drewN _ ?_ | refine Ext.trans ?_ (by assumption))); done) | (refine hkk _ _ _ hneB (by decide) (Cls.ext (W := W1) hcl ?_); (repeat (first | exact Ext.refl _ | assumption | refine Ext.alloc ?_ _ | refine Ext.drew ?_ | refine Ext.drewN _ ?_ | refine Ext.trans ?_ (by assumption))); done) | (refine Ext.trans' (Ext.trans (b := W1) hx6 ?_) (Below.mono hbl (by omega)); (repeat (first | exact Ext.refl _ | assumption | refine Ext.alloc ?_ _ | refine Ext.drew ?_ | refine Ext.drewN _ ?_ | refine Ext.trans ?_ (by assumption))); done))))
              ((first | (go_at_call 57; refine (Itoa_any _ _ (by omega) (by omega) (ht.ext (Ext.trans (b := W1) hx6 (by repeat (first | exact Ext.refl _ | assumption | refine Ext.alloc ?_ _ | refine Ext.drew ?_ | refine Ext.drewN _ ?_ | refine Ext.trans ?_ (by assumption)))))).mono ?_; rintro e w' ⟨rfl, hx⟩) | (go_at_call 56; refine (WriteString_any B B _ ⟨A6.toArray⟩ _ (isBuilder_ext (w := W1) hb1.out (by repeat (first | exact Ext.refl _ | assumption | refine Ext.alloc ?_ _ | refine Ext.drew ?_ | refine Ext.drewN _ ?_ | refine Ext.trans ?_ (by assumption)))) hwl (Nat.le_trans hzb (Ext.size (w := W1) (by repeat (first | exact Ext.refl _ | assumption | refine Ext.alloc ?_ _ | refine Ext.drew ?_ | refine Ext.drewN _ ?_ | refine Ext.trans ?_ (by assumption)))))).mono ?_; rintro e w' ⟨rfl, hbn, hbl, hkk⟩)))
            have hbn2 := hbn
            rw [strCells_list, ← Lib.byteCells_append, HA.out, ← HT0.out] at hbn2
            have hfl : S.ts.flatMap tnTxt ++ (S.ss.take j).flatMap spTxt ++ spTxt S.ss[j] = S.ts.flatMap tnTxt ++ (S.ss.take (j + 1)).flatMap spTxt := by rw [take_succ_get S.ss j hlt, List.flatMap_append, List.flatMap_singleton, List.append_assoc]
            rw [hfl] at hbn2
            have HBN := Lib.hid hbn2
            have hxn : Ext w w' := by refine Ext.trans' (Ext.trans (b := W1) hx6 ?_) (Below.mono hbl (by omega)); (repeat (first | exact Ext.refl _ | assumption | refine Ext.alloc ?_ _ | refine Ext.drew ?_ | refine Ext.drewN _ ?_ | refine Ext.trans ?_ (by assumption))); done
            have hzn : B ≤ w'.heap.size := by obtain ⟨_, v, h2, _⟩ := hbn; have := (Array.getElem?_eq_some_iff.1 h2).1; omega
            clear hbn2 hfl
            go_wp2_with fail
            go_roundw
            case rel => exact ⟨j + 1, by omega, by go_num, Lib.hid (.inr HBN.out), hxn, hzn⟩
            case measure => simp [intOf]; omega
          · obtain rfl : j = S.ss.length := by omega
            rw [List.take_length] at HB
            go_wp2_with fail
            refine (Tryz.Builder_String_any B B _ _ HB.out hzr).mono ?_
            rintro e w9 ⟨rfl, hb9⟩
            go_wp2_with fail
            go_ret2
            exact ⟨ret2 (by rw [prtX, if_pos H0.out]; rfl) (by first | rfl | exact vint H0.out.symm), hx.trans' (hb9.mono (by omega))⟩
  · have h0 : chkE S ≠ 0 := by simpa using hE
    go_enter Tryz.func23, Tryz.ntmps23
    go_wp2_with fail
    refine (Check_any _ _ S _ (hS.ext (by repeat (first | exact Ext.refl _ | assumption | refine Ext.alloc ?_ _ | refine Ext.drew ?_ | refine Ext.drewN _ ?_ | refine Ext.trans ?_ (by assumption))))).mono ?_
    rintro e w1 ⟨rfl, hx1⟩
    go_wp2_with fail
    go_ret2
    exact ⟨ret2 (by rw [prtX, if_neg h0]; rfl) rfl, (by repeat (first | exact Ext.refl _ | assumption | refine Ext.alloc ?_ _ | refine Ext.drew ?_ | refine Ext.drewN _ ?_ | refine Ext.trans ?_ (by assumption)))⟩

end Go.Proofs.YtejcmdoalhnpeaaGreatDoor
