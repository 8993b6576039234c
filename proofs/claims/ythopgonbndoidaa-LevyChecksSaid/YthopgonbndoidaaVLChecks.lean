/- Plain laws of LevyChecks: what both sides return is the same. LevyChecks: true whatever the tree, the ID and the number. -/
import Derived.Test.YthopgonbndoidaaVPtw
import Derived.Test.YthopgonbndoidaaVRAl
import Derived.Test.YthopgonbndoidaaVArgs
import Derived.Test.YthopgonbndoidaaVSan
namespace Go.Proofs.Ythopgonbndoidaa
open Go.RowKit Go.Shelf

theorem putL_sorted {l : List Int} (n : Int) (h : l.Pairwise (· ≤ ·)) : (putL l n).Pairwise (· ≤ ·) := by
  induction l with
  | nil => simp [putL]
  | cons a l ih =>
    have ha := List.pairwise_cons.1 h
    by_cases hc : a < n
    · have e : putL (a :: l) n = a :: putL l n := by simp [putL, hc]
      rw [e]
      refine List.pairwise_cons.2 ⟨fun x hx => ?_, ih ha.2⟩
      rcases putL_mem.1 hx with rfl | hx
      · omega
      · exact ha.1 x hx
    · have e : putL (a :: l) n = n :: a :: l := by simp [putL, hc]
      rw [e]
      refine List.pairwise_cons.2 ⟨fun x hx => ?_, h⟩
      rcases List.mem_cons.1 hx with rfl | hx
      · omega
      · have := ha.1 x hx; omega
theorem usrL_sorted (rs : List Rc) (k : Int) (l : List Py) : (usrL rs k l).Pairwise (· ≤ ·) := by
  induction l using snoc_ind with
  | h0 => simp [usrL]
  | h1 l p ih =>
    rw [usrL_snoc]
    unfold usrS
    split
    · exact putL_sorted _ ih
    · exact ih
theorem usrL_perm (rs : List Rc) (k : Int) (l : List Py) : (usrL rs k l).Perm (usnL rs k l) := by
  induction l using snoc_ind with
  | h0 => simp [usrL, usnL]
  | h1 l p ih =>
    rw [usrL_snoc, usnL_snoc]
    unfold usrS
    split
    · exact (putL_perm _ _).trans ((List.Perm.cons _ ih).trans (List.perm_append_singleton _ _).symm)
    · exact ih
theorem sorted_eq {l r : List Int} (h : l.Perm r) (hl : l.Pairwise (· ≤ ·)) (hr : r.Pairwise (· ≤ ·)) : l = r :=
  h.eq_of_pairwise (fun a b _ _ h1 h2 => by omega) hl hr
theorem users_same (rs : List Rc) (k : Int) (l : List Py) : srtI (usnL rs k l) = usrL rs k l :=
  sorted_eq ((srtI_perm _).trans (usrL_perm rs k l).symm) (srtI_sorted _) (usrL_sorted rs k l)
theorem usnX_same (T : Tr) (n : Int) : usnX T n = usrX T n := by unfold usnX usrX; rw [users_same]

theorem ptrL_cnt (rs : List Rc) (fr : Int) (k : Nat) (x : Int) : List.count x (ptrL rs fr k) = if 0 ≤ x ∧ x < k ∧ usB rs fr x = true then 1 else 0 := by
  induction k with
  | zero => rw [if_neg (by omega)]; simp [ptrL]
  | succ k ih =>
    rw [ptrL_succ]
    by_cases hk : usB rs fr k = true
    · rw [if_pos hk, List.count_append, ih]
      by_cases hx : x = k
      · subst hx
        rw [if_neg (by omega), if_pos ⟨by omega, by omega, hk⟩]
        simp
      · have h0 : List.count x [(k : Int)] = 0 := List.count_eq_zero_of_not_mem (by simp; omega)
        rw [h0, Nat.add_zero]
        by_cases hc : 0 ≤ x ∧ x < k ∧ usB rs fr x = true
        · rw [if_pos hc, if_pos ⟨hc.1, by omega, hc.2.2⟩]
        · rw [if_neg hc, if_neg (fun h => hc ⟨h.1, by omega, h.2.2⟩)]
    · rw [if_neg hk, ih]
      by_cases hx : x = k
      · subst hx
        rw [if_neg (by omega), if_neg (fun h => hk h.2.2)]
      · by_cases hc : 0 ≤ x ∧ x < k ∧ usB rs fr x = true
        · rw [if_pos hc, if_pos ⟨hc.1, by omega, hc.2.2⟩]
        · rw [if_neg hc, if_neg (fun h => hc ⟨h.1, by omega, h.2.2⟩)]
theorem ptrL_sorted (rs : List Rc) (fr : Int) (k : Nat) : (ptrL rs fr k).Pairwise (· ≤ ·) ∧ ∀ x ∈ ptrL rs fr k, x < k := by
  induction k with
  | zero => simp [ptrL]
  | succ k ih =>
    rw [ptrL_succ]
    split
    · refine ⟨List.pairwise_append.2 ⟨ih.1, by simp, fun a ha b hb => ?_⟩, fun x hx => ?_⟩
      · have := ih.2 a ha
        simp at hb; omega
      · rcases List.mem_append.1 hx with h | h
        · have := ih.2 x h; omega
        · simp at h; omega
    · exact ⟨ih.1, fun x hx => by have := ih.2 x hx; omega⟩
theorem path_same {rs : List Rc} (hV : RsV rs) {fr : Int} (h2 : fr < rs.length) : srtI (upL rs fr) = ptrL rs fr rs.length := by
  refine sorted_eq ((srtI_perm _).trans (List.perm_iff_count.2 fun x => ?_)) (srtI_sorted _) (ptrL_sorted rs fr _).1
  rw [ptrL_cnt]
  by_cases hx : x ∈ upL rs fr
  · have hb := upL_in hV h2 x hx
    obtain ⟨r, rfl⟩ : ∃ r : Nat, x = r := ⟨x.toNat, by omega⟩
    have hc := cnt_up hV h2 r
    have hu : usB rs fr r = true := by unfold usB; exact List.any_eq_true.2 ⟨_, hx, by simp⟩
    rw [if_pos hu] at hc
    rw [if_pos ⟨by omega, by omega, hu⟩]
    omega
  · rw [List.count_eq_zero_of_not_mem hx, if_neg]
    rintro ⟨_, _, hu⟩
    unfold usB at hu
    obtain ⟨y, hy, he⟩ := List.any_eq_true.1 hu
    exact hx (by simpa using (beq_iff_eq.1 he) ▸ hy)

theorem wtA_pos (rs : List Rc) (l : List Py) (h : ∀ p ∈ l, 1 ≤ p.w) (r : Nat) : wtA rs l r > 0 ↔ ∃ p ∈ l, usB rs p.reach r = true := by
  induction l using snoc_ind with
  | h0 => simp [wtA]
  | h1 l p ih =>
    have hl : ∀ q ∈ l, 1 ≤ q.w := fun q hq => h q (by simp [hq])
    have hp := h p (by simp)
    have hb := (wtA_bd rs l hl r).1
    rw [wtA_snoc]
    unfold wtS
    by_cases hu : usB rs p.reach r = true
    · simp only [hu, if_true]
      exact ⟨fun _ => ⟨p, by simp, hu⟩, fun _ => by omega⟩
    · simp only [hu]
      rw [if_neg (by decide), ih hl]
      constructor
      · rintro ⟨q, h1, h2⟩; exact ⟨q, by simp [h1], h2⟩
      · rintro ⟨q, h1, h2⟩
        rcases List.mem_append.1 h1 with h1 | h1
        · exact ⟨q, h1, h2⟩
        · obtain rfl := List.mem_singleton.1 h1
          exact absurd h2 hu
theorem usrL_pos (rs : List Rc) (k : Int) (l : List Py) : 0 < (usrL rs k l).length ↔ ∃ p ∈ l, usB rs p.reach k = true := by
  rw [List.length_pos_iff_exists_mem]
  constructor
  · rintro ⟨u, hu⟩
    obtain ⟨p, h1, h2, _⟩ := usrL_mem.1 hu
    exact ⟨p, h1, h2⟩
  · rintro ⟨p, h1, h2⟩
    exact ⟨p.id, usrL_mem.2 ⟨p, h1, h2, rfl⟩⟩
theorem usd_eq {T : Tr} (h : ∀ p ∈ T.ps, 1 ≤ p.w) (k : Nat) : usdL (wtA T.rs T.ps) k = udrL T k := by
  induction k with
  | zero => rfl
  | succ k ih =>
    rw [usdL_succ, udrL_succ, ih]
    by_cases hc : ∃ p ∈ T.ps, usB T.rs p.reach k = true
    · rw [if_pos ((wtA_pos _ _ h k).2 hc), if_pos ((usrL_pos _ _ _).2 hc)]
    · rw [if_neg (fun e => hc ((wtA_pos _ _ h k).1 e)), if_neg (fun e => hc ((usrL_pos _ _ _).1 e))]
theorem udr_end {T : Tr} (hok : Ok T) (d : Nat) : udrL T (T.rs.length + d) = udrL T T.rs.length := by
  induction d with
  | zero => rfl
  | succ d ih =>
    rw [← Nat.add_assoc, udrL_succ, ih, if_neg]
    intro hc
    obtain ⟨p, hp, hu⟩ := (usrL_pos _ _ _).1 hc
    unfold usB at hu
    obtain ⟨y, hy, he⟩ := List.any_eq_true.1 hu
    have hb := upL_in hok.rv (hok.pv p hp).2.1.2 y hy
    have := beq_iff_eq.1 he
    omega
theorem used_same {T : Tr} (hok : Ok T) : usdL (wtA T.rs T.ps) 24 = udrL T T.rs.length := by
  rw [usd_eq (fun p hp => (hok.pv p hp).2.2)]
  have hl := hok.lr
  have := udr_end hok (24 - T.rs.length)
  rwa [show T.rs.length + (24 - T.rs.length) = 24 by omega] at this
theorem usdX_same (T : Tr) : usdX T = udrX T := by
  unfold usdX udrX
  split
  · rename_i h; exact used_same (Ok.of h)
  · rfl

theorem pthX_same (T : Tr) (id : Int) : pthX T id = ptrX T id := by
  unfold pthX ptrX
  split
  · rename_i h
    have h0 : chkE T = 0 ∧ ¬ fnd T.ps id < 0 := by
      unfold pthE at h
      split at h
      · rename_i hc
        split at h
        · cases h
        · rename_i hf; exact ⟨hc, hf⟩
      · rename_i hc; exact absurd h hc
    have hok := Ok.of h0.1
    have hlt := fnd_lt (l := T.ps) (id := id) (by omega)
    have hi : (fnd T.ps id).toNat < T.ps.length := by omega
    have hr : pthR T id = T.ps[(fnd T.ps id).toNat].reach := by simp [pthR, List.getD, hi]
    refine path_same hok.rv ?_
    rw [hr]
    exact (hok.pv _ (List.getElem_mem hi)).2.1.2
  · rfl
end Go.Proofs.Ythopgonbndoidaa
namespace Go.Proofs.Ythopgonbndoidaa
open Go.RowKit Go.Shelf

theorem same_self (v u : Value) (l : List Int) (w : World) (hl : IntsAt w v l) (hr : IntsAt w u l) (hn : l.length ≤ 1000000) :
    Calls Try.prog 42 #[v, u] w fun e w' => e = .returned (.bool true) ∧ Ext w w' :=
  (refSame_any v u l l w hl hr hn).mono fun e w' ⟨he, hx⟩ => ⟨by rw [he]; simp, hx⟩
set_option maxRecDepth 100000 in
set_option maxHeartbeats 8000000 in
theorem LevyChecks_any (a b : Value) (T : Tr) (id n : Int) (w : World) (hT : TrAt w a b T) :
    Calls Try.prog 11 #[.agg #[a, b], .int .i64 id, .int .i64 n] w fun e w' => e = .returned (.bool true) ∧ Ext w w' := by
  have K1 := fun W (h : Ext w W) => few_any a b T W (hT.ext h)
  have san : ∀ W1 : World, Ext w W1 → Calls Try.prog 14 #[] W1 fun e w' => e = .returned (.bool true) ∧ Ext w w' := fun W1 h => (sanity_any W1).mono fun e W' ⟨he, hz⟩ => ⟨he, h.trans hz⟩
  go_enter Try.func11, Try.ntmps11
  go_wp2_with fail
  refine (K1 _ (by repeat (first | exact Ext.refl _ | assumption | refine Ext.alloc ?_ _ | refine Ext.drew ?_ | refine Ext.drewN _ ?_ | refine Ext.trans ?_ (by assumption)))).mono ?_
  rintro e w1 ⟨F, rfl, hF, hx1⟩
  obtain ⟨q0, hx, hk0⟩ := alloc1 hx1
  have d0 : w1.cell? ⟨w.heap.size, 0, none⟩ = some a := q0.cell 0
  have d1 : w1.cell? ⟨w.heap.size, 1, none⟩ = some b := q0.cell 1
  have HF := Lib.hid hF
  clear hx1 K1 hF
  cases F with
  | false =>
    go_wp2_with fail
    refine (san _ hx).mono ?_
    rintro e w2 ⟨rfl, hz⟩
    go_wp2_with fail
    go_ret
    exact ⟨rfl, hz⟩
  | true =>
    have hmk := HF.out rfl
    have HM := Lib.hid hmk
    clear hmk
    go_wp2_with fail
    refine (Path_any a b T id _ (hT.ext hx)).mono ?_
    rintro e w2 ⟨u1, rfl, hu1, hz⟩
    rw [pthX_same] at hu1
    obtain ⟨A1, c1, rfl, _⟩ := hu1.len
    have hx2 := hx.trans hz
    replace d0 := hz.cell d0
    replace d1 := hz.cell d1
    have hmk := HM.out
    clear hz hx q0
    go_wp2_with fail
    refine (refPath_any a b T id _ (hT.ext hx2) (by omega)).mono ?_
    rintro e w3 ⟨u2, rfl, hu2, hz⟩
    obtain ⟨A2, c2, rfl, _⟩ := hu2.len
    have hx3 := hx2.trans hz
    replace d0 := hz.cell d0
    replace d1 := hz.cell d1
    replace hu1 := hu1.ext hz
    clear hz hx2
    obtain ⟨B3, hB3⟩ : ∃ B, w3.heap.size = B := ⟨_, rfl⟩
    obtain ⟨Y3, hY3⟩ : ∃ Y, w3.alloc (.cells #[.slice A2 (ptrX T id).length c2, .int .i64 (pthE T id)] 88) = Y := ⟨_, rfl⟩
    have hxY : Ext w3 Y3 := by rw [← hY3]; exact (by repeat (first | exact Ext.refl _ | assumption | refine Ext.alloc ?_ _ | refine Ext.drew ?_ | refine Ext.drewN _ ?_ | refine Ext.trans ?_ (by assumption)))
    have k3 : Cls B3 88 #[.slice A2 (ptrX T id).length c2, .int .i64 (pthE T id)] Y3 := by rw [← hY3]; exact Cls.newAt _ _ _ hB3.symm
    replace hx3 := hx3.trans hxY
    replace d0 := hxY.cell d0
    replace d1 := hxY.cell d1
    replace hu1 := hu1.ext hxY
    replace hu2 := hu2.ext hxY
    clear hxY
    go_wp2_with fail
    clear hY3 hB3
    refine (Users_any a b T n _ (hT.ext hx3) (by omega)).mono ?_
    rintro e w4 ⟨u3, rfl, hu3, hz⟩
    rw [usnX_same] at hu3
    obtain ⟨A3, c3, rfl, _⟩ := hu3.len
    have hx4 := hx3.trans hz
    replace d0 := hz.cell d0
    replace d1 := hz.cell d1
    replace hu1 := hu1.ext hz
    replace hu2 := hu2.ext hz
    replace k3 := k3.ext hz
    clear hz hx3
    go_wp2_with fail
    refine (refUsersP_any a b T n _ (hT.ext hx4)).mono ?_
    rintro e w5 ⟨u4, rfl, hu4, hz⟩
    obtain ⟨A4, c4, rfl, _⟩ := hu4.len
    have hx5 := hx4.trans hz
    obtain ⟨B5, hB5⟩ : ∃ B, w5.heap.size = B := ⟨_, rfl⟩
    obtain ⟨Y5, hY5⟩ : ∃ Y, w5.alloc (.cells #[.slice A4 (usrX T n).length c4, .int .i64 (reaE T n)] 88) = Y := ⟨_, rfl⟩
    have hxY : Ext w5 Y5 := by rw [← hY5]; exact (by repeat (first | exact Ext.refl _ | assumption | refine Ext.alloc ?_ _ | refine Ext.drew ?_ | refine Ext.drewN _ ?_ | refine Ext.trans ?_ (by assumption)))
    have k5 : Cls B5 88 #[.slice A4 (usrX T n).length c4, .int .i64 (reaE T n)] Y5 := by rw [← hY5]; exact Cls.newAt _ _ _ hB5.symm
    replace hx5 := hx5.trans hxY
    have hzY := hz.trans hxY
    replace d0 := hzY.cell d0
    replace d1 := hzY.cell d1
    replace hu1 := hu1.ext hzY
    replace hu2 := hu2.ext hzY
    replace hu3 := hu3.ext hzY
    replace hu4 := hu4.ext hxY
    replace k3 := k3.ext hzY
    clear hz hzY hxY hx4
    go_wp2_with fail
    clear hY5 hB5
    refine (Used_any a b T _ (hT.ext hx5)).mono ?_
    rintro e w6 ⟨u5, rfl, hu5, hz⟩
    rw [usdX_same] at hu5
    obtain ⟨A5, c5, rfl, _⟩ := hu5.len
    have hx6 := hx5.trans hz
    replace d0 := hz.cell d0
    replace d1 := hz.cell d1
    replace hu1 := hu1.ext hz
    replace hu2 := hu2.ext hz
    replace hu3 := hu3.ext hz
    replace hu4 := hu4.ext hz
    replace k3 := k3.ext hz
    replace k5 := k5.ext hz
    clear hz hx5
    go_wp2_with fail
    refine (refUsed_any a b T _ (hT.ext hx6)).mono ?_
    rintro e w7 ⟨u6, rfl, hu6, hz⟩
    obtain ⟨A6, c6, rfl, _⟩ := hu6.len
    have hx7 := hx6.trans hz
    obtain ⟨B7, hB7⟩ : ∃ B, w7.heap.size = B := ⟨_, rfl⟩
    obtain ⟨Y7, hY7⟩ : ∃ Y, w7.alloc (.cells #[.slice A6 (udrX T).length c6, .int .i64 (chkE T)] 88) = Y := ⟨_, rfl⟩
    have hxY : Ext w7 Y7 := by rw [← hY7]; exact (by repeat (first | exact Ext.refl _ | assumption | refine Ext.alloc ?_ _ | refine Ext.drew ?_ | refine Ext.drewN _ ?_ | refine Ext.trans ?_ (by assumption)))
    have k7 : Cls B7 88 #[.slice A6 (udrX T).length c6, .int .i64 (chkE T)] Y7 := by rw [← hY7]; exact Cls.newAt _ _ _ hB7.symm
    replace hx7 := hx7.trans hxY
    have hzY := hz.trans hxY
    replace d0 := hzY.cell d0
    replace d1 := hzY.cell d1
    replace hu1 := hu1.ext hzY
    replace hu2 := hu2.ext hzY
    replace hu3 := hu3.ext hzY
    replace hu4 := hu4.ext hzY
    replace hu5 := hu5.ext hzY
    replace hu6 := hu6.ext hxY
    replace k3 := k3.ext hzY
    replace k5 := k5.ext hzY
    clear hz hzY hxY hx6
    go_wp2_with fail
    clear hY7 hB7
    have hp1 : (ptrX T id).length ≤ 1000000 := by
      unfold ptrX
      split
      · have := ptrL_len T.rs (pthR T id) T.rs.length; omega
      · simp
    have hp2 : (usrX T n).length ≤ 1000000 := by
      unfold usrX
      split
      · have := usrL_len T.rs n T.ps; omega
      · simp
    have hp3 : (udrX T).length ≤ 1000000 := by
      unfold udrX
      split
      · have := udrL_len T T.rs.length; omega
      · simp
    have KC := fun W (h : Ext Y7 W) => Check_any a b T W (hT.ext (hx7.trans h))
    have KD := fun W (h : Ext Y7 W) => refCheck_any a b T W (hT.ext (hx7.trans h))
    have KS := fun W (h : Ext Y7 W) => (sanity_any W)
    obtain ⟨L1, h1⟩ : ∃ L, ptrX T id = L := ⟨_, rfl⟩
    obtain ⟨L2, h2⟩ : ∃ L, usrX T n = L := ⟨_, rfl⟩
    obtain ⟨L3, h3⟩ : ∃ L, udrX T = L := ⟨_, rfl⟩
    obtain ⟨E1, h4⟩ : ∃ L, pthE T id = L := ⟨_, rfl⟩
    obtain ⟨E2, h5⟩ : ∃ L, reaE T n = L := ⟨_, rfl⟩
    obtain ⟨C, h6⟩ : ∃ L, chkE T = L := ⟨_, rfl⟩
    rw [h1] at hp1 hu1 hu2 k3
    rw [h2] at hp2 hu3 hu4 k5
    rw [h3] at hp3 hu5 hu6 k7
    rw [h4] at k3
    rw [h5] at k5
    rw [h6] at k7 KC KD
    rw [h1, h2, h3, h4, h5, h6]
    have KA := fun W (h : Ext Y7 W) => same_self _ _ L1 W (hu1.ext h) (hu2.ext h) hp1
    have KB := fun W (h : Ext Y7 W) => same_self _ _ L2 W (hu3.ext h) (hu4.ext h) hp2
    have KE := fun W (h : Ext Y7 W) => same_self _ _ L3 W (hu5.ext h) (hu6.ext h) hp3
    have f30 := k3.cell 0
    have f31 := k3.cell 1
    have f50 := k5.cell 0
    have f51 := k5.cell 1
    have f70 := k7.cell 0
    have f71 := k7.cell 1
    clear h1 h2 h3 h4 h5 h6 hp1 hp2 hp3 hu1 hu2 hu3 hu4 hu5 hu6 k3 k5 k7 hT HM HF hmk san
    go_region_held3 (fun W' => W'.cell? ⟨w.heap.size, 0, none⟩ = some a ∧ W'.cell? ⟨w.heap.size, 1, none⟩ = some b ∧ W'.cell? ⟨B3, 0, none⟩ = some (.slice A2 L1.length c2) ∧ W'.cell? ⟨B3, 1, none⟩ = some (.int .i64 E1) ∧ W'.cell? ⟨B5, 0, none⟩ = some (.slice A4 L2.length c4) ∧ W'.cell? ⟨B5, 1, none⟩ = some (.int .i64 E2) ∧ W'.cell? ⟨B7, 0, none⟩ = some (.slice A6 L3.length c6) ∧ W'.cell? ⟨B7, 1, none⟩ = some (.int .i64 C) ∧ Ext Y7 W')
      ((refine ⟨Ext.cell (w := Y7) ?_ d0, Ext.cell (w := Y7) ?_ d1, Ext.cell (w := Y7) ?_ f30, Ext.cell (w := Y7) ?_ f31, Ext.cell (w := Y7) ?_ f50, Ext.cell (w := Y7) ?_ f51, Ext.cell (w := Y7) ?_ f70, Ext.cell (w := Y7) ?_ f71, ?_⟩; all_goals exact (by repeat (first | exact Ext.refl _ | assumption | refine Ext.alloc ?_ _ | refine Ext.drew ?_ | refine Ext.drewN _ ?_ | refine Ext.trans ?_ (by assumption)))))
      ((first | (go_at_call 14; refine (KS _ ?_).mono ?_; (focus (exact (by repeat (first | exact Ext.refl _ | assumption | refine Ext.alloc ?_ _ | refine Ext.drew ?_ | refine Ext.drewN _ ?_ | refine Ext.trans ?_ (by assumption))))); rintro e w' ⟨rfl, hz⟩) | (go_at_call 22; refine (KC _ ?_).mono ?_; (focus (exact (by repeat (first | exact Ext.refl _ | assumption | refine Ext.alloc ?_ _ | refine Ext.drew ?_ | refine Ext.drewN _ ?_ | refine Ext.trans ?_ (by assumption))))); rintro e w' ⟨rfl, hz⟩) | (go_at_call 48; refine (KD _ ?_).mono ?_; (focus (exact (by repeat (first | exact Ext.refl _ | assumption | refine Ext.alloc ?_ _ | refine Ext.drew ?_ | refine Ext.drewN _ ?_ | refine Ext.trans ?_ (by assumption))))); rintro e w' ⟨rfl, hz⟩) | (go_at_call 42; first | ((with_reducible refine (KA _ ?_).mono ?_); (focus (exact (by repeat (first | exact Ext.refl _ | assumption | refine Ext.alloc ?_ _ | refine Ext.drew ?_ | refine Ext.drewN _ ?_ | refine Ext.trans ?_ (by assumption))))); rintro e w' ⟨rfl, hz⟩) | ((with_reducible refine (KB _ ?_).mono ?_); (focus (exact (by repeat (first | exact Ext.refl _ | assumption | refine Ext.alloc ?_ _ | refine Ext.drew ?_ | refine Ext.drewN _ ?_ | refine Ext.trans ?_ (by assumption))))); rintro e w' ⟨rfl, hz⟩) | ((with_reducible refine (KE _ ?_).mono ?_); (focus (exact (by repeat (first | exact Ext.refl _ | assumption | refine Ext.alloc ?_ _ | refine Ext.drew ?_ | refine Ext.drewN _ ?_ | refine Ext.trans ?_ (by assumption))))); rintro e w' ⟨rfl, hz⟩))))
    all_goals
      go_wp2_with fail
      go_ret
      exact ⟨ret_bool (by simp), (by repeat (first | exact Ext.refl _ | assumption | refine Ext.alloc ?_ _ | refine Ext.drew ?_ | refine Ext.drewN _ ?_ | refine Ext.trans ?_ (by assumption)))⟩
end Go.Proofs.Ythopgonbndoidaa
namespace Go.Proofs.Ythopgonbndoidaa.levyChecks
open Go.ChangeShapes Go.WideShapes Go.ChangeAt Go.RowKit Go.Deep Go.Joins

noncomputable def wArgs : Array Value := #[.agg #[.slice none 0 0, .slice none 0 0], .int .i64 0, .int .i64 0]
noncomputable def laidWorld (os : Os) : World := World.holding Try.prog os ⟨#[], #[], []⟩

set_option maxRecDepth 100000 in
theorem contract (H : Type) (enc : TypeId × Value → H) (W : World) (base : Nat) (args : Array Value) (ds gs : List (DataW H)) (before : List MemPlace)
    (hval : ∀ (j : Nat) t v, Try.f11.params[j]? = some t → args[j]? = some v → Value.okWide Try.prog W .any base t v)
    (hW : DataW.Whole enc Try.prog Try.f11.params.toList Rows.levyChecksSpec.vars false W args.toList ds gs before) :
    Calls Try.prog 11 args W fun e W' => ∃ v, e = .returned v ∧ Rows.levyChecksSpec.post enc Try.prog Try.f11 false true false false W args v W' := by
  have hW' := hW
  obtain ⟨p, q, hA, hV, rfl, hfz, hnd⟩ := hW
  rw [show Try.f11.params = #[25, 3, 3] from rfl] at hA hval
  obtain ⟨v0, vs0, d0, ds0, p0, q0, hargs, rfl, rfl, h0, r0⟩ := trodAll_cons hA
  obtain ⟨v1, vs1, d1, ds1, p1, q1, rfl, rfl, rfl, h1, r1⟩ := trodAll_cons r0
  obtain ⟨v2, vs2, d2, ds2, p2, q2, rfl, rfl, rfl, h2, r2⟩ := trodAll_cons r1
  obtain ⟨rfl, rfl, rfl⟩ := trodAll_nil r2
  obtain rfl : args = #[v0, v1, v2] := by cases args; simp_all
  obtain ⟨rfl, rfl⟩ := trodVars_none hV
  obtain ⟨a0, b0, T0, rfl, hT0⟩ := open_tree (hval 0 25 v0 rfl rfl) h0
  obtain ⟨x1, rfl, _, _, hf1⟩ := open_int Try.underlying3 (hval 1 3 v1 rfl rfl) h1
  obtain ⟨x2, rfl, _, _, hf2⟩ := open_int Try.underlying3 (hval 2 3 v2 rfl rfl) h2
  refine (LevyChecks_any _ _ T0 x1 x2 W hT0).mono fun e W' ⟨he, hg⟩ => ?_
  subst he
  refine ⟨_, rfl, post_true hW' rfl rfl ⟨rfl, rfl, rfl⟩ ?_ hg⟩
  rw [show Try.f11.params = #[25, 3, 3] from rfl]
  intro t ht
  simp only [List.mem_cons, List.not_mem_nil, or_false] at ht
  rcases ht with rfl | rfl | rfl <;> exact ⟨by kernel_rfl, of_decide_eq_true (by kernel_rfl)⟩

set_option maxRecDepth 100000 in
theorem laid_met (os : Os) : laidMet Try.prog Rows.levyChecksRow.laid ((laidWorld os).forCall (fun _ _ => 0) ⟨#[], wArgs, []⟩).memory :=
  laidMet_of_run' 8 (by kernel_rfl) (by kernel_rfl)
set_option maxRecDepth 100000 in
theorem reads (os : Os) {H : Type} (enc : TypeId × Value → H) : ∃ x places, DataW.whole enc Try.prog ((laidWorld os).forCall (fun _ _ => 0) ⟨#[], wArgs, []⟩).memory Try.f11.params.toList Rows.levyChecksSpec.vars false wArgs.toList 8 = some (x, [], places) :=
  ⟨[.agg [.nil, .nil], .lit (.int .i64 0), .lit (.int .i64 0)], [], by kernel_rfl⟩

set_option maxRecDepth 100000 in
theorem lifted (os : Os) (started : os.Started) (H : Type) (enc : TypeId × Value → H) (F : Stop.Interp) :
    ReturnsInHanded {} Try.checked os 11 .any ((OpenSpec.ofChange Rows.levyChecksSpec).preRow enc Try.prog Try.f11 Rows.levyChecksRow.domain false Rows.levyChecksRow.laid) (((OpenSpec.ofChange Rows.levyChecksSpec).at F).post enc Try.prog Try.f11 false true false false) := by
  obtain ⟨x, places, hx⟩ := reads os enc
  refine returnsInHanded_of_row (C := Try.checked) (s := OpenSpec.ofChange Rows.levyChecksSpec) own started (by kernel_rfl) Try.func11
    (witness_row_at (enc := enc) (C := Try.checked) false (laidWorld os) wArgs rfl (by kernel_rfl) (by kernel_rfl) (by kernel_rfl)
      (OpenSpec.preRow_of_cond 8 hx (by kernel_rfl) (fun k hk => by cases hk) (by kernel_rfl) (laid_met os))) ?_
  intro W base args ds gs before hval hW _ _ _ hL _ _
  exact contract H enc W base args ds gs before hval hW

set_option maxRecDepth 100000 in
theorem said : Rows.LevyChecksSaid :=
  OpenClaim.holds_of_cond 11 Try.f11 rfl rfl rfl rfl rfl rfl rfl ⟨rfl, rfl, rfl, rfl, rfl⟩ rfl rfl rfl rfl rfl (by kernel_rfl) Try.func11 (by kernel_rfl)
    (of_decide_eq_true (by kernel_rfl)) (by unfold Func.isWrapper; first | (rw [if_pos (by decide +kernel)]; kernel_rfl) | (rw [if_neg (by decide +kernel)]; exact ⟨rfl, rfl⟩))
    (fun os started H enc _ F => by rw [OpenClaim.pre_eq_preRow]; exact lifted os started H enc F)
end Go.Proofs.Ythopgonbndoidaa.levyChecks
