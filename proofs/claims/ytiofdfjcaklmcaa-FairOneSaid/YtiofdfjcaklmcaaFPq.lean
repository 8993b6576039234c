/- Plain, for Fair: a chain that is found is accepted; how often chains can be applied. No program in sight. -/
import Derived.Test.YtiofdfjcaklmcaaFLaw
namespace Go.Proofs.Ytiofdfjcaklmcaa

theorem sid_is {P : Po} {i : Nat} (h : i < P.ss.length) : sid P i = P.ss[i].id := by
  unfold sid
  rw [List.getD_eq_getElem?_getD, List.getElem?_eq_getElem h, Option.getD_some]
theorem gAt_is {P : Po} (hok : OkP P) {g : List Int} {i : Nat} (h : i < g.length) (h' : i < P.ss.length) : gAt P g P.ss[i].id = g[i] := by
  unfold gAt
  rw [sl_at hok h', Int.toNat_natCast, List.getD_eq_getElem?_getD, List.getElem?_eq_getElem h, Option.getD_some]
/-- a way is taken by the test of shifts, from the second shift on -/
theorem way_lnk {P : Po} (hok : OkP P) {g : List Int} (so : Int) : ∀ (l : List (Nat × Int)) (k : Nat) (a : Int) (se : List (Int × Int)) (H : List Int), 0 < k → WayP P g a l → (H ++ a :: l.map (·.2)).Nodup → so ∈ H ++ [a] →
    (∀ q ∈ se, (∃ i, ∃ (h : i < g.length) (h' : i < P.ss.length), q = (P.ss[i].id, 0) ∧ g[i] ∈ H) ∨ ∃ x ∈ H ++ [a], q = (0, x)) → endG P g so (lstW a l) = true → lnkG P g k so a se (shW P l) = true
  | [], k, a, se, H, _, _, _, _, _, h => by
    show lnkG P g k so a se [] = true
    rw [lnkG]; exact h
  | (i, b) :: l, k, a, se, H, hk, hw, hn, hso, hse, he => by
    cases hw with
    | cons h h' ha hb hl =>
      have hmem : ∀ x ∈ H ++ [a], x ≠ b := fun x hx e => by
        rw [show H ++ a :: ((i, b) :: l).map (·.2) = (H ++ [a]) ++ b :: l.map (·.2) by simp, List.nodup_append] at hn
        exact hn.2.2 x hx b (by simp) e
      have haH : a ∉ H := fun hx => by
        rw [List.nodup_append] at hn
        exact hn.2.2 a hx a (by simp) rfl
      show lnkG P g k so a se ((sid P i, b) :: shW P l) = true
      rw [lnkG, sid_is h']
      simp only
      have hsi := sl_at hok h'
      have hgi := gAt_is hok h h'
      have hid := (hok.si _ (List.getElem_mem h')).1
      have hbt : 1 ≤ b := by
        obtain ⟨t, ht, rfl⟩ := hok.us _ (List.getElem_mem h') b hb
        exact (hok.ti t ht).1.1
      rw [hsi, hgi, ha, Int.toNat_natCast, usOf_at h', if_neg (by omega), if_neg (by simpa using hb), if_neg (hmem a (by simp)), if_neg (by simp), if_neg (show ¬ k = 0 by omega), if_neg (fun e => hmem so hso e.symm), if_neg, if_neg]
      · refine way_lnk hok so l (k + 1) b _ (H ++ [a]) (by omega) hl (by simpa using hn) (List.mem_append_left _ hso) (fun q hq => ?_) he
        rw [List.mem_append] at hq
        rcases hq with hq | hq
        · rcases hse q hq with ⟨j, h1, h2, h3, h4⟩ | ⟨x, hx, hq⟩
          · exact .inl ⟨j, h1, h2, h3, List.mem_append_left _ h4⟩
          · exact .inr ⟨x, List.mem_append_left _ hx, hq⟩
        · simp only [List.mem_cons, List.not_mem_nil, or_false] at hq
          rcases hq with rfl | rfl
          · exact .inl ⟨i, h, h', rfl, by rw [ha]; simp⟩
          · exact .inr ⟨b, by simp, rfl⟩
      · intro hq
        rcases hse _ hq with ⟨j, h1, h2, h3, _⟩ | ⟨x, hx, hq⟩
        · have := (hok.si _ (List.getElem_mem h2)).1
          simp only [Prod.mk.injEq] at h3
          omega
        · simp only [Prod.mk.injEq, true_and] at hq
          exact hmem x hx hq.symm
      · intro hq
        rcases hse _ hq with ⟨j, h1, h2, h3, h4⟩ | ⟨x, hx, hq⟩
        · simp only [Prod.mk.injEq, and_true] at h3
          have e1 := sl_at hok h2
          rw [← h3, hsi] at e1
          have : j = i := by omega
          subst this
          rw [ha] at h4
          exact haH h4
        · simp only [Prod.mk.injEq] at hq
          omega
theorem way_acc {P : Po} (hok : OkP P) {g : List Int} {a : Int} {l : List (Nat × Int)} (hw : WayP P g a l) (hn : (a :: l.map (·.2)).Nodup) (hl : l ≠ []) (he : endG P g a (lstW a l) = true) : lnkB P g (shW P l) = true := by
  cases hw with
  | nil => exact absurd rfl hl
  | @cons _ i b l h h' ha hb hw =>
    unfold lnkB
    rw [if_neg (by simp [shW])]
    show lnkG P g 0 0 0 [] ((sid P i, b) :: shW P l) = true
    rw [lnkG, sid_is h']
    simp only
    have hsi := sl_at hok h'
    have hgi := gAt_is hok h h'
    have hab : a ≠ b := fun e => by
      rw [List.nodup_cons] at hn
      exact hn.1 (by rw [e]; simp)
    rw [hsi, hgi, ha, Int.toNat_natCast, usOf_at h', if_neg (by omega), if_neg (by simpa using hb), if_neg hab, if_neg (by simp), if_pos (trivial : True), if_neg (fun e => hab e.symm), if_neg (by simp), if_neg (by simp)]
    refine way_lnk hok a l 1 b _ [a] (by omega) hw (by simpa using hn) (by simp) (fun q hq => ?_) he
    simp only [List.nil_append, List.mem_cons, List.not_mem_nil, or_false] at hq
    rcases hq with rfl | rfl
    · exact .inl ⟨i, h, h', rfl, by rw [ha]; simp⟩
    · exact .inr ⟨b, by simp, rfl⟩
theorem ixW_shW {P : Po} (hok : OkP P) {l : List (Nat × Int)} (h : ∀ m ∈ l, m.1 < P.ss.length) : ixW P (shW P l) = l := by
  unfold ixW shW
  rw [List.map_map]
  conv => rhs; rw [← List.map_id l]
  refine List.map_congr_left fun m hm => ?_
  have h' := h m hm
  simp only [Function.comp_apply, id_eq]
  rw [sid_is h', sl_at hok h', Int.toNat_natCast]
theorem way_us2 {P : Po} (hok : OkP P) {g : List Int} {a : Int} {l : List (Nat × Int)} (hw : WayP P g a l) : ∀ x ∈ l.map (·.2), x ∈ P.ts.map (·.id) := by
  induction hw with
  | nil => intro x hx; cases hx
  | cons h h' ha hb _ ih =>
    intro x hx
    rw [List.map_cons, List.mem_cons] at hx
    rcases hx with rfl | hx
    · obtain ⟨t, ht, e⟩ := hok.us _ (List.getElem_mem h') _ hb
      exact e ▸ List.mem_map_of_mem ht
    · exact ih x hx
/-- what the chain that is found is -/
theorem chn_way {P : Po} {g : List Int} (hg : g.length = P.ss.length) (h : chnL P g ≠ []) : ∃ a t, t ∈ P.ts ∧ (a = 0 ∨ ∃ s ∈ P.ts, s.id = a) ∧ WayP P g a (chnL P g) ∧ (a :: (chnL P g).map (·.2)).Nodup ∧ lstW a (chnL P g) = t.id ∧ t.id ≠ a ∧ cntI g t.id < t.most ∧ (a = 0 ∨ cntI g t.id + 2 ≤ cntI g a) := by
  rcases chn_is P g with h0 | ⟨⟨a, t⟩, hq, hok, hw, _⟩
  · exact absurd h0 h
  · obtain ⟨w1, w2, w3⟩ := way_ok hg hw
    obtain ⟨hs, ht⟩ := prC_mem.1 hq
    unfold okC at hok
    rw [Bool.and_eq_true, Bool.and_eq_true, Bool.or_eq_true] at hok
    obtain ⟨⟨h1, h2⟩, h3⟩ := hok
    exact ⟨a, t, ht, hs, w1, w3, w2, by simpa using h1, by simpa using h2, by simpa using h3⟩
/-- it is accepted -/
theorem chn_acc {P : Po} (hok : OkP P) {g : List Int} (hS : ShrV P g) (h : chnL P g ≠ []) : ccE P g (shW P (chnL P g)) = 0 ∧ aplX P g (shW P (chnL P g)) = appW g (chnL P g) := by
  obtain ⟨a, t, ht, hs, hw, hn, hl, h1, h2, h3⟩ := chn_way hS.len h
  have hlk : lnkB P g (shW P (chnL P g)) = true := way_acc hok hw hn h (by
    rw [hl]
    unfold endG
    rw [mostOf_at hok ht, Bool.and_eq_true, Bool.or_eq_true]
    simpa using ⟨h2, h3⟩)
  have hlen : (shW P (chnL P g)).length ≤ 12 := by
    rw [List.nodup_cons] at hn
    have := len_sub hn.2 (way_us2 hok hw)
    rw [List.length_map, List.length_map] at this
    have := hok.lt
    unfold shW
    rw [List.length_map]
    omega
  have hc : ccE P g (shW P (chnL P g)) = 0 := cc_ok.2 ⟨⟨hok, hS⟩, hlen, hlk⟩
  refine ⟨hc, ?_⟩
  unfold aplX
  rw [if_pos hc, ixW_shW hok (fun m hm => (way_ix hw m hm).2)]
/-- the counts' squares behind a way -/
theorem sq_way {P : Po} (hP : PoV P) {g : List Int} {a : Int} {l : List (Nat × Int)} (h : WayP P g a l) (hn : (a :: l.map (·.2)).Nodup) (hl : a ≠ lstW a l) {t : Te} (ht : t ∈ P.ts) (hti : t.id = lstW a l)
    (hs : a = 0 ∨ ∃ s ∈ P.ts, s.id = a) : sumF (fun q : Te => cntI (appW g l) q.id * cntI (appW g l) q.id) P.ts = sumF (fun q => cntI g q.id * cntI g q.id) P.ts + (2 * cntI g t.id + 1) - (if a = 0 then 0 else 2 * cntI g a - 1) := by
  have hc := way_cnt h hn
  have e1 := sumF_pick (f := fun q => 2 * cntI g q.id + 1) (x := lstW a l) hP.nd t ht hti
  have e2 : sumF (fun q : Te => if q.id = a then 2 * cntI g q.id - 1 else 0) P.ts = if a = 0 then 0 else 2 * cntI g a - 1 := by
    rcases hs with h0 | ⟨s, hs1, hs2⟩
    · rw [if_pos h0, sumF_congr (g := fun _ => 0) (fun q hq => by rw [if_neg]; have := (hP.ti q hq).1; omega)]
      generalize P.ts = ts
      induction ts with
      | nil => rfl
      | cons _ _ ih => rw [sumF_cons, ih]; rfl
    · have := (hP.ti s hs1).1
      rw [if_neg (by omega), ← hs2]
      exact sumF_pick (f := fun q => 2 * cntI g q.id - 1) (x := s.id) hP.nd s hs1 rfl
  have e3 : sumF (fun q : Te => cntI (appW g l) q.id * cntI (appW g l) q.id + (if q.id = a then 2 * cntI g q.id - 1 else 0)) P.ts = sumF (fun q => cntI g q.id * cntI g q.id + (if q.id = lstW a l then 2 * cntI g q.id + 1 else 0)) P.ts := sumF_congr (fun q _ => by
    rw [hc q.id]
    generalize cntI g q.id = n
    have h2 : (n + 1) * (n + 1) = n * n + (2 * n + 1) := by rw [Int.add_mul, Int.mul_add]; omega
    have h3 : (n - 1) * (n - 1) = n * n - (2 * n - 1) := by rw [Int.sub_mul, Int.mul_sub, Int.one_mul]; omega
    by_cases hq1 : q.id = lstW a l
    · have hq2 : ¬ q.id = a := fun e => hl (e.symm.trans hq1)
      rw [if_pos hq1, if_neg hq2, if_pos hq1, if_neg hq2, show n + 1 - 0 = n + 1 by omega, h2]; omega
    · by_cases hq2 : q.id = a
      · rw [if_neg hq1, if_pos hq2, if_neg hq1, if_pos hq2, show n + 0 - 1 = n - 1 by omega, h3]; omega
      · rw [if_neg hq1, if_neg hq2, if_neg hq1, if_neg hq2, show n + 0 - 0 = n by omega])
  rw [sumF_add, sumF_add, e2, e1, hti] at e3
  rw [hti]
  omega
/-- how often chains can be applied where slots are few -/
def potS (P : Po) (g : List Int) : Int := cntI g 0 * 21 + sumF (fun t => cntI g t.id * cntI g t.id) P.ts
theorem cnt_two (g : List Int) {x y : Int} (h : x ≠ y) : cntI g x + cntI g y ≤ g.length := by
  induction g with
  | nil => simp [cntI, sumF]
  | cons z g ih =>
    have e : ∀ v, cntI (z :: g) v = (if z = v then 1 else 0) + cntI g v := fun v => by
      have := cntI_append [z] g v
      rw [show [z] ++ g = z :: g from rfl] at this
      rw [this]
      congr 1
      by_cases hz : z = v
      · subst hz; simp [cntI, sumF]
      · simp [cntI, sumF, hz]
    rw [e, e, List.length_cons]
    by_cases h1 : z = x
    · rw [if_pos h1, if_neg (by omega)]; omega
    · rw [if_neg h1]
      split <;> omega
theorem chn_fall {P : Po} (hP : PoV P) {g : List Int} (hS : ShrV P g) (hg : g.length ≤ 10) (h : chnL P g ≠ []) : ShrV P (appW g (chnL P g)) ∧ potS P (appW g (chnL P g)) < potS P g := by
  refine ⟨(chn_ok hP hS h).1, ?_⟩
  obtain ⟨a, t, ht, hs, hw, hn, hl, h1, h2, h3⟩ := chn_way hS.len h
  have e := sq_way hP hw hn (by rw [hl]; exact fun e => h1 e.symm) ht hl.symm hs
  have h0 := way_cnt hw hn 0
  have ht1 := (hP.ti t ht).1
  unfold potS
  rw [e, h0, hl, if_neg (by omega)]
  have hcn := cnt_two g (show t.id ≠ 0 by omega)
  by_cases ha : a = 0
  · rw [if_pos ha.symm, if_pos ha]
    have h0c : 1 ≤ cntI g 0 := by
      generalize hlc : chnL P g = l at *
      cases l with
      | nil => exact absurd rfl h
      | cons m l =>
        cases hw with
        | @cons _ j _ _ q1 q2 q3 _ _ =>
          have := cntI_set q1 1 0
          rw [q3, ha] at this
          have hnn := (cntI_nn (g.set j 1) 0).1
          simp only [if_true] at this
          rw [if_neg (by decide)] at this
          omega
    omega
  · rw [if_neg (fun e => ha e.symm), if_neg ha]
    rcases h3 with h3 | h3
    · exact absurd h3 ha
    · omega
theorem potS_bd {P : Po} {g : List Int} (hg : g.length ≤ 10) (ht : P.ts.length ≤ 6) : 0 ≤ potS P g ∧ potS P g ≤ 810 := by
  have h0 := cntI_nn g 0
  have h2 : ∀ l : List Te, 0 ≤ sumF (fun t => cntI g t.id * cntI g t.id) l ∧ sumF (fun t => cntI g t.id * cntI g t.id) l ≤ 100 * l.length := fun l => by
    induction l with
    | nil => simp [sumF]
    | cons x l ih =>
      rw [sumF_cons, List.length_cons]
      have h1 := cntI_nn g x.id
      have := Int.mul_nonneg h1.1 h1.1
      have h4 : cntI g x.id * cntI g x.id ≤ 10 * 10 := Int.mul_le_mul (by omega) (by omega) h1.1 (by omega)
      omega
  have := h2 P.ts
  unfold potS
  omega
end Go.Proofs.Ytiofdfjcaklmcaa
