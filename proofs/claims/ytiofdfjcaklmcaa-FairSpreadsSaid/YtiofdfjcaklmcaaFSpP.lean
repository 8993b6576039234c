/- Plain, for Fair: what Spread returns are the least and the greatest count in fairest sharings; a pool in which one may have less. No program in sight. -/
import Derived.Test.YtiofdfjcaklmcaaFPp
namespace Go.Proofs.Ytiofdfjcaklmcaa

theorem spL_ok {P : Po} {g : List Int} {tn a : Int} {G : Int → Prop} : ∀ (F : Fnd) (s : Int × Int), (∀ q ∈ F, spT P g tn a q = true → G (cntI (appW g q.2) tn)) → G s.1 → G s.2 →
    G (spL P g tn a s F).1 ∧ G (spL P g tn a s F).2 ∧ (spL P g tn a s F).1 ≤ s.1 ∧ s.2 ≤ (spL P g tn a s F).2 ∧ ∀ q ∈ F, spT P g tn a q = true → (spL P g tn a s F).1 ≤ cntI (appW g q.2) tn ∧ cntI (appW g q.2) tn ≤ (spL P g tn a s F).2
  | [], s, _, h1, h2 => ⟨h1, h2, Int.le_refl _, Int.le_refl _, fun q hq => by cases hq⟩
  | x :: F, s, hF, h1, h2 => by
    have hx := hF x (by simp)
    have e : spL P g tn a s (x :: F) = spL P g tn a (spS P g tn a s x) F := rfl
    have hs : G (spS P g tn a s x).1 ∧ G (spS P g tn a s x).2 ∧ (spS P g tn a s x).1 ≤ s.1 ∧ s.2 ≤ (spS P g tn a s x).2 ∧ (spT P g tn a x = true → (spS P g tn a s x).1 ≤ cntI (appW g x.2) tn ∧ cntI (appW g x.2) tn ≤ (spS P g tn a s x).2) := by
      unfold spS
      by_cases ht : spT P g tn a x = true
      · rw [if_pos ht]
        have hc := hx ht
        generalize cntI (appW g x.2) tn = c at hc
        refine ⟨?_, ?_, by simp only; omega, by simp only; omega, fun _ => ⟨by simp only; omega, by simp only; omega⟩⟩
        · rcases (by omega : min s.1 c = s.1 ∨ min s.1 c = c) with e | e <;> (simp only; rw [e]; assumption)
        · rcases (by omega : max s.2 c = s.2 ∨ max s.2 c = c) with e | e <;> (simp only; rw [e]; assumption)
      · rw [if_neg ht]
        exact ⟨h1, h2, Int.le_refl _, Int.le_refl _, fun h => absurd h ht⟩
    obtain ⟨k1, k2, k3, k4, k5⟩ := spL_ok F (spS P g tn a s x) (fun q hq => hF q (List.mem_cons_of_mem _ hq)) hs.1 hs.2.1
    rw [e]
    refine ⟨k1, k2, by omega, by omega, fun q hq hqt => ?_⟩
    rcases List.mem_cons.1 hq with rfl | hq
    · have := hs.2.2.2.2 hqt
      omega
    · exact k5 q hq hqt
theorem spF_ok {P : Po} {g : List Int} {tn : Int} {G : Int → Prop} : ∀ (l : List Te) (s : Int × Int), (∀ t ∈ l, ∀ q ∈ wayF P g t.id, spT P g tn t.id q = true → G (cntI (appW g q.2) tn)) → G s.1 → G s.2 →
    let r := l.foldl (fun s t => spL P g tn t.id s (wayF P g t.id)) s
    G r.1 ∧ G r.2 ∧ r.1 ≤ s.1 ∧ s.2 ≤ r.2 ∧ ∀ t ∈ l, ∀ q ∈ wayF P g t.id, spT P g tn t.id q = true → r.1 ≤ cntI (appW g q.2) tn ∧ cntI (appW g q.2) tn ≤ r.2
  | [], s, _, h1, h2 => ⟨h1, h2, Int.le_refl _, Int.le_refl _, fun t ht => by cases ht⟩
  | x :: l, s, hF, h1, h2 => by
    obtain ⟨j1, j2, j3, j4, j5⟩ := spL_ok (wayF P g x.id) s (hF x (by simp)) h1 h2
    obtain ⟨k1, k2, k3, k4, k5⟩ := spF_ok l (spL P g tn x.id s (wayF P g x.id)) (fun t ht => hF t (List.mem_cons_of_mem _ ht)) j1 j2
    refine ⟨k1, k2, Int.le_trans k3 j3, Int.le_trans j4 k4, fun t ht q hq hqt => ?_⟩
    rcases List.mem_cons.1 ht with rfl | ht
    · have := j5 q hq hqt
      exact ⟨Int.le_trans k3 this.1, Int.le_trans this.2 k4⟩
    · exact k5 t ht q hq hqt
/-- a count in a fairest sharing -/
def FaiC (P : Po) (tn v : Int) : Prop := ∃ A, ShrV P A ∧ NoChn P A ∧ cntI A tn = v
theorem te_inj {P : Po} (hP : PoV P) {q t : Te} (hq : q ∈ P.ts) (ht : t ∈ P.ts) (he : q.id = t.id) : q = t := by
  have key : ∀ l : List Te, (l.map (·.id)).Nodup → ∀ q ∈ l, ∀ t ∈ l, q.id = t.id → q = t := fun l => by
    induction l with
    | nil => intro _ q hq; cases hq
    | cons x l ih =>
      intro hn q hq t ht he
      rw [List.map_cons, List.nodup_cons] at hn
      rcases List.mem_cons.1 hq with e1 | hq1
      · rcases List.mem_cons.1 ht with e2 | ht1
        · rw [e1, e2]
        · rw [e1] at he
          exact absurd (he ▸ List.mem_map_of_mem ht1) hn.1
      · rcases List.mem_cons.1 ht with e2 | ht1
        · rw [e2] at he
          exact absurd (he ▸ List.mem_map_of_mem hq1) hn.1
        · exact ih hn.2 q hq1 t ht1 he
  exact key P.ts hP.nd q hq t ht he
/-- the least and the greatest count -/
theorem spread_law {P : Po} (hok : OkP P) {t : Te} (ht : t ∈ P.ts) : FaiC P t.id (spdX P t.id).1 ∧ FaiC P t.id (spdX P t.id).2 ∧
    ∀ B, ShrV P B → NoChn P B → (spdX P t.id).1 ≤ cntI B t.id ∧ cntI B t.id ≤ (spdX P t.id).2 := by
  have hP := hok.pv
  have hE : spdE P t.id = 0 := by
    unfold spdE
    rw [if_pos (chk_ok.2 hok), if_neg]
    intro h
    exact tnI_none.1 h t ht rfl
  have eX : spdX P t.id = spO P (faiG P) t.id P.ts.length := by unfold spdX; rw [if_pos hE]
  rw [eX]
  obtain ⟨hS, hN⟩ := faiG_V hP
  have hfl : ladL P (faiG P) = ladL P (faiG P) := rfl
  generalize hg : faiG P = g at *
  unfold spO
  rw [List.take_length]
  have hgood : ∀ s ∈ P.ts, ∀ q ∈ wayF P g s.id, spT P g t.id s.id q = true → FaiC P t.id (cntI (appW g q.2) t.id) := by
    intro s hs q hq hT
    unfold spT at hT
    simp only [Bool.and_eq_true, Bool.not_eq_true', decide_eq_false_iff_not, decide_eq_true_eq, beq_iff_eq] at hT
    obtain ⟨⟨⟨h1, h2⟩, _⟩, h4⟩ := hT
    have hw := (bfs_V hS.len s.id (P.ts.length + 1)).way q hq
    have hwp := hw.1
    have hl := hw.2.1
    have hnd := hw.2.2.1
    have hv : ShrV P (appW g q.2) := way_shr hS hwp hnd (fun r hr he => by
      have := mostOf_at hok hr
      rw [← hl, ← he, this] at h2
      exact h2)
    exact ⟨_, hv, best_no hP hv (by rw [h4, hg]), rfl⟩
  obtain ⟨k1, k2, k3, k4, k5⟩ := spF_ok (G := FaiC P t.id) P.ts (cntI g t.id, cntI g t.id) hgood ⟨g, hS, hN, rfl⟩ ⟨g, hS, hN, rfl⟩
  refine ⟨k1, k2, fun B hB hNB => ?_⟩
  have h1 := spread_one hP hS hB hN hNB ht
  have h2 := spread_one hP hB hS hNB hN ht
  simp only at k3 k4
  rcases (by omega : cntI B t.id = cntI g t.id ∨ cntI B t.id = cntI g t.id + 1 ∨ cntI B t.id + 1 = cntI g t.id) with e | e | e
  · omega
  · obtain ⟨s, hs, hne, hr, hc⟩ := spread_up hP hS hB hN hNB ht e
    obtain ⟨l, hl⟩ := way_all hP hS.len hr
    obtain ⟨w1, w2, w3⟩ := way_ok hS.len hl
    have hmem := wayTo_some hl
    have hcnt := way_cnt w1 w3 t.id
    rw [w2, if_pos rfl, if_neg (fun h => hne h.symm)] at hcnt
    have hm := hB.mo t ht
    have hsame := way_same hP w1 w3 (by rw [w2]; exact hne) hs rfl ht w2.symm hc
    have hT : spT P g t.id s.id (t.id, l) = true := by
      unfold spT
      simp only [Bool.and_eq_true, Bool.not_eq_true', decide_eq_false_iff_not, decide_eq_true_eq, beq_iff_eq, Bool.or_eq_true]
      refine ⟨⟨⟨?_, ?_⟩, .inl trivial⟩, hsame⟩
      · intro h0
        rw [List.eq_nil_of_length_eq_zero h0] at w2
        exact hne w2
      · rw [mostOf_at hok ht]; omega
    have := k5 s hs _ hmem hT
    simp only at this
    omega
  · obtain ⟨q, hq, hne, hr, hroom, hc⟩ := spread_down hP hS hB hN hNB ht e
    obtain ⟨l, hl⟩ := way_all hP hS.len hr
    obtain ⟨w1, w2, w3⟩ := way_ok hS.len hl
    have hmem := wayTo_some hl
    have hcnt := way_cnt w1 w3 t.id
    rw [w2, if_neg (fun h => hne h.symm), if_pos rfl] at hcnt
    have hsame := way_same hP w1 w3 (by rw [w2]; exact fun h => hne h.symm) ht rfl hq w2.symm (by omega)
    have hT : spT P g t.id t.id (q.id, l) = true := by
      unfold spT
      simp only [Bool.and_eq_true, Bool.not_eq_true', decide_eq_false_iff_not, decide_eq_true_eq, beq_iff_eq, Bool.or_eq_true]
      refine ⟨⟨⟨?_, ?_⟩, .inr trivial⟩, hsame⟩
      · intro h0
        rw [List.eq_nil_of_length_eq_zero h0] at w2
        exact hne w2.symm
      · rw [mostOf_at hok hq]; exact hroom
    have := k5 t ht _ hmem hT
    simp only at this
    omega
theorem spread_near {P : Po} (hok : OkP P) {t : Te} (ht : t ∈ P.ts) : 0 ≤ (spdX P t.id).1 ∧ (spdX P t.id).1 ≤ (spdX P t.id).2 ∧ (spdX P t.id).2 ≤ (spdX P t.id).1 + 1 ∧ (spdX P t.id).2 ≤ t.most := by
  obtain ⟨⟨A, a1, a2, a3⟩, ⟨B, b1, b2, b3⟩, h⟩ := spread_law hok ht
  have h1 := h A a1 a2
  have h2 := spread_one hok.pv a1 b1 a2 b2 ht
  have h3 := (cntI_nn A t.id).1
  have h4 := b1.mo t ht
  omega
/-- one tenant's greatest number set otherwise -/
def setM (P : Po) (k : Nat) (m : Int) : Po := ⟨P.ts.set k ⟨(P.ts.getD k ⟨0, 0⟩).id, m⟩, P.ss⟩
theorem setM_ts {P : Po} {k j : Nat} {m : Int} (hk : k < P.ts.length) (h : j < P.ts.length) (h' : j < (setM P k m).ts.length) : (setM P k m).ts[j] = if k = j then ⟨P.ts[j].id, m⟩ else P.ts[j] := by
  have e : (P.ts.getD k ⟨0, 0⟩).id = P.ts[k].id := by rw [List.getD_eq_getElem?_getD, List.getElem?_eq_getElem hk]; rfl
  simp only [setM, List.getElem_set]
  split
  · rename_i e2
    subst e2
    rw [e]
  · rfl
theorem setM_len (P : Po) (k : Nat) (m : Int) : (setM P k m).ts.length = P.ts.length := List.length_set ..
theorem setM_ids {P : Po} {k : Nat} (hk : k < P.ts.length) (m : Int) : (setM P k m).ts.map (·.id) = P.ts.map (·.id) := by
  refine List.ext_getElem (by simp [setM_len]) (fun j h1 h2 => ?_)
  rw [List.length_map] at h1 h2
  rw [List.getElem_map, List.getElem_map, setM_ts hk h2 h1]
  split <;> rfl
theorem setM_ok {P : Po} (hok : OkP P) {k : Nat} (hk : k < P.ts.length) {m : Int} (hm : 0 ≤ m ∧ m ≤ 40) : OkP (setM P k m) := by
  have hids := setM_ids hk m
  refine ⟨by rw [setM_len]; exact hok.lt, hok.ls, by rw [hids]; exact hok.nd, fun t ht => ?_, hok.sn, hok.si, fun s hs u hu => ?_, hok.up⟩
  · obtain ⟨j, hj, rfl⟩ := List.getElem_of_mem ht
    have hj2 : j < P.ts.length := by rw [← setM_len P k m]; exact hj
    rw [setM_ts hk hj2 hj]
    have := hok.ti _ (List.getElem_mem hj2)
    split
    · exact ⟨this.1, hm⟩
    · exact this
  · obtain ⟨t, ht, he⟩ := hok.us s hs u hu
    have : u ∈ (setM P k m).ts.map (·.id) := by rw [hids, ← he]; exact List.mem_map_of_mem ht
    obtain ⟨t', ht', he'⟩ := List.mem_map.1 this
    exact ⟨t', ht', he'⟩
theorem setM_lad {P : Po} {k : Nat} (hk : k < P.ts.length) (m : Int) (g : List Int) : ladL (setM P k m) g = ladL P g := by
  have e : cntT (setM P k m) g = cntT P g := by
    have h1 : cntT (setM P k m) g = ((setM P k m).ts.map (·.id)).map (cntI g) := by unfold cntT; rw [List.map_map]; rfl
    have h2 : cntT P g = (P.ts.map (·.id)).map (cntI g) := by unfold cntT; rw [List.map_map]; rfl
    rw [h1, h2, setM_ids hk]
  unfold ladL
  rw [e]
theorem setM_reach {P : Po} {k : Nat} {m : Int} {g : List Int} {a b : Int} : ReachP (setM P k m) g a b ↔ ReachP P g a b := by
  constructor
  · intro h
    induction h with
    | refl => exact .refl _
    | step e _ ih => exact .step e ih
  · intro h
    induction h with
    | refl => exact .refl _
    | step e _ ih => exact .step e ih
/-- brought down to what it has, the ladder stays; below the least count it does not -/
theorem setM_stay {P : Po} (hok : OkP P) {k : Nat} (hk : k < P.ts.length) : ladX (setM P k (max 0 (spdX P P.ts[k].id).1)) = ladX P ∧ chkE (setM P k (max 0 (spdX P P.ts[k].id).1)) = 0 := by
  have hm := List.getElem_mem hk
  obtain ⟨⟨A, a1, a2, a3⟩, _, _⟩ := spread_law hok hm
  have hn := spread_near hok hm
  have hti := hok.ti _ hm
  generalize hlo : (spdX P P.ts[k].id).1 = lo at *
  have e0 : max 0 lo = lo := by omega
  rw [e0]
  have hQ := setM_ok hok hk (m := lo) (by omega)
  refine ⟨?_, chk_ok.2 hQ⟩
  have hmem : ∀ t ∈ (setM P k lo).ts, ∃ r ∈ P.ts, r.id = t.id ∧ t.most ≤ r.most ∧ (t.id = P.ts[k].id → t.most = lo) ∧ (t.id ≠ P.ts[k].id → t.most = r.most) := fun t ht => by
    obtain ⟨j, hj, rfl⟩ := List.getElem_of_mem ht
    have hj2 : j < P.ts.length := by rw [← setM_len P k lo]; exact hj
    rw [setM_ts hk hj2 hj]
    refine ⟨P.ts[j], List.getElem_mem hj2, ?_⟩
    split
    · rename_i e; subst e; exact ⟨rfl, by simp only; omega, fun _ => rfl, fun h => absurd rfl h⟩
    · rename_i e
      have hne : P.ts[j].id ≠ P.ts[k].id := fun h => by
        have h1 := tn_at hok hj2
        have h2 := tn_at hok hk
        rw [h] at h1
        omega
      exact ⟨rfl, Int.le_refl _, fun h => absurd h hne, fun _ => rfl⟩
  have hV : ShrV (setM P k lo) A := ⟨a1.len, a1.us, fun t ht => by
    obtain ⟨r, hr, h1, _, h3, h4⟩ := hmem t ht
    by_cases e : t.id = P.ts[k].id
    · rw [h3 e, e, a3]; omega
    · rw [h4 e, ← h1]; exact a1.mo r hr⟩
  have hN : NoChn (setM P k lo) A := ⟨fun t ht hr hlt => by
    obtain ⟨r, hr2, h1, h2, _, _⟩ := hmem t ht
    exact a2.zero r hr2 (by rw [h1]; exact setM_reach.1 hr) (by rw [h1]; omega), fun s hs t ht hne hr hlt => by
    obtain ⟨r, hr2, h1, h2, _, _⟩ := hmem t ht
    obtain ⟨q, hq2, g1, _, _, _⟩ := hmem s hs
    have := a2.ten q hq2 r hr2 (by rw [g1, h1]; exact hne) (by rw [g1, h1]; exact setM_reach.1 hr) (by rw [h1]; omega)
    rw [g1, h1] at this
    exact this⟩
  have h1 := fai_lad hQ.pv hV hN
  have h2 := fai_lad hok.pv a1 a2
  unfold ladX
  rw [if_pos (chk_ok.2 hQ), if_pos (chk_ok.2 hok), ← h1, ← h2, setM_lad hk]
theorem setM_less {P : Po} (hok : OkP P) {k : Nat} (hk : k < P.ts.length) (h1 : 1 ≤ (spdX P P.ts[k].id).1) : ladX (setM P k ((spdX P P.ts[k].id).1 - 1)) ≠ ladX P ∧ chkE (setM P k ((spdX P P.ts[k].id).1 - 1)) = 0 := by
  have hm := List.getElem_mem hk
  obtain ⟨_, _, hall⟩ := spread_law hok hm
  have hn := spread_near hok hm
  have hti := hok.ti _ hm
  generalize hlo : (spdX P P.ts[k].id).1 = lo at *
  have hQ := setM_ok hok hk (m := lo - 1) (by omega)
  refine ⟨?_, chk_ok.2 hQ⟩
  unfold ladX
  rw [if_pos (chk_ok.2 hQ), if_pos (chk_ok.2 hok), setM_lad hk]
  intro e
  obtain ⟨hV, _⟩ := faiG_V hQ.pv
  generalize faiG (setM P k (lo - 1)) = B at *
  have hkt : ⟨P.ts[k].id, lo - 1⟩ ∈ (setM P k (lo - 1)).ts := by
    have hk2 : k < (setM P k (lo - 1)).ts.length := by rw [setM_len]; exact hk
    have := setM_ts hk hk hk2 (m := lo - 1)
    rw [if_pos rfl] at this
    rw [← this]
    exact List.getElem_mem hk2
  have hB : ShrV P B := ⟨hV.len, hV.us, fun t ht => by
    obtain ⟨j, hj, rfl⟩ := List.getElem_of_mem ht
    have hj2 : j < (setM P k (lo - 1)).ts.length := by rw [setM_len]; exact hj
    have := hV.mo _ (List.getElem_mem hj2)
    rw [setM_ts hk hj hj2] at this
    split at this
    · rename_i e2
      subst e2
      simp only at this
      omega
    · exact this⟩
  have hNB := best_no hok.pv hB e
  have h3 := (hall B hB hNB).1
  have h4 := hV.mo _ hkt
  simp only at h4
  omega
end Go.Proofs.Ytiofdfjcaklmcaa
