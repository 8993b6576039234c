/- Groups of payers: group, asked, whole, Alone, Saved of the program. -/
import Derived.Test.YthopgonbndoidaaVAl
namespace Go.Proofs.Ythopgonbndoidaa
open Go.RowKit Go.Shelf

/-- whether numbers from one on are a group: rising, and each a payer's -/
def grF (ps : List Py) : Nat → Int → List Int → Bool
  | _, _, [] => true
  | i, l, x :: xs => !(decide (0 < i) && decide (x ≤ l)) && decide (0 ≤ fnd ps x) && grF ps (i + 1) x xs
def grB (ps : List Py) (l : List Int) : Bool := grF ps 0 0 l
/-- the map of a group's IDs -/
def SetAt (W : World) (v : Value) (l : List Int) : Prop := ∃ b L, v = .map (some b) ∧ MapAt encI W b L ∧ (∀ r, r ∈ L.map (·.1) ↔ r ∈ l) ∧ ∀ q ∈ L, q.2 = .bool true
theorem SetAt.ext {W W' : World} {v : Value} {l : List Int} (h : SetAt W v l) (x : Ext W W') : SetAt W' v l := by
  obtain ⟨b, L, h1, h2, h3, h4⟩ := h
  exact ⟨b, L, h1, h2.ext x, h3, h4⟩
theorem updK_vals {l : List (Int × Value)} {k : Int} (h : ∀ q ∈ l, q.2 = .bool true) : ∀ q ∈ updK l k (.bool true), q.2 = .bool true := by
  intro q hq
  unfold updK at hq
  split at hq
  · obtain ⟨p, hp, rfl⟩ := List.mem_map.1 hq
    split
    · rfl
    · exact h p hp
  · rcases List.mem_append.1 hq with h1 | h1
    · exact h q h1
    · rw [List.mem_singleton] at h1; rw [h1]
theorem get_true {L : List (Int × Value)} (h : ∀ q ∈ L, q.2 = .bool true) (r : Int) : (getK L r).getD (.bool false) = .bool (decide (r ∈ L.map (·.1))) := by
  by_cases hm : r ∈ L.map (·.1)
  · rw [decide_eq_true hm]
    unfold getK
    cases hf : L.find? (fun p => decide (p.1 = r)) with
    | none =>
      rw [List.find?_eq_none] at hf
      obtain ⟨p, hp, he⟩ := List.mem_map.1 hm
      exact absurd (by simpa using he) (hf p hp)
    | some p =>
      simp only [Option.map_some, Option.getD_some]
      exact h p (List.mem_of_find?_eq_some hf)
  · rw [decide_eq_false hm, getK_none (fun p hp e => hm (List.mem_map.2 ⟨p, hp, e⟩))]
    rfl

set_option maxRecDepth 100000 in
set_option maxHeartbeats 1000000 in
theorem whole1_any (x : Py) (W : World) : Calls Try.prog 108 #[.agg #[.int .i64 x.id, .int .i64 x.reach, .int .i64 x.w]] W fun e W' => e = .returned (.bool true) ∧ Ext W W' := by
  go_enter Try.func108, Try.ntmps108
  go_wp2
  go_ret
  exact ⟨rfl, (by repeat (first | exact Ext.refl _ | assumption | refine Ext.alloc ?_ _ | refine Ext.drew ?_ | refine Ext.drewN _ ?_ | refine Ext.trans ?_ (by assumption)))⟩
set_option maxHeartbeats 1000000 in
theorem whole_any (a b : Value) (T : Tr) (hok : Ok T) (w : World) (hT : TrAt w a b T) :
    Calls Try.prog 70 #[.agg #[a, b]] w fun e w' => e = .returned (.int .i64 (alnE T (fun _ => true))) ∧ Ext w w' := by
  go_enter Try.func70, Try.ntmps70
  go_wp2_with fail
  refine (alone_whole a b T hok (fun _ => true) _ (hT.ext (by repeat (first | exact Ext.refl _ | assumption | refine Ext.alloc ?_ _ | refine Ext.drew ?_ | refine Ext.drewN _ ?_ | refine Ext.trans ?_ (by assumption)))) (fun x W _ => whole1_any x W)).mono ?_
  rintro e w1 ⟨rfl, hx⟩
  go_wp2
  go_ret
  exact ⟨rfl, Ext.trans (by repeat (first | exact Ext.refl _ | assumption | refine Ext.alloc ?_ _ | refine Ext.drew ?_ | refine Ext.drewN _ ?_ | refine Ext.trans ?_ (by assumption))) hx⟩

set_option maxHeartbeats 1000000 in
theorem Alone1_any (B b : Nat) (L : List (Int × Value)) (hv : ∀ q ∈ L, q.2 = .bool true) (x : Py) (W : World) (hB : Cls B 101 #[.map (some b)] W) (hM : MapAt encI W b L) :
    Calls Try.prog 58 #[.agg #[.int .i64 x.id, .int .i64 x.reach, .int .i64 x.w], .pointer (some ⟨B, 0, none⟩)] W fun e W' => e = .returned (.bool (decide (x.id ∈ L.map (·.1)))) ∧ Ext W W' := by
  have hx : Ext W (W.alloc (.cells #[.int .i64 x.id, .int .i64 x.reach, .int .i64 x.w] 45)) := (by repeat (first | exact Ext.refl _ | assumption | refine Ext.alloc ?_ _ | refine Ext.drew ?_ | refine Ext.drewN _ ?_ | refine Ext.trans ?_ (by assumption)))
  have c0 : (W.alloc (.cells #[.int .i64 x.id, .int .i64 x.reach, .int .i64 x.w] 45)).cell? ⟨B, 0, none⟩ = some (.map (some b)) := (hB.ext hx).cell 0
  have hM1 := hM.ext hx
  have hg := get_true hv x.id
  obtain ⟨v, hvv⟩ : ∃ v, decide (x.id ∈ L.map (·.1)) = v := ⟨_, rfl⟩
  rw [hvv] at hg ⊢
  have HG := Lib.hid hg
  clear hvv hg
  go_enter Try.func58, Try.ntmps58
  go_wp2_with (refine wpList_lookupMap rfl _ _ false rfl KI mapT rfl hM1 x.id rfl (zeroBool _) ?_; simp only [Bool.false_eq_true, if_false]; rw [HG.out])
  go_ret
  exact ⟨rfl, (by repeat (first | exact Ext.refl _ | assumption | refine Ext.alloc ?_ _ | refine Ext.drew ?_ | refine Ext.drewN _ ?_ | refine Ext.trans ?_ (by assumption)))⟩
set_option maxHeartbeats 1000000 in
theorem Saved1_any (B b : Nat) (L : List (Int × Value)) (hv : ∀ q ∈ L, q.2 = .bool true) (x : Py) (W : World) (hB : Cls B 101 #[.map (some b)] W) (hM : MapAt encI W b L) :
    Calls Try.prog 74 #[.agg #[.int .i64 x.id, .int .i64 x.reach, .int .i64 x.w], .pointer (some ⟨B, 0, none⟩)] W fun e W' => e = .returned (.bool (!decide (x.id ∈ L.map (·.1)))) ∧ Ext W W' := by
  have hx : Ext W (W.alloc (.cells #[.int .i64 x.id, .int .i64 x.reach, .int .i64 x.w] 45)) := (by repeat (first | exact Ext.refl _ | assumption | refine Ext.alloc ?_ _ | refine Ext.drew ?_ | refine Ext.drewN _ ?_ | refine Ext.trans ?_ (by assumption)))
  have c0 : (W.alloc (.cells #[.int .i64 x.id, .int .i64 x.reach, .int .i64 x.w] 45)).cell? ⟨B, 0, none⟩ = some (.map (some b)) := (hB.ext hx).cell 0
  have hM1 := hM.ext hx
  have hg := get_true hv x.id
  obtain ⟨v, hvv⟩ : ∃ v, decide (x.id ∈ L.map (·.1)) = v := ⟨_, rfl⟩
  rw [hvv] at hg ⊢
  have HG := Lib.hid hg
  clear hvv hg
  go_enter Try.func74, Try.ntmps74
  go_wp2_with (refine wpList_lookupMap rfl _ _ false rfl KI mapT rfl hM1 x.id rfl (zeroBool _) ?_; simp only [Bool.false_eq_true, if_false]; rw [HG.out])
  go_ret
  exact ⟨rfl, (by repeat (first | exact Ext.refl _ | assumption | refine Ext.alloc ?_ _ | refine Ext.drew ?_ | refine Ext.drewN _ ?_ | refine Ext.trans ?_ (by assumption)))⟩
/-- what a group's reading leaves -/
def GrpPost (w : World) (g : Bool) (l : List Int) (e : Ending) (w' : World) : Prop := ∃ m, e = .returned (.tuple #[.map m, .bool g]) ∧ (g = true → SetAt w' (.map m) l) ∧ Ext w w'
def prv (l : List Int) : Nat → Int
  | 0 => 0
  | k + 1 => l.getD k 0
theorem grF_step {ps : List Py} {l : List Int} {k : Nat} (h : k < l.length) : grF ps k (prv l k) (l.drop k) = (!(decide (0 < k) && decide (l[k] ≤ prv l k)) && decide (0 ≤ fnd ps l[k]) && grF ps (k + 1) (prv l (k + 1)) (l.drop (k + 1))) := by
  rw [drop_get l k h, grF]
  simp [prv, h]

set_option maxRecDepth 100000 in
set_option maxHeartbeats 4000000 in
theorem group_any (a b v : Value) (T : Tr) (l : List Int) (w : World) (hT : TrAt w a b T) (hl : IntsAt w v l) (hn : l.length ≤ 100000) (hp : T.ps.length ≤ 1000) :
    Calls Try.prog 84 #[.agg #[a, b], v] w (GrpPost w (grB T.ps l) l) := by
  obtain ⟨aa, ca, rfl, hla⟩ := hT.r.len
  obtain ⟨ab, cb, rfl, hlb⟩ := hT.p.len
  obtain ⟨al, cl, rfl, hll⟩ := hl.len
  have hmk := @run_makeMap Try.prog
  obtain ⟨G, hG⟩ : ∃ G, grB T.ps l = G := ⟨_, rfl⟩
  have HG := Lib.hid hG
  rw [hG]
  clear hG
  go_enter Try.func84, Try.ntmps84
  go_wp2_with fail
  obtain ⟨W1, hW1⟩ : ∃ W1, (w.alloc (.cells #[.slice aa T.rs.length ca, .slice ab T.ps.length cb] 25)).alloc (.map #[] 0) = W1 := ⟨_, rfl⟩
  obtain ⟨q0, qm, hx0, hs0⟩ : Cls w.heap.size 25 #[.slice aa T.rs.length ca, .slice ab T.ps.length cb] W1 ∧ MapAt encI W1 (w.heap.size + 1) [] ∧ Ext w W1 ∧ W1.heap.size = w.heap.size + 2 := by
    rw [← hW1]
    refine ⟨(Cls.new w _ _).ext (by repeat (first | exact Ext.refl _ | assumption | refine Ext.alloc ?_ _ | refine Ext.drew ?_ | refine Ext.drewN _ ?_ | refine Ext.trans ?_ (by assumption))), ?_, (by repeat (first | exact Ext.refl _ | assumption | refine Ext.alloc ?_ _ | refine Ext.drew ?_ | refine Ext.drewN _ ?_ | refine Ext.trans ?_ (by assumption))), by simp⟩
    have h := mapAt_made encI (w.alloc (.cells #[.slice aa T.rs.length ca, .slice ab T.ps.length cb] 25))
    rw [World.size_alloc] at h
    exact h
  try rw [hW1]
  clear hW1 hmk
  have HS0 := Lib.hid hs0
  clear hs0
  go_loopw [12] (fun i wr => ∃ (k : Nat) (L : List (Int × Value)), k ≤ l.length ∧ i = .int .i64 k ∧ MapAt encI wr (w.heap.size + 1) L ∧ Hid (∀ r, r ∈ L.map (·.1) ↔ r ∈ l.take k) ∧ Hid (∀ q ∈ L, q.2 = .bool true) ∧ Hid (G = grF T.ps k (prv l k) (l.drop k)) ∧ Cls w.heap.size 25 #[.slice aa T.rs.length ca, .slice ab T.ps.length cb] wr ∧ Ext w wr) (fun i _ => l.length - (intOf i).toNat)
  case atStart => exact ⟨0, [], Nat.zero_le _, rfl, qm, Lib.hid (by simp), Lib.hid (by simp), Lib.hid HG.out.symm, q0, hx0⟩
  case round =>
    obtain ⟨k, L, hk, rfl, hM, HL, HV, HK, hB, hx⟩ := hrel
    have d0 : wr.cell? ⟨w.heap.size, 0, none⟩ = some (.slice aa T.rs.length ca) := hB.cell 0
    have d1 : wr.cell? ⟨w.heap.size, 1, none⟩ = some (.slice ab T.ps.length cb) := hB.cell 1
    have hTp := (hT.ext hx).p
    by_cases hlt : k < l.length
    · obtain ⟨bb, oo, rfl, c0⟩ := (hl.ext hx).get k hlt
      have hst := grF_step (ps := T.ps) hlt
      rw [← HK.out] at hst
      have htk := take_succ_get l k hlt
      obtain ⟨x, hxx⟩ : ∃ x, l[k] = x := ⟨_, rfl⟩
      obtain ⟨FF, hFF⟩ : ∃ FF, fnd T.ps x = FF := ⟨_, rfl⟩
      rw [hxx] at c0 hst htk
      rw [hFF] at hst
      have HFF := Lib.hid hFF
      have HTK := Lib.hid htk
      clear hxx hFF htk
      by_cases hk0 : k = 0
      · rw [decide_eq_false (show ¬ (0 < k) by omega), Bool.false_and] at hst
        have HST := Lib.hid hst
        have hk1 : ¬ (0 < (k : Int)) := by omega
        clear hst hk0
        go_wp2_with fail
        refine (find_any _ T.ps x _ hTp (by omega)).mono ?_
        rw [HFF.out]
        rintro e w3 ⟨rfl, hy⟩
        have hM3 := hM.ext hy
        have hB3 := hB.ext hy
        have hx3 := hx.trans hy
        by_cases hF : FF < 0
        · have hX := HST.out
          rw [decide_eq_false (show ¬ 0 ≤ FF by omega)] at hX
          simp only [Bool.and_false, Bool.false_and] at hX
          have HX := Lib.hid hX
          clear hX
          go_wp2_with fail
          go_ret2
          exact ⟨_, ret2 rfl (by rw [HX.out]; rfl), fun h => (by rw [HX.out] at h; cases h), hx3⟩
        · have hX := HST.out
          rw [decide_eq_true (show 0 ≤ FF by omega)] at hX
          simp only [Bool.and_true, Bool.true_and, Bool.not_false] at hX
          have HX := Lib.hid hX
          clear hX
          go_wp2_with (refine wpList_updateMap rfl _ _ _ rfl KI mapT rfl hM3 x (.bool true) rfl rfl ?_; intro w5 hM5 hg5)
          go_roundw
          case rel => exact ⟨k + 1, _, by omega, by go_num, hM5, Lib.hid (fun r => by rw [updK_keys, HL.out r, HTK.out, List.mem_append, List.mem_singleton]), Lib.hid (updK_vals HV.out), HX, hB3.kept hg5 (fun e => by have := Option.some.inj e; omega), hx3.grown hg5 (by omega)⟩
          case measure => simp [intOf]; omega
      · obtain ⟨q, hq⟩ : ∃ q, k = q + 1 := ⟨k - 1, by omega⟩
        obtain ⟨b2, o2, he2, c2⟩ := (hl.ext hx).get q (by omega)
        simp only [Option.some.injEq, Addr.mk.injEq, and_true] at he2
        obtain ⟨rfl, rfl⟩ := he2
        have hpv : prv l k = l[q] := by subst hq; simp [prv, show q < l.length by omega]
        rw [hpv, decide_eq_true (show 0 < k by omega), Bool.true_and] at hst
        obtain ⟨y, hyy⟩ : ∃ y, l[q] = y := ⟨_, rfl⟩
        rw [hyy] at hst c2
        have hkp : 0 < (k : Int) := by omega
        have hwq : IntKind.i64.wrap ((k : Int) - 1) = (q : Int) := by rw [IntWalk.i64_in _ (by omega)]; omega
        have hkq : (k : Int) - 1 = (q : Int) := by omega
        have hql : (q : Int) < (l.length : Int) := by omega
        have HQ := Lib.hid hq
        clear hyy hpv hq hk0
        by_cases hxy : x ≤ y
        · rw [decide_eq_true hxy] at hst
          simp only [Bool.not_true, Bool.false_and] at hst
          have HX := Lib.hid hst
          clear hst
          go_wp2_with fail
          go_ret2
          exact ⟨_, ret2 rfl (by rw [HX.out]; rfl), fun h => (by rw [HX.out] at h; cases h), hx⟩
        · rw [decide_eq_false hxy] at hst
          have HST := Lib.hid hst
          clear hst
          go_wp2_with fail
          refine (find_any _ T.ps x _ hTp (by omega)).mono ?_
          rw [HFF.out]
          rintro e w3 ⟨rfl, hy⟩
          have hM3 := hM.ext hy
          have hB3 := hB.ext hy
          have hx3 := hx.trans hy
          by_cases hF : FF < 0
          · have hX := HST.out
            rw [decide_eq_false (show ¬ 0 ≤ FF by omega)] at hX
            simp only [Bool.and_false, Bool.false_and] at hX
            have HX := Lib.hid hX
            clear hX
            go_wp2_with fail
            go_ret2
            exact ⟨_, ret2 rfl (by rw [HX.out]; rfl), fun h => (by rw [HX.out] at h; cases h), hx3⟩
          · have hX := HST.out
            rw [decide_eq_true (show 0 ≤ FF by omega)] at hX
            simp only [Bool.and_true, Bool.true_and, Bool.not_false] at hX
            have HX := Lib.hid hX
            clear hX
            go_wp2_with (refine wpList_updateMap rfl _ _ _ rfl KI mapT rfl hM3 x (.bool true) rfl rfl ?_; intro w5 hM5 hg5)
            go_roundw
            case rel => exact ⟨k + 1, _, by omega, by go_num, hM5, Lib.hid (fun r => by rw [updK_keys, HL.out r, HTK.out, List.mem_append, List.mem_singleton]), Lib.hid (updK_vals HV.out), HX, hB3.kept hg5 (fun e => by have := Option.some.inj e; omega), hx3.grown hg5 (by omega)⟩
            case measure => simp [intOf]; omega
    · obtain rfl : k = l.length := by omega
      have hK := HK.out
      rw [List.drop_length] at hK
      have hG1 : G = true := by rw [hK]; rfl
      have hL := HL.out
      rw [List.take_length] at hL
      have HL2 := Lib.hid hL
      have HG1 := Lib.hid hG1
      clear hK hG1 hL
      go_wp2_with fail
      go_ret2
      exact ⟨_, ret2 rfl (by rw [HG1.out]; rfl), fun _ => ⟨_, L, rfl, hM, HL2.out, HV.out⟩, hx⟩
/-- the error of a tree and a group -/
def askE (T : Tr) (l : List Int) : Int := if chkE T ≠ 0 then chkE T else if grB T.ps l = true then 0 else 1
def AskPost (w : World) (E : Int) (l : List Int) (e : Ending) (w' : World) : Prop := ∃ m, e = .returned (.tuple #[.map m, .int .i64 E]) ∧ (E = 0 → SetAt w' (.map m) l) ∧ Ext w w'
theorem askE_ok {T : Tr} {l : List Int} (h : askE T l = 0) : chkE T = 0 ∧ grB T.ps l = true := by
  unfold askE at h
  split at h
  · rename_i h1; exact absurd h h1
  · rename_i h1
    split at h
    · rename_i h2; exact ⟨by simpa using h1, h2⟩
    · cases h

set_option maxRecDepth 100000 in
set_option maxHeartbeats 2000000 in
theorem asked_any (a b v : Value) (T : Tr) (l : List Int) (w : World) (hT : TrAt w a b T) (hl : IntsAt w v l) (hn : l.length ≤ 100000) :
    Calls Try.prog 56 #[.agg #[a, b], v] w (AskPost w (askE T l) l) := by
  by_cases hc : chkE T = 0
  · have hok := Ok.of hc
    have hlp := hok.lp
    have hE : askE T l = if grB T.ps l = true then 0 else 1 := by unfold askE; rw [if_neg (by omega)]
    obtain ⟨g, hg⟩ : ∃ g, grB T.ps l = g := ⟨_, rfl⟩
    rw [hg] at hE
    obtain ⟨E, hE2⟩ : ∃ E, askE T l = E := ⟨_, rfl⟩
    rw [hE2] at hE ⊢
    have HG := Lib.hid hg
    have HC := Lib.hid hc
    have HE := Lib.hid hE
    clear hc hE hg hE2
    go_enter Try.func56, Try.ntmps56
    go_wp2_with fail
    refine (Check_any _ _ T _ (hT.ext (by repeat (first | exact Ext.refl _ | assumption | refine Ext.alloc ?_ _ | refine Ext.drew ?_ | refine Ext.drewN _ ?_ | refine Ext.trans ?_ (by assumption))))).mono ?_
    rw [HC.out]
    rintro e w1 ⟨rfl, hx1⟩
    obtain ⟨q0, hx, hzz⟩ := alloc1 hx1
    have d0 : w1.cell? ⟨w.heap.size, 0, none⟩ = some a := q0.cell 0
    have d1 : w1.cell? ⟨w.heap.size, 1, none⟩ = some b := q0.cell 1
    clear hx1 q0
    go_wp2_with fail
    refine (group_any a b v T l _ (hT.ext hx) (hl.ext hx) hn (by omega)).mono ?_
    rw [HG.out]
    rintro e w2 ⟨m, rfl, hm, hy⟩
    cases g
    · have he := HE.out
      rw [if_neg (by decide)] at he
      have HE2 := Lib.hid he
      clear he hm
      go_wp2_with fail
      go_ret2
      exact ⟨_, ret2 rfl (by rw [HE2.out]; rfl), fun h => absurd (HE2.out.symm.trans h) (by decide), hx.trans hy⟩
    · have he := HE.out
      rw [if_pos rfl] at he
      have HE2 := Lib.hid he
      have HM := Lib.hid (hm rfl)
      clear he hm
      go_wp2_with fail
      go_ret2
      exact ⟨_, ret2 rfl (by rw [HE2.out]; rfl), fun _ => HM.out, hx.trans hy⟩
  · have hE : askE T l = chkE T := by unfold askE; rw [if_pos hc]
    rw [hE]
    have hb : (chkE T != 0) = true := by simpa using hc
    obtain ⟨E, hE2⟩ : ∃ E, chkE T = E := ⟨_, rfl⟩
    have HC := Lib.hid hE2
    rw [hE2] at hc hb ⊢
    clear hE hE2
    go_enter Try.func56, Try.ntmps56
    go_wp2_with fail
    refine (Check_any _ _ T _ (hT.ext (by repeat (first | exact Ext.refl _ | assumption | refine Ext.alloc ?_ _ | refine Ext.drew ?_ | refine Ext.drewN _ ?_ | refine Ext.trans ?_ (by assumption))))).mono ?_
    rw [HC.out]
    rintro e w1 ⟨rfl, hx1⟩
    go_wp2_with fail
    go_ret2
    exact ⟨_, rfl, fun h => absurd h hc, Ext.trans (by repeat (first | exact Ext.refl _ | assumption | refine Ext.alloc ?_ _ | refine Ext.drew ?_ | refine Ext.drewN _ ?_ | refine Ext.trans ?_ (by assumption))) hx1⟩

/-- what a group pays alone; what it saves -/
def alnG (T : Tr) (l : List Int) : Int := alnE T (fun p => decide (p.id ∈ l))
def savG (T : Tr) (l : List Int) : Int := alnE T (fun _ => true) - alnE T (fun p => !decide (p.id ∈ l))
def AlnX (T : Tr) (l : List Int) : Int := if askE T l = 0 then alnG T l else 0
def SavX (T : Tr) (l : List Int) : Int := if askE T l = 0 then savG T l else 0

set_option maxRecDepth 100000 in
set_option maxHeartbeats 2000000 in
theorem Alone_any (a b v : Value) (T : Tr) (l : List Int) (w : World) (hT : TrAt w a b T) (hl : IntsAt w v l) (hn : l.length ≤ 100000) :
    Calls Try.prog 16 #[.agg #[a, b], v] w fun e w' => e = .returned (.tuple #[.int .i64 (AlnX T l), .int .i64 (askE T l)]) ∧ Ext w w' := by
  have hX : AlnX T l = if askE T l = 0 then alnG T l else 0 := rfl
  have hok := @askE_ok T l
  obtain ⟨E, hE⟩ : ∃ E, askE T l = E := ⟨_, rfl⟩
  obtain ⟨X, hXX⟩ : ∃ X, AlnX T l = X := ⟨_, rfl⟩
  rw [hE] at hX hok ⊢
  rw [hXX] at hX ⊢
  have HE := Lib.hid hE
  have HX := Lib.hid hX
  have HOK := Lib.hid hok
  clear hE hX hXX hok
  go_enter Try.func16, Try.ntmps16
  go_wp2_with fail
  refine (asked_any a b v T l _ (hT.ext (by repeat (first | exact Ext.refl _ | assumption | refine Ext.alloc ?_ _ | refine Ext.drew ?_ | refine Ext.drewN _ ?_ | refine Ext.trans ?_ (by assumption)))) (hl.ext (by repeat (first | exact Ext.refl _ | assumption | refine Ext.alloc ?_ _ | refine Ext.drew ?_ | refine Ext.drewN _ ?_ | refine Ext.trans ?_ (by assumption)))) hn).mono ?_
  rw [HE.out]
  rintro e w1 ⟨m, rfl, hm, hx1⟩
  obtain ⟨q0, hx, hzz⟩ := alloc1 hx1
  have d0 : w1.cell? ⟨w.heap.size, 0, none⟩ = some a := q0.cell 0
  have d1 : w1.cell? ⟨w.heap.size, 1, none⟩ = some b := q0.cell 1
  clear hx1
  by_cases h0 : E = 0
  · subst h0
    obtain ⟨bm, L, hbm, hM, hL, hV⟩ := hm rfl
    obtain rfl : m = some bm := by simpa using hbm
    have hx2 := HX.out
    rw [if_pos rfl] at hx2
    have HX2 := Lib.hid hx2
    have hk := Ok.of (HOK.out rfl).1
    have HL := Lib.hid hL
    have HV := Lib.hid hV
    clear hm hx2 hL hV
    have hb := Cls.new w1 101 #[.map (some bm)]
    obtain ⟨W1, hW1⟩ : ∃ W1, w1.alloc (.cells #[.map (some bm)] 101) = W1 := ⟨_, rfl⟩
    have hz : Ext w1 W1 := by rw [← hW1]; exact (by repeat (first | exact Ext.refl _ | assumption | refine Ext.alloc ?_ _ | refine Ext.drew ?_ | refine Ext.drewN _ ?_ | refine Ext.trans ?_ (by assumption)))
    rw [hW1] at hb
    replace d0 := hz.cell d0
    replace d1 := hz.cell d1
    replace hx := hx.trans hz
    replace hM := hM.ext hz
    go_upto_region 4 with fail
    try rw [hW1]
    clear hW1 hz q0
    go_wp2_with fail
    refine (alone_Alone a b T hk (fun p => decide (p.id ∈ l)) _ _ (hT.ext hx) (fun x W h => (Alone1_any w1.heap.size bm L HV.out x W (hb.ext h) (hM.ext h)).mono (fun e W' ⟨h1, h2⟩ => ⟨by rw [h1]; simp only [HL.out], h2⟩))).mono ?_
    rintro e w3 ⟨rfl, hy⟩
    go_wp2_with fail
    go_ret2
    exact ⟨ret2 (by rw [HX2.out]; rfl) rfl, hx.trans hy⟩
  · have hb : (E != 0) = true := by simpa using h0
    have hx2 := HX.out
    rw [if_neg h0] at hx2
    have HX2 := Lib.hid hx2
    clear hm hx2
    go_wp2_with fail
    go_ret2
    exact ⟨ret2 (by rw [HX2.out]; rfl) rfl, hx.trans (by repeat (first | exact Ext.refl _ | assumption | refine Ext.alloc ?_ _ | refine Ext.drew ?_ | refine Ext.drewN _ ?_ | refine Ext.trans ?_ (by assumption)))⟩
set_option maxRecDepth 100000 in
set_option maxHeartbeats 2000000 in
theorem Saved_any (a b v : Value) (T : Tr) (l : List Int) (w : World) (hT : TrAt w a b T) (hl : IntsAt w v l) (hn : l.length ≤ 100000) :
    Calls Try.prog 27 #[.agg #[a, b], v] w fun e w' => e = .returned (.tuple #[.int .i64 (SavX T l), .int .i64 (askE T l)]) ∧ Ext w w' := by
  have hX : SavX T l = if askE T l = 0 then savG T l else 0 := rfl
  have hok := @askE_ok T l
  obtain ⟨E, hE⟩ : ∃ E, askE T l = E := ⟨_, rfl⟩
  obtain ⟨X, hXX⟩ : ∃ X, SavX T l = X := ⟨_, rfl⟩
  rw [hE] at hX hok ⊢
  rw [hXX] at hX ⊢
  have HE := Lib.hid hE
  have HX := Lib.hid hX
  have HOK := Lib.hid hok
  clear hE hX hXX hok
  go_enter Try.func27, Try.ntmps27
  go_wp2_with fail
  refine (asked_any a b v T l _ (hT.ext (by repeat (first | exact Ext.refl _ | assumption | refine Ext.alloc ?_ _ | refine Ext.drew ?_ | refine Ext.drewN _ ?_ | refine Ext.trans ?_ (by assumption)))) (hl.ext (by repeat (first | exact Ext.refl _ | assumption | refine Ext.alloc ?_ _ | refine Ext.drew ?_ | refine Ext.drewN _ ?_ | refine Ext.trans ?_ (by assumption)))) hn).mono ?_
  rw [HE.out]
  rintro e w1 ⟨m, rfl, hm, hx1⟩
  obtain ⟨q0, hx, hzz⟩ := alloc1 hx1
  have d0 : w1.cell? ⟨w.heap.size, 0, none⟩ = some a := q0.cell 0
  have d1 : w1.cell? ⟨w.heap.size, 1, none⟩ = some b := q0.cell 1
  clear hx1
  by_cases h0 : E = 0
  · subst h0
    obtain ⟨bm, L, hbm, hM, hL, hV⟩ := hm rfl
    obtain rfl : m = some bm := by simpa using hbm
    have hx2 := HX.out
    rw [if_pos rfl] at hx2
    have HX2 := Lib.hid hx2
    have hk := Ok.of (HOK.out rfl).1
    have HL := Lib.hid hL
    have HV := Lib.hid hV
    clear hm hx2 hL hV
    have hb := Cls.new w1 101 #[.map (some bm)]
    obtain ⟨W1, hW1⟩ : ∃ W1, w1.alloc (.cells #[.map (some bm)] 101) = W1 := ⟨_, rfl⟩
    have hz : Ext w1 W1 := by rw [← hW1]; exact (by repeat (first | exact Ext.refl _ | assumption | refine Ext.alloc ?_ _ | refine Ext.drew ?_ | refine Ext.drewN _ ?_ | refine Ext.trans ?_ (by assumption)))
    rw [hW1] at hb
    replace d0 := hz.cell d0
    replace d1 := hz.cell d1
    replace hx := hx.trans hz
    replace hM := hM.ext hz
    go_upto_region 4 with fail
    try rw [hW1]
    have hz' := hz
    clear hW1 hz
    have hT1 := hT.ext hx
    have q0' := q0.ext (show Ext w1 W1 from hz')
    have e0 : W1.cell? ⟨w1.heap.size, 0, none⟩ = some (.map (some bm)) := hb.cell 0
    have bd1 := alnE_bd hk (fun _ => true)
    have bd2 := alnE_bd hk (fun p => !decide (p.id ∈ l))
    have KW := fun W (h : Ext W1 W) => whole_any a b T hk W (hT1.ext h)
    have KA := fun W (h : Ext W1 W) => alone_Saved a b T hk (fun p => !decide (p.id ∈ l)) (.pointer (some ⟨w1.heap.size, 0, none⟩)) W (hT1.ext h) (fun x W' h' => (Saved1_any w1.heap.size bm L HV.out x W' (hb.ext (h.trans h')) (hM.ext (h.trans h'))).mono (fun e W' ⟨h1, h2⟩ => ⟨by rw [h1]; simp only [HL.out], h2⟩))
    have hsv : savG T l = alnE T (fun _ => true) - alnE T (fun p => !decide (p.id ∈ l)) := rfl
    obtain ⟨X1, hX1⟩ : ∃ X1, alnE T (fun _ => true) = X1 := ⟨_, rfl⟩
    obtain ⟨X2, hX2⟩ : ∃ X2, alnE T (fun p => !decide (p.id ∈ l)) = X2 := ⟨_, rfl⟩
    rw [hX1] at KW bd1 hsv
    rw [hX2] at KA bd2 hsv
    have HSV := Lib.hid hsv
    clear hX1 hX2 hsv
    go_region_held3 (fun W' => W'.cell? ⟨w.heap.size, 0, none⟩ = some a ∧ W'.cell? ⟨w.heap.size, 1, none⟩ = some b ∧ Ext W1 W')
      ((refine ⟨Ext.cell (w := W1) ?_ d0, Ext.cell (w := W1) ?_ d1, ?_⟩; all_goals exact (by repeat (first | exact Ext.refl _ | assumption | refine Ext.alloc ?_ _ | refine Ext.drew ?_ | refine Ext.drewN _ ?_ | refine Ext.trans ?_ (by assumption)))))
      ((first | (go_at_call 70; (with_reducible refine (KW _ ?_).mono ?_); (focus (exact (by repeat (first | exact Ext.refl _ | assumption | refine Ext.alloc ?_ _ | refine Ext.drew ?_ | refine Ext.drewN _ ?_ | refine Ext.trans ?_ (by assumption))))); rintro e w' ⟨rfl, hz⟩) | (go_at_call 57; (with_reducible refine (KA _ ?_).mono ?_); (focus (exact (by repeat (first | exact Ext.refl _ | assumption | refine Ext.alloc ?_ _ | refine Ext.drew ?_ | refine Ext.drewN _ ?_ | refine Ext.trans ?_ (by assumption))))); rintro e w' ⟨rfl, hz⟩)))
    all_goals
      go_wp2_with fail
      go_ret2
      exact ⟨ret2 (by rw [HX2.out, HSV.out]; exact vint (IntWalk.i64_in (X1 - X2) (by omega))) rfl, hx.trans (by repeat (first | exact Ext.refl _ | assumption | refine Ext.alloc ?_ _ | refine Ext.drew ?_ | refine Ext.drewN _ ?_ | refine Ext.trans ?_ (by assumption)))⟩
  · have hb : (E != 0) = true := by simpa using h0
    have hx2 := HX.out
    rw [if_neg h0] at hx2
    have HX2 := Lib.hid hx2
    clear hm hx2
    go_wp2_with fail
    go_ret2
    exact ⟨ret2 (by rw [HX2.out]; rfl) rfl, hx.trans (by repeat (first | exact Ext.refl _ | assumption | refine Ext.alloc ?_ _ | refine Ext.drew ?_ | refine Ext.drewN _ ?_ | refine Ext.trans ?_ (by assumption)))⟩
end Go.Proofs.Ythopgonbndoidaa
