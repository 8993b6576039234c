/- The specification's small functions. -/
import Derived.Test.YtiofdfjcaklmcaaFBs
namespace Go.Proofs.Ytiofdfjcaklmcaa
open Go.RowKit Go.Shelf

set_option maxHeartbeats 1000000 in
theorem refInB_any (n lo hi : Int) (w : World) : Calls Try.prog 96 #[.int .i64 n, .int .i64 lo, .int .i64 hi] w fun e w' => e = .returned (.bool (inB n lo hi)) ∧ Ext w w' := by
  by_cases h1 : lo ≤ n <;> by_cases h2 : n ≤ hi <;>
  · go_enter Try.func96, Try.ntmps96
    go_wp2_with fail
    go_ret
    exact ⟨ret_bool (by simp [inB, h1, h2] <;> omega), Ext.refl _⟩
set_option maxRecDepth 100000 in
set_option maxHeartbeats 2000000 in
theorem refHas_any (v : Value) (l : List Int) (n : Int) (w : World) (hl : IntsAt w v l) (hn : l.length ≤ 1000000) :
    Calls Try.prog 103 #[v, .int .i64 n] w fun e w' => e = .returned (.bool (decide (n ∈ l))) ∧ Ext w w' := by
  obtain ⟨ao, cap, rfl, hcap⟩ := hl.len
  obtain ⟨D, hD⟩ : ∃ D, decide (n ∈ l) = D := ⟨_, rfl⟩
  have HD := Lib.hid hD
  rw [hD]
  clear hD
  go_enter Try.func103, Try.ntmps103
  go_wp2_with fail
  go_loopw [5] (fun i wr => ∃ k : Nat, k ≤ l.length ∧ i = .int .i64 k ∧ Hid (∀ j (h : j < l.length), j < k → l[j] ≠ n) ∧ Ext w wr) (fun i _ => l.length - (intOf i).toNat)
  case atStart => exact ⟨0, Nat.zero_le _, rfl, Lib.hid (fun _ _ h => by omega), Ext.refl _⟩
  case round =>
    obtain ⟨k, hk, rfl, HK, hx⟩ := hrel
    by_cases hlt : k < l.length
    · obtain ⟨b, o, rfl, c0⟩ := (hl.ext hx).get k hlt
      obtain ⟨x, hxx⟩ : ∃ x, l[k] = x := ⟨_, rfl⟩
      rw [hxx] at c0
      cases hq : (x == n)
      · have hne : x ≠ n := by simpa using hq
        have HK2 : Hid (∀ j (h : j < l.length), j < k + 1 → l[j] ≠ n) := Lib.hid (fun j h hj => by
          by_cases hjk : j = k
          · subst hjk; rw [hxx]; exact hne
          · exact HK.out j h (by omega))
        clear hxx hne HK
        go_wp2
        go_roundw
        case rel => exact ⟨k + 1, by omega, by go_num, HK2, hx⟩
        case measure => simp [intOf]; omega
      · have hm : D = true := by
          rw [← HD.out, decide_eq_true_eq]
          have : x = n := by simpa using hq
          rw [← this, ← hxx]
          exact List.getElem_mem _
        have HM := Lib.hid hm
        clear hxx hm HK
        go_wp2
        go_ret
        exact ⟨ret_bool HM.out.symm, hx⟩
    · have hm : D = false := by
        rw [← HD.out, decide_eq_false_iff_not]
        intro hm
        obtain ⟨j, hj, hjn⟩ := List.mem_iff_getElem.1 hm
        exact HK.out j hj (by omega) hjn
      have HM := Lib.hid hm
      clear hm HK
      go_wp2
      go_ret
      exact ⟨ret_bool HM.out.symm, hx⟩

set_option maxRecDepth 100000 in
set_option maxHeartbeats 2000000 in
theorem refTn_any (a b : Value) (P : Po) (id : Int) (w : World) (hT : PoAt w a b P) (hn : P.ts.length ≤ 100000) :
    Calls Try.prog 80 #[.agg #[a, b], .int .i64 id] w fun e w' => e = .returned (.int .i64 (tnI P id)) ∧ Ext w w' := by
  have hI : tnI P id = ixF (fun x => x.id == id) 0 (P.ts.drop 0) := rfl
  obtain ⟨aa, ca, rfl, hla⟩ := hT.t.len
  obtain ⟨ab, cb, rfl, hlb⟩ := hT.s.len
  obtain ⟨F, hF⟩ : ∃ F, tnI P id = F := ⟨_, rfl⟩
  rw [hF] at hI ⊢
  have HF := Lib.hid hI.symm
  clear hI hF
  go_enter Try.func80, Try.ntmps80
  go_wp2_with fail
  go_loopw [5] (fun i wr => ∃ k : Nat, k ≤ P.ts.length ∧ i = .int .i64 k ∧ Hid (ixF (fun x => x.id == id) k (P.ts.drop k) = F) ∧ Cls w.heap.size 25 #[.slice aa P.ts.length ca, .slice ab P.ss.length cb] wr ∧ Ext w wr) (fun i _ => P.ts.length - (intOf i).toNat)
  case atStart => exact ⟨0, Nat.zero_le _, rfl, HF, Cls.newAt _ _ _ rfl, (by repeat (first | exact Ext.refl _ | assumption | refine Ext.alloc ?_ _ | refine Ext.drew ?_ | refine Ext.drewN _ ?_ | refine Ext.trans ?_ (by assumption)))⟩
  case round =>
    obtain ⟨k, hk, rfl, HK, q, hx⟩ := hrel
    have d0 : wr.cell? ⟨w.heap.size, 0, none⟩ = some (.slice aa P.ts.length ca) := q.cell 0
    have d1 : wr.cell? ⟨w.heap.size, 1, none⟩ = some (.slice ab P.ss.length cb) := q.cell 1
    by_cases hlt : k < P.ts.length
    · obtain ⟨b0, o0, he, c0, c1⟩ := (hT.t.ext hx).get k hlt
      subst he
      have hki : (k : Int) < P.ts.length := by omega
      have hhit := fun h => ixF_hit (p := fun x => x.id == id) hlt h
      have hmiss := fun h => ixF_miss (p := fun x => x.id == id) hlt h
      rw [HK.out] at hhit hmiss
      obtain ⟨x, hxx⟩ : ∃ x, P.ts[k].id = x := ⟨_, rfl⟩
      rw [hxx] at c0 hhit hmiss
      cases hq : (x == id)
      · have H1 := Lib.hid (hmiss hq)
        clear hxx hhit hmiss
        go_wp2_with fail
        go_roundw
        case rel => exact ⟨k + 1, by omega, by go_num, Lib.hid H1.out.symm, q, hx⟩
        case measure => simp [intOf]; omega
      · have H1 := Lib.hid (hhit hq)
        clear hxx hhit hmiss
        go_wp2_with fail
        go_ret
        exact ⟨ret_int H1.out.symm, hx⟩
    · obtain rfl : k = P.ts.length := by omega
      have he := ixF_end (p := fun x : Te => x.id == id) (l := P.ts)
      rw [HK.out] at he
      have HE := Lib.hid he
      clear he
      go_wp2_with fail
      go_ret
      exact ⟨ret_int HE.out.symm, hx⟩
set_option maxRecDepth 100000 in
set_option maxHeartbeats 2000000 in
theorem refSl_any (a b : Value) (P : Po) (id : Int) (w : World) (hT : PoAt w a b P) (hn : P.ss.length ≤ 100000) :
    Calls Try.prog 64 #[.agg #[a, b], .int .i64 id] w fun e w' => e = .returned (.int .i64 (slI P id)) ∧ Ext w w' := by
  have hI : slI P id = ixF (fun x => x.id == id) 0 (P.ss.drop 0) := rfl
  obtain ⟨aa, ca, rfl, hla⟩ := hT.t.len
  obtain ⟨ab, cb, rfl, hlb⟩ := hT.s.len
  obtain ⟨F, hF⟩ : ∃ F, slI P id = F := ⟨_, rfl⟩
  rw [hF] at hI ⊢
  have HF := Lib.hid hI.symm
  clear hI hF
  go_enter Try.func64, Try.ntmps64
  go_wp2_with fail
  go_loopw [5] (fun i wr => ∃ k : Nat, k ≤ P.ss.length ∧ i = .int .i64 k ∧ Hid (ixF (fun x => x.id == id) k (P.ss.drop k) = F) ∧ Cls w.heap.size 25 #[.slice aa P.ts.length ca, .slice ab P.ss.length cb] wr ∧ Ext w wr) (fun i _ => P.ss.length - (intOf i).toNat)
  case atStart => exact ⟨0, Nat.zero_le _, rfl, HF, Cls.newAt _ _ _ rfl, (by repeat (first | exact Ext.refl _ | assumption | refine Ext.alloc ?_ _ | refine Ext.drew ?_ | refine Ext.drewN _ ?_ | refine Ext.trans ?_ (by assumption)))⟩
  case round =>
    obtain ⟨k, hk, rfl, HK, q, hx⟩ := hrel
    have d0 : wr.cell? ⟨w.heap.size, 0, none⟩ = some (.slice aa P.ts.length ca) := q.cell 0
    have d1 : wr.cell? ⟨w.heap.size, 1, none⟩ = some (.slice ab P.ss.length cb) := q.cell 1
    by_cases hlt : k < P.ss.length
    · obtain ⟨b0, o0, ua, uc, he, c0, c1, hucl, hU⟩ := (hT.s.ext hx).get k hlt
      subst he
      have hki : (k : Int) < P.ss.length := by omega
      have hhit := fun h => ixF_hit (p := fun x => x.id == id) hlt h
      have hmiss := fun h => ixF_miss (p := fun x => x.id == id) hlt h
      rw [HK.out] at hhit hmiss
      obtain ⟨x, hxx⟩ : ∃ x, P.ss[k].id = x := ⟨_, rfl⟩
      rw [hxx] at c0 hhit hmiss
      cases hq : (x == id)
      · have H1 := Lib.hid (hmiss hq)
        clear hxx hhit hmiss
        go_wp2_with fail
        go_roundw
        case rel => exact ⟨k + 1, by omega, by go_num, Lib.hid H1.out.symm, q, hx⟩
        case measure => simp [intOf]; omega
      · have H1 := Lib.hid (hhit hq)
        clear hxx hhit hmiss
        go_wp2_with fail
        go_ret
        exact ⟨ret_int H1.out.symm, hx⟩
    · obtain rfl : k = P.ss.length := by omega
      have he := ixF_end (p := fun x : Sl => x.id == id) (l := P.ss)
      rw [HK.out] at he
      have HE := Lib.hid he
      clear he
      go_wp2_with fail
      go_ret
      exact ⟨ret_int HE.out.symm, hx⟩
end Go.Proofs.Ytiofdfjcaklmcaa
