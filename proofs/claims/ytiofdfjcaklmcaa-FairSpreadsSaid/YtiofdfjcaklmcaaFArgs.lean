/- From a walk to a statement: what the arguments read as, the row's last step. -/
import Derived.Test.YtiofdfjcaklmcaaFBs
import Derived.Test.YtiofdfjcaklmcaaRows
import Derived.ProofKit
import Derived.OpenShut
import Derived.ChangeSame
import Derived.Deep.DeepHandedRow
import Derived.Lib.SmallJoins
import Derived.Carry
namespace Go.Proofs.Ytiofdfjcaklmcaa
open Go.ChangeShapes Go.WideShapes Go.ChangeAt Go.RowKit Go.Deep Go.Joins

theorem own : ownKnob Try.prog.godebug = none := by kernel_rfl
theorem laidOut : laidOutB Try.prog = true := by kernel_rfl

/-- the arguments, in a world that only grew, read as they did -/
theorem trodAll_stays {H : Type} {enc : TypeId × Value → H} {W W' : World} {sp : Nat → Bool} (hx : Ext W W') : ∀ (ts : List TypeId) (vs : List Value) (ds : List (DataW H)) (ps : List MemPlace),
    (∀ t ∈ ts, (Try.prog).readableRec t = true ∧ t < (Try.prog).types.size) → DataW.TrodAll enc Try.prog W 0 (fun _ => true) true ts vs ds ps → (∀ p ∈ ps, p.block < W.heap.size) → (∀ p ∈ ps, sp p.block = true) →
    DataW.TrodAll enc Try.prog W' 0 sp true ts vs ds ps := by
  intro ts
  induction ts with
  | nil => intro vs ds ps _ h _ _; cases vs <;> cases ds <;> first | exact h | cases h
  | cons t ts ih =>
    intro vs ds ps hr h hlt hs
    cases vs with
    | nil => cases ds <;> cases h
    | cons v vs =>
      cases ds with
      | nil => cases h
      | cons d ds =>
        obtain ⟨p, q, h1, h2, rfl⟩ := h
        exact ⟨p, q, WideElems.Trod_stays laidOut (hr t (by simp)).1 (hr t (by simp)).2 h1 (fun x hx' => Below.same hx (hlt x (by simp [hx']))) (fun x hx' => hs x (by simp [hx'])),
          ih _ _ _ (fun t' ht => hr t' (by simp [ht])) h2 (fun x hx' => hlt x (by simp [hx'])) (fun x hx' => hs x (by simp [hx'])), rfl⟩

/-- what a law of these owes when it has returned true -/
theorem post_true {H : Type} {enc : TypeId × Value → H} {f : Func} {s : ChangeSpec} {W W' : World} {args : Array Value} {ds gs : List (DataW H)} {before : List MemPlace}
    (hW : DataW.Whole enc Try.prog f.params.toList s.vars false W args.toList ds gs before) (hv : s.vars = []) (hrt : f.resultTypes = #[4])
    (hfn : (s.fn H (ds ++ gs)).results = [.lit (.bool true)] ∧ (s.fn H (ds ++ gs)).args = ds ∧ (s.fn H (ds ++ gs)).vars = [])
    (hr : ∀ t ∈ f.params.toList, (Try.prog).readableRec t = true ∧ t < (Try.prog).types.size) (hb : Ext W W') :
    s.post enc Try.prog f false true false false W args (.bool true) W' := by
  have hlt : ∀ p ∈ before, p.block < W.heap.size := fun p hp => hW.lt p hp
  have hW0 := hW
  obtain ⟨p, q, hA, hV, hpq, hz, hn⟩ := hW0
  rw [hv] at hV
  obtain ⟨rfl, rfl⟩ := trodVars_none hV
  rw [List.append_nil] at hpq
  subst hpq
  have hargs : ∀ sp : Nat → Bool, (∀ x ∈ before, sp x.block = true) → DataW.TrodAll enc Try.prog W' 0 sp true f.params.toList args.toList (s.fn H (ds ++ [])).args before := fun sp hs => by
    rw [hfn.2.1]; exact trodAll_stays hb _ _ _ _ hr hA hlt hs
  have hvars : ∀ sp : Nat → Bool, DataW.TrodVars enc Try.prog W' sp s.vars (s.fn H (ds ++ [])).vars [] := fun sp => by rw [hfn.2.2, hv]; rfl
  have hres : ∀ (b : Nat) (sp : Nat → Bool) (hd : Bool), DataW.TrodAll enc Try.prog W' b sp hd f.resultTypes.toList ((Value.bool true).resultList f.resultTypes.size) (s.fn H (ds ++ [])).results [] := fun b sp hd => by
    rw [hfn.1, hrt]; exact trodAll_cons_mk (shut_bool Try.underlying4 _) trodAll_mk0
  exact ⟨ds, [], before, [], before, [], hW, hres _ _ _, hargs _ (fun x hx => by simpa using hlt x hx), hvars _, World.keptBut_mono (fun x hx => ⟨hx, .inr (.inl hx)⟩) (Below.frame hb (· ∈ before)), fun h => by cases h⟩

theorem add_at (b o n : Nat) : (⟨b, o, none⟩ : Addr).add n = ⟨b, o + n, none⟩ := by
  unfold Addr.add
  split
  · rename_i h; subst h; rfl
  · rfl
theorem spot_none {W : World} {a : Addr} {v : Value} (h : W.cell? (a.add 0) = some v) : a = ⟨a.block, a.off, none⟩ := by
  have h' : W.cell? a = some v := by simpa [Addr.add] using h
  unfold World.cell? at h'
  split at h'
  · split at h'
    · cases h'
    · rename_i hs
      cases a with
      | mk b o s => cases s with
        | none => rfl
        | some x => exact absurd rfl hs
  · cases h'
theorem pick_list {α : Type} {n : Nat} {P : Nat → α → Prop} (h : ∀ i, i < n → ∃ x, P i x) : ∃ l : List α, l.length = n ∧ ∀ i (hi : i < l.length), P i l[i] := by
  induction n with
  | zero => exact ⟨[], rfl, fun i hi => by simp at hi⟩
  | succ n ih =>
    obtain ⟨l, hl, hp⟩ := ih (fun i hi => h i (by omega))
    obtain ⟨x, hx⟩ := h n (by omega)
    refine ⟨l ++ [x], by simp [hl], fun i hi => ?_⟩
    by_cases e : i < l.length
    · rw [List.getElem_append_left e]; exact hp i e
    · have : i = l.length := by simp at hi; omega
      subst this
      simp only [List.getElem_append_right (Nat.le_refl _), Nat.sub_self, List.getElem_cons_zero]
      rw [hl]; exact hx
section
variable {H : Type} {enc : TypeId × Value → H} {W : World}
theorem wf_i64 {n : Int} (h : (Lit.int .i64 n).wf = true) : -9223372036854775808 ≤ n ∧ n ≤ 9223372036854775807 := bounds_i64 h
theorem int_of {fuel : Nat} {v : Value} {y : DataW H × List MemPlace} (h : DataW.trod enc Try.prog W 0 (fun _ => true) true fuel 3 [v] = some y) : ∃ n : Int, v = .int .i64 n ∧ (-9223372036854775808 ≤ n ∧ n ≤ 9223372036854775807) := by
  obtain ⟨n, hc, _, hw⟩ := DataW.trod_int Try.underlying3 h
  exact ⟨n, by simpa using hc, wf_i64 hw⟩
set_option maxRecDepth 100000 in
theorem ints_of {fuel : Nat} {v : Value} {y : DataW H × List MemPlace} (h : DataW.trod enc Try.prog W 0 (fun _ => true) true fuel 46 [v] = some y) : ∃ l, IntsAt W v l := by
  rcases open_slice Try.underlying46 h with ⟨hcs, _⟩ | ⟨a, len, cap, m, n, D, Pl, hcs, hb, hl, hm, hmm, hx, hi⟩
  · simp only [List.cons.injEq, and_true] at hcs
    exact ⟨[], none, 0, hcs, by simp, fun i hi => by simp at hi⟩
  · simp only [List.cons.injEq, and_true] at hcs
    subst hcs
    simp only [if_true] at hmm
    have hC : (Try.prog).cellsOf 3 = 1 := by kernel_rfl
    have hall : ∀ i, i < len → ∃ t : Int, W.cell? ((a.add (i * 1)).add 0) = some (.int .i64 t) := by
      intro i hil
      obtain ⟨cs', hc, ht'⟩ := hi i (by omega)
      rw [hC] at hc
      obtain ⟨_, hcl, hat⟩ := World.cells?_some hc
      obtain ⟨v0, rfl⟩ : ∃ v0, cs' = [v0] := by
        match cs', hcl with
        | [v0], _ => exact ⟨v0, rfl⟩
      obtain ⟨p0, e0, _⟩ := int_of (v := v0) ht'
      exact ⟨p0, by rw [hat 0 (by omega), ← e0]; rfl⟩
    obtain ⟨l, hl', hp⟩ := pick_list hall
    subst hl'
    refine ⟨l, some a, cap, rfl, hl, fun i hi' => ?_⟩
    have h00 := (hp 0 (by omega))
    simp only [Nat.zero_mul] at h00
    have ha : a = ⟨a.block, a.off, none⟩ := spot_none (by simpa [Addr.add] using h00)
    have q0 := hp i hi'
    rw [ha, add_at, add_at] at q0
    exact ⟨a.block, a.off, by rw [← ha], by simpa using q0⟩
set_option maxRecDepth 100000 in
theorem tes_of0 {fuel : Nat} {v : Value} {y : DataW H × List MemPlace} (h : DataW.trod enc Try.prog W 0 (fun _ => true) true fuel 22 [v] = some y) : ∃ l : List Te, ∃ ao cap, v = .slice ao l.length cap ∧ l.length ≤ cap ∧ ∀ i (h : i < l.length), ∃ b o, ao = some ⟨b, o, none⟩ ∧ W.cell? ⟨b, o + i * 2, none⟩ = some (.int .i64 l[i].id) ∧ W.cell? ⟨b, o + i * 2 + 1, none⟩ = some (.int .i64 l[i].most) := by
  rcases open_slice Try.underlying22 h with ⟨hcs, _⟩ | ⟨a, len, cap, m, n, D, Pl, hcs, hb, hl, hm, hmm, hx, hi⟩
  · simp only [List.cons.injEq, and_true] at hcs
    exact ⟨[], none, 0, hcs, by simp, fun i hi => by simp at hi⟩
  · simp only [List.cons.injEq, and_true] at hcs
    subst hcs
    simp only [if_true] at hmm
    have hC : (Try.prog).cellsOf 45 = 2 := by kernel_rfl
    have hall : ∀ i, i < len → ∃ t : Te, W.cell? ((a.add (i * 2)).add 0) = some (.int .i64 t.id) ∧ W.cell? ((a.add (i * 2)).add 1) = some (.int .i64 t.most) := by
      intro i hil
      obtain ⟨cs', hc, ht'⟩ := hi i (by omega)
      rw [hC] at hc
      obtain ⟨y0, y1, n', hx', _, h0, h1⟩ := trod_struct2 Try.underlying45 ht'
      obtain ⟨_, hcl, hat⟩ := World.cells?_some hc
      obtain ⟨v0, v1, rfl⟩ : ∃ v0 v1, cs' = [v0, v1] := by
        match cs', hcl with
        | [v0, v1], _ => exact ⟨v0, v1, rfl⟩
      obtain ⟨p0, e0, _⟩ := int_of (v := v0) (by simpa [show (Try.prog).cellsOf 3 = 1 by kernel_rfl] using h0)
      obtain ⟨p1, e1, _⟩ := int_of (v := v1) (by simpa [show (Try.prog).cellsOf 3 = 1 by kernel_rfl] using h1)
      exact ⟨⟨p0, p1⟩, by rw [hat 0 (by omega), ← e0]; rfl, by rw [hat 1 (by omega), ← e1]; rfl⟩
    obtain ⟨l, hl', hp⟩ := pick_list hall
    subst hl'
    refine ⟨l, some a, cap, rfl, hl, fun i hi' => ?_⟩
    have h00 := (hp 0 (by omega)).1
    simp only [Nat.zero_mul] at h00
    have ha : a = ⟨a.block, a.off, none⟩ := spot_none (by simpa [Addr.add] using h00)
    obtain ⟨q0, q1⟩ := hp i hi'
    rw [ha, add_at, add_at] at q0 q1
    exact ⟨a.block, a.off, by rw [← ha], by simpa using q0, q1⟩
set_option maxRecDepth 100000 in
theorem sfs_of0 {fuel : Nat} {v : Value} {y : DataW H × List MemPlace} (h : DataW.trod enc Try.prog W 0 (fun _ => true) true fuel 35 [v] = some y) : ∃ l : List (Int × Int), ∃ ao cap, v = .slice ao l.length cap ∧ l.length ≤ cap ∧ ∀ i (h : i < l.length), ∃ b o, ao = some ⟨b, o, none⟩ ∧ W.cell? ⟨b, o + i * 2, none⟩ = some (.int .i64 l[i].1) ∧ W.cell? ⟨b, o + i * 2 + 1, none⟩ = some (.int .i64 l[i].2) := by
  rcases open_slice Try.underlying35 h with ⟨hcs, _⟩ | ⟨a, len, cap, m, n, D, Pl, hcs, hb, hl, hm, hmm, hx, hi⟩
  · simp only [List.cons.injEq, and_true] at hcs
    exact ⟨[], none, 0, hcs, by simp, fun i hi => by simp at hi⟩
  · simp only [List.cons.injEq, and_true] at hcs
    subst hcs
    simp only [if_true] at hmm
    have hC : (Try.prog).cellsOf 58 = 2 := by kernel_rfl
    have hall : ∀ i, i < len → ∃ t : Int × Int, W.cell? ((a.add (i * 2)).add 0) = some (.int .i64 t.1) ∧ W.cell? ((a.add (i * 2)).add 1) = some (.int .i64 t.2) := by
      intro i hil
      obtain ⟨cs', hc, ht'⟩ := hi i (by omega)
      rw [hC] at hc
      obtain ⟨y0, y1, n', hx', _, h0, h1⟩ := trod_struct2 Try.underlying58 ht'
      obtain ⟨_, hcl, hat⟩ := World.cells?_some hc
      obtain ⟨v0, v1, rfl⟩ : ∃ v0 v1, cs' = [v0, v1] := by
        match cs', hcl with
        | [v0, v1], _ => exact ⟨v0, v1, rfl⟩
      obtain ⟨p0, e0, _⟩ := int_of (v := v0) (by simpa [show (Try.prog).cellsOf 3 = 1 by kernel_rfl] using h0)
      obtain ⟨p1, e1, _⟩ := int_of (v := v1) (by simpa [show (Try.prog).cellsOf 3 = 1 by kernel_rfl] using h1)
      exact ⟨⟨p0, p1⟩, by rw [hat 0 (by omega), ← e0]; rfl, by rw [hat 1 (by omega), ← e1]; rfl⟩
    obtain ⟨l, hl', hp⟩ := pick_list hall
    subst hl'
    refine ⟨l, some a, cap, rfl, hl, fun i hi' => ?_⟩
    have h00 := (hp 0 (by omega)).1
    simp only [Nat.zero_mul] at h00
    have ha : a = ⟨a.block, a.off, none⟩ := spot_none (by simpa [Addr.add] using h00)
    obtain ⟨q0, q1⟩ := hp i hi'
    rw [ha, add_at, add_at] at q0 q1
    exact ⟨a.block, a.off, by rw [← ha], by simpa using q0, q1⟩
set_option maxRecDepth 100000 in
theorem sls_of {fuel : Nat} {v : Value} {y : DataW H × List MemPlace} (h : DataW.trod enc Try.prog W 0 (fun _ => true) true fuel 23 [v] = some y) : ∃ l, SlsAt W v l ∧ l.length ≤ 9223372036854775807 := by
  rcases open_slice Try.underlying23 h with ⟨hcs, _⟩ | ⟨a, len, cap, m, n, D, Pl, hcs, hb, hl, hm, hmm, hx, hi⟩
  · simp only [List.cons.injEq, and_true] at hcs
    exact ⟨[], ⟨none, 0, hcs, by simp, fun i hi => by simp at hi⟩, by simp⟩
  · simp only [List.cons.injEq, and_true] at hcs
    subst hcs
    simp only [if_true] at hmm
    have hC : (Try.prog).cellsOf 48 = 2 := by kernel_rfl
    have hall : ∀ i, i < len → ∃ t : Sl, ∃ u, W.cell? ((a.add (i * 2)).add 0) = some (.int .i64 t.id) ∧ W.cell? ((a.add (i * 2)).add 1) = some u ∧ IntsAt W u t.us := by
      intro i hil
      obtain ⟨cs', hc, ht'⟩ := hi i (by omega)
      rw [hC] at hc
      obtain ⟨y0, y1, n', hx', _, h0, h1⟩ := trod_struct2 Try.underlying48 ht'
      obtain ⟨_, hcl, hat⟩ := World.cells?_some hc
      obtain ⟨v0, v1, rfl⟩ : ∃ v0 v1, cs' = [v0, v1] := by
        match cs', hcl with
        | [v0, v1], _ => exact ⟨v0, v1, rfl⟩
      obtain ⟨p0, e0, _⟩ := int_of (v := v0) (by simpa [show (Try.prog).cellsOf 3 = 1 by kernel_rfl] using h0)
      obtain ⟨p1, e1⟩ := ints_of (v := v1) (by simpa [show (Try.prog).cellsOf 3 = 1 by kernel_rfl, show (Try.prog).cellsOf 46 = 1 by kernel_rfl] using h1)
      exact ⟨⟨p0, p1⟩, v1, by rw [hat 0 (by omega), ← e0]; rfl, by rw [hat 1 (by omega)]; rfl, e1⟩
    obtain ⟨l, hl', hp⟩ := pick_list hall
    subst hl'
    refine ⟨l, ⟨some a, cap, rfl, hl, fun i hi' => ?_⟩, Nat.le_trans hl hm⟩
    obtain ⟨_, h00, _⟩ := hp 0 (by omega)
    simp only [Nat.zero_mul] at h00
    have ha : a = ⟨a.block, a.off, none⟩ := spot_none (by simpa [Addr.add] using h00)
    obtain ⟨u, q0, q1, q2⟩ := hp i hi'
    rw [ha, add_at, add_at] at q0 q1
    exact ⟨a.block, a.off, u, by rw [← ha], by simpa using q0, q1, q2⟩
theorem seq2 {α : Type} {f : α → List Int} {g h : α → Int} (hf : ∀ x, f x = [g x, h x]) {v : Value} {l : List α} (H : ∃ ao cap, v = .slice ao l.length cap ∧ l.length ≤ cap ∧ ∀ i (h' : i < l.length), ∃ b o, ao = some ⟨b, o, none⟩ ∧ W.cell? ⟨b, o + i * 2, none⟩ = some (.int .i64 (g l[i])) ∧ W.cell? ⟨b, o + i * 2 + 1, none⟩ = some (.int .i64 (h l[i]))) : SeqK f 2 W v l := by
  obtain ⟨ao, c, hv, hc, hi⟩ := H
  refine ⟨ao, c, hv, hc, fun i hl => ?_⟩
  obtain ⟨b, o, h0, h1, h2⟩ := hi i hl
  refine ⟨b, o, h0, fun r hr => ?_⟩
  rw [hf]
  match r, hr with
  | 0, _ => exact h1
  | 1, _ => exact h2
theorem tes_of {fuel : Nat} {v : Value} {y : DataW H × List MemPlace} (h : DataW.trod enc Try.prog W 0 (fun _ => true) true fuel 22 [v] = some y) : ∃ l, TesAt W v l := by
  obtain ⟨l, hl⟩ := tes_of0 h
  exact ⟨l, seq2 (fun _ => rfl) hl⟩
theorem sfs_of {fuel : Nat} {v : Value} {y : DataW H × List MemPlace} (h : DataW.trod enc Try.prog W 0 (fun _ => true) true fuel 35 [v] = some y) : ∃ l, SfsAt W v l := by
  obtain ⟨l, hl⟩ := sfs_of0 h
  exact ⟨l, seq2 (fun _ => rfl) hl⟩
set_option maxRecDepth 100000 in
/-- an argument that is a list of integers -/
theorem open_ints' {r : Reach} {b0 : Nat} {v : Value} {d : DataW H} {p : List MemPlace} (hv : Value.okWide Try.prog W r b0 46 v) (h : DataW.Trod enc Try.prog W 0 (fun _ => true) true 46 v d p) : ∃ l, IntsAt W v l := by
  obtain ⟨a, len, cap, rfl⟩ := okWide_slice Try.underlying46 hv
  obtain ⟨fuel, hf⟩ := h
  exact ints_of (v := .slice a len cap) hf
set_option maxRecDepth 100000 in
/-- an argument that is a list of shifts -/
theorem open_sfs' {r : Reach} {b0 : Nat} {v : Value} {d : DataW H} {p : List MemPlace} (hv : Value.okWide Try.prog W r b0 35 v) (h : DataW.Trod enc Try.prog W 0 (fun _ => true) true 35 v d p) : ∃ l, SfsAt W v l := by
  obtain ⟨a, len, cap, rfl⟩ := okWide_slice Try.underlying35 hv
  obtain ⟨fuel, hf⟩ := h
  exact sfs_of (v := .slice a len cap) hf
set_option maxRecDepth 100000 in
/-- an argument that is a list of tenants -/
theorem open_tes' {r : Reach} {b0 : Nat} {v : Value} {d : DataW H} {p : List MemPlace} (hv : Value.okWide Try.prog W r b0 22 v) (h : DataW.Trod enc Try.prog W 0 (fun _ => true) true 22 v d p) : ∃ l, TesAt W v l := by
  obtain ⟨a, len, cap, rfl⟩ := okWide_slice Try.underlying22 hv
  obtain ⟨fuel, hf⟩ := h
  exact tes_of (v := .slice a len cap) hf
set_option maxRecDepth 100000 in
/-- an argument that is a pool -/
theorem open_pool {r : Reach} {b0 : Nat} {v : Value} {d : DataW H} {p : List MemPlace} (hv : Value.okWide Try.prog W r b0 25 v) (h : DataW.Trod enc Try.prog W 0 (fun _ => true) true 25 v d p) :
    ∃ (a b : Value) (P : Po), v = .agg #[a, b] ∧ PoAt W a b P ∧ P.ss.length ≤ 9223372036854775807 := by
  obtain ⟨v0, v1, y0, y1, n, rfl, _, _, h0, h1⟩ := open_agg2 Try.underlying25 (by kernel_rfl) (by kernel_rfl) hv h
  obtain ⟨ts, ht⟩ := tes_of h0
  obtain ⟨ss, hs, hn⟩ := sls_of h1
  exact ⟨v0, v1, ⟨ts, ss⟩, rfl, ⟨ht, hs⟩, hn⟩
set_option maxRecDepth 100000 in
/-- an argument that is a sharing with labels -/
theorem open_fair {r : Reach} {b0 : Nat} {v : Value} {d : DataW H} {p : List MemPlace} (hv : Value.okWide Try.prog W r b0 71 v) (h : DataW.Trod enc Try.prog W 0 (fun _ => true) true 71 v d p) :
    ∃ (a b : Value) (G L : List Int), v = .agg #[a, b] ∧ IntsAt W a G ∧ IntsAt W b L := by
  obtain ⟨v0, v1, y0, y1, n, rfl, _, _, h0, h1⟩ := open_agg2 Try.underlying71 (by kernel_rfl) (by kernel_rfl) hv h
  obtain ⟨ts, ht⟩ := ints_of h0
  obtain ⟨ss, hs⟩ := ints_of h1
  exact ⟨v0, v1, ts, ss, rfl, ht, hs⟩
set_option maxRecDepth 100000 in
/-- an argument that is a slot -/
theorem open_slot {r : Reach} {b0 : Nat} {v : Value} {d : DataW H} {p : List MemPlace} (hv : Value.okWide Try.prog W r b0 48 v) (h : DataW.Trod enc Try.prog W 0 (fun _ => true) true 48 v d p) :
    ∃ (x : Int) (b : Value) (L : List Int), v = .agg #[.int .i64 x, b] ∧ (-9223372036854775808 ≤ x ∧ x ≤ 9223372036854775807) ∧ IntsAt W b L := by
  obtain ⟨v0, v1, y0, y1, n, rfl, _, _, h0, h1⟩ := open_agg2 Try.underlying48 (by kernel_rfl) (by kernel_rfl) hv h
  obtain ⟨x, rfl, hx⟩ := int_of h0
  obtain ⟨ss, hs⟩ := ints_of h1
  exact ⟨x, v1, ss, rfl, hx, hs⟩
end
theorem wf_u8 {n : Int} (h : (Lit.int .u8 n).wf = true) : 0 ≤ n ∧ n ≤ 255 := bounds_u8 h
end Go.Proofs.Ytiofdfjcaklmcaa
