/- From a walk to a statement: what the arguments read as, the laid table, the row's last step. -/
import Derived.Test.YtejmmfjabmmihaaDoorBld
import Derived.Test.YtejmmfjabmmihaaDoorCards
import Derived.Test.YtejmmfjabmmihaaDoorTie
import Derived.ProofKit
import Derived.OpenShut
import Derived.ChangeSame
import Derived.Deep.DeepHandedRow
import Derived.Lib.LaidTab
import Derived.Lib.SmallJoins
import Derived.Carry
namespace Go.Proofs.YtejmmfjabmmihaaDoor
open Go.ChangeShapes Go.WideShapes Go.ChangeAt Go.RowKit Go.Deep Go.Joins

theorem own : ownKnob Tryd.prog.godebug = none := by kernel_rfl
theorem laidOut : laidOutB Tryd.prog = true := by kernel_rfl

/-- the table of Itoa, which stands third on the rows' lists -/
theorem tab_of_laid {W : World} {x1 x2 : String × DataW Unit} {d : DataW Unit} (hd : d = Lib.tabData .u64 Lib.pow10Tab)
    (h : laidMet Tryd.prog [x1, x2, ("internal/strconv.uint64pow10", d)] W) : Tab W := by
  subst hd
  obtain ⟨ps, ⟨_, _, _, _, _, q, _, _, _, _, ⟨_, _, _, _, _, q2, _, _, _, _, ⟨g', t', cs, fuel, p, q3, hg', ht', hvar, hdd, _, _⟩, _⟩, _⟩, _⟩ := h
  have hg : (Tryd.prog).globalNamed "internal/strconv.uint64pow10" = some 0 := by kernel_rfl
  have hty : ((Tryd.prog).globals[0]?).map (·.type) = some 168 := by kernel_rfl
  obtain rfl := Option.some.inj (hg.symm.trans hg')
  obtain rfl := Option.some.inj (hty.symm.trans ht')
  unfold Tab Lib.TabIs
  rw [hvar, ← Lib.cells_of_tab Tryd.underlying168 Tryd.underlying162 (by kernel_rfl) (by kernel_rfl) hdd]

/-- the arguments, in a world that only grew, read as they did -/
theorem trodAll_stays {H : Type} {enc : TypeId × Value → H} {W W' : World} {sp : Nat → Bool} (hx : Ext W W') : ∀ (ts : List TypeId) (vs : List Value) (ds : List (DataW H)) (ps : List MemPlace),
    (∀ t ∈ ts, (Tryd.prog).readableRec t = true ∧ t < (Tryd.prog).types.size) → DataW.TrodAll enc Tryd.prog W 0 (fun _ => true) true ts vs ds ps → (∀ p ∈ ps, p.block < W.heap.size) → (∀ p ∈ ps, sp p.block = true) →
    DataW.TrodAll enc Tryd.prog W' 0 sp true ts vs ds ps := by
  intro ts
  induction ts with
  | nil => intro vs ds ps _ h _ _; cases vs <;> cases ds <;> first | exact h | cases h
  | cons t ts ih =>
    intro vs ds ps hr h hlt hs
    cases vs with
    | nil => cases ds <;> cases h
    | cons v vs =>
      cases ds with
      | nil => cases h
      | cons d ds =>
        obtain ⟨p, q, h1, h2, rfl⟩ := h
        exact ⟨p, q, WideElems.Trod_stays laidOut (hr t (by simp)).1 (hr t (by simp)).2 h1 (fun x hx' => Below.same hx (hlt x (by simp [hx']))) (fun x hx' => hs x (by simp [hx'])),
          ih _ _ _ (fun t' ht => hr t' (by simp [ht])) h2 (fun x hx' => hlt x (by simp [hx'])) (fun x hx' => hs x (by simp [hx'])), rfl⟩

/-- what a law of these owes when it has returned true -/
theorem post_true {H : Type} {enc : TypeId × Value → H} {f : Func} {s : ChangeSpec} {W W' : World} {args : Array Value} {ds gs : List (DataW H)} {before : List MemPlace}
    (hW : DataW.Whole enc Tryd.prog f.params.toList s.vars false W args.toList ds gs before) (hv : s.vars = []) (hrt : f.resultTypes = #[4])
    (hfn : (s.fn H (ds ++ gs)).results = [.lit (.bool true)] ∧ (s.fn H (ds ++ gs)).args = ds ∧ (s.fn H (ds ++ gs)).vars = [])
    (hr : ∀ t ∈ f.params.toList, (Tryd.prog).readableRec t = true ∧ t < (Tryd.prog).types.size) (hb : Ext W W') :
    s.post enc Tryd.prog f false true false false W args (.bool true) W' := by
  have hlt : ∀ p ∈ before, p.block < W.heap.size := fun p hp => hW.lt p hp
  have hW0 := hW
  obtain ⟨p, q, hA, hV, hpq, hz, hn⟩ := hW0
  rw [hv] at hV
  obtain ⟨rfl, rfl⟩ := trodVars_none hV
  rw [List.append_nil] at hpq
  subst hpq
  have hargs : ∀ sp : Nat → Bool, (∀ x ∈ before, sp x.block = true) → DataW.TrodAll enc Tryd.prog W' 0 sp true f.params.toList args.toList (s.fn H (ds ++ [])).args before := fun sp hs => by
    rw [hfn.2.1]; exact trodAll_stays hb _ _ _ _ hr hA hlt hs
  have hvars : ∀ sp : Nat → Bool, DataW.TrodVars enc Tryd.prog W' sp s.vars (s.fn H (ds ++ [])).vars [] := fun sp => by rw [hfn.2.2, hv]; rfl
  have hres : ∀ (b : Nat) (sp : Nat → Bool) (hd : Bool), DataW.TrodAll enc Tryd.prog W' b sp hd f.resultTypes.toList ((Value.bool true).resultList f.resultTypes.size) (s.fn H (ds ++ [])).results [] := fun b sp hd => by
    rw [hfn.1, hrt]; exact trodAll_cons_mk (shut_bool Tryd.underlying4 _) trodAll_mk0
  exact ⟨ds, [], before, [], before, [], hW, hres _ _ _, hargs _ (fun x hx => by simpa using hlt x hx), hvars _, World.keptBut_mono (fun x hx => ⟨hx, .inr (.inl hx)⟩) (Below.frame hb (· ∈ before)), fun h => by cases h⟩

section
variable {H : Type} {enc : TypeId × Value → H} {W : World}
theorem int_of {fuel : Nat} {v : Value} {y : DataW H × List MemPlace} (h : DataW.trod enc Tryd.prog W 0 (fun _ => true) true fuel 3 [v] = some y) : ∃ n : Int, v = .int .i64 n := by
  obtain ⟨n, hc, _⟩ := DataW.trod_int Tryd.underlying3 h
  exact ⟨n, by simpa using hc⟩
set_option maxRecDepth 100000 in
/-- an argument that is a turn -/
theorem open_turn {r : Reach} {b0 : Nat} {v : Value} {d : DataW H} {p : List MemPlace} (hv : Value.okWide Tryd.prog W r b0 23 v) (h : DataW.Trod enc Tryd.prog W 0 (fun _ => true) true 23 v d p) :
    ∃ a b c : Int, v = .agg #[.int .i64 a, .int .i64 b, .int .i64 c] := by
  obtain ⟨v0, v1, v2, y0, y1, y2, n, rfl, _, _, h0, h1, h2⟩ := open_agg3 Tryd.underlying23 (by kernel_rfl) (by kernel_rfl) hv h
  obtain ⟨a, rfl⟩ := int_of h0
  obtain ⟨b, rfl⟩ := int_of h1
  obtain ⟨c, rfl⟩ := int_of h2
  exact ⟨a, b, c, rfl⟩
set_option maxRecDepth 100000 in
/-- an argument that is a span -/
theorem open_span {r : Reach} {b0 : Nat} {v : Value} {d : DataW H} {p : List MemPlace} (hv : Value.okWide Tryd.prog W r b0 56 v) (h : DataW.Trod enc Tryd.prog W 0 (fun _ => true) true 56 v d p) :
    ∃ a b : Int, v = .agg #[.int .i64 a, .int .i64 b] := by
  obtain ⟨v0, v1, y0, y1, n, rfl, _, _, h0, h1⟩ := open_agg2 Tryd.underlying56 (by kernel_rfl) (by kernel_rfl) hv h
  obtain ⟨a, rfl⟩ := int_of h0
  obtain ⟨b, rfl⟩ := int_of h1
  exact ⟨a, b, rfl⟩
end
end Go.Proofs.YtejmmfjabmmihaaDoor
