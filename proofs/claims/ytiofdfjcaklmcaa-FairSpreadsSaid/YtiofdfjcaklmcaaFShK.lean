/- Shifts as keys of a map: the set of those seen. -/
import Derived.Test.YtiofdfjcaklmcaaFPb
import Derived.Test.YtiofdfjcaklmcaaFSu
import Derived.DeepKeys5
namespace Go.Proofs.Ytiofdfjcaklmcaa
open Go.RowKit Go.Shelf Go.Maps

def ShK : Type := { t : Int × Int // (0 ≤ t.1 ∧ t.1 ≤ 1099511627776) ∧ (0 ≤ t.2 ∧ t.2 ≤ 1099511627776) }
def encSh (t : ShK) : Value := .agg #[.int .i64 t.1.1, .int .i64 t.1.2]
theorem encSh_inj (a b : ShK) (h : encSh a = encSh b) : a = b := by
  obtain ⟨⟨p, f⟩, _⟩ := a
  obtain ⟨⟨q, g⟩, _⟩ := b
  simp [encSh] at h
  obtain ⟨rfl, rfl⟩ := h
  rfl
theorem keySh_law : Keyed Try.prog 58 :=
  Keyed.of_law (deep_law_laid (P := Try.prog) (m := 5) (by kernel_rfl) (by omega) (k := 58) (by decide +kernel) (by kernel_rfl) (by kernel_rfl))
theorem keySh_ex (k : ShK) : ∃ l, keyOf Try.prog 58 (encSh k) = some l := by
  obtain ⟨⟨p, f⟩, ⟨h1, h2⟩, h3, h4⟩ := k
  simp only at h1 h2 h3 h4
  have hu := Try.underlying58
  have hi := Try.underlying3
  have hk : (Try.prog).keyType 58 = true := by kernel_rfl
  have c3 : (Try.prog).cellsOf 58 = 2 := by kernel_rfl
  have c1 : (Try.prog).cellsOf 3 = 1 := by kernel_rfl
  have hsz : 1 ≤ (Try.prog).types.size := by decide +kernel
  obtain ⟨d, hd⟩ : ∃ d, (Try.prog).types.size + 1 = d + 2 := ⟨(Try.prog).types.size - 1, by omega⟩
  have wf : ∀ n : Int, 0 ≤ n → n ≤ 1099511627776 → (Lit.int .i64 n).wf = true := fun n a b => by
    have e1 : IntKind.i64.min = -9223372036854775808 := by decide
    have e2 : IntKind.i64.max = 9223372036854775807 := by decide
    simp [Lit.wf, e1, e2]
    omega
  have w1 := wf p h1 h2
  have w2 := wf f h3 h4
  unfold keyOf
  rw [hu]
  simp only [hk, Bool.true_and, encSh, Value.formed, hu, c3, hd, Value.cells]
  simp [Program.keyLits, hu, hi, c3, c1, w1, w2]
instance : DecidableEq ShK := fun a b => decidable_of_iff (a.1 = b.1) ⟨fun h => Subtype.ext h, fun h => by rw [h]⟩
def seenL (o : List ShK) : List (ShK × Value) := o.map (fun t => (t, .bool true))
theorem seen_get (o : List ShK) (k : ShK) : getK (seenL o) k = if k ∈ o then some (.bool true) else none := by
  induction o with
  | nil => simp [seenL, getK]
  | cons a o ih =>
    simp only [seenL, getK, List.map_cons, List.find?_cons] at *
    by_cases h : a = k
    · subst h; simp
    · have h' : ¬ k = a := fun e => h e.symm
      simp only [h, decide_false, List.mem_cons, h', false_or]
      exact ih
theorem seen_upd (o : List ShK) (k : ShK) (h : k ∉ o) : updK (seenL o) k (.bool true) = seenL (o ++ [k]) := by
  unfold updK
  rw [seen_get, if_neg h]
  simp [seenL]
theorem shKL : KL Try.prog 58 encSh := KL.of_keyed keySh_law encSh_inj keySh_ex
theorem mapSh : (Try.prog).underlying 150 = some (.map 58 4) := by kernel_rfl
theorem zeroB (w : World) : (zeroValue 4).run Try.prog w = .ok (.bool false) w := by kernel_rfl
def inO (o : List ShK) (m : Int × Int) : Bool := decide (m ∈ o.map (·.1))
theorem seen_has (o : List ShK) (k : ShK) : (getK (seenL o) k).getD (.bool false) = .bool (inO o k.1) := by
  rw [seen_get]
  unfold inO
  by_cases h : k ∈ o
  · rw [if_pos h, decide_eq_true (List.mem_map.2 ⟨k, h, rfl⟩)]; rfl
  · rw [if_neg h, decide_eq_false]
    · rfl
    · intro hm
      obtain ⟨x, hx, e⟩ := List.mem_map.1 hm
      exact h (Subtype.ext e ▸ hx)
theorem lookupSh {ops : Array Oper} {rest : List Oper} {o : Oper} {a : Act} {Q : Exit → Act → World → Prop} {w : World} {b : Nat} {s : List ShK} (hw : Region.wanted o (yielded ops a.tmps) = true) (m x : Operand) (hop : o.op = Op.lookup 150 m x false)
    (hm : a.eval m = .map (some b)) (h : MapAt encSh w b (seenL s)) (k : ShK) (hx : a.eval x = encSh k) (hK : wpList Try.prog ops Q rest (a.put o.dst (.bool (inO s k.1))) w) : wpList Try.prog ops Q (o :: rest) a w := by
  refine wpList_step fun K' hK' => ?_
  rw [if_pos hw]
  have hrun := run_lookupMap shKL mapSh h k (zeroB w) false
  rw [seen_has] at hrun
  unfold Oper.wp
  simp [execOp, hop, hm, hx, hrun, Result.andThen]
  exact hK' _ _ hK
end Go.Proofs.Ytiofdfjcaklmcaa
