/-
  No cell of these rows narrows 'for every input' (looked for: loops, veiled, ifaces, maps, wideKeys, modest, calm, conditions, laid).
  DERIVED. THE GIVEN ROWS OF THIS SEAT. 5 by the template 'for every input the law returns true; each argument reads behind the call as it read before'; 0 by the template 'total and deterministic' (their statements: YthopgonbndoidaaGreatTotals.lean).
  GIVEN WITH THE SEED: the statements are not yours to turn. If you find one false, say at which input.
  Laid BY PROGRAM, IN A SANDBOX (cutbox-rows.mjs): the forced cells as the released guide's own fill.sh prints them over the translation e004777a62ddd734… (all of the seat's roots in one cut). By AI agents, Wed Nov 11 2026. No macro, syntax, notation, axiom, sorry.
-/
import Derived.Test.YthopgonbndoidaaGreatChecked
import GoSem.Claim
import GoSem.ClaimJoined
import GoSem.ClaimMapViews
import Derived.JoinedTies
import Derived.KernelRfl
namespace Go.Proofs.YthopgonbndoidaaGreat
/- THE CELL 'sum', in the pinned program and in every row, IS THE sha256 OF THE DUMP (.gsa) THAT YthopgonbndoidaaGreatProg.lean LOADS. Nothing in Lean hashes anything: it is a label: what it is worth is what the hold of that sum in a sandbox is worth. -/
noncomputable def Tryz.pinned : Pinned := { name := "ythopgonbndoidaagreat", sum := "e004777a62ddd734d5dcbd5ebee38bb707b3ff53fad09373c6d2722e8b569907", checked := Tryz.checked }
namespace Rows
def none {H : Type} : Left H := { results := [], args := [] }

/-- 'drownerlaw08.LevyPence': WHATEVER THE INPUT: true; the input reads as it did. -/
def levyPenceSpec : ChangeSpec := { name := "levyPence", fn := fun _ => fun
  | [d1, d2] => { results := [.lit (.bool true)], args := [d1, d2] }
  | _ => none }
def levyPenceRow : OpenClaim := { program := "ythopgonbndoidaagreat", sum := "e004777a62ddd734d5dcbd5ebee38bb707b3ff53fad09373c6d2722e8b569907", func := "drowner/drownerlaw08.LevyPence", spec := "levyPence", unfollowed := true, recurses := true, apart := false }
def LevyPenceSaid : Prop := levyPenceRow.holds Tryz.pinned (OpenSpec.ofChange levyPenceSpec)

/-- ITS FALSE NEIGHBOUR: 'it returns false'. Refute it at one input. -/
def levyPenceWrong : ChangeSpec := { name := "levyPence", fn := fun _ => fun
  | [d1, d2] => { results := [.lit (.bool false)], args := [d1, d2] }
  | _ => none }
def LevyPenceWrongFalsely : Prop := levyPenceRow.holds Tryz.pinned (OpenSpec.ofChange levyPenceWrong)

/-- 'drownerlaw08.LevyObjects': WHATEVER THE INPUT: true; the input reads as it did. -/
def levyObjectsSpec : ChangeSpec := { name := "levyObjects", fn := fun _ => fun
  | [d1, d2, d3] => { results := [.lit (.bool true)], args := [d1, d2, d3] }
  | _ => none }
def levyObjectsRow : OpenClaim := { program := "ythopgonbndoidaagreat", sum := "e004777a62ddd734d5dcbd5ebee38bb707b3ff53fad09373c6d2722e8b569907", func := "drowner/drownerlaw08.LevyObjects", spec := "levyObjects", unfollowed := true, recurses := true, apart := false }
def LevyObjectsSaid : Prop := levyObjectsRow.holds Tryz.pinned (OpenSpec.ofChange levyObjectsSpec)

/-- ITS FALSE NEIGHBOUR: 'it returns false'. Refute it at one input. -/
def levyObjectsWrong : ChangeSpec := { name := "levyObjects", fn := fun _ => fun
  | [d1, d2, d3] => { results := [.lit (.bool false)], args := [d1, d2, d3] }
  | _ => none }
def LevyObjectsWrongFalsely : Prop := levyObjectsRow.holds Tryz.pinned (OpenSpec.ofChange levyObjectsWrong)

/-- 'drownerlaw08.LevyShares': WHATEVER THE INPUT: true; the input reads as it did. -/
def levySharesSpec : ChangeSpec := { name := "levyShares", fn := fun _ => fun
  | [d1, d2, d3] => { results := [.lit (.bool true)], args := [d1, d2, d3] }
  | _ => none }
def levySharesRow : OpenClaim := { program := "ythopgonbndoidaagreat", sum := "e004777a62ddd734d5dcbd5ebee38bb707b3ff53fad09373c6d2722e8b569907", func := "drowner/drownerlaw08.LevyShares", spec := "levyShares", unfollowed := true, recurses := true, apart := false }
def LevySharesSaid : Prop := levySharesRow.holds Tryz.pinned (OpenSpec.ofChange levySharesSpec)

/-- ITS FALSE NEIGHBOUR: 'it returns false'. Refute it at one input. -/
def levySharesWrong : ChangeSpec := { name := "levyShares", fn := fun _ => fun
  | [d1, d2, d3] => { results := [.lit (.bool false)], args := [d1, d2, d3] }
  | _ => none }
def LevySharesWrongFalsely : Prop := levySharesRow.holds Tryz.pinned (OpenSpec.ofChange levySharesWrong)

/-- 'drownerlaw08.LevyDues': WHATEVER THE INPUT: true; the input reads as it did. -/
def levyDuesSpec : ChangeSpec := { name := "levyDues", fn := fun _ => fun
  | [d1, d2, d3] => { results := [.lit (.bool true)], args := [d1, d2, d3] }
  | _ => none }
def levyDuesRow : OpenClaim := { program := "ythopgonbndoidaagreat", sum := "e004777a62ddd734d5dcbd5ebee38bb707b3ff53fad09373c6d2722e8b569907", func := "drowner/drownerlaw08.LevyDues", spec := "levyDues", unfollowed := true, recurses := true, apart := false }
def LevyDuesSaid : Prop := levyDuesRow.holds Tryz.pinned (OpenSpec.ofChange levyDuesSpec)

/-- ITS FALSE NEIGHBOUR: 'it returns false'. Refute it at one input. -/
def levyDuesWrong : ChangeSpec := { name := "levyDues", fn := fun _ => fun
  | [d1, d2, d3] => { results := [.lit (.bool false)], args := [d1, d2, d3] }
  | _ => none }
def LevyDuesWrongFalsely : Prop := levyDuesRow.holds Tryz.pinned (OpenSpec.ofChange levyDuesWrong)

/-- 'drownerlaw08.LevyDivides': WHATEVER THE INPUT: true; the input reads as it did. -/
def levyDividesSpec : ChangeSpec := { name := "levyDivides", fn := fun _ => fun
  | [d1, d2, d3] => { results := [.lit (.bool true)], args := [d1, d2, d3] }
  | _ => none }
def levyDividesRow : OpenClaim := { program := "ythopgonbndoidaagreat", sum := "e004777a62ddd734d5dcbd5ebee38bb707b3ff53fad09373c6d2722e8b569907", func := "drowner/drownerlaw08.LevyDivides", spec := "levyDivides", unfollowed := true, recurses := true, apart := false }
def LevyDividesSaid : Prop := levyDividesRow.holds Tryz.pinned (OpenSpec.ofChange levyDividesSpec)

/-- ITS FALSE NEIGHBOUR: 'it returns false'. Refute it at one input. -/
def levyDividesWrong : ChangeSpec := { name := "levyDivides", fn := fun _ => fun
  | [d1, d2, d3] => { results := [.lit (.bool false)], args := [d1, d2, d3] }
  | _ => none }
def LevyDividesWrongFalsely : Prop := levyDividesRow.holds Tryz.pinned (OpenSpec.ofChange levyDividesWrong)

/- THE SECOND FORM. 'bulk': how many values and letters a reading holds, each counted each time it is reached (what is shared counts as often as it is met; a slice's spare places count too). A statement '..UptoSaid' is the law's where the arguments, and the package variables that the reading takes, are together of bulk at most 1048576: NARROWER than '..Said'. Prove '..Said' where nothing that the law and all that it calls make is longer than what came in: it says more and counts as full. Else prove '..UptoSaid'. A law counts once. -/
mutual
def uptoBulk {H : Type} : DataW H → Nat
  | .lit (.string bytes) => bytes.length + 1
  | .lit _ => 1
  | .nil => 1
  | .ptr d => uptoBulk d + 1
  | .slice elems spare => uptoBulkAll elems + uptoBulkAll spare + 1
  | .agg parts => uptoBulkAll parts + 1
  | .iface _ d => uptoBulk d + 1
  | .map entries => uptoBulkEntries entries + 1
  | .held _ => 1
def uptoBulkAll {H : Type} : List (DataW H) → Nat
  | [] => 0
  | d :: r => uptoBulk d + uptoBulkAll r
def uptoBulkEntries {H : Type} : List (Lit × DataW H) → Nat
  | [] => 0
  | x :: r => uptoBulkEntry x + uptoBulkEntries r
def uptoBulkEntry {H : Type} : Lit × DataW H → Nat
  | (.string bytes, d) => bytes.length + uptoBulk d + 1
  | (_, d) => uptoBulk d + 1
 end
def uptoSmall : (H : Type) → List (DataW H) → Bool := fun _ ds => decide (uptoBulkAll ds ≤ 1048576)
def OpenSpec.upto (s : _root_.Go.ChangeSpec) : _root_.Go.OpenSpec := { _root_.Go.OpenSpec.ofChange s with cond := some uptoSmall }

/-- 'drownerlaw08.LevyPence', WHERE WHAT IT READS IS OF BULK AT MOST 1048576: true; the input reads as it did. -/
def levyPenceUptoRow : OpenClaim := { program := "ythopgonbndoidaagreat", sum := "e004777a62ddd734d5dcbd5ebee38bb707b3ff53fad09373c6d2722e8b569907", func := "drowner/drownerlaw08.LevyPence", spec := "levyPence", unfollowed := true, recurses := true, apart := false, narrowed := true }
def LevyPenceUptoSaid : Prop := levyPenceUptoRow.holds Tryz.pinned (OpenSpec.upto levyPenceSpec)

/-- 'drownerlaw08.LevyObjects', WHERE WHAT IT READS IS OF BULK AT MOST 1048576: true; the input reads as it did. -/
def levyObjectsUptoRow : OpenClaim := { program := "ythopgonbndoidaagreat", sum := "e004777a62ddd734d5dcbd5ebee38bb707b3ff53fad09373c6d2722e8b569907", func := "drowner/drownerlaw08.LevyObjects", spec := "levyObjects", unfollowed := true, recurses := true, apart := false, narrowed := true }
def LevyObjectsUptoSaid : Prop := levyObjectsUptoRow.holds Tryz.pinned (OpenSpec.upto levyObjectsSpec)

/-- 'drownerlaw08.LevyShares', WHERE WHAT IT READS IS OF BULK AT MOST 1048576: true; the input reads as it did. -/
def levySharesUptoRow : OpenClaim := { program := "ythopgonbndoidaagreat", sum := "e004777a62ddd734d5dcbd5ebee38bb707b3ff53fad09373c6d2722e8b569907", func := "drowner/drownerlaw08.LevyShares", spec := "levyShares", unfollowed := true, recurses := true, apart := false, narrowed := true }
def LevySharesUptoSaid : Prop := levySharesUptoRow.holds Tryz.pinned (OpenSpec.upto levySharesSpec)

/-- 'drownerlaw08.LevyDues', WHERE WHAT IT READS IS OF BULK AT MOST 1048576: true; the input reads as it did. -/
def levyDuesUptoRow : OpenClaim := { program := "ythopgonbndoidaagreat", sum := "e004777a62ddd734d5dcbd5ebee38bb707b3ff53fad09373c6d2722e8b569907", func := "drowner/drownerlaw08.LevyDues", spec := "levyDues", unfollowed := true, recurses := true, apart := false, narrowed := true }
def LevyDuesUptoSaid : Prop := levyDuesUptoRow.holds Tryz.pinned (OpenSpec.upto levyDuesSpec)

/-- 'drownerlaw08.LevyDivides', WHERE WHAT IT READS IS OF BULK AT MOST 1048576: true; the input reads as it did. -/
def levyDividesUptoRow : OpenClaim := { program := "ythopgonbndoidaagreat", sum := "e004777a62ddd734d5dcbd5ebee38bb707b3ff53fad09373c6d2722e8b569907", func := "drowner/drownerlaw08.LevyDivides", spec := "levyDivides", unfollowed := true, recurses := true, apart := false, narrowed := true }
def LevyDividesUptoSaid : Prop := levyDividesUptoRow.holds Tryz.pinned (OpenSpec.upto levyDividesSpec)

end Rows
end Go.Proofs.YthopgonbndoidaaGreat
