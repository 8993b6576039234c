/-
  No cell of these rows narrows 'for every input' (looked for: loops, veiled, ifaces, maps, wideKeys, modest, calm, conditions, laid).
  DERIVED. THE GIVEN ROWS OF THIS SEAT. 10 by the template 'for every input the law returns true; each argument reads behind the call as it read before'; 0 by the template 'total and deterministic' (their statements: YthopgonbndoidaaTotals.lean).
  GIVEN WITH THE SEED: the statements are not yours to turn. If you find one false, say at which input.
  Laid BY PROGRAM, IN A SANDBOX (cutbox-rows.mjs): the forced cells as the released guide's own fill.sh prints them over the translation 5b54b3a3c5930748… (all of the seat's roots in one cut). By AI agents, Wed Nov 11 2026. No macro, syntax, notation, axiom, sorry.
-/
import Derived.Test.YthopgonbndoidaaChecked
import GoSem.Claim
import GoSem.ClaimJoined
import GoSem.ClaimMapViews
import Derived.JoinedTies
import Derived.KernelRfl
namespace Go.Proofs.Ythopgonbndoidaa
/- THE CELL 'sum', in the pinned program and in every row, IS THE sha256 OF THE DUMP (.gsa) THAT YthopgonbndoidaaProg.lean LOADS. Nothing in Lean hashes anything: it is a label: what it is worth is what the hold of that sum in a sandbox is worth. -/
noncomputable def Try.pinned : Pinned := { name := "ythopgonbndoidaa", sum := "5b54b3a3c5930748567ba61ea100b7b5c8a305b815aed587093d1871c5c865ca", checked := Try.checked }
namespace Rows
def none {H : Type} : Left H := { results := [], args := [] }

/-- 'drownerlaw08.LevyWhole': WHATEVER THE INPUT: true; the input reads as it did. -/
def levyWholeSpec : ChangeSpec := { name := "levyWhole", fn := fun _ => fun
  | [d1, d2] => { results := [.lit (.bool true)], args := [d1, d2] }
  | _ => none }
def levyWholeRow : OpenClaim := { program := "ythopgonbndoidaa", sum := "5b54b3a3c5930748567ba61ea100b7b5c8a305b815aed587093d1871c5c865ca", func := "drowner/drownerlaw08.LevyWhole", spec := "levyWhole", unfollowed := true, recurses := true, apart := false }
def LevyWholeSaid : Prop := levyWholeRow.holds Try.pinned (OpenSpec.ofChange levyWholeSpec)

/-- ITS FALSE NEIGHBOUR: 'it returns false'. Refute it at one input. -/
def levyWholeWrong : ChangeSpec := { name := "levyWhole", fn := fun _ => fun
  | [d1, d2] => { results := [.lit (.bool false)], args := [d1, d2] }
  | _ => none }
def LevyWholeWrongFalsely : Prop := levyWholeRow.holds Try.pinned (OpenSpec.ofChange levyWholeWrong)

/-- 'drownerlaw08.LevyOrders': WHATEVER THE INPUT: true; the input reads as it did. -/
def levyOrdersSpec : ChangeSpec := { name := "levyOrders", fn := fun _ => fun
  | [d1, d2] => { results := [.lit (.bool true)], args := [d1, d2] }
  | _ => none }
def levyOrdersRow : OpenClaim := { program := "ythopgonbndoidaa", sum := "5b54b3a3c5930748567ba61ea100b7b5c8a305b815aed587093d1871c5c865ca", func := "drowner/drownerlaw08.LevyOrders", spec := "levyOrders", unfollowed := true, recurses := true, apart := false }
def LevyOrdersSaid : Prop := levyOrdersRow.holds Try.pinned (OpenSpec.ofChange levyOrdersSpec)

/-- ITS FALSE NEIGHBOUR: 'it returns false'. Refute it at one input. -/
def levyOrdersWrong : ChangeSpec := { name := "levyOrders", fn := fun _ => fun
  | [d1, d2] => { results := [.lit (.bool false)], args := [d1, d2] }
  | _ => none }
def LevyOrdersWrongFalsely : Prop := levyOrdersRow.holds Try.pinned (OpenSpec.ofChange levyOrdersWrong)

/-- 'drownerlaw08.LevyWeights': WHATEVER THE INPUT: true; the input reads as it did. -/
def levyWeightsSpec : ChangeSpec := { name := "levyWeights", fn := fun _ => fun
  | [d1, d2, d3, d4] => { results := [.lit (.bool true)], args := [d1, d2, d3, d4] }
  | _ => none }
def levyWeightsRow : OpenClaim := { program := "ythopgonbndoidaa", sum := "5b54b3a3c5930748567ba61ea100b7b5c8a305b815aed587093d1871c5c865ca", func := "drowner/drownerlaw08.LevyWeights", spec := "levyWeights", unfollowed := true, recurses := true, apart := false }
def LevyWeightsSaid : Prop := levyWeightsRow.holds Try.pinned (OpenSpec.ofChange levyWeightsSpec)

/-- ITS FALSE NEIGHBOUR: 'it returns false'. Refute it at one input. -/
def levyWeightsWrong : ChangeSpec := { name := "levyWeights", fn := fun _ => fun
  | [d1, d2, d3, d4] => { results := [.lit (.bool false)], args := [d1, d2, d3, d4] }
  | _ => none }
def LevyWeightsWrongFalsely : Prop := levyWeightsRow.holds Try.pinned (OpenSpec.ofChange levyWeightsWrong)

/-- 'drownerlaw08.LevyAlone': WHATEVER THE INPUT: true; the input reads as it did. -/
def levyAloneSpec : ChangeSpec := { name := "levyAlone", fn := fun _ => fun
  | [d1, d2] => { results := [.lit (.bool true)], args := [d1, d2] }
  | _ => none }
def levyAloneRow : OpenClaim := { program := "ythopgonbndoidaa", sum := "5b54b3a3c5930748567ba61ea100b7b5c8a305b815aed587093d1871c5c865ca", func := "drowner/drownerlaw08.LevyAlone", spec := "levyAlone", unfollowed := true, recurses := true, apart := false }
def LevyAloneSaid : Prop := levyAloneRow.holds Try.pinned (OpenSpec.ofChange levyAloneSpec)

/-- ITS FALSE NEIGHBOUR: 'it returns false'. Refute it at one input. -/
def levyAloneWrong : ChangeSpec := { name := "levyAlone", fn := fun _ => fun
  | [d1, d2] => { results := [.lit (.bool false)], args := [d1, d2] }
  | _ => none }
def LevyAloneWrongFalsely : Prop := levyAloneRow.holds Try.pinned (OpenSpec.ofChange levyAloneWrong)

/-- 'drownerlaw08.LevyChanges': WHATEVER THE INPUT: true; the input reads as it did. -/
def levyChangesSpec : ChangeSpec := { name := "levyChanges", fn := fun _ => fun
  | [d1, d2, d3, d4] => { results := [.lit (.bool true)], args := [d1, d2, d3, d4] }
  | _ => none }
def levyChangesRow : OpenClaim := { program := "ythopgonbndoidaa", sum := "5b54b3a3c5930748567ba61ea100b7b5c8a305b815aed587093d1871c5c865ca", func := "drowner/drownerlaw08.LevyChanges", spec := "levyChanges", unfollowed := true, recurses := true, apart := false }
def LevyChangesSaid : Prop := levyChangesRow.holds Try.pinned (OpenSpec.ofChange levyChangesSpec)

/-- ITS FALSE NEIGHBOUR: 'it returns false'. Refute it at one input. -/
def levyChangesWrong : ChangeSpec := { name := "levyChanges", fn := fun _ => fun
  | [d1, d2, d3, d4] => { results := [.lit (.bool false)], args := [d1, d2, d3, d4] }
  | _ => none }
def LevyChangesWrongFalsely : Prop := levyChangesRow.holds Try.pinned (OpenSpec.ofChange levyChangesWrong)

/-- 'drownerlaw08.LevyNobody': WHATEVER THE INPUT: true; the input reads as it did. -/
def levyNobodySpec : ChangeSpec := { name := "levyNobody", fn := fun _ => fun
  | [d1, d2, d3] => { results := [.lit (.bool true)], args := [d1, d2, d3] }
  | _ => none }
def levyNobodyRow : OpenClaim := { program := "ythopgonbndoidaa", sum := "5b54b3a3c5930748567ba61ea100b7b5c8a305b815aed587093d1871c5c865ca", func := "drowner/drownerlaw08.LevyNobody", spec := "levyNobody", unfollowed := true, recurses := true, apart := false }
def LevyNobodySaid : Prop := levyNobodyRow.holds Try.pinned (OpenSpec.ofChange levyNobodySpec)

/-- ITS FALSE NEIGHBOUR: 'it returns false'. Refute it at one input. -/
def levyNobodyWrong : ChangeSpec := { name := "levyNobody", fn := fun _ => fun
  | [d1, d2, d3] => { results := [.lit (.bool false)], args := [d1, d2, d3] }
  | _ => none }
def LevyNobodyWrongFalsely : Prop := levyNobodyRow.holds Try.pinned (OpenSpec.ofChange levyNobodyWrong)

/-- 'drownerlaw08.LevyMore': WHATEVER THE INPUT: true; the input reads as it did. -/
def levyMoreSpec : ChangeSpec := { name := "levyMore", fn := fun _ => fun
  | [d1, d2, d3, d4] => { results := [.lit (.bool true)], args := [d1, d2, d3, d4] }
  | _ => none }
def levyMoreRow : OpenClaim := { program := "ythopgonbndoidaa", sum := "5b54b3a3c5930748567ba61ea100b7b5c8a305b815aed587093d1871c5c865ca", func := "drowner/drownerlaw08.LevyMore", spec := "levyMore", unfollowed := true, recurses := true, apart := false }
def LevyMoreSaid : Prop := levyMoreRow.holds Try.pinned (OpenSpec.ofChange levyMoreSpec)

/-- ITS FALSE NEIGHBOUR: 'it returns false'. Refute it at one input. -/
def levyMoreWrong : ChangeSpec := { name := "levyMore", fn := fun _ => fun
  | [d1, d2, d3, d4] => { results := [.lit (.bool false)], args := [d1, d2, d3, d4] }
  | _ => none }
def LevyMoreWrongFalsely : Prop := levyMoreRow.holds Try.pinned (OpenSpec.ofChange levyMoreWrong)

/-- 'drownerlaw08.LevyPurse': WHATEVER THE INPUT: true; the input reads as it did. -/
def levyPurseSpec : ChangeSpec := { name := "levyPurse", fn := fun _ => fun
  | [d1, d2, d3] => { results := [.lit (.bool true)], args := [d1, d2, d3] }
  | _ => none }
def levyPurseRow : OpenClaim := { program := "ythopgonbndoidaa", sum := "5b54b3a3c5930748567ba61ea100b7b5c8a305b815aed587093d1871c5c865ca", func := "drowner/drownerlaw08.LevyPurse", spec := "levyPurse", unfollowed := true, recurses := true, apart := false }
def LevyPurseSaid : Prop := levyPurseRow.holds Try.pinned (OpenSpec.ofChange levyPurseSpec)

/-- ITS FALSE NEIGHBOUR: 'it returns false'. Refute it at one input. -/
def levyPurseWrong : ChangeSpec := { name := "levyPurse", fn := fun _ => fun
  | [d1, d2, d3] => { results := [.lit (.bool false)], args := [d1, d2, d3] }
  | _ => none }
def LevyPurseWrongFalsely : Prop := levyPurseRow.holds Try.pinned (OpenSpec.ofChange levyPurseWrong)

/-- 'drownerlaw08.LevyChecks': WHATEVER THE INPUT: true; the input reads as it did. -/
def levyChecksSpec : ChangeSpec := { name := "levyChecks", fn := fun _ => fun
  | [d1, d2, d3] => { results := [.lit (.bool true)], args := [d1, d2, d3] }
  | _ => none }
def levyChecksRow : OpenClaim := { program := "ythopgonbndoidaa", sum := "5b54b3a3c5930748567ba61ea100b7b5c8a305b815aed587093d1871c5c865ca", func := "drowner/drownerlaw08.LevyChecks", spec := "levyChecks", unfollowed := true, recurses := true, apart := false }
def LevyChecksSaid : Prop := levyChecksRow.holds Try.pinned (OpenSpec.ofChange levyChecksSpec)

/-- ITS FALSE NEIGHBOUR: 'it returns false'. Refute it at one input. -/
def levyChecksWrong : ChangeSpec := { name := "levyChecks", fn := fun _ => fun
  | [d1, d2, d3] => { results := [.lit (.bool false)], args := [d1, d2, d3] }
  | _ => none }
def LevyChecksWrongFalsely : Prop := levyChecksRow.holds Try.pinned (OpenSpec.ofChange levyChecksWrong)

/-- 'drownerlaw08.LevyDivisions': WHATEVER THE INPUT: true; the input reads as it did. -/
def levyDivisionsSpec : ChangeSpec := { name := "levyDivisions", fn := fun _ => fun
  | [d1, d2, d3, d4] => { results := [.lit (.bool true)], args := [d1, d2, d3, d4] }
  | _ => none }
def levyDivisionsRow : OpenClaim := { program := "ythopgonbndoidaa", sum := "5b54b3a3c5930748567ba61ea100b7b5c8a305b815aed587093d1871c5c865ca", func := "drowner/drownerlaw08.LevyDivisions", spec := "levyDivisions", unfollowed := true, recurses := true, apart := false }
def LevyDivisionsSaid : Prop := levyDivisionsRow.holds Try.pinned (OpenSpec.ofChange levyDivisionsSpec)

/-- ITS FALSE NEIGHBOUR: 'it returns false'. Refute it at one input. -/
def levyDivisionsWrong : ChangeSpec := { name := "levyDivisions", fn := fun _ => fun
  | [d1, d2, d3, d4] => { results := [.lit (.bool false)], args := [d1, d2, d3, d4] }
  | _ => none }
def LevyDivisionsWrongFalsely : Prop := levyDivisionsRow.holds Try.pinned (OpenSpec.ofChange levyDivisionsWrong)

/- THE SECOND FORM. 'bulk': how many values and letters a reading holds, each counted each time it is reached (what is shared counts as often as it is met; a slice's spare places count too). A statement '..UptoSaid' is the law's where the arguments, and the package variables that the reading takes, are together of bulk at most 1048576: NARROWER than '..Said'. Prove '..Said' where nothing that the law and all that it calls make is longer than what came in: it says more and counts as full. Else prove '..UptoSaid'. A law counts once. -/
mutual
def uptoBulk {H : Type} : DataW H → Nat
  | .lit (.string bytes) => bytes.length + 1
  | .lit _ => 1
  | .nil => 1
  | .ptr d => uptoBulk d + 1
  | .slice elems spare => uptoBulkAll elems + uptoBulkAll spare + 1
  | .agg parts => uptoBulkAll parts + 1
  | .iface _ d => uptoBulk d + 1
  | .map entries => uptoBulkEntries entries + 1
  | .held _ => 1
def uptoBulkAll {H : Type} : List (DataW H) → Nat
  | [] => 0
  | d :: r => uptoBulk d + uptoBulkAll r
def uptoBulkEntries {H : Type} : List (Lit × DataW H) → Nat
  | [] => 0
  | x :: r => uptoBulkEntry x + uptoBulkEntries r
def uptoBulkEntry {H : Type} : Lit × DataW H → Nat
  | (.string bytes, d) => bytes.length + uptoBulk d + 1
  | (_, d) => uptoBulk d + 1
 end
def uptoSmall : (H : Type) → List (DataW H) → Bool := fun _ ds => decide (uptoBulkAll ds ≤ 1048576)
def OpenSpec.upto (s : _root_.Go.ChangeSpec) : _root_.Go.OpenSpec := { _root_.Go.OpenSpec.ofChange s with cond := some uptoSmall }

/-- 'drownerlaw08.LevyWhole', WHERE WHAT IT READS IS OF BULK AT MOST 1048576: true; the input reads as it did. -/
def levyWholeUptoRow : OpenClaim := { program := "ythopgonbndoidaa", sum := "5b54b3a3c5930748567ba61ea100b7b5c8a305b815aed587093d1871c5c865ca", func := "drowner/drownerlaw08.LevyWhole", spec := "levyWhole", unfollowed := true, recurses := true, apart := false, narrowed := true }
def LevyWholeUptoSaid : Prop := levyWholeUptoRow.holds Try.pinned (OpenSpec.upto levyWholeSpec)

/-- 'drownerlaw08.LevyOrders', WHERE WHAT IT READS IS OF BULK AT MOST 1048576: true; the input reads as it did. -/
def levyOrdersUptoRow : OpenClaim := { program := "ythopgonbndoidaa", sum := "5b54b3a3c5930748567ba61ea100b7b5c8a305b815aed587093d1871c5c865ca", func := "drowner/drownerlaw08.LevyOrders", spec := "levyOrders", unfollowed := true, recurses := true, apart := false, narrowed := true }
def LevyOrdersUptoSaid : Prop := levyOrdersUptoRow.holds Try.pinned (OpenSpec.upto levyOrdersSpec)

/-- 'drownerlaw08.LevyWeights', WHERE WHAT IT READS IS OF BULK AT MOST 1048576: true; the input reads as it did. -/
def levyWeightsUptoRow : OpenClaim := { program := "ythopgonbndoidaa", sum := "5b54b3a3c5930748567ba61ea100b7b5c8a305b815aed587093d1871c5c865ca", func := "drowner/drownerlaw08.LevyWeights", spec := "levyWeights", unfollowed := true, recurses := true, apart := false, narrowed := true }
def LevyWeightsUptoSaid : Prop := levyWeightsUptoRow.holds Try.pinned (OpenSpec.upto levyWeightsSpec)

/-- 'drownerlaw08.LevyAlone', WHERE WHAT IT READS IS OF BULK AT MOST 1048576: true; the input reads as it did. -/
def levyAloneUptoRow : OpenClaim := { program := "ythopgonbndoidaa", sum := "5b54b3a3c5930748567ba61ea100b7b5c8a305b815aed587093d1871c5c865ca", func := "drowner/drownerlaw08.LevyAlone", spec := "levyAlone", unfollowed := true, recurses := true, apart := false, narrowed := true }
def LevyAloneUptoSaid : Prop := levyAloneUptoRow.holds Try.pinned (OpenSpec.upto levyAloneSpec)

/-- 'drownerlaw08.LevyChanges', WHERE WHAT IT READS IS OF BULK AT MOST 1048576: true; the input reads as it did. -/
def levyChangesUptoRow : OpenClaim := { program := "ythopgonbndoidaa", sum := "5b54b3a3c5930748567ba61ea100b7b5c8a305b815aed587093d1871c5c865ca", func := "drowner/drownerlaw08.LevyChanges", spec := "levyChanges", unfollowed := true, recurses := true, apart := false, narrowed := true }
def LevyChangesUptoSaid : Prop := levyChangesUptoRow.holds Try.pinned (OpenSpec.upto levyChangesSpec)

/-- 'drownerlaw08.LevyNobody', WHERE WHAT IT READS IS OF BULK AT MOST 1048576: true; the input reads as it did. -/
def levyNobodyUptoRow : OpenClaim := { program := "ythopgonbndoidaa", sum := "5b54b3a3c5930748567ba61ea100b7b5c8a305b815aed587093d1871c5c865ca", func := "drowner/drownerlaw08.LevyNobody", spec := "levyNobody", unfollowed := true, recurses := true, apart := false, narrowed := true }
def LevyNobodyUptoSaid : Prop := levyNobodyUptoRow.holds Try.pinned (OpenSpec.upto levyNobodySpec)

/-- 'drownerlaw08.LevyMore', WHERE WHAT IT READS IS OF BULK AT MOST 1048576: true; the input reads as it did. -/
def levyMoreUptoRow : OpenClaim := { program := "ythopgonbndoidaa", sum := "5b54b3a3c5930748567ba61ea100b7b5c8a305b815aed587093d1871c5c865ca", func := "drowner/drownerlaw08.LevyMore", spec := "levyMore", unfollowed := true, recurses := true, apart := false, narrowed := true }
def LevyMoreUptoSaid : Prop := levyMoreUptoRow.holds Try.pinned (OpenSpec.upto levyMoreSpec)

/-- 'drownerlaw08.LevyPurse', WHERE WHAT IT READS IS OF BULK AT MOST 1048576: true; the input reads as it did. -/
def levyPurseUptoRow : OpenClaim := { program := "ythopgonbndoidaa", sum := "5b54b3a3c5930748567ba61ea100b7b5c8a305b815aed587093d1871c5c865ca", func := "drowner/drownerlaw08.LevyPurse", spec := "levyPurse", unfollowed := true, recurses := true, apart := false, narrowed := true }
def LevyPurseUptoSaid : Prop := levyPurseUptoRow.holds Try.pinned (OpenSpec.upto levyPurseSpec)

/-- 'drownerlaw08.LevyChecks', WHERE WHAT IT READS IS OF BULK AT MOST 1048576: true; the input reads as it did. -/
def levyChecksUptoRow : OpenClaim := { program := "ythopgonbndoidaa", sum := "5b54b3a3c5930748567ba61ea100b7b5c8a305b815aed587093d1871c5c865ca", func := "drowner/drownerlaw08.LevyChecks", spec := "levyChecks", unfollowed := true, recurses := true, apart := false, narrowed := true }
def LevyChecksUptoSaid : Prop := levyChecksUptoRow.holds Try.pinned (OpenSpec.upto levyChecksSpec)

/-- 'drownerlaw08.LevyDivisions', WHERE WHAT IT READS IS OF BULK AT MOST 1048576: true; the input reads as it did. -/
def levyDivisionsUptoRow : OpenClaim := { program := "ythopgonbndoidaa", sum := "5b54b3a3c5930748567ba61ea100b7b5c8a305b815aed587093d1871c5c865ca", func := "drowner/drownerlaw08.LevyDivisions", spec := "levyDivisions", unfollowed := true, recurses := true, apart := false, narrowed := true }
def LevyDivisionsUptoSaid : Prop := levyDivisionsUptoRow.holds Try.pinned (OpenSpec.upto levyDivisionsSpec)

end Rows
end Go.Proofs.Ythopgonbndoidaa
