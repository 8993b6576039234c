/-
  NARROWER THAN 'FOR EVERY INPUT', by the rows' own cells (each row's printed sentence says how): TurnMeets: laid · TurnTexts: laid · TurnResidues: laid · TurnReadsBack: laid · TurnParts: laid · TurnSame: laid · TurnLists: laid · TurnPeriods: laid · TurnMinutes: laid · TurnNext: laid · TurnAgain: laid · TurnWhole: laid.
  DERIVED. THE GIVEN ROWS OF THIS SEAT. 12 by the template 'for every input the law returns true; each argument reads behind the call as it read before'; 0 by the template 'total and deterministic' (their statements: YtejmmfjabmmihaaDoorTotals.lean).
  GIVEN WITH THE SEED: the statements are not yours to turn. If you find one false, say at which input.
  Laid BY PROGRAM, IN A SANDBOX (cutbox-rows.mjs): the forced cells as the released guide's own fill.sh prints them over the translation 99f7c7da714cb26b… (all of the seat's roots in one cut). By AI agents, Wed Nov 11 2026. No macro, syntax, notation, axiom, sorry.
-/
import Derived.Test.YtejmmfjabmmihaaDoorChecked
import GoSem.Claim
import GoSem.ClaimJoined
import GoSem.ClaimMapViews
import Derived.JoinedTies
import Derived.KernelRfl
namespace Go.Proofs.YtejmmfjabmmihaaDoor
/- THE CELL 'sum', in the pinned program and in every row, IS THE sha256 OF THE DUMP (.gsa) THAT YtejmmfjabmmihaaDoorProg.lean LOADS. Nothing in Lean hashes anything: it is a label: what it is worth is what the hold of that sum in a sandbox is worth. -/
noncomputable def Tryd.pinned : Pinned := { name := "ytejmmfjabmmihaadoor", sum := "99f7c7da714cb26b17d6b5366b96560be6f771cb6afa0400db1c0eb488c626a4", checked := Tryd.checked }
namespace Rows
def none {H : Type} : Left H := { results := [], args := [] }

/- WHAT THE LISTED PACKAGE-LEVEL VARIABLES READ AS WHEN THE CALL BEGINS. Each datum BY PROGRAM (the guide's laid-datum.mjs) off the statement by which the dump's own 'gosem.cut.vars' lays the variable. In a bare row this is a premise. The card (YtejmmfjabmmihaaDoorCards.lean) ties it to the program's text. -/
def laid_math_bits_deBruijn32tab {H : Type} : DataW H := .agg [.lit (.int .u8 0), .lit (.int .u8 1), .lit (.int .u8 28), .lit (.int .u8 2), .lit (.int .u8 29), .lit (.int .u8 14), .lit (.int .u8 24), .lit (.int .u8 3), .lit (.int .u8 30), .lit (.int .u8 22), .lit (.int .u8 20), .lit (.int .u8 15), .lit (.int .u8 25), .lit (.int .u8 17), .lit (.int .u8 4), .lit (.int .u8 8), .lit (.int .u8 31), .lit (.int .u8 27), .lit (.int .u8 13), .lit (.int .u8 23), .lit (.int .u8 21), .lit (.int .u8 19), .lit (.int .u8 16), .lit (.int .u8 7), .lit (.int .u8 26), .lit (.int .u8 12), .lit (.int .u8 18), .lit (.int .u8 6), .lit (.int .u8 11), .lit (.int .u8 5), .lit (.int .u8 10), .lit (.int .u8 9)]
def laid_math_bits_deBruijn64tab {H : Type} : DataW H := .agg [.lit (.int .u8 0), .lit (.int .u8 1), .lit (.int .u8 56), .lit (.int .u8 2), .lit (.int .u8 57), .lit (.int .u8 49), .lit (.int .u8 28), .lit (.int .u8 3), .lit (.int .u8 61), .lit (.int .u8 58), .lit (.int .u8 42), .lit (.int .u8 50), .lit (.int .u8 38), .lit (.int .u8 29), .lit (.int .u8 17), .lit (.int .u8 4), .lit (.int .u8 62), .lit (.int .u8 47), .lit (.int .u8 59), .lit (.int .u8 36), .lit (.int .u8 45), .lit (.int .u8 43), .lit (.int .u8 51), .lit (.int .u8 22), .lit (.int .u8 53), .lit (.int .u8 39), .lit (.int .u8 33), .lit (.int .u8 30), .lit (.int .u8 24), .lit (.int .u8 18), .lit (.int .u8 12), .lit (.int .u8 5), .lit (.int .u8 63), .lit (.int .u8 55), .lit (.int .u8 48), .lit (.int .u8 27), .lit (.int .u8 60), .lit (.int .u8 41), .lit (.int .u8 37), .lit (.int .u8 16), .lit (.int .u8 46), .lit (.int .u8 35), .lit (.int .u8 44), .lit (.int .u8 21), .lit (.int .u8 52), .lit (.int .u8 32), .lit (.int .u8 23), .lit (.int .u8 11), .lit (.int .u8 54), .lit (.int .u8 26), .lit (.int .u8 40), .lit (.int .u8 15), .lit (.int .u8 34), .lit (.int .u8 20), .lit (.int .u8 31), .lit (.int .u8 10), .lit (.int .u8 25), .lit (.int .u8 14), .lit (.int .u8 19), .lit (.int .u8 9), .lit (.int .u8 13), .lit (.int .u8 8), .lit (.int .u8 7), .lit (.int .u8 6)]
def laid_internal_strconv_uint64pow10 {H : Type} : DataW H := .agg [.lit (.int .u64 1), .lit (.int .u64 10), .lit (.int .u64 100), .lit (.int .u64 1000), .lit (.int .u64 10000), .lit (.int .u64 100000), .lit (.int .u64 1000000), .lit (.int .u64 10000000), .lit (.int .u64 100000000), .lit (.int .u64 1000000000), .lit (.int .u64 10000000000), .lit (.int .u64 100000000000), .lit (.int .u64 1000000000000), .lit (.int .u64 10000000000000), .lit (.int .u64 100000000000000), .lit (.int .u64 1000000000000000), .lit (.int .u64 10000000000000000), .lit (.int .u64 100000000000000000), .lit (.int .u64 1000000000000000000), .lit (.int .u64 10000000000000000000)]

/-- 'drownerlaw01.TurnMeets': WHATEVER THE INPUT: true; the input reads as it did. -/
def turnMeetsSpec : ChangeSpec := { name := "turnMeets", fn := fun _ => fun
  | [d1, d2] => { results := [.lit (.bool true)], args := [d1, d2] }
  | _ => none }
def turnMeetsRow : OpenClaim := { program := "ytejmmfjabmmihaadoor", sum := "99f7c7da714cb26b17d6b5366b96560be6f771cb6afa0400db1c0eb488c626a4", func := "drowner/drownerlaw01.TurnMeets", spec := "turnMeets", inPlace := ["internal/abi.NoEscape"], unfollowed := true, recurses := true, named := ["internal/strconv.uint64pow10", "math/bits.deBruijn32tab", "math/bits.deBruijn64tab"], apart := false, laid := [("math/bits.deBruijn32tab", laid_math_bits_deBruijn32tab), ("math/bits.deBruijn64tab", laid_math_bits_deBruijn64tab), ("internal/strconv.uint64pow10", laid_internal_strconv_uint64pow10)] }
def TurnMeetsSaid : Prop := turnMeetsRow.holds Tryd.pinned (OpenSpec.ofChange turnMeetsSpec)

/-- ITS FALSE NEIGHBOUR: 'it returns false'. Refute it at one input. -/
def turnMeetsWrong : ChangeSpec := { name := "turnMeets", fn := fun _ => fun
  | [d1, d2] => { results := [.lit (.bool false)], args := [d1, d2] }
  | _ => none }
def TurnMeetsWrongFalsely : Prop := turnMeetsRow.holds Tryd.pinned (OpenSpec.ofChange turnMeetsWrong)

/-- 'drownerlaw01.TurnTexts': WHATEVER THE INPUT: true; the input reads as it did. -/
def turnTextsSpec : ChangeSpec := { name := "turnTexts", fn := fun _ => fun
  | [d1, d2] => { results := [.lit (.bool true)], args := [d1, d2] }
  | _ => none }
def turnTextsRow : OpenClaim := { program := "ytejmmfjabmmihaadoor", sum := "99f7c7da714cb26b17d6b5366b96560be6f771cb6afa0400db1c0eb488c626a4", func := "drowner/drownerlaw01.TurnTexts", spec := "turnTexts", inPlace := ["internal/abi.NoEscape"], unfollowed := true, recurses := true, named := ["internal/strconv.uint64pow10", "math/bits.deBruijn32tab", "math/bits.deBruijn64tab"], apart := false, laid := [("math/bits.deBruijn32tab", laid_math_bits_deBruijn32tab), ("math/bits.deBruijn64tab", laid_math_bits_deBruijn64tab), ("internal/strconv.uint64pow10", laid_internal_strconv_uint64pow10)] }
def TurnTextsSaid : Prop := turnTextsRow.holds Tryd.pinned (OpenSpec.ofChange turnTextsSpec)

/-- ITS FALSE NEIGHBOUR: 'it returns false'. Refute it at one input. -/
def turnTextsWrong : ChangeSpec := { name := "turnTexts", fn := fun _ => fun
  | [d1, d2] => { results := [.lit (.bool false)], args := [d1, d2] }
  | _ => none }
def TurnTextsWrongFalsely : Prop := turnTextsRow.holds Tryd.pinned (OpenSpec.ofChange turnTextsWrong)

/-- 'drownerlaw01.TurnResidues': WHATEVER THE INPUT: true; the input reads as it did. -/
def turnResiduesSpec : ChangeSpec := { name := "turnResidues", fn := fun _ => fun
  | [d1, d2, d3, d4] => { results := [.lit (.bool true)], args := [d1, d2, d3, d4] }
  | _ => none }
def turnResiduesRow : OpenClaim := { program := "ytejmmfjabmmihaadoor", sum := "99f7c7da714cb26b17d6b5366b96560be6f771cb6afa0400db1c0eb488c626a4", func := "drowner/drownerlaw01.TurnResidues", spec := "turnResidues", inPlace := ["internal/abi.NoEscape"], unfollowed := true, recurses := true, named := ["internal/strconv.uint64pow10", "math/bits.deBruijn32tab", "math/bits.deBruijn64tab"], apart := false, laid := [("math/bits.deBruijn32tab", laid_math_bits_deBruijn32tab), ("math/bits.deBruijn64tab", laid_math_bits_deBruijn64tab), ("internal/strconv.uint64pow10", laid_internal_strconv_uint64pow10)] }
def TurnResiduesSaid : Prop := turnResiduesRow.holds Tryd.pinned (OpenSpec.ofChange turnResiduesSpec)

/-- ITS FALSE NEIGHBOUR: 'it returns false'. Refute it at one input. -/
def turnResiduesWrong : ChangeSpec := { name := "turnResidues", fn := fun _ => fun
  | [d1, d2, d3, d4] => { results := [.lit (.bool false)], args := [d1, d2, d3, d4] }
  | _ => none }
def TurnResiduesWrongFalsely : Prop := turnResiduesRow.holds Tryd.pinned (OpenSpec.ofChange turnResiduesWrong)

/-- 'drownerlaw01.TurnReadsBack': WHATEVER THE INPUT: true; the input reads as it did. -/
def turnReadsBackSpec : ChangeSpec := { name := "turnReadsBack", fn := fun _ => fun
  | [d1, d2] => { results := [.lit (.bool true)], args := [d1, d2] }
  | _ => none }
def turnReadsBackRow : OpenClaim := { program := "ytejmmfjabmmihaadoor", sum := "99f7c7da714cb26b17d6b5366b96560be6f771cb6afa0400db1c0eb488c626a4", func := "drowner/drownerlaw01.TurnReadsBack", spec := "turnReadsBack", inPlace := ["internal/abi.NoEscape"], unfollowed := true, recurses := true, named := ["internal/strconv.uint64pow10", "math/bits.deBruijn32tab", "math/bits.deBruijn64tab"], apart := false, laid := [("math/bits.deBruijn32tab", laid_math_bits_deBruijn32tab), ("math/bits.deBruijn64tab", laid_math_bits_deBruijn64tab), ("internal/strconv.uint64pow10", laid_internal_strconv_uint64pow10)] }
def TurnReadsBackSaid : Prop := turnReadsBackRow.holds Tryd.pinned (OpenSpec.ofChange turnReadsBackSpec)

/-- ITS FALSE NEIGHBOUR: 'it returns false'. Refute it at one input. -/
def turnReadsBackWrong : ChangeSpec := { name := "turnReadsBack", fn := fun _ => fun
  | [d1, d2] => { results := [.lit (.bool false)], args := [d1, d2] }
  | _ => none }
def TurnReadsBackWrongFalsely : Prop := turnReadsBackRow.holds Tryd.pinned (OpenSpec.ofChange turnReadsBackWrong)

/-- 'drownerlaw01.TurnParts': WHATEVER THE INPUT: true; the input reads as it did. -/
def turnPartsSpec : ChangeSpec := { name := "turnParts", fn := fun _ => fun
  | [d1, d2, d3, d4, d5] => { results := [.lit (.bool true)], args := [d1, d2, d3, d4, d5] }
  | _ => none }
def turnPartsRow : OpenClaim := { program := "ytejmmfjabmmihaadoor", sum := "99f7c7da714cb26b17d6b5366b96560be6f771cb6afa0400db1c0eb488c626a4", func := "drowner/drownerlaw01.TurnParts", spec := "turnParts", inPlace := ["internal/abi.NoEscape"], unfollowed := true, recurses := true, named := ["internal/strconv.uint64pow10", "math/bits.deBruijn32tab", "math/bits.deBruijn64tab"], apart := false, laid := [("math/bits.deBruijn32tab", laid_math_bits_deBruijn32tab), ("math/bits.deBruijn64tab", laid_math_bits_deBruijn64tab), ("internal/strconv.uint64pow10", laid_internal_strconv_uint64pow10)] }
def TurnPartsSaid : Prop := turnPartsRow.holds Tryd.pinned (OpenSpec.ofChange turnPartsSpec)

/-- ITS FALSE NEIGHBOUR: 'it returns false'. Refute it at one input. -/
def turnPartsWrong : ChangeSpec := { name := "turnParts", fn := fun _ => fun
  | [d1, d2, d3, d4, d5] => { results := [.lit (.bool false)], args := [d1, d2, d3, d4, d5] }
  | _ => none }
def TurnPartsWrongFalsely : Prop := turnPartsRow.holds Tryd.pinned (OpenSpec.ofChange turnPartsWrong)

/-- 'drownerlaw01.TurnSame': WHATEVER THE INPUT: true; the input reads as it did. -/
def turnSameSpec : ChangeSpec := { name := "turnSame", fn := fun _ => fun
  | [d1, d2] => { results := [.lit (.bool true)], args := [d1, d2] }
  | _ => none }
def turnSameRow : OpenClaim := { program := "ytejmmfjabmmihaadoor", sum := "99f7c7da714cb26b17d6b5366b96560be6f771cb6afa0400db1c0eb488c626a4", func := "drowner/drownerlaw01.TurnSame", spec := "turnSame", inPlace := ["internal/abi.NoEscape"], unfollowed := true, recurses := true, named := ["internal/strconv.uint64pow10", "math/bits.deBruijn32tab", "math/bits.deBruijn64tab"], apart := false, laid := [("math/bits.deBruijn32tab", laid_math_bits_deBruijn32tab), ("math/bits.deBruijn64tab", laid_math_bits_deBruijn64tab), ("internal/strconv.uint64pow10", laid_internal_strconv_uint64pow10)] }
def TurnSameSaid : Prop := turnSameRow.holds Tryd.pinned (OpenSpec.ofChange turnSameSpec)

/-- ITS FALSE NEIGHBOUR: 'it returns false'. Refute it at one input. -/
def turnSameWrong : ChangeSpec := { name := "turnSame", fn := fun _ => fun
  | [d1, d2] => { results := [.lit (.bool false)], args := [d1, d2] }
  | _ => none }
def TurnSameWrongFalsely : Prop := turnSameRow.holds Tryd.pinned (OpenSpec.ofChange turnSameWrong)

/-- 'drownerlaw01.TurnLists': WHATEVER THE INPUT: true; the input reads as it did. -/
def turnListsSpec : ChangeSpec := { name := "turnLists", fn := fun _ => fun
  | [d1, d2] => { results := [.lit (.bool true)], args := [d1, d2] }
  | _ => none }
def turnListsRow : OpenClaim := { program := "ytejmmfjabmmihaadoor", sum := "99f7c7da714cb26b17d6b5366b96560be6f771cb6afa0400db1c0eb488c626a4", func := "drowner/drownerlaw01.TurnLists", spec := "turnLists", inPlace := ["internal/abi.NoEscape"], unfollowed := true, recurses := true, named := ["internal/strconv.uint64pow10", "math/bits.deBruijn32tab", "math/bits.deBruijn64tab"], apart := false, laid := [("math/bits.deBruijn32tab", laid_math_bits_deBruijn32tab), ("math/bits.deBruijn64tab", laid_math_bits_deBruijn64tab), ("internal/strconv.uint64pow10", laid_internal_strconv_uint64pow10)] }
def TurnListsSaid : Prop := turnListsRow.holds Tryd.pinned (OpenSpec.ofChange turnListsSpec)

/-- ITS FALSE NEIGHBOUR: 'it returns false'. Refute it at one input. -/
def turnListsWrong : ChangeSpec := { name := "turnLists", fn := fun _ => fun
  | [d1, d2] => { results := [.lit (.bool false)], args := [d1, d2] }
  | _ => none }
def TurnListsWrongFalsely : Prop := turnListsRow.holds Tryd.pinned (OpenSpec.ofChange turnListsWrong)

/-- 'drownerlaw01.TurnPeriods': WHATEVER THE INPUT: true; the input reads as it did. -/
def turnPeriodsSpec : ChangeSpec := { name := "turnPeriods", fn := fun _ => fun
  | [d] => { results := [.lit (.bool true)], args := [d] }
  | _ => none }
def turnPeriodsRow : OpenClaim := { program := "ytejmmfjabmmihaadoor", sum := "99f7c7da714cb26b17d6b5366b96560be6f771cb6afa0400db1c0eb488c626a4", func := "drowner/drownerlaw01.TurnPeriods", spec := "turnPeriods", inPlace := ["internal/abi.NoEscape"], unfollowed := true, recurses := true, named := ["internal/strconv.uint64pow10", "math/bits.deBruijn32tab", "math/bits.deBruijn64tab"], apart := false, laid := [("math/bits.deBruijn32tab", laid_math_bits_deBruijn32tab), ("math/bits.deBruijn64tab", laid_math_bits_deBruijn64tab), ("internal/strconv.uint64pow10", laid_internal_strconv_uint64pow10)] }
def TurnPeriodsSaid : Prop := turnPeriodsRow.holds Tryd.pinned (OpenSpec.ofChange turnPeriodsSpec)

/-- ITS FALSE NEIGHBOUR: 'it returns false'. Refute it at one input. -/
def turnPeriodsWrong : ChangeSpec := { name := "turnPeriods", fn := fun _ => fun
  | [d] => { results := [.lit (.bool false)], args := [d] }
  | _ => none }
def TurnPeriodsWrongFalsely : Prop := turnPeriodsRow.holds Tryd.pinned (OpenSpec.ofChange turnPeriodsWrong)

/-- 'drownerlaw01.TurnMinutes': WHATEVER THE INPUT: true; the input reads as it did. -/
def turnMinutesSpec : ChangeSpec := { name := "turnMinutes", fn := fun _ => fun
  | [d1, d2, d3] => { results := [.lit (.bool true)], args := [d1, d2, d3] }
  | _ => none }
def turnMinutesRow : OpenClaim := { program := "ytejmmfjabmmihaadoor", sum := "99f7c7da714cb26b17d6b5366b96560be6f771cb6afa0400db1c0eb488c626a4", func := "drowner/drownerlaw01.TurnMinutes", spec := "turnMinutes", inPlace := ["internal/abi.NoEscape"], unfollowed := true, recurses := true, named := ["internal/strconv.uint64pow10", "math/bits.deBruijn32tab", "math/bits.deBruijn64tab"], apart := false, laid := [("math/bits.deBruijn32tab", laid_math_bits_deBruijn32tab), ("math/bits.deBruijn64tab", laid_math_bits_deBruijn64tab), ("internal/strconv.uint64pow10", laid_internal_strconv_uint64pow10)] }
def TurnMinutesSaid : Prop := turnMinutesRow.holds Tryd.pinned (OpenSpec.ofChange turnMinutesSpec)

/-- ITS FALSE NEIGHBOUR: 'it returns false'. Refute it at one input. -/
def turnMinutesWrong : ChangeSpec := { name := "turnMinutes", fn := fun _ => fun
  | [d1, d2, d3] => { results := [.lit (.bool false)], args := [d1, d2, d3] }
  | _ => none }
def TurnMinutesWrongFalsely : Prop := turnMinutesRow.holds Tryd.pinned (OpenSpec.ofChange turnMinutesWrong)

/-- 'drownerlaw01.TurnNext': WHATEVER THE INPUT: true; the input reads as it did. -/
def turnNextSpec : ChangeSpec := { name := "turnNext", fn := fun _ => fun
  | [d1, d2, d3] => { results := [.lit (.bool true)], args := [d1, d2, d3] }
  | _ => none }
def turnNextRow : OpenClaim := { program := "ytejmmfjabmmihaadoor", sum := "99f7c7da714cb26b17d6b5366b96560be6f771cb6afa0400db1c0eb488c626a4", func := "drowner/drownerlaw01.TurnNext", spec := "turnNext", inPlace := ["internal/abi.NoEscape"], unfollowed := true, recurses := true, named := ["internal/strconv.uint64pow10", "math/bits.deBruijn32tab", "math/bits.deBruijn64tab"], apart := false, laid := [("math/bits.deBruijn32tab", laid_math_bits_deBruijn32tab), ("math/bits.deBruijn64tab", laid_math_bits_deBruijn64tab), ("internal/strconv.uint64pow10", laid_internal_strconv_uint64pow10)] }
def TurnNextSaid : Prop := turnNextRow.holds Tryd.pinned (OpenSpec.ofChange turnNextSpec)

/-- ITS FALSE NEIGHBOUR: 'it returns false'. Refute it at one input. -/
def turnNextWrong : ChangeSpec := { name := "turnNext", fn := fun _ => fun
  | [d1, d2, d3] => { results := [.lit (.bool false)], args := [d1, d2, d3] }
  | _ => none }
def TurnNextWrongFalsely : Prop := turnNextRow.holds Tryd.pinned (OpenSpec.ofChange turnNextWrong)

/-- 'drownerlaw01.TurnAgain': WHATEVER THE INPUT: true; the input reads as it did. -/
def turnAgainSpec : ChangeSpec := { name := "turnAgain", fn := fun _ => fun
  | [d1, d2] => { results := [.lit (.bool true)], args := [d1, d2] }
  | _ => none }
def turnAgainRow : OpenClaim := { program := "ytejmmfjabmmihaadoor", sum := "99f7c7da714cb26b17d6b5366b96560be6f771cb6afa0400db1c0eb488c626a4", func := "drowner/drownerlaw01.TurnAgain", spec := "turnAgain", inPlace := ["internal/abi.NoEscape"], unfollowed := true, recurses := true, named := ["internal/strconv.uint64pow10", "math/bits.deBruijn32tab", "math/bits.deBruijn64tab"], apart := false, laid := [("math/bits.deBruijn32tab", laid_math_bits_deBruijn32tab), ("math/bits.deBruijn64tab", laid_math_bits_deBruijn64tab), ("internal/strconv.uint64pow10", laid_internal_strconv_uint64pow10)] }
def TurnAgainSaid : Prop := turnAgainRow.holds Tryd.pinned (OpenSpec.ofChange turnAgainSpec)

/-- ITS FALSE NEIGHBOUR: 'it returns false'. Refute it at one input. -/
def turnAgainWrong : ChangeSpec := { name := "turnAgain", fn := fun _ => fun
  | [d1, d2] => { results := [.lit (.bool false)], args := [d1, d2] }
  | _ => none }
def TurnAgainWrongFalsely : Prop := turnAgainRow.holds Tryd.pinned (OpenSpec.ofChange turnAgainWrong)

/-- 'drownerlaw01.TurnWhole': WHATEVER THE INPUT: true; the input reads as it did. -/
def turnWholeSpec : ChangeSpec := { name := "turnWhole", fn := fun _ => fun
  | [d1, d2, d3, d4] => { results := [.lit (.bool true)], args := [d1, d2, d3, d4] }
  | _ => none }
def turnWholeRow : OpenClaim := { program := "ytejmmfjabmmihaadoor", sum := "99f7c7da714cb26b17d6b5366b96560be6f771cb6afa0400db1c0eb488c626a4", func := "drowner/drownerlaw01.TurnWhole", spec := "turnWhole", inPlace := ["internal/abi.NoEscape"], unfollowed := true, recurses := true, named := ["internal/strconv.uint64pow10", "math/bits.deBruijn32tab", "math/bits.deBruijn64tab"], apart := false, laid := [("math/bits.deBruijn32tab", laid_math_bits_deBruijn32tab), ("math/bits.deBruijn64tab", laid_math_bits_deBruijn64tab), ("internal/strconv.uint64pow10", laid_internal_strconv_uint64pow10)] }
def TurnWholeSaid : Prop := turnWholeRow.holds Tryd.pinned (OpenSpec.ofChange turnWholeSpec)

/-- ITS FALSE NEIGHBOUR: 'it returns false'. Refute it at one input. -/
def turnWholeWrong : ChangeSpec := { name := "turnWhole", fn := fun _ => fun
  | [d1, d2, d3, d4] => { results := [.lit (.bool false)], args := [d1, d2, d3, d4] }
  | _ => none }
def TurnWholeWrongFalsely : Prop := turnWholeRow.holds Tryd.pinned (OpenSpec.ofChange turnWholeWrong)

/- THE SECOND FORM. 'bulk': how many values and letters a reading holds, each counted each time it is reached (what is shared counts as often as it is met; a slice's spare places count too). A statement '..UptoSaid' is the law's where the arguments, and the package variables that the reading takes, are together of bulk at most 1048576: NARROWER than '..Said'. Prove '..Said' where nothing that the law and all that it calls make is longer than what came in: it says more and counts as full. Else prove '..UptoSaid'. A law counts once. -/
mutual
def uptoBulk {H : Type} : DataW H → Nat
  | .lit (.string bytes) => bytes.length + 1
  | .lit _ => 1
  | .nil => 1
  | .ptr d => uptoBulk d + 1
  | .slice elems spare => uptoBulkAll elems + uptoBulkAll spare + 1
  | .agg parts => uptoBulkAll parts + 1
  | .iface _ d => uptoBulk d + 1
  | .map entries => uptoBulkEntries entries + 1
  | .held _ => 1
def uptoBulkAll {H : Type} : List (DataW H) → Nat
  | [] => 0
  | d :: r => uptoBulk d + uptoBulkAll r
def uptoBulkEntries {H : Type} : List (Lit × DataW H) → Nat
  | [] => 0
  | x :: r => uptoBulkEntry x + uptoBulkEntries r
def uptoBulkEntry {H : Type} : Lit × DataW H → Nat
  | (.string bytes, d) => bytes.length + uptoBulk d + 1
  | (_, d) => uptoBulk d + 1
 end
def uptoSmall : (H : Type) → List (DataW H) → Bool := fun _ ds => decide (uptoBulkAll ds ≤ 1048576)
def OpenSpec.upto (s : _root_.Go.ChangeSpec) : _root_.Go.OpenSpec := { _root_.Go.OpenSpec.ofChange s with cond := some uptoSmall }

/-- 'drownerlaw01.TurnMeets', WHERE WHAT IT READS IS OF BULK AT MOST 1048576: true; the input reads as it did. -/
def turnMeetsUptoRow : OpenClaim := { program := "ytejmmfjabmmihaadoor", sum := "99f7c7da714cb26b17d6b5366b96560be6f771cb6afa0400db1c0eb488c626a4", func := "drowner/drownerlaw01.TurnMeets", spec := "turnMeets", inPlace := ["internal/abi.NoEscape"], unfollowed := true, recurses := true, named := ["internal/strconv.uint64pow10", "math/bits.deBruijn32tab", "math/bits.deBruijn64tab"], apart := false, laid := [("math/bits.deBruijn32tab", laid_math_bits_deBruijn32tab), ("math/bits.deBruijn64tab", laid_math_bits_deBruijn64tab), ("internal/strconv.uint64pow10", laid_internal_strconv_uint64pow10)], narrowed := true }
def TurnMeetsUptoSaid : Prop := turnMeetsUptoRow.holds Tryd.pinned (OpenSpec.upto turnMeetsSpec)

/-- 'drownerlaw01.TurnTexts', WHERE WHAT IT READS IS OF BULK AT MOST 1048576: true; the input reads as it did. -/
def turnTextsUptoRow : OpenClaim := { program := "ytejmmfjabmmihaadoor", sum := "99f7c7da714cb26b17d6b5366b96560be6f771cb6afa0400db1c0eb488c626a4", func := "drowner/drownerlaw01.TurnTexts", spec := "turnTexts", inPlace := ["internal/abi.NoEscape"], unfollowed := true, recurses := true, named := ["internal/strconv.uint64pow10", "math/bits.deBruijn32tab", "math/bits.deBruijn64tab"], apart := false, laid := [("math/bits.deBruijn32tab", laid_math_bits_deBruijn32tab), ("math/bits.deBruijn64tab", laid_math_bits_deBruijn64tab), ("internal/strconv.uint64pow10", laid_internal_strconv_uint64pow10)], narrowed := true }
def TurnTextsUptoSaid : Prop := turnTextsUptoRow.holds Tryd.pinned (OpenSpec.upto turnTextsSpec)

/-- 'drownerlaw01.TurnResidues', WHERE WHAT IT READS IS OF BULK AT MOST 1048576: true; the input reads as it did. -/
def turnResiduesUptoRow : OpenClaim := { program := "ytejmmfjabmmihaadoor", sum := "99f7c7da714cb26b17d6b5366b96560be6f771cb6afa0400db1c0eb488c626a4", func := "drowner/drownerlaw01.TurnResidues", spec := "turnResidues", inPlace := ["internal/abi.NoEscape"], unfollowed := true, recurses := true, named := ["internal/strconv.uint64pow10", "math/bits.deBruijn32tab", "math/bits.deBruijn64tab"], apart := false, laid := [("math/bits.deBruijn32tab", laid_math_bits_deBruijn32tab), ("math/bits.deBruijn64tab", laid_math_bits_deBruijn64tab), ("internal/strconv.uint64pow10", laid_internal_strconv_uint64pow10)], narrowed := true }
def TurnResiduesUptoSaid : Prop := turnResiduesUptoRow.holds Tryd.pinned (OpenSpec.upto turnResiduesSpec)

/-- 'drownerlaw01.TurnReadsBack', WHERE WHAT IT READS IS OF BULK AT MOST 1048576: true; the input reads as it did. -/
def turnReadsBackUptoRow : OpenClaim := { program := "ytejmmfjabmmihaadoor", sum := "99f7c7da714cb26b17d6b5366b96560be6f771cb6afa0400db1c0eb488c626a4", func := "drowner/drownerlaw01.TurnReadsBack", spec := "turnReadsBack", inPlace := ["internal/abi.NoEscape"], unfollowed := true, recurses := true, named := ["internal/strconv.uint64pow10", "math/bits.deBruijn32tab", "math/bits.deBruijn64tab"], apart := false, laid := [("math/bits.deBruijn32tab", laid_math_bits_deBruijn32tab), ("math/bits.deBruijn64tab", laid_math_bits_deBruijn64tab), ("internal/strconv.uint64pow10", laid_internal_strconv_uint64pow10)], narrowed := true }
def TurnReadsBackUptoSaid : Prop := turnReadsBackUptoRow.holds Tryd.pinned (OpenSpec.upto turnReadsBackSpec)

/-- 'drownerlaw01.TurnParts', WHERE WHAT IT READS IS OF BULK AT MOST 1048576: true; the input reads as it did. -/
def turnPartsUptoRow : OpenClaim := { program := "ytejmmfjabmmihaadoor", sum := "99f7c7da714cb26b17d6b5366b96560be6f771cb6afa0400db1c0eb488c626a4", func := "drowner/drownerlaw01.TurnParts", spec := "turnParts", inPlace := ["internal/abi.NoEscape"], unfollowed := true, recurses := true, named := ["internal/strconv.uint64pow10", "math/bits.deBruijn32tab", "math/bits.deBruijn64tab"], apart := false, laid := [("math/bits.deBruijn32tab", laid_math_bits_deBruijn32tab), ("math/bits.deBruijn64tab", laid_math_bits_deBruijn64tab), ("internal/strconv.uint64pow10", laid_internal_strconv_uint64pow10)], narrowed := true }
def TurnPartsUptoSaid : Prop := turnPartsUptoRow.holds Tryd.pinned (OpenSpec.upto turnPartsSpec)

/-- 'drownerlaw01.TurnSame', WHERE WHAT IT READS IS OF BULK AT MOST 1048576: true; the input reads as it did. -/
def turnSameUptoRow : OpenClaim := { program := "ytejmmfjabmmihaadoor", sum := "99f7c7da714cb26b17d6b5366b96560be6f771cb6afa0400db1c0eb488c626a4", func := "drowner/drownerlaw01.TurnSame", spec := "turnSame", inPlace := ["internal/abi.NoEscape"], unfollowed := true, recurses := true, named := ["internal/strconv.uint64pow10", "math/bits.deBruijn32tab", "math/bits.deBruijn64tab"], apart := false, laid := [("math/bits.deBruijn32tab", laid_math_bits_deBruijn32tab), ("math/bits.deBruijn64tab", laid_math_bits_deBruijn64tab), ("internal/strconv.uint64pow10", laid_internal_strconv_uint64pow10)], narrowed := true }
def TurnSameUptoSaid : Prop := turnSameUptoRow.holds Tryd.pinned (OpenSpec.upto turnSameSpec)

/-- 'drownerlaw01.TurnLists', WHERE WHAT IT READS IS OF BULK AT MOST 1048576: true; the input reads as it did. -/
def turnListsUptoRow : OpenClaim := { program := "ytejmmfjabmmihaadoor", sum := "99f7c7da714cb26b17d6b5366b96560be6f771cb6afa0400db1c0eb488c626a4", func := "drowner/drownerlaw01.TurnLists", spec := "turnLists", inPlace := ["internal/abi.NoEscape"], unfollowed := true, recurses := true, named := ["internal/strconv.uint64pow10", "math/bits.deBruijn32tab", "math/bits.deBruijn64tab"], apart := false, laid := [("math/bits.deBruijn32tab", laid_math_bits_deBruijn32tab), ("math/bits.deBruijn64tab", laid_math_bits_deBruijn64tab), ("internal/strconv.uint64pow10", laid_internal_strconv_uint64pow10)], narrowed := true }
def TurnListsUptoSaid : Prop := turnListsUptoRow.holds Tryd.pinned (OpenSpec.upto turnListsSpec)

/-- 'drownerlaw01.TurnPeriods', WHERE WHAT IT READS IS OF BULK AT MOST 1048576: true; the input reads as it did. -/
def turnPeriodsUptoRow : OpenClaim := { program := "ytejmmfjabmmihaadoor", sum := "99f7c7da714cb26b17d6b5366b96560be6f771cb6afa0400db1c0eb488c626a4", func := "drowner/drownerlaw01.TurnPeriods", spec := "turnPeriods", inPlace := ["internal/abi.NoEscape"], unfollowed := true, recurses := true, named := ["internal/strconv.uint64pow10", "math/bits.deBruijn32tab", "math/bits.deBruijn64tab"], apart := false, laid := [("math/bits.deBruijn32tab", laid_math_bits_deBruijn32tab), ("math/bits.deBruijn64tab", laid_math_bits_deBruijn64tab), ("internal/strconv.uint64pow10", laid_internal_strconv_uint64pow10)], narrowed := true }
def TurnPeriodsUptoSaid : Prop := turnPeriodsUptoRow.holds Tryd.pinned (OpenSpec.upto turnPeriodsSpec)

/-- 'drownerlaw01.TurnMinutes', WHERE WHAT IT READS IS OF BULK AT MOST 1048576: true; the input reads as it did. -/
def turnMinutesUptoRow : OpenClaim := { program := "ytejmmfjabmmihaadoor", sum := "99f7c7da714cb26b17d6b5366b96560be6f771cb6afa0400db1c0eb488c626a4", func := "drowner/drownerlaw01.TurnMinutes", spec := "turnMinutes", inPlace := ["internal/abi.NoEscape"], unfollowed := true, recurses := true, named := ["internal/strconv.uint64pow10", "math/bits.deBruijn32tab", "math/bits.deBruijn64tab"], apart := false, laid := [("math/bits.deBruijn32tab", laid_math_bits_deBruijn32tab), ("math/bits.deBruijn64tab", laid_math_bits_deBruijn64tab), ("internal/strconv.uint64pow10", laid_internal_strconv_uint64pow10)], narrowed := true }
def TurnMinutesUptoSaid : Prop := turnMinutesUptoRow.holds Tryd.pinned (OpenSpec.upto turnMinutesSpec)

/-- 'drownerlaw01.TurnNext', WHERE WHAT IT READS IS OF BULK AT MOST 1048576: true; the input reads as it did. -/
def turnNextUptoRow : OpenClaim := { program := "ytejmmfjabmmihaadoor", sum := "99f7c7da714cb26b17d6b5366b96560be6f771cb6afa0400db1c0eb488c626a4", func := "drowner/drownerlaw01.TurnNext", spec := "turnNext", inPlace := ["internal/abi.NoEscape"], unfollowed := true, recurses := true, named := ["internal/strconv.uint64pow10", "math/bits.deBruijn32tab", "math/bits.deBruijn64tab"], apart := false, laid := [("math/bits.deBruijn32tab", laid_math_bits_deBruijn32tab), ("math/bits.deBruijn64tab", laid_math_bits_deBruijn64tab), ("internal/strconv.uint64pow10", laid_internal_strconv_uint64pow10)], narrowed := true }
def TurnNextUptoSaid : Prop := turnNextUptoRow.holds Tryd.pinned (OpenSpec.upto turnNextSpec)

/-- 'drownerlaw01.TurnAgain', WHERE WHAT IT READS IS OF BULK AT MOST 1048576: true; the input reads as it did. -/
def turnAgainUptoRow : OpenClaim := { program := "ytejmmfjabmmihaadoor", sum := "99f7c7da714cb26b17d6b5366b96560be6f771cb6afa0400db1c0eb488c626a4", func := "drowner/drownerlaw01.TurnAgain", spec := "turnAgain", inPlace := ["internal/abi.NoEscape"], unfollowed := true, recurses := true, named := ["internal/strconv.uint64pow10", "math/bits.deBruijn32tab", "math/bits.deBruijn64tab"], apart := false, laid := [("math/bits.deBruijn32tab", laid_math_bits_deBruijn32tab), ("math/bits.deBruijn64tab", laid_math_bits_deBruijn64tab), ("internal/strconv.uint64pow10", laid_internal_strconv_uint64pow10)], narrowed := true }
def TurnAgainUptoSaid : Prop := turnAgainUptoRow.holds Tryd.pinned (OpenSpec.upto turnAgainSpec)

/-- 'drownerlaw01.TurnWhole', WHERE WHAT IT READS IS OF BULK AT MOST 1048576: true; the input reads as it did. -/
def turnWholeUptoRow : OpenClaim := { program := "ytejmmfjabmmihaadoor", sum := "99f7c7da714cb26b17d6b5366b96560be6f771cb6afa0400db1c0eb488c626a4", func := "drowner/drownerlaw01.TurnWhole", spec := "turnWhole", inPlace := ["internal/abi.NoEscape"], unfollowed := true, recurses := true, named := ["internal/strconv.uint64pow10", "math/bits.deBruijn32tab", "math/bits.deBruijn64tab"], apart := false, laid := [("math/bits.deBruijn32tab", laid_math_bits_deBruijn32tab), ("math/bits.deBruijn64tab", laid_math_bits_deBruijn64tab), ("internal/strconv.uint64pow10", laid_internal_strconv_uint64pow10)], narrowed := true }
def TurnWholeUptoSaid : Prop := turnWholeUptoRow.holds Tryd.pinned (OpenSpec.upto turnWholeSpec)

end Rows
end Go.Proofs.YtejmmfjabmmihaaDoor
