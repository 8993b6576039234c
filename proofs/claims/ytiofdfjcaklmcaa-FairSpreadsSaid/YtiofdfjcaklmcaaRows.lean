/-
  No cell of these rows narrows 'for every input' (looked for: loops, veiled, ifaces, maps, wideKeys, modest, calm, conditions, laid).
  DERIVED. THE GIVEN ROWS OF THIS SEAT. 15 by the template 'for every input the law returns true; each argument reads behind the call as it read before'; 0 by the template 'total and deterministic' (their statements: YtiofdfjcaklmcaaTotals.lean).
  GIVEN WITH THE SEED: the statements are not yours to turn. If you find one false, say at which input.
  Laid BY PROGRAM, IN A SANDBOX (cutbox-rows.mjs): the forced cells as the released guide's own fill.sh prints them over the translation 2ec8c3f6ed78d59d… (all of the seat's roots in one cut). By AI agents, Wed Nov 11 2026. No macro, syntax, notation, axiom, sorry.
-/
import Derived.Test.YtiofdfjcaklmcaaChecked
import GoSem.Claim
import GoSem.ClaimJoined
import GoSem.ClaimMapViews
import Derived.JoinedTies
import Derived.KernelRfl
namespace Go.Proofs.Ytiofdfjcaklmcaa
/- THE CELL 'sum', in the pinned program and in every row, IS THE sha256 OF THE DUMP (.gsa) THAT YtiofdfjcaklmcaaProg.lean LOADS. Nothing in Lean hashes anything: it is a label: what it is worth is what the hold of that sum in a sandbox is worth. -/
noncomputable def Try.pinned : Pinned := { name := "ytiofdfjcaklmcaa", sum := "2ec8c3f6ed78d59d86cfcf3f89ac5258741bed1f0abf360c28812ede4c07bc83", checked := Try.checked }
namespace Rows
def none {H : Type} : Left H := { results := [], args := [] }

/-- 'drownerlaw06.FairCommon': WHATEVER THE INPUT: true; the input reads as it did. -/
def fairCommonSpec : ChangeSpec := { name := "fairCommon", fn := fun _ => fun
  | [d1, d2, d3] => { results := [.lit (.bool true)], args := [d1, d2, d3] }
  | _ => none }
def fairCommonRow : OpenClaim := { program := "ytiofdfjcaklmcaa", sum := "2ec8c3f6ed78d59d86cfcf3f89ac5258741bed1f0abf360c28812ede4c07bc83", func := "drowner/drownerlaw06.FairCommon", spec := "fairCommon", unfollowed := true, recurses := true, plainKeys := false, apart := false }
def FairCommonSaid : Prop := fairCommonRow.holds Try.pinned (OpenSpec.ofChange fairCommonSpec)

/-- ITS FALSE NEIGHBOUR: 'it returns false'. Refute it at one input. -/
def fairCommonWrong : ChangeSpec := { name := "fairCommon", fn := fun _ => fun
  | [d1, d2, d3] => { results := [.lit (.bool false)], args := [d1, d2, d3] }
  | _ => none }
def FairCommonWrongFalsely : Prop := fairCommonRow.holds Try.pinned (OpenSpec.ofChange fairCommonWrong)

/-- 'drownerlaw06.FairAnyOrder': WHATEVER THE INPUT: true; the input reads as it did. -/
def fairAnyOrderSpec : ChangeSpec := { name := "fairAnyOrder", fn := fun _ => fun
  | [d1, d2, d3, d4] => { results := [.lit (.bool true)], args := [d1, d2, d3, d4] }
  | _ => none }
def fairAnyOrderRow : OpenClaim := { program := "ytiofdfjcaklmcaa", sum := "2ec8c3f6ed78d59d86cfcf3f89ac5258741bed1f0abf360c28812ede4c07bc83", func := "drowner/drownerlaw06.FairAnyOrder", spec := "fairAnyOrder", unfollowed := true, recurses := true, plainKeys := false, apart := false }
def FairAnyOrderSaid : Prop := fairAnyOrderRow.holds Try.pinned (OpenSpec.ofChange fairAnyOrderSpec)

/-- ITS FALSE NEIGHBOUR: 'it returns false'. Refute it at one input. -/
def fairAnyOrderWrong : ChangeSpec := { name := "fairAnyOrder", fn := fun _ => fun
  | [d1, d2, d3, d4] => { results := [.lit (.bool false)], args := [d1, d2, d3, d4] }
  | _ => none }
def FairAnyOrderWrongFalsely : Prop := fairAnyOrderRow.holds Try.pinned (OpenSpec.ofChange fairAnyOrderWrong)

/-- 'drownerlaw06.FairChains': WHATEVER THE INPUT: true; the input reads as it did. -/
def fairChainsSpec : ChangeSpec := { name := "fairChains", fn := fun _ => fun
  | [d1, d2, d3] => { results := [.lit (.bool true)], args := [d1, d2, d3] }
  | _ => none }
def fairChainsRow : OpenClaim := { program := "ytiofdfjcaklmcaa", sum := "2ec8c3f6ed78d59d86cfcf3f89ac5258741bed1f0abf360c28812ede4c07bc83", func := "drowner/drownerlaw06.FairChains", spec := "fairChains", unfollowed := true, recurses := true, plainKeys := false, apart := false }
def FairChainsSaid : Prop := fairChainsRow.holds Try.pinned (OpenSpec.ofChange fairChainsSpec)

/-- ITS FALSE NEIGHBOUR: 'it returns false'. Refute it at one input. -/
def fairChainsWrong : ChangeSpec := { name := "fairChains", fn := fun _ => fun
  | [d1, d2, d3] => { results := [.lit (.bool false)], args := [d1, d2, d3] }
  | _ => none }
def FairChainsWrongFalsely : Prop := fairChainsRow.holds Try.pinned (OpenSpec.ofChange fairChainsWrong)

/-- 'drownerlaw06.FairFairest': WHATEVER THE INPUT: true; the input reads as it did. -/
def fairFairestSpec : ChangeSpec := { name := "fairFairest", fn := fun _ => fun
  | [d] => { results := [.lit (.bool true)], args := [d] }
  | _ => none }
def fairFairestRow : OpenClaim := { program := "ytiofdfjcaklmcaa", sum := "2ec8c3f6ed78d59d86cfcf3f89ac5258741bed1f0abf360c28812ede4c07bc83", func := "drowner/drownerlaw06.FairFairest", spec := "fairFairest", unfollowed := true, recurses := true, plainKeys := false, apart := false }
def FairFairestSaid : Prop := fairFairestRow.holds Try.pinned (OpenSpec.ofChange fairFairestSpec)

/-- ITS FALSE NEIGHBOUR: 'it returns false'. Refute it at one input. -/
def fairFairestWrong : ChangeSpec := { name := "fairFairest", fn := fun _ => fun
  | [d] => { results := [.lit (.bool false)], args := [d] }
  | _ => none }
def FairFairestWrongFalsely : Prop := fairFairestRow.holds Try.pinned (OpenSpec.ofChange fairFairestWrong)

/-- 'drownerlaw06.FairJudges': WHATEVER THE INPUT: true; the input reads as it did. -/
def fairJudgesSpec : ChangeSpec := { name := "fairJudges", fn := fun _ => fun
  | [d1, d2, d3, d4, d5] => { results := [.lit (.bool true)], args := [d1, d2, d3, d4, d5] }
  | _ => none }
def fairJudgesRow : OpenClaim := { program := "ytiofdfjcaklmcaa", sum := "2ec8c3f6ed78d59d86cfcf3f89ac5258741bed1f0abf360c28812ede4c07bc83", func := "drowner/drownerlaw06.FairJudges", spec := "fairJudges", unfollowed := true, recurses := true, plainKeys := false, apart := false }
def FairJudgesSaid : Prop := fairJudgesRow.holds Try.pinned (OpenSpec.ofChange fairJudgesSpec)

/-- ITS FALSE NEIGHBOUR: 'it returns false'. Refute it at one input. -/
def fairJudgesWrong : ChangeSpec := { name := "fairJudges", fn := fun _ => fun
  | [d1, d2, d3, d4, d5] => { results := [.lit (.bool false)], args := [d1, d2, d3, d4, d5] }
  | _ => none }
def FairJudgesWrongFalsely : Prop := fairJudgesRow.holds Try.pinned (OpenSpec.ofChange fairJudgesWrong)

/-- 'drownerlaw06.FairSure': WHATEVER THE INPUT: true; the input reads as it did. -/
def fairSureSpec : ChangeSpec := { name := "fairSure", fn := fun _ => fun
  | [d1, d2] => { results := [.lit (.bool true)], args := [d1, d2] }
  | _ => none }
def fairSureRow : OpenClaim := { program := "ytiofdfjcaklmcaa", sum := "2ec8c3f6ed78d59d86cfcf3f89ac5258741bed1f0abf360c28812ede4c07bc83", func := "drowner/drownerlaw06.FairSure", spec := "fairSure", unfollowed := true, recurses := true, plainKeys := false, apart := false }
def FairSureSaid : Prop := fairSureRow.holds Try.pinned (OpenSpec.ofChange fairSureSpec)

/-- ITS FALSE NEIGHBOUR: 'it returns false'. Refute it at one input. -/
def fairSureWrong : ChangeSpec := { name := "fairSure", fn := fun _ => fun
  | [d1, d2] => { results := [.lit (.bool false)], args := [d1, d2] }
  | _ => none }
def FairSureWrongFalsely : Prop := fairSureRow.holds Try.pinned (OpenSpec.ofChange fairSureWrong)

/-- 'drownerlaw06.FairSpreads': WHATEVER THE INPUT: true; the input reads as it did. -/
def fairSpreadsSpec : ChangeSpec := { name := "fairSpreads", fn := fun _ => fun
  | [d1, d2, d3] => { results := [.lit (.bool true)], args := [d1, d2, d3] }
  | _ => none }
def fairSpreadsRow : OpenClaim := { program := "ytiofdfjcaklmcaa", sum := "2ec8c3f6ed78d59d86cfcf3f89ac5258741bed1f0abf360c28812ede4c07bc83", func := "drowner/drownerlaw06.FairSpreads", spec := "fairSpreads", unfollowed := true, recurses := true, plainKeys := false, apart := false }
def FairSpreadsSaid : Prop := fairSpreadsRow.holds Try.pinned (OpenSpec.ofChange fairSpreadsSpec)

/-- ITS FALSE NEIGHBOUR: 'it returns false'. Refute it at one input. -/
def fairSpreadsWrong : ChangeSpec := { name := "fairSpreads", fn := fun _ => fun
  | [d1, d2, d3] => { results := [.lit (.bool false)], args := [d1, d2, d3] }
  | _ => none }
def FairSpreadsWrongFalsely : Prop := fairSpreadsRow.holds Try.pinned (OpenSpec.ofChange fairSpreadsWrong)

/-- 'drownerlaw06.FairChecks': WHATEVER THE INPUT: true; the input reads as it did. -/
def fairChecksSpec : ChangeSpec := { name := "fairChecks", fn := fun _ => fun
  | [d1, d2, d3] => { results := [.lit (.bool true)], args := [d1, d2, d3] }
  | _ => none }
def fairChecksRow : OpenClaim := { program := "ytiofdfjcaklmcaa", sum := "2ec8c3f6ed78d59d86cfcf3f89ac5258741bed1f0abf360c28812ede4c07bc83", func := "drowner/drownerlaw06.FairChecks", spec := "fairChecks", unfollowed := true, recurses := true, plainKeys := false, apart := false }
def FairChecksSaid : Prop := fairChecksRow.holds Try.pinned (OpenSpec.ofChange fairChecksSpec)

/-- ITS FALSE NEIGHBOUR: 'it returns false'. Refute it at one input. -/
def fairChecksWrong : ChangeSpec := { name := "fairChecks", fn := fun _ => fun
  | [d1, d2, d3] => { results := [.lit (.bool false)], args := [d1, d2, d3] }
  | _ => none }
def FairChecksWrongFalsely : Prop := fairChecksRow.holds Try.pinned (OpenSpec.ofChange fairChecksWrong)

/-- 'drownerlaw06.FairPools': WHATEVER THE INPUT: true; the input reads as it did. -/
def fairPoolsSpec : ChangeSpec := { name := "fairPools", fn := fun _ => fun
  | [d1, d2, d3] => { results := [.lit (.bool true)], args := [d1, d2, d3] }
  | _ => none }
def fairPoolsRow : OpenClaim := { program := "ytiofdfjcaklmcaa", sum := "2ec8c3f6ed78d59d86cfcf3f89ac5258741bed1f0abf360c28812ede4c07bc83", func := "drowner/drownerlaw06.FairPools", spec := "fairPools", unfollowed := true, recurses := true, plainKeys := false, apart := false }
def FairPoolsSaid : Prop := fairPoolsRow.holds Try.pinned (OpenSpec.ofChange fairPoolsSpec)

/-- ITS FALSE NEIGHBOUR: 'it returns false'. Refute it at one input. -/
def fairPoolsWrong : ChangeSpec := { name := "fairPools", fn := fun _ => fun
  | [d1, d2, d3] => { results := [.lit (.bool false)], args := [d1, d2, d3] }
  | _ => none }
def FairPoolsWrongFalsely : Prop := fairPoolsRow.holds Try.pinned (OpenSpec.ofChange fairPoolsWrong)

/-- 'drownerlaw06.FairMore': WHATEVER THE INPUT: true; the input reads as it did. -/
def fairMoreSpec : ChangeSpec := { name := "fairMore", fn := fun _ => fun
  | [d1, d2, d3] => { results := [.lit (.bool true)], args := [d1, d2, d3] }
  | _ => none }
def fairMoreRow : OpenClaim := { program := "ytiofdfjcaklmcaa", sum := "2ec8c3f6ed78d59d86cfcf3f89ac5258741bed1f0abf360c28812ede4c07bc83", func := "drowner/drownerlaw06.FairMore", spec := "fairMore", unfollowed := true, recurses := true, plainKeys := false, apart := false }
def FairMoreSaid : Prop := fairMoreRow.holds Try.pinned (OpenSpec.ofChange fairMoreSpec)

/-- ITS FALSE NEIGHBOUR: 'it returns false'. Refute it at one input. -/
def fairMoreWrong : ChangeSpec := { name := "fairMore", fn := fun _ => fun
  | [d1, d2, d3] => { results := [.lit (.bool false)], args := [d1, d2, d3] }
  | _ => none }
def FairMoreWrongFalsely : Prop := fairMoreRow.holds Try.pinned (OpenSpec.ofChange fairMoreWrong)

/-- 'drownerlaw06.FairMends': WHATEVER THE INPUT: true; the input reads as it did. -/
def fairMendsSpec : ChangeSpec := { name := "fairMends", fn := fun _ => fun
  | [d1, d2, d3] => { results := [.lit (.bool true)], args := [d1, d2, d3] }
  | _ => none }
def fairMendsRow : OpenClaim := { program := "ytiofdfjcaklmcaa", sum := "2ec8c3f6ed78d59d86cfcf3f89ac5258741bed1f0abf360c28812ede4c07bc83", func := "drowner/drownerlaw06.FairMends", spec := "fairMends", unfollowed := true, recurses := true, plainKeys := false, apart := false }
def FairMendsSaid : Prop := fairMendsRow.holds Try.pinned (OpenSpec.ofChange fairMendsSpec)

/-- ITS FALSE NEIGHBOUR: 'it returns false'. Refute it at one input. -/
def fairMendsWrong : ChangeSpec := { name := "fairMends", fn := fun _ => fun
  | [d1, d2, d3] => { results := [.lit (.bool false)], args := [d1, d2, d3] }
  | _ => none }
def FairMendsWrongFalsely : Prop := fairMendsRow.holds Try.pinned (OpenSpec.ofChange fairMendsWrong)

/-- 'drownerlaw06.FairProofs': WHATEVER THE INPUT: true; the input reads as it did. -/
def fairProofsSpec : ChangeSpec := { name := "fairProofs", fn := fun _ => fun
  | [d1, d2, d3, d4, d5] => { results := [.lit (.bool true)], args := [d1, d2, d3, d4, d5] }
  | _ => none }
def fairProofsRow : OpenClaim := { program := "ytiofdfjcaklmcaa", sum := "2ec8c3f6ed78d59d86cfcf3f89ac5258741bed1f0abf360c28812ede4c07bc83", func := "drowner/drownerlaw06.FairProofs", spec := "fairProofs", unfollowed := true, recurses := true, plainKeys := false, apart := false }
def FairProofsSaid : Prop := fairProofsRow.holds Try.pinned (OpenSpec.ofChange fairProofsSpec)

/-- ITS FALSE NEIGHBOUR: 'it returns false'. Refute it at one input. -/
def fairProofsWrong : ChangeSpec := { name := "fairProofs", fn := fun _ => fun
  | [d1, d2, d3, d4, d5] => { results := [.lit (.bool false)], args := [d1, d2, d3, d4, d5] }
  | _ => none }
def FairProofsWrongFalsely : Prop := fairProofsRow.holds Try.pinned (OpenSpec.ofChange fairProofsWrong)

/-- 'drownerlaw06.FairOne': WHATEVER THE INPUT: true; the input reads as it did. -/
def fairOneSpec : ChangeSpec := { name := "fairOne", fn := fun _ => fun
  | [d1, d2] => { results := [.lit (.bool true)], args := [d1, d2] }
  | _ => none }
def fairOneRow : OpenClaim := { program := "ytiofdfjcaklmcaa", sum := "2ec8c3f6ed78d59d86cfcf3f89ac5258741bed1f0abf360c28812ede4c07bc83", func := "drowner/drownerlaw06.FairOne", spec := "fairOne", unfollowed := true, recurses := true, plainKeys := false, apart := false }
def FairOneSaid : Prop := fairOneRow.holds Try.pinned (OpenSpec.ofChange fairOneSpec)

/-- ITS FALSE NEIGHBOUR: 'it returns false'. Refute it at one input. -/
def fairOneWrong : ChangeSpec := { name := "fairOne", fn := fun _ => fun
  | [d1, d2] => { results := [.lit (.bool false)], args := [d1, d2] }
  | _ => none }
def FairOneWrongFalsely : Prop := fairOneRow.holds Try.pinned (OpenSpec.ofChange fairOneWrong)

/-- 'drownerlaw06.FairFew': WHATEVER THE INPUT: true; the input reads as it did. -/
def fairFewSpec : ChangeSpec := { name := "fairFew", fn := fun _ => fun
  | [d1, d2] => { results := [.lit (.bool true)], args := [d1, d2] }
  | _ => none }
def fairFewRow : OpenClaim := { program := "ytiofdfjcaklmcaa", sum := "2ec8c3f6ed78d59d86cfcf3f89ac5258741bed1f0abf360c28812ede4c07bc83", func := "drowner/drownerlaw06.FairFew", spec := "fairFew", unfollowed := true, recurses := true, plainKeys := false, apart := false }
def FairFewSaid : Prop := fairFewRow.holds Try.pinned (OpenSpec.ofChange fairFewSpec)

/-- ITS FALSE NEIGHBOUR: 'it returns false'. Refute it at one input. -/
def fairFewWrong : ChangeSpec := { name := "fairFew", fn := fun _ => fun
  | [d1, d2] => { results := [.lit (.bool false)], args := [d1, d2] }
  | _ => none }
def FairFewWrongFalsely : Prop := fairFewRow.holds Try.pinned (OpenSpec.ofChange fairFewWrong)

/-- 'drownerlaw06.FairRounds': WHATEVER THE INPUT: true; the input reads as it did. -/
def fairRoundsSpec : ChangeSpec := { name := "fairRounds", fn := fun _ => fun
  | [d1, d2] => { results := [.lit (.bool true)], args := [d1, d2] }
  | _ => none }
def fairRoundsRow : OpenClaim := { program := "ytiofdfjcaklmcaa", sum := "2ec8c3f6ed78d59d86cfcf3f89ac5258741bed1f0abf360c28812ede4c07bc83", func := "drowner/drownerlaw06.FairRounds", spec := "fairRounds", unfollowed := true, recurses := true, plainKeys := false, apart := false }
def FairRoundsSaid : Prop := fairRoundsRow.holds Try.pinned (OpenSpec.ofChange fairRoundsSpec)

/-- ITS FALSE NEIGHBOUR: 'it returns false'. Refute it at one input. -/
def fairRoundsWrong : ChangeSpec := { name := "fairRounds", fn := fun _ => fun
  | [d1, d2] => { results := [.lit (.bool false)], args := [d1, d2] }
  | _ => none }
def FairRoundsWrongFalsely : Prop := fairRoundsRow.holds Try.pinned (OpenSpec.ofChange fairRoundsWrong)

/- THE SECOND FORM. 'bulk': how many values and letters a reading holds, each counted each time it is reached (what is shared counts as often as it is met; a slice's spare places count too). A statement '..UptoSaid' is the law's where the arguments, and the package variables that the reading takes, are together of bulk at most 1048576: NARROWER than '..Said'. Prove '..Said' where nothing that the law and all that it calls make is longer than what came in: it says more and counts as full. Else prove '..UptoSaid'. A law counts once. -/
mutual
def uptoBulk {H : Type} : DataW H → Nat
  | .lit (.string bytes) => bytes.length + 1
  | .lit _ => 1
  | .nil => 1
  | .ptr d => uptoBulk d + 1
  | .slice elems spare => uptoBulkAll elems + uptoBulkAll spare + 1
  | .agg parts => uptoBulkAll parts + 1
  | .iface _ d => uptoBulk d + 1
  | .map entries => uptoBulkEntries entries + 1
  | .held _ => 1
def uptoBulkAll {H : Type} : List (DataW H) → Nat
  | [] => 0
  | d :: r => uptoBulk d + uptoBulkAll r
def uptoBulkEntries {H : Type} : List (Lit × DataW H) → Nat
  | [] => 0
  | x :: r => uptoBulkEntry x + uptoBulkEntries r
def uptoBulkEntry {H : Type} : Lit × DataW H → Nat
  | (.string bytes, d) => bytes.length + uptoBulk d + 1
  | (_, d) => uptoBulk d + 1
 end
def uptoSmall : (H : Type) → List (DataW H) → Bool := fun _ ds => decide (uptoBulkAll ds ≤ 1048576)
def OpenSpec.upto (s : _root_.Go.ChangeSpec) : _root_.Go.OpenSpec := { _root_.Go.OpenSpec.ofChange s with cond := some uptoSmall }

/-- 'drownerlaw06.FairCommon', WHERE WHAT IT READS IS OF BULK AT MOST 1048576: true; the input reads as it did. -/
def fairCommonUptoRow : OpenClaim := { program := "ytiofdfjcaklmcaa", sum := "2ec8c3f6ed78d59d86cfcf3f89ac5258741bed1f0abf360c28812ede4c07bc83", func := "drowner/drownerlaw06.FairCommon", spec := "fairCommon", unfollowed := true, recurses := true, plainKeys := false, apart := false, narrowed := true }
def FairCommonUptoSaid : Prop := fairCommonUptoRow.holds Try.pinned (OpenSpec.upto fairCommonSpec)

/-- 'drownerlaw06.FairAnyOrder', WHERE WHAT IT READS IS OF BULK AT MOST 1048576: true; the input reads as it did. -/
def fairAnyOrderUptoRow : OpenClaim := { program := "ytiofdfjcaklmcaa", sum := "2ec8c3f6ed78d59d86cfcf3f89ac5258741bed1f0abf360c28812ede4c07bc83", func := "drowner/drownerlaw06.FairAnyOrder", spec := "fairAnyOrder", unfollowed := true, recurses := true, plainKeys := false, apart := false, narrowed := true }
def FairAnyOrderUptoSaid : Prop := fairAnyOrderUptoRow.holds Try.pinned (OpenSpec.upto fairAnyOrderSpec)

/-- 'drownerlaw06.FairChains', WHERE WHAT IT READS IS OF BULK AT MOST 1048576: true; the input reads as it did. -/
def fairChainsUptoRow : OpenClaim := { program := "ytiofdfjcaklmcaa", sum := "2ec8c3f6ed78d59d86cfcf3f89ac5258741bed1f0abf360c28812ede4c07bc83", func := "drowner/drownerlaw06.FairChains", spec := "fairChains", unfollowed := true, recurses := true, plainKeys := false, apart := false, narrowed := true }
def FairChainsUptoSaid : Prop := fairChainsUptoRow.holds Try.pinned (OpenSpec.upto fairChainsSpec)

/-- 'drownerlaw06.FairFairest', WHERE WHAT IT READS IS OF BULK AT MOST 1048576: true; the input reads as it did. -/
def fairFairestUptoRow : OpenClaim := { program := "ytiofdfjcaklmcaa", sum := "2ec8c3f6ed78d59d86cfcf3f89ac5258741bed1f0abf360c28812ede4c07bc83", func := "drowner/drownerlaw06.FairFairest", spec := "fairFairest", unfollowed := true, recurses := true, plainKeys := false, apart := false, narrowed := true }
def FairFairestUptoSaid : Prop := fairFairestUptoRow.holds Try.pinned (OpenSpec.upto fairFairestSpec)

/-- 'drownerlaw06.FairJudges', WHERE WHAT IT READS IS OF BULK AT MOST 1048576: true; the input reads as it did. -/
def fairJudgesUptoRow : OpenClaim := { program := "ytiofdfjcaklmcaa", sum := "2ec8c3f6ed78d59d86cfcf3f89ac5258741bed1f0abf360c28812ede4c07bc83", func := "drowner/drownerlaw06.FairJudges", spec := "fairJudges", unfollowed := true, recurses := true, plainKeys := false, apart := false, narrowed := true }
def FairJudgesUptoSaid : Prop := fairJudgesUptoRow.holds Try.pinned (OpenSpec.upto fairJudgesSpec)

/-- 'drownerlaw06.FairSure', WHERE WHAT IT READS IS OF BULK AT MOST 1048576: true; the input reads as it did. -/
def fairSureUptoRow : OpenClaim := { program := "ytiofdfjcaklmcaa", sum := "2ec8c3f6ed78d59d86cfcf3f89ac5258741bed1f0abf360c28812ede4c07bc83", func := "drowner/drownerlaw06.FairSure", spec := "fairSure", unfollowed := true, recurses := true, plainKeys := false, apart := false, narrowed := true }
def FairSureUptoSaid : Prop := fairSureUptoRow.holds Try.pinned (OpenSpec.upto fairSureSpec)

/-- 'drownerlaw06.FairSpreads', WHERE WHAT IT READS IS OF BULK AT MOST 1048576: true; the input reads as it did. -/
def fairSpreadsUptoRow : OpenClaim := { program := "ytiofdfjcaklmcaa", sum := "2ec8c3f6ed78d59d86cfcf3f89ac5258741bed1f0abf360c28812ede4c07bc83", func := "drowner/drownerlaw06.FairSpreads", spec := "fairSpreads", unfollowed := true, recurses := true, plainKeys := false, apart := false, narrowed := true }
def FairSpreadsUptoSaid : Prop := fairSpreadsUptoRow.holds Try.pinned (OpenSpec.upto fairSpreadsSpec)

/-- 'drownerlaw06.FairChecks', WHERE WHAT IT READS IS OF BULK AT MOST 1048576: true; the input reads as it did. -/
def fairChecksUptoRow : OpenClaim := { program := "ytiofdfjcaklmcaa", sum := "2ec8c3f6ed78d59d86cfcf3f89ac5258741bed1f0abf360c28812ede4c07bc83", func := "drowner/drownerlaw06.FairChecks", spec := "fairChecks", unfollowed := true, recurses := true, plainKeys := false, apart := false, narrowed := true }
def FairChecksUptoSaid : Prop := fairChecksUptoRow.holds Try.pinned (OpenSpec.upto fairChecksSpec)

/-- 'drownerlaw06.FairPools', WHERE WHAT IT READS IS OF BULK AT MOST 1048576: true; the input reads as it did. -/
def fairPoolsUptoRow : OpenClaim := { program := "ytiofdfjcaklmcaa", sum := "2ec8c3f6ed78d59d86cfcf3f89ac5258741bed1f0abf360c28812ede4c07bc83", func := "drowner/drownerlaw06.FairPools", spec := "fairPools", unfollowed := true, recurses := true, plainKeys := false, apart := false, narrowed := true }
def FairPoolsUptoSaid : Prop := fairPoolsUptoRow.holds Try.pinned (OpenSpec.upto fairPoolsSpec)

/-- 'drownerlaw06.FairMore', WHERE WHAT IT READS IS OF BULK AT MOST 1048576: true; the input reads as it did. -/
def fairMoreUptoRow : OpenClaim := { program := "ytiofdfjcaklmcaa", sum := "2ec8c3f6ed78d59d86cfcf3f89ac5258741bed1f0abf360c28812ede4c07bc83", func := "drowner/drownerlaw06.FairMore", spec := "fairMore", unfollowed := true, recurses := true, plainKeys := false, apart := false, narrowed := true }
def FairMoreUptoSaid : Prop := fairMoreUptoRow.holds Try.pinned (OpenSpec.upto fairMoreSpec)

/-- 'drownerlaw06.FairMends', WHERE WHAT IT READS IS OF BULK AT MOST 1048576: true; the input reads as it did. -/
def fairMendsUptoRow : OpenClaim := { program := "ytiofdfjcaklmcaa", sum := "2ec8c3f6ed78d59d86cfcf3f89ac5258741bed1f0abf360c28812ede4c07bc83", func := "drowner/drownerlaw06.FairMends", spec := "fairMends", unfollowed := true, recurses := true, plainKeys := false, apart := false, narrowed := true }
def FairMendsUptoSaid : Prop := fairMendsUptoRow.holds Try.pinned (OpenSpec.upto fairMendsSpec)

/-- 'drownerlaw06.FairProofs', WHERE WHAT IT READS IS OF BULK AT MOST 1048576: true; the input reads as it did. -/
def fairProofsUptoRow : OpenClaim := { program := "ytiofdfjcaklmcaa", sum := "2ec8c3f6ed78d59d86cfcf3f89ac5258741bed1f0abf360c28812ede4c07bc83", func := "drowner/drownerlaw06.FairProofs", spec := "fairProofs", unfollowed := true, recurses := true, plainKeys := false, apart := false, narrowed := true }
def FairProofsUptoSaid : Prop := fairProofsUptoRow.holds Try.pinned (OpenSpec.upto fairProofsSpec)

/-- 'drownerlaw06.FairOne', WHERE WHAT IT READS IS OF BULK AT MOST 1048576: true; the input reads as it did. -/
def fairOneUptoRow : OpenClaim := { program := "ytiofdfjcaklmcaa", sum := "2ec8c3f6ed78d59d86cfcf3f89ac5258741bed1f0abf360c28812ede4c07bc83", func := "drowner/drownerlaw06.FairOne", spec := "fairOne", unfollowed := true, recurses := true, plainKeys := false, apart := false, narrowed := true }
def FairOneUptoSaid : Prop := fairOneUptoRow.holds Try.pinned (OpenSpec.upto fairOneSpec)

/-- 'drownerlaw06.FairFew', WHERE WHAT IT READS IS OF BULK AT MOST 1048576: true; the input reads as it did. -/
def fairFewUptoRow : OpenClaim := { program := "ytiofdfjcaklmcaa", sum := "2ec8c3f6ed78d59d86cfcf3f89ac5258741bed1f0abf360c28812ede4c07bc83", func := "drowner/drownerlaw06.FairFew", spec := "fairFew", unfollowed := true, recurses := true, plainKeys := false, apart := false, narrowed := true }
def FairFewUptoSaid : Prop := fairFewUptoRow.holds Try.pinned (OpenSpec.upto fairFewSpec)

/-- 'drownerlaw06.FairRounds', WHERE WHAT IT READS IS OF BULK AT MOST 1048576: true; the input reads as it did. -/
def fairRoundsUptoRow : OpenClaim := { program := "ytiofdfjcaklmcaa", sum := "2ec8c3f6ed78d59d86cfcf3f89ac5258741bed1f0abf360c28812ede4c07bc83", func := "drowner/drownerlaw06.FairRounds", spec := "fairRounds", unfollowed := true, recurses := true, plainKeys := false, apart := false, narrowed := true }
def FairRoundsUptoSaid : Prop := fairRoundsUptoRow.holds Try.pinned (OpenSpec.upto fairRoundsSpec)

end Rows
end Go.Proofs.Ytiofdfjcaklmcaa
