/- The chapter's examples: what the functions return there. -/
import Derived.Test.YtejmmfjabmmihaaDoorOften
import Derived.Test.YtejmmfjabmmihaaDoorPer
import Derived.Test.YtejmmfjabmmihaaDoorPrint
import Derived.Test.YtejmmfjabmmihaaDoorParse
import Derived.Test.YtejmmfjabmmihaaDoorSpans
import Derived.Test.YtejmmfjabmmihaaDoorFirst
namespace Go.Proofs.YtejmmfjabmmihaaDoor
open Go.RowKit Go.Shelf

def exN : Mn := ⟨[⟨10, 2, 3⟩], []⟩
def exS : Mn := ⟨[⟨10, 2, 3⟩], [⟨4, 6⟩]⟩
def exP : Mn := ⟨[⟨6, 0, 1⟩, ⟨6, 3, 1⟩], []⟩
def exT1 : List UInt8 := [101, 118, 101, 114, 121, 32, 49, 48, 32, 102, 114, 111, 109, 32, 49, 48, 32, 102, 111, 114, 32, 51, 59]
def exT2 : List UInt8 := [98, 101, 116, 119, 101, 101, 110, 32, 53, 48, 32, 97, 110, 100, 32, 52, 59]
theorem v_next : nextX exN 5 = 12 ∧ nextE exN 5 = 0 := by decide +kernel
theorem v_firstN : firstE 10 2 3 15 5 2 = 5 := by decide +kernel
theorem v_apart : aptX 10 2 3 15 5 2 = 5 ∧ aptB 10 2 3 15 5 2 = true ∧ pairE 10 2 3 15 5 2 = 0 := by decide +kernel
theorem v_first : firstX 10 2 3 15 4 2 = 4 ∧ firstE 10 2 3 15 4 2 = 0 := by decide +kernel
theorem v_often : oftX 10 2 3 15 4 2 = 1 ∧ oftL 10 2 3 15 4 2 = 30 ∧ pairE 10 2 3 15 4 2 = 0 := by decide +kernel
theorem v_spans : spansX exS 0 13 = [⟨2, 6⟩, ⟨12, 13⟩] ∧ spansE exS 0 13 = 0 := ⟨by kernel_rfl, by kernel_rfl⟩
theorem v_count : cntX exS 0 13 = 7 ∧ spnE exS 0 13 = 0 := by decide +kernel
theorem v_per : perX exP = 3 ∧ whlE exP = 0 := by decide +kernel
theorem v_print : prtX exS = [101, 118, 101, 114, 121, 32, 49, 48, 32, 102, 114, 111, 109, 32, 50, 32, 102, 111, 114, 32, 51, 59, 10, 98, 101, 116, 119, 101, 101, 110, 32, 52, 32, 97, 110, 100, 32, 54, 59, 10] ∧ chkE exS = 0 := by decide +kernel
theorem v_prs1 : prsE exT1 = 7 ∧ prsA exT1 = 15 := by decide +kernel
theorem v_prs2 : prsE exT2 = 7 ∧ prsA exT2 = 16 := by decide +kernel
theorem v_cha : chaE 10 2 3 15 5 2 10 = 8 := by decide +kernel
end Go.Proofs.YtejmmfjabmmihaaDoor
