/- A world for the witnesses: the settled one, the three tables holding what they are laid with. -/
import Derived.Test.YtejmmfjabmmihaaDoorLift
namespace Go.Proofs.YtejmmfjabmmihaaDoor
open Go.ChangeShapes Go.WideShapes Go.ChangeAt Go.RowKit

/-- a table's cells, off its datum -/
def tabCells : DataW Unit → Array Value
  | .agg l => (l.map fun | .lit (.int k n) => Value.int k n | _ => undef).toArray
  | _ => #[]
def layTab (d : DataW Unit) : Obj → Obj
  | .cells _ t frozen => .cells (tabCells d) t frozen
  | o => o
noncomputable def laidWorld (os : Os) : World :=
  { World.holding Tryd.prog os ⟨#[], #[], []⟩ with heap := (((World.holding Tryd.prog os ⟨#[], #[], []⟩).heap.modify 0 (layTab Rows.laid_internal_strconv_uint64pow10)).modify 1 (layTab Rows.laid_math_bits_deBruijn32tab)).modify 2 (layTab Rows.laid_math_bits_deBruijn64tab) }
def laidL : List (String × DataW Unit) := [("math/bits.deBruijn32tab", Rows.laid_math_bits_deBruijn32tab), ("math/bits.deBruijn64tab", Rows.laid_math_bits_deBruijn64tab), ("internal/strconv.uint64pow10", Rows.laid_internal_strconv_uint64pow10)]
theorem tab_of {W : World} (h : laidMetH Tryd.prog laidL W) : Tab W :=
  tab_of_laid (show Rows.laid_internal_strconv_uint64pow10 = Lib.tabData .u64 Lib.pow10Tab by kernel_rfl) (show laidMet Tryd.prog laidL W from h)
end Go.Proofs.YtejmmfjabmmihaaDoor
