/- What the rows list: a world that holds the tables; what the condition gives. -/
import Derived.Test.YtnebdnbglggdkaaDoorRows
import Derived.Test.YtnebdnbglggdkaaDoorAmOp
import Derived.Deep.DeepLaidRun
import Derived.Stop.LaidErr
namespace Go.Proofs.YtnebdnbglggdkaaDoorW.Am
open Go Go.RowKit
open Go.Proofs.YtnebdnbglggdkaaDoor
def cellsL : DataW Unit → Array Value
  | .agg l => (l.map fun | .lit (.int k z) => Value.int k z | _ => .bool false).toArray
  | _ => #[]
noncomputable def laidWorld (os : Os) : World :=
  let w0 := World.holding Go.Proofs.Tryd.prog os ⟨#[], #[], []⟩
  { w0 with heap := ((w0.heap.modify 2 fun
      | .cells _ t frozen => .cells (cellsL Rows.laid_math_bits_deBruijn32tab) t frozen
      | o => o).modify 3 fun
      | .cells _ t frozen => .cells (cellsL Rows.laid_math_bits_deBruijn64tab) t frozen
      | o => o).modify 0 fun
      | .cells _ t frozen => .cells (cellsL Rows.laid_internal_strconv_uint64pow10) t frozen
      | o => o }
abbrev laidL : List (String × DataW Unit) := [("math/bits.deBruijn32tab", Rows.laid_math_bits_deBruijn32tab), ("math/bits.deBruijn64tab", Rows.laid_math_bits_deBruijn64tab), ("internal/strconv.uint64pow10", Rows.laid_internal_strconv_uint64pow10)]
theorem gP : Go.Proofs.Tryd.prog.globalNamed "internal/strconv.uint64pow10" = some 0 := by kernel_rfl
theorem tb_laid {W : World} (h : laidMet Go.Proofs.Tryd.prog laidL W) : TbP W :=
  Go.Lib.tabIs_of_head (rest := []) gP (by kernel_rfl : (Go.Proofs.Tryd.prog.globals[0]?).map (·.type) = some 72) Go.Proofs.Tryd.underlying72 Go.Proofs.Tryd.underlying64 (by kernel_rfl) (by kernel_rfl) (laidMet.tail (laidMet.tail h))
theorem hz_laid {W : World} (h : laidMet Go.Proofs.Tryd.prog laidL W) : 0 < W.heap.size :=
  (cell_at (Go.Lib.TabIs.cell (tb_laid h) gP 0 (by decide))).2
theorem laid_met (os : Os) (args : Array Value) : laidMet Go.Proofs.Tryd.prog laidL ((laidWorld os).forCall (fun _ _ => 0) ⟨#[], args, []⟩).memory :=
  laidMet_of_run3 10 (by kernel_rfl) (by kernel_rfl) (by kernel_rfl)
end Go.Proofs.YtnebdnbglggdkaaDoorW.Am
