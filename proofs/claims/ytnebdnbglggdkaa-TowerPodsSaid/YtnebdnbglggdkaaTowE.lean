/- What is seen, over abstract heaps: told; the law TowerCounts. -/
import Derived.Test.YtnebdnbglggdkaaTowD
namespace Go.Proofs.YtnebdnbglggdkaaW.Am
open Go Go.RowKit
theorem tower_told (h : Hp) : ACall PT 19 [] h (fun v g => v = .bool true ∧ h = g) := closed_true hIrT (by kernel_rfl) 400 rfl (by kernel_rfl) h
/-- The document's settings. -/
def cfD : Cf20 := ⟨10000, 700, 60, 6, 1, 2000, 10000, 2000, 0, 0, 1, 30, 0, 20000, 10, 100, 60, 3, 0, 0⟩
theorem default_ok (h : Hp) : ACall PT 18 [] h (fun v g => v = .agg ⟨cs20 cfD⟩ ∧ h = g) := closed_val hIrT (by kernel_rfl) 20 rfl rfl (by kernel_rfl) h
theorem cfD_may : mayB cfD = true := by decide
end Go.Proofs.YtnebdnbglggdkaaW.Am
