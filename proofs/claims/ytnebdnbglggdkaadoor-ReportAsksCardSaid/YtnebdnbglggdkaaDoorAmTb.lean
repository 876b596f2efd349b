/- What the program's tables hold: the powers of ten that numbers are printed by. -/
import Derived.Test.YtnebdnbglggdkaaDoorAmA
import Derived.Test.YtnebdnbglggdkaaDoorProg
import Derived.Lib.LaidTab
import Derived.Lib.AppendIntMem
namespace Go.Proofs.YtnebdnbglggdkaaDoorW.Am
open Go Go.RowKit
def TbP (w : World) : Prop := Go.Lib.TabIs Go.Proofs.Tryd.prog w "internal/strconv.uint64pow10" .u64 Go.Lib.pow10Tab
/-- Is it kept that nothing is drawn backwards? -/
def DrOn : Prop := False
theorem tb_of {W : World} (h : TbP W) : ∀ w', Below W.heap.size W w' → TbP w' := fun w' hb => Go.Lib.tabBelow_of_tabIs h w' hb
end Go.Proofs.YtnebdnbglggdkaaDoorW.Am
