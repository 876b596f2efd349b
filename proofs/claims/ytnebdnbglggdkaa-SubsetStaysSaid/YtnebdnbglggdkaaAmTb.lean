/- What the program's tables hold: of this program nothing is asked. -/
import Derived.Test.YtnebdnbglggdkaaAmA
namespace Go.Proofs.YtnebdnbglggdkaaW.Am
open Go Go.RowKit
def TbP (_ : World) : Prop := True
/-- Is it kept that nothing is drawn backwards? -/
def DrOn : Prop := True
end Go.Proofs.YtnebdnbglggdkaaW.Am
