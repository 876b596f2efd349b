-- Printed by this session's own program (wip/tools/widen.py over the kit's print): not the kit's print itself
import Derived.Test.YtcdfoicebcmlaaaProg
import Derived.Below
import Derived.Deep.Draws
import Derived.Deep.AppendLies
import Derived.Maps.AppendAt
import Derived.OwnWalk
import Derived.Laws.BytesArg
import Derived.Laws.MakeOwn
import Derived.Laws.OwnMore
import Derived.Deep.OwnRows
import Derived.Tactics
import Derived.Lib.ConvBytes
import Derived.Laws.Slices
import Derived.WalkKit
import Derived.KernelRfl
import Derived.RowKit3
import Derived.Deep.LoopGhost
import Derived.Deep.QuietTactic
import Derived.BigQuiet
import Derived.WideLaws
import Derived.Deep.DeepCutAuto
import Derived.Deep.CutBlock
import Derived.Deep.RegionHeld3
import Derived.Laws.Rows
import Derived.Lib.AppendStr
import Derived.ArgAppend
import Derived.Laws.IdiomCopy
import Derived.OrdersHeld
import Derived.Laws.BitsLemmas
import Derived.RowKit
import Derived.Test.YtcdfoicebcmlaaaWWords
import Derived.Test.YtcdfoicebcmlaaaWLast
import Derived.Test.YtcdfoicebcmlaaaWTab
import Derived.Test.YtcdfoicebcmlaaaWFour
import Derived.Test.YtcdfoicebcmlaaaWQPut
import Derived.Test.YtcdfoicebcmlaaaWApart
import Derived.Test.YtcdfoicebcmlaaaWArr
import Derived.Test.YtcdfoicebcmlaaaWZeros
import Derived.Test.YtcdfoicebcmlaaaWFoot
import Derived.Test.YtcdfoicebcmlaaaWKept
import Derived.Test.YtcdfoicebcmlaaaWShare
import Derived.Test.YtcdfoicebcmlaaaWN
import Derived.Test.YtcdfoicebcmlaaaWFootNe
import Derived.Test.YtcdfoicebcmlaaaWAt
import Derived.Test.YtcdfoicebcmlaaaWEqStruct
import Derived.Test.YtcdfoicebcmlaaaWRepsOne
import Derived.Test.YtcdfoicebcmlaaaWInv
import Derived.Test.YtcdfoicebcmlaaaWInvWords
import Derived.Test.YtcdfoicebcmlaaaWGuard
import Derived.Test.YtcdfoicebcmlaaaWNEv
import Derived.Test.YtcdfoicebcmlaaaWMore
namespace Go.Proofs.Ytcdfoicebcmlaaa.PSample
open Go.RowKit Go.Proofs.YtcdfoicebcmlaaaW.PrintWords Go.Proofs.YtcdfoicebcmlaaaW.PrintLast Go.Proofs.YtcdfoicebcmlaaaW.PrintMore
attribute [local go_sem] max2_int min2_int max_two min_two max_three min_three max_four min_four   -- for this text's walks alone
set_option linter.unusedVariables false
set_option linter.unusedSimpArgs false



theorem tdiv_top (y : Int) : Int.tdiv 9223372036854775807 y = 9223372036854775807 / y := Int.tdiv_eq_ediv_of_nonneg (by decide)
def errW : Option Int → Value
  | none => .nilIface
  | some c => .iface 0 (.int .i64 c)
theorem errW_none : errW none = .nilIface := rfl
theorem errW_some (c : Int) : errW (some c) = .iface 0 (.int .i64 c) := rfl

theorem info3 : (Try.prog.info? 3).map (fun i => (i.zero, i.size, i.bytes)) = some (some (.int .i64 0), 1, 8) := by kernel_rfl
-- the values' own types

end Go.Proofs.Ytcdfoicebcmlaaa.PSample
