/- The instructions of functions of the program, each with the proof that it is what the program has. Printed by a program of this session (irdump.lean, irfile.py). -/
import Derived.Test.YtcdfoicebcmlaaaAmQ
import Derived.Test.YtcdfoicebcmlaaaProg
import Derived.KernelRfl
namespace Go.Proofs.YtcdfoicebcmlaaaW.Am
open Go
/-- spinnaker/spinnakerref18.old -/
def ir53 : FI :=
  ⟨19, [.tmp 6], .seq (.reg [⟨some 6, none, .op .mv [.const (.bool false)]⟩]) (.seq (.seq (.reg [⟨some 7, none, .op .mv [.tmp 0]⟩, ⟨some 8, none, .op .mv [.tmp 1]⟩, ⟨some 9, none, .op (.bin .lss) [.tmp 7, .tmp 8]⟩]) (.cond (.tmp 9) (.seq (.reg [⟨some 6, none, .op .mv [.const (.bool false)]⟩]) (.ret)) (.skip))) (.seq (.reg [⟨some 10, none, .op .mv [.tmp 0]⟩, ⟨some 11, none, .op (.cvt .u64) [.tmp 10]⟩, ⟨some 12, none, .op .mv [.tmp 1]⟩, ⟨some 13, none, .op (.cvt .u64) [.tmp 12]⟩, ⟨some 14, none, .op (.bin .sub) [.tmp 11, .tmp 13]⟩, ⟨some 15, none, .op .mv [.tmp 2]⟩, ⟨some 16, none, .op (.mm true) [.tmp 15, .const (.int .i64 0)]⟩, ⟨some 17, none, .op (.cvt .u64) [.tmp 16]⟩, ⟨some 18, none, .op (.bin .geq) [.tmp 14, .tmp 17]⟩, ⟨some 6, none, .op .mv [.tmp 18]⟩]) (.ret)))⟩
theorem c53 : compF Go.Proofs.Try.prog Go.Proofs.Try.f53 = some ir53 := by kernel_rfl
end Go.Proofs.YtcdfoicebcmlaaaW.Am
