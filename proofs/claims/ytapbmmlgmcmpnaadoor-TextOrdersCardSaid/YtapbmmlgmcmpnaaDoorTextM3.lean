/- The instructions of functions of the program, each with the proof that it is what the program has. Printed by a program of this session (irdump.lean, irfile.py). -/
import Derived.Test.YtapbmmlgmcmpnaaDoorTextM2
import Derived.Test.YtapbmmlgmcmpnaaDoorProg
import Derived.KernelRfl
import Derived.Laws.StructEq
import Derived.Shelf.Strings.Builder1
import Derived.Shelf.Strings.Trim
import Derived.Shelf.Small.Utf8
import Derived.Shelf.Small.Strs
import Derived.Shelf.Small.Wraps
import Derived.Shelf.Strconv.Itoa0
import Derived.Shelf.Strconv.Itoa1
import Derived.Shelf.LaysM
import Derived.Shelf.Strconv.Itoa2
import Derived.Shelf.Strconv.Itoa3
import Derived.Shelf.Strconv.Itoa4
import Derived.Shelf.Strconv.ParseIntEmpty
import Derived.Shelf.Strconv.Clone
import Derived.Shelf.Strconv.SyntaxError
import Derived.Shelf.LaysC
import Derived.Shelf.Strconv.ToError
import Derived.Shelf.Strconv.Lower
import Derived.Shelf.Strconv.ParseUint10
import Derived.Shelf.Strconv.ParseUint10Empty
import Derived.Shelf.Strconv.ParseUint10Any
import Derived.Shelf.Strconv.ParseInt10
import Derived.Shelf.Strconv.RangeError
import Derived.Shelf.Strconv.ToErrorRange
import Derived.Shelf.Strconv.ParseUintEmpty
import Derived.Shelf.Strconv.ParseUint10b64
import Derived.Shelf.Strconv.ParseUint10b32
import Derived.Shelf.Strconv.ParseUint10b16
import Derived.Shelf.Strconv.ParseUint10b8
import Derived.Shelf.Strconv.ParseUint10At
import Derived.Shelf.Strconv.ParseInt10At64
import Derived.Shelf.Strconv.ParseInt10At32
import Derived.Shelf.Strconv.ParseInt10At16
import Derived.Shelf.Strconv.ParseInt10At8
import Derived.Shelf.Strconv.ParseInt10All
import Derived.Shelf.Strconv.ParseIntPublic10
import Derived.Shelf.Strings.Search1
import Derived.Shelf.Strings.Search2
import Derived.Shelf.Strings.Search3
import Derived.Shelf.Strings.Cut
import Derived.Shelf.Strings.Count
import Derived.Shelf.Strings.Shaped
import Derived.Shelf.Strings.Prefix
import Derived.Shelf.Strings.Split
import Derived.Shelf.Strings.SplitShaped
import Derived.Shelf.Strings.Runes
import Derived.Shelf.Strings.AsciiSet
import Derived.Shelf.Unicode.DecodeSlow
import Derived.Test.YtapbmmlgmcmpnaaDoorTextM1
import Derived.Lib.SlTrimSet
import Derived.Lib.ParseIntB
import Derived.Lib.IndexMore
import Derived.Sort.Grow
import Derived.Deep.Draws
import Derived.Shelf.Strings.SlTrimAscii
import Derived.Lib.SmallJoins
namespace Go.Proofs.YtapbmmlgmcmpnaaDoorW.Am
open Go
/-- spinnaker/spinnakerlaw4.TextBlanks -/
def ir3 : FI :=
  ⟨82, [.tmp 4], .seq (.reg [⟨some 4, none, .op .mv [.const (.bool false)]⟩]) (.seq (.reg [⟨some 17, none, .op .mv [.tmp 0]⟩, ⟨some 18, none, .op (.cvt .u64) [.tmp 17]⟩, ⟨some 19, none, .op (.bin .rem) [.tmp 18, .const (.int .u64 10)]⟩, ⟨some 20, none, .op (.cvt .i64) [.tmp 19]⟩, ⟨some 21, none, .op .mv [.tmp 1]⟩, ⟨some 22, none, .op (.cvt .u64) [.tmp 21]⟩, ⟨some 23, none, .op (.bin .rem) [.tmp 22, .const (.int .u64 10)]⟩, ⟨some 24, none, .op (.cvt .i64) [.tmp 23]⟩, ⟨some 5, none, .op .mv [.tmp 20]⟩, ⟨some 6, none, .op .mv [.tmp 24]⟩]) (.seq (.reg [⟨some 7, none, .op .mv [.const (.string ⟨#[]⟩)]⟩]) (.seq (.seq (.reg [⟨some 8, none, .op .mv [.const (.int .i64 0)]⟩]) (.block 0 (.loop (.seq (.seq (.reg [⟨some 25, none, .op .mv [.tmp 8]⟩, ⟨some 26, none, .op .mv [.tmp 5]⟩, ⟨some 27, none, .op (.bin .lss) [.tmp 25, .tmp 26]⟩]) (.cond (.tmp 27) (.skip) (.exit 0))) (.seq (.block 1 (.reg [⟨some 30, none, .op .mv [.tmp 7]⟩, ⟨some 31, none, .op (.bin .add) [.tmp 30, .const (.string ⟨#[32, 32, 32, 10]⟩)]⟩, ⟨some 7, none, .op .mv [.tmp 31]⟩])) (.reg [⟨some 28, none, .op .mv [.tmp 8]⟩, ⟨some 29, none, .op (.bin .add) [.tmp 28, .const (.int .i64 1)]⟩, ⟨some 8, none, .op .mv [.tmp 29]⟩])))))) (.seq (.seq (.reg [⟨some 9, none, .op .mv [.const (.int .i64 0)]⟩]) (.block 2 (.loop (.seq (.seq (.reg [⟨some 32, none, .op .mv [.tmp 9]⟩, ⟨some 33, none, .op .mv [.tmp 6]⟩, ⟨some 34, none, .op (.bin .lss) [.tmp 32, .tmp 33]⟩]) (.cond (.tmp 34) (.skip) (.exit 2))) (.seq (.block 3 (.reg [⟨some 37, none, .op .mv [.tmp 7]⟩, ⟨some 38, none, .op (.bin .add) [.tmp 37, .const (.string ⟨#[32, 35, 32, 109, 105, 110, 58, 32, 57, 10]⟩)]⟩, ⟨some 7, none, .op .mv [.tmp 38]⟩])) (.reg [⟨some 35, none, .op .mv [.tmp 9]⟩, ⟨some 36, none, .op (.bin .add) [.tmp 35, .const (.int .i64 1)]⟩, ⟨some 9, none, .op .mv [.tmp 36]⟩])))))) (.seq (.reg [⟨some 39, none, .call 9 []⟩, ⟨some 10, none, .op (.new 24 (.agg #[(.int .i64 0), (.int .i64 0), (.int .i64 0), (.int .i64 0), (.int .i64 0), (.int .i64 0), (.int .i64 0), (.int .i64 0), (.int .i64 0), (.int .i64 0), (.int .i64 0), (.int .i64 0), (.int .i64 0), (.int .i64 0), (.int .i64 0), (.int .i64 0), (.int .i64 0), (.int .i64 0), (.int .i64 0), (.int .i64 0)])) []⟩, ⟨none, none, .op (.st 20) [.tmp 10, .tmp 39]⟩]) (.seq (.reg [⟨some 41, none, .op (.ldn 20) [.tmp 10]⟩, ⟨some 42, none, .op .mv [.tmp 7]⟩, ⟨some 43, none, .op (.bin .add) [.tmp 42, .const (.string ⟨#[32, 32, 109, 105, 110, 58, 32, 51, 32, 32, 32]⟩)]⟩, ⟨some 44, none, .call 10 [.tmp 41, .tmp 43]⟩, ⟨some 40, none, .op .mv [.tmp 44]⟩, ⟨some 45, none, .op (.ext 0) [.tmp 40]⟩, ⟨some 46, none, .op (.ext 1) [.tmp 40]⟩, ⟨some 47, none, .op (.ext 2) [.tmp 40]⟩, ⟨some 11, none, .op (.new 24 (.agg #[(.int .i64 0), (.int .i64 0), (.int .i64 0), (.int .i64 0), (.int .i64 0), (.int .i64 0), (.int .i64 0), (.int .i64 0), (.int .i64 0), (.int .i64 0), (.int .i64 0), (.int .i64 0), (.int .i64 0), (.int .i64 0), (.int .i64 0), (.int .i64 0), (.int .i64 0), (.int .i64 0), (.int .i64 0), (.int .i64 0)])) []⟩, ⟨none, none, .op (.st 20) [.tmp 11, .tmp 45]⟩, ⟨some 12, none, .op .mv [.tmp 46]⟩, ⟨some 13, none, .op .mv [.tmp 47]⟩]) (.seq (.reg [⟨some 49, none, .op (.ldn 20) [.tmp 10]⟩, ⟨some 50, none, .op .mv [.tmp 7]⟩, ⟨some 51, none, .op (.bin .add) [.tmp 50, .const (.string ⟨#[109, 105, 110, 58, 32, 51, 10, 109, 105, 110, 32, 52]⟩)]⟩, ⟨some 52, none, .call 10 [.tmp 49, .tmp 51]⟩, ⟨some 48, none, .op .mv [.tmp 52]⟩, ⟨some 53, none, .op (.ext 0) [.tmp 48]⟩, ⟨some 54, none, .op (.ext 1) [.tmp 48]⟩, ⟨some 55, none, .op (.ext 2) [.tmp 48]⟩, ⟨some 14, none, .op (.new 24 (.agg #[(.int .i64 0), (.int .i64 0), (.int .i64 0), (.int .i64 0), (.int .i64 0), (.int .i64 0), (.int .i64 0), (.int .i64 0), (.int .i64 0), (.int .i64 0), (.int .i64 0), (.int .i64 0), (.int .i64 0), (.int .i64 0), (.int .i64 0), (.int .i64 0), (.int .i64 0), (.int .i64 0), (.int .i64 0), (.int .i64 0)])) []⟩, ⟨none, none, .op (.st 20) [.tmp 14, .tmp 53]⟩, ⟨some 15, none, .op .mv [.tmp 54]⟩, ⟨some 16, none, .op .mv [.tmp 55]⟩]) (.seq (.reg [⟨some 56, none, .call 11 []⟩, ⟨some 57, none, .op .mv [.tmp 56]⟩, ⟨some 58, some (57, true), .op .mv [.tmp 12]⟩, ⟨some 59, some (57, true), .op (.bin .eql) [.tmp 58, .const (.int .i64 0)]⟩, ⟨some 60, none, .op .pick [.tmp 57, .tmp 59, .const (.bool false)]⟩, ⟨some 61, none, .op .mv [.tmp 60]⟩, ⟨some 62, some (61, true), .op .mv [.tmp 13]⟩, ⟨some 63, some (61, true), .op (.bin .eql) [.tmp 62, .const (.int .i64 0)]⟩, ⟨some 64, none, .op .pick [.tmp 61, .tmp 63, .const (.bool false)]⟩, ⟨some 65, none, .op .mv [.tmp 64]⟩, ⟨some 66, some (65, true), .op (.fad 8) [.tmp 11]⟩, ⟨some 67, some (65, true), .op .ld1 [.tmp 66]⟩, ⟨some 68, some (65, true), .op (.bin .eql) [.tmp 67, .const (.int .i64 3)]⟩, ⟨some 69, none, .op .pick [.tmp 65, .tmp 68, .const (.bool false)]⟩, ⟨some 70, none, .op .mv [.tmp 69]⟩, ⟨some 71, some (70, true), .op .mv [.tmp 15]⟩, ⟨some 72, some (70, true), .op (.bin .neq) [.tmp 71, .const (.int .i64 0)]⟩, ⟨some 73, none, .op .pick [.tmp 70, .tmp 72, .const (.bool false)]⟩, ⟨some 74, none, .op .mv [.tmp 73]⟩, ⟨some 75, some (74, true), .op .mv [.tmp 16]⟩, ⟨some 76, some (74, true), .op .mv [.tmp 5]⟩, ⟨some 77, some (74, true), .op .mv [.tmp 6]⟩, ⟨some 78, some (74, true), .op (.bin .add) [.tmp 76, .tmp 77]⟩, ⟨some 79, some (74, true), .op (.bin .add) [.tmp 78, .const (.int .i64 2)]⟩, ⟨some 80, some (74, true), .op (.bin .eql) [.tmp 75, .tmp 79]⟩, ⟨some 81, none, .op .pick [.tmp 74, .tmp 80, .const (.bool false)]⟩, ⟨some 4, none, .op .mv [.tmp 81]⟩]) (.ret)))))))))⟩
theorem c3 : compF Go.Proofs.Tryd.prog Go.Proofs.Tryd.f3 = some ir3 := by kernel_rfl
/-- spinnaker/spinnakerlaw4.TextAsks -/
def ir4 : FI :=
  ⟨131, [.tmp 8], .seq (.reg [⟨some 6, none, .op (.box 24) [.tmp 2]⟩, ⟨some 8, none, .op .mv [.const (.bool false)]⟩]) (.seq (.seq (.reg [⟨some 25, none, .op .mv [.tmp 0]⟩, ⟨some 26, none, .op .lens [.tmp 25]⟩, ⟨some 27, none, .op (.bin .gtr) [.tmp 26, .const (.int .i64 30)]⟩, ⟨some 28, none, .op .mv [.tmp 27]⟩, ⟨some 29, some (28, false), .op .mv [.tmp 3]⟩, ⟨some 30, some (28, false), .op .len [.tmp 29]⟩, ⟨some 31, some (28, false), .op (.bin .gtr) [.tmp 30, .const (.int .i64 12)]⟩, ⟨some 32, none, .op .pick [.tmp 28, .const (.bool true), .tmp 31]⟩]) (.cond (.tmp 32) (.seq (.reg [⟨some 33, none, .call 11 []⟩, ⟨some 8, none, .op .mv [.tmp 33]⟩]) (.ret)) (.skip))) (.seq (.reg [⟨some 9, none, .op .mv [.const (.string ⟨#[]⟩)]⟩]) (.seq (.seq (.reg [⟨some 10, none, .op .mv [.const (.int .i64 0)]⟩]) (.block 0 (.loop (.seq (.seq (.reg [⟨some 34, none, .op .mv [.tmp 10]⟩, ⟨some 35, none, .op .mv [.tmp 3]⟩, ⟨some 36, none, .op .len [.tmp 35]⟩, ⟨some 37, none, .op (.bin .lss) [.tmp 34, .tmp 36]⟩]) (.cond (.tmp 37) (.skip) (.exit 0))) (.seq (.block 1 (.seq (.seq (.reg [⟨some 40, none, .op .mv [.tmp 3]⟩, ⟨some 41, none, .op .mv [.tmp 10]⟩, ⟨some 42, none, .op (.iad 1) [.tmp 40, .tmp 41]⟩, ⟨some 43, none, .op .ld1 [.tmp 42]⟩, ⟨some 44, none, .op .lens [.tmp 43]⟩, ⟨some 45, none, .op (.bin .gtr) [.tmp 44, .const (.int .i64 40)]⟩]) (.cond (.tmp 45) (.seq (.reg [⟨some 46, none, .call 11 []⟩, ⟨some 8, none, .op .mv [.tmp 46]⟩]) (.ret)) (.skip))) (.reg [⟨some 47, none, .op .mv [.tmp 9]⟩, ⟨some 48, none, .op .mv [.tmp 3]⟩, ⟨some 49, none, .op .mv [.tmp 10]⟩, ⟨some 50, none, .op (.iad 1) [.tmp 48, .tmp 49]⟩, ⟨some 51, none, .op .ld1 [.tmp 50]⟩, ⟨some 52, none, .op (.bin .add) [.tmp 47, .tmp 51]⟩, ⟨some 53, none, .op (.bin .add) [.tmp 52, .const (.string ⟨#[10]⟩)]⟩, ⟨some 9, none, .op .mv [.tmp 53]⟩]))) (.reg [⟨some 38, none, .op .mv [.tmp 10]⟩, ⟨some 39, none, .op (.bin .add) [.tmp 38, .const (.int .i64 1)]⟩, ⟨some 10, none, .op .mv [.tmp 39]⟩])))))) (.seq (.reg [⟨some 55, none, .op .mv [.tmp 0]⟩, ⟨some 56, none, .call 12 [.tmp 55]⟩, ⟨some 54, none, .op .mv [.tmp 56]⟩, ⟨some 57, none, .op (.ext 0) [.tmp 54]⟩, ⟨some 58, none, .op (.ext 1) [.tmp 54]⟩, ⟨some 11, none, .op .mv [.tmp 57]⟩, ⟨some 12, none, .op .mv [.tmp 58]⟩]) (.seq (.reg [⟨some 60, none, .op .mv [.tmp 0]⟩, ⟨some 61, none, .call 13 [.tmp 60]⟩, ⟨some 59, none, .op .mv [.tmp 61]⟩, ⟨some 62, none, .op (.ext 0) [.tmp 59]⟩, ⟨some 63, none, .op (.ext 1) [.tmp 59]⟩, ⟨some 13, none, .op .mv [.tmp 62]⟩, ⟨some 14, none, .op .mv [.tmp 63]⟩]) (.seq (.reg [⟨some 65, none, .op (.ldn 20) [.tmp 6]⟩, ⟨some 66, none, .op .mv [.tmp 9]⟩, ⟨some 67, none, .call 10 [.tmp 65, .tmp 66]⟩, ⟨some 64, none, .op .mv [.tmp 67]⟩, ⟨some 68, none, .op (.ext 0) [.tmp 64]⟩, ⟨some 69, none, .op (.ext 1) [.tmp 64]⟩, ⟨some 70, none, .op (.ext 2) [.tmp 64]⟩, ⟨some 15, none, .op (.new 24 (.agg #[(.int .i64 0), (.int .i64 0), (.int .i64 0), (.int .i64 0), (.int .i64 0), (.int .i64 0), (.int .i64 0), (.int .i64 0), (.int .i64 0), (.int .i64 0), (.int .i64 0), (.int .i64 0), (.int .i64 0), (.int .i64 0), (.int .i64 0), (.int .i64 0), (.int .i64 0), (.int .i64 0), (.int .i64 0), (.int .i64 0)])) []⟩, ⟨none, none, .op (.st 20) [.tmp 15, .tmp 68]⟩, ⟨some 16, none, .op .mv [.tmp 69]⟩, ⟨some 17, none, .op .mv [.tmp 70]⟩]) (.seq (.reg [⟨some 72, none, .op (.ldn 20) [.tmp 6]⟩, ⟨some 73, none, .op .mv [.tmp 9]⟩, ⟨some 74, none, .call 14 [.tmp 72, .tmp 73]⟩, ⟨some 71, none, .op .mv [.tmp 74]⟩, ⟨some 75, none, .op (.ext 0) [.tmp 71]⟩, ⟨some 76, none, .op (.ext 1) [.tmp 71]⟩, ⟨some 77, none, .op (.ext 2) [.tmp 71]⟩, ⟨some 18, none, .op (.new 24 (.agg #[(.int .i64 0), (.int .i64 0), (.int .i64 0), (.int .i64 0), (.int .i64 0), (.int .i64 0), (.int .i64 0), (.int .i64 0), (.int .i64 0), (.int .i64 0), (.int .i64 0), (.int .i64 0), (.int .i64 0), (.int .i64 0), (.int .i64 0), (.int .i64 0), (.int .i64 0), (.int .i64 0), (.int .i64 0), (.int .i64 0)])) []⟩, ⟨none, none, .op (.st 20) [.tmp 18, .tmp 75]⟩, ⟨some 19, none, .op .mv [.tmp 76]⟩, ⟨some 20, none, .op .mv [.tmp 77]⟩]) (.seq (.reg [⟨some 79, none, .op (.ldn 20) [.tmp 6]⟩, ⟨some 80, none, .call 15 [.tmp 79]⟩, ⟨some 78, none, .op .mv [.tmp 80]⟩, ⟨some 81, none, .op (.ext 0) [.tmp 78]⟩, ⟨some 82, none, .op (.ext 1) [.tmp 78]⟩, ⟨some 21, none, .op .mv [.tmp 81]⟩, ⟨some 22, none, .op .mv [.tmp 82]⟩]) (.seq (.reg [⟨some 84, none, .op (.ldn 20) [.tmp 6]⟩, ⟨some 85, none, .call 16 [.tmp 84]⟩, ⟨some 83, none, .op .mv [.tmp 85]⟩, ⟨some 86, none, .op (.ext 0) [.tmp 83]⟩, ⟨some 87, none, .op (.ext 1) [.tmp 83]⟩, ⟨some 23, none, .op .mv [.tmp 86]⟩, ⟨some 24, none, .op .mv [.tmp 87]⟩]) (.seq (.reg [⟨some 88, none, .call 11 []⟩, ⟨some 89, none, .op .mv [.tmp 88]⟩, ⟨some 90, some (89, true), .op .mv [.tmp 11]⟩, ⟨some 91, some (89, true), .op .mv [.tmp 13]⟩, ⟨some 92, some (89, true), .op (.bin .eql) [.tmp 90, .tmp 91]⟩, ⟨some 93, none, .op .pick [.tmp 89, .tmp 92, .const (.bool false)]⟩, ⟨some 94, none, .op .mv [.tmp 93]⟩, ⟨some 95, some (94, true), .op .mv [.tmp 12]⟩, ⟨some 96, some (94, true), .op .mv [.tmp 14]⟩, ⟨some 97, some (94, true), .op (.bbin .eql) [.tmp 95, .tmp 96]⟩, ⟨some 98, none, .op .pick [.tmp 94, .tmp 97, .const (.bool false)]⟩, ⟨some 99, none, .op .mv [.tmp 98]⟩, ⟨some 100, some (99, true), .op .mv [.tmp 1]⟩, ⟨some 101, some (99, true), .call 17 [.tmp 100]⟩, ⟨some 102, some (99, true), .op .mv [.tmp 1]⟩, ⟨some 103, some (99, true), .call 18 [.tmp 102]⟩, ⟨some 104, some (99, true), .op (.bin .eql) [.tmp 101, .tmp 103]⟩, ⟨some 105, none, .op .pick [.tmp 99, .tmp 104, .const (.bool false)]⟩, ⟨some 106, none, .op .mv [.tmp 105]⟩, ⟨some 107, some (106, true), .op (.ldn 20) [.tmp 15]⟩, ⟨some 108, some (106, true), .op (.ldn 20) [.tmp 18]⟩, ⟨some 109, some (106, true), .fl (.binOp .eql 24 (.tmp 107) (.tmp 108) 24) 4⟩, ⟨some 110, none, .op .pick [.tmp 106, .tmp 109, .const (.bool false)]⟩, ⟨some 111, none, .op .mv [.tmp 110]⟩, ⟨some 112, some (111, true), .op .mv [.tmp 16]⟩, ⟨some 113, some (111, true), .op .mv [.tmp 19]⟩, ⟨some 114, some (111, true), .op (.bin .eql) [.tmp 112, .tmp 113]⟩, ⟨some 115, none, .op .pick [.tmp 111, .tmp 114, .const (.bool false)]⟩, ⟨some 116, none, .op .mv [.tmp 115]⟩, ⟨some 117, some (116, true), .op .mv [.tmp 17]⟩, ⟨some 118, some (116, true), .op .mv [.tmp 20]⟩, ⟨some 119, some (116, true), .op (.bin .eql) [.tmp 117, .tmp 118]⟩, ⟨some 120, none, .op .pick [.tmp 116, .tmp 119, .const (.bool false)]⟩, ⟨some 121, none, .op .mv [.tmp 120]⟩, ⟨some 122, some (121, true), .op .mv [.tmp 21]⟩, ⟨some 123, some (121, true), .op .mv [.tmp 23]⟩, ⟨some 124, some (121, true), .op (.bin .eql) [.tmp 122, .tmp 123]⟩, ⟨some 125, none, .op .pick [.tmp 121, .tmp 124, .const (.bool false)]⟩, ⟨some 126, none, .op .mv [.tmp 125]⟩, ⟨some 127, some (126, true), .op .mv [.tmp 22]⟩, ⟨some 128, some (126, true), .op .mv [.tmp 24]⟩, ⟨some 129, some (126, true), .op (.bin .eql) [.tmp 127, .tmp 128]⟩, ⟨some 130, none, .op .pick [.tmp 126, .tmp 129, .const (.bool false)]⟩, ⟨some 8, none, .op .mv [.tmp 130]⟩]) (.ret)))))))))))⟩
theorem c4 : compF Go.Proofs.Tryd.prog Go.Proofs.Tryd.f4 = some ir4 := by kernel_rfl
/-- spinnaker/spinnakerlaw4.TextBack -/
def ir5 : FI :=
  ⟨82, [.tmp 6], .seq (.reg [⟨some 4, none, .op (.box 24) [.tmp 1]⟩, ⟨some 5, none, .op (.box 24) [.tmp 2]⟩, ⟨some 6, none, .op .mv [.const (.bool false)]⟩]) (.seq (.reg [⟨some 18, none, .op .mv [.tmp 0]⟩, ⟨some 19, none, .op (.bin .rem) [.tmp 18, .const (.int .i64 1000000000000)]⟩, ⟨some 7, none, .op .mv [.tmp 19]⟩]) (.seq (.reg [⟨some 21, none, .op .mv [.tmp 7]⟩, ⟨some 22, none, .call 17 [.tmp 21]⟩, ⟨some 23, none, .call 12 [.tmp 22]⟩, ⟨some 20, none, .op .mv [.tmp 23]⟩, ⟨some 24, none, .op (.ext 0) [.tmp 20]⟩, ⟨some 25, none, .op (.ext 1) [.tmp 20]⟩, ⟨some 8, none, .op .mv [.tmp 24]⟩, ⟨some 9, none, .op .mv [.tmp 25]⟩]) (.seq (.seq (.reg [⟨some 26, none, .op .mv [.tmp 9]⟩, ⟨some 27, none, .op .not [.tmp 26]⟩, ⟨some 28, none, .op .mv [.tmp 27]⟩, ⟨some 29, some (28, false), .op .mv [.tmp 8]⟩, ⟨some 30, some (28, false), .op .mv [.tmp 7]⟩, ⟨some 31, some (28, false), .op (.bin .neq) [.tmp 29, .tmp 30]⟩, ⟨some 32, none, .op .pick [.tmp 28, .const (.bool true), .tmp 31]⟩]) (.cond (.tmp 32) (.seq (.reg [⟨some 6, none, .op .mv [.const (.bool false)]⟩]) (.ret)) (.skip))) (.seq (.reg [⟨some 34, none, .op (.ldn 20) [.tmp 4]⟩, ⟨some 35, none, .call 15 [.tmp 34]⟩, ⟨some 33, none, .op .mv [.tmp 35]⟩, ⟨some 36, none, .op (.ext 0) [.tmp 33]⟩, ⟨some 37, none, .op (.ext 1) [.tmp 33]⟩, ⟨some 10, none, .op .mv [.tmp 36]⟩, ⟨some 11, none, .op .mv [.tmp 37]⟩]) (.seq (.seq (.reg [⟨some 38, none, .op .mv [.tmp 11]⟩, ⟨some 39, none, .op (.bin .neq) [.tmp 38, .const (.int .i64 0)]⟩]) (.cond (.tmp 39) (.seq (.reg [⟨some 40, none, .call 11 []⟩, ⟨some 41, none, .op .mv [.tmp 40]⟩, ⟨some 42, some (41, true), .op (.ldn 20) [.tmp 4]⟩, ⟨some 43, some (41, true), .call 19 [.tmp 42]⟩, ⟨some 44, some (41, true), .op .not [.tmp 43]⟩, ⟨some 45, none, .op .pick [.tmp 41, .tmp 44, .const (.bool false)]⟩, ⟨some 46, none, .op .mv [.tmp 45]⟩, ⟨some 47, some (46, true), .op .mv [.tmp 10]⟩, ⟨some 48, some (46, true), .op (.bin .eql) [.tmp 47, .const (.string ⟨#[]⟩)]⟩, ⟨some 49, none, .op .pick [.tmp 46, .tmp 48, .const (.bool false)]⟩, ⟨some 6, none, .op .mv [.tmp 49]⟩]) (.ret)) (.skip))) (.seq (.reg [⟨some 51, none, .op (.ldn 20) [.tmp 5]⟩, ⟨some 52, none, .op .mv [.tmp 10]⟩, ⟨some 53, none, .call 10 [.tmp 51, .tmp 52]⟩, ⟨some 50, none, .op .mv [.tmp 53]⟩, ⟨some 54, none, .op (.ext 0) [.tmp 50]⟩, ⟨some 55, none, .op (.ext 1) [.tmp 50]⟩, ⟨some 56, none, .op (.ext 2) [.tmp 50]⟩, ⟨some 12, none, .op (.new 24 (.agg #[(.int .i64 0), (.int .i64 0), (.int .i64 0), (.int .i64 0), (.int .i64 0), (.int .i64 0), (.int .i64 0), (.int .i64 0), (.int .i64 0), (.int .i64 0), (.int .i64 0), (.int .i64 0), (.int .i64 0), (.int .i64 0), (.int .i64 0), (.int .i64 0), (.int .i64 0), (.int .i64 0), (.int .i64 0), (.int .i64 0)])) []⟩, ⟨none, none, .op (.st 20) [.tmp 12, .tmp 54]⟩, ⟨some 13, none, .op .mv [.tmp 55]⟩, ⟨some 14, none, .op .mv [.tmp 56]⟩]) (.seq (.reg [⟨some 58, none, .op (.ldn 20) [.tmp 4]⟩, ⟨some 59, none, .call 10 [.tmp 58, .const (.string ⟨#[]⟩)]⟩, ⟨some 57, none, .op .mv [.tmp 59]⟩, ⟨some 60, none, .op (.ext 0) [.tmp 57]⟩, ⟨some 61, none, .op (.ext 1) [.tmp 57]⟩, ⟨some 62, none, .op (.ext 2) [.tmp 57]⟩, ⟨some 15, none, .op (.new 24 (.agg #[(.int .i64 0), (.int .i64 0), (.int .i64 0), (.int .i64 0), (.int .i64 0), (.int .i64 0), (.int .i64 0), (.int .i64 0), (.int .i64 0), (.int .i64 0), (.int .i64 0), (.int .i64 0), (.int .i64 0), (.int .i64 0), (.int .i64 0), (.int .i64 0), (.int .i64 0), (.int .i64 0), (.int .i64 0), (.int .i64 0)])) []⟩, ⟨none, none, .op (.st 20) [.tmp 15, .tmp 60]⟩, ⟨some 16, none, .op .mv [.tmp 61]⟩, ⟨some 17, none, .op .mv [.tmp 62]⟩]) (.seq (.reg [⟨some 63, none, .call 11 []⟩, ⟨some 64, none, .op .mv [.tmp 63]⟩, ⟨some 65, some (64, true), .op .mv [.tmp 13]⟩, ⟨some 66, some (64, true), .op (.bin .eql) [.tmp 65, .const (.int .i64 0)]⟩, ⟨some 67, none, .op .pick [.tmp 64, .tmp 66, .const (.bool false)]⟩, ⟨some 68, none, .op .mv [.tmp 67]⟩, ⟨some 69, some (68, true), .op (.ldn 20) [.tmp 12]⟩, ⟨some 70, some (68, true), .op (.ldn 20) [.tmp 4]⟩, ⟨some 71, some (68, true), .fl (.binOp .eql 24 (.tmp 69) (.tmp 70) 24) 4⟩, ⟨some 72, none, .op .pick [.tmp 68, .tmp 71, .const (.bool false)]⟩, ⟨some 73, none, .op .mv [.tmp 72]⟩, ⟨some 74, some (73, true), .op .mv [.tmp 16]⟩, ⟨some 75, some (73, true), .op (.bin .eql) [.tmp 74, .const (.int .i64 0)]⟩, ⟨some 76, none, .op .pick [.tmp 73, .tmp 75, .const (.bool false)]⟩, ⟨some 77, none, .op .mv [.tmp 76]⟩, ⟨some 78, some (77, true), .op (.ldn 20) [.tmp 15]⟩, ⟨some 79, some (77, true), .op (.ldn 20) [.tmp 4]⟩, ⟨some 80, some (77, true), .fl (.binOp .eql 24 (.tmp 78) (.tmp 79) 24) 4⟩, ⟨some 81, none, .op .pick [.tmp 77, .tmp 80, .const (.bool false)]⟩, ⟨some 6, none, .op .mv [.tmp 81]⟩]) (.ret)))))))))⟩
theorem c5 : compF Go.Proofs.Tryd.prog Go.Proofs.Tryd.f5 = some ir5 := by kernel_rfl
/-- spinnaker/spinnakerlaw4.TextOrders -/
def ir6 : FI :=
  ⟨146, [.tmp 6], .seq (.reg [⟨some 6, none, .op .mv [.const (.bool false)]⟩]) (.seq (.reg [⟨some 22, none, .op (.bsl 9 1 4 #[(.string ⟨#[]⟩), (.string ⟨#[]⟩), (.string ⟨#[]⟩), (.string ⟨#[]⟩)] [0, 1, 2, 3]) [.const (.string ⟨#[116, 97, 114, 103, 101, 116, 58, 32, 50, 48]⟩), .const (.string ⟨#[109, 105, 110, 58, 32, 49]⟩), .const (.string ⟨#[98, 117, 114, 115, 116, 58, 32, 45, 49]⟩), .const (.string ⟨#[103, 114, 97, 99, 101, 58, 32, 55]⟩)]⟩, ⟨some 7, none, .op .mv [.tmp 22]⟩]) (.seq (.reg [⟨some 23, none, .op .mv [.tmp 0]⟩, ⟨some 24, none, .op (.cvt .u64) [.tmp 23]⟩, ⟨some 8, none, .op .mv [.tmp 24]⟩]) (.seq (.reg [⟨some 9, none, .op .mv [.const (.slice none 0 0)]⟩]) (.seq (.block 0 (.loop (.seq (.seq (.reg [⟨some 25, none, .op .mv [.tmp 7]⟩, ⟨some 26, none, .op .len [.tmp 25]⟩, ⟨some 27, none, .op (.bin .gtr) [.tmp 26, .const (.int .i64 0)]⟩]) (.cond (.tmp 27) (.skip) (.exit 0))) (.block 1 (.seq (.reg [⟨some 28, none, .op .mv [.tmp 8]⟩, ⟨some 29, none, .op .mv [.tmp 7]⟩, ⟨some 30, none, .op .len [.tmp 29]⟩, ⟨some 31, none, .op (.cvt .u64) [.tmp 30]⟩, ⟨some 32, none, .op (.bin .rem) [.tmp 28, .tmp 31]⟩, ⟨some 33, none, .op (.cvt .i64) [.tmp 32]⟩, ⟨some 10, none, .op .mv [.tmp 33]⟩]) (.seq (.reg [⟨some 34, none, .op .mv [.tmp 8]⟩, ⟨some 35, none, .op .mv [.tmp 7]⟩, ⟨some 36, none, .op .len [.tmp 35]⟩, ⟨some 37, none, .op (.cvt .u64) [.tmp 36]⟩, ⟨some 38, none, .op (.bin .quo) [.tmp 34, .tmp 37]⟩, ⟨some 8, none, .op .mv [.tmp 38]⟩]) (.seq (.reg [⟨some 39, none, .op .mv [.tmp 9]⟩, ⟨some 40, none, .op .mv [.tmp 7]⟩, ⟨some 41, none, .op .mv [.tmp 10]⟩, ⟨some 42, none, .op (.iad 1) [.tmp 40, .tmp 41]⟩, ⟨some 43, none, .op .ld1 [.tmp 42]⟩, ⟨some 44, none, .op (.bsl 9 1 1 #[(.string ⟨#[]⟩)] [0]) [.tmp 43]⟩, ⟨some 45, none, .op (.app 9 1 16) [.tmp 39, .tmp 44]⟩, ⟨some 9, none, .op .mv [.tmp 45]⟩]) (.drw [⟨0, ⟨some 46, none, .op .mv [.tmp 7]⟩, false, []⟩, ⟨1, ⟨some 47, none, .op .mv [.tmp 10]⟩, false, []⟩, ⟨2, ⟨some 48, none, .op .mv [.tmp 10]⟩, false, []⟩, ⟨3, ⟨some 49, none, .op (.slc 1 false true true) [.tmp 46, .tmp 47, .tmp 48]⟩, false, []⟩, ⟨4, ⟨some 50, none, .op .mv [.tmp 7]⟩, false, []⟩, ⟨5, ⟨some 51, none, .op .mv [.tmp 10]⟩, false, []⟩, ⟨6, ⟨some 52, none, .op (.bin .add) [.tmp 51, .const (.int .i64 1)]⟩, false, []⟩, ⟨7, ⟨some 53, none, .op (.slc 1 true false false) [.tmp 50, .tmp 52]⟩, false, []⟩, ⟨8, ⟨some 54, none, .op (.app 9 1 16) [.tmp 49, .tmp 53]⟩, true, []⟩, ⟨9, ⟨some 7, none, .op .mv [.tmp 54]⟩, true, []⟩])))))))) (.seq (.reg [⟨some 55, none, .op (.bsl 9 1 8 #[(.string ⟨#[]⟩), (.string ⟨#[]⟩), (.string ⟨#[]⟩), (.string ⟨#[]⟩), (.string ⟨#[]⟩), (.string ⟨#[]⟩), (.string ⟨#[]⟩), (.string ⟨#[]⟩)] [0, 1, 2, 3, 4, 5, 6, 7]) [.const (.string ⟨#[120]⟩), .const (.string ⟨#[109, 105, 110, 58, 49]⟩), .const (.string ⟨#[109, 105, 110, 58, 32, 45, 49]⟩), .const (.string ⟨#[116, 97, 114, 103, 101, 116, 58, 32, 49, 46, 50, 51, 52, 53]⟩), .const (.string ⟨#[116, 97, 114, 103, 101, 116, 115, 58, 32, 53]⟩), .const (.string ⟨#[109, 105, 110, 58, 32, 49, 32, 50]⟩), .const (.string ⟨#[103, 114, 97, 99, 101, 58, 32, 49, 46, 53]⟩), .const (.string ⟨#[98, 117, 114, 115, 116, 58, 32, 32, 53]⟩)]⟩, ⟨some 56, none, .op .mv [.tmp 2]⟩, ⟨some 57, none, .op (.cvt .u64) [.tmp 56]⟩, ⟨some 58, none, .op (.bin .rem) [.tmp 57, .const (.int .u64 8)]⟩, ⟨some 59, none, .op (.iad 1) [.tmp 55, .tmp 58]⟩, ⟨some 60, none, .op .ld1 [.tmp 59]⟩, ⟨some 11, none, .op .mv [.tmp 60]⟩]) (.seq (.reg [⟨some 61, none, .op .mv [.tmp 1]⟩, ⟨some 62, none, .op (.cvt .u64) [.tmp 61]⟩, ⟨some 63, none, .op (.bin .rem) [.tmp 62, .const (.int .u64 5)]⟩, ⟨some 64, none, .op (.cvt .i64) [.tmp 63]⟩, ⟨some 12, none, .op .mv [.tmp 64]⟩]) (.seq (.reg [⟨some 13, none, .op .mv [.const (.string ⟨#[]⟩)]⟩, ⟨some 14, none, .op .mv [.const (.string ⟨#[]⟩)]⟩]) (.seq (.seq (.reg [⟨some 15, none, .op .mv [.const (.int .i64 0)]⟩]) (.block 2 (.loop (.seq (.seq (.reg [⟨some 65, none, .op .mv [.tmp 15]⟩, ⟨some 66, none, .op (.bin .lss) [.tmp 65, .const (.int .i64 5)]⟩]) (.cond (.tmp 66) (.skip) (.exit 2))) (.seq (.block 3 (.seq (.seq (.reg [⟨some 69, none, .op .mv [.tmp 15]⟩, ⟨some 70, none, .op .mv [.tmp 12]⟩, ⟨some 71, none, .op (.bin .eql) [.tmp 69, .tmp 70]⟩]) (.cond (.tmp 71) (.reg [⟨some 72, none, .op .mv [.tmp 14]⟩, ⟨some 73, none, .op .mv [.tmp 11]⟩, ⟨some 74, none, .op (.bin .add) [.tmp 72, .tmp 73]⟩, ⟨some 75, none, .op (.bin .add) [.tmp 74, .const (.string ⟨#[10]⟩)]⟩, ⟨some 14, none, .op .mv [.tmp 75]⟩]) (.skip))) (.seq (.reg [⟨some 76, none, .op .mv [.tmp 15]⟩, ⟨some 77, none, .op (.bin .lss) [.tmp 76, .const (.int .i64 4)]⟩]) (.cond (.tmp 77) (.drw [⟨0, ⟨some 78, none, .op .mv [.tmp 13]⟩, false, []⟩, ⟨1, ⟨some 79, none, .op .mv [.tmp 9]⟩, false, []⟩, ⟨2, ⟨some 80, none, .op .mv [.tmp 15]⟩, false, []⟩, ⟨3, ⟨some 81, none, .op (.iad 1) [.tmp 79, .tmp 80]⟩, false, []⟩, ⟨4, ⟨some 82, none, .op .ld1 [.tmp 81]⟩, false, []⟩, ⟨5, ⟨some 83, none, .op (.bin .add) [.tmp 78, .tmp 82]⟩, false, []⟩, ⟨6, ⟨some 84, none, .op (.bin .add) [.tmp 83, .const (.string ⟨#[10]⟩)]⟩, false, []⟩, ⟨7, ⟨some 85, none, .op .mv [.tmp 14]⟩, false, []⟩, ⟨8, ⟨some 86, none, .op .mv [.tmp 9]⟩, false, []⟩, ⟨9, ⟨some 87, none, .op .mv [.tmp 15]⟩, false, []⟩, ⟨10, ⟨some 88, none, .op (.iad 1) [.tmp 86, .tmp 87]⟩, false, []⟩, ⟨11, ⟨some 89, none, .op .ld1 [.tmp 88]⟩, false, []⟩, ⟨12, ⟨some 90, none, .op (.bin .add) [.tmp 85, .tmp 89]⟩, false, []⟩, ⟨13, ⟨some 91, none, .op (.bin .add) [.tmp 90, .const (.string ⟨#[10]⟩)]⟩, false, []⟩, ⟨14, ⟨some 13, none, .op .mv [.tmp 84]⟩, true, []⟩, ⟨15, ⟨some 14, none, .op .mv [.tmp 91]⟩, true, []⟩]) (.skip))))) (.reg [⟨some 67, none, .op .mv [.tmp 15]⟩, ⟨some 68, none, .op (.bin .add) [.tmp 67, .const (.int .i64 1)]⟩, ⟨some 15, none, .op .mv [.tmp 68]⟩])))))) (.seq (.reg [⟨some 93, none, .call 9 []⟩, ⟨some 94, none, .op .mv [.tmp 13]⟩, ⟨some 95, none, .call 10 [.tmp 93, .tmp 94]⟩, ⟨some 92, none, .op .mv [.tmp 95]⟩, ⟨some 96, none, .op (.ext 0) [.tmp 92]⟩, ⟨some 97, none, .op (.ext 1) [.tmp 92]⟩, ⟨some 98, none, .op (.ext 2) [.tmp 92]⟩, ⟨some 16, none, .op (.new 24 (.agg #[(.int .i64 0), (.int .i64 0), (.int .i64 0), (.int .i64 0), (.int .i64 0), (.int .i64 0), (.int .i64 0), (.int .i64 0), (.int .i64 0), (.int .i64 0), (.int .i64 0), (.int .i64 0), (.int .i64 0), (.int .i64 0), (.int .i64 0), (.int .i64 0), (.int .i64 0), (.int .i64 0), (.int .i64 0), (.int .i64 0)])) []⟩, ⟨none, none, .op (.st 20) [.tmp 16, .tmp 96]⟩, ⟨some 17, none, .op .mv [.tmp 97]⟩, ⟨some 18, none, .op .mv [.tmp 98]⟩]) (.seq (.reg [⟨some 100, none, .call 9 []⟩, ⟨some 101, none, .op .mv [.tmp 14]⟩, ⟨some 102, none, .call 10 [.tmp 100, .tmp 101]⟩, ⟨some 99, none, .op .mv [.tmp 102]⟩, ⟨some 103, none, .op (.ext 0) [.tmp 99]⟩, ⟨some 104, none, .op (.ext 1) [.tmp 99]⟩, ⟨some 105, none, .op (.ext 2) [.tmp 99]⟩, ⟨some 19, none, .op (.new 24 (.agg #[(.int .i64 0), (.int .i64 0), (.int .i64 0), (.int .i64 0), (.int .i64 0), (.int .i64 0), (.int .i64 0), (.int .i64 0), (.int .i64 0), (.int .i64 0), (.int .i64 0), (.int .i64 0), (.int .i64 0), (.int .i64 0), (.int .i64 0), (.int .i64 0), (.int .i64 0), (.int .i64 0), (.int .i64 0), (.int .i64 0)])) []⟩, ⟨none, none, .op (.st 20) [.tmp 19, .tmp 103]⟩, ⟨some 20, none, .op .mv [.tmp 104]⟩, ⟨some 21, none, .op .mv [.tmp 105]⟩]) (.seq (.drw [⟨0, ⟨some 106, none, .call 11 []⟩, true, []⟩, ⟨1, ⟨some 107, none, .op .mv [.tmp 106]⟩, false, []⟩, ⟨2, ⟨some 108, some (107, true), .op .mv [.tmp 17]⟩, false, []⟩, ⟨3, ⟨some 109, some (107, true), .op (.bin .eql) [.tmp 108, .const (.int .i64 0)]⟩, false, []⟩, ⟨4, ⟨some 110, none, .op .pick [.tmp 107, .tmp 109, .const (.bool false)]⟩, false, []⟩, ⟨5, ⟨some 111, none, .op .mv [.tmp 110]⟩, false, []⟩, ⟨6, ⟨some 112, some (111, true), .op (.fad 0) [.tmp 16]⟩, false, []⟩, ⟨7, ⟨some 113, some (111, true), .op .ld1 [.tmp 112]⟩, false, []⟩, ⟨8, ⟨some 114, some (111, true), .op (.bin .eql) [.tmp 113, .const (.int .i64 20000)]⟩, false, []⟩, ⟨9, ⟨some 115, none, .op .pick [.tmp 111, .tmp 114, .const (.bool false)]⟩, false, []⟩, ⟨10, ⟨some 116, none, .op .mv [.tmp 115]⟩, false, []⟩, ⟨11, ⟨some 117, some (116, true), .op (.fad 8) [.tmp 16]⟩, false, []⟩, ⟨12, ⟨some 118, some (116, true), .op .ld1 [.tmp 117]⟩, false, []⟩, ⟨13, ⟨some 119, some (116, true), .op (.bin .eql) [.tmp 118, .const (.int .i64 1)]⟩, false, []⟩, ⟨14, ⟨some 120, none, .op .pick [.tmp 116, .tmp 119, .const (.bool false)]⟩, false, []⟩, ⟨15, ⟨some 121, none, .op .mv [.tmp 120]⟩, false, []⟩, ⟨16, ⟨some 122, some (121, true), .op (.fad 13) [.tmp 16]⟩, false, []⟩, ⟨17, ⟨some 123, some (121, true), .op .ld1 [.tmp 122]⟩, false, []⟩, ⟨18, ⟨some 124, some (121, true), .op (.bin .eql) [.tmp 123, .const (.int .i64 (-1000))]⟩, false, []⟩, ⟨19, ⟨some 125, none, .op .pick [.tmp 121, .tmp 124, .const (.bool false)]⟩, false, []⟩, ⟨20, ⟨some 126, none, .op .mv [.tmp 125]⟩, false, []⟩, ⟨21, ⟨some 127, some (126, true), .op (.fad 11) [.tmp 16]⟩, false, []⟩, ⟨22, ⟨some 128, some (126, true), .op .ld1 [.tmp 127]⟩, false, []⟩, ⟨23, ⟨some 129, some (126, true), .op (.bin .eql) [.tmp 128, .const (.int .i64 7)]⟩, false, []⟩, ⟨24, ⟨some 130, none, .op .pick [.tmp 126, .tmp 129, .const (.bool false)]⟩, false, []⟩, ⟨25, ⟨some 131, none, .op .mv [.tmp 130]⟩, false, []⟩, ⟨26, ⟨some 132, some (131, true), .op .mv [.tmp 20]⟩, false, []⟩, ⟨27, ⟨some 133, some (131, true), .op (.bin .eql) [.tmp 132, .const (.int .i64 4)]⟩, false, []⟩, ⟨28, ⟨some 134, none, .op .pick [.tmp 131, .tmp 133, .const (.bool false)]⟩, false, []⟩, ⟨29, ⟨some 135, none, .op .mv [.tmp 134]⟩, false, []⟩, ⟨30, ⟨some 136, some (135, true), .op .mv [.tmp 21]⟩, false, []⟩, ⟨31, ⟨some 137, some (135, true), .op .mv [.tmp 12]⟩, false, []⟩, ⟨32, ⟨some 138, some (135, true), .op (.bin .add) [.tmp 137, .const (.int .i64 1)]⟩, false, []⟩, ⟨33, ⟨some 139, some (135, true), .op (.bin .eql) [.tmp 136, .tmp 138]⟩, false, []⟩, ⟨34, ⟨some 140, none, .op .pick [.tmp 135, .tmp 139, .const (.bool false)]⟩, false, []⟩, ⟨35, ⟨some 141, none, .op .mv [.tmp 140]⟩, false, []⟩, ⟨36, ⟨some 142, some (141, true), .op (.ldn 20) [.tmp 19]⟩, false, []⟩, ⟨37, ⟨some 143, some (141, true), .call 9 []⟩, true, [⟨some 142, some (141, true), .op (.ldn 20) [.tmp 19]⟩]⟩, ⟨38, ⟨some 144, some (141, true), .fl (.binOp .eql 24 (.tmp 142) (.tmp 143) 24) 4⟩, false, []⟩, ⟨39, ⟨some 145, none, .op .pick [.tmp 141, .tmp 144, .const (.bool false)]⟩, false, []⟩, ⟨40, ⟨some 6, none, .op .mv [.tmp 145]⟩, false, []⟩]) (.ret))))))))))))⟩
theorem c6 : compF Go.Proofs.Tryd.prog Go.Proofs.Tryd.f6 = some ir6 := by kernel_rfl
/-- spinnaker/spinnakerlaw4.TextNumbers -/
def ir7 : FI :=
  ⟨103, [.tmp 6], .seq (.reg [⟨some 6, none, .op .mv [.const (.bool false)]⟩]) (.seq (.reg [⟨some 18, none, .op .mv [.tmp 0]⟩, ⟨some 19, none, .op (.cvt .u64) [.tmp 18]⟩, ⟨some 20, none, .op (.bin .rem) [.tmp 19, .const (.int .u64 1000000000)]⟩, ⟨some 21, none, .op (.cvt .i64) [.tmp 20]⟩, ⟨some 22, none, .op .mv [.tmp 1]⟩, ⟨some 23, none, .op (.cvt .u64) [.tmp 22]⟩, ⟨some 24, none, .op (.bin .rem) [.tmp 23, .const (.int .u64 1000)]⟩, ⟨some 25, none, .op (.cvt .i64) [.tmp 24]⟩, ⟨some 7, none, .op .mv [.tmp 21]⟩, ⟨some 8, none, .op .mv [.tmp 25]⟩]) (.seq (.reg [⟨some 26, none, .op .mv [.tmp 8]⟩, ⟨some 27, none, .op (.bin .add) [.const (.int .i64 1000), .tmp 26]⟩, ⟨some 28, none, .call 20 [.tmp 27]⟩, ⟨some 29, none, .op (.sls true false) [.tmp 28, .const (.int .i64 1)]⟩, ⟨some 9, none, .op .mv [.tmp 29]⟩]) (.seq (.reg [⟨some 30, none, .op .mv [.tmp 7]⟩, ⟨some 31, none, .call 20 [.tmp 30]⟩, ⟨some 10, none, .op .mv [.tmp 31]⟩]) (.seq (.reg [⟨some 32, none, .op .mv [.tmp 7]⟩, ⟨some 33, none, .op (.bin .mul) [.const (.int .i64 1000), .tmp 32]⟩, ⟨some 34, none, .op .mv [.tmp 8]⟩, ⟨some 35, none, .op (.bin .add) [.tmp 33, .tmp 34]⟩, ⟨some 11, none, .op .mv [.tmp 35]⟩]) (.seq (.seq (.reg [⟨some 36, none, .op .mv [.tmp 2]⟩]) (.cond (.tmp 36) (.reg [⟨some 37, none, .op .mv [.tmp 10]⟩, ⟨some 38, none, .op (.bin .add) [.const (.string ⟨#[45]⟩), .tmp 37]⟩, ⟨some 39, none, .op .mv [.tmp 11]⟩, ⟨some 40, none, .op .neg [.tmp 39]⟩, ⟨some 10, none, .op .mv [.tmp 38]⟩, ⟨some 11, none, .op .mv [.tmp 40]⟩]) (.skip))) (.seq (.reg [⟨some 42, none, .op .mv [.tmp 10]⟩, ⟨some 43, none, .op (.bin .add) [.tmp 42, .const (.string ⟨#[46]⟩)]⟩, ⟨some 44, none, .op .mv [.tmp 9]⟩, ⟨some 45, none, .op (.bin .add) [.tmp 43, .tmp 44]⟩, ⟨some 46, none, .call 12 [.tmp 45]⟩, ⟨some 41, none, .op .mv [.tmp 46]⟩, ⟨some 47, none, .op (.ext 0) [.tmp 41]⟩, ⟨some 48, none, .op (.ext 1) [.tmp 41]⟩, ⟨some 12, none, .op .mv [.tmp 47]⟩, ⟨some 13, none, .op .mv [.tmp 48]⟩]) (.seq (.reg [⟨some 50, none, .op .mv [.tmp 10]⟩, ⟨some 51, none, .op (.bin .add) [.tmp 50, .const (.string ⟨#[46]⟩)]⟩, ⟨some 52, none, .op .mv [.tmp 9]⟩, ⟨some 53, none, .op (.bin .add) [.tmp 51, .tmp 52]⟩, ⟨some 54, none, .op (.bin .add) [.tmp 53, .const (.string ⟨#[48]⟩)]⟩, ⟨some 55, none, .call 12 [.tmp 54]⟩, ⟨some 49, none, .op .mv [.tmp 55]⟩, ⟨some 56, none, .op (.ext 0) [.tmp 49]⟩, ⟨some 57, none, .op (.ext 1) [.tmp 49]⟩, ⟨some 14, none, .op .mv [.tmp 56]⟩, ⟨some 15, none, .op .mv [.tmp 57]⟩]) (.seq (.reg [⟨some 59, none, .op .mv [.tmp 10]⟩, ⟨some 60, none, .call 12 [.tmp 59]⟩, ⟨some 58, none, .op .mv [.tmp 60]⟩, ⟨some 61, none, .op (.ext 0) [.tmp 58]⟩, ⟨some 62, none, .op (.ext 1) [.tmp 58]⟩, ⟨some 16, none, .op .mv [.tmp 61]⟩, ⟨some 17, none, .op .mv [.tmp 62]⟩]) (.seq (.reg [⟨some 63, none, .call 11 []⟩, ⟨some 64, none, .op .mv [.tmp 63]⟩, ⟨some 65, some (64, true), .op .mv [.tmp 13]⟩, ⟨some 66, none, .op .pick [.tmp 64, .tmp 65, .const (.bool false)]⟩, ⟨some 67, none, .op .mv [.tmp 66]⟩, ⟨some 68, some (67, true), .op .mv [.tmp 12]⟩, ⟨some 69, some (67, true), .op .mv [.tmp 11]⟩, ⟨some 70, some (67, true), .op (.bin .eql) [.tmp 68, .tmp 69]⟩, ⟨some 71, none, .op .pick [.tmp 67, .tmp 70, .const (.bool false)]⟩, ⟨some 72, none, .op .mv [.tmp 71]⟩, ⟨some 73, some (72, true), .op .mv [.tmp 15]⟩, ⟨some 74, some (72, true), .op .not [.tmp 73]⟩, ⟨some 75, none, .op .pick [.tmp 72, .tmp 74, .const (.bool false)]⟩, ⟨some 76, none, .op .mv [.tmp 75]⟩, ⟨some 77, some (76, true), .op .mv [.tmp 14]⟩, ⟨some 78, some (76, true), .op (.bin .eql) [.tmp 77, .const (.int .i64 0)]⟩, ⟨some 79, none, .op .pick [.tmp 76, .tmp 78, .const (.bool false)]⟩, ⟨some 80, none, .op .mv [.tmp 79]⟩, ⟨some 81, some (80, true), .op .mv [.tmp 17]⟩, ⟨some 82, none, .op .pick [.tmp 80, .tmp 81, .const (.bool false)]⟩, ⟨some 83, none, .op .mv [.tmp 82]⟩, ⟨some 84, some (83, true), .op .mv [.tmp 16]⟩, ⟨some 85, some (83, true), .op .mv [.tmp 11]⟩, ⟨some 86, some (83, true), .op (.bin .eql) [.tmp 84, .tmp 85]⟩, ⟨some 87, some (83, true), .op .mv [.tmp 86]⟩, ⟨some 88, some (87, false), .op .mv [.tmp 8]⟩, ⟨some 89, some (87, false), .op (.bin .neq) [.tmp 88, .const (.int .i64 0)]⟩, ⟨some 90, some (83, true), .op .pick [.tmp 87, .const (.bool true), .tmp 89]⟩, ⟨some 91, none, .op .pick [.tmp 83, .tmp 90, .const (.bool false)]⟩, ⟨some 92, none, .op .mv [.tmp 91]⟩, ⟨some 93, some (92, true), .op .mv [.tmp 8]⟩, ⟨some 94, some (92, true), .op (.bin .eql) [.tmp 93, .const (.int .i64 0)]⟩, ⟨some 95, some (92, true), .op .mv [.tmp 94]⟩, ⟨some 96, some (95, false), .op .mv [.tmp 12]⟩, ⟨some 97, some (95, false), .call 17 [.tmp 96]⟩, ⟨some 98, some (95, false), .op .mv [.tmp 16]⟩, ⟨some 99, some (95, false), .call 17 [.tmp 98]⟩, ⟨some 100, some (95, false), .op (.bin .neq) [.tmp 97, .tmp 99]⟩, ⟨some 101, some (92, true), .op .pick [.tmp 95, .const (.bool true), .tmp 100]⟩, ⟨some 102, none, .op .pick [.tmp 92, .tmp 101, .const (.bool false)]⟩, ⟨some 6, none, .op .mv [.tmp 102]⟩]) (.ret))))))))))⟩
theorem c7 : compF Go.Proofs.Tryd.prog Go.Proofs.Tryd.f7 = some ir7 := by kernel_rfl
/-- spinnaker/spinnakerlaw4.TextNames -/
def ir8 : FI :=
  ⟨116, [.tmp 4], .seq (.reg [⟨some 4, none, .op .mv [.const (.bool false)]⟩]) (.seq (.reg [⟨some 21, none, .call 21 []⟩, ⟨some 5, none, .op .mv [.tmp 21]⟩]) (.seq (.reg [⟨some 22, none, .call 9 []⟩, ⟨some 6, none, .op (.new 24 (.agg #[(.int .i64 0), (.int .i64 0), (.int .i64 0), (.int .i64 0), (.int .i64 0), (.int .i64 0), (.int .i64 0), (.int .i64 0), (.int .i64 0), (.int .i64 0), (.int .i64 0), (.int .i64 0), (.int .i64 0), (.int .i64 0), (.int .i64 0), (.int .i64 0), (.int .i64 0), (.int .i64 0), (.int .i64 0), (.int .i64 0)])) []⟩, ⟨none, none, .op (.st 20) [.tmp 6, .tmp 22]⟩]) (.seq (.reg [⟨some 24, none, .op (.ldn 20) [.tmp 6]⟩, ⟨some 25, none, .call 16 [.tmp 24]⟩, ⟨some 23, none, .op .mv [.tmp 25]⟩, ⟨some 26, none, .op (.ext 0) [.tmp 23]⟩, ⟨some 27, none, .op (.ext 1) [.tmp 23]⟩, ⟨some 7, none, .op .mv [.tmp 26]⟩, ⟨some 8, none, .op .mv [.tmp 27]⟩]) (.seq (.reg [⟨some 28, none, .op .mv [.tmp 0]⟩, ⟨some 29, none, .op (.cvt .u64) [.tmp 28]⟩, ⟨some 30, none, .op .mv [.tmp 5]⟩, ⟨some 31, none, .op .len [.tmp 30]⟩, ⟨some 32, none, .op (.cvt .u64) [.tmp 31]⟩, ⟨some 33, none, .op (.bin .rem) [.tmp 29, .tmp 32]⟩, ⟨some 34, none, .op (.cvt .i64) [.tmp 33]⟩, ⟨some 9, none, .op .mv [.tmp 34]⟩]) (.seq (.reg [⟨some 10, none, .op .mv [.const (.int .i64 0)]⟩, ⟨some 11, none, .op .mv [.const (.int .i64 0)]⟩]) (.seq (.reg [⟨some 12, none, .op .mv [.const (.string ⟨#[]⟩)]⟩]) (.seq (.seq (.reg [⟨some 13, none, .op .mv [.const (.int .i64 0)]⟩]) (.block 0 (.loop (.seq (.seq (.reg [⟨some 35, none, .op .mv [.tmp 13]⟩, ⟨some 36, none, .op .mv [.tmp 7]⟩, ⟨some 37, none, .op .lens [.tmp 36]⟩, ⟨some 38, none, .op (.bin .lss) [.tmp 35, .tmp 37]⟩]) (.cond (.tmp 38) (.skip) (.exit 0))) (.seq (.block 1 (.seq (.seq (.reg [⟨some 41, none, .op .mv [.tmp 7]⟩, ⟨some 42, none, .op .mv [.tmp 13]⟩, ⟨some 43, none, .op .ixs [.tmp 41, .tmp 42]⟩, ⟨some 44, none, .op (.bin .neq) [.tmp 43, .const (.int .u8 10)]⟩]) (.cond (.tmp 44) (.exit 1) (.skip))) (.seq (.seq (.reg [⟨some 45, none, .op .mv [.tmp 11]⟩, ⟨some 46, none, .op .mv [.tmp 9]⟩, ⟨some 47, none, .op (.bin .eql) [.tmp 45, .tmp 46]⟩]) (.cond (.tmp 47) (.reg [⟨some 48, none, .op .mv [.tmp 7]⟩, ⟨some 49, none, .op .mv [.tmp 10]⟩, ⟨some 50, none, .op .mv [.tmp 13]⟩, ⟨some 51, none, .op (.sls true true) [.tmp 48, .tmp 49, .tmp 50]⟩, ⟨some 12, none, .op .mv [.tmp 51]⟩]) (.skip))) (.seq (.reg [⟨some 52, none, .op .mv [.tmp 11]⟩, ⟨some 53, none, .op (.bin .add) [.tmp 52, .const (.int .i64 1)]⟩, ⟨some 11, none, .op .mv [.tmp 53]⟩]) (.reg [⟨some 54, none, .op .mv [.tmp 13]⟩, ⟨some 55, none, .op (.bin .add) [.tmp 54, .const (.int .i64 1)]⟩, ⟨some 10, none, .op .mv [.tmp 55]⟩]))))) (.reg [⟨some 39, none, .op .mv [.tmp 13]⟩, ⟨some 40, none, .op (.bin .add) [.tmp 39, .const (.int .i64 1)]⟩, ⟨some 13, none, .op .mv [.tmp 40]⟩])))))) (.seq (.seq (.reg [⟨some 56, none, .op .mv [.tmp 8]⟩, ⟨some 57, none, .op (.bin .neq) [.tmp 56, .const (.int .i64 0)]⟩, ⟨some 58, none, .op .mv [.tmp 57]⟩, ⟨some 59, some (58, false), .op .mv [.tmp 12]⟩, ⟨some 60, some (58, false), .op .lens [.tmp 59]⟩, ⟨some 61, some (58, false), .op (.bin .lss) [.tmp 60, .const (.int .i64 5)]⟩, ⟨some 62, none, .op .pick [.tmp 58, .const (.bool true), .tmp 61]⟩]) (.cond (.tmp 62) (.seq (.reg [⟨some 4, none, .op .mv [.const (.bool false)]⟩]) (.ret)) (.skip))) (.seq (.reg [⟨some 64, none, .op (.ldn 20) [.tmp 6]⟩, ⟨some 65, none, .op .mv [.tmp 12]⟩, ⟨some 66, none, .call 10 [.tmp 64, .tmp 65]⟩, ⟨some 63, none, .op .mv [.tmp 66]⟩, ⟨some 67, none, .op (.ext 0) [.tmp 63]⟩, ⟨some 68, none, .op (.ext 1) [.tmp 63]⟩, ⟨some 69, none, .op (.ext 2) [.tmp 63]⟩, ⟨some 14, none, .op (.new 24 (.agg #[(.int .i64 0), (.int .i64 0), (.int .i64 0), (.int .i64 0), (.int .i64 0), (.int .i64 0), (.int .i64 0), (.int .i64 0), (.int .i64 0), (.int .i64 0), (.int .i64 0), (.int .i64 0), (.int .i64 0), (.int .i64 0), (.int .i64 0), (.int .i64 0), (.int .i64 0), (.int .i64 0), (.int .i64 0), (.int .i64 0)])) []⟩, ⟨none, none, .op (.st 20) [.tmp 14, .tmp 67]⟩, ⟨some 15, none, .op .mv [.tmp 68]⟩, ⟨some 16, none, .op .mv [.tmp 69]⟩]) (.seq (.seq (.reg [⟨some 70, none, .op .mv [.tmp 15]⟩, ⟨some 71, none, .op (.bin .neq) [.tmp 70, .const (.int .i64 0)]⟩, ⟨some 72, none, .op .mv [.tmp 71]⟩, ⟨some 73, some (72, false), .op (.ldn 20) [.tmp 14]⟩, ⟨some 74, some (72, false), .op (.ldn 20) [.tmp 6]⟩, ⟨some 75, some (72, false), .fl (.binOp .neq 24 (.tmp 73) (.tmp 74) 24) 4⟩, ⟨some 76, none, .op .pick [.tmp 72, .const (.bool true), .tmp 75]⟩]) (.cond (.tmp 76) (.seq (.reg [⟨some 4, none, .op .mv [.const (.bool false)]⟩]) (.ret)) (.skip))) (.seq (.drw [⟨0, ⟨some 77, none, .op .mv [.tmp 12]⟩, false, []⟩, ⟨1, ⟨some 78, none, .op (.sls true false) [.tmp 77, .const (.int .i64 1)]⟩, false, []⟩, ⟨2, ⟨some 79, none, .op (.bin .add) [.const (.string ⟨#[88]⟩), .tmp 78]⟩, false, []⟩, ⟨3, ⟨some 80, none, .op .mv [.tmp 12]⟩, false, []⟩, ⟨4, ⟨some 81, none, .op (.sls true false) [.tmp 80, .const (.int .i64 1)]⟩, false, []⟩, ⟨5, ⟨some 82, none, .op .mv [.tmp 12]⟩, false, []⟩, ⟨6, ⟨some 83, none, .op (.bin .add) [.tmp 82, .const (.string ⟨#[32, 49]⟩)]⟩, false, []⟩, ⟨7, ⟨some 84, none, .op .mv [.tmp 12]⟩, false, []⟩, ⟨8, ⟨some 85, none, .op (.bin .add) [.tmp 84, .const (.string ⟨#[120]⟩)]⟩, false, []⟩, ⟨9, ⟨some 86, none, .op .mv [.tmp 12]⟩, false, []⟩, ⟨10, ⟨some 87, none, .op (.bin .add) [.tmp 86, .const (.string ⟨#[10]⟩)]⟩, false, []⟩, ⟨11, ⟨some 88, none, .op .mv [.tmp 12]⟩, false, []⟩, ⟨12, ⟨some 89, none, .op (.bin .add) [.tmp 87, .tmp 88]⟩, false, []⟩, ⟨14, ⟨some 91, none, .op .mv [.tmp 1]⟩, false, []⟩, ⟨15, ⟨some 92, none, .op (.cvt .u64) [.tmp 91]⟩, false, []⟩, ⟨16, ⟨some 93, none, .op (.bin .rem) [.tmp 92, .const (.int .u64 5)]⟩, false, []⟩, ⟨13, ⟨some 90, none, .op (.bsl 9 1 5 #[(.string ⟨#[]⟩), (.string ⟨#[]⟩), (.string ⟨#[]⟩), (.string ⟨#[]⟩), (.string ⟨#[]⟩)] [0, 1, 2, 3, 4]) [.tmp 79, .tmp 81, .tmp 83, .tmp 85, .tmp 89]⟩, true, []⟩, ⟨17, ⟨some 94, none, .op (.iad 1) [.tmp 90, .tmp 93]⟩, false, []⟩, ⟨18, ⟨some 95, none, .op .ld1 [.tmp 94]⟩, false, []⟩, ⟨19, ⟨some 17, none, .op .mv [.tmp 95]⟩, false, []⟩]) (.seq (.reg [⟨some 97, none, .op (.ldn 20) [.tmp 6]⟩, ⟨some 98, none, .op .mv [.tmp 17]⟩, ⟨some 99, none, .call 10 [.tmp 97, .tmp 98]⟩, ⟨some 96, none, .op .mv [.tmp 99]⟩, ⟨some 100, none, .op (.ext 0) [.tmp 96]⟩, ⟨some 101, none, .op (.ext 1) [.tmp 96]⟩, ⟨some 102, none, .op (.ext 2) [.tmp 96]⟩, ⟨some 18, none, .op (.new 24 (.agg #[(.int .i64 0), (.int .i64 0), (.int .i64 0), (.int .i64 0), (.int .i64 0), (.int .i64 0), (.int .i64 0), (.int .i64 0), (.int .i64 0), (.int .i64 0), (.int .i64 0), (.int .i64 0), (.int .i64 0), (.int .i64 0), (.int .i64 0), (.int .i64 0), (.int .i64 0), (.int .i64 0), (.int .i64 0), (.int .i64 0)])) []⟩, ⟨none, none, .op (.st 20) [.tmp 18, .tmp 100]⟩, ⟨some 19, none, .op .mv [.tmp 101]⟩, ⟨some 20, none, .op .mv [.tmp 102]⟩]) (.seq (.reg [⟨some 103, none, .call 11 []⟩, ⟨some 104, none, .op .mv [.tmp 103]⟩, ⟨some 105, some (104, true), .op .mv [.tmp 11]⟩, ⟨some 106, some (104, true), .op (.bin .eql) [.tmp 105, .const (.int .i64 20)]⟩, ⟨some 107, none, .op .pick [.tmp 104, .tmp 106, .const (.bool false)]⟩, ⟨some 108, none, .op .mv [.tmp 107]⟩, ⟨some 109, some (108, true), .op .mv [.tmp 19]⟩, ⟨some 110, some (108, true), .op (.bin .neq) [.tmp 109, .const (.int .i64 0)]⟩, ⟨some 111, none, .op .pick [.tmp 108, .tmp 110, .const (.bool false)]⟩, ⟨some 112, none, .op .mv [.tmp 111]⟩, ⟨some 113, some (112, true), .op .mv [.tmp 20]⟩, ⟨some 114, some (112, true), .op (.bin .geq) [.tmp 113, .const (.int .i64 1)]⟩, ⟨some 115, none, .op .pick [.tmp 112, .tmp 114, .const (.bool false)]⟩, ⟨some 4, none, .op .mv [.tmp 115]⟩]) (.ret))))))))))))))⟩
theorem c8 : compF Go.Proofs.Tryd.prog Go.Proofs.Tryd.f8 = some ir8 := by kernel_rfl
/-- spinnaker/spinnakerref1.Default -/
def ir9 : FI :=
  ⟨2, [.cell 0 24], .seq (.reg [⟨some 0, none, .op (.new 24 (.agg #[(.int .i64 0), (.int .i64 0), (.int .i64 0), (.int .i64 0), (.int .i64 0), (.int .i64 0), (.int .i64 0), (.int .i64 0), (.int .i64 0), (.int .i64 0), (.int .i64 0), (.int .i64 0), (.int .i64 0), (.int .i64 0), (.int .i64 0), (.int .i64 0), (.int .i64 0), (.int .i64 0), (.int .i64 0), (.int .i64 0)])) []⟩]) (.seq (.reg [⟨some 1, none, .op (.bld #[(.int .i64 0), (.int .i64 0), (.int .i64 0), (.int .i64 0), (.int .i64 0), (.int .i64 0), (.int .i64 0), (.int .i64 0), (.int .i64 0), (.int .i64 0), (.int .i64 0), (.int .i64 0), (.int .i64 0), (.int .i64 0), (.int .i64 0), (.int .i64 0), (.int .i64 0), (.int .i64 0), (.int .i64 0), (.int .i64 0)] [(0, 1), (1, 1), (2, 1), (3, 1), (4, 1), (5, 1), (6, 1), (7, 1), (8, 1), (9, 1), (10, 1), (11, 1), (12, 1), (13, 1), (14, 1), (15, 1), (16, 1), (17, 1), (18, 1), (19, 1)] [0, 1, 2, 3, 4, 5, 6, 7, 10, 11, 13, 14, 15, 16, 17]) [.const (.int .i64 10000), .const (.int .i64 700), .const (.int .i64 60), .const (.int .i64 6), .const (.int .i64 1), .const (.int .i64 2000), .const (.int .i64 10000), .const (.int .i64 2000), .const (.int .i64 1), .const (.int .i64 30), .const (.int .i64 20000), .const (.int .i64 10), .const (.int .i64 100), .const (.int .i64 60), .const (.int .i64 3)]⟩, ⟨none, none, .op (.st 20) [.tmp 0, .tmp 1]⟩]) (.ret))⟩
theorem c9 : compF Go.Proofs.Tryd.prog Go.Proofs.Tryd.f9 = some ir9 := by kernel_rfl
/-- spinnaker/text.Parse -/
def ir10 : FI :=
  ⟨75, [.cell 4 24, .tmp 5, .tmp 6], .seq (.reg [⟨some 2, none, .op (.box 24) [.tmp 0]⟩, ⟨some 4, none, .op (.new 24 (.agg #[(.int .i64 0), (.int .i64 0), (.int .i64 0), (.int .i64 0), (.int .i64 0), (.int .i64 0), (.int .i64 0), (.int .i64 0), (.int .i64 0), (.int .i64 0), (.int .i64 0), (.int .i64 0), (.int .i64 0), (.int .i64 0), (.int .i64 0), (.int .i64 0), (.int .i64 0), (.int .i64 0), (.int .i64 0), (.int .i64 0)])) []⟩, ⟨some 5, none, .op .mv [.const (.int .i64 0)]⟩, ⟨some 6, none, .op .mv [.const (.int .i64 0)]⟩]) (.seq (.reg [⟨some 17, none, .op (.ldn 20) [.tmp 2]⟩, ⟨some 18, none, .op .mkm []⟩, ⟨some 7, none, .op (.new 24 (.agg #[(.int .i64 0), (.int .i64 0), (.int .i64 0), (.int .i64 0), (.int .i64 0), (.int .i64 0), (.int .i64 0), (.int .i64 0), (.int .i64 0), (.int .i64 0), (.int .i64 0), (.int .i64 0), (.int .i64 0), (.int .i64 0), (.int .i64 0), (.int .i64 0), (.int .i64 0), (.int .i64 0), (.int .i64 0), (.int .i64 0)])) []⟩, ⟨none, none, .op (.st 20) [.tmp 7, .tmp 17]⟩, ⟨some 8, none, .op .mv [.tmp 18]⟩]) (.seq (.seq (.reg [⟨some 19, none, .op .mv [.tmp 1]⟩, ⟨some 20, none, .call 22 [.tmp 19, .const (.string ⟨#[10]⟩)]⟩, ⟨some 21, none, .op .len [.tmp 20]⟩, ⟨some 22, none, .op .mv [.const (.int .i64 0)]⟩]) (.block 0 (.loop (.seq (.reg [⟨some 23, none, .op (.bin .lss) [.tmp 22, .tmp 21]⟩]) (.seq (.cond (.tmp 23) (.skip) (.exit 0)) (.seq (.block 1 (.seq (.reg [⟨some 24, none, .op .mv [.tmp 22]⟩, ⟨some 25, none, .op (.iad 1) [.tmp 20, .tmp 22]⟩, ⟨some 26, none, .op .ld1 [.tmp 25]⟩, ⟨some 9, none, .op .mv [.tmp 24]⟩, ⟨some 10, none, .op .mv [.tmp 26]⟩]) (.seq (.reg [⟨some 27, none, .op .mv [.tmp 10]⟩, ⟨some 28, none, .call 23 [.tmp 27, .const (.string ⟨#[32]⟩)]⟩, ⟨some 10, none, .op .mv [.tmp 28]⟩]) (.seq (.seq (.reg [⟨some 29, none, .op .mv [.tmp 10]⟩, ⟨some 30, none, .op (.bin .eql) [.tmp 29, .const (.string ⟨#[]⟩)]⟩, ⟨some 31, none, .op .mv [.tmp 30]⟩, ⟨some 32, some (31, false), .op .mv [.tmp 10]⟩, ⟨some 33, some (31, false), .op .ixs [.tmp 32, .const (.int .i64 0)]⟩, ⟨some 34, some (31, false), .op (.bin .eql) [.tmp 33, .const (.int .u8 35)]⟩, ⟨some 35, none, .op .pick [.tmp 31, .const (.bool true), .tmp 34]⟩]) (.cond (.tmp 35) (.exit 1) (.skip))) (.seq (.reg [⟨some 37, none, .op .mv [.tmp 10]⟩, ⟨some 38, none, .call 24 [.tmp 37, .const (.string ⟨#[58, 32]⟩)]⟩, ⟨some 36, none, .op .mv [.tmp 38]⟩, ⟨some 39, none, .op (.ext 0) [.tmp 36]⟩, ⟨some 40, none, .op (.ext 1) [.tmp 36]⟩, ⟨some 41, none, .op (.ext 2) [.tmp 36]⟩, ⟨some 11, none, .op .mv [.tmp 39]⟩, ⟨some 12, none, .op .mv [.tmp 40]⟩, ⟨some 13, none, .op .mv [.tmp 41]⟩]) (.seq (.reg [⟨some 14, none, .op .mv [.const (.bool false)]⟩]) (.seq (.seq (.reg [⟨some 42, none, .call 25 [.tmp 7]⟩, ⟨some 43, none, .op .len [.tmp 42]⟩, ⟨some 44, none, .op .mv [.const (.int .i64 0)]⟩]) (.block 2 (.loop (.seq (.reg [⟨some 45, none, .op (.bin .lss) [.tmp 44, .tmp 43]⟩]) (.seq (.cond (.tmp 45) (.skip) (.exit 2)) (.seq (.block 3 (.seq (.reg [⟨some 46, none, .op (.iad 2) [.tmp 42, .tmp 44]⟩, ⟨some 47, none, .op (.ldn 2) [.tmp 46]⟩, ⟨some 16, none, .op (.new 51 (.agg #[(.string ⟨#[]⟩), .nilIface])) []⟩, ⟨none, none, .op (.st 2) [.tmp 16, .tmp 47]⟩]) (.seq (.reg [⟨some 48, none, .op (.fad 0) [.tmp 16]⟩, ⟨some 49, none, .op .ld1 [.tmp 48]⟩, ⟨some 50, none, .op .mv [.tmp 11]⟩, ⟨some 51, none, .op (.bin .eql) [.tmp 49, .tmp 50]⟩, ⟨some 52, none, .op .mv [.tmp 51]⟩, ⟨some 53, some (52, true), .op .mv [.tmp 8]⟩, ⟨some 54, some (52, true), .op .mv [.tmp 11]⟩, ⟨some 55, some (52, true), .op (.mlk (.bool false) false) [.tmp 53, .tmp 54]⟩, ⟨some 56, some (52, true), .op .not [.tmp 55]⟩, ⟨some 57, none, .op .pick [.tmp 52, .tmp 56, .const (.bool false)]⟩]) (.cond (.tmp 57) (.reg [⟨some 58, none, .op (.ldn 2) [.tmp 16]⟩, ⟨some 59, none, .op .mv [.tmp 12]⟩, ⟨some 60, none, .call 26 [.tmp 58, .tmp 59]⟩, ⟨some 14, none, .op .mv [.tmp 60]⟩]) (.skip))))) (.reg [⟨some 61, none, .op (.bin .add) [.tmp 44, .const (.int .i64 1)]⟩, ⟨some 44, none, .op .mv [.tmp 61]⟩]))))))) (.seq (.reg [⟨some 62, none, .op .mv [.tmp 8]⟩, ⟨some 63, none, .op .mv [.tmp 11]⟩, ⟨none, none, .op .mup [.tmp 62, .tmp 63, .const (.bool true)]⟩]) (.seq (.reg [⟨some 64, none, .op .mv [.tmp 14]⟩, ⟨some 65, none, .op .not [.tmp 64]⟩]) (.cond (.tmp 65) (.seq (.reg [⟨some 66, none, .op (.ldn 20) [.tmp 2]⟩, ⟨some 67, none, .op .mv [.tmp 9]⟩, ⟨some 68, none, .op (.bin .add) [.tmp 67, .const (.int .i64 1)]⟩, ⟨none, none, .op (.st 20) [.tmp 4, .tmp 66]⟩, ⟨some 5, none, .op .mv [.const (.int .i64 4)]⟩, ⟨some 6, none, .op .mv [.tmp 68]⟩]) (.ret)) (.skip))))))))))) (.reg [⟨some 69, none, .op (.bin .add) [.tmp 22, .const (.int .i64 1)]⟩, ⟨some 22, none, .op .mv [.tmp 69]⟩]))))))) (.seq (.seq (.reg [⟨some 70, none, .op (.ldn 20) [.tmp 7]⟩, ⟨some 71, none, .call 27 [.tmp 70]⟩, ⟨some 72, none, .op .not [.tmp 71]⟩]) (.cond (.tmp 72) (.seq (.reg [⟨some 73, none, .op (.ldn 20) [.tmp 2]⟩, ⟨none, none, .op (.st 20) [.tmp 4, .tmp 73]⟩, ⟨some 5, none, .op .mv [.const (.int .i64 5)]⟩, ⟨some 6, none, .op .mv [.const (.int .i64 0)]⟩]) (.ret)) (.skip))) (.seq (.reg [⟨some 74, none, .op (.ldn 20) [.tmp 7]⟩, ⟨none, none, .op (.st 20) [.tmp 4, .tmp 74]⟩, ⟨some 5, none, .op .mv [.const (.int .i64 0)]⟩, ⟨some 6, none, .op .mv [.const (.int .i64 0)]⟩]) (.ret)))))⟩
theorem c10 : compF Go.Proofs.Tryd.prog Go.Proofs.Tryd.f10 = some ir10 := by kernel_rfl
/-- spinnaker/spinnakerlaw4.told -/
def ir11 : FI :=
  ⟨182, [.tmp 0], .seq (.reg [⟨some 0, none, .op .mv [.const (.bool false)]⟩]) (.seq (.reg [⟨some 28, none, .call 12 [.const (.string ⟨#[45, 49, 46, 48, 53]⟩)]⟩, ⟨some 27, none, .op .mv [.tmp 28]⟩, ⟨some 29, none, .op (.ext 0) [.tmp 27]⟩, ⟨some 30, none, .op (.ext 1) [.tmp 27]⟩, ⟨some 1, none, .op .mv [.tmp 29]⟩, ⟨some 2, none, .op .mv [.tmp 30]⟩]) (.seq (.reg [⟨some 32, none, .call 12 [.const (.string ⟨#[49, 46]⟩)]⟩, ⟨some 31, none, .op .mv [.tmp 32]⟩, ⟨some 33, none, .op (.ext 0) [.tmp 31]⟩, ⟨some 34, none, .op (.ext 1) [.tmp 31]⟩, ⟨some 3, none, .op .mv [.tmp 33]⟩, ⟨some 4, none, .op .mv [.tmp 34]⟩]) (.seq (.reg [⟨some 36, none, .call 9 []⟩, ⟨some 37, none, .call 10 [.tmp 36, .const (.string ⟨#[35, 32, 120, 10, 32, 32, 116, 97, 114, 103, 101, 116, 58, 32, 53, 46, 53, 32, 10, 10, 109, 105, 110, 58, 32, 50]⟩)]⟩, ⟨some 35, none, .op .mv [.tmp 37]⟩, ⟨some 38, none, .op (.ext 0) [.tmp 35]⟩, ⟨some 39, none, .op (.ext 1) [.tmp 35]⟩, ⟨some 40, none, .op (.ext 2) [.tmp 35]⟩, ⟨some 5, none, .op (.new 24 (.agg #[(.int .i64 0), (.int .i64 0), (.int .i64 0), (.int .i64 0), (.int .i64 0), (.int .i64 0), (.int .i64 0), (.int .i64 0), (.int .i64 0), (.int .i64 0), (.int .i64 0), (.int .i64 0), (.int .i64 0), (.int .i64 0), (.int .i64 0), (.int .i64 0), (.int .i64 0), (.int .i64 0), (.int .i64 0), (.int .i64 0)])) []⟩, ⟨none, none, .op (.st 20) [.tmp 5, .tmp 38]⟩, ⟨some 6, none, .op .mv [.tmp 39]⟩, ⟨some 7, none, .op .mv [.tmp 40]⟩]) (.seq (.reg [⟨some 42, none, .op (.ldn 20) [.tmp 5]⟩, ⟨some 43, none, .call 10 [.tmp 42, .const (.string ⟨#[109, 105, 110, 58, 32, 50, 10, 109, 105, 110, 58, 32, 51]⟩)]⟩, ⟨some 41, none, .op .mv [.tmp 43]⟩, ⟨some 44, none, .op (.ext 0) [.tmp 41]⟩, ⟨some 45, none, .op (.ext 1) [.tmp 41]⟩, ⟨some 46, none, .op (.ext 2) [.tmp 41]⟩, ⟨some 8, none, .op (.new 24 (.agg #[(.int .i64 0), (.int .i64 0), (.int .i64 0), (.int .i64 0), (.int .i64 0), (.int .i64 0), (.int .i64 0), (.int .i64 0), (.int .i64 0), (.int .i64 0), (.int .i64 0), (.int .i64 0), (.int .i64 0), (.int .i64 0), (.int .i64 0), (.int .i64 0), (.int .i64 0), (.int .i64 0), (.int .i64 0), (.int .i64 0)])) []⟩, ⟨none, none, .op (.st 20) [.tmp 8, .tmp 44]⟩, ⟨some 9, none, .op .mv [.tmp 45]⟩, ⟨some 10, none, .op .mv [.tmp 46]⟩]) (.seq (.reg [⟨some 48, none, .op (.ldn 20) [.tmp 5]⟩, ⟨some 49, none, .call 10 [.tmp 48, .const (.string ⟨#[117, 112, 58, 32, 48, 46, 53]⟩)]⟩, ⟨some 47, none, .op .mv [.tmp 49]⟩, ⟨some 50, none, .op (.ext 0) [.tmp 47]⟩, ⟨some 51, none, .op (.ext 1) [.tmp 47]⟩, ⟨some 52, none, .op (.ext 2) [.tmp 47]⟩, ⟨some 11, none, .op (.new 24 (.agg #[(.int .i64 0), (.int .i64 0), (.int .i64 0), (.int .i64 0), (.int .i64 0), (.int .i64 0), (.int .i64 0), (.int .i64 0), (.int .i64 0), (.int .i64 0), (.int .i64 0), (.int .i64 0), (.int .i64 0), (.int .i64 0), (.int .i64 0), (.int .i64 0), (.int .i64 0), (.int .i64 0), (.int .i64 0), (.int .i64 0)])) []⟩, ⟨none, none, .op (.st 20) [.tmp 11, .tmp 50]⟩, ⟨some 12, none, .op .mv [.tmp 51]⟩, ⟨some 13, none, .op .mv [.tmp 52]⟩]) (.seq (.reg [⟨some 54, none, .op (.ldn 20) [.tmp 5]⟩, ⟨some 55, none, .call 15 [.tmp 54]⟩, ⟨some 53, none, .op .mv [.tmp 55]⟩, ⟨some 56, none, .op (.ext 0) [.tmp 53]⟩, ⟨some 57, none, .op (.ext 1) [.tmp 53]⟩, ⟨some 14, none, .op .mv [.tmp 56]⟩, ⟨some 15, none, .op .mv [.tmp 57]⟩]) (.seq (.reg [⟨some 59, none, .call 12 [.const (.string ⟨#[49, 50, 51, 52, 53, 54, 55, 56, 57, 48]⟩)]⟩, ⟨some 58, none, .op .mv [.tmp 59]⟩, ⟨some 60, none, .op (.ext 0) [.tmp 58]⟩, ⟨some 61, none, .op (.ext 1) [.tmp 58]⟩, ⟨some 16, none, .op .mv [.tmp 60]⟩, ⟨some 17, none, .op .mv [.tmp 61]⟩]) (.seq (.reg [⟨some 63, none, .op (.ldn 20) [.tmp 5]⟩, ⟨some 64, none, .call 10 [.tmp 63, .const (.string ⟨#[103, 114, 97, 99, 101, 58, 32, 48, 48, 48, 48, 48, 48, 55]⟩)]⟩, ⟨some 62, none, .op .mv [.tmp 64]⟩, ⟨some 65, none, .op (.ext 0) [.tmp 62]⟩, ⟨some 66, none, .op (.ext 1) [.tmp 62]⟩, ⟨some 67, none, .op (.ext 2) [.tmp 62]⟩, ⟨some 18, none, .op (.new 24 (.agg #[(.int .i64 0), (.int .i64 0), (.int .i64 0), (.int .i64 0), (.int .i64 0), (.int .i64 0), (.int .i64 0), (.int .i64 0), (.int .i64 0), (.int .i64 0), (.int .i64 0), (.int .i64 0), (.int .i64 0), (.int .i64 0), (.int .i64 0), (.int .i64 0), (.int .i64 0), (.int .i64 0), (.int .i64 0), (.int .i64 0)])) []⟩, ⟨none, none, .op (.st 20) [.tmp 18, .tmp 65]⟩, ⟨some 19, none, .op .mv [.tmp 66]⟩, ⟨some 20, none, .op .mv [.tmp 67]⟩]) (.seq (.reg [⟨some 69, none, .op (.ldn 20) [.tmp 5]⟩, ⟨some 70, none, .call 10 [.tmp 69, .const (.string ⟨#[9, 109, 105, 110, 58, 32, 50]⟩)]⟩, ⟨some 68, none, .op .mv [.tmp 70]⟩, ⟨some 71, none, .op (.ext 0) [.tmp 68]⟩, ⟨some 72, none, .op (.ext 1) [.tmp 68]⟩, ⟨some 73, none, .op (.ext 2) [.tmp 68]⟩, ⟨some 21, none, .op (.new 24 (.agg #[(.int .i64 0), (.int .i64 0), (.int .i64 0), (.int .i64 0), (.int .i64 0), (.int .i64 0), (.int .i64 0), (.int .i64 0), (.int .i64 0), (.int .i64 0), (.int .i64 0), (.int .i64 0), (.int .i64 0), (.int .i64 0), (.int .i64 0), (.int .i64 0), (.int .i64 0), (.int .i64 0), (.int .i64 0), (.int .i64 0)])) []⟩, ⟨none, none, .op (.st 20) [.tmp 21, .tmp 71]⟩, ⟨some 22, none, .op .mv [.tmp 72]⟩, ⟨some 23, none, .op .mv [.tmp 73]⟩]) (.seq (.reg [⟨some 75, none, .op (.ldn 20) [.tmp 5]⟩, ⟨some 76, none, .call 10 [.tmp 75, .const (.string ⟨#[109, 105, 110, 58, 32, 50, 32, 35, 32, 120]⟩)]⟩, ⟨some 74, none, .op .mv [.tmp 76]⟩, ⟨some 77, none, .op (.ext 0) [.tmp 74]⟩, ⟨some 78, none, .op (.ext 1) [.tmp 74]⟩, ⟨some 79, none, .op (.ext 2) [.tmp 74]⟩, ⟨some 24, none, .op (.new 24 (.agg #[(.int .i64 0), (.int .i64 0), (.int .i64 0), (.int .i64 0), (.int .i64 0), (.int .i64 0), (.int .i64 0), (.int .i64 0), (.int .i64 0), (.int .i64 0), (.int .i64 0), (.int .i64 0), (.int .i64 0), (.int .i64 0), (.int .i64 0), (.int .i64 0), (.int .i64 0), (.int .i64 0), (.int .i64 0), (.int .i64 0)])) []⟩, ⟨none, none, .op (.st 20) [.tmp 24, .tmp 77]⟩, ⟨some 25, none, .op .mv [.tmp 78]⟩, ⟨some 26, none, .op .mv [.tmp 79]⟩]) (.seq (.reg [⟨some 80, none, .op .mv [.tmp 17]⟩, ⟨some 81, none, .op .not [.tmp 80]⟩, ⟨some 82, none, .op .mv [.tmp 81]⟩, ⟨some 83, some (82, true), .op .mv [.tmp 19]⟩, ⟨some 84, some (82, true), .op (.bin .eql) [.tmp 83, .const (.int .i64 4)]⟩, ⟨some 85, none, .op .pick [.tmp 82, .tmp 84, .const (.bool false)]⟩, ⟨some 86, none, .op .mv [.tmp 85]⟩, ⟨some 87, some (86, true), .op .mv [.tmp 20]⟩, ⟨some 88, some (86, true), .op (.bin .eql) [.tmp 87, .const (.int .i64 1)]⟩, ⟨some 89, none, .op .pick [.tmp 86, .tmp 88, .const (.bool false)]⟩, ⟨some 90, none, .op .mv [.tmp 89]⟩, ⟨some 91, some (90, true), .op .mv [.tmp 22]⟩, ⟨some 92, some (90, true), .op (.bin .eql) [.tmp 91, .const (.int .i64 4)]⟩, ⟨some 93, none, .op .pick [.tmp 90, .tmp 92, .const (.bool false)]⟩, ⟨some 94, none, .op .mv [.tmp 93]⟩, ⟨some 95, some (94, true), .op .mv [.tmp 23]⟩, ⟨some 96, some (94, true), .op (.bin .eql) [.tmp 95, .const (.int .i64 1)]⟩, ⟨some 97, none, .op .pick [.tmp 94, .tmp 96, .const (.bool false)]⟩, ⟨some 98, none, .op .mv [.tmp 97]⟩, ⟨some 99, some (98, true), .op .mv [.tmp 25]⟩, ⟨some 100, some (98, true), .op (.bin .eql) [.tmp 99, .const (.int .i64 4)]⟩, ⟨some 101, none, .op .pick [.tmp 98, .tmp 100, .const (.bool false)]⟩, ⟨some 102, none, .op .mv [.tmp 101]⟩, ⟨some 103, some (102, true), .op .mv [.tmp 26]⟩, ⟨some 104, some (102, true), .op (.bin .eql) [.tmp 103, .const (.int .i64 1)]⟩, ⟨some 105, none, .op .pick [.tmp 102, .tmp 104, .const (.bool false)]⟩, ⟨some 106, none, .op .mv [.tmp 105]⟩, ⟨some 107, some (106, true), .op .mv [.tmp 1]⟩, ⟨some 108, some (106, true), .op (.bin .eql) [.tmp 107, .const (.int .i64 (-1050))]⟩, ⟨some 109, none, .op .pick [.tmp 106, .tmp 108, .const (.bool false)]⟩, ⟨some 110, none, .op .mv [.tmp 109]⟩, ⟨some 111, some (110, true), .op .mv [.tmp 2]⟩, ⟨some 112, none, .op .pick [.tmp 110, .tmp 111, .const (.bool false)]⟩, ⟨some 113, none, .op .mv [.tmp 112]⟩, ⟨some 114, some (113, true), .op .mv [.tmp 4]⟩, ⟨some 115, some (113, true), .op .not [.tmp 114]⟩, ⟨some 116, none, .op .pick [.tmp 113, .tmp 115, .const (.bool false)]⟩, ⟨some 117, none, .op .mv [.tmp 116]⟩, ⟨some 118, some (117, true), .call 17 [.const (.int .i64 1500)]⟩, ⟨some 119, some (117, true), .op (.bin .eql) [.tmp 118, .const (.string ⟨#[49, 46, 53]⟩)]⟩, ⟨some 120, none, .op .pick [.tmp 117, .tmp 119, .const (.bool false)]⟩, ⟨some 121, none, .op .mv [.tmp 120]⟩, ⟨some 122, some (121, true), .call 17 [.const (.int .i64 (-50))]⟩, ⟨some 123, some (121, true), .op (.bin .eql) [.tmp 122, .const (.string ⟨#[45, 48, 46, 48, 53]⟩)]⟩, ⟨some 124, none, .op .pick [.tmp 121, .tmp 123, .const (.bool false)]⟩, ⟨some 125, none, .op .mv [.tmp 124]⟩, ⟨some 126, some (125, true), .call 17 [.const (.int .i64 0)]⟩, ⟨some 127, some (125, true), .op (.bin .eql) [.tmp 126, .const (.string ⟨#[48]⟩)]⟩, ⟨some 128, none, .op .pick [.tmp 125, .tmp 127, .const (.bool false)]⟩, ⟨some 129, none, .op .mv [.tmp 128]⟩, ⟨some 130, some (129, true), .op .mv [.tmp 6]⟩, ⟨some 131, some (129, true), .op (.bin .eql) [.tmp 130, .const (.int .i64 0)]⟩, ⟨some 132, none, .op .pick [.tmp 129, .tmp 131, .const (.bool false)]⟩, ⟨some 133, none, .op .mv [.tmp 132]⟩, ⟨some 134, some (133, true), .op .mv [.tmp 7]⟩, ⟨some 135, some (133, true), .op (.bin .eql) [.tmp 134, .const (.int .i64 0)]⟩, ⟨some 136, none, .op .pick [.tmp 133, .tmp 135, .const (.bool false)]⟩, ⟨some 137, none, .op .mv [.tmp 136]⟩, ⟨some 138, some (137, true), .op (.fad 0) [.tmp 5]⟩, ⟨some 139, some (137, true), .op .ld1 [.tmp 138]⟩, ⟨some 140, some (137, true), .op (.bin .eql) [.tmp 139, .const (.int .i64 5500)]⟩, ⟨some 141, none, .op .pick [.tmp 137, .tmp 140, .const (.bool false)]⟩, ⟨some 142, none, .op .mv [.tmp 141]⟩, ⟨some 143, some (142, true), .op (.fad 8) [.tmp 5]⟩, ⟨some 144, some (142, true), .op .ld1 [.tmp 143]⟩, ⟨some 145, some (142, true), .op (.bin .eql) [.tmp 144, .const (.int .i64 2)]⟩, ⟨some 146, none, .op .pick [.tmp 142, .tmp 145, .const (.bool false)]⟩, ⟨some 147, none, .op .mv [.tmp 146]⟩, ⟨some 148, some (147, true), .op .mv [.tmp 9]⟩, ⟨some 149, some (147, true), .op (.bin .eql) [.tmp 148, .const (.int .i64 4)]⟩, ⟨some 150, none, .op .pick [.tmp 147, .tmp 149, .const (.bool false)]⟩, ⟨some 151, none, .op .mv [.tmp 150]⟩, ⟨some 152, some (151, true), .op .mv [.tmp 10]⟩, ⟨some 153, some (151, true), .op (.bin .eql) [.tmp 152, .const (.int .i64 2)]⟩, ⟨some 154, none, .op .pick [.tmp 151, .tmp 153, .const (.bool false)]⟩, ⟨some 155, none, .op .mv [.tmp 154]⟩, ⟨some 156, some (155, true), .op .mv [.tmp 12]⟩, ⟨some 157, some (155, true), .op (.bin .eql) [.tmp 156, .const (.int .i64 5)]⟩, ⟨some 158, none, .op .pick [.tmp 155, .tmp 157, .const (.bool false)]⟩, ⟨some 159, none, .op .mv [.tmp 158]⟩, ⟨some 160, some (159, true), .op .mv [.tmp 13]⟩, ⟨some 161, some (159, true), .op (.bin .eql) [.tmp 160, .const (.int .i64 0)]⟩, ⟨some 162, none, .op .pick [.tmp 159, .tmp 161, .const (.bool false)]⟩, ⟨some 163, none, .op .mv [.tmp 162]⟩, ⟨some 164, some (163, true), .op (.ldn 20) [.tmp 11]⟩, ⟨some 165, some (163, true), .op (.ldn 20) [.tmp 5]⟩, ⟨some 166, some (163, true), .fl (.binOp .eql 24 (.tmp 164) (.tmp 165) 24) 4⟩, ⟨some 167, none, .op .pick [.tmp 163, .tmp 166, .const (.bool false)]⟩, ⟨some 168, none, .op .mv [.tmp 167]⟩, ⟨some 169, some (168, true), .op .mv [.tmp 15]⟩, ⟨some 170, some (168, true), .op (.bin .eql) [.tmp 169, .const (.int .i64 0)]⟩, ⟨some 171, none, .op .pick [.tmp 168, .tmp 170, .const (.bool false)]⟩, ⟨some 172, none, .op .mv [.tmp 171]⟩, ⟨some 173, some (172, true), .op .mv [.tmp 14]⟩, ⟨some 174, some (172, true), .op .lens [.tmp 173]⟩, ⟨some 175, some (172, true), .op (.bin .gtr) [.tmp 174, .const (.int .i64 13)]⟩, ⟨some 176, none, .op .pick [.tmp 172, .tmp 175, .const (.bool false)]⟩, ⟨some 177, none, .op .mv [.tmp 176]⟩, ⟨some 178, some (177, true), .op .mv [.tmp 14]⟩, ⟨some 179, some (177, true), .op (.sls false true) [.tmp 178, .const (.int .i64 12)]⟩, ⟨some 180, some (177, true), .op (.bin .eql) [.tmp 179, .const (.string ⟨#[116, 97, 114, 103, 101, 116, 58, 32, 53, 46, 53, 10]⟩)]⟩, ⟨some 181, none, .op .pick [.tmp 177, .tmp 180, .const (.bool false)]⟩, ⟨some 0, none, .op .mv [.tmp 181]⟩]) (.ret))))))))))))⟩
theorem c11 : compF Go.Proofs.Tryd.prog Go.Proofs.Tryd.f11 = some ir11 := by kernel_rfl
/-- spinnaker/text.Number -/
def ir12 : FI :=
  ⟨55, [.tmp 2, .tmp 3], .seq (.reg [⟨some 2, none, .op .mv [.const (.int .i64 0)]⟩, ⟨some 3, none, .op .mv [.const (.bool false)]⟩]) (.seq (.reg [⟨some 13, none, .op .mv [.tmp 0]⟩, ⟨some 14, none, .call 28 [.tmp 13, .const (.string ⟨#[45]⟩)]⟩, ⟨some 12, none, .op .mv [.tmp 14]⟩, ⟨some 15, none, .op (.ext 0) [.tmp 12]⟩, ⟨some 16, none, .op (.ext 1) [.tmp 12]⟩, ⟨some 0, none, .op .mv [.tmp 15]⟩, ⟨some 4, none, .op .mv [.tmp 16]⟩]) (.seq (.reg [⟨some 18, none, .op .mv [.tmp 0]⟩, ⟨some 19, none, .call 24 [.tmp 18, .const (.string ⟨#[46]⟩)]⟩, ⟨some 17, none, .op .mv [.tmp 19]⟩, ⟨some 20, none, .op (.ext 0) [.tmp 17]⟩, ⟨some 21, none, .op (.ext 1) [.tmp 17]⟩, ⟨some 22, none, .op (.ext 2) [.tmp 17]⟩, ⟨some 5, none, .op .mv [.tmp 20]⟩, ⟨some 6, none, .op .mv [.tmp 21]⟩, ⟨some 7, none, .op .mv [.tmp 22]⟩]) (.seq (.reg [⟨some 24, none, .op .mv [.tmp 5]⟩, ⟨some 25, none, .call 29 [.tmp 24, .const (.int .i64 9)]⟩, ⟨some 23, none, .op .mv [.tmp 25]⟩, ⟨some 26, none, .op (.ext 0) [.tmp 23]⟩, ⟨some 27, none, .op (.ext 1) [.tmp 23]⟩, ⟨some 8, none, .op .mv [.tmp 26]⟩, ⟨some 9, none, .op .mv [.tmp 27]⟩]) (.seq (.seq (.reg [⟨some 28, none, .op .mv [.tmp 9]⟩, ⟨some 29, none, .op .not [.tmp 28]⟩]) (.cond (.tmp 29) (.seq (.reg [⟨some 2, none, .op .mv [.const (.int .i64 0)]⟩, ⟨some 3, none, .op .mv [.const (.bool false)]⟩]) (.ret)) (.skip))) (.seq (.reg [⟨some 30, none, .op .mv [.tmp 8]⟩, ⟨some 31, none, .op (.bin .mul) [.tmp 30, .const (.int .i64 1000)]⟩, ⟨some 8, none, .op .mv [.tmp 31]⟩]) (.seq (.seq (.reg [⟨some 32, none, .op .mv [.tmp 7]⟩]) (.cond (.tmp 32) (.seq (.reg [⟨some 34, none, .op .mv [.tmp 6]⟩, ⟨some 35, none, .call 29 [.tmp 34, .const (.int .i64 3)]⟩, ⟨some 33, none, .op .mv [.tmp 35]⟩, ⟨some 36, none, .op (.ext 0) [.tmp 33]⟩, ⟨some 37, none, .op (.ext 1) [.tmp 33]⟩, ⟨some 10, none, .op .mv [.tmp 36]⟩, ⟨some 11, none, .op .mv [.tmp 37]⟩]) (.seq (.seq (.reg [⟨some 38, none, .op .mv [.tmp 11]⟩, ⟨some 39, none, .op .not [.tmp 38]⟩]) (.cond (.tmp 39) (.seq (.reg [⟨some 2, none, .op .mv [.const (.int .i64 0)]⟩, ⟨some 3, none, .op .mv [.const (.bool false)]⟩]) (.ret)) (.skip))) (.seq (.seq (.reg [⟨some 40, none, .op .mv [.tmp 6]⟩, ⟨some 41, none, .op .lens [.tmp 40]⟩, ⟨some 42, none, .op (.bin .sub) [.const (.int .i64 3), .tmp 41]⟩, ⟨some 43, none, .op .mv [.const (.int .i64 0)]⟩]) (.block 0 (.loop (.seq (.reg [⟨some 44, none, .op (.bin .lss) [.tmp 43, .tmp 42]⟩]) (.seq (.cond (.tmp 44) (.skip) (.exit 0)) (.seq (.block 1 (.reg [⟨some 45, none, .op .mv [.tmp 10]⟩, ⟨some 46, none, .op (.bin .mul) [.tmp 45, .const (.int .i64 10)]⟩, ⟨some 10, none, .op .mv [.tmp 46]⟩])) (.reg [⟨some 47, none, .op (.bin .add) [.tmp 43, .const (.int .i64 1)]⟩, ⟨some 43, none, .op .mv [.tmp 47]⟩]))))))) (.reg [⟨some 48, none, .op .mv [.tmp 8]⟩, ⟨some 49, none, .op .mv [.tmp 10]⟩, ⟨some 50, none, .op (.bin .add) [.tmp 48, .tmp 49]⟩, ⟨some 8, none, .op .mv [.tmp 50]⟩])))) (.skip))) (.seq (.seq (.reg [⟨some 51, none, .op .mv [.tmp 4]⟩]) (.cond (.tmp 51) (.reg [⟨some 52, none, .op .mv [.tmp 8]⟩, ⟨some 53, none, .op .neg [.tmp 52]⟩, ⟨some 8, none, .op .mv [.tmp 53]⟩]) (.skip))) (.seq (.reg [⟨some 54, none, .op .mv [.tmp 8]⟩, ⟨some 2, none, .op .mv [.tmp 54]⟩, ⟨some 3, none, .op .mv [.const (.bool true)]⟩]) (.ret)))))))))⟩
theorem c12 : compF Go.Proofs.Tryd.prog Go.Proofs.Tryd.f12 = some ir12 := by kernel_rfl
/-- spinnaker/spinnakerref1.Number -/
def ir13 : FI :=
  ⟨72, [.tmp 2, .tmp 3], .seq (.reg [⟨some 2, none, .op .mv [.const (.int .i64 0)]⟩, ⟨some 3, none, .op .mv [.const (.bool false)]⟩]) (.seq (.reg [⟨some 10, none, .op .mv [.tmp 0]⟩, ⟨some 11, none, .op .lens [.tmp 10]⟩, ⟨some 12, none, .op (.bin .gtr) [.tmp 11, .const (.int .i64 0)]⟩, ⟨some 13, none, .op .mv [.tmp 12]⟩, ⟨some 14, some (13, true), .op .mv [.tmp 0]⟩, ⟨some 15, some (13, true), .op .ixs [.tmp 14, .const (.int .i64 0)]⟩, ⟨some 16, some (13, true), .op (.bin .eql) [.tmp 15, .const (.int .u8 45)]⟩, ⟨some 17, none, .op .pick [.tmp 13, .tmp 16, .const (.bool false)]⟩, ⟨some 4, none, .op .mv [.tmp 17]⟩]) (.seq (.seq (.reg [⟨some 18, none, .op .mv [.tmp 4]⟩]) (.cond (.tmp 18) (.reg [⟨some 19, none, .op .mv [.tmp 0]⟩, ⟨some 20, none, .op (.sls true false) [.tmp 19, .const (.int .i64 1)]⟩, ⟨some 0, none, .op .mv [.tmp 20]⟩]) (.skip))) (.seq (.reg [⟨some 21, none, .op .mv [.tmp 0]⟩, ⟨some 22, none, .op .lens [.tmp 21]⟩, ⟨some 5, none, .op .mv [.tmp 22]⟩]) (.seq (.seq (.reg [⟨some 6, none, .op .mv [.const (.int .i64 0)]⟩]) (.block 0 (.loop (.seq (.seq (.reg [⟨some 23, none, .op .mv [.tmp 6]⟩, ⟨some 24, none, .op .mv [.tmp 0]⟩, ⟨some 25, none, .op .lens [.tmp 24]⟩, ⟨some 26, none, .op (.bin .lss) [.tmp 23, .tmp 25]⟩, ⟨some 27, none, .op .mv [.tmp 26]⟩, ⟨some 28, some (27, true), .op .mv [.tmp 5]⟩, ⟨some 29, some (27, true), .op .mv [.tmp 0]⟩, ⟨some 30, some (27, true), .op .lens [.tmp 29]⟩, ⟨some 31, some (27, true), .op (.bin .eql) [.tmp 28, .tmp 30]⟩, ⟨some 32, none, .op .pick [.tmp 27, .tmp 31, .const (.bool false)]⟩]) (.cond (.tmp 32) (.skip) (.exit 0))) (.seq (.block 1 (.seq (.reg [⟨some 35, none, .op .mv [.tmp 0]⟩, ⟨some 36, none, .op .mv [.tmp 6]⟩, ⟨some 37, none, .op .ixs [.tmp 35, .tmp 36]⟩, ⟨some 38, none, .op (.bin .eql) [.tmp 37, .const (.int .u8 46)]⟩]) (.cond (.tmp 38) (.reg [⟨some 39, none, .op .mv [.tmp 6]⟩, ⟨some 5, none, .op .mv [.tmp 39]⟩]) (.skip)))) (.reg [⟨some 33, none, .op .mv [.tmp 6]⟩, ⟨some 34, none, .op (.bin .add) [.tmp 33, .const (.int .i64 1)]⟩, ⟨some 6, none, .op .mv [.tmp 34]⟩])))))) (.seq (.reg [⟨some 40, none, .op .mv [.tmp 0]⟩, ⟨some 41, none, .op .mv [.tmp 5]⟩, ⟨some 42, none, .op (.sls false true) [.tmp 40, .tmp 41]⟩, ⟨some 43, none, .call 30 [.tmp 42, .const (.int .i64 9)]⟩, ⟨some 7, none, .op .mv [.tmp 43]⟩]) (.seq (.reg [⟨some 8, none, .op .mv [.const (.int .i64 0)]⟩]) (.seq (.seq (.reg [⟨some 44, none, .op .mv [.tmp 5]⟩, ⟨some 45, none, .op .mv [.tmp 0]⟩, ⟨some 46, none, .op .lens [.tmp 45]⟩, ⟨some 47, none, .op (.bin .lss) [.tmp 44, .tmp 46]⟩]) (.cond (.tmp 47) (.seq (.reg [⟨some 48, none, .op .mv [.tmp 0]⟩, ⟨some 49, none, .op .mv [.tmp 5]⟩, ⟨some 50, none, .op (.bin .add) [.tmp 49, .const (.int .i64 1)]⟩, ⟨some 51, none, .op (.sls true false) [.tmp 48, .tmp 50]⟩, ⟨some 9, none, .op .mv [.tmp 51]⟩]) (.seq (.seq (.reg [⟨some 52, none, .op .mv [.tmp 9]⟩, ⟨some 53, none, .call 30 [.tmp 52, .const (.int .i64 3)]⟩, ⟨some 54, none, .op (.bin .lss) [.tmp 53, .const (.int .i64 0)]⟩]) (.cond (.tmp 54) (.seq (.reg [⟨some 2, none, .op .mv [.const (.int .i64 0)]⟩, ⟨some 3, none, .op .mv [.const (.bool false)]⟩]) (.ret)) (.skip))) (.seq (.block 2 (.loop (.seq (.seq (.reg [⟨some 55, none, .op .mv [.tmp 9]⟩, ⟨some 56, none, .op .lens [.tmp 55]⟩, ⟨some 57, none, .op (.bin .lss) [.tmp 56, .const (.int .i64 3)]⟩]) (.cond (.tmp 57) (.skip) (.exit 2))) (.block 3 (.reg [⟨some 58, none, .op .mv [.tmp 9]⟩, ⟨some 59, none, .op (.bin .add) [.tmp 58, .const (.string ⟨#[48]⟩)]⟩, ⟨some 9, none, .op .mv [.tmp 59]⟩]))))) (.reg [⟨some 60, none, .op .mv [.tmp 9]⟩, ⟨some 61, none, .call 30 [.tmp 60, .const (.int .i64 3)]⟩, ⟨some 8, none, .op .mv [.tmp 61]⟩])))) (.skip))) (.seq (.seq (.reg [⟨some 62, none, .op .mv [.tmp 7]⟩, ⟨some 63, none, .op (.bin .lss) [.tmp 62, .const (.int .i64 0)]⟩]) (.cond (.tmp 63) (.seq (.reg [⟨some 2, none, .op .mv [.const (.int .i64 0)]⟩, ⟨some 3, none, .op .mv [.const (.bool false)]⟩]) (.ret)) (.skip))) (.seq (.reg [⟨some 64, none, .op .mv [.tmp 7]⟩, ⟨some 65, none, .op (.bin .mul) [.tmp 64, .const (.int .i64 1000)]⟩, ⟨some 66, none, .op .mv [.tmp 8]⟩, ⟨some 67, none, .op (.bin .add) [.tmp 65, .tmp 66]⟩, ⟨some 7, none, .op .mv [.tmp 67]⟩]) (.seq (.seq (.reg [⟨some 68, none, .op .mv [.tmp 4]⟩]) (.cond (.tmp 68) (.reg [⟨some 69, none, .op .mv [.tmp 7]⟩, ⟨some 70, none, .op .neg [.tmp 69]⟩, ⟨some 7, none, .op .mv [.tmp 70]⟩]) (.skip))) (.seq (.reg [⟨some 71, none, .op .mv [.tmp 7]⟩, ⟨some 2, none, .op .mv [.tmp 71]⟩, ⟨some 3, none, .op .mv [.const (.bool true)]⟩]) (.ret))))))))))))⟩
theorem c13 : compF Go.Proofs.Tryd.prog Go.Proofs.Tryd.f13 = some ir13 := by kernel_rfl
/-- spinnaker/spinnakerref1.Parse -/
def ir14 : FI :=
  ⟨108, [.cell 4 24, .tmp 5, .tmp 6], .seq (.reg [⟨some 2, none, .op (.box 24) [.tmp 0]⟩, ⟨some 4, none, .op (.new 24 (.agg #[(.int .i64 0), (.int .i64 0), (.int .i64 0), (.int .i64 0), (.int .i64 0), (.int .i64 0), (.int .i64 0), (.int .i64 0), (.int .i64 0), (.int .i64 0), (.int .i64 0), (.int .i64 0), (.int .i64 0), (.int .i64 0), (.int .i64 0), (.int .i64 0), (.int .i64 0), (.int .i64 0), (.int .i64 0), (.int .i64 0)])) []⟩, ⟨some 5, none, .op .mv [.const (.int .i64 0)]⟩, ⟨some 6, none, .op .mv [.const (.int .i64 0)]⟩]) (.seq (.reg [⟨some 17, none, .op (.ldn 20) [.tmp 2]⟩, ⟨some 18, none, .call 31 [.tmp 17]⟩, ⟨some 7, none, .op .mv [.tmp 18]⟩]) (.seq (.reg [⟨some 19, none, .op .mv [.tmp 7]⟩, ⟨some 20, none, .op .len [.tmp 19]⟩, ⟨some 21, none, .op (.mks 4 1 1 #[(.bool false)]) [.tmp 20, .tmp 20]⟩, ⟨some 8, none, .op .mv [.tmp 21]⟩]) (.seq (.reg [⟨some 9, none, .op .mv [.const (.int .i64 0)]⟩, ⟨some 10, none, .op .mv [.const (.int .i64 0)]⟩]) (.seq (.seq (.reg [⟨some 11, none, .op .mv [.const (.int .i64 0)]⟩]) (.block 0 (.loop (.seq (.seq (.reg [⟨some 22, none, .op .mv [.tmp 11]⟩, ⟨some 23, none, .op .mv [.tmp 1]⟩, ⟨some 24, none, .op .lens [.tmp 23]⟩, ⟨some 25, none, .op (.bin .leq) [.tmp 22, .tmp 24]⟩]) (.cond (.tmp 25) (.skip) (.exit 0))) (.seq (.block 1 (.seq (.seq (.reg [⟨some 28, none, .op .mv [.tmp 11]⟩, ⟨some 29, none, .op .mv [.tmp 1]⟩, ⟨some 30, none, .op .lens [.tmp 29]⟩, ⟨some 31, none, .op (.bin .lss) [.tmp 28, .tmp 30]⟩, ⟨some 32, none, .op .mv [.tmp 31]⟩, ⟨some 33, some (32, true), .op .mv [.tmp 1]⟩, ⟨some 34, some (32, true), .op .mv [.tmp 11]⟩, ⟨some 35, some (32, true), .op .ixs [.tmp 33, .tmp 34]⟩, ⟨some 36, some (32, true), .op (.bin .neq) [.tmp 35, .const (.int .u8 10)]⟩, ⟨some 37, none, .op .pick [.tmp 32, .tmp 36, .const (.bool false)]⟩]) (.cond (.tmp 37) (.exit 1) (.skip))) (.seq (.reg [⟨some 38, none, .op .mv [.tmp 10]⟩, ⟨some 39, none, .op (.bin .add) [.tmp 38, .const (.int .i64 1)]⟩, ⟨some 10, none, .op .mv [.tmp 39]⟩]) (.seq (.reg [⟨some 40, none, .op .mv [.tmp 9]⟩, ⟨some 41, none, .op .mv [.tmp 11]⟩, ⟨some 12, none, .op .mv [.tmp 40]⟩, ⟨some 13, none, .op .mv [.tmp 41]⟩]) (.seq (.block 2 (.loop (.seq (.seq (.reg [⟨some 42, none, .op .mv [.tmp 12]⟩, ⟨some 43, none, .op .mv [.tmp 13]⟩, ⟨some 44, none, .op (.bin .lss) [.tmp 42, .tmp 43]⟩, ⟨some 45, none, .op .mv [.tmp 44]⟩, ⟨some 46, some (45, true), .op .mv [.tmp 1]⟩, ⟨some 47, some (45, true), .op .mv [.tmp 12]⟩, ⟨some 48, some (45, true), .op .ixs [.tmp 46, .tmp 47]⟩, ⟨some 49, some (45, true), .op (.bin .eql) [.tmp 48, .const (.int .u8 32)]⟩, ⟨some 50, none, .op .pick [.tmp 45, .tmp 49, .const (.bool false)]⟩]) (.cond (.tmp 50) (.skip) (.exit 2))) (.block 3 (.reg [⟨some 51, none, .op .mv [.tmp 12]⟩, ⟨some 52, none, .op (.bin .add) [.tmp 51, .const (.int .i64 1)]⟩, ⟨some 12, none, .op .mv [.tmp 52]⟩]))))) (.seq (.block 4 (.loop (.seq (.seq (.reg [⟨some 53, none, .op .mv [.tmp 13]⟩, ⟨some 54, none, .op .mv [.tmp 12]⟩, ⟨some 55, none, .op (.bin .gtr) [.tmp 53, .tmp 54]⟩, ⟨some 56, none, .op .mv [.tmp 55]⟩, ⟨some 57, some (56, true), .op .mv [.tmp 1]⟩, ⟨some 58, some (56, true), .op .mv [.tmp 13]⟩, ⟨some 59, some (56, true), .op (.bin .sub) [.tmp 58, .const (.int .i64 1)]⟩, ⟨some 60, some (56, true), .op .ixs [.tmp 57, .tmp 59]⟩, ⟨some 61, some (56, true), .op (.bin .eql) [.tmp 60, .const (.int .u8 32)]⟩, ⟨some 62, none, .op .pick [.tmp 56, .tmp 61, .const (.bool false)]⟩]) (.cond (.tmp 62) (.skip) (.exit 4))) (.block 5 (.reg [⟨some 63, none, .op .mv [.tmp 13]⟩, ⟨some 64, none, .op (.bin .sub) [.tmp 63, .const (.int .i64 1)]⟩, ⟨some 13, none, .op .mv [.tmp 64]⟩]))))) (.seq (.seq (.reg [⟨some 65, none, .op .mv [.tmp 12]⟩, ⟨some 66, none, .op .mv [.tmp 13]⟩, ⟨some 67, none, .op (.bin .lss) [.tmp 65, .tmp 66]⟩, ⟨some 68, none, .op .mv [.tmp 67]⟩, ⟨some 69, some (68, true), .op .mv [.tmp 1]⟩, ⟨some 70, some (68, true), .op .mv [.tmp 12]⟩, ⟨some 71, some (68, true), .op .ixs [.tmp 69, .tmp 70]⟩, ⟨some 72, some (68, true), .op (.bin .neq) [.tmp 71, .const (.int .u8 35)]⟩, ⟨some 73, none, .op .pick [.tmp 68, .tmp 72, .const (.bool false)]⟩]) (.cond (.tmp 73) (.seq (.reg [⟨some 75, none, .op .mv [.tmp 1]⟩, ⟨some 76, none, .op .mv [.tmp 12]⟩, ⟨some 77, none, .op .mv [.tmp 13]⟩, ⟨some 78, none, .op (.sls true true) [.tmp 75, .tmp 76, .tmp 77]⟩, ⟨some 79, none, .call 32 [.tmp 78]⟩, ⟨some 74, none, .op .mv [.tmp 79]⟩, ⟨some 80, none, .op (.ext 0) [.tmp 74]⟩, ⟨some 81, none, .op (.ext 1) [.tmp 74]⟩, ⟨some 14, none, .op .mv [.tmp 80]⟩, ⟨some 15, none, .op .mv [.tmp 81]⟩]) (.seq (.seq (.reg [⟨some 82, none, .op .mv [.tmp 14]⟩, ⟨some 83, none, .op (.bin .lss) [.tmp 82, .const (.int .i64 0)]⟩, ⟨some 84, none, .op .mv [.tmp 83]⟩, ⟨some 85, some (84, false), .op .mv [.tmp 8]⟩, ⟨some 86, some (84, false), .op .mv [.tmp 14]⟩, ⟨some 87, some (84, false), .op (.iad 1) [.tmp 85, .tmp 86]⟩, ⟨some 88, some (84, false), .op .ld1 [.tmp 87]⟩, ⟨some 89, none, .op .pick [.tmp 84, .const (.bool true), .tmp 88]⟩]) (.cond (.tmp 89) (.seq (.reg [⟨some 90, none, .op (.ldn 20) [.tmp 2]⟩, ⟨some 91, none, .op .mv [.tmp 10]⟩, ⟨none, none, .op (.st 20) [.tmp 4, .tmp 90]⟩, ⟨some 5, none, .op .mv [.const (.int .i64 4)]⟩, ⟨some 6, none, .op .mv [.tmp 91]⟩]) (.ret)) (.skip))) (.reg [⟨some 92, none, .op .mv [.tmp 7]⟩, ⟨some 93, none, .op .mv [.tmp 14]⟩, ⟨some 94, none, .op .mv [.tmp 8]⟩, ⟨some 95, none, .op .mv [.tmp 14]⟩, ⟨some 96, none, .op .mv [.tmp 15]⟩, ⟨some 97, none, .op (.iad 1) [.tmp 92, .tmp 93]⟩, ⟨none, none, .op (.st 1) [.tmp 97, .tmp 96]⟩, ⟨some 98, none, .op (.iad 1) [.tmp 94, .tmp 95]⟩, ⟨none, none, .op (.st 1) [.tmp 98, .const (.bool true)]⟩]))) (.skip))) (.reg [⟨some 99, none, .op .mv [.tmp 11]⟩, ⟨some 100, none, .op (.bin .add) [.tmp 99, .const (.int .i64 1)]⟩, ⟨some 9, none, .op .mv [.tmp 100]⟩])))))))) (.reg [⟨some 26, none, .op .mv [.tmp 11]⟩, ⟨some 27, none, .op (.bin .add) [.tmp 26, .const (.int .i64 1)]⟩, ⟨some 11, none, .op .mv [.tmp 27]⟩])))))) (.seq (.reg [⟨some 101, none, .op .mv [.tmp 7]⟩, ⟨some 102, none, .call 33 [.tmp 101]⟩, ⟨some 16, none, .op (.new 24 (.agg #[(.int .i64 0), (.int .i64 0), (.int .i64 0), (.int .i64 0), (.int .i64 0), (.int .i64 0), (.int .i64 0), (.int .i64 0), (.int .i64 0), (.int .i64 0), (.int .i64 0), (.int .i64 0), (.int .i64 0), (.int .i64 0), (.int .i64 0), (.int .i64 0), (.int .i64 0), (.int .i64 0), (.int .i64 0), (.int .i64 0)])) []⟩, ⟨none, none, .op (.st 20) [.tmp 16, .tmp 102]⟩]) (.seq (.seq (.reg [⟨some 103, none, .op (.ldn 20) [.tmp 16]⟩, ⟨some 104, none, .call 19 [.tmp 103]⟩, ⟨some 105, none, .op .not [.tmp 104]⟩]) (.cond (.tmp 105) (.seq (.reg [⟨some 106, none, .op (.ldn 20) [.tmp 2]⟩, ⟨none, none, .op (.st 20) [.tmp 4, .tmp 106]⟩, ⟨some 5, none, .op .mv [.const (.int .i64 5)]⟩, ⟨some 6, none, .op .mv [.const (.int .i64 0)]⟩]) (.ret)) (.skip))) (.seq (.reg [⟨some 107, none, .op (.ldn 20) [.tmp 16]⟩, ⟨none, none, .op (.st 20) [.tmp 4, .tmp 107]⟩, ⟨some 5, none, .op .mv [.const (.int .i64 0)]⟩, ⟨some 6, none, .op .mv [.const (.int .i64 0)]⟩]) (.ret))))))))⟩
theorem c14 : compF Go.Proofs.Tryd.prog Go.Proofs.Tryd.f14 = some ir14 := by kernel_rfl
/-- spinnaker/text.Print -/
def ir15 : FI :=
  ⟨45, [.tmp 2, .tmp 3], .seq (.reg [⟨some 1, none, .op (.box 24) [.tmp 0]⟩, ⟨some 2, none, .op .mv [.const (.string ⟨#[]⟩)]⟩, ⟨some 3, none, .op .mv [.const (.int .i64 0)]⟩]) (.seq (.seq (.reg [⟨some 9, none, .op (.ldn 20) [.tmp 1]⟩, ⟨some 10, none, .call 27 [.tmp 9]⟩, ⟨some 11, none, .op .not [.tmp 10]⟩]) (.cond (.tmp 11) (.seq (.reg [⟨some 2, none, .op .mv [.const (.string ⟨#[]⟩)]⟩, ⟨some 3, none, .op .mv [.const (.int .i64 1)]⟩]) (.ret)) (.skip))) (.seq (.reg [⟨some 4, none, .op (.newB 66 (.agg #[(.pointer none), (.slice none 0 0)])) []⟩]) (.seq (.seq (.reg [⟨some 12, none, .call 25 [.tmp 1]⟩, ⟨some 13, none, .op .len [.tmp 12]⟩, ⟨some 14, none, .op .mv [.const (.int .i64 0)]⟩]) (.block 0 (.loop (.seq (.reg [⟨some 15, none, .op (.bin .lss) [.tmp 14, .tmp 13]⟩]) (.seq (.cond (.tmp 15) (.skip) (.exit 0)) (.seq (.block 1 (.seq (.reg [⟨some 16, none, .op (.iad 2) [.tmp 12, .tmp 14]⟩, ⟨some 17, none, .op (.ldn 2) [.tmp 16]⟩, ⟨some 6, none, .op (.new 51 (.agg #[(.string ⟨#[]⟩), .nilIface])) []⟩, ⟨none, none, .op (.st 2) [.tmp 6, .tmp 17]⟩]) (.seq (.reg [⟨some 18, none, .op (.fad 0) [.tmp 6]⟩, ⟨some 19, none, .op .ld1 [.tmp 18]⟩, ⟨some 20, none, .op (.bin .add) [.tmp 19, .const (.string ⟨#[58, 32]⟩)]⟩, ⟨some 21, none, .call 34 [.tmp 4, .tmp 20]⟩]) (.seq (.seq (.reg [⟨some 23, none, .op (.fad 1) [.tmp 6]⟩, ⟨some 24, none, .op .ld1 [.tmp 23]⟩, ⟨some 25, none, .op (.tas 71 true (.pointer none)) [.tmp 24]⟩, ⟨some 22, none, .op .mv [.tmp 25]⟩, ⟨some 26, none, .op (.ext 0) [.tmp 22]⟩, ⟨some 27, none, .op (.ext 1) [.tmp 22]⟩, ⟨some 7, none, .op .mv [.tmp 26]⟩, ⟨some 8, none, .op .mv [.tmp 27]⟩]) (.seq (.reg [⟨some 28, none, .op .mv [.tmp 8]⟩]) (.cond (.tmp 28) (.seq (.reg [⟨some 29, none, .op .mv [.tmp 7]⟩, ⟨some 30, none, .op .nck [.tmp 29]⟩, ⟨some 31, none, .op .ld1 [.tmp 30]⟩, ⟨some 32, none, .call 17 [.tmp 31]⟩, ⟨some 33, none, .op (.bin .add) [.tmp 32, .const (.string ⟨#[10]⟩)]⟩, ⟨some 34, none, .call 34 [.tmp 4, .tmp 33]⟩]) (.exit 1)) (.skip)))) (.reg [⟨some 35, none, .op (.fad 1) [.tmp 6]⟩, ⟨some 36, none, .op .ld1 [.tmp 35]⟩, ⟨some 37, none, .op (.tas 74 false .nilIface) [.tmp 36]⟩, ⟨some 38, none, .op .nck [.tmp 37]⟩, ⟨some 39, none, .op .ld1 [.tmp 38]⟩, ⟨some 40, none, .call 35 [.tmp 39]⟩, ⟨some 41, none, .op (.bin .add) [.tmp 40, .const (.string ⟨#[10]⟩)]⟩, ⟨some 42, none, .call 34 [.tmp 4, .tmp 41]⟩]))))) (.reg [⟨some 43, none, .op (.bin .add) [.tmp 14, .const (.int .i64 1)]⟩, ⟨some 14, none, .op .mv [.tmp 43]⟩]))))))) (.seq (.reg [⟨some 44, none, .call 36 [.tmp 4]⟩, ⟨some 2, none, .op .mv [.tmp 44]⟩, ⟨some 3, none, .op .mv [.const (.int .i64 0)]⟩]) (.ret)))))⟩
theorem c15 : compF Go.Proofs.Tryd.prog Go.Proofs.Tryd.f15 = some ir15 := by kernel_rfl
/-- spinnaker/spinnakerref1.Print -/
def ir16 : FI :=
  ⟨43, [.tmp 2, .tmp 3], .seq (.reg [⟨some 1, none, .op (.box 24) [.tmp 0]⟩, ⟨some 2, none, .op .mv [.const (.string ⟨#[]⟩)]⟩, ⟨some 3, none, .op .mv [.const (.int .i64 0)]⟩]) (.seq (.seq (.reg [⟨some 8, none, .op (.ldn 20) [.tmp 1]⟩, ⟨some 9, none, .call 19 [.tmp 8]⟩, ⟨some 10, none, .op .not [.tmp 9]⟩]) (.cond (.tmp 10) (.seq (.reg [⟨some 2, none, .op .mv [.const (.string ⟨#[]⟩)]⟩, ⟨some 3, none, .op .mv [.const (.int .i64 1)]⟩]) (.ret)) (.skip))) (.seq (.reg [⟨some 4, none, .op .mv [.const (.string ⟨#[]⟩)]⟩]) (.seq (.reg [⟨some 11, none, .op (.ldn 20) [.tmp 1]⟩, ⟨some 12, none, .call 31 [.tmp 11]⟩, ⟨some 5, none, .op .mv [.tmp 12]⟩]) (.seq (.seq (.reg [⟨some 6, none, .op .mv [.const (.int .i64 0)]⟩]) (.block 0 (.loop (.seq (.seq (.reg [⟨some 13, none, .op .mv [.tmp 6]⟩, ⟨some 14, none, .op .mv [.tmp 5]⟩, ⟨some 15, none, .op .len [.tmp 14]⟩, ⟨some 16, none, .op (.bin .lss) [.tmp 13, .tmp 15]⟩]) (.cond (.tmp 16) (.skip) (.exit 0))) (.seq (.block 1 (.seq (.reg [⟨some 19, none, .op .mv [.tmp 5]⟩, ⟨some 20, none, .op .mv [.tmp 6]⟩, ⟨some 21, none, .op (.iad 1) [.tmp 19, .tmp 20]⟩, ⟨some 22, none, .op .ld1 [.tmp 21]⟩, ⟨some 23, none, .op (.mm true) [.tmp 22, .const (.int .i64 0)]⟩, ⟨some 24, none, .call 20 [.tmp 23]⟩, ⟨some 7, none, .op .mv [.tmp 24]⟩]) (.seq (.seq (.reg [⟨some 25, none, .op .mv [.tmp 6]⟩, ⟨some 26, none, .call 37 [.tmp 25]⟩]) (.cond (.tmp 26) (.reg [⟨some 27, none, .op .mv [.tmp 5]⟩, ⟨some 28, none, .op .mv [.tmp 6]⟩, ⟨some 29, none, .op (.iad 1) [.tmp 27, .tmp 28]⟩, ⟨some 30, none, .op .ld1 [.tmp 29]⟩, ⟨some 31, none, .call 18 [.tmp 30]⟩, ⟨some 7, none, .op .mv [.tmp 31]⟩]) (.skip))) (.reg [⟨some 32, none, .op .mv [.tmp 4]⟩, ⟨some 33, none, .call 21 []⟩, ⟨some 34, none, .op .mv [.tmp 6]⟩, ⟨some 35, none, .op (.iad 1) [.tmp 33, .tmp 34]⟩, ⟨some 36, none, .op .ld1 [.tmp 35]⟩, ⟨some 37, none, .op (.bin .add) [.tmp 32, .tmp 36]⟩, ⟨some 38, none, .op (.bin .add) [.tmp 37, .const (.string ⟨#[58, 32]⟩)]⟩, ⟨some 39, none, .op .mv [.tmp 7]⟩, ⟨some 40, none, .op (.bin .add) [.tmp 38, .tmp 39]⟩, ⟨some 41, none, .op (.bin .add) [.tmp 40, .const (.string ⟨#[10]⟩)]⟩, ⟨some 4, none, .op .mv [.tmp 41]⟩])))) (.reg [⟨some 17, none, .op .mv [.tmp 6]⟩, ⟨some 18, none, .op (.bin .add) [.tmp 17, .const (.int .i64 1)]⟩, ⟨some 6, none, .op .mv [.tmp 18]⟩])))))) (.seq (.reg [⟨some 42, none, .op .mv [.tmp 4]⟩, ⟨some 2, none, .op .mv [.tmp 42]⟩, ⟨some 3, none, .op .mv [.const (.int .i64 0)]⟩]) (.ret))))))⟩
theorem c16 : compF Go.Proofs.Tryd.prog Go.Proofs.Tryd.f16 = some ir16 := by kernel_rfl
/-- spinnaker/text.Show -/
def ir17 : FI :=
  ⟨28, [.tmp 2], .seq (.reg [⟨some 2, none, .op .mv [.const (.string ⟨#[]⟩)]⟩]) (.seq (.reg [⟨some 3, none, .op .mv [.const (.string ⟨#[]⟩)]⟩]) (.seq (.seq (.reg [⟨some 5, none, .op .mv [.tmp 0]⟩, ⟨some 6, none, .op (.bin .lss) [.tmp 5, .const (.int .i64 0)]⟩]) (.cond (.tmp 6) (.seq (.reg [⟨some 7, none, .op .mv [.tmp 0]⟩, ⟨some 8, none, .op (.mm true) [.tmp 7, .const (.int .i64 (-9223372036854775807))]⟩, ⟨some 9, none, .op .neg [.tmp 8]⟩, ⟨some 0, none, .op .mv [.tmp 9]⟩]) (.reg [⟨some 3, none, .op .mv [.const (.string ⟨#[45]⟩)]⟩])) (.skip))) (.seq (.reg [⟨some 10, none, .op .mv [.tmp 3]⟩, ⟨some 11, none, .op .mv [.tmp 0]⟩, ⟨some 12, none, .op (.bin .quo) [.tmp 11, .const (.int .i64 1000)]⟩, ⟨some 13, none, .call 38 [.tmp 12, .const (.int .i64 10)]⟩, ⟨some 14, none, .op (.bin .add) [.tmp 10, .tmp 13]⟩, ⟨some 4, none, .op .mv [.tmp 14]⟩]) (.seq (.seq (.reg [⟨some 15, none, .op .mv [.tmp 0]⟩, ⟨some 16, none, .op (.bin .rem) [.tmp 15, .const (.int .i64 1000)]⟩, ⟨some 17, none, .op (.bin .eql) [.tmp 16, .const (.int .i64 0)]⟩]) (.cond (.tmp 17) (.seq (.reg [⟨some 18, none, .op .mv [.tmp 4]⟩, ⟨some 2, none, .op .mv [.tmp 18]⟩]) (.ret)) (.skip))) (.seq (.reg [⟨some 19, none, .op .mv [.tmp 4]⟩, ⟨some 20, none, .op (.bin .add) [.tmp 19, .const (.string ⟨#[46]⟩)]⟩, ⟨some 21, none, .op .mv [.tmp 0]⟩, ⟨some 22, none, .op (.bin .rem) [.tmp 21, .const (.int .i64 1000)]⟩, ⟨some 23, none, .op (.bin .add) [.const (.int .i64 1000), .tmp 22]⟩, ⟨some 24, none, .call 38 [.tmp 23, .const (.int .i64 10)]⟩, ⟨some 25, none, .op (.sls true false) [.tmp 24, .const (.int .i64 1)]⟩, ⟨some 26, none, .call 39 [.tmp 25, .const (.string ⟨#[48]⟩)]⟩, ⟨some 27, none, .op (.bin .add) [.tmp 20, .tmp 26]⟩, ⟨some 2, none, .op .mv [.tmp 27]⟩]) (.ret))))))⟩
theorem c17 : compF Go.Proofs.Tryd.prog Go.Proofs.Tryd.f17 = some ir17 := by kernel_rfl
/-- spinnaker/spinnakerref1.Show -/
def ir18 : FI :=
  ⟨39, [.tmp 2], .seq (.reg [⟨some 2, none, .op .mv [.const (.string ⟨#[]⟩)]⟩]) (.seq (.reg [⟨some 3, none, .op .mv [.const (.string ⟨#[]⟩)]⟩]) (.seq (.seq (.reg [⟨some 5, none, .op .mv [.tmp 0]⟩, ⟨some 6, none, .op (.bin .lss) [.tmp 5, .const (.int .i64 0)]⟩]) (.cond (.tmp 6) (.reg [⟨some 7, none, .op .mv [.tmp 0]⟩, ⟨some 8, none, .op (.mm true) [.tmp 7, .const (.int .i64 (-9223372036854775807))]⟩, ⟨some 9, none, .op .neg [.tmp 8]⟩, ⟨some 3, none, .op .mv [.const (.string ⟨#[45]⟩)]⟩, ⟨some 0, none, .op .mv [.tmp 9]⟩]) (.skip))) (.seq (.reg [⟨some 10, none, .op .mv [.tmp 3]⟩, ⟨some 11, none, .op .mv [.tmp 0]⟩, ⟨some 12, none, .op (.bin .quo) [.tmp 11, .const (.int .i64 1000)]⟩, ⟨some 13, none, .call 20 [.tmp 12]⟩, ⟨some 14, none, .op (.bin .add) [.tmp 10, .tmp 13]⟩, ⟨some 3, none, .op .mv [.tmp 14]⟩]) (.seq (.seq (.reg [⟨some 15, none, .op .mv [.tmp 0]⟩, ⟨some 16, none, .op (.bin .rem) [.tmp 15, .const (.int .i64 1000)]⟩, ⟨some 17, none, .op (.bin .eql) [.tmp 16, .const (.int .i64 0)]⟩]) (.cond (.tmp 17) (.seq (.reg [⟨some 18, none, .op .mv [.tmp 3]⟩, ⟨some 2, none, .op .mv [.tmp 18]⟩]) (.ret)) (.skip))) (.seq (.reg [⟨some 19, none, .op .mv [.tmp 0]⟩, ⟨some 20, none, .op (.bin .rem) [.tmp 19, .const (.int .i64 1000)]⟩, ⟨some 21, none, .op (.bin .add) [.const (.int .i64 1000), .tmp 20]⟩, ⟨some 22, none, .call 20 [.tmp 21]⟩, ⟨some 23, none, .op (.sls true false) [.tmp 22, .const (.int .i64 1)]⟩, ⟨some 4, none, .op .mv [.tmp 23]⟩]) (.seq (.block 0 (.loop (.seq (.seq (.reg [⟨some 24, none, .op .mv [.tmp 4]⟩, ⟨some 25, none, .op .mv [.tmp 4]⟩, ⟨some 26, none, .op .lens [.tmp 25]⟩, ⟨some 27, none, .op (.bin .sub) [.tmp 26, .const (.int .i64 1)]⟩, ⟨some 28, none, .op .ixs [.tmp 24, .tmp 27]⟩, ⟨some 29, none, .op (.bin .eql) [.tmp 28, .const (.int .u8 48)]⟩]) (.cond (.tmp 29) (.skip) (.exit 0))) (.block 1 (.reg [⟨some 30, none, .op .mv [.tmp 4]⟩, ⟨some 31, none, .op .mv [.tmp 4]⟩, ⟨some 32, none, .op .lens [.tmp 31]⟩, ⟨some 33, none, .op (.bin .sub) [.tmp 32, .const (.int .i64 1)]⟩, ⟨some 34, none, .op (.sls false true) [.tmp 30, .tmp 33]⟩, ⟨some 4, none, .op .mv [.tmp 34]⟩]))))) (.seq (.reg [⟨some 35, none, .op .mv [.tmp 3]⟩, ⟨some 36, none, .op (.bin .add) [.tmp 35, .const (.string ⟨#[46]⟩)]⟩, ⟨some 37, none, .op .mv [.tmp 4]⟩, ⟨some 38, none, .op (.bin .add) [.tmp 36, .tmp 37]⟩, ⟨some 2, none, .op .mv [.tmp 38]⟩]) (.ret))))))))⟩
theorem c18 : compF Go.Proofs.Tryd.prog Go.Proofs.Tryd.f18 = some ir18 := by kernel_rfl
/-- spinnaker/spinnakerref1.May -/
def ir19 : FI :=
  ⟨6, [.tmp 2], .seq (.reg [⟨some 1, none, .op (.box 24) [.tmp 0]⟩, ⟨some 2, none, .op .mv [.const (.bool false)]⟩]) (.seq (.reg [⟨some 3, none, .op (.ldn 20) [.tmp 1]⟩, ⟨some 4, none, .call 40 [.tmp 3]⟩, ⟨some 5, none, .op (.bin .eql) [.tmp 4, .const (.string ⟨#[]⟩)]⟩, ⟨some 2, none, .op .mv [.tmp 5]⟩]) (.ret))⟩
theorem c19 : compF Go.Proofs.Tryd.prog Go.Proofs.Tryd.f19 = some ir19 := by kernel_rfl
/-- spinnaker/spinnakerref1.Decimal -/
def ir20 : FI :=
  ⟨22, [.tmp 2], .seq (.reg [⟨some 2, none, .op .mv [.const (.string ⟨#[]⟩)]⟩]) (.seq (.reg [⟨some 3, none, .op .mv [.const (.string ⟨#[]⟩)]⟩]) (.seq (.block 0 (.loop (.seq (.seq (.reg [⟨some 4, none, .op .mv [.tmp 0]⟩, ⟨some 5, none, .op (.bin .gtr) [.tmp 4, .const (.int .i64 9)]⟩]) (.cond (.tmp 5) (.skip) (.exit 0))) (.block 1 (.seq (.reg [⟨some 6, none, .op .mv [.tmp 0]⟩, ⟨some 7, none, .op (.bin .rem) [.tmp 6, .const (.int .i64 10)]⟩, ⟨some 8, none, .op .mv [.tmp 0]⟩, ⟨some 9, none, .op (.bin .rem) [.tmp 8, .const (.int .i64 10)]⟩, ⟨some 10, none, .op (.bin .add) [.tmp 9, .const (.int .i64 1)]⟩, ⟨some 11, none, .op (.sls true true) [.const (.string ⟨#[48, 49, 50, 51, 52, 53, 54, 55, 56, 57]⟩), .tmp 7, .tmp 10]⟩, ⟨some 12, none, .op .mv [.tmp 3]⟩, ⟨some 13, none, .op (.bin .add) [.tmp 11, .tmp 12]⟩, ⟨some 3, none, .op .mv [.tmp 13]⟩]) (.reg [⟨some 14, none, .op .mv [.tmp 0]⟩, ⟨some 15, none, .op (.bin .quo) [.tmp 14, .const (.int .i64 10)]⟩, ⟨some 0, none, .op .mv [.tmp 15]⟩])))))) (.seq (.reg [⟨some 16, none, .op .mv [.tmp 0]⟩, ⟨some 17, none, .op .mv [.tmp 0]⟩, ⟨some 18, none, .op (.bin .add) [.tmp 17, .const (.int .i64 1)]⟩, ⟨some 19, none, .op (.sls true true) [.const (.string ⟨#[48, 49, 50, 51, 52, 53, 54, 55, 56, 57]⟩), .tmp 16, .tmp 18]⟩, ⟨some 20, none, .op .mv [.tmp 3]⟩, ⟨some 21, none, .op (.bin .add) [.tmp 19, .tmp 20]⟩, ⟨some 2, none, .op .mv [.tmp 21]⟩]) (.ret))))⟩
theorem c20 : compF Go.Proofs.Tryd.prog Go.Proofs.Tryd.f20 = some ir20 := by kernel_rfl
/-- spinnaker/spinnakerref1.Names -/
def ir21 : FI :=
  ⟨2, [.tmp 0], .seq (.reg [⟨some 0, none, .op .mv [.const (.slice none 0 0)]⟩]) (.seq (.reg [⟨some 1, none, .op (.bsl 9 1 20 #[(.string ⟨#[]⟩), (.string ⟨#[]⟩), (.string ⟨#[]⟩), (.string ⟨#[]⟩), (.string ⟨#[]⟩), (.string ⟨#[]⟩), (.string ⟨#[]⟩), (.string ⟨#[]⟩), (.string ⟨#[]⟩), (.string ⟨#[]⟩), (.string ⟨#[]⟩), (.string ⟨#[]⟩), (.string ⟨#[]⟩), (.string ⟨#[]⟩), (.string ⟨#[]⟩), (.string ⟨#[]⟩), (.string ⟨#[]⟩), (.string ⟨#[]⟩), (.string ⟨#[]⟩), (.string ⟨#[]⟩)] [0, 1, 2, 3, 4, 5, 6, 7, 8, 9, 10, 11, 12, 13, 14, 15, 16, 17, 18, 19]) [.const (.string ⟨#[116, 97, 114, 103, 101, 116]⟩), .const (.string ⟨#[117, 116, 105, 108]⟩), .const (.string ⟨#[115, 116, 97, 98, 108, 101]⟩), .const (.string ⟨#[112, 97, 110, 105, 99]⟩), .const (.string ⟨#[103, 114, 97, 105, 110]⟩), .const (.string ⟨#[116, 104, 114, 101, 115, 104, 111, 108, 100]⟩), .const (.string ⟨#[117, 112]⟩), .const (.string ⟨#[100, 111, 119, 110]⟩), .const (.string ⟨#[109, 105, 110]⟩), .const (.string ⟨#[109, 97, 120]⟩), .const (.string ⟨#[105, 110, 105, 116, 105, 97, 108]⟩), .const (.string ⟨#[103, 114, 97, 99, 101]⟩), .const (.string ⟨#[100, 101, 108, 97, 121]⟩), .const (.string ⟨#[98, 117, 114, 115, 116]⟩), .const (.string ⟨#[108, 105, 109, 105, 116]⟩), .const (.string ⟨#[113, 117, 101, 117, 101]⟩), .const (.string ⟨#[116, 105, 109, 101, 111, 117, 116]⟩), .const (.string ⟨#[114, 101, 97, 100, 121]⟩), .const (.string ⟨#[115, 117, 98, 115, 101, 116]⟩), .const (.string ⟨#[115, 97, 109, 112, 108, 101]⟩)]⟩, ⟨some 0, none, .op .mv [.tmp 1]⟩]) (.ret))⟩
theorem c21 : compF Go.Proofs.Tryd.prog Go.Proofs.Tryd.f21 = some ir21 := by kernel_rfl
/-- strings.Split -/
def ir22 : FI :=
  ⟨8, [.tmp 4], .seq (.reg [⟨some 4, none, .op .mv [.const (.slice none 0 0)]⟩]) (.seq (.reg [⟨some 5, none, .op .mv [.tmp 0]⟩, ⟨some 6, none, .op .mv [.tmp 1]⟩, ⟨some 7, none, .call 41 [.tmp 5, .tmp 6, .const (.int .i64 0), .const (.int .i64 (-1))]⟩, ⟨some 4, none, .op .mv [.tmp 7]⟩]) (.ret))⟩
theorem c22 : compF Go.Proofs.Tryd.prog Go.Proofs.Tryd.f22 = some ir22 := by kernel_rfl
/-- strings.Trim -/
def ir23 : FI :=
  ⟨43, [.tmp 4], .seq (.reg [⟨some 4, none, .op .mv [.const (.string ⟨#[]⟩)]⟩]) (.seq (.seq (.reg [⟨some 7, none, .op .mv [.tmp 0]⟩, ⟨some 8, none, .op (.bin .eql) [.tmp 7, .const (.string ⟨#[]⟩)]⟩, ⟨some 9, none, .op .mv [.tmp 8]⟩, ⟨some 10, some (9, false), .op .mv [.tmp 1]⟩, ⟨some 11, some (9, false), .op (.bin .eql) [.tmp 10, .const (.string ⟨#[]⟩)]⟩, ⟨some 12, none, .op .pick [.tmp 9, .const (.bool true), .tmp 11]⟩]) (.cond (.tmp 12) (.seq (.reg [⟨some 13, none, .op .mv [.tmp 0]⟩, ⟨some 4, none, .op .mv [.tmp 13]⟩]) (.ret)) (.skip))) (.seq (.seq (.reg [⟨some 14, none, .op .mv [.tmp 1]⟩, ⟨some 15, none, .op .lens [.tmp 14]⟩, ⟨some 16, none, .op (.bin .eql) [.tmp 15, .const (.int .i64 1)]⟩, ⟨some 17, none, .op .mv [.tmp 16]⟩, ⟨some 18, some (17, true), .op .mv [.tmp 1]⟩, ⟨some 19, some (17, true), .op .ixs [.tmp 18, .const (.int .i64 0)]⟩, ⟨some 20, some (17, true), .op (.bin .lss) [.tmp 19, .const (.int .u8 128)]⟩, ⟨some 21, none, .op .pick [.tmp 17, .tmp 20, .const (.bool false)]⟩]) (.cond (.tmp 21) (.seq (.drw [⟨0, ⟨some 22, none, .op .mv [.tmp 0]⟩, false, []⟩, ⟨1, ⟨some 23, none, .op .mv [.tmp 1]⟩, false, []⟩, ⟨2, ⟨some 24, none, .op .ixs [.tmp 23, .const (.int .i64 0)]⟩, false, []⟩, ⟨4, ⟨some 26, none, .op .mv [.tmp 1]⟩, false, []⟩, ⟨5, ⟨some 27, none, .op .ixs [.tmp 26, .const (.int .i64 0)]⟩, false, []⟩, ⟨3, ⟨some 25, none, .call 43 [.tmp 22, .tmp 24]⟩, true, []⟩, ⟨6, ⟨some 28, none, .call 42 [.tmp 25, .tmp 27]⟩, true, []⟩, ⟨7, ⟨some 4, none, .op .mv [.tmp 28]⟩, false, []⟩]) (.ret)) (.skip))) (.seq (.seq (.reg [⟨some 30, none, .op .mv [.tmp 1]⟩, ⟨some 31, none, .call 44 [.tmp 30]⟩, ⟨some 29, none, .op .mv [.tmp 31]⟩, ⟨some 32, none, .op (.ext 0) [.tmp 29]⟩, ⟨some 33, none, .op (.ext 1) [.tmp 29]⟩, ⟨some 5, none, .op (.new 82 (.agg #[(.bool false), (.bool false), (.bool false), (.bool false), (.bool false), (.bool false), (.bool false), (.bool false), (.bool false), (.bool false), (.bool false), (.bool false), (.bool false), (.bool false), (.bool false), (.bool false), (.bool false), (.bool false), (.bool false), (.bool false), (.bool false), (.bool false), (.bool false), (.bool false), (.bool false), (.bool false), (.bool false), (.bool false), (.bool false), (.bool false), (.bool false), (.bool false), (.bool false), (.bool false), (.bool false), (.bool false), (.bool false), (.bool false), (.bool false), (.bool false), (.bool false), (.bool false), (.bool false), (.bool false), (.bool false), (.bool false), (.bool false), (.bool false), (.bool false), (.bool false), (.bool false), (.bool false), (.bool false), (.bool false), (.bool false), (.bool false), (.bool false), (.bool false), (.bool false), (.bool false), (.bool false), (.bool false), (.bool false), (.bool false), (.bool false), (.bool false), (.bool false), (.bool false), (.bool false), (.bool false), (.bool false), (.bool false), (.bool false), (.bool false), (.bool false), (.bool false), (.bool false), (.bool false), (.bool false), (.bool false), (.bool false), (.bool false), (.bool false), (.bool false), (.bool false), (.bool false), (.bool false), (.bool false), (.bool false), (.bool false), (.bool false), (.bool false), (.bool false), (.bool false), (.bool false), (.bool false), (.bool false), (.bool false), (.bool false), (.bool false), (.bool false), (.bool false), (.bool false), (.bool false), (.bool false), (.bool false), (.bool false), (.bool false), (.bool false), (.bool false), (.bool false), (.bool false), (.bool false), (.bool false), (.bool false), (.bool false), (.bool false), (.bool false), (.bool false), (.bool false), (.bool false), (.bool false), (.bool false), (.bool false), (.bool false), (.bool false), (.bool false), (.bool false), (.bool false), (.bool false), (.bool false), (.bool false), (.bool false), (.bool false), (.bool false), (.bool false), (.bool false), (.bool false), (.bool false), (.bool false), (.bool false), (.bool false), (.bool false), (.bool false), (.bool false), (.bool false), (.bool false), (.bool false), (.bool false), (.bool false), (.bool false), (.bool false), (.bool false), (.bool false), (.bool false), (.bool false), (.bool false), (.bool false), (.bool false), (.bool false), (.bool false), (.bool false), (.bool false), (.bool false), (.bool false), (.bool false), (.bool false), (.bool false), (.bool false), (.bool false), (.bool false), (.bool false), (.bool false), (.bool false), (.bool false), (.bool false), (.bool false), (.bool false), (.bool false), (.bool false), (.bool false), (.bool false), (.bool false), (.bool false), (.bool false), (.bool false), (.bool false), (.bool false), (.bool false), (.bool false), (.bool false), (.bool false), (.bool false), (.bool false), (.bool false), (.bool false), (.bool false), (.bool false), (.bool false), (.bool false), (.bool false), (.bool false), (.bool false), (.bool false), (.bool false), (.bool false), (.bool false), (.bool false), (.bool false), (.bool false), (.bool false), (.bool false), (.bool false), (.bool false), (.bool false), (.bool false), (.bool false), (.bool false), (.bool false), (.bool false), (.bool false), (.bool false), (.bool false), (.bool false), (.bool false), (.bool false), (.bool false), (.bool false), (.bool false), (.bool false), (.bool false), (.bool false), (.bool false), (.bool false), (.bool false), (.bool false), (.bool false), (.bool false), (.bool false), (.bool false), (.bool false), (.bool false), (.bool false), (.bool false), (.bool false), (.bool false), (.bool false), (.bool false), (.bool false), (.bool false), (.bool false), (.bool false), (.bool false), (.bool false), (.bool false), (.bool false)])) []⟩, ⟨none, none, .op (.st 256) [.tmp 5, .tmp 32]⟩, ⟨some 6, none, .op .mv [.tmp 33]⟩]) (.seq (.reg [⟨some 34, none, .op .mv [.tmp 6]⟩]) (.cond (.tmp 34) (.seq (.reg [⟨some 35, none, .op .mv [.tmp 0]⟩, ⟨some 36, none, .call 46 [.tmp 35, .tmp 5]⟩, ⟨some 37, none, .call 45 [.tmp 36, .tmp 5]⟩, ⟨some 4, none, .op .mv [.tmp 37]⟩]) (.ret)) (.skip)))) (.seq (.reg [⟨some 38, none, .op .mv [.tmp 0]⟩, ⟨some 39, none, .op .mv [.tmp 1]⟩, ⟨some 40, none, .call 48 [.tmp 38, .tmp 39]⟩, ⟨some 41, none, .op .mv [.tmp 1]⟩, ⟨some 42, none, .call 47 [.tmp 40, .tmp 41]⟩, ⟨some 4, none, .op .mv [.tmp 42]⟩]) (.ret)))))⟩
theorem c23 : compF Go.Proofs.Tryd.prog Go.Proofs.Tryd.f23 = some ir23 := by kernel_rfl
/-- strings.Cut -/
def ir24 : FI :=
  ⟨13, [.tmp 4, .tmp 5, .tmp 6], .seq (.reg [⟨some 4, none, .op .mv [.const (.string ⟨#[]⟩)]⟩, ⟨some 5, none, .op .mv [.const (.string ⟨#[]⟩)]⟩, ⟨some 6, none, .op .mv [.const (.bool false)]⟩]) (.seq (.reg [⟨some 7, none, .op .mv [.tmp 0]⟩, ⟨some 8, none, .op .mv [.tmp 1]⟩, ⟨some 9, none, .call 49 [.tmp 7, .tmp 8]⟩, ⟨some 10, none, .op (.ext 0) [.tmp 9]⟩, ⟨some 11, none, .op (.ext 1) [.tmp 9]⟩, ⟨some 12, none, .op (.ext 2) [.tmp 9]⟩, ⟨some 4, none, .op .mv [.tmp 10]⟩, ⟨some 5, none, .op .mv [.tmp 11]⟩, ⟨some 6, none, .op .mv [.tmp 12]⟩]) (.ret))⟩
theorem c24 : compF Go.Proofs.Tryd.prog Go.Proofs.Tryd.f24 = some ir24 := by kernel_rfl
/-- spinnaker/text.parts -/
def ir25 : FI :=
  ⟨104, [.tmp 2], .seq (.reg [⟨some 2, none, .op .mv [.const (.slice none 0 0)]⟩]) (.seq (.drw [⟨0, ⟨some 3, none, .op .mv [.tmp 0]⟩, false, []⟩, ⟨1, ⟨some 4, none, .op .nck [.tmp 3]⟩, false, []⟩, ⟨2, ⟨some 5, none, .op (.fad 0) [.tmp 4]⟩, false, []⟩, ⟨3, ⟨some 6, none, .op (.ifc 71) [.tmp 5]⟩, false, []⟩, ⟨4, ⟨some 7, none, .op (.bld #[(.string ⟨#[]⟩), .nilIface] [(0, 1), (1, 1)] [0, 1]) [.const (.string ⟨#[116, 97, 114, 103, 101, 116]⟩), .tmp 6]⟩, false, []⟩, ⟨5, ⟨some 8, none, .op .mv [.tmp 0]⟩, false, []⟩, ⟨6, ⟨some 9, none, .op .nck [.tmp 8]⟩, false, []⟩, ⟨7, ⟨some 10, none, .op (.fad 1) [.tmp 9]⟩, false, []⟩, ⟨8, ⟨some 11, none, .op (.ifc 71) [.tmp 10]⟩, false, []⟩, ⟨9, ⟨some 12, none, .op (.bld #[(.string ⟨#[]⟩), .nilIface] [(0, 1), (1, 1)] [0, 1]) [.const (.string ⟨#[117, 116, 105, 108]⟩), .tmp 11]⟩, false, []⟩, ⟨10, ⟨some 13, none, .op .mv [.tmp 0]⟩, false, []⟩, ⟨11, ⟨some 14, none, .op .nck [.tmp 13]⟩, false, []⟩, ⟨12, ⟨some 15, none, .op (.fad 2) [.tmp 14]⟩, false, []⟩, ⟨13, ⟨some 16, none, .op (.ifc 74) [.tmp 15]⟩, false, []⟩, ⟨14, ⟨some 17, none, .op (.bld #[(.string ⟨#[]⟩), .nilIface] [(0, 1), (1, 1)] [0, 1]) [.const (.string ⟨#[115, 116, 97, 98, 108, 101]⟩), .tmp 16]⟩, false, []⟩, ⟨15, ⟨some 18, none, .op .mv [.tmp 0]⟩, false, []⟩, ⟨16, ⟨some 19, none, .op .nck [.tmp 18]⟩, false, []⟩, ⟨17, ⟨some 20, none, .op (.fad 3) [.tmp 19]⟩, false, []⟩, ⟨18, ⟨some 21, none, .op (.ifc 74) [.tmp 20]⟩, false, []⟩, ⟨19, ⟨some 22, none, .op (.bld #[(.string ⟨#[]⟩), .nilIface] [(0, 1), (1, 1)] [0, 1]) [.const (.string ⟨#[112, 97, 110, 105, 99]⟩), .tmp 21]⟩, false, []⟩, ⟨20, ⟨some 23, none, .op .mv [.tmp 0]⟩, false, []⟩, ⟨21, ⟨some 24, none, .op .nck [.tmp 23]⟩, false, []⟩, ⟨22, ⟨some 25, none, .op (.fad 4) [.tmp 24]⟩, false, []⟩, ⟨23, ⟨some 26, none, .op (.ifc 74) [.tmp 25]⟩, false, []⟩, ⟨24, ⟨some 27, none, .op (.bld #[(.string ⟨#[]⟩), .nilIface] [(0, 1), (1, 1)] [0, 1]) [.const (.string ⟨#[103, 114, 97, 105, 110]⟩), .tmp 26]⟩, false, []⟩, ⟨25, ⟨some 28, none, .op .mv [.tmp 0]⟩, false, []⟩, ⟨26, ⟨some 29, none, .op .nck [.tmp 28]⟩, false, []⟩, ⟨27, ⟨some 30, none, .op (.fad 5) [.tmp 29]⟩, false, []⟩, ⟨28, ⟨some 31, none, .op (.ifc 71) [.tmp 30]⟩, false, []⟩, ⟨29, ⟨some 32, none, .op (.bld #[(.string ⟨#[]⟩), .nilIface] [(0, 1), (1, 1)] [0, 1]) [.const (.string ⟨#[116, 104, 114, 101, 115, 104, 111, 108, 100]⟩), .tmp 31]⟩, false, []⟩, ⟨30, ⟨some 33, none, .op .mv [.tmp 0]⟩, false, []⟩, ⟨31, ⟨some 34, none, .op .nck [.tmp 33]⟩, false, []⟩, ⟨32, ⟨some 35, none, .op (.fad 6) [.tmp 34]⟩, false, []⟩, ⟨33, ⟨some 36, none, .op (.ifc 71) [.tmp 35]⟩, false, []⟩, ⟨34, ⟨some 37, none, .op (.bld #[(.string ⟨#[]⟩), .nilIface] [(0, 1), (1, 1)] [0, 1]) [.const (.string ⟨#[117, 112]⟩), .tmp 36]⟩, false, []⟩, ⟨35, ⟨some 38, none, .op .mv [.tmp 0]⟩, false, []⟩, ⟨36, ⟨some 39, none, .op .nck [.tmp 38]⟩, false, []⟩, ⟨37, ⟨some 40, none, .op (.fad 7) [.tmp 39]⟩, false, []⟩, ⟨38, ⟨some 41, none, .op (.ifc 71) [.tmp 40]⟩, false, []⟩, ⟨39, ⟨some 42, none, .op (.bld #[(.string ⟨#[]⟩), .nilIface] [(0, 1), (1, 1)] [0, 1]) [.const (.string ⟨#[100, 111, 119, 110]⟩), .tmp 41]⟩, false, []⟩, ⟨40, ⟨some 43, none, .op .mv [.tmp 0]⟩, false, []⟩, ⟨41, ⟨some 44, none, .op .nck [.tmp 43]⟩, false, []⟩, ⟨42, ⟨some 45, none, .op (.fad 8) [.tmp 44]⟩, false, []⟩, ⟨43, ⟨some 46, none, .op (.ifc 74) [.tmp 45]⟩, false, []⟩, ⟨44, ⟨some 47, none, .op (.bld #[(.string ⟨#[]⟩), .nilIface] [(0, 1), (1, 1)] [0, 1]) [.const (.string ⟨#[109, 105, 110]⟩), .tmp 46]⟩, false, []⟩, ⟨45, ⟨some 48, none, .op .mv [.tmp 0]⟩, false, []⟩, ⟨46, ⟨some 49, none, .op .nck [.tmp 48]⟩, false, []⟩, ⟨47, ⟨some 50, none, .op (.fad 9) [.tmp 49]⟩, false, []⟩, ⟨48, ⟨some 51, none, .op (.ifc 74) [.tmp 50]⟩, false, []⟩, ⟨49, ⟨some 52, none, .op (.bld #[(.string ⟨#[]⟩), .nilIface] [(0, 1), (1, 1)] [0, 1]) [.const (.string ⟨#[109, 97, 120]⟩), .tmp 51]⟩, false, []⟩, ⟨50, ⟨some 53, none, .op .mv [.tmp 0]⟩, false, []⟩, ⟨51, ⟨some 54, none, .op .nck [.tmp 53]⟩, false, []⟩, ⟨52, ⟨some 55, none, .op (.fad 10) [.tmp 54]⟩, false, []⟩, ⟨53, ⟨some 56, none, .op (.ifc 74) [.tmp 55]⟩, false, []⟩, ⟨54, ⟨some 57, none, .op (.bld #[(.string ⟨#[]⟩), .nilIface] [(0, 1), (1, 1)] [0, 1]) [.const (.string ⟨#[105, 110, 105, 116, 105, 97, 108]⟩), .tmp 56]⟩, false, []⟩, ⟨55, ⟨some 58, none, .op .mv [.tmp 0]⟩, false, []⟩, ⟨56, ⟨some 59, none, .op .nck [.tmp 58]⟩, false, []⟩, ⟨57, ⟨some 60, none, .op (.fad 11) [.tmp 59]⟩, false, []⟩, ⟨58, ⟨some 61, none, .op (.ifc 74) [.tmp 60]⟩, false, []⟩, ⟨59, ⟨some 62, none, .op (.bld #[(.string ⟨#[]⟩), .nilIface] [(0, 1), (1, 1)] [0, 1]) [.const (.string ⟨#[103, 114, 97, 99, 101]⟩), .tmp 61]⟩, false, []⟩, ⟨60, ⟨some 63, none, .op .mv [.tmp 0]⟩, false, []⟩, ⟨61, ⟨some 64, none, .op .nck [.tmp 63]⟩, false, []⟩, ⟨62, ⟨some 65, none, .op (.fad 12) [.tmp 64]⟩, false, []⟩, ⟨63, ⟨some 66, none, .op (.ifc 74) [.tmp 65]⟩, false, []⟩, ⟨64, ⟨some 67, none, .op (.bld #[(.string ⟨#[]⟩), .nilIface] [(0, 1), (1, 1)] [0, 1]) [.const (.string ⟨#[100, 101, 108, 97, 121]⟩), .tmp 66]⟩, false, []⟩, ⟨65, ⟨some 68, none, .op .mv [.tmp 0]⟩, false, []⟩, ⟨66, ⟨some 69, none, .op .nck [.tmp 68]⟩, false, []⟩, ⟨67, ⟨some 70, none, .op (.fad 13) [.tmp 69]⟩, false, []⟩, ⟨68, ⟨some 71, none, .op (.ifc 71) [.tmp 70]⟩, false, []⟩, ⟨69, ⟨some 72, none, .op (.bld #[(.string ⟨#[]⟩), .nilIface] [(0, 1), (1, 1)] [0, 1]) [.const (.string ⟨#[98, 117, 114, 115, 116]⟩), .tmp 71]⟩, false, []⟩, ⟨70, ⟨some 73, none, .op .mv [.tmp 0]⟩, false, []⟩, ⟨71, ⟨some 74, none, .op .nck [.tmp 73]⟩, false, []⟩, ⟨72, ⟨some 75, none, .op (.fad 14) [.tmp 74]⟩, false, []⟩, ⟨73, ⟨some 76, none, .op (.ifc 74) [.tmp 75]⟩, false, []⟩, ⟨74, ⟨some 77, none, .op (.bld #[(.string ⟨#[]⟩), .nilIface] [(0, 1), (1, 1)] [0, 1]) [.const (.string ⟨#[108, 105, 109, 105, 116]⟩), .tmp 76]⟩, false, []⟩, ⟨75, ⟨some 78, none, .op .mv [.tmp 0]⟩, false, []⟩, ⟨76, ⟨some 79, none, .op .nck [.tmp 78]⟩, false, []⟩, ⟨77, ⟨some 80, none, .op (.fad 15) [.tmp 79]⟩, false, []⟩, ⟨78, ⟨some 81, none, .op (.ifc 74) [.tmp 80]⟩, false, []⟩, ⟨79, ⟨some 82, none, .op (.bld #[(.string ⟨#[]⟩), .nilIface] [(0, 1), (1, 1)] [0, 1]) [.const (.string ⟨#[113, 117, 101, 117, 101]⟩), .tmp 81]⟩, false, []⟩, ⟨80, ⟨some 83, none, .op .mv [.tmp 0]⟩, false, []⟩, ⟨81, ⟨some 84, none, .op .nck [.tmp 83]⟩, false, []⟩, ⟨82, ⟨some 85, none, .op (.fad 16) [.tmp 84]⟩, false, []⟩, ⟨83, ⟨some 86, none, .op (.ifc 74) [.tmp 85]⟩, false, []⟩, ⟨84, ⟨some 87, none, .op (.bld #[(.string ⟨#[]⟩), .nilIface] [(0, 1), (1, 1)] [0, 1]) [.const (.string ⟨#[116, 105, 109, 101, 111, 117, 116]⟩), .tmp 86]⟩, false, []⟩, ⟨85, ⟨some 88, none, .op .mv [.tmp 0]⟩, false, []⟩, ⟨86, ⟨some 89, none, .op .nck [.tmp 88]⟩, false, []⟩, ⟨87, ⟨some 90, none, .op (.fad 17) [.tmp 89]⟩, false, []⟩, ⟨88, ⟨some 91, none, .op (.ifc 74) [.tmp 90]⟩, false, []⟩, ⟨89, ⟨some 92, none, .op (.bld #[(.string ⟨#[]⟩), .nilIface] [(0, 1), (1, 1)] [0, 1]) [.const (.string ⟨#[114, 101, 97, 100, 121]⟩), .tmp 91]⟩, false, []⟩, ⟨90, ⟨some 93, none, .op .mv [.tmp 0]⟩, false, []⟩, ⟨91, ⟨some 94, none, .op .nck [.tmp 93]⟩, false, []⟩, ⟨92, ⟨some 95, none, .op (.fad 18) [.tmp 94]⟩, false, []⟩, ⟨93, ⟨some 96, none, .op (.ifc 74) [.tmp 95]⟩, false, []⟩, ⟨94, ⟨some 97, none, .op (.bld #[(.string ⟨#[]⟩), .nilIface] [(0, 1), (1, 1)] [0, 1]) [.const (.string ⟨#[115, 117, 98, 115, 101, 116]⟩), .tmp 96]⟩, false, []⟩, ⟨95, ⟨some 98, none, .op .mv [.tmp 0]⟩, false, []⟩, ⟨96, ⟨some 99, none, .op .nck [.tmp 98]⟩, false, []⟩, ⟨97, ⟨some 100, none, .op (.fad 19) [.tmp 99]⟩, false, []⟩, ⟨98, ⟨some 101, none, .op (.ifc 74) [.tmp 100]⟩, false, []⟩, ⟨99, ⟨some 102, none, .op (.bld #[(.string ⟨#[]⟩), .nilIface] [(0, 1), (1, 1)] [0, 1]) [.const (.string ⟨#[115, 97, 109, 112, 108, 101]⟩), .tmp 101]⟩, false, []⟩, ⟨100, ⟨some 103, none, .op (.bsl 51 2 20 #[(.string ⟨#[]⟩), .nilIface, (.string ⟨#[]⟩), .nilIface, (.string ⟨#[]⟩), .nilIface, (.string ⟨#[]⟩), .nilIface, (.string ⟨#[]⟩), .nilIface, (.string ⟨#[]⟩), .nilIface, (.string ⟨#[]⟩), .nilIface, (.string ⟨#[]⟩), .nilIface, (.string ⟨#[]⟩), .nilIface, (.string ⟨#[]⟩), .nilIface, (.string ⟨#[]⟩), .nilIface, (.string ⟨#[]⟩), .nilIface, (.string ⟨#[]⟩), .nilIface, (.string ⟨#[]⟩), .nilIface, (.string ⟨#[]⟩), .nilIface, (.string ⟨#[]⟩), .nilIface, (.string ⟨#[]⟩), .nilIface, (.string ⟨#[]⟩), .nilIface, (.string ⟨#[]⟩), .nilIface, (.string ⟨#[]⟩), .nilIface] [0, 1, 2, 3, 4, 5, 6, 7, 8, 9, 10, 11, 12, 13, 14, 15, 16, 17, 18, 19]) [.tmp 7, .tmp 12, .tmp 17, .tmp 22, .tmp 27, .tmp 32, .tmp 37, .tmp 42, .tmp 47, .tmp 52, .tmp 57, .tmp 62, .tmp 67, .tmp 72, .tmp 77, .tmp 82, .tmp 87, .tmp 92, .tmp 97, .tmp 102]⟩, true, []⟩, ⟨101, ⟨some 2, none, .op .mv [.tmp 103]⟩, false, []⟩]) (.ret))⟩
theorem c25 : compF Go.Proofs.Tryd.prog Go.Proofs.Tryd.f25 = some ir25 := by kernel_rfl
/-- (spinnaker/text.part).set -/
def ir26 : FI :=
  ⟨40, [.tmp 4], .seq (.reg [⟨some 2, none, .op (.box 51) [.tmp 0]⟩, ⟨some 4, none, .op .mv [.const (.bool false)]⟩]) (.seq (.seq (.reg [⟨some 12, none, .op (.fad 1) [.tmp 2]⟩, ⟨some 13, none, .op .ld1 [.tmp 12]⟩, ⟨some 14, none, .op (.tas 71 true (.pointer none)) [.tmp 13]⟩, ⟨some 11, none, .op .mv [.tmp 14]⟩, ⟨some 15, none, .op (.ext 0) [.tmp 11]⟩, ⟨some 16, none, .op (.ext 1) [.tmp 11]⟩, ⟨some 5, none, .op .mv [.tmp 15]⟩, ⟨some 6, none, .op .mv [.tmp 16]⟩]) (.seq (.reg [⟨some 17, none, .op .mv [.tmp 6]⟩]) (.cond (.tmp 17) (.seq (.reg [⟨some 19, none, .op .mv [.tmp 1]⟩, ⟨some 20, none, .call 12 [.tmp 19]⟩, ⟨some 18, none, .op .mv [.tmp 20]⟩, ⟨some 21, none, .op (.ext 0) [.tmp 18]⟩, ⟨some 22, none, .op (.ext 1) [.tmp 18]⟩, ⟨some 7, none, .op .mv [.tmp 21]⟩, ⟨some 8, none, .op .mv [.tmp 22]⟩]) (.seq (.seq (.reg [⟨some 23, none, .op .mv [.tmp 8]⟩]) (.cond (.tmp 23) (.reg [⟨some 24, none, .op .mv [.tmp 5]⟩, ⟨some 25, none, .op .mv [.tmp 7]⟩, ⟨some 26, none, .op .nck [.tmp 24]⟩, ⟨none, none, .op (.st 1) [.tmp 26, .tmp 25]⟩]) (.skip))) (.seq (.reg [⟨some 27, none, .op .mv [.tmp 8]⟩, ⟨some 4, none, .op .mv [.tmp 27]⟩]) (.ret)))) (.skip)))) (.seq (.reg [⟨some 29, none, .op .mv [.tmp 1]⟩, ⟨some 30, none, .call 29 [.tmp 29, .const (.int .i64 6)]⟩, ⟨some 28, none, .op .mv [.tmp 30]⟩, ⟨some 31, none, .op (.ext 0) [.tmp 28]⟩, ⟨some 32, none, .op (.ext 1) [.tmp 28]⟩, ⟨some 9, none, .op .mv [.tmp 31]⟩, ⟨some 10, none, .op .mv [.tmp 32]⟩]) (.seq (.seq (.reg [⟨some 33, none, .op .mv [.tmp 10]⟩]) (.cond (.tmp 33) (.reg [⟨some 34, none, .op (.fad 1) [.tmp 2]⟩, ⟨some 35, none, .op .ld1 [.tmp 34]⟩, ⟨some 36, none, .op (.tas 74 false .nilIface) [.tmp 35]⟩, ⟨some 37, none, .op .mv [.tmp 9]⟩, ⟨some 38, none, .op .nck [.tmp 36]⟩, ⟨none, none, .op (.st 1) [.tmp 38, .tmp 37]⟩]) (.skip))) (.seq (.reg [⟨some 39, none, .op .mv [.tmp 10]⟩, ⟨some 4, none, .op .mv [.tmp 39]⟩]) (.ret)))))⟩
theorem c26 : compF Go.Proofs.Tryd.prog Go.Proofs.Tryd.f26 = some ir26 := by kernel_rfl
/-- spinnaker/conf.May -/
def ir27 : FI :=
  ⟨6, [.tmp 2], .seq (.reg [⟨some 1, none, .op (.box 24) [.tmp 0]⟩, ⟨some 2, none, .op .mv [.const (.bool false)]⟩]) (.seq (.reg [⟨some 3, none, .op (.ldn 20) [.tmp 1]⟩, ⟨some 4, none, .call 50 [.tmp 3]⟩, ⟨some 5, none, .op (.bin .eql) [.tmp 4, .const (.string ⟨#[]⟩)]⟩, ⟨some 2, none, .op .mv [.tmp 5]⟩]) (.ret))⟩
theorem c27 : compF Go.Proofs.Tryd.prog Go.Proofs.Tryd.f27 = some ir27 := by kernel_rfl
/-- strings.CutPrefix -/
def ir28 : FI :=
  ⟨11, [.tmp 4, .tmp 5], .seq (.reg [⟨some 4, none, .op .mv [.const (.string ⟨#[]⟩)]⟩, ⟨some 5, none, .op .mv [.const (.bool false)]⟩]) (.seq (.reg [⟨some 6, none, .op .mv [.tmp 0]⟩, ⟨some 7, none, .op .mv [.tmp 1]⟩, ⟨some 8, none, .call 51 [.tmp 6, .tmp 7]⟩, ⟨some 9, none, .op (.ext 0) [.tmp 8]⟩, ⟨some 10, none, .op (.ext 1) [.tmp 8]⟩, ⟨some 4, none, .op .mv [.tmp 9]⟩, ⟨some 5, none, .op .mv [.tmp 10]⟩]) (.ret))⟩
theorem c28 : compF Go.Proofs.Tryd.prog Go.Proofs.Tryd.f28 = some ir28 := by kernel_rfl
/-- spinnaker/text.digits -/
def ir29 : FI :=
  ⟨28, [.tmp 4, .tmp 5], .seq (.reg [⟨some 4, none, .op .mv [.const (.int .i64 0)]⟩, ⟨some 5, none, .op .mv [.const (.bool false)]⟩]) (.seq (.seq (.reg [⟨some 8, none, .op .mv [.tmp 0]⟩, ⟨some 9, none, .op .lens [.tmp 8]⟩, ⟨some 10, none, .op (.bin .lss) [.tmp 9, .const (.int .i64 1)]⟩, ⟨some 11, none, .op .mv [.tmp 10]⟩, ⟨some 12, some (11, false), .op .mv [.tmp 0]⟩, ⟨some 13, some (11, false), .op .lens [.tmp 12]⟩, ⟨some 14, some (11, false), .op .mv [.tmp 1]⟩, ⟨some 15, some (11, false), .op (.bin .gtr) [.tmp 13, .tmp 14]⟩, ⟨some 16, none, .op .pick [.tmp 11, .const (.bool true), .tmp 15]⟩, ⟨some 17, none, .op .mv [.tmp 16]⟩, ⟨some 18, some (17, false), .op .mv [.tmp 0]⟩, ⟨some 19, some (17, false), .call 23 [.tmp 18, .const (.string ⟨#[48, 49, 50, 51, 52, 53, 54, 55, 56, 57]⟩)]⟩, ⟨some 20, some (17, false), .op (.bin .neq) [.tmp 19, .const (.string ⟨#[]⟩)]⟩, ⟨some 21, none, .op .pick [.tmp 17, .const (.bool true), .tmp 20]⟩]) (.cond (.tmp 21) (.seq (.reg [⟨some 4, none, .op .mv [.const (.int .i64 0)]⟩, ⟨some 5, none, .op .mv [.const (.bool false)]⟩]) (.ret)) (.skip))) (.seq (.reg [⟨some 23, none, .op .mv [.tmp 0]⟩, ⟨some 24, none, .call 52 [.tmp 23, .const (.int .i64 10), .const (.int .i64 64)]⟩, ⟨some 22, none, .op .mv [.tmp 24]⟩, ⟨some 25, none, .op (.ext 0) [.tmp 22]⟩, ⟨some 26, none, .op (.ext 1) [.tmp 22]⟩, ⟨some 6, none, .op .mv [.tmp 25]⟩, ⟨some 7, none, .op .mv [.tmp 26]⟩]) (.seq (.reg [⟨some 27, none, .op .mv [.tmp 6]⟩, ⟨some 4, none, .op .mv [.tmp 27]⟩, ⟨some 5, none, .op .mv [.const (.bool true)]⟩]) (.ret))))⟩
theorem c29 : compF Go.Proofs.Tryd.prog Go.Proofs.Tryd.f29 = some ir29 := by kernel_rfl
/-- spinnaker/spinnakerref1.digits -/
def ir30 : FI :=
  ⟨41, [.tmp 4], .seq (.reg [⟨some 4, none, .op .mv [.const (.int .i64 0)]⟩]) (.seq (.seq (.reg [⟨some 7, none, .op .mv [.tmp 0]⟩, ⟨some 8, none, .op .lens [.tmp 7]⟩, ⟨some 9, none, .op (.bin .lss) [.tmp 8, .const (.int .i64 1)]⟩, ⟨some 10, none, .op .mv [.tmp 9]⟩, ⟨some 11, some (10, false), .op .mv [.tmp 0]⟩, ⟨some 12, some (10, false), .op .lens [.tmp 11]⟩, ⟨some 13, some (10, false), .op .mv [.tmp 1]⟩, ⟨some 14, some (10, false), .op (.bin .gtr) [.tmp 12, .tmp 13]⟩, ⟨some 15, none, .op .pick [.tmp 10, .const (.bool true), .tmp 14]⟩]) (.cond (.tmp 15) (.seq (.reg [⟨some 4, none, .op .mv [.const (.int .i64 (-1))]⟩]) (.ret)) (.skip))) (.seq (.reg [⟨some 5, none, .op .mv [.const (.int .i64 0)]⟩]) (.seq (.seq (.reg [⟨some 6, none, .op .mv [.const (.int .i64 0)]⟩]) (.block 0 (.loop (.seq (.seq (.reg [⟨some 16, none, .op .mv [.tmp 6]⟩, ⟨some 17, none, .op .mv [.tmp 0]⟩, ⟨some 18, none, .op .lens [.tmp 17]⟩, ⟨some 19, none, .op (.bin .lss) [.tmp 16, .tmp 18]⟩]) (.cond (.tmp 19) (.skip) (.exit 0))) (.seq (.block 1 (.seq (.seq (.reg [⟨some 22, none, .op .mv [.tmp 0]⟩, ⟨some 23, none, .op .mv [.tmp 6]⟩, ⟨some 24, none, .op .ixs [.tmp 22, .tmp 23]⟩, ⟨some 25, none, .op (.bin .lss) [.tmp 24, .const (.int .u8 48)]⟩, ⟨some 26, none, .op .mv [.tmp 25]⟩, ⟨some 27, some (26, false), .op .mv [.tmp 0]⟩, ⟨some 28, some (26, false), .op .mv [.tmp 6]⟩, ⟨some 29, some (26, false), .op .ixs [.tmp 27, .tmp 28]⟩, ⟨some 30, some (26, false), .op (.bin .gtr) [.tmp 29, .const (.int .u8 57)]⟩, ⟨some 31, none, .op .pick [.tmp 26, .const (.bool true), .tmp 30]⟩]) (.cond (.tmp 31) (.seq (.reg [⟨some 4, none, .op .mv [.const (.int .i64 (-1))]⟩]) (.ret)) (.skip))) (.reg [⟨some 32, none, .op .mv [.tmp 5]⟩, ⟨some 33, none, .op (.bin .mul) [.tmp 32, .const (.int .i64 10)]⟩, ⟨some 34, none, .op .mv [.tmp 0]⟩, ⟨some 35, none, .op .mv [.tmp 6]⟩, ⟨some 36, none, .op .ixs [.tmp 34, .tmp 35]⟩, ⟨some 37, none, .op (.bin .sub) [.tmp 36, .const (.int .u8 48)]⟩, ⟨some 38, none, .op (.cvt .i64) [.tmp 37]⟩, ⟨some 39, none, .op (.bin .add) [.tmp 33, .tmp 38]⟩, ⟨some 5, none, .op .mv [.tmp 39]⟩]))) (.reg [⟨some 20, none, .op .mv [.tmp 6]⟩, ⟨some 21, none, .op (.bin .add) [.tmp 20, .const (.int .i64 1)]⟩, ⟨some 6, none, .op .mv [.tmp 21]⟩])))))) (.seq (.reg [⟨some 40, none, .op .mv [.tmp 5]⟩, ⟨some 4, none, .op .mv [.tmp 40]⟩]) (.ret)))))⟩
theorem c30 : compF Go.Proofs.Tryd.prog Go.Proofs.Tryd.f30 = some ir30 := by kernel_rfl
/-- spinnaker/spinnakerref1.Values -/
def ir31 : FI :=
  ⟨44, [.tmp 2], .seq (.reg [⟨some 1, none, .op (.box 24) [.tmp 0]⟩, ⟨some 2, none, .op .mv [.const (.slice none 0 0)]⟩]) (.seq (.reg [⟨some 3, none, .op (.fad 0) [.tmp 1]⟩, ⟨some 4, none, .op .ld1 [.tmp 3]⟩, ⟨some 5, none, .op (.fad 1) [.tmp 1]⟩, ⟨some 6, none, .op .ld1 [.tmp 5]⟩, ⟨some 7, none, .op (.fad 2) [.tmp 1]⟩, ⟨some 8, none, .op .ld1 [.tmp 7]⟩, ⟨some 9, none, .op (.fad 3) [.tmp 1]⟩, ⟨some 10, none, .op .ld1 [.tmp 9]⟩, ⟨some 11, none, .op (.fad 4) [.tmp 1]⟩, ⟨some 12, none, .op .ld1 [.tmp 11]⟩, ⟨some 13, none, .op (.fad 5) [.tmp 1]⟩, ⟨some 14, none, .op .ld1 [.tmp 13]⟩, ⟨some 15, none, .op (.fad 6) [.tmp 1]⟩, ⟨some 16, none, .op .ld1 [.tmp 15]⟩, ⟨some 17, none, .op (.fad 7) [.tmp 1]⟩, ⟨some 18, none, .op .ld1 [.tmp 17]⟩, ⟨some 19, none, .op (.fad 8) [.tmp 1]⟩, ⟨some 20, none, .op .ld1 [.tmp 19]⟩, ⟨some 21, none, .op (.fad 9) [.tmp 1]⟩, ⟨some 22, none, .op .ld1 [.tmp 21]⟩, ⟨some 23, none, .op (.fad 10) [.tmp 1]⟩, ⟨some 24, none, .op .ld1 [.tmp 23]⟩, ⟨some 25, none, .op (.fad 11) [.tmp 1]⟩, ⟨some 26, none, .op .ld1 [.tmp 25]⟩, ⟨some 27, none, .op (.fad 12) [.tmp 1]⟩, ⟨some 28, none, .op .ld1 [.tmp 27]⟩, ⟨some 29, none, .op (.fad 13) [.tmp 1]⟩, ⟨some 30, none, .op .ld1 [.tmp 29]⟩, ⟨some 31, none, .op (.fad 14) [.tmp 1]⟩, ⟨some 32, none, .op .ld1 [.tmp 31]⟩, ⟨some 33, none, .op (.fad 15) [.tmp 1]⟩, ⟨some 34, none, .op .ld1 [.tmp 33]⟩, ⟨some 35, none, .op (.fad 16) [.tmp 1]⟩, ⟨some 36, none, .op .ld1 [.tmp 35]⟩, ⟨some 37, none, .op (.fad 17) [.tmp 1]⟩, ⟨some 38, none, .op .ld1 [.tmp 37]⟩, ⟨some 39, none, .op (.fad 18) [.tmp 1]⟩, ⟨some 40, none, .op .ld1 [.tmp 39]⟩, ⟨some 41, none, .op (.fad 19) [.tmp 1]⟩, ⟨some 42, none, .op .ld1 [.tmp 41]⟩, ⟨some 43, none, .op (.bsl 2 1 20 #[(.int .i64 0), (.int .i64 0), (.int .i64 0), (.int .i64 0), (.int .i64 0), (.int .i64 0), (.int .i64 0), (.int .i64 0), (.int .i64 0), (.int .i64 0), (.int .i64 0), (.int .i64 0), (.int .i64 0), (.int .i64 0), (.int .i64 0), (.int .i64 0), (.int .i64 0), (.int .i64 0), (.int .i64 0), (.int .i64 0)] [0, 1, 2, 3, 4, 5, 6, 7, 8, 9, 10, 11, 12, 13, 14, 15, 16, 17, 18, 19]) [.tmp 4, .tmp 6, .tmp 8, .tmp 10, .tmp 12, .tmp 14, .tmp 16, .tmp 18, .tmp 20, .tmp 22, .tmp 24, .tmp 26, .tmp 28, .tmp 30, .tmp 32, .tmp 34, .tmp 36, .tmp 38, .tmp 40, .tmp 42]⟩, ⟨some 2, none, .op .mv [.tmp 43]⟩]) (.ret))⟩
theorem c31 : compF Go.Proofs.Tryd.prog Go.Proofs.Tryd.f31 = some ir31 := by kernel_rfl
/-- spinnaker/spinnakerref1.line -/
def ir32 : FI :=
  ⟨55, [.tmp 2, .tmp 3], .seq (.reg [⟨some 2, none, .op .mv [.const (.int .i64 0)]⟩, ⟨some 3, none, .op .mv [.const (.int .i64 0)]⟩]) (.seq (.seq (.reg [⟨some 4, none, .op .mv [.const (.int .i64 0)]⟩]) (.block 0 (.loop (.seq (.seq (.reg [⟨some 9, none, .op .mv [.tmp 4]⟩, ⟨some 10, none, .call 21 []⟩, ⟨some 11, none, .op .len [.tmp 10]⟩, ⟨some 12, none, .op (.bin .lss) [.tmp 9, .tmp 11]⟩]) (.cond (.tmp 12) (.skip) (.exit 0))) (.seq (.block 1 (.seq (.reg [⟨some 15, none, .call 21 []⟩, ⟨some 16, none, .op .mv [.tmp 4]⟩, ⟨some 17, none, .op (.iad 1) [.tmp 15, .tmp 16]⟩, ⟨some 18, none, .op .ld1 [.tmp 17]⟩, ⟨some 19, none, .op (.bin .add) [.tmp 18, .const (.string ⟨#[58, 32]⟩)]⟩, ⟨some 5, none, .op .mv [.tmp 19]⟩]) (.seq (.seq (.reg [⟨some 20, none, .op .mv [.tmp 0]⟩, ⟨some 21, none, .op .lens [.tmp 20]⟩, ⟨some 22, none, .op .mv [.tmp 5]⟩, ⟨some 23, none, .op .lens [.tmp 22]⟩, ⟨some 24, none, .op (.bin .lss) [.tmp 21, .tmp 23]⟩, ⟨some 25, none, .op .mv [.tmp 24]⟩, ⟨some 26, some (25, false), .op .mv [.tmp 0]⟩, ⟨some 27, some (25, false), .op .mv [.tmp 5]⟩, ⟨some 28, some (25, false), .op .lens [.tmp 27]⟩, ⟨some 29, some (25, false), .op (.sls false true) [.tmp 26, .tmp 28]⟩, ⟨some 30, some (25, false), .op .mv [.tmp 5]⟩, ⟨some 31, some (25, false), .op (.bin .neq) [.tmp 29, .tmp 30]⟩, ⟨some 32, none, .op .pick [.tmp 25, .const (.bool true), .tmp 31]⟩]) (.cond (.tmp 32) (.exit 1) (.skip))) (.seq (.seq (.reg [⟨some 33, none, .op .mv [.tmp 4]⟩, ⟨some 34, none, .call 37 [.tmp 33]⟩]) (.cond (.tmp 34) (.seq (.reg [⟨some 36, none, .op .mv [.tmp 0]⟩, ⟨some 37, none, .op .mv [.tmp 5]⟩, ⟨some 38, none, .op .lens [.tmp 37]⟩, ⟨some 39, none, .op (.sls true false) [.tmp 36, .tmp 38]⟩, ⟨some 40, none, .call 13 [.tmp 39]⟩, ⟨some 35, none, .op .mv [.tmp 40]⟩, ⟨some 41, none, .op (.ext 0) [.tmp 35]⟩, ⟨some 42, none, .op (.ext 1) [.tmp 35]⟩, ⟨some 6, none, .op .mv [.tmp 41]⟩, ⟨some 7, none, .op .mv [.tmp 42]⟩]) (.seq (.seq (.reg [⟨some 43, none, .op .mv [.tmp 7]⟩]) (.cond (.tmp 43) (.seq (.reg [⟨some 44, none, .op .mv [.tmp 4]⟩, ⟨some 45, none, .op .mv [.tmp 6]⟩, ⟨some 2, none, .op .mv [.tmp 44]⟩, ⟨some 3, none, .op .mv [.tmp 45]⟩]) (.ret)) (.skip))) (.seq (.reg [⟨some 2, none, .op .mv [.const (.int .i64 (-1))]⟩, ⟨some 3, none, .op .mv [.const (.int .i64 0)]⟩]) (.ret)))) (.skip))) (.seq (.reg [⟨some 46, none, .op .mv [.tmp 0]⟩, ⟨some 47, none, .op .mv [.tmp 5]⟩, ⟨some 48, none, .op .lens [.tmp 47]⟩, ⟨some 49, none, .op (.sls true false) [.tmp 46, .tmp 48]⟩, ⟨some 50, none, .call 30 [.tmp 49, .const (.int .i64 6)]⟩, ⟨some 8, none, .op .mv [.tmp 50]⟩]) (.seq (.reg [⟨some 51, none, .op .mv [.tmp 8]⟩, ⟨some 52, none, .op (.bin .geq) [.tmp 51, .const (.int .i64 0)]⟩]) (.cond (.tmp 52) (.seq (.reg [⟨some 53, none, .op .mv [.tmp 4]⟩, ⟨some 54, none, .op .mv [.tmp 8]⟩, ⟨some 2, none, .op .mv [.tmp 53]⟩, ⟨some 3, none, .op .mv [.tmp 54]⟩]) (.ret)) (.skip)))))))) (.reg [⟨some 13, none, .op .mv [.tmp 4]⟩, ⟨some 14, none, .op (.bin .add) [.tmp 13, .const (.int .i64 1)]⟩, ⟨some 4, none, .op .mv [.tmp 14]⟩])))))) (.seq (.reg [⟨some 2, none, .op .mv [.const (.int .i64 (-1))]⟩, ⟨some 3, none, .op .mv [.const (.int .i64 0)]⟩]) (.ret)))⟩
theorem c32 : compF Go.Proofs.Tryd.prog Go.Proofs.Tryd.f32 = some ir32 := by kernel_rfl
/-- spinnaker/spinnakerref1.Made -/
def ir33 : FI :=
  ⟨64, [.cell 2 24], .seq (.reg [⟨some 2, none, .op (.new 24 (.agg #[(.int .i64 0), (.int .i64 0), (.int .i64 0), (.int .i64 0), (.int .i64 0), (.int .i64 0), (.int .i64 0), (.int .i64 0), (.int .i64 0), (.int .i64 0), (.int .i64 0), (.int .i64 0), (.int .i64 0), (.int .i64 0), (.int .i64 0), (.int .i64 0), (.int .i64 0), (.int .i64 0), (.int .i64 0), (.int .i64 0)])) []⟩]) (.seq (.drw [⟨0, ⟨some 3, none, .op .mv [.tmp 0]⟩, false, []⟩, ⟨1, ⟨some 4, none, .op (.iad 1) [.tmp 3, .const (.int .i64 0)]⟩, false, []⟩, ⟨2, ⟨some 5, none, .op .ld1 [.tmp 4]⟩, false, []⟩, ⟨3, ⟨some 6, none, .op .mv [.tmp 0]⟩, false, []⟩, ⟨4, ⟨some 7, none, .op (.iad 1) [.tmp 6, .const (.int .i64 1)]⟩, false, []⟩, ⟨5, ⟨some 8, none, .op .ld1 [.tmp 7]⟩, false, []⟩, ⟨6, ⟨some 9, none, .op .mv [.tmp 0]⟩, false, []⟩, ⟨7, ⟨some 10, none, .op (.iad 1) [.tmp 9, .const (.int .i64 2)]⟩, false, []⟩, ⟨8, ⟨some 11, none, .op .ld1 [.tmp 10]⟩, false, []⟩, ⟨9, ⟨some 12, none, .op .mv [.tmp 0]⟩, false, []⟩, ⟨10, ⟨some 13, none, .op (.iad 1) [.tmp 12, .const (.int .i64 3)]⟩, false, []⟩, ⟨11, ⟨some 14, none, .op .ld1 [.tmp 13]⟩, false, []⟩, ⟨12, ⟨some 15, none, .op .mv [.tmp 0]⟩, false, []⟩, ⟨13, ⟨some 16, none, .op (.iad 1) [.tmp 15, .const (.int .i64 4)]⟩, false, []⟩, ⟨14, ⟨some 17, none, .op .ld1 [.tmp 16]⟩, false, []⟩, ⟨15, ⟨some 18, none, .op .mv [.tmp 0]⟩, false, []⟩, ⟨16, ⟨some 19, none, .op (.iad 1) [.tmp 18, .const (.int .i64 5)]⟩, false, []⟩, ⟨17, ⟨some 20, none, .op .ld1 [.tmp 19]⟩, false, []⟩, ⟨18, ⟨some 21, none, .op .mv [.tmp 0]⟩, false, []⟩, ⟨19, ⟨some 22, none, .op (.iad 1) [.tmp 21, .const (.int .i64 6)]⟩, false, []⟩, ⟨20, ⟨some 23, none, .op .ld1 [.tmp 22]⟩, false, []⟩, ⟨21, ⟨some 24, none, .op .mv [.tmp 0]⟩, false, []⟩, ⟨22, ⟨some 25, none, .op (.iad 1) [.tmp 24, .const (.int .i64 7)]⟩, false, []⟩, ⟨23, ⟨some 26, none, .op .ld1 [.tmp 25]⟩, false, []⟩, ⟨24, ⟨some 27, none, .op .mv [.tmp 0]⟩, false, []⟩, ⟨25, ⟨some 28, none, .op (.iad 1) [.tmp 27, .const (.int .i64 8)]⟩, false, []⟩, ⟨26, ⟨some 29, none, .op .ld1 [.tmp 28]⟩, false, []⟩, ⟨27, ⟨some 30, none, .op .mv [.tmp 0]⟩, false, []⟩, ⟨28, ⟨some 31, none, .op (.iad 1) [.tmp 30, .const (.int .i64 9)]⟩, false, []⟩, ⟨29, ⟨some 32, none, .op .ld1 [.tmp 31]⟩, false, []⟩, ⟨30, ⟨some 33, none, .op .mv [.tmp 0]⟩, false, []⟩, ⟨31, ⟨some 34, none, .op (.iad 1) [.tmp 33, .const (.int .i64 10)]⟩, false, []⟩, ⟨32, ⟨some 35, none, .op .ld1 [.tmp 34]⟩, false, []⟩, ⟨33, ⟨some 36, none, .op .mv [.tmp 0]⟩, false, []⟩, ⟨34, ⟨some 37, none, .op (.iad 1) [.tmp 36, .const (.int .i64 11)]⟩, false, []⟩, ⟨35, ⟨some 38, none, .op .ld1 [.tmp 37]⟩, false, []⟩, ⟨36, ⟨some 39, none, .op .mv [.tmp 0]⟩, false, []⟩, ⟨37, ⟨some 40, none, .op (.iad 1) [.tmp 39, .const (.int .i64 12)]⟩, false, []⟩, ⟨38, ⟨some 41, none, .op .ld1 [.tmp 40]⟩, false, []⟩, ⟨39, ⟨some 42, none, .op .mv [.tmp 0]⟩, false, []⟩, ⟨40, ⟨some 43, none, .op (.iad 1) [.tmp 42, .const (.int .i64 13)]⟩, false, []⟩, ⟨41, ⟨some 44, none, .op .ld1 [.tmp 43]⟩, false, []⟩, ⟨42, ⟨some 45, none, .op .mv [.tmp 0]⟩, false, []⟩, ⟨43, ⟨some 46, none, .op (.iad 1) [.tmp 45, .const (.int .i64 14)]⟩, false, []⟩, ⟨44, ⟨some 47, none, .op .ld1 [.tmp 46]⟩, false, []⟩, ⟨45, ⟨some 48, none, .op .mv [.tmp 0]⟩, false, []⟩, ⟨46, ⟨some 49, none, .op (.iad 1) [.tmp 48, .const (.int .i64 15)]⟩, false, []⟩, ⟨47, ⟨some 50, none, .op .ld1 [.tmp 49]⟩, false, []⟩, ⟨48, ⟨some 51, none, .op .mv [.tmp 0]⟩, false, []⟩, ⟨49, ⟨some 52, none, .op (.iad 1) [.tmp 51, .const (.int .i64 16)]⟩, false, []⟩, ⟨50, ⟨some 53, none, .op .ld1 [.tmp 52]⟩, false, []⟩, ⟨51, ⟨some 54, none, .op .mv [.tmp 0]⟩, false, []⟩, ⟨52, ⟨some 55, none, .op (.iad 1) [.tmp 54, .const (.int .i64 17)]⟩, false, []⟩, ⟨53, ⟨some 56, none, .op .ld1 [.tmp 55]⟩, false, []⟩, ⟨54, ⟨some 57, none, .op .mv [.tmp 0]⟩, false, []⟩, ⟨55, ⟨some 58, none, .op (.iad 1) [.tmp 57, .const (.int .i64 18)]⟩, false, []⟩, ⟨56, ⟨some 59, none, .op .ld1 [.tmp 58]⟩, false, []⟩, ⟨57, ⟨some 60, none, .op .mv [.tmp 0]⟩, false, []⟩, ⟨58, ⟨some 61, none, .op (.iad 1) [.tmp 60, .const (.int .i64 19)]⟩, false, []⟩, ⟨59, ⟨some 62, none, .op .ld1 [.tmp 61]⟩, false, []⟩, ⟨60, ⟨some 63, none, .op (.bld #[(.int .i64 0), (.int .i64 0), (.int .i64 0), (.int .i64 0), (.int .i64 0), (.int .i64 0), (.int .i64 0), (.int .i64 0), (.int .i64 0), (.int .i64 0), (.int .i64 0), (.int .i64 0), (.int .i64 0), (.int .i64 0), (.int .i64 0), (.int .i64 0), (.int .i64 0), (.int .i64 0), (.int .i64 0), (.int .i64 0)] [(0, 1), (1, 1), (2, 1), (3, 1), (4, 1), (5, 1), (6, 1), (7, 1), (8, 1), (9, 1), (10, 1), (11, 1), (12, 1), (13, 1), (14, 1), (15, 1), (16, 1), (17, 1), (18, 1), (19, 1)] [0, 1, 2, 3, 4, 5, 6, 7, 8, 9, 10, 11, 12, 13, 14, 15, 16, 17, 18, 19]) [.tmp 5, .tmp 8, .tmp 11, .tmp 14, .tmp 17, .tmp 20, .tmp 23, .tmp 26, .tmp 29, .tmp 32, .tmp 35, .tmp 38, .tmp 41, .tmp 44, .tmp 47, .tmp 50, .tmp 53, .tmp 56, .tmp 59, .tmp 62]⟩, false, []⟩, ⟨61, ⟨none, none, .op (.st 20) [.tmp 2, .tmp 63]⟩, true, []⟩]) (.ret))⟩
theorem c33 : compF Go.Proofs.Tryd.prog Go.Proofs.Tryd.f33 = some ir33 := by kernel_rfl
/-- (*strings.Builder).WriteString -/
def ir34 : FI :=
  ⟨19, [.tmp 4, .tmp 5], .seq (.reg [⟨some 4, none, .op .mv [.const (.int .i64 0)]⟩, ⟨some 5, none, .op .mv [.const .nilIface]⟩]) (.seq (.reg [⟨some 6, none, .op .mv [.tmp 0]⟩, ⟨some 7, none, .call 53 [.tmp 6]⟩]) (.seq (.reg [⟨some 8, none, .op .mv [.tmp 0]⟩, ⟨some 9, none, .op .mv [.tmp 0]⟩, ⟨some 10, none, .op .nck [.tmp 9]⟩, ⟨some 11, none, .op (.fad 1) [.tmp 10]⟩, ⟨some 12, none, .op .ld1 [.tmp 11]⟩, ⟨some 13, none, .op .mv [.tmp 1]⟩, ⟨some 14, none, .op (.aps 5) [.tmp 12, .tmp 13]⟩, ⟨some 15, none, .op .nck [.tmp 8]⟩, ⟨some 16, none, .op (.fad 1) [.tmp 15]⟩, ⟨none, none, .op (.st 1) [.tmp 16, .tmp 14]⟩]) (.seq (.reg [⟨some 17, none, .op .mv [.tmp 1]⟩, ⟨some 18, none, .op .lens [.tmp 17]⟩, ⟨some 4, none, .op .mv [.tmp 18]⟩, ⟨some 5, none, .op .mv [.const .nilIface]⟩]) (.ret))))⟩
theorem c34 : compF Go.Proofs.Tryd.prog Go.Proofs.Tryd.f34 = some ir34 := by kernel_rfl
/-- strconv.Itoa -/
def ir35 : FI :=
  ⟨5, [.tmp 2], .seq (.reg [⟨some 2, none, .op .mv [.const (.string ⟨#[]⟩)]⟩]) (.seq (.reg [⟨some 3, none, .op .mv [.tmp 0]⟩, ⟨some 4, none, .call 54 [.tmp 3]⟩, ⟨some 2, none, .op .mv [.tmp 4]⟩]) (.ret))⟩
theorem c35 : compF Go.Proofs.Tryd.prog Go.Proofs.Tryd.f35 = some ir35 := by kernel_rfl
/-- (*strings.Builder).String -/
def ir36 : FI :=
  ⟨14, [.tmp 2], .seq (.reg [⟨some 2, none, .op .mv [.const (.string ⟨#[]⟩)]⟩]) (.seq (.drw [⟨0, ⟨some 3, none, .op .mv [.tmp 0]⟩, false, []⟩, ⟨1, ⟨some 4, none, .op .nck [.tmp 3]⟩, false, []⟩, ⟨2, ⟨some 5, none, .op (.fad 1) [.tmp 4]⟩, false, []⟩, ⟨3, ⟨some 6, none, .op .ld1 [.tmp 5]⟩, false, []⟩, ⟨5, ⟨some 8, none, .op .mv [.tmp 0]⟩, false, []⟩, ⟨6, ⟨some 9, none, .op .nck [.tmp 8]⟩, false, []⟩, ⟨7, ⟨some 10, none, .op (.fad 1) [.tmp 9]⟩, false, []⟩, ⟨8, ⟨some 11, none, .op .ld1 [.tmp 10]⟩, false, []⟩, ⟨9, ⟨some 12, none, .op .len [.tmp 11]⟩, false, []⟩, ⟨4, ⟨some 7, none, .op .sdt [.tmp 6]⟩, true, [⟨some 11, none, .op .ld1 [.tmp 10]⟩]⟩, ⟨10, ⟨some 13, none, .op (.ust 5) [.tmp 7, .tmp 12]⟩, true, []⟩, ⟨11, ⟨some 2, none, .op .mv [.tmp 13]⟩, false, []⟩]) (.ret))⟩
theorem c36 : compF Go.Proofs.Tryd.prog Go.Proofs.Tryd.f36 = some ir36 := by kernel_rfl
/-- spinnaker/spinnakerref1.Thin -/
def ir37 : FI :=
  ⟨25, [.tmp 2], .seq (.reg [⟨some 2, none, .op .mv [.const (.bool false)]⟩]) (.seq (.reg [⟨some 3, none, .op .mv [.tmp 0]⟩, ⟨some 4, none, .op (.bin .eql) [.tmp 3, .const (.int .i64 0)]⟩, ⟨some 5, none, .op .mv [.tmp 4]⟩, ⟨some 6, some (5, false), .op .mv [.tmp 0]⟩, ⟨some 7, some (5, false), .op (.bin .eql) [.tmp 6, .const (.int .i64 1)]⟩, ⟨some 8, none, .op .pick [.tmp 5, .const (.bool true), .tmp 7]⟩, ⟨some 9, none, .op .mv [.tmp 8]⟩, ⟨some 10, some (9, false), .op .mv [.tmp 0]⟩, ⟨some 11, some (9, false), .op (.bin .eql) [.tmp 10, .const (.int .i64 5)]⟩, ⟨some 12, none, .op .pick [.tmp 9, .const (.bool true), .tmp 11]⟩, ⟨some 13, none, .op .mv [.tmp 12]⟩, ⟨some 14, some (13, false), .op .mv [.tmp 0]⟩, ⟨some 15, some (13, false), .op (.bin .eql) [.tmp 14, .const (.int .i64 6)]⟩, ⟨some 16, none, .op .pick [.tmp 13, .const (.bool true), .tmp 15]⟩, ⟨some 17, none, .op .mv [.tmp 16]⟩, ⟨some 18, some (17, false), .op .mv [.tmp 0]⟩, ⟨some 19, some (17, false), .op (.bin .eql) [.tmp 18, .const (.int .i64 7)]⟩, ⟨some 20, none, .op .pick [.tmp 17, .const (.bool true), .tmp 19]⟩, ⟨some 21, none, .op .mv [.tmp 20]⟩, ⟨some 22, some (21, false), .op .mv [.tmp 0]⟩, ⟨some 23, some (21, false), .op (.bin .eql) [.tmp 22, .const (.int .i64 13)]⟩, ⟨some 24, none, .op .pick [.tmp 21, .const (.bool true), .tmp 23]⟩, ⟨some 2, none, .op .mv [.tmp 24]⟩]) (.ret))⟩
theorem c37 : compF Go.Proofs.Tryd.prog Go.Proofs.Tryd.f37 = some ir37 := by kernel_rfl
/-- strconv.FormatInt -/
def ir38 : FI :=
  ⟨8, [.tmp 4], .seq (.reg [⟨some 4, none, .op .mv [.const (.string ⟨#[]⟩)]⟩]) (.seq (.reg [⟨some 5, none, .op .mv [.tmp 0]⟩, ⟨some 6, none, .op .mv [.tmp 1]⟩, ⟨some 7, none, .call 55 [.tmp 5, .tmp 6]⟩, ⟨some 4, none, .op .mv [.tmp 7]⟩]) (.ret))⟩
theorem c38 : compF Go.Proofs.Tryd.prog Go.Proofs.Tryd.f38 = some ir38 := by kernel_rfl
/-- strings.TrimRight -/
def ir39 : FI :=
  ⟨37, [.tmp 4], .seq (.reg [⟨some 4, none, .op .mv [.const (.string ⟨#[]⟩)]⟩]) (.seq (.seq (.reg [⟨some 7, none, .op .mv [.tmp 0]⟩, ⟨some 8, none, .op (.bin .eql) [.tmp 7, .const (.string ⟨#[]⟩)]⟩, ⟨some 9, none, .op .mv [.tmp 8]⟩, ⟨some 10, some (9, false), .op .mv [.tmp 1]⟩, ⟨some 11, some (9, false), .op (.bin .eql) [.tmp 10, .const (.string ⟨#[]⟩)]⟩, ⟨some 12, none, .op .pick [.tmp 9, .const (.bool true), .tmp 11]⟩]) (.cond (.tmp 12) (.seq (.reg [⟨some 13, none, .op .mv [.tmp 0]⟩, ⟨some 4, none, .op .mv [.tmp 13]⟩]) (.ret)) (.skip))) (.seq (.seq (.reg [⟨some 14, none, .op .mv [.tmp 1]⟩, ⟨some 15, none, .op .lens [.tmp 14]⟩, ⟨some 16, none, .op (.bin .eql) [.tmp 15, .const (.int .i64 1)]⟩, ⟨some 17, none, .op .mv [.tmp 16]⟩, ⟨some 18, some (17, true), .op .mv [.tmp 1]⟩, ⟨some 19, some (17, true), .op .ixs [.tmp 18, .const (.int .i64 0)]⟩, ⟨some 20, some (17, true), .op (.bin .lss) [.tmp 19, .const (.int .u8 128)]⟩, ⟨some 21, none, .op .pick [.tmp 17, .tmp 20, .const (.bool false)]⟩]) (.cond (.tmp 21) (.seq (.reg [⟨some 22, none, .op .mv [.tmp 0]⟩, ⟨some 23, none, .op .mv [.tmp 1]⟩, ⟨some 24, none, .op .ixs [.tmp 23, .const (.int .i64 0)]⟩, ⟨some 25, none, .call 43 [.tmp 22, .tmp 24]⟩, ⟨some 4, none, .op .mv [.tmp 25]⟩]) (.ret)) (.skip))) (.seq (.seq (.reg [⟨some 27, none, .op .mv [.tmp 1]⟩, ⟨some 28, none, .call 44 [.tmp 27]⟩, ⟨some 26, none, .op .mv [.tmp 28]⟩, ⟨some 29, none, .op (.ext 0) [.tmp 26]⟩, ⟨some 30, none, .op (.ext 1) [.tmp 26]⟩, ⟨some 5, none, .op (.new 82 (.agg #[(.bool false), (.bool false), (.bool false), (.bool false), (.bool false), (.bool false), (.bool false), (.bool false), (.bool false), (.bool false), (.bool false), (.bool false), (.bool false), (.bool false), (.bool false), (.bool false), (.bool false), (.bool false), (.bool false), (.bool false), (.bool false), (.bool false), (.bool false), (.bool false), (.bool false), (.bool false), (.bool false), (.bool false), (.bool false), (.bool false), (.bool false), (.bool false), (.bool false), (.bool false), (.bool false), (.bool false), (.bool false), (.bool false), (.bool false), (.bool false), (.bool false), (.bool false), (.bool false), (.bool false), (.bool false), (.bool false), (.bool false), (.bool false), (.bool false), (.bool false), (.bool false), (.bool false), (.bool false), (.bool false), (.bool false), (.bool false), (.bool false), (.bool false), (.bool false), (.bool false), (.bool false), (.bool false), (.bool false), (.bool false), (.bool false), (.bool false), (.bool false), (.bool false), (.bool false), (.bool false), (.bool false), (.bool false), (.bool false), (.bool false), (.bool false), (.bool false), (.bool false), (.bool false), (.bool false), (.bool false), (.bool false), (.bool false), (.bool false), (.bool false), (.bool false), (.bool false), (.bool false), (.bool false), (.bool false), (.bool false), (.bool false), (.bool false), (.bool false), (.bool false), (.bool false), (.bool false), (.bool false), (.bool false), (.bool false), (.bool false), (.bool false), (.bool false), (.bool false), (.bool false), (.bool false), (.bool false), (.bool false), (.bool false), (.bool false), (.bool false), (.bool false), (.bool false), (.bool false), (.bool false), (.bool false), (.bool false), (.bool false), (.bool false), (.bool false), (.bool false), (.bool false), (.bool false), (.bool false), (.bool false), (.bool false), (.bool false), (.bool false), (.bool false), (.bool false), (.bool false), (.bool false), (.bool false), (.bool false), (.bool false), (.bool false), (.bool false), (.bool false), (.bool false), (.bool false), (.bool false), (.bool false), (.bool false), (.bool false), (.bool false), (.bool false), (.bool false), (.bool false), (.bool false), (.bool false), (.bool false), (.bool false), (.bool false), (.bool false), (.bool false), (.bool false), (.bool false), (.bool false), (.bool false), (.bool false), (.bool false), (.bool false), (.bool false), (.bool false), (.bool false), (.bool false), (.bool false), (.bool false), (.bool false), (.bool false), (.bool false), (.bool false), (.bool false), (.bool false), (.bool false), (.bool false), (.bool false), (.bool false), (.bool false), (.bool false), (.bool false), (.bool false), (.bool false), (.bool false), (.bool false), (.bool false), (.bool false), (.bool false), (.bool false), (.bool false), (.bool false), (.bool false), (.bool false), (.bool false), (.bool false), (.bool false), (.bool false), (.bool false), (.bool false), (.bool false), (.bool false), (.bool false), (.bool false), (.bool false), (.bool false), (.bool false), (.bool false), (.bool false), (.bool false), (.bool false), (.bool false), (.bool false), (.bool false), (.bool false), (.bool false), (.bool false), (.bool false), (.bool false), (.bool false), (.bool false), (.bool false), (.bool false), (.bool false), (.bool false), (.bool false), (.bool false), (.bool false), (.bool false), (.bool false), (.bool false), (.bool false), (.bool false), (.bool false), (.bool false), (.bool false), (.bool false), (.bool false), (.bool false), (.bool false), (.bool false), (.bool false), (.bool false), (.bool false), (.bool false), (.bool false), (.bool false), (.bool false), (.bool false), (.bool false), (.bool false), (.bool false), (.bool false), (.bool false), (.bool false), (.bool false), (.bool false), (.bool false)])) []⟩, ⟨none, none, .op (.st 256) [.tmp 5, .tmp 29]⟩, ⟨some 6, none, .op .mv [.tmp 30]⟩]) (.seq (.reg [⟨some 31, none, .op .mv [.tmp 6]⟩]) (.cond (.tmp 31) (.seq (.reg [⟨some 32, none, .op .mv [.tmp 0]⟩, ⟨some 33, none, .call 46 [.tmp 32, .tmp 5]⟩, ⟨some 4, none, .op .mv [.tmp 33]⟩]) (.ret)) (.skip)))) (.seq (.reg [⟨some 34, none, .op .mv [.tmp 0]⟩, ⟨some 35, none, .op .mv [.tmp 1]⟩, ⟨some 36, none, .call 48 [.tmp 34, .tmp 35]⟩, ⟨some 4, none, .op .mv [.tmp 36]⟩]) (.ret)))))⟩
theorem c39 : compF Go.Proofs.Tryd.prog Go.Proofs.Tryd.f39 = some ir39 := by kernel_rfl
/-- spinnaker/spinnakerref1.Wrong -/
def ir40 : FI :=
  ⟨133, [.tmp 2], .seq (.reg [⟨some 1, none, .op (.box 24) [.tmp 0]⟩, ⟨some 2, none, .op .mv [.const (.string ⟨#[]⟩)]⟩]) (.seq (.reg [⟨some 7, none, .op (.ldn 20) [.tmp 1]⟩, ⟨some 8, none, .call 31 [.tmp 7]⟩, ⟨some 3, none, .op .mv [.tmp 8]⟩]) (.seq (.reg [⟨some 4, none, .op .mv [.const (.int .i64 100)]⟩]) (.seq (.seq (.reg [⟨some 9, none, .op (.fad 9) [.tmp 1]⟩, ⟨some 10, none, .op .ld1 [.tmp 9]⟩, ⟨some 11, none, .op (.bin .gtr) [.tmp 10, .const (.int .i64 0)]⟩]) (.cond (.tmp 11) (.reg [⟨some 12, none, .op (.fad 9) [.tmp 1]⟩, ⟨some 13, none, .op .ld1 [.tmp 12]⟩, ⟨some 4, none, .op .mv [.tmp 13]⟩]) (.skip))) (.seq (.drw [⟨0, ⟨some 14, none, .op .mv [.tmp 3]⟩, false, []⟩, ⟨1, ⟨some 15, none, .op (.iad 1) [.tmp 14, .const (.int .i64 0)]⟩, false, []⟩, ⟨2, ⟨some 16, none, .op .ld1 [.tmp 15]⟩, false, []⟩, ⟨4, ⟨some 18, none, .op .mv [.tmp 3]⟩, false, []⟩, ⟨5, ⟨some 19, none, .op (.iad 1) [.tmp 18, .const (.int .i64 1)]⟩, false, []⟩, ⟨6, ⟨some 20, none, .op .ld1 [.tmp 19]⟩, false, []⟩, ⟨8, ⟨some 22, none, .op .mv [.tmp 3]⟩, false, []⟩, ⟨9, ⟨some 23, none, .op (.iad 1) [.tmp 22, .const (.int .i64 2)]⟩, false, []⟩, ⟨10, ⟨some 24, none, .op .ld1 [.tmp 23]⟩, false, []⟩, ⟨12, ⟨some 26, none, .op .mv [.tmp 3]⟩, false, []⟩, ⟨13, ⟨some 27, none, .op (.iad 1) [.tmp 26, .const (.int .i64 3)]⟩, false, []⟩, ⟨14, ⟨some 28, none, .op .ld1 [.tmp 27]⟩, false, []⟩, ⟨15, ⟨some 29, none, .op .mv [.tmp 3]⟩, false, []⟩, ⟨16, ⟨some 30, none, .op (.iad 1) [.tmp 29, .const (.int .i64 2)]⟩, false, []⟩, ⟨17, ⟨some 31, none, .op .ld1 [.tmp 30]⟩, false, []⟩, ⟨19, ⟨some 33, none, .op .mv [.tmp 3]⟩, false, []⟩, ⟨20, ⟨some 34, none, .op (.iad 1) [.tmp 33, .const (.int .i64 4)]⟩, false, []⟩, ⟨21, ⟨some 35, none, .op .ld1 [.tmp 34]⟩, false, []⟩, ⟨22, ⟨some 36, none, .op .mv [.tmp 3]⟩, false, []⟩, ⟨23, ⟨some 37, none, .op (.iad 1) [.tmp 36, .const (.int .i64 3)]⟩, false, []⟩, ⟨24, ⟨some 38, none, .op .ld1 [.tmp 37]⟩, false, []⟩, ⟨26, ⟨some 40, none, .op .mv [.tmp 3]⟩, false, []⟩, ⟨27, ⟨some 41, none, .op (.iad 1) [.tmp 40, .const (.int .i64 5)]⟩, false, []⟩, ⟨28, ⟨some 42, none, .op .ld1 [.tmp 41]⟩, false, []⟩, ⟨30, ⟨some 44, none, .op .mv [.tmp 3]⟩, false, []⟩, ⟨31, ⟨some 45, none, .op (.iad 1) [.tmp 44, .const (.int .i64 6)]⟩, false, []⟩, ⟨32, ⟨some 46, none, .op .ld1 [.tmp 45]⟩, false, []⟩, ⟨34, ⟨some 48, none, .op .mv [.tmp 3]⟩, false, []⟩, ⟨35, ⟨some 49, none, .op (.iad 1) [.tmp 48, .const (.int .i64 7)]⟩, false, []⟩, ⟨36, ⟨some 50, none, .op .ld1 [.tmp 49]⟩, false, []⟩, ⟨38, ⟨some 52, none, .op .mv [.tmp 3]⟩, false, []⟩, ⟨39, ⟨some 53, none, .op (.iad 1) [.tmp 52, .const (.int .i64 8)]⟩, false, []⟩, ⟨40, ⟨some 54, none, .op .ld1 [.tmp 53]⟩, false, []⟩, ⟨42, ⟨some 56, none, .op .mv [.tmp 3]⟩, false, []⟩, ⟨43, ⟨some 57, none, .op (.iad 1) [.tmp 56, .const (.int .i64 9)]⟩, false, []⟩, ⟨44, ⟨some 58, none, .op .ld1 [.tmp 57]⟩, false, []⟩, ⟨45, ⟨some 59, none, .op (.bin .eql) [.tmp 58, .const (.int .i64 0)]⟩, false, []⟩, ⟨56, ⟨some 70, none, .op .mv [.tmp 3]⟩, false, []⟩, ⟨57, ⟨some 71, none, .op (.iad 1) [.tmp 70, .const (.int .i64 10)]⟩, false, []⟩, ⟨58, ⟨some 72, none, .op .ld1 [.tmp 71]⟩, false, []⟩, ⟨59, ⟨some 73, none, .op .mv [.tmp 4]⟩, false, []⟩, ⟨61, ⟨some 75, none, .op .mv [.tmp 3]⟩, false, []⟩, ⟨62, ⟨some 76, none, .op (.iad 1) [.tmp 75, .const (.int .i64 11)]⟩, false, []⟩, ⟨63, ⟨some 77, none, .op .ld1 [.tmp 76]⟩, false, []⟩, ⟨65, ⟨some 79, none, .op .mv [.tmp 3]⟩, false, []⟩, ⟨66, ⟨some 80, none, .op (.iad 1) [.tmp 79, .const (.int .i64 12)]⟩, false, []⟩, ⟨67, ⟨some 81, none, .op .ld1 [.tmp 80]⟩, false, []⟩, ⟨69, ⟨some 83, none, .op .mv [.tmp 3]⟩, false, []⟩, ⟨70, ⟨some 84, none, .op (.iad 1) [.tmp 83, .const (.int .i64 13)]⟩, false, []⟩, ⟨71, ⟨some 85, none, .op .ld1 [.tmp 84]⟩, false, []⟩, ⟨72, ⟨some 86, none, .op (.bin .eql) [.tmp 85, .const (.int .i64 (-1000))]⟩, false, []⟩, ⟨79, ⟨some 93, none, .op .mv [.tmp 3]⟩, false, []⟩, ⟨80, ⟨some 94, none, .op (.iad 1) [.tmp 93, .const (.int .i64 14)]⟩, false, []⟩, ⟨81, ⟨some 95, none, .op .ld1 [.tmp 94]⟩, false, []⟩, ⟨83, ⟨some 97, none, .op .mv [.tmp 3]⟩, false, []⟩, ⟨84, ⟨some 98, none, .op (.iad 1) [.tmp 97, .const (.int .i64 15)]⟩, false, []⟩, ⟨85, ⟨some 99, none, .op .ld1 [.tmp 98]⟩, false, []⟩, ⟨87, ⟨some 101, none, .op .mv [.tmp 3]⟩, false, []⟩, ⟨88, ⟨some 102, none, .op (.iad 1) [.tmp 101, .const (.int .i64 16)]⟩, false, []⟩, ⟨89, ⟨some 103, none, .op .ld1 [.tmp 102]⟩, false, []⟩, ⟨91, ⟨some 105, none, .op .mv [.tmp 3]⟩, false, []⟩, ⟨92, ⟨some 106, none, .op (.iad 1) [.tmp 105, .const (.int .i64 17)]⟩, false, []⟩, ⟨93, ⟨some 107, none, .op .ld1 [.tmp 106]⟩, false, []⟩, ⟨95, ⟨some 109, none, .op .mv [.tmp 3]⟩, false, []⟩, ⟨96, ⟨some 110, none, .op (.iad 1) [.tmp 109, .const (.int .i64 18)]⟩, false, []⟩, ⟨97, ⟨some 111, none, .op .ld1 [.tmp 110]⟩, false, []⟩, ⟨99, ⟨some 113, none, .op .mv [.tmp 3]⟩, false, []⟩, ⟨100, ⟨some 114, none, .op (.iad 1) [.tmp 113, .const (.int .i64 19)]⟩, false, []⟩, ⟨101, ⟨some 115, none, .op .ld1 [.tmp 114]⟩, false, []⟩, ⟨3, ⟨some 17, none, .call 56 [.tmp 16, .const (.int .i64 10), .const (.int .i64 1000000)]⟩, true, [⟨some 20, none, .op .ld1 [.tmp 19]⟩, ⟨some 24, none, .op .ld1 [.tmp 23]⟩, ⟨some 28, none, .op .ld1 [.tmp 27]⟩, ⟨some 31, none, .op .ld1 [.tmp 30]⟩, ⟨some 35, none, .op .ld1 [.tmp 34]⟩, ⟨some 38, none, .op .ld1 [.tmp 37]⟩, ⟨some 42, none, .op .ld1 [.tmp 41]⟩, ⟨some 46, none, .op .ld1 [.tmp 45]⟩, ⟨some 50, none, .op .ld1 [.tmp 49]⟩, ⟨some 54, none, .op .ld1 [.tmp 53]⟩, ⟨some 58, none, .op .ld1 [.tmp 57]⟩, ⟨some 72, none, .op .ld1 [.tmp 71]⟩, ⟨some 77, none, .op .ld1 [.tmp 76]⟩, ⟨some 81, none, .op .ld1 [.tmp 80]⟩, ⟨some 85, none, .op .ld1 [.tmp 84]⟩, ⟨some 95, none, .op .ld1 [.tmp 94]⟩, ⟨some 99, none, .op .ld1 [.tmp 98]⟩, ⟨some 103, none, .op .ld1 [.tmp 102]⟩, ⟨some 107, none, .op .ld1 [.tmp 106]⟩, ⟨some 111, none, .op .ld1 [.tmp 110]⟩, ⟨some 115, none, .op .ld1 [.tmp 114]⟩]⟩, ⟨7, ⟨some 21, none, .call 56 [.tmp 20, .const (.int .i64 100), .const (.int .i64 1000)]⟩, true, [⟨some 24, none, .op .ld1 [.tmp 23]⟩, ⟨some 28, none, .op .ld1 [.tmp 27]⟩, ⟨some 31, none, .op .ld1 [.tmp 30]⟩, ⟨some 35, none, .op .ld1 [.tmp 34]⟩, ⟨some 38, none, .op .ld1 [.tmp 37]⟩, ⟨some 42, none, .op .ld1 [.tmp 41]⟩, ⟨some 46, none, .op .ld1 [.tmp 45]⟩, ⟨some 50, none, .op .ld1 [.tmp 49]⟩, ⟨some 54, none, .op .ld1 [.tmp 53]⟩, ⟨some 58, none, .op .ld1 [.tmp 57]⟩, ⟨some 72, none, .op .ld1 [.tmp 71]⟩, ⟨some 77, none, .op .ld1 [.tmp 76]⟩, ⟨some 81, none, .op .ld1 [.tmp 80]⟩, ⟨some 85, none, .op .ld1 [.tmp 84]⟩, ⟨some 95, none, .op .ld1 [.tmp 94]⟩, ⟨some 99, none, .op .ld1 [.tmp 98]⟩, ⟨some 103, none, .op .ld1 [.tmp 102]⟩, ⟨some 107, none, .op .ld1 [.tmp 106]⟩, ⟨some 111, none, .op .ld1 [.tmp 110]⟩, ⟨some 115, none, .op .ld1 [.tmp 114]⟩]⟩, ⟨11, ⟨some 25, none, .call 56 [.tmp 24, .const (.int .i64 6), .const (.int .i64 600)]⟩, true, [⟨some 28, none, .op .ld1 [.tmp 27]⟩, ⟨some 31, none, .op .ld1 [.tmp 30]⟩, ⟨some 35, none, .op .ld1 [.tmp 34]⟩, ⟨some 38, none, .op .ld1 [.tmp 37]⟩, ⟨some 42, none, .op .ld1 [.tmp 41]⟩, ⟨some 46, none, .op .ld1 [.tmp 45]⟩, ⟨some 50, none, .op .ld1 [.tmp 49]⟩, ⟨some 54, none, .op .ld1 [.tmp 53]⟩, ⟨some 58, none, .op .ld1 [.tmp 57]⟩, ⟨some 72, none, .op .ld1 [.tmp 71]⟩, ⟨some 77, none, .op .ld1 [.tmp 76]⟩, ⟨some 81, none, .op .ld1 [.tmp 80]⟩, ⟨some 85, none, .op .ld1 [.tmp 84]⟩, ⟨some 95, none, .op .ld1 [.tmp 94]⟩, ⟨some 99, none, .op .ld1 [.tmp 98]⟩, ⟨some 103, none, .op .ld1 [.tmp 102]⟩, ⟨some 107, none, .op .ld1 [.tmp 106]⟩, ⟨some 111, none, .op .ld1 [.tmp 110]⟩, ⟨some 115, none, .op .ld1 [.tmp 114]⟩]⟩, ⟨18, ⟨some 32, none, .call 56 [.tmp 28, .const (.int .i64 1), .tmp 31]⟩, true, [⟨some 35, none, .op .ld1 [.tmp 34]⟩, ⟨some 38, none, .op .ld1 [.tmp 37]⟩, ⟨some 42, none, .op .ld1 [.tmp 41]⟩, ⟨some 46, none, .op .ld1 [.tmp 45]⟩, ⟨some 50, none, .op .ld1 [.tmp 49]⟩, ⟨some 54, none, .op .ld1 [.tmp 53]⟩, ⟨some 58, none, .op .ld1 [.tmp 57]⟩, ⟨some 72, none, .op .ld1 [.tmp 71]⟩, ⟨some 77, none, .op .ld1 [.tmp 76]⟩, ⟨some 81, none, .op .ld1 [.tmp 80]⟩, ⟨some 85, none, .op .ld1 [.tmp 84]⟩, ⟨some 95, none, .op .ld1 [.tmp 94]⟩, ⟨some 99, none, .op .ld1 [.tmp 98]⟩, ⟨some 103, none, .op .ld1 [.tmp 102]⟩, ⟨some 107, none, .op .ld1 [.tmp 106]⟩, ⟨some 111, none, .op .ld1 [.tmp 110]⟩, ⟨some 115, none, .op .ld1 [.tmp 114]⟩]⟩, ⟨25, ⟨some 39, none, .call 56 [.tmp 35, .const (.int .i64 1), .tmp 38]⟩, true, [⟨some 42, none, .op .ld1 [.tmp 41]⟩, ⟨some 46, none, .op .ld1 [.tmp 45]⟩, ⟨some 50, none, .op .ld1 [.tmp 49]⟩, ⟨some 54, none, .op .ld1 [.tmp 53]⟩, ⟨some 58, none, .op .ld1 [.tmp 57]⟩, ⟨some 72, none, .op .ld1 [.tmp 71]⟩, ⟨some 77, none, .op .ld1 [.tmp 76]⟩, ⟨some 81, none, .op .ld1 [.tmp 80]⟩, ⟨some 85, none, .op .ld1 [.tmp 84]⟩, ⟨some 95, none, .op .ld1 [.tmp 94]⟩, ⟨some 99, none, .op .ld1 [.tmp 98]⟩, ⟨some 103, none, .op .ld1 [.tmp 102]⟩, ⟨some 107, none, .op .ld1 [.tmp 106]⟩, ⟨some 111, none, .op .ld1 [.tmp 110]⟩, ⟨some 115, none, .op .ld1 [.tmp 114]⟩]⟩, ⟨29, ⟨some 43, none, .call 56 [.tmp 42, .const (.int .i64 1100), .const (.int .i64 10000)]⟩, true, [⟨some 46, none, .op .ld1 [.tmp 45]⟩, ⟨some 50, none, .op .ld1 [.tmp 49]⟩, ⟨some 54, none, .op .ld1 [.tmp 53]⟩, ⟨some 58, none, .op .ld1 [.tmp 57]⟩, ⟨some 72, none, .op .ld1 [.tmp 71]⟩, ⟨some 77, none, .op .ld1 [.tmp 76]⟩, ⟨some 81, none, .op .ld1 [.tmp 80]⟩, ⟨some 85, none, .op .ld1 [.tmp 84]⟩, ⟨some 95, none, .op .ld1 [.tmp 94]⟩, ⟨some 99, none, .op .ld1 [.tmp 98]⟩, ⟨some 103, none, .op .ld1 [.tmp 102]⟩, ⟨some 107, none, .op .ld1 [.tmp 106]⟩, ⟨some 111, none, .op .ld1 [.tmp 110]⟩, ⟨some 115, none, .op .ld1 [.tmp 114]⟩]⟩, ⟨33, ⟨some 47, none, .call 56 [.tmp 46, .const (.int .i64 1001), .const (.int .i64 1000000)]⟩, true, [⟨some 50, none, .op .ld1 [.tmp 49]⟩, ⟨some 54, none, .op .ld1 [.tmp 53]⟩, ⟨some 58, none, .op .ld1 [.tmp 57]⟩, ⟨some 72, none, .op .ld1 [.tmp 71]⟩, ⟨some 77, none, .op .ld1 [.tmp 76]⟩, ⟨some 81, none, .op .ld1 [.tmp 80]⟩, ⟨some 85, none, .op .ld1 [.tmp 84]⟩, ⟨some 95, none, .op .ld1 [.tmp 94]⟩, ⟨some 99, none, .op .ld1 [.tmp 98]⟩, ⟨some 103, none, .op .ld1 [.tmp 102]⟩, ⟨some 107, none, .op .ld1 [.tmp 106]⟩, ⟨some 111, none, .op .ld1 [.tmp 110]⟩, ⟨some 115, none, .op .ld1 [.tmp 114]⟩]⟩, ⟨37, ⟨some 51, none, .call 56 [.tmp 50, .const (.int .i64 1001), .const (.int .i64 1000000)]⟩, true, [⟨some 54, none, .op .ld1 [.tmp 53]⟩, ⟨some 58, none, .op .ld1 [.tmp 57]⟩, ⟨some 72, none, .op .ld1 [.tmp 71]⟩, ⟨some 77, none, .op .ld1 [.tmp 76]⟩, ⟨some 81, none, .op .ld1 [.tmp 80]⟩, ⟨some 85, none, .op .ld1 [.tmp 84]⟩, ⟨some 95, none, .op .ld1 [.tmp 94]⟩, ⟨some 99, none, .op .ld1 [.tmp 98]⟩, ⟨some 103, none, .op .ld1 [.tmp 102]⟩, ⟨some 107, none, .op .ld1 [.tmp 106]⟩, ⟨some 111, none, .op .ld1 [.tmp 110]⟩, ⟨some 115, none, .op .ld1 [.tmp 114]⟩]⟩, ⟨41, ⟨some 55, none, .call 56 [.tmp 54, .const (.int .i64 0), .const (.int .i64 100)]⟩, true, [⟨some 58, none, .op .ld1 [.tmp 57]⟩, ⟨some 72, none, .op .ld1 [.tmp 71]⟩, ⟨some 77, none, .op .ld1 [.tmp 76]⟩, ⟨some 81, none, .op .ld1 [.tmp 80]⟩, ⟨some 85, none, .op .ld1 [.tmp 84]⟩, ⟨some 95, none, .op .ld1 [.tmp 94]⟩, ⟨some 99, none, .op .ld1 [.tmp 98]⟩, ⟨some 103, none, .op .ld1 [.tmp 102]⟩, ⟨some 107, none, .op .ld1 [.tmp 106]⟩, ⟨some 111, none, .op .ld1 [.tmp 110]⟩, ⟨some 115, none, .op .ld1 [.tmp 114]⟩]⟩, ⟨46, ⟨some 60, none, .op .mv [.tmp 59]⟩, false, []⟩, ⟨47, ⟨some 61, some (60, false), .op .mv [.tmp 3]⟩, false, []⟩, ⟨48, ⟨some 62, some (60, false), .op (.iad 1) [.tmp 61, .const (.int .i64 9)]⟩, false, []⟩, ⟨49, ⟨some 63, some (60, false), .op .ld1 [.tmp 62]⟩, false, []⟩, ⟨50, ⟨some 64, some (60, false), .op .mv [.tmp 3]⟩, false, []⟩, ⟨51, ⟨some 65, some (60, false), .op (.iad 1) [.tmp 64, .const (.int .i64 8)]⟩, false, []⟩, ⟨52, ⟨some 66, some (60, false), .op .ld1 [.tmp 65]⟩, false, []⟩, ⟨53, ⟨some 67, some (60, false), .op (.mm true) [.tmp 66, .const (.int .i64 1)]⟩, false, []⟩, ⟨54, ⟨some 68, some (60, false), .call 56 [.tmp 63, .tmp 67, .const (.int .i64 100)]⟩, true, [⟨some 72, none, .op .ld1 [.tmp 71]⟩, ⟨some 77, none, .op .ld1 [.tmp 76]⟩, ⟨some 81, none, .op .ld1 [.tmp 80]⟩, ⟨some 85, none, .op .ld1 [.tmp 84]⟩, ⟨some 95, none, .op .ld1 [.tmp 94]⟩, ⟨some 99, none, .op .ld1 [.tmp 98]⟩, ⟨some 103, none, .op .ld1 [.tmp 102]⟩, ⟨some 107, none, .op .ld1 [.tmp 106]⟩, ⟨some 111, none, .op .ld1 [.tmp 110]⟩, ⟨some 115, none, .op .ld1 [.tmp 114]⟩]⟩, ⟨55, ⟨some 69, none, .op .pick [.tmp 60, .const (.bool true), .tmp 68]⟩, false, []⟩, ⟨60, ⟨some 74, none, .call 56 [.tmp 72, .const (.int .i64 0), .tmp 73]⟩, true, [⟨some 77, none, .op .ld1 [.tmp 76]⟩, ⟨some 81, none, .op .ld1 [.tmp 80]⟩, ⟨some 85, none, .op .ld1 [.tmp 84]⟩, ⟨some 95, none, .op .ld1 [.tmp 94]⟩, ⟨some 99, none, .op .ld1 [.tmp 98]⟩, ⟨some 103, none, .op .ld1 [.tmp 102]⟩, ⟨some 107, none, .op .ld1 [.tmp 106]⟩, ⟨some 111, none, .op .ld1 [.tmp 110]⟩, ⟨some 115, none, .op .ld1 [.tmp 114]⟩]⟩, ⟨64, ⟨some 78, none, .call 56 [.tmp 77, .const (.int .i64 0), .const (.int .i64 600)]⟩, true, [⟨some 81, none, .op .ld1 [.tmp 80]⟩, ⟨some 85, none, .op .ld1 [.tmp 84]⟩, ⟨some 95, none, .op .ld1 [.tmp 94]⟩, ⟨some 99, none, .op .ld1 [.tmp 98]⟩, ⟨some 103, none, .op .ld1 [.tmp 102]⟩, ⟨some 107, none, .op .ld1 [.tmp 106]⟩, ⟨some 111, none, .op .ld1 [.tmp 110]⟩, ⟨some 115, none, .op .ld1 [.tmp 114]⟩]⟩, ⟨68, ⟨some 82, none, .call 56 [.tmp 81, .const (.int .i64 0), .const (.int .i64 600)]⟩, true, [⟨some 85, none, .op .ld1 [.tmp 84]⟩, ⟨some 95, none, .op .ld1 [.tmp 94]⟩, ⟨some 99, none, .op .ld1 [.tmp 98]⟩, ⟨some 103, none, .op .ld1 [.tmp 102]⟩, ⟨some 107, none, .op .ld1 [.tmp 106]⟩, ⟨some 111, none, .op .ld1 [.tmp 110]⟩, ⟨some 115, none, .op .ld1 [.tmp 114]⟩]⟩, ⟨73, ⟨some 87, none, .op .mv [.tmp 86]⟩, false, []⟩, ⟨74, ⟨some 88, some (87, false), .op .mv [.tmp 3]⟩, false, []⟩, ⟨75, ⟨some 89, some (87, false), .op (.iad 1) [.tmp 88, .const (.int .i64 13)]⟩, false, []⟩, ⟨76, ⟨some 90, some (87, false), .op .ld1 [.tmp 89]⟩, false, []⟩, ⟨77, ⟨some 91, some (87, false), .call 56 [.tmp 90, .const (.int .i64 0), .const (.int .i64 100000000)]⟩, true, [⟨some 95, none, .op .ld1 [.tmp 94]⟩, ⟨some 99, none, .op .ld1 [.tmp 98]⟩, ⟨some 103, none, .op .ld1 [.tmp 102]⟩, ⟨some 107, none, .op .ld1 [.tmp 106]⟩, ⟨some 111, none, .op .ld1 [.tmp 110]⟩, ⟨some 115, none, .op .ld1 [.tmp 114]⟩]⟩, ⟨78, ⟨some 92, none, .op .pick [.tmp 87, .const (.bool true), .tmp 91]⟩, false, []⟩, ⟨82, ⟨some 96, none, .call 56 [.tmp 95, .const (.int .i64 1), .const (.int .i64 1000)]⟩, true, [⟨some 99, none, .op .ld1 [.tmp 98]⟩, ⟨some 103, none, .op .ld1 [.tmp 102]⟩, ⟨some 107, none, .op .ld1 [.tmp 106]⟩, ⟨some 111, none, .op .ld1 [.tmp 110]⟩, ⟨some 115, none, .op .ld1 [.tmp 114]⟩]⟩, ⟨86, ⟨some 100, none, .call 56 [.tmp 99, .const (.int .i64 0), .const (.int .i64 200)]⟩, true, [⟨some 103, none, .op .ld1 [.tmp 102]⟩, ⟨some 107, none, .op .ld1 [.tmp 106]⟩, ⟨some 111, none, .op .ld1 [.tmp 110]⟩, ⟨some 115, none, .op .ld1 [.tmp 114]⟩]⟩, ⟨90, ⟨some 104, none, .call 56 [.tmp 103, .const (.int .i64 1), .const (.int .i64 10000)]⟩, true, [⟨some 107, none, .op .ld1 [.tmp 106]⟩, ⟨some 111, none, .op .ld1 [.tmp 110]⟩, ⟨some 115, none, .op .ld1 [.tmp 114]⟩]⟩, ⟨94, ⟨some 108, none, .call 56 [.tmp 107, .const (.int .i64 0), .const (.int .i64 100)]⟩, true, [⟨some 111, none, .op .ld1 [.tmp 110]⟩, ⟨some 115, none, .op .ld1 [.tmp 114]⟩]⟩, ⟨98, ⟨some 112, none, .call 56 [.tmp 111, .const (.int .i64 0), .const (.int .i64 100)]⟩, true, [⟨some 115, none, .op .ld1 [.tmp 114]⟩]⟩, ⟨102, ⟨some 116, none, .call 56 [.tmp 115, .const (.int .i64 0), .const (.int .i64 100)]⟩, true, []⟩, ⟨103, ⟨some 117, none, .op (.bsl 4 1 20 #[(.bool false), (.bool false), (.bool false), (.bool false), (.bool false), (.bool false), (.bool false), (.bool false), (.bool false), (.bool false), (.bool false), (.bool false), (.bool false), (.bool false), (.bool false), (.bool false), (.bool false), (.bool false), (.bool false), (.bool false)] [0, 1, 2, 3, 4, 5, 6, 7, 8, 9, 10, 11, 12, 13, 14, 15, 16, 17, 18, 19]) [.tmp 17, .tmp 21, .tmp 25, .tmp 32, .tmp 39, .tmp 43, .tmp 47, .tmp 51, .tmp 55, .tmp 69, .tmp 74, .tmp 78, .tmp 82, .tmp 92, .tmp 96, .tmp 100, .tmp 104, .tmp 108, .tmp 112, .tmp 116]⟩, true, []⟩, ⟨104, ⟨some 5, none, .op .mv [.tmp 117]⟩, false, []⟩]) (.seq (.seq (.reg [⟨some 6, none, .op .mv [.const (.int .i64 0)]⟩]) (.block 0 (.loop (.seq (.seq (.reg [⟨some 118, none, .op .mv [.tmp 6]⟩, ⟨some 119, none, .op .mv [.tmp 5]⟩, ⟨some 120, none, .op .len [.tmp 119]⟩, ⟨some 121, none, .op (.bin .lss) [.tmp 118, .tmp 120]⟩]) (.cond (.tmp 121) (.skip) (.exit 0))) (.seq (.block 1 (.seq (.reg [⟨some 124, none, .op .mv [.tmp 5]⟩, ⟨some 125, none, .op .mv [.tmp 6]⟩, ⟨some 126, none, .op (.iad 1) [.tmp 124, .tmp 125]⟩, ⟨some 127, none, .op .ld1 [.tmp 126]⟩, ⟨some 128, none, .op .not [.tmp 127]⟩]) (.cond (.tmp 128) (.seq (.reg [⟨some 129, none, .call 21 []⟩, ⟨some 130, none, .op .mv [.tmp 6]⟩, ⟨some 131, none, .op (.iad 1) [.tmp 129, .tmp 130]⟩, ⟨some 132, none, .op .ld1 [.tmp 131]⟩, ⟨some 2, none, .op .mv [.tmp 132]⟩]) (.ret)) (.skip)))) (.reg [⟨some 122, none, .op .mv [.tmp 6]⟩, ⟨some 123, none, .op (.bin .add) [.tmp 122, .const (.int .i64 1)]⟩, ⟨some 6, none, .op .mv [.tmp 123]⟩])))))) (.seq (.reg [⟨some 2, none, .op .mv [.const (.string ⟨#[]⟩)]⟩]) (.ret)))))))⟩
theorem c40 : compF Go.Proofs.Tryd.prog Go.Proofs.Tryd.f40 = some ir40 := by kernel_rfl
/-- spinnaker/conf.Wrong -/
def ir50 : FI :=
  ⟨141, [.tmp 2], .seq (.reg [⟨some 1, none, .op (.box 24) [.tmp 0]⟩, ⟨some 2, none, .op .mv [.const (.string ⟨#[]⟩)]⟩]) (.seq (.reg [⟨some 3, none, .op .mv [.const (.int .i64 100)]⟩]) (.seq (.seq (.reg [⟨some 6, none, .op (.fad 9) [.tmp 1]⟩, ⟨some 7, none, .op .ld1 [.tmp 6]⟩, ⟨some 8, none, .op (.bin .neq) [.tmp 7, .const (.int .i64 0)]⟩]) (.cond (.tmp 8) (.reg [⟨some 9, none, .op (.fad 9) [.tmp 1]⟩, ⟨some 10, none, .op .ld1 [.tmp 9]⟩, ⟨some 3, none, .op .mv [.tmp 10]⟩]) (.skip))) (.seq (.seq (.drw [⟨0, ⟨some 11, none, .op (.fad 0) [.tmp 1]⟩, false, []⟩, ⟨1, ⟨some 12, none, .op .ld1 [.tmp 11]⟩, false, []⟩, ⟨2, ⟨some 13, none, .op (.ifc 2) [.tmp 12]⟩, false, []⟩, ⟨5, ⟨some 16, none, .op (.fad 1) [.tmp 1]⟩, false, []⟩, ⟨6, ⟨some 17, none, .op .ld1 [.tmp 16]⟩, false, []⟩, ⟨7, ⟨some 18, none, .op (.ifc 2) [.tmp 17]⟩, false, []⟩, ⟨10, ⟨some 21, none, .op (.fad 2) [.tmp 1]⟩, false, []⟩, ⟨11, ⟨some 22, none, .op .ld1 [.tmp 21]⟩, false, []⟩, ⟨12, ⟨some 23, none, .op (.ifc 3) [.tmp 22]⟩, false, []⟩, ⟨15, ⟨some 26, none, .op (.fad 3) [.tmp 1]⟩, false, []⟩, ⟨16, ⟨some 27, none, .op .ld1 [.tmp 26]⟩, false, []⟩, ⟨17, ⟨some 28, none, .op (.ifc 3) [.tmp 27]⟩, false, []⟩, ⟨18, ⟨some 29, none, .op (.fad 2) [.tmp 1]⟩, false, []⟩, ⟨19, ⟨some 30, none, .op .ld1 [.tmp 29]⟩, false, []⟩, ⟨22, ⟨some 33, none, .op (.fad 4) [.tmp 1]⟩, false, []⟩, ⟨23, ⟨some 34, none, .op .ld1 [.tmp 33]⟩, false, []⟩, ⟨24, ⟨some 35, none, .op (.ifc 3) [.tmp 34]⟩, false, []⟩, ⟨25, ⟨some 36, none, .op (.fad 3) [.tmp 1]⟩, false, []⟩, ⟨26, ⟨some 37, none, .op .ld1 [.tmp 36]⟩, false, []⟩, ⟨29, ⟨some 40, none, .op (.fad 5) [.tmp 1]⟩, false, []⟩, ⟨30, ⟨some 41, none, .op .ld1 [.tmp 40]⟩, false, []⟩, ⟨31, ⟨some 42, none, .op (.ifc 2) [.tmp 41]⟩, false, []⟩, ⟨34, ⟨some 45, none, .op (.fad 6) [.tmp 1]⟩, false, []⟩, ⟨35, ⟨some 46, none, .op .ld1 [.tmp 45]⟩, false, []⟩, ⟨36, ⟨some 47, none, .op (.ifc 2) [.tmp 46]⟩, false, []⟩, ⟨39, ⟨some 50, none, .op (.fad 7) [.tmp 1]⟩, false, []⟩, ⟨40, ⟨some 51, none, .op .ld1 [.tmp 50]⟩, false, []⟩, ⟨41, ⟨some 52, none, .op (.ifc 2) [.tmp 51]⟩, false, []⟩, ⟨44, ⟨some 55, none, .op (.fad 8) [.tmp 1]⟩, false, []⟩, ⟨45, ⟨some 56, none, .op .ld1 [.tmp 55]⟩, false, []⟩, ⟨46, ⟨some 57, none, .op (.ifc 3) [.tmp 56]⟩, false, []⟩, ⟨49, ⟨some 60, none, .op (.fad 9) [.tmp 1]⟩, false, []⟩, ⟨50, ⟨some 61, none, .op .ld1 [.tmp 60]⟩, false, []⟩, ⟨51, ⟨some 62, none, .op (.bin .eql) [.tmp 61, .const (.int .i64 0)]⟩, false, []⟩, ⟨62, ⟨some 73, none, .op (.fad 10) [.tmp 1]⟩, false, []⟩, ⟨63, ⟨some 74, none, .op .ld1 [.tmp 73]⟩, false, []⟩, ⟨64, ⟨some 75, none, .op (.ifc 3) [.tmp 74]⟩, false, []⟩, ⟨65, ⟨some 76, none, .op .mv [.tmp 3]⟩, false, []⟩, ⟨68, ⟨some 79, none, .op (.fad 11) [.tmp 1]⟩, false, []⟩, ⟨69, ⟨some 80, none, .op .ld1 [.tmp 79]⟩, false, []⟩, ⟨70, ⟨some 81, none, .op (.ifc 3) [.tmp 80]⟩, false, []⟩, ⟨73, ⟨some 84, none, .op (.fad 12) [.tmp 1]⟩, false, []⟩, ⟨74, ⟨some 85, none, .op .ld1 [.tmp 84]⟩, false, []⟩, ⟨75, ⟨some 86, none, .op (.ifc 3) [.tmp 85]⟩, false, []⟩, ⟨78, ⟨some 89, none, .op (.fad 13) [.tmp 1]⟩, false, []⟩, ⟨79, ⟨some 90, none, .op .ld1 [.tmp 89]⟩, false, []⟩, ⟨80, ⟨some 91, none, .op (.bin .eql) [.tmp 90, .const (.int .i64 (-1000))]⟩, false, []⟩, ⟨88, ⟨some 99, none, .op (.fad 14) [.tmp 1]⟩, false, []⟩, ⟨89, ⟨some 100, none, .op .ld1 [.tmp 99]⟩, false, []⟩, ⟨90, ⟨some 101, none, .op (.ifc 3) [.tmp 100]⟩, false, []⟩, ⟨93, ⟨some 104, none, .op (.fad 15) [.tmp 1]⟩, false, []⟩, ⟨94, ⟨some 105, none, .op .ld1 [.tmp 104]⟩, false, []⟩, ⟨95, ⟨some 106, none, .op (.ifc 3) [.tmp 105]⟩, false, []⟩, ⟨98, ⟨some 109, none, .op (.fad 16) [.tmp 1]⟩, false, []⟩, ⟨99, ⟨some 110, none, .op .ld1 [.tmp 109]⟩, false, []⟩, ⟨100, ⟨some 111, none, .op (.ifc 3) [.tmp 110]⟩, false, []⟩, ⟨103, ⟨some 114, none, .op (.fad 17) [.tmp 1]⟩, false, []⟩, ⟨104, ⟨some 115, none, .op .ld1 [.tmp 114]⟩, false, []⟩, ⟨105, ⟨some 116, none, .op (.ifc 3) [.tmp 115]⟩, false, []⟩, ⟨108, ⟨some 119, none, .op (.fad 18) [.tmp 1]⟩, false, []⟩, ⟨109, ⟨some 120, none, .op .ld1 [.tmp 119]⟩, false, []⟩, ⟨110, ⟨some 121, none, .op (.ifc 3) [.tmp 120]⟩, false, []⟩, ⟨113, ⟨some 124, none, .op (.fad 19) [.tmp 1]⟩, false, []⟩, ⟨114, ⟨some 125, none, .op .ld1 [.tmp 124]⟩, false, []⟩, ⟨115, ⟨some 126, none, .op (.ifc 3) [.tmp 125]⟩, false, []⟩, ⟨120, ⟨some 131, none, .op .mv [.const (.int .i64 0)]⟩, false, []⟩, ⟨3, ⟨some 14, none, .call 65 [.tmp 13, .const (.int .i64 10), .const (.int .i64 1000000)]⟩, true, [⟨some 17, none, .op .ld1 [.tmp 16]⟩, ⟨some 22, none, .op .ld1 [.tmp 21]⟩, ⟨some 27, none, .op .ld1 [.tmp 26]⟩, ⟨some 30, none, .op .ld1 [.tmp 29]⟩, ⟨some 34, none, .op .ld1 [.tmp 33]⟩, ⟨some 37, none, .op .ld1 [.tmp 36]⟩, ⟨some 41, none, .op .ld1 [.tmp 40]⟩, ⟨some 46, none, .op .ld1 [.tmp 45]⟩, ⟨some 51, none, .op .ld1 [.tmp 50]⟩, ⟨some 56, none, .op .ld1 [.tmp 55]⟩, ⟨some 61, none, .op .ld1 [.tmp 60]⟩, ⟨some 74, none, .op .ld1 [.tmp 73]⟩, ⟨some 80, none, .op .ld1 [.tmp 79]⟩, ⟨some 85, none, .op .ld1 [.tmp 84]⟩, ⟨some 90, none, .op .ld1 [.tmp 89]⟩, ⟨some 100, none, .op .ld1 [.tmp 99]⟩, ⟨some 105, none, .op .ld1 [.tmp 104]⟩, ⟨some 110, none, .op .ld1 [.tmp 109]⟩, ⟨some 115, none, .op .ld1 [.tmp 114]⟩, ⟨some 120, none, .op .ld1 [.tmp 119]⟩, ⟨some 125, none, .op .ld1 [.tmp 124]⟩]⟩, ⟨4, ⟨some 15, none, .op (.bld #[(.string ⟨#[]⟩), (.bool false)] [(0, 1), (1, 1)] [0, 1]) [.const (.string ⟨#[116, 97, 114, 103, 101, 116]⟩), .tmp 14]⟩, false, []⟩, ⟨8, ⟨some 19, none, .call 65 [.tmp 18, .const (.int .i64 100), .const (.int .i64 1000)]⟩, true, [⟨some 22, none, .op .ld1 [.tmp 21]⟩, ⟨some 27, none, .op .ld1 [.tmp 26]⟩, ⟨some 30, none, .op .ld1 [.tmp 29]⟩, ⟨some 34, none, .op .ld1 [.tmp 33]⟩, ⟨some 37, none, .op .ld1 [.tmp 36]⟩, ⟨some 41, none, .op .ld1 [.tmp 40]⟩, ⟨some 46, none, .op .ld1 [.tmp 45]⟩, ⟨some 51, none, .op .ld1 [.tmp 50]⟩, ⟨some 56, none, .op .ld1 [.tmp 55]⟩, ⟨some 61, none, .op .ld1 [.tmp 60]⟩, ⟨some 74, none, .op .ld1 [.tmp 73]⟩, ⟨some 80, none, .op .ld1 [.tmp 79]⟩, ⟨some 85, none, .op .ld1 [.tmp 84]⟩, ⟨some 90, none, .op .ld1 [.tmp 89]⟩, ⟨some 100, none, .op .ld1 [.tmp 99]⟩, ⟨some 105, none, .op .ld1 [.tmp 104]⟩, ⟨some 110, none, .op .ld1 [.tmp 109]⟩, ⟨some 115, none, .op .ld1 [.tmp 114]⟩, ⟨some 120, none, .op .ld1 [.tmp 119]⟩, ⟨some 125, none, .op .ld1 [.tmp 124]⟩]⟩, ⟨9, ⟨some 20, none, .op (.bld #[(.string ⟨#[]⟩), (.bool false)] [(0, 1), (1, 1)] [0, 1]) [.const (.string ⟨#[117, 116, 105, 108]⟩), .tmp 19]⟩, false, []⟩, ⟨13, ⟨some 24, none, .call 65 [.tmp 23, .const (.int .i64 6), .const (.int .i64 600)]⟩, true, [⟨some 27, none, .op .ld1 [.tmp 26]⟩, ⟨some 30, none, .op .ld1 [.tmp 29]⟩, ⟨some 34, none, .op .ld1 [.tmp 33]⟩, ⟨some 37, none, .op .ld1 [.tmp 36]⟩, ⟨some 41, none, .op .ld1 [.tmp 40]⟩, ⟨some 46, none, .op .ld1 [.tmp 45]⟩, ⟨some 51, none, .op .ld1 [.tmp 50]⟩, ⟨some 56, none, .op .ld1 [.tmp 55]⟩, ⟨some 61, none, .op .ld1 [.tmp 60]⟩, ⟨some 74, none, .op .ld1 [.tmp 73]⟩, ⟨some 80, none, .op .ld1 [.tmp 79]⟩, ⟨some 85, none, .op .ld1 [.tmp 84]⟩, ⟨some 90, none, .op .ld1 [.tmp 89]⟩, ⟨some 100, none, .op .ld1 [.tmp 99]⟩, ⟨some 105, none, .op .ld1 [.tmp 104]⟩, ⟨some 110, none, .op .ld1 [.tmp 109]⟩, ⟨some 115, none, .op .ld1 [.tmp 114]⟩, ⟨some 120, none, .op .ld1 [.tmp 119]⟩, ⟨some 125, none, .op .ld1 [.tmp 124]⟩]⟩, ⟨14, ⟨some 25, none, .op (.bld #[(.string ⟨#[]⟩), (.bool false)] [(0, 1), (1, 1)] [0, 1]) [.const (.string ⟨#[115, 116, 97, 98, 108, 101]⟩), .tmp 24]⟩, false, []⟩, ⟨20, ⟨some 31, none, .call 65 [.tmp 28, .const (.int .i64 1), .tmp 30]⟩, true, [⟨some 34, none, .op .ld1 [.tmp 33]⟩, ⟨some 37, none, .op .ld1 [.tmp 36]⟩, ⟨some 41, none, .op .ld1 [.tmp 40]⟩, ⟨some 46, none, .op .ld1 [.tmp 45]⟩, ⟨some 51, none, .op .ld1 [.tmp 50]⟩, ⟨some 56, none, .op .ld1 [.tmp 55]⟩, ⟨some 61, none, .op .ld1 [.tmp 60]⟩, ⟨some 74, none, .op .ld1 [.tmp 73]⟩, ⟨some 80, none, .op .ld1 [.tmp 79]⟩, ⟨some 85, none, .op .ld1 [.tmp 84]⟩, ⟨some 90, none, .op .ld1 [.tmp 89]⟩, ⟨some 100, none, .op .ld1 [.tmp 99]⟩, ⟨some 105, none, .op .ld1 [.tmp 104]⟩, ⟨some 110, none, .op .ld1 [.tmp 109]⟩, ⟨some 115, none, .op .ld1 [.tmp 114]⟩, ⟨some 120, none, .op .ld1 [.tmp 119]⟩, ⟨some 125, none, .op .ld1 [.tmp 124]⟩]⟩, ⟨21, ⟨some 32, none, .op (.bld #[(.string ⟨#[]⟩), (.bool false)] [(0, 1), (1, 1)] [0, 1]) [.const (.string ⟨#[112, 97, 110, 105, 99]⟩), .tmp 31]⟩, false, []⟩, ⟨27, ⟨some 38, none, .call 65 [.tmp 35, .const (.int .i64 1), .tmp 37]⟩, true, [⟨some 41, none, .op .ld1 [.tmp 40]⟩, ⟨some 46, none, .op .ld1 [.tmp 45]⟩, ⟨some 51, none, .op .ld1 [.tmp 50]⟩, ⟨some 56, none, .op .ld1 [.tmp 55]⟩, ⟨some 61, none, .op .ld1 [.tmp 60]⟩, ⟨some 74, none, .op .ld1 [.tmp 73]⟩, ⟨some 80, none, .op .ld1 [.tmp 79]⟩, ⟨some 85, none, .op .ld1 [.tmp 84]⟩, ⟨some 90, none, .op .ld1 [.tmp 89]⟩, ⟨some 100, none, .op .ld1 [.tmp 99]⟩, ⟨some 105, none, .op .ld1 [.tmp 104]⟩, ⟨some 110, none, .op .ld1 [.tmp 109]⟩, ⟨some 115, none, .op .ld1 [.tmp 114]⟩, ⟨some 120, none, .op .ld1 [.tmp 119]⟩, ⟨some 125, none, .op .ld1 [.tmp 124]⟩]⟩, ⟨28, ⟨some 39, none, .op (.bld #[(.string ⟨#[]⟩), (.bool false)] [(0, 1), (1, 1)] [0, 1]) [.const (.string ⟨#[103, 114, 97, 105, 110]⟩), .tmp 38]⟩, false, []⟩, ⟨32, ⟨some 43, none, .call 65 [.tmp 42, .const (.int .i64 1100), .const (.int .i64 10000)]⟩, true, [⟨some 46, none, .op .ld1 [.tmp 45]⟩, ⟨some 51, none, .op .ld1 [.tmp 50]⟩, ⟨some 56, none, .op .ld1 [.tmp 55]⟩, ⟨some 61, none, .op .ld1 [.tmp 60]⟩, ⟨some 74, none, .op .ld1 [.tmp 73]⟩, ⟨some 80, none, .op .ld1 [.tmp 79]⟩, ⟨some 85, none, .op .ld1 [.tmp 84]⟩, ⟨some 90, none, .op .ld1 [.tmp 89]⟩, ⟨some 100, none, .op .ld1 [.tmp 99]⟩, ⟨some 105, none, .op .ld1 [.tmp 104]⟩, ⟨some 110, none, .op .ld1 [.tmp 109]⟩, ⟨some 115, none, .op .ld1 [.tmp 114]⟩, ⟨some 120, none, .op .ld1 [.tmp 119]⟩, ⟨some 125, none, .op .ld1 [.tmp 124]⟩]⟩, ⟨33, ⟨some 44, none, .op (.bld #[(.string ⟨#[]⟩), (.bool false)] [(0, 1), (1, 1)] [0, 1]) [.const (.string ⟨#[116, 104, 114, 101, 115, 104, 111, 108, 100]⟩), .tmp 43]⟩, false, []⟩, ⟨37, ⟨some 48, none, .call 65 [.tmp 47, .const (.int .i64 1001), .const (.int .i64 1000000)]⟩, true, [⟨some 51, none, .op .ld1 [.tmp 50]⟩, ⟨some 56, none, .op .ld1 [.tmp 55]⟩, ⟨some 61, none, .op .ld1 [.tmp 60]⟩, ⟨some 74, none, .op .ld1 [.tmp 73]⟩, ⟨some 80, none, .op .ld1 [.tmp 79]⟩, ⟨some 85, none, .op .ld1 [.tmp 84]⟩, ⟨some 90, none, .op .ld1 [.tmp 89]⟩, ⟨some 100, none, .op .ld1 [.tmp 99]⟩, ⟨some 105, none, .op .ld1 [.tmp 104]⟩, ⟨some 110, none, .op .ld1 [.tmp 109]⟩, ⟨some 115, none, .op .ld1 [.tmp 114]⟩, ⟨some 120, none, .op .ld1 [.tmp 119]⟩, ⟨some 125, none, .op .ld1 [.tmp 124]⟩]⟩, ⟨38, ⟨some 49, none, .op (.bld #[(.string ⟨#[]⟩), (.bool false)] [(0, 1), (1, 1)] [0, 1]) [.const (.string ⟨#[117, 112]⟩), .tmp 48]⟩, false, []⟩, ⟨42, ⟨some 53, none, .call 65 [.tmp 52, .const (.int .i64 1001), .const (.int .i64 1000000)]⟩, true, [⟨some 56, none, .op .ld1 [.tmp 55]⟩, ⟨some 61, none, .op .ld1 [.tmp 60]⟩, ⟨some 74, none, .op .ld1 [.tmp 73]⟩, ⟨some 80, none, .op .ld1 [.tmp 79]⟩, ⟨some 85, none, .op .ld1 [.tmp 84]⟩, ⟨some 90, none, .op .ld1 [.tmp 89]⟩, ⟨some 100, none, .op .ld1 [.tmp 99]⟩, ⟨some 105, none, .op .ld1 [.tmp 104]⟩, ⟨some 110, none, .op .ld1 [.tmp 109]⟩, ⟨some 115, none, .op .ld1 [.tmp 114]⟩, ⟨some 120, none, .op .ld1 [.tmp 119]⟩, ⟨some 125, none, .op .ld1 [.tmp 124]⟩]⟩, ⟨43, ⟨some 54, none, .op (.bld #[(.string ⟨#[]⟩), (.bool false)] [(0, 1), (1, 1)] [0, 1]) [.const (.string ⟨#[100, 111, 119, 110]⟩), .tmp 53]⟩, false, []⟩, ⟨47, ⟨some 58, none, .call 65 [.tmp 57, .const (.int .i64 0), .const (.int .i64 100)]⟩, true, [⟨some 61, none, .op .ld1 [.tmp 60]⟩, ⟨some 74, none, .op .ld1 [.tmp 73]⟩, ⟨some 80, none, .op .ld1 [.tmp 79]⟩, ⟨some 85, none, .op .ld1 [.tmp 84]⟩, ⟨some 90, none, .op .ld1 [.tmp 89]⟩, ⟨some 100, none, .op .ld1 [.tmp 99]⟩, ⟨some 105, none, .op .ld1 [.tmp 104]⟩, ⟨some 110, none, .op .ld1 [.tmp 109]⟩, ⟨some 115, none, .op .ld1 [.tmp 114]⟩, ⟨some 120, none, .op .ld1 [.tmp 119]⟩, ⟨some 125, none, .op .ld1 [.tmp 124]⟩]⟩, ⟨48, ⟨some 59, none, .op (.bld #[(.string ⟨#[]⟩), (.bool false)] [(0, 1), (1, 1)] [0, 1]) [.const (.string ⟨#[109, 105, 110]⟩), .tmp 58]⟩, false, []⟩, ⟨52, ⟨some 63, none, .op .mv [.tmp 62]⟩, false, []⟩, ⟨53, ⟨some 64, some (63, false), .op (.fad 9) [.tmp 1]⟩, false, []⟩, ⟨54, ⟨some 65, some (63, false), .op .ld1 [.tmp 64]⟩, false, []⟩, ⟨55, ⟨some 66, some (63, false), .op (.ifc 3) [.tmp 65]⟩, false, []⟩, ⟨56, ⟨some 67, some (63, false), .op (.fad 8) [.tmp 1]⟩, false, []⟩, ⟨57, ⟨some 68, some (63, false), .op .ld1 [.tmp 67]⟩, false, []⟩, ⟨58, ⟨some 69, some (63, false), .op (.mm true) [.tmp 68, .const (.int .i64 1)]⟩, false, []⟩, ⟨59, ⟨some 70, some (63, false), .call 65 [.tmp 66, .tmp 69, .const (.int .i64 100)]⟩, true, [⟨some 74, none, .op .ld1 [.tmp 73]⟩, ⟨some 80, none, .op .ld1 [.tmp 79]⟩, ⟨some 85, none, .op .ld1 [.tmp 84]⟩, ⟨some 90, none, .op .ld1 [.tmp 89]⟩, ⟨some 100, none, .op .ld1 [.tmp 99]⟩, ⟨some 105, none, .op .ld1 [.tmp 104]⟩, ⟨some 110, none, .op .ld1 [.tmp 109]⟩, ⟨some 115, none, .op .ld1 [.tmp 114]⟩, ⟨some 120, none, .op .ld1 [.tmp 119]⟩, ⟨some 125, none, .op .ld1 [.tmp 124]⟩]⟩, ⟨60, ⟨some 71, none, .op .pick [.tmp 63, .const (.bool true), .tmp 70]⟩, false, []⟩, ⟨61, ⟨some 72, none, .op (.bld #[(.string ⟨#[]⟩), (.bool false)] [(0, 1), (1, 1)] [0, 1]) [.const (.string ⟨#[109, 97, 120]⟩), .tmp 71]⟩, false, []⟩, ⟨66, ⟨some 77, none, .call 65 [.tmp 75, .const (.int .i64 0), .tmp 76]⟩, true, [⟨some 80, none, .op .ld1 [.tmp 79]⟩, ⟨some 85, none, .op .ld1 [.tmp 84]⟩, ⟨some 90, none, .op .ld1 [.tmp 89]⟩, ⟨some 100, none, .op .ld1 [.tmp 99]⟩, ⟨some 105, none, .op .ld1 [.tmp 104]⟩, ⟨some 110, none, .op .ld1 [.tmp 109]⟩, ⟨some 115, none, .op .ld1 [.tmp 114]⟩, ⟨some 120, none, .op .ld1 [.tmp 119]⟩, ⟨some 125, none, .op .ld1 [.tmp 124]⟩]⟩, ⟨67, ⟨some 78, none, .op (.bld #[(.string ⟨#[]⟩), (.bool false)] [(0, 1), (1, 1)] [0, 1]) [.const (.string ⟨#[105, 110, 105, 116, 105, 97, 108]⟩), .tmp 77]⟩, false, []⟩, ⟨71, ⟨some 82, none, .call 65 [.tmp 81, .const (.int .i64 0), .const (.int .i64 600)]⟩, true, [⟨some 85, none, .op .ld1 [.tmp 84]⟩, ⟨some 90, none, .op .ld1 [.tmp 89]⟩, ⟨some 100, none, .op .ld1 [.tmp 99]⟩, ⟨some 105, none, .op .ld1 [.tmp 104]⟩, ⟨some 110, none, .op .ld1 [.tmp 109]⟩, ⟨some 115, none, .op .ld1 [.tmp 114]⟩, ⟨some 120, none, .op .ld1 [.tmp 119]⟩, ⟨some 125, none, .op .ld1 [.tmp 124]⟩]⟩, ⟨72, ⟨some 83, none, .op (.bld #[(.string ⟨#[]⟩), (.bool false)] [(0, 1), (1, 1)] [0, 1]) [.const (.string ⟨#[103, 114, 97, 99, 101]⟩), .tmp 82]⟩, false, []⟩, ⟨76, ⟨some 87, none, .call 65 [.tmp 86, .const (.int .i64 0), .const (.int .i64 600)]⟩, true, [⟨some 90, none, .op .ld1 [.tmp 89]⟩, ⟨some 100, none, .op .ld1 [.tmp 99]⟩, ⟨some 105, none, .op .ld1 [.tmp 104]⟩, ⟨some 110, none, .op .ld1 [.tmp 109]⟩, ⟨some 115, none, .op .ld1 [.tmp 114]⟩, ⟨some 120, none, .op .ld1 [.tmp 119]⟩, ⟨some 125, none, .op .ld1 [.tmp 124]⟩]⟩, ⟨77, ⟨some 88, none, .op (.bld #[(.string ⟨#[]⟩), (.bool false)] [(0, 1), (1, 1)] [0, 1]) [.const (.string ⟨#[100, 101, 108, 97, 121]⟩), .tmp 87]⟩, false, []⟩, ⟨81, ⟨some 92, none, .op .mv [.tmp 91]⟩, false, []⟩, ⟨82, ⟨some 93, some (92, false), .op (.fad 13) [.tmp 1]⟩, false, []⟩, ⟨83, ⟨some 94, some (92, false), .op .ld1 [.tmp 93]⟩, false, []⟩, ⟨84, ⟨some 95, some (92, false), .op (.ifc 2) [.tmp 94]⟩, false, []⟩, ⟨85, ⟨some 96, some (92, false), .call 65 [.tmp 95, .const (.int .i64 0), .const (.int .i64 100000000)]⟩, true, [⟨some 100, none, .op .ld1 [.tmp 99]⟩, ⟨some 105, none, .op .ld1 [.tmp 104]⟩, ⟨some 110, none, .op .ld1 [.tmp 109]⟩, ⟨some 115, none, .op .ld1 [.tmp 114]⟩, ⟨some 120, none, .op .ld1 [.tmp 119]⟩, ⟨some 125, none, .op .ld1 [.tmp 124]⟩]⟩, ⟨86, ⟨some 97, none, .op .pick [.tmp 92, .const (.bool true), .tmp 96]⟩, false, []⟩, ⟨87, ⟨some 98, none, .op (.bld #[(.string ⟨#[]⟩), (.bool false)] [(0, 1), (1, 1)] [0, 1]) [.const (.string ⟨#[98, 117, 114, 115, 116]⟩), .tmp 97]⟩, false, []⟩, ⟨91, ⟨some 102, none, .call 65 [.tmp 101, .const (.int .i64 1), .const (.int .i64 1000)]⟩, true, [⟨some 105, none, .op .ld1 [.tmp 104]⟩, ⟨some 110, none, .op .ld1 [.tmp 109]⟩, ⟨some 115, none, .op .ld1 [.tmp 114]⟩, ⟨some 120, none, .op .ld1 [.tmp 119]⟩, ⟨some 125, none, .op .ld1 [.tmp 124]⟩]⟩, ⟨92, ⟨some 103, none, .op (.bld #[(.string ⟨#[]⟩), (.bool false)] [(0, 1), (1, 1)] [0, 1]) [.const (.string ⟨#[108, 105, 109, 105, 116]⟩), .tmp 102]⟩, false, []⟩, ⟨96, ⟨some 107, none, .call 65 [.tmp 106, .const (.int .i64 0), .const (.int .i64 200)]⟩, true, [⟨some 110, none, .op .ld1 [.tmp 109]⟩, ⟨some 115, none, .op .ld1 [.tmp 114]⟩, ⟨some 120, none, .op .ld1 [.tmp 119]⟩, ⟨some 125, none, .op .ld1 [.tmp 124]⟩]⟩, ⟨97, ⟨some 108, none, .op (.bld #[(.string ⟨#[]⟩), (.bool false)] [(0, 1), (1, 1)] [0, 1]) [.const (.string ⟨#[113, 117, 101, 117, 101]⟩), .tmp 107]⟩, false, []⟩, ⟨101, ⟨some 112, none, .call 65 [.tmp 111, .const (.int .i64 1), .const (.int .i64 10000)]⟩, true, [⟨some 115, none, .op .ld1 [.tmp 114]⟩, ⟨some 120, none, .op .ld1 [.tmp 119]⟩, ⟨some 125, none, .op .ld1 [.tmp 124]⟩]⟩, ⟨102, ⟨some 113, none, .op (.bld #[(.string ⟨#[]⟩), (.bool false)] [(0, 1), (1, 1)] [0, 1]) [.const (.string ⟨#[116, 105, 109, 101, 111, 117, 116]⟩), .tmp 112]⟩, false, []⟩, ⟨106, ⟨some 117, none, .call 65 [.tmp 116, .const (.int .i64 0), .const (.int .i64 100)]⟩, true, [⟨some 120, none, .op .ld1 [.tmp 119]⟩, ⟨some 125, none, .op .ld1 [.tmp 124]⟩]⟩, ⟨107, ⟨some 118, none, .op (.bld #[(.string ⟨#[]⟩), (.bool false)] [(0, 1), (1, 1)] [0, 1]) [.const (.string ⟨#[114, 101, 97, 100, 121]⟩), .tmp 117]⟩, false, []⟩, ⟨111, ⟨some 122, none, .call 65 [.tmp 121, .const (.int .i64 0), .const (.int .i64 100)]⟩, true, [⟨some 125, none, .op .ld1 [.tmp 124]⟩]⟩, ⟨112, ⟨some 123, none, .op (.bld #[(.string ⟨#[]⟩), (.bool false)] [(0, 1), (1, 1)] [0, 1]) [.const (.string ⟨#[115, 117, 98, 115, 101, 116]⟩), .tmp 122]⟩, false, []⟩, ⟨116, ⟨some 127, none, .call 65 [.tmp 126, .const (.int .i64 0), .const (.int .i64 100)]⟩, true, []⟩, ⟨117, ⟨some 128, none, .op (.bld #[(.string ⟨#[]⟩), (.bool false)] [(0, 1), (1, 1)] [0, 1]) [.const (.string ⟨#[115, 97, 109, 112, 108, 101]⟩), .tmp 127]⟩, false, []⟩, ⟨118, ⟨some 129, none, .op (.bsl 99 2 20 #[(.string ⟨#[]⟩), (.bool false), (.string ⟨#[]⟩), (.bool false), (.string ⟨#[]⟩), (.bool false), (.string ⟨#[]⟩), (.bool false), (.string ⟨#[]⟩), (.bool false), (.string ⟨#[]⟩), (.bool false), (.string ⟨#[]⟩), (.bool false), (.string ⟨#[]⟩), (.bool false), (.string ⟨#[]⟩), (.bool false), (.string ⟨#[]⟩), (.bool false), (.string ⟨#[]⟩), (.bool false), (.string ⟨#[]⟩), (.bool false), (.string ⟨#[]⟩), (.bool false), (.string ⟨#[]⟩), (.bool false), (.string ⟨#[]⟩), (.bool false), (.string ⟨#[]⟩), (.bool false), (.string ⟨#[]⟩), (.bool false), (.string ⟨#[]⟩), (.bool false), (.string ⟨#[]⟩), (.bool false), (.string ⟨#[]⟩), (.bool false)] [0, 1, 2, 3, 4, 5, 6, 7, 8, 9, 10, 11, 12, 13, 14, 15, 16, 17, 18, 19]) [.tmp 15, .tmp 20, .tmp 25, .tmp 32, .tmp 39, .tmp 44, .tmp 49, .tmp 54, .tmp 59, .tmp 72, .tmp 78, .tmp 83, .tmp 88, .tmp 98, .tmp 103, .tmp 108, .tmp 113, .tmp 118, .tmp 123, .tmp 128]⟩, true, []⟩, ⟨119, ⟨some 130, none, .op .len [.tmp 129]⟩, false, []⟩]) (.block 0 (.loop (.seq (.reg [⟨some 132, none, .op (.bin .lss) [.tmp 131, .tmp 130]⟩]) (.seq (.cond (.tmp 132) (.skip) (.exit 0)) (.seq (.block 1 (.seq (.reg [⟨some 133, none, .op (.iad 2) [.tmp 129, .tmp 131]⟩, ⟨some 134, none, .op (.ldn 2) [.tmp 133]⟩, ⟨some 5, none, .op (.new 99 (.agg #[(.string ⟨#[]⟩), (.bool false)])) []⟩, ⟨none, none, .op (.st 2) [.tmp 5, .tmp 134]⟩]) (.seq (.reg [⟨some 135, none, .op (.fad 1) [.tmp 5]⟩, ⟨some 136, none, .op .ld1 [.tmp 135]⟩, ⟨some 137, none, .op .not [.tmp 136]⟩]) (.cond (.tmp 137) (.seq (.reg [⟨some 138, none, .op (.fad 0) [.tmp 5]⟩, ⟨some 139, none, .op .ld1 [.tmp 138]⟩, ⟨some 2, none, .op .mv [.tmp 139]⟩]) (.ret)) (.skip))))) (.reg [⟨some 140, none, .op (.bin .add) [.tmp 131, .const (.int .i64 1)]⟩, ⟨some 131, none, .op .mv [.tmp 140]⟩]))))))) (.seq (.reg [⟨some 2, none, .op .mv [.const (.string ⟨#[]⟩)]⟩]) (.ret)))))⟩
theorem c50 : compF Go.Proofs.Tryd.prog Go.Proofs.Tryd.f50 = some ir50 := by kernel_rfl
/-- strconv.ParseInt -/
def ir52 : FI :=
  ⟨25, [.tmp 6, .tmp 7], .seq (.reg [⟨some 6, none, .op .mv [.const (.int .i64 0)]⟩, ⟨some 7, none, .op .mv [.const .nilIface]⟩]) (.seq (.reg [⟨some 10, none, .op .mv [.tmp 0]⟩, ⟨some 11, none, .op .mv [.tmp 1]⟩, ⟨some 12, none, .op .mv [.tmp 2]⟩, ⟨some 13, none, .call 67 [.tmp 10, .tmp 11, .tmp 12]⟩, ⟨some 9, none, .op .mv [.tmp 13]⟩, ⟨some 14, none, .op (.ext 0) [.tmp 9]⟩, ⟨some 15, none, .op (.ext 1) [.tmp 9]⟩, ⟨some 8, none, .op .mv [.tmp 14]⟩, ⟨some 7, none, .op .mv [.tmp 15]⟩]) (.seq (.seq (.reg [⟨some 16, none, .op .mv [.tmp 7]⟩, ⟨some 17, none, .op (.isn true) [.tmp 16, .const .nilIface]⟩]) (.cond (.tmp 17) (.seq (.reg [⟨some 18, none, .op .mv [.tmp 8]⟩, ⟨some 19, none, .op .mv [.tmp 0]⟩, ⟨some 20, none, .op .mv [.tmp 1]⟩, ⟨some 21, none, .op .mv [.tmp 2]⟩, ⟨some 22, none, .op .mv [.tmp 7]⟩, ⟨some 23, none, .call 68 [.const (.string ⟨#[80, 97, 114, 115, 101, 73, 110, 116]⟩), .tmp 19, .tmp 20, .tmp 21, .tmp 22]⟩, ⟨some 6, none, .op .mv [.tmp 18]⟩, ⟨some 7, none, .op .mv [.tmp 23]⟩]) (.ret)) (.skip))) (.seq (.reg [⟨some 24, none, .op .mv [.tmp 8]⟩, ⟨some 6, none, .op .mv [.tmp 24]⟩, ⟨some 7, none, .op .mv [.const .nilIface]⟩]) (.ret))))⟩
theorem c52 : compF Go.Proofs.Tryd.prog Go.Proofs.Tryd.f52 = some ir52 := by kernel_rfl
/-- spinnaker/spinnakerref1.in -/
def ir56 : FI :=
  ⟨15, [.tmp 6], .seq (.reg [⟨some 6, none, .op .mv [.const (.bool false)]⟩]) (.seq (.reg [⟨some 7, none, .op .mv [.tmp 0]⟩, ⟨some 8, none, .op .mv [.tmp 1]⟩, ⟨some 9, none, .op (.bin .geq) [.tmp 7, .tmp 8]⟩, ⟨some 10, none, .op .mv [.tmp 9]⟩, ⟨some 11, some (10, true), .op .mv [.tmp 0]⟩, ⟨some 12, some (10, true), .op .mv [.tmp 2]⟩, ⟨some 13, some (10, true), .op (.bin .leq) [.tmp 11, .tmp 12]⟩, ⟨some 14, none, .op .pick [.tmp 10, .tmp 13, .const (.bool false)]⟩, ⟨some 6, none, .op .mv [.tmp 14]⟩]) (.ret))⟩
theorem c56 : compF Go.Proofs.Tryd.prog Go.Proofs.Tryd.f56 = some ir56 := by kernel_rfl
/-- spinnaker/conf.within -/
def ir65 : FI :=
  ⟨41, [.tmp 6], .seq (.reg [⟨some 6, none, .op .mv [.const (.bool false)]⟩]) (.seq (.seq (.reg [⟨some 12, none, .op .mv [.tmp 0]⟩, ⟨some 13, none, .op (.tas 2 true (.int .i64 0)) [.tmp 12]⟩, ⟨some 11, none, .op .mv [.tmp 13]⟩, ⟨some 14, none, .op (.ext 0) [.tmp 11]⟩, ⟨some 15, none, .op (.ext 1) [.tmp 11]⟩, ⟨some 7, none, .op .mv [.tmp 14]⟩, ⟨some 8, none, .op .mv [.tmp 15]⟩]) (.seq (.reg [⟨some 16, none, .op .mv [.tmp 8]⟩]) (.cond (.tmp 16) (.seq (.reg [⟨some 17, none, .op .mv [.tmp 7]⟩, ⟨some 18, none, .op .mv [.tmp 1]⟩, ⟨some 19, none, .op (.bin .geq) [.tmp 17, .tmp 18]⟩, ⟨some 20, none, .op .mv [.tmp 19]⟩, ⟨some 21, some (20, true), .op .mv [.tmp 7]⟩, ⟨some 22, some (20, true), .op .mv [.tmp 2]⟩, ⟨some 23, some (20, true), .op (.bin .leq) [.tmp 21, .tmp 22]⟩, ⟨some 24, none, .op .pick [.tmp 20, .tmp 23, .const (.bool false)]⟩, ⟨some 6, none, .op .mv [.tmp 24]⟩]) (.ret)) (.skip)))) (.seq (.reg [⟨some 26, none, .op .mv [.tmp 0]⟩, ⟨some 27, none, .op (.tas 3 true (.int .i64 0)) [.tmp 26]⟩, ⟨some 25, none, .op .mv [.tmp 27]⟩, ⟨some 28, none, .op (.ext 0) [.tmp 25]⟩, ⟨some 29, none, .op (.ext 1) [.tmp 25]⟩, ⟨some 9, none, .op .mv [.tmp 28]⟩, ⟨some 10, none, .op .mv [.tmp 29]⟩]) (.seq (.reg [⟨some 30, none, .op .mv [.tmp 10]⟩, ⟨some 31, none, .op .mv [.tmp 30]⟩, ⟨some 32, some (31, true), .op .mv [.tmp 9]⟩, ⟨some 33, some (31, true), .op .mv [.tmp 1]⟩, ⟨some 34, some (31, true), .op (.bin .geq) [.tmp 32, .tmp 33]⟩, ⟨some 35, none, .op .pick [.tmp 31, .tmp 34, .const (.bool false)]⟩, ⟨some 36, none, .op .mv [.tmp 35]⟩, ⟨some 37, some (36, true), .op .mv [.tmp 9]⟩, ⟨some 38, some (36, true), .op .mv [.tmp 2]⟩, ⟨some 39, some (36, true), .op (.bin .leq) [.tmp 37, .tmp 38]⟩, ⟨some 40, none, .op .pick [.tmp 36, .tmp 39, .const (.bool false)]⟩, ⟨some 6, none, .op .mv [.tmp 40]⟩]) (.ret))))⟩
theorem c65 : compF Go.Proofs.Tryd.prog Go.Proofs.Tryd.f65 = some ir65 := by kernel_rfl
end Go.Proofs.YtapbmmlgmcmpnaaDoorW.Am
/- Structs of plain fields, compared. -/
namespace Go.Proofs.YtapbmmlgmcmpnaaDoorW.Am
open Go Go.RowKit
section
variable {P : Program}
theorem ps_bind {α β : Type} (s : Sem α) (f : α → Sem β) : pureSem P (s >>= f) = (pureSem P s).bind fun a => pureSem P (f a) := by
  show pureSem P (Sem.bind s f) = _
  induction s with
  | pure a => rfl
  | program k ih => simp only [Sem.bind, pureSem]; exact ih P
  | _ => rfl
inductive SK
  | int (k : IntKind)
  | bool
  | str
def skOf (P : Program) (t : TypeId) : Option SK := match P.underlying t with
  | some (.int k) => some (.int k)
  | some .bool => some .bool
  | some .string => some .str
  | _ => none
def skOk : SK → Value → Bool
  | .int k, .int k' _ => decide (k = k')
  | .bool, .bool _ => true
  | .str, .string _ => true
  | _, _ => false
def skAll : List SK → List Value → Bool
  | [], [] => true
  | k :: ks, v :: vs => skOk k v && skAll ks vs
  | _, _ => false
def eqV : Value → Value → Bool
  | .int _ a, .int _ b => a == b
  | .bool a, .bool b => a == b
  | .string a, .string b => a == b
  | _, _ => false
def eqL : List Value → List Value → Bool
  | x :: xs, y :: ys => eqV x y && eqL xs ys
  | _, _ => true
theorem eqV_iff {k : SK} {x y : Value} (hx : skOk k x = true) (hy : skOk k y = true) : eqV x y = true ↔ x = y := by
  cases k <;> cases x <;> simp only [skOk, Bool.false_eq_true, decide_eq_true_eq] at hx <;> cases y <;> simp only [skOk, Bool.false_eq_true, decide_eq_true_eq] at hy
  · subst hx; subst hy; simp [eqV]
  · simp [eqV]
  · simp only [eqV, Value.string.injEq]
    rw [beq_toListBytes, beq_iff_eq, ByteArray.toList_eq, ByteArray.toList_eq]
    constructor
    · intro e; exact ByteArray.ext (Array.ext' e)
    · intro e; rw [e]
theorem eqL_iff : ∀ {ks : List SK} {xs ys : List Value}, skAll ks xs = true → skAll ks ys = true → (eqL xs ys = true ↔ xs = ys)
  | [], xs, ys, hx, hy => by cases xs <;> cases ys <;> simp_all [skAll, eqL]
  | k :: ks, xs, ys, hx, hy => by
    cases xs with
    | nil => cases hx
    | cons x xs =>
      cases ys with
      | nil => cases hy
      | cons y ys =>
        simp only [skAll, Bool.and_eq_true] at hx hy
        simp only [eqL, Bool.and_eq_true, List.cons.injEq]
        rw [eqV_iff hx.1 hy.1, eqL_iff hx.2 hy.2]
theorem ps_underlying {t : TypeId} {d : TypeDesc} (h : P.underlying t = some d) : pureSem P (underlying t) = some d := by
  simp [underlying, program, pureSem, h, ps_bind]; rfl
theorem ps_sc (d : Nat) {t : TypeId} {k : SK} {x y : Value} (hk : skOf P t = some k) (hx : skOk k x = true) (hy : skOk k y = true) : pureSem P (Op.equalIn (d + 1) t x y) = some (eqV x y) := by
  unfold skOf at hk
  split at hk <;> (try cases hk) <;> rename_i hu <;> cases x <;> simp only [skOk, Bool.false_eq_true, decide_eq_true_eq] at hx <;> cases y <;> simp only [skOk, Bool.false_eq_true, decide_eq_true_eq] at hy
  · subst hx; subst hy; simp only [Op.equalIn, ps_bind, ps_underlying hu, Option.bind_some]; simp [eqV]; rfl
  · simp only [Op.equalIn, ps_bind, ps_underlying hu, Option.bind_some]; rfl
  · simp only [Op.equalIn, ps_bind, ps_underlying hu, Option.bind_some]; rfl
theorem ps_part {t : TypeId} {k : SK} (hk : skOf P t = some k) {cs : Array Value} {off : Nat} {v : Value} (hv : cs[off]? = some v) : pureSem P (part t cs off) = some v := by
  have ha : pureSem P (isAgg t) = some false := by
    unfold skOf at hk
    unfold isAgg
    split at hk <;> (try cases hk) <;> rename_i hu <;> simp only [ps_bind, ps_underlying hu, Option.bind_some] <;> rfl
  unfold part
  simp only [ps_bind, ha, Option.bind_some, Bool.false_eq_true, if_false, hv]
  rfl
/-- The kinds of a struct's fields, one cell each, in their order. -/
def skFs (P : Program) : Nat → List Field → Option (List SK)
  | _, [] => some []
  | i, f :: fs => if f.offset = i ∧ f.name ≠ "_" then (match skOf P f.type, skFs P (i + 1) fs with
    | some k, some ks => some (k :: ks)
    | _, _ => none) else none
def skTab (P : Program) (t : TypeId) : Option (List SK) := match P.underlying t with
  | some (.struct fs) => if P.stoodInHeld t = false ∧ P.eqGuardType P.depth t = false then skFs P 0 fs.toList else none
  | _ => none
theorem ps_fields (d : Nat) : ∀ (fs : List Field) (i : Nat) (ks : List SK) (px py xs ys : List Value), px.length = i → py.length = i → skFs P i fs = some ks → skAll ks xs = true → skAll ks ys = true →
    pureSem P (Op.eqFields (d + 1) ⟨px ++ xs⟩ ⟨py ++ ys⟩ fs) = some (eqL xs ys) := by
  intro fs
  induction fs with
  | nil =>
    intro i ks px py xs ys _ _ hk hx hy
    cases hk
    cases xs <;> cases ys <;> simp_all [skAll, Op.eqFields, eqL] <;> rfl
  | cons f fs ih =>
    intro i ks px py xs ys hpx hpy hk hx hy
    simp only [skFs] at hk
    split at hk
    case isFalse => cases hk
    case isTrue hf =>
    split at hk
    case h_2 => cases hk
    case h_1 k ks' h1 h2 =>
    cases hk
    cases xs with
    | nil => cases hx
    | cons x xs =>
      cases ys with
      | nil => cases hy
      | cons y ys =>
        simp only [skAll, Bool.and_eq_true] at hx hy
        have gx : (⟨px ++ x :: xs⟩ : Array Value)[f.offset]? = some x := by simp [hf.1, ← hpx]
        have gy : (⟨py ++ y :: ys⟩ : Array Value)[f.offset]? = some y := by simp [hf.1, ← hpy]
        simp only [Op.eqFields, if_pos hf.2, ps_bind, ps_part h1 gx, ps_part h1 gy, Option.bind_some, ps_sc d h1 hx.1 hy.1]
        cases hb : eqV x y
        · simp [eqL, hb]; rfl
        · simp only [Bool.not_true, Bool.false_eq_true, if_false, eqL, hb, Bool.true_and]
          have := ih (i + 1) ks' (px ++ [x]) (py ++ [y]) xs ys (by simp [hpx]) (by simp [hpy]) h2 hx.2 hy.2
          simpa using this
theorem ps_pure {α : Type} (a : α) : pureSem P (pure a : Sem α) = some a := rfl
theorem ps_program : pureSem P program = some P := rfl
theorem ps_ite {α : Type} (c : Prop) [Decidable c] (a b : Sem α) : pureSem P (if c then a else b) = if c then pureSem P a else pureSem P b := by split <;> rfl
theorem ps_struct (d : Nat) {t : TypeId} {fs : Array Field} (xs ys : Array Value) (hu : P.underlying t = some (.struct fs)) (hp : P.stoodInHeld t = false) : pureSem P (Op.equalIn (d + 1) t (.agg xs) (.agg ys)) = pureSem P (Op.eqFields d xs ys fs.toList) := by
  simp only [Op.equalIn, ps_bind, ps_underlying hu, Option.bind_some, ps_program, hp, Bool.false_eq_true, if_false]
  rw [← Array.forIn_toList]
  generalize fs.toList = fs
  induction fs with
  | nil => rfl
  | cons f fs ih =>
    simp only [List.forIn_cons, Op.eqFields, ps_bind, ps_ite]
    split
    · generalize pureSem P (part f.type xs f.offset) = r1
      cases r1 with
      | none => rfl
      | some a =>
        simp only [Option.bind_some]
        generalize pureSem P (part f.type ys f.offset) = r2
        cases r2 with
        | none => rfl
        | some b =>
          simp only [Option.bind_some]
          generalize pureSem P (Op.equalIn d f.type a b) = r3
          cases r3 with
          | none => rfl
          | some r =>
            cases r
            · rfl
            · simp only [Option.bind_some, Bool.not_true, Bool.false_eq_true, if_false, ps_pure]
              exact ih
    · simp only [ps_pure, Option.bind_some]
      exact ih
theorem ps_eq {t : TypeId} {ks : List SK} {xs ys : List Value} (ht : skTab P t = some ks) (hx : skAll ks xs = true) (hy : skAll ks ys = true) (op : BinOp) (ho : op = .eql ∨ op = .neq) (x y : Operand) :
    pureSem P (do eqGuard op t x y (.agg ⟨xs⟩) (.agg ⟨ys⟩); binOp op t (.agg ⟨xs⟩) (.agg ⟨ys⟩)) = some (.bool (if op = .eql then eqL xs ys else !eqL xs ys)) := by
  unfold skTab at ht
  split at ht
  case h_2 => cases ht
  case h_1 fs hu =>
  split at ht
  case isFalse => cases ht
  case isTrue hp =>
  have he : pureSem P (Op.equal t (.agg ⟨xs⟩) (.agg ⟨ys⟩)) = some (eqL xs ys) := by
    show pureSem P (Op.equalIn (9999 + 1) t (.agg ⟨xs⟩) (.agg ⟨ys⟩)) = _
    rw [ps_struct 9999 _ _ hu hp.1]
    have := ps_fields 9998 fs.toList 0 ks [] [] xs ys rfl rfl ht hx hy
    simpa using this
  have hg : pureSem P (eqGuard op t x y (.agg ⟨xs⟩) (.agg ⟨ys⟩)) = some () := by
    rcases ho with rfl | rfl <;> simp [eqGuard, ps_bind, ps_program, hp.2, ps_pure]
  rw [ps_bind, hg, Option.bind_some]
  rcases ho with rfl | rfl
  · simp only [binOp, ps_bind, he, Option.bind_some, if_true]; rfl
  · simp only [binOp, ps_bind, he, Option.bind_some]; rfl
theorem sk_flatN {n : Nat} : ∀ {ks : List SK} {vs : List Value}, skAll ks vs = true → vs.all (flatN (n + 1)) = true
  | [], vs, h => by cases vs <;> simp_all [skAll]
  | k :: ks, vs, h => by
    cases vs with
    | nil => cases h
    | cons v vs =>
      simp only [skAll, Bool.and_eq_true] at h
      simp only [List.all_cons, Bool.and_eq_true]
      refine ⟨?_, sk_flatN h.2⟩
      cases k <;> cases v <;> first | rfl | exact absurd h.1 Bool.false_ne_true
theorem sk_flat {ks : List SK} {vs : List Value} (h : skAll ks vs = true) : flat (.agg ⟨vs⟩) = true := by
  show (⟨vs⟩ : Array Value).toList.all (flatN 7) = true
  exact sk_flatN (n := 6) h
theorem w_eqS {CT : CTy} {env : Env} {h : Hp} {d : Option Nat} {R : Value → Hp → Prop} {t u ty : TypeId} {x y : Operand} {ks : List SK} {xs ys : List Value} (ex : evA env x = some (.agg ⟨xs⟩)) (ey : evA env y = some (.agg ⟨ys⟩)) (ht : skTab P t = some ks) (hx : skAll ks xs = true) (hy : skAll ks ys = true)
    (n : ∀ b : Bool, (b = true ↔ xs = ys) → R (.bool b) h) : WI P CT ⟨d, none, .fl (.binOp .eql t x y u) ty⟩ env h R := by
  refine ⟨?_⟩
  unfold wpIn
  have hs : flatStep P env (.binOp .eql t x y u) ty = some (.bool (eqL xs ys)) := by
    have fx := sk_flat hx
    have fy := sk_flat hy
    unfold flatStep
    have ha : allFlat env (Op.binOp .eql t x y u).operands.toList = true := by
      simp [allFlat, Op.operands, ex, ey, fx, fy]
    rw [if_pos ha]
    have he : pureSem P (execOp (fun x => (evA env x).getD undef) ⟨none, .binOp .eql t x y u, ty, "", #[], none⟩) = some (.value (.bool (eqL xs ys))) := by
      simp only [execOp, ex, ey, Option.getD_some]
      rw [ps_bind, ps_eq ht hx hy .eql (.inl rfl) x y]
      rfl
    rw [he]
    rfl
  simp only [wanted, hs]
  exact n _ (eqL_iff hx hy)
theorem w_neS {CT : CTy} {env : Env} {h : Hp} {d : Option Nat} {R : Value → Hp → Prop} {t u ty : TypeId} {x y : Operand} {ks : List SK} {xs ys : List Value} (ex : evA env x = some (.agg ⟨xs⟩)) (ey : evA env y = some (.agg ⟨ys⟩)) (ht : skTab P t = some ks) (hx : skAll ks xs = true) (hy : skAll ks ys = true)
    (n : ∀ b : Bool, (b = true ↔ xs ≠ ys) → R (.bool b) h) : WI P CT ⟨d, none, .fl (.binOp .neq t x y u) ty⟩ env h R := by
  refine ⟨?_⟩
  unfold wpIn
  have hs : flatStep P env (.binOp .neq t x y u) ty = some (.bool (!eqL xs ys)) := by
    have fx := sk_flat hx
    have fy := sk_flat hy
    unfold flatStep
    have ha : allFlat env (Op.binOp .neq t x y u).operands.toList = true := by
      simp [allFlat, Op.operands, ex, ey, fx, fy]
    rw [if_pos ha]
    have he : pureSem P (execOp (fun x => (evA env x).getD undef) ⟨none, .binOp .neq t x y u, ty, "", #[], none⟩) = some (.value (.bool (!eqL xs ys))) := by
      simp only [execOp, ex, ey, Option.getD_some]
      rw [ps_bind, ps_eq ht hx hy .neq (.inr rfl) x y]
      rfl
    rw [he]
    rfl
  simp only [wanted, hs]
  refine n _ ?_
  rw [Bool.not_eq_true', ← Bool.not_eq_true, eqL_iff hx hy]
end
end Go.Proofs.YtapbmmlgmcmpnaaDoorW.Am
/- The program that is spoken of. -/
namespace Go.Proofs.YtapbmmlgmcmpnaaDoorW.Am
noncomputable abbrev PX := Go.Proofs.Tryd.prog
end Go.Proofs.YtapbmmlgmcmpnaaDoorW.Am
/-
  DERIVED: THE SHELF's CONTRACTS AT THIS DUMP, IN PLAIN WORDS (tools/lay-plain.mjs out of 'TrydShelf.lean', which tools/lay-shelf.mjs wrote): THE SAME DECLARATIONS UNDER THE SAME NAMES: 'import', 'namespace', 'open', 'def', 'theorem' AND NOTHING ELSE: no command of the shelf's: FOR A HAND-IN. Each laying: the table of numbers ('.._ren') and one theorem, a field a fact of the dump's own or the kernel's comparison; each contract: ONE APPLICATION.
-/
namespace Go.Proofs
open Go.Shelf
def Tryd.lays162_ren : Go.Shelf.Ren := ⟨fun | 162 => 39 | 232 => 43 | 227 => 44 | 234 => 46 | 236 => 48 | 228 => 60 | 271 => 63 | 151 => 62 | 120 => 78 | 197 => 61 | 152 => 77 | 260 => 76 | 137 => 93 | 119 => 94 | 224 => 81 | 225 => 80 | 217 => 79 | 266 => 95 | n => n, fun | 9 => 9 | 4 => 4 | 3 => 3 | 5 => 5 | 117 => 83 | 116 => 82 | 0 => 0 | 124 => 86 | 21 => 21 | 105 => 94 | 46 => 22 | 119 => 127 | 139 => 130 | 138 => 129 | n => n, fun | 3 => 2 | 4 => 3 | n => n⟩
theorem Tryd.lays162 : Go.Proofs.Lays.n162 Tryd.prog Tryd.lays162_ren := {
  mixed := by kernel_rfl
  f119 := Tryd.func94.trans (congrArg some (by kernel_rfl))
  f120 := Tryd.func78.trans (congrArg some (by kernel_rfl))
  f137 := Tryd.func93.trans (congrArg some (by kernel_rfl))
  f151 := Tryd.func62.trans (congrArg some (by kernel_rfl))
  f152 := Tryd.func77.trans (congrArg some (by kernel_rfl))
  f162 := Tryd.func39.trans (congrArg some (by kernel_rfl))
  f197 := Tryd.func61.trans (congrArg some (by kernel_rfl))
  f217 := Tryd.func79.trans (congrArg some (by kernel_rfl))
  f224 := Tryd.func81.trans (congrArg some (by kernel_rfl))
  f225 := Tryd.func80.trans (congrArg some (by kernel_rfl))
  f227 := Tryd.func44.trans (congrArg some (by kernel_rfl))
  f228 := Tryd.func60.trans (congrArg some (by kernel_rfl))
  f232 := Tryd.func43.trans (congrArg some (by kernel_rfl))
  f234 := Tryd.func46.trans (congrArg some (by kernel_rfl))
  f236 := Tryd.func48.trans (congrArg some (by kernel_rfl))
  f260 := Tryd.func76.trans (congrArg some (by kernel_rfl))
  f266 := Tryd.func95.trans (congrArg some (by kernel_rfl))
  f271 := Tryd.func63.trans (congrArg some (by kernel_rfl))
  t0 := Tryd.underlying0
  a0 := Tryd.isAgg0
  z0 := Tryd.sizeOf0
  v0 := Tryd.zeroValue0
  t3 := Tryd.underlying3
  a3 := Tryd.isAgg3
  z3 := Tryd.sizeOf3
  v3 := Tryd.zeroValue3
  t4 := Tryd.underlying4
  a4 := Tryd.isAgg4
  z4 := Tryd.sizeOf4
  v4 := Tryd.zeroValue4
  t5 := Tryd.underlying5
  a5 := Tryd.isAgg5
  z5 := Tryd.sizeOf5
  v5 := Tryd.zeroValue5
  t9 := Tryd.underlying9
  a9 := Tryd.isAgg9
  z9 := Tryd.sizeOf9
  v9 := Tryd.zeroValue9
  t21 := Tryd.underlying21
  a21 := Tryd.isAgg21
  z21 := Tryd.sizeOf21
  v21 := Tryd.zeroValue21
  t46 := Tryd.underlying22
  a46 := Tryd.isAgg22
  z46 := Tryd.sizeOf22
  v46 := Tryd.zeroValue22
  t105 := Tryd.underlying94
  a105 := Tryd.isAgg94
  z105 := Tryd.sizeOf94
  v105 := Tryd.zeroValue94
  t116 := Tryd.underlying82
  a116 := Tryd.isAgg82
  z116 := Tryd.sizeOf82
  t117 := Tryd.underlying83
  a117 := Tryd.isAgg83
  z117 := Tryd.sizeOf83
  v117 := Tryd.zeroValue83
  t119 := Tryd.underlying127
  a119 := Tryd.isAgg127
  z119 := Tryd.sizeOf127
  t124 := Tryd.underlying86
  a124 := Tryd.isAgg86
  z124 := Tryd.sizeOf86
  v124 := Tryd.zeroValue86
  t138 := Tryd.underlying129
  a138 := Tryd.isAgg129
  z138 := Tryd.sizeOf129
  v138 := Tryd.zeroValue129
  t139 := Tryd.underlying130
  a139 := Tryd.isAgg130
  z139 := Tryd.sizeOf130
  v139 := Tryd.zeroValue130
  g3 := by kernel_rfl
  g4 := by kernel_rfl }
open Go.RowKit in
/-- strings.TrimRight: "TrimRight returns a slice of the string s, with all trailing Unicode code points contained in cutset removed.": AT A cutset OF ONE ASCII BYTE. The world is as it was. (LAID: no walk: one application.) -/
theorem Tryd.strings_TrimRight_one (s : ByteArray) (c : UInt8) (hc : c.toNat < 128) (w : World) (hs : s.size ≤ 9223372036854775807) :
    Calls Tryd.prog 39 #[.string s, .string ⟨#[c]⟩] w fun e w' => e = .returned (.string ⟨(Lib.trimRightB s.data.toList c).toArray⟩) ∧ w' = w := Any.strings_TrimRight_one Tryd.lays162 s c hc w hs
def Tryd.lays160_ren : Go.Shelf.Ren := ⟨fun | 160 => 23 | 232 => 43 | 231 => 42 | 227 => 44 | 234 => 46 | 233 => 45 | 236 => 48 | 235 => 47 | 228 => 60 | 271 => 63 | 151 => 62 | 197 => 61 | 120 => 78 | 152 => 77 | 260 => 76 | 137 => 93 | 119 => 94 | 224 => 81 | 225 => 80 | 217 => 79 | 266 => 95 | n => n, fun | 9 => 9 | 4 => 4 | 3 => 3 | 5 => 5 | 117 => 83 | 116 => 82 | 0 => 0 | 124 => 86 | 21 => 21 | 105 => 94 | 46 => 22 | 119 => 127 | 139 => 130 | 138 => 129 | n => n, fun | 3 => 2 | 4 => 3 | n => n⟩
theorem Tryd.lays160 : Go.Proofs.Lays.n160 Tryd.prog Tryd.lays160_ren := {
  mixed := by kernel_rfl
  f119 := Tryd.func94.trans (congrArg some (by kernel_rfl))
  f120 := Tryd.func78.trans (congrArg some (by kernel_rfl))
  f137 := Tryd.func93.trans (congrArg some (by kernel_rfl))
  f151 := Tryd.func62.trans (congrArg some (by kernel_rfl))
  f152 := Tryd.func77.trans (congrArg some (by kernel_rfl))
  f160 := Tryd.func23.trans (congrArg some (by kernel_rfl))
  f197 := Tryd.func61.trans (congrArg some (by kernel_rfl))
  f217 := Tryd.func79.trans (congrArg some (by kernel_rfl))
  f224 := Tryd.func81.trans (congrArg some (by kernel_rfl))
  f225 := Tryd.func80.trans (congrArg some (by kernel_rfl))
  f227 := Tryd.func44.trans (congrArg some (by kernel_rfl))
  f228 := Tryd.func60.trans (congrArg some (by kernel_rfl))
  f231 := Tryd.func42.trans (congrArg some (by kernel_rfl))
  f232 := Tryd.func43.trans (congrArg some (by kernel_rfl))
  f233 := Tryd.func45.trans (congrArg some (by kernel_rfl))
  f234 := Tryd.func46.trans (congrArg some (by kernel_rfl))
  f235 := Tryd.func47.trans (congrArg some (by kernel_rfl))
  f236 := Tryd.func48.trans (congrArg some (by kernel_rfl))
  f260 := Tryd.func76.trans (congrArg some (by kernel_rfl))
  f266 := Tryd.func95.trans (congrArg some (by kernel_rfl))
  f271 := Tryd.func63.trans (congrArg some (by kernel_rfl))
  t0 := Tryd.underlying0
  a0 := Tryd.isAgg0
  z0 := Tryd.sizeOf0
  v0 := Tryd.zeroValue0
  t3 := Tryd.underlying3
  a3 := Tryd.isAgg3
  z3 := Tryd.sizeOf3
  v3 := Tryd.zeroValue3
  t4 := Tryd.underlying4
  a4 := Tryd.isAgg4
  z4 := Tryd.sizeOf4
  v4 := Tryd.zeroValue4
  t5 := Tryd.underlying5
  a5 := Tryd.isAgg5
  z5 := Tryd.sizeOf5
  v5 := Tryd.zeroValue5
  t9 := Tryd.underlying9
  a9 := Tryd.isAgg9
  z9 := Tryd.sizeOf9
  v9 := Tryd.zeroValue9
  t21 := Tryd.underlying21
  a21 := Tryd.isAgg21
  z21 := Tryd.sizeOf21
  v21 := Tryd.zeroValue21
  t46 := Tryd.underlying22
  a46 := Tryd.isAgg22
  z46 := Tryd.sizeOf22
  v46 := Tryd.zeroValue22
  t105 := Tryd.underlying94
  a105 := Tryd.isAgg94
  z105 := Tryd.sizeOf94
  v105 := Tryd.zeroValue94
  t116 := Tryd.underlying82
  a116 := Tryd.isAgg82
  z116 := Tryd.sizeOf82
  t117 := Tryd.underlying83
  a117 := Tryd.isAgg83
  z117 := Tryd.sizeOf83
  v117 := Tryd.zeroValue83
  t119 := Tryd.underlying127
  a119 := Tryd.isAgg127
  z119 := Tryd.sizeOf127
  t124 := Tryd.underlying86
  a124 := Tryd.isAgg86
  z124 := Tryd.sizeOf86
  v124 := Tryd.zeroValue86
  t138 := Tryd.underlying129
  a138 := Tryd.isAgg129
  z138 := Tryd.sizeOf129
  v138 := Tryd.zeroValue129
  t139 := Tryd.underlying130
  a139 := Tryd.isAgg130
  z139 := Tryd.sizeOf130
  v139 := Tryd.zeroValue130
  g3 := by kernel_rfl
  g4 := by kernel_rfl }
open Go.RowKit in
/-- strings.Trim: "Trim returns a slice of the string s with all leading and trailing Unicode code points contained in cutset removed.": AT A cutset OF ONE ASCII BYTE. THE WORLD BEHIND IT: as it was, or (where s is not empty) with ONE DRAW MORE off the tape: the statement 'return trimLeftByte(trimRightByte(s, c), c)' draws its order of evaluation. (LAID: no walk: one application.) -/
theorem Tryd.strings_Trim_one (s : ByteArray) (c : UInt8) (hc : c.toNat < 128) (w : World) (hs : s.size ≤ 9223372036854775807) :
    Calls Tryd.prog 23 #[.string s, .string ⟨#[c]⟩] w fun e w' => e = .returned (.string ⟨(Lib.trimB s.data.toList c).toArray⟩) ∧ (w' = w ∨ w' = w.drew) := Any.strings_Trim_one Tryd.lays160 s c hc w hs
def Tryd.lays103_ren : Go.Shelf.Ren := ⟨fun | 103 => 28 | 210 => 51 | 206 => 66 | n => n, fun | 9 => 9 | 4 => 4 | 24 => 53 | 3 => 3 | n => n, fun | n => n⟩
theorem Tryd.lays103 : Go.Proofs.Lays.n103 Tryd.prog Tryd.lays103_ren := {
  mixed := by kernel_rfl
  f103 := Tryd.func28.trans (congrArg some (by kernel_rfl))
  f206 := Tryd.func66.trans (congrArg some (by kernel_rfl))
  f210 := Tryd.func51.trans (congrArg some (by kernel_rfl))
  t3 := Tryd.underlying3
  a3 := Tryd.isAgg3
  z3 := Tryd.sizeOf3
  v3 := Tryd.zeroValue3
  t4 := Tryd.underlying4
  a4 := Tryd.isAgg4
  z4 := Tryd.sizeOf4
  v4 := Tryd.zeroValue4
  t9 := Tryd.underlying9
  a9 := Tryd.isAgg9
  z9 := Tryd.sizeOf9
  v9 := Tryd.zeroValue9
  t24 := Tryd.underlying53
  a24 := Tryd.isAgg53
  z24 := Tryd.sizeOf53
  v24 := Tryd.zeroValue53 }
open Go.RowKit in
/-- strings.CutPrefix: "CutPrefix returns s without the provided leading prefix string and reports whether it found the prefix. If s doesn't start with prefix, CutPrefix returns s, false. If prefix is the empty string, CutPrefix returns s, true.": IT RETURNS '(Lib.trimPrefix s p, Lib.hasPrefix s p)'; the world is as it was. (LAID: no walk: one application.) -/
theorem Tryd.strings_CutPrefix (s p : ByteArray) (w : World) :
    Calls Tryd.prog 28 #[.string s, .string p] w fun e w' => e = .returned (.tuple #[.string ⟨(Lib.trimPrefix s.data.toList p.data.toList).toArray⟩, .bool (Lib.hasPrefix s.data.toList p.data.toList)]) ∧ w' = w := Any.strings_CutPrefix Tryd.lays103 s p w
def Tryd.laysM171_ren : Go.Shelf.Ren := ⟨fun | 171 => 35 | 243 => 54 | 246 => 55 | 283 => 70 | 284 => 71 | 285 => 72 | 286 => 73 | 129 => 89 | 317 => 88 | 318 => 90 | 319 => 91 | 320 => 92 | 337 => 101 | 338 => 102 | n => n, fun | 3 => 3 | 9 => 9 | 2 => 2 | 4 => 4 | 171 => 105 | 0 => 0 | 53 => 106 | 37 => 64 | 5 => 5 | 173 => 109 | 212 => 123 | 51 => 124 | 20 => 20 | 213 => 125 | 46 => 22 | 232 => 143 | 233 => 144 | n => n, fun | 17 => 1 | 18 => 6 | 19 => 7 | n => n⟩
theorem Tryd.laysM171 : Go.Proofs.LaysM.n171 Tryd.prog Tryd.laysM171_ren := {
  mixed := by kernel_rfl
  f129 := Tryd.func89.trans (congrArg some (by kernel_rfl))
  f171 := Tryd.func35.trans (congrArg some (by kernel_rfl))
  f243 := Tryd.func54.trans (congrArg some (by kernel_rfl))
  f246 := Tryd.func55.trans (congrArg some (by kernel_rfl))
  f283 := Tryd.func70.trans (congrArg some (by kernel_rfl))
  f284 := Tryd.func71.trans (congrArg some (by kernel_rfl))
  f285 := Tryd.func72.trans (congrArg some (by kernel_rfl))
  f286 := Tryd.func73.trans (congrArg some (by kernel_rfl))
  f317 := Tryd.func88.trans (congrArg some (by kernel_rfl))
  f318 := Tryd.func90.trans (congrArg some (by kernel_rfl))
  f319 := Tryd.func91.trans (congrArg some (by kernel_rfl))
  f320 := Tryd.func92.trans (congrArg some (by kernel_rfl))
  f337 := Tryd.func101.trans (congrArg some (by kernel_rfl))
  f338 := Tryd.func102.trans (congrArg some (by kernel_rfl))
  t0 := Tryd.underlying0
  a0 := Tryd.isAgg0
  z0 := Tryd.sizeOf0
  v0 := Tryd.zeroValue0
  t2 := Tryd.underlying2
  a2 := Tryd.isAgg2
  z2 := Tryd.sizeOf2
  v2 := Tryd.zeroValue2
  t3 := Tryd.underlying3
  a3 := Tryd.isAgg3
  z3 := Tryd.sizeOf3
  v3 := Tryd.zeroValue3
  t4 := Tryd.underlying4
  a4 := Tryd.isAgg4
  z4 := Tryd.sizeOf4
  v4 := Tryd.zeroValue4
  t5 := Tryd.underlying5
  a5 := Tryd.isAgg5
  z5 := Tryd.sizeOf5
  v5 := Tryd.zeroValue5
  t9 := Tryd.underlying9
  a9 := Tryd.isAgg9
  z9 := Tryd.sizeOf9
  v9 := Tryd.zeroValue9
  t20 := Tryd.underlying20
  a20 := Tryd.isAgg20
  z20 := Tryd.sizeOf20
  v20 := Tryd.zeroValue20
  t37 := Tryd.underlying64
  a37 := Tryd.isAgg64
  z37 := Tryd.sizeOf64
  v37 := Tryd.zeroValue64
  t46 := Tryd.underlying22
  a46 := Tryd.isAgg22
  z46 := Tryd.sizeOf22
  v46 := Tryd.zeroValue22
  t51 := Tryd.underlying124
  a51 := Tryd.isAgg124
  z51 := Tryd.sizeOf124
  v51 := Tryd.zeroValue124
  t53 := Tryd.underlying106
  a53 := Tryd.isAgg106
  z53 := Tryd.sizeOf106
  v53 := Tryd.zeroValue106
  t171 := Tryd.underlying105
  a171 := Tryd.isAgg105
  z171 := Tryd.sizeOf105
  v171 := Tryd.zeroValue105
  t173 := Tryd.underlying109
  a173 := Tryd.isAgg109
  z173 := Tryd.sizeOf109
  v173 := Tryd.zeroValue109
  t212 := Tryd.underlying123
  a212 := Tryd.isAgg123
  z212 := Tryd.sizeOf123
  v212 := Tryd.zeroValue123
  t213 := Tryd.underlying125
  a213 := Tryd.isAgg125
  z213 := Tryd.sizeOf125
  t232 := Tryd.underlying143
  a232 := Tryd.isAgg143
  z232 := Tryd.sizeOf143
  v232 := Tryd.zeroValue143
  t233 := Tryd.underlying144
  a233 := Tryd.isAgg144
  z233 := Tryd.sizeOf144
  v233 := Tryd.zeroValue144
  g17 := by kernel_rfl
  g18 := by kernel_rfl
  g19 := by kernel_rfl
  i0 := by kernel_rfl
  i2 := by kernel_rfl
  i3 := by kernel_rfl
  i4 := by kernel_rfl
  i5 := by kernel_rfl
  i9 := by kernel_rfl
  i20 := by kernel_rfl
  i37 := by kernel_rfl
  i46 := by kernel_rfl
  i51 := by kernel_rfl
  i53 := by kernel_rfl
  i171 := by kernel_rfl
  i173 := by kernel_rfl
  i212 := by kernel_rfl
  i232 := by kernel_rfl
  i233 := by kernel_rfl
  m17 := by kernel_rfl
  m18 := by kernel_rfl
  m19 := by kernel_rfl }
open Go.RowKit Go.Sort Go.Lib in
/-- strconv.Itoa: "Itoa is equivalent to FormatInt(int64(i), 10).": i's DECIMAL NUMERAL ('Lib.itoa': a '-' where i is negative, then the digits), FOR EVERY int. The world behind the call: the world before it, new blocks behind the heap (the library's 'var a [24]byte'), draws. (LAID: no walk: one application.) -/
theorem Tryd.strconv_Itoa (n : Int) (h0 : -9223372036854775808 ≤ n) (h1 : n ≤ 9223372036854775807) (w : World) (htab : Lib.TabIs Tryd.prog w "internal/strconv.uint64pow10" .u64 Lib.pow10Tab) :
    Calls Tryd.prog 35 #[.int .i64 n] w fun e w' => e = .returned (.string ⟨(Lib.itoa n).toArray⟩) ∧ ∃ k os, w' = grow (w.drewN k) os := Any.strconv_Itoa Tryd.laysM171 n h0 h1 w htab
def Tryd.laysM173_ren : Go.Shelf.Ren := ⟨fun | 173 => 38 | 246 => 55 | 283 => 70 | 284 => 71 | 285 => 72 | 286 => 73 | 129 => 89 | 317 => 88 | 318 => 90 | 319 => 91 | 320 => 92 | 337 => 101 | 338 => 102 | n => n, fun | 2 => 2 | 3 => 3 | 9 => 9 | 4 => 4 | 171 => 105 | 0 => 0 | 53 => 106 | 37 => 64 | 5 => 5 | 173 => 109 | 212 => 123 | 51 => 124 | 20 => 20 | 213 => 125 | 46 => 22 | 232 => 143 | 233 => 144 | n => n, fun | 17 => 1 | 18 => 6 | 19 => 7 | n => n⟩
theorem Tryd.laysM173 : Go.Proofs.LaysM.n173 Tryd.prog Tryd.laysM173_ren := {
  mixed := by kernel_rfl
  f129 := Tryd.func89.trans (congrArg some (by kernel_rfl))
  f173 := Tryd.func38.trans (congrArg some (by kernel_rfl))
  f246 := Tryd.func55.trans (congrArg some (by kernel_rfl))
  f283 := Tryd.func70.trans (congrArg some (by kernel_rfl))
  f284 := Tryd.func71.trans (congrArg some (by kernel_rfl))
  f285 := Tryd.func72.trans (congrArg some (by kernel_rfl))
  f286 := Tryd.func73.trans (congrArg some (by kernel_rfl))
  f317 := Tryd.func88.trans (congrArg some (by kernel_rfl))
  f318 := Tryd.func90.trans (congrArg some (by kernel_rfl))
  f319 := Tryd.func91.trans (congrArg some (by kernel_rfl))
  f320 := Tryd.func92.trans (congrArg some (by kernel_rfl))
  f337 := Tryd.func101.trans (congrArg some (by kernel_rfl))
  f338 := Tryd.func102.trans (congrArg some (by kernel_rfl))
  t0 := Tryd.underlying0
  a0 := Tryd.isAgg0
  z0 := Tryd.sizeOf0
  v0 := Tryd.zeroValue0
  t2 := Tryd.underlying2
  a2 := Tryd.isAgg2
  z2 := Tryd.sizeOf2
  v2 := Tryd.zeroValue2
  t3 := Tryd.underlying3
  a3 := Tryd.isAgg3
  z3 := Tryd.sizeOf3
  v3 := Tryd.zeroValue3
  t4 := Tryd.underlying4
  a4 := Tryd.isAgg4
  z4 := Tryd.sizeOf4
  v4 := Tryd.zeroValue4
  t5 := Tryd.underlying5
  a5 := Tryd.isAgg5
  z5 := Tryd.sizeOf5
  v5 := Tryd.zeroValue5
  t9 := Tryd.underlying9
  a9 := Tryd.isAgg9
  z9 := Tryd.sizeOf9
  v9 := Tryd.zeroValue9
  t20 := Tryd.underlying20
  a20 := Tryd.isAgg20
  z20 := Tryd.sizeOf20
  v20 := Tryd.zeroValue20
  t37 := Tryd.underlying64
  a37 := Tryd.isAgg64
  z37 := Tryd.sizeOf64
  v37 := Tryd.zeroValue64
  t46 := Tryd.underlying22
  a46 := Tryd.isAgg22
  z46 := Tryd.sizeOf22
  v46 := Tryd.zeroValue22
  t51 := Tryd.underlying124
  a51 := Tryd.isAgg124
  z51 := Tryd.sizeOf124
  v51 := Tryd.zeroValue124
  t53 := Tryd.underlying106
  a53 := Tryd.isAgg106
  z53 := Tryd.sizeOf106
  v53 := Tryd.zeroValue106
  t171 := Tryd.underlying105
  a171 := Tryd.isAgg105
  z171 := Tryd.sizeOf105
  v171 := Tryd.zeroValue105
  t173 := Tryd.underlying109
  a173 := Tryd.isAgg109
  z173 := Tryd.sizeOf109
  v173 := Tryd.zeroValue109
  t212 := Tryd.underlying123
  a212 := Tryd.isAgg123
  z212 := Tryd.sizeOf123
  v212 := Tryd.zeroValue123
  t213 := Tryd.underlying125
  a213 := Tryd.isAgg125
  z213 := Tryd.sizeOf125
  t232 := Tryd.underlying143
  a232 := Tryd.isAgg143
  z232 := Tryd.sizeOf143
  v232 := Tryd.zeroValue143
  t233 := Tryd.underlying144
  a233 := Tryd.isAgg144
  z233 := Tryd.sizeOf144
  v233 := Tryd.zeroValue144
  g17 := by kernel_rfl
  g18 := by kernel_rfl
  g19 := by kernel_rfl
  i0 := by kernel_rfl
  i2 := by kernel_rfl
  i3 := by kernel_rfl
  i4 := by kernel_rfl
  i5 := by kernel_rfl
  i9 := by kernel_rfl
  i20 := by kernel_rfl
  i37 := by kernel_rfl
  i46 := by kernel_rfl
  i51 := by kernel_rfl
  i53 := by kernel_rfl
  i171 := by kernel_rfl
  i173 := by kernel_rfl
  i212 := by kernel_rfl
  i232 := by kernel_rfl
  i233 := by kernel_rfl
  m17 := by kernel_rfl
  m18 := by kernel_rfl
  m19 := by kernel_rfl }
open Go.RowKit Go.Sort Go.Lib in
/-- strconv.FormatInt: "FormatInt returns the string representation of i in the given base": AT BASE 10: i's decimal numeral, for every int64. (LAID: no walk: one application.) -/
theorem Tryd.strconv_FormatInt_10 (n : Int) (h0 : -9223372036854775808 ≤ n) (h1 : n ≤ 9223372036854775807) (w : World) (htab : Lib.TabIs Tryd.prog w "internal/strconv.uint64pow10" .u64 Lib.pow10Tab) :
    Calls Tryd.prog 38 #[.int .i64 n, .int .i64 10] w fun e w' => e = .returned (.string ⟨(Lib.itoa n).toArray⟩) ∧ ∃ k os, w' = grow (w.drewN k) os := Any.strconv_FormatInt_10 Tryd.laysM173 n h0 h1 w htab
def Tryd.laysC174_ren : Go.Shelf.Ren := ⟨fun | 174 => 52 | 247 => 67 | 245 => 68 | 287 => 83 | 279 => 84 | 280 => 85 | 281 => 86 | 282 => 87 | 321 => 97 | 322 => 98 | 316 => 99 | 171 => 35 | 205 => 100 | 243 => 54 | 246 => 55 | 283 => 70 | 284 => 71 | 285 => 72 | 286 => 73 | 129 => 89 | 317 => 88 | 318 => 90 | 319 => 91 | 320 => 92 | 337 => 101 | 338 => 102 | n => n, fun | 9 => 9 | 3 => 3 | 2 => 2 | 75 => 68 | 85 => 87 | 4 => 4 | 167 => 116 | 5 => 5 | 53 => 106 | 175 => 117 | 46 => 22 | 168 => 119 | 37 => 64 | 0 => 0 | 210 => 137 | 21 => 21 | 127 => 89 | 145 => 142 | 143 => 140 | 171 => 105 | 173 => 109 | 212 => 123 | 51 => 124 | 20 => 20 | 213 => 125 | 232 => 143 | 233 => 144 | 80 => 75 | n => n, fun | 15 => 4 | 16 => 5 | 17 => 1 | 18 => 6 | 19 => 7 | n => n⟩
theorem Tryd.laysC174 : Go.Proofs.LaysC.n174 Tryd.prog Tryd.laysC174_ren := {
  mixed := by kernel_rfl
  f129 := Tryd.func89.trans (congrArg some (by kernel_rfl))
  f171 := Tryd.func35.trans (congrArg some (by kernel_rfl))
  f174 := Tryd.func52.trans (congrArg some (by kernel_rfl))
  f205 := Tryd.func100.trans (congrArg some (by kernel_rfl))
  f243 := Tryd.func54.trans (congrArg some (by kernel_rfl))
  f245 := Tryd.func68.trans (congrArg some (by kernel_rfl))
  f246 := Tryd.func55.trans (congrArg some (by kernel_rfl))
  f247 := Tryd.func67.trans (congrArg some (by kernel_rfl))
  f279 := Tryd.func84.trans (congrArg some (by kernel_rfl))
  f280 := Tryd.func85.trans (congrArg some (by kernel_rfl))
  f281 := Tryd.func86.trans (congrArg some (by kernel_rfl))
  f282 := Tryd.func87.trans (congrArg some (by kernel_rfl))
  f283 := Tryd.func70.trans (congrArg some (by kernel_rfl))
  f284 := Tryd.func71.trans (congrArg some (by kernel_rfl))
  f285 := Tryd.func72.trans (congrArg some (by kernel_rfl))
  f286 := Tryd.func73.trans (congrArg some (by kernel_rfl))
  f287 := Tryd.func83.trans (congrArg some (by kernel_rfl))
  f316 := Tryd.func99.trans (congrArg some (by kernel_rfl))
  f317 := Tryd.func88.trans (congrArg some (by kernel_rfl))
  f318 := Tryd.func90.trans (congrArg some (by kernel_rfl))
  f319 := Tryd.func91.trans (congrArg some (by kernel_rfl))
  f320 := Tryd.func92.trans (congrArg some (by kernel_rfl))
  f321 := Tryd.func97.trans (congrArg some (by kernel_rfl))
  f322 := Tryd.func98.trans (congrArg some (by kernel_rfl))
  f337 := Tryd.func101.trans (congrArg some (by kernel_rfl))
  f338 := Tryd.func102.trans (congrArg some (by kernel_rfl))
  t0 := Tryd.underlying0
  a0 := Tryd.isAgg0
  z0 := Tryd.sizeOf0
  v0 := Tryd.zeroValue0
  t2 := Tryd.underlying2
  a2 := Tryd.isAgg2
  z2 := Tryd.sizeOf2
  v2 := Tryd.zeroValue2
  t3 := Tryd.underlying3
  a3 := Tryd.isAgg3
  z3 := Tryd.sizeOf3
  v3 := Tryd.zeroValue3
  t4 := Tryd.underlying4
  a4 := Tryd.isAgg4
  z4 := Tryd.sizeOf4
  v4 := Tryd.zeroValue4
  t5 := Tryd.underlying5
  a5 := Tryd.isAgg5
  z5 := Tryd.sizeOf5
  v5 := Tryd.zeroValue5
  t9 := Tryd.underlying9
  a9 := Tryd.isAgg9
  z9 := Tryd.sizeOf9
  v9 := Tryd.zeroValue9
  t20 := Tryd.underlying20
  a20 := Tryd.isAgg20
  z20 := Tryd.sizeOf20
  v20 := Tryd.zeroValue20
  t21 := Tryd.underlying21
  a21 := Tryd.isAgg21
  z21 := Tryd.sizeOf21
  v21 := Tryd.zeroValue21
  t37 := Tryd.underlying64
  a37 := Tryd.isAgg64
  z37 := Tryd.sizeOf64
  v37 := Tryd.zeroValue64
  t46 := Tryd.underlying22
  a46 := Tryd.isAgg22
  z46 := Tryd.sizeOf22
  v46 := Tryd.zeroValue22
  t51 := Tryd.underlying124
  a51 := Tryd.isAgg124
  z51 := Tryd.sizeOf124
  v51 := Tryd.zeroValue124
  t53 := Tryd.underlying106
  a53 := Tryd.isAgg106
  z53 := Tryd.sizeOf106
  v53 := Tryd.zeroValue106
  t75 := Tryd.underlying68
  a75 := Tryd.isAgg68
  z75 := Tryd.sizeOf68
  v75 := Tryd.zeroValue68
  t85 := Tryd.underlying87
  a85 := Tryd.isAgg87
  z85 := Tryd.sizeOf87
  v85 := Tryd.zeroValue87
  t127 := Tryd.underlying89
  a127 := Tryd.isAgg89
  z127 := Tryd.sizeOf89
  v127 := Tryd.zeroValue89
  t143 := Tryd.underlying140
  a143 := Tryd.isAgg140
  z143 := Tryd.sizeOf140
  v143 := Tryd.zeroValue140
  t145 := Tryd.underlying142
  a145 := Tryd.isAgg142
  z145 := Tryd.sizeOf142
  v145 := Tryd.zeroValue142
  t167 := Tryd.underlying116
  a167 := Tryd.isAgg116
  z167 := Tryd.sizeOf116
  v167 := Tryd.zeroValue116
  t168 := Tryd.underlying119
  a168 := Tryd.isAgg119
  z168 := Tryd.sizeOf119
  v168 := Tryd.zeroValue119
  t171 := Tryd.underlying105
  a171 := Tryd.isAgg105
  z171 := Tryd.sizeOf105
  v171 := Tryd.zeroValue105
  t173 := Tryd.underlying109
  a173 := Tryd.isAgg109
  z173 := Tryd.sizeOf109
  v173 := Tryd.zeroValue109
  t175 := Tryd.underlying117
  a175 := Tryd.isAgg117
  z175 := Tryd.sizeOf117
  v175 := Tryd.zeroValue117
  t210 := Tryd.underlying137
  a210 := Tryd.isAgg137
  z210 := Tryd.sizeOf137
  v210 := Tryd.zeroValue137
  t212 := Tryd.underlying123
  a212 := Tryd.isAgg123
  z212 := Tryd.sizeOf123
  v212 := Tryd.zeroValue123
  t213 := Tryd.underlying125
  a213 := Tryd.isAgg125
  z213 := Tryd.sizeOf125
  t232 := Tryd.underlying143
  a232 := Tryd.isAgg143
  z232 := Tryd.sizeOf143
  v232 := Tryd.zeroValue143
  t233 := Tryd.underlying144
  a233 := Tryd.isAgg144
  z233 := Tryd.sizeOf144
  v233 := Tryd.zeroValue144
  g15 := by kernel_rfl
  g16 := by kernel_rfl
  g17 := by kernel_rfl
  g18 := by kernel_rfl
  g19 := by kernel_rfl
  t80 := Tryd.underlying75
  a80 := Tryd.isAgg75
  z80 := Tryd.sizeOf75
  v80 := Tryd.zeroValue75
  i0 := by kernel_rfl
  i2 := by kernel_rfl
  i3 := by kernel_rfl
  i4 := by kernel_rfl
  i5 := by kernel_rfl
  i9 := by kernel_rfl
  i20 := by kernel_rfl
  i21 := by kernel_rfl
  i37 := by kernel_rfl
  i46 := by kernel_rfl
  i51 := by kernel_rfl
  i53 := by kernel_rfl
  i75 := by kernel_rfl
  i80 := by kernel_rfl
  i85 := by kernel_rfl
  i127 := by kernel_rfl
  i143 := by kernel_rfl
  i145 := by kernel_rfl
  i167 := by kernel_rfl
  i168 := by kernel_rfl
  i171 := by kernel_rfl
  i173 := by kernel_rfl
  i175 := by kernel_rfl
  i210 := by kernel_rfl
  i212 := by kernel_rfl
  i232 := by kernel_rfl
  i233 := by kernel_rfl
  m15 := by kernel_rfl
  m16 := by kernel_rfl
  m17 := by kernel_rfl
  m18 := by kernel_rfl
  m19 := by kernel_rfl
  c0 := by kernel_rfl
  c2 := by kernel_rfl
  c3 := by kernel_rfl
  c4 := by kernel_rfl
  c5 := by kernel_rfl
  c9 := by kernel_rfl
  c20 := by kernel_rfl
  c21 := by kernel_rfl
  c37 := by kernel_rfl
  c46 := by kernel_rfl
  c51 := by kernel_rfl
  c53 := by kernel_rfl
  c75 := by kernel_rfl
  c80 := by kernel_rfl
  c85 := by kernel_rfl
  c127 := by kernel_rfl
  c143 := by kernel_rfl
  c145 := by kernel_rfl
  c167 := by kernel_rfl
  c168 := by kernel_rfl
  c171 := by kernel_rfl
  c173 := by kernel_rfl
  c175 := by kernel_rfl
  c210 := by kernel_rfl
  c212 := by kernel_rfl
  c213 := by kernel_rfl
  c232 := by kernel_rfl
  c233 := by kernel_rfl }
open Go.RowKit in
/-- strconv.ParseInt(s, 10, 64), AT EVERY STRING THAT SPELLS AN int64 ('Lib.parseIntB 64 s.data.toList = .ok v'): v, AND NO ERROR. (LAID: no walk: one application.) -/
theorem Tryd.strconv_ParseInt_10_at64_ok (s : ByteArray) (hmax : s.size ≤ 9223372036854775806) (v : Int) (h : Lib.parseIntB 64 s.data.toList = .ok v) (w : World) :
    Calls Tryd.prog 52 #[.string s, .int .i64 10, .int .i64 64] w fun e w' => e = .returned (.tuple #[.int .i64 v, .nilIface]) ∧ (w' = w ∨ ∃ t, w' = Lib.bytesWorld w 5 t) := Any.strconv_ParseInt_10_at64_ok Tryd.laysC174 s hmax v h w
def Tryd.lays145_ren : Go.Shelf.Ren := ⟨fun | 145 => 24 | 220 => 49 | 219 => 64 | 217 => 79 | 225 => 80 | 224 => 81 | 267 => 82 | 266 => 95 | 314 => 96 | n => n, fun | 9 => 9 | 4 => 4 | 59 => 45 | 3 => 3 | 5 => 5 | 46 => 22 | 146 => 132 | 51 => 124 | n => n, fun | 1 => 0 | n => n⟩
theorem Tryd.lays145 : Go.Proofs.Lays.n145 Tryd.prog Tryd.lays145_ren := {
  mixed := by kernel_rfl
  f145 := Tryd.func24.trans (congrArg some (by kernel_rfl))
  f217 := Tryd.func79.trans (congrArg some (by kernel_rfl))
  f219 := Tryd.func64.trans (congrArg some (by kernel_rfl))
  f220 := Tryd.func49.trans (congrArg some (by kernel_rfl))
  f224 := Tryd.func81.trans (congrArg some (by kernel_rfl))
  f225 := Tryd.func80.trans (congrArg some (by kernel_rfl))
  f266 := Tryd.func95.trans (congrArg some (by kernel_rfl))
  f267 := Tryd.func82.trans (congrArg some (by kernel_rfl))
  f314 := Tryd.func96.trans (congrArg some (by kernel_rfl))
  t3 := Tryd.underlying3
  a3 := Tryd.isAgg3
  z3 := Tryd.sizeOf3
  v3 := Tryd.zeroValue3
  t4 := Tryd.underlying4
  a4 := Tryd.isAgg4
  z4 := Tryd.sizeOf4
  v4 := Tryd.zeroValue4
  t5 := Tryd.underlying5
  a5 := Tryd.isAgg5
  z5 := Tryd.sizeOf5
  v5 := Tryd.zeroValue5
  t9 := Tryd.underlying9
  a9 := Tryd.isAgg9
  z9 := Tryd.sizeOf9
  v9 := Tryd.zeroValue9
  t46 := Tryd.underlying22
  a46 := Tryd.isAgg22
  z46 := Tryd.sizeOf22
  v46 := Tryd.zeroValue22
  t51 := Tryd.underlying124
  a51 := Tryd.isAgg124
  z51 := Tryd.sizeOf124
  v51 := Tryd.zeroValue124
  t59 := Tryd.underlying45
  a59 := Tryd.isAgg45
  z59 := Tryd.sizeOf45
  v59 := Tryd.zeroValue45
  t146 := Tryd.underlying132
  a146 := Tryd.isAgg132
  z146 := Tryd.sizeOf132
  v146 := Tryd.zeroValue132
  g1 := by kernel_rfl }
open Go.RowKit Go.Lib in
/-- strings.Cut: "Cut slices s around the first instance of sep, returning the text before and after sep. The found result reports whether sep appears in s. If sep does not appear in s, cut returns s, "", false.": IT RETURNS 'Lib.cut s sep'; the world is as it was but for the count of draws. (LAID: no walk: one application.) -/
theorem Tryd.strings_Cut (s sep : ByteArray) (m : Int) (w : World) (hs : s.size < 4294967281) (hm : w.cell? ⟨0, 0, none⟩ = some (.int .i64 m)) :
    Calls Tryd.prog 24 #[.string s, .string sep] w fun e w' => e = .returned (.tuple #[.string ⟨(Lib.cut s.data.toList sep.data.toList).1.toArray⟩, .string ⟨(Lib.cut s.data.toList sep.data.toList).2.1.toArray⟩, .bool (Lib.cut s.data.toList sep.data.toList).2.2]) ∧ ∃ n, w' = w.drewN n := Any.strings_Cut Tryd.lays145 s sep m w hs hm
def Tryd.lays146_ren : Go.Shelf.Ren := ⟨fun | 146 => 22 | 221 => 41 | 268 => 57 | 138 => 58 | 143 => 59 | 195 => 74 | 197 => 61 | 218 => 75 | 219 => 64 | 260 => 76 | 217 => 79 | 225 => 80 | 224 => 81 | 267 => 82 | 266 => 95 | 314 => 96 | n => n, fun | 9 => 9 | 31 => 30 | 3 => 3 | 4 => 4 | 0 => 0 | 105 => 94 | 21 => 21 | 5 => 5 | 46 => 22 | 119 => 127 | 139 => 130 | 138 => 129 | 146 => 132 | 51 => 124 | n => n, fun | 1 => 0 | 3 => 2 | 4 => 3 | n => n⟩
theorem Tryd.lays146 : Go.Proofs.Lays.n146 Tryd.prog Tryd.lays146_ren := {
  mixed := by kernel_rfl
  f138 := Tryd.func58.trans (congrArg some (by kernel_rfl))
  f143 := Tryd.func59.trans (congrArg some (by kernel_rfl))
  f146 := Tryd.func22.trans (congrArg some (by kernel_rfl))
  f195 := Tryd.func74.trans (congrArg some (by kernel_rfl))
  f197 := Tryd.func61.trans (congrArg some (by kernel_rfl))
  f217 := Tryd.func79.trans (congrArg some (by kernel_rfl))
  f218 := Tryd.func75.trans (congrArg some (by kernel_rfl))
  f219 := Tryd.func64.trans (congrArg some (by kernel_rfl))
  f221 := Tryd.func41.trans (congrArg some (by kernel_rfl))
  f224 := Tryd.func81.trans (congrArg some (by kernel_rfl))
  f225 := Tryd.func80.trans (congrArg some (by kernel_rfl))
  f260 := Tryd.func76.trans (congrArg some (by kernel_rfl))
  f266 := Tryd.func95.trans (congrArg some (by kernel_rfl))
  f267 := Tryd.func82.trans (congrArg some (by kernel_rfl))
  f268 := Tryd.func57.trans (congrArg some (by kernel_rfl))
  f314 := Tryd.func96.trans (congrArg some (by kernel_rfl))
  t0 := Tryd.underlying0
  a0 := Tryd.isAgg0
  z0 := Tryd.sizeOf0
  v0 := Tryd.zeroValue0
  t3 := Tryd.underlying3
  a3 := Tryd.isAgg3
  z3 := Tryd.sizeOf3
  v3 := Tryd.zeroValue3
  t4 := Tryd.underlying4
  a4 := Tryd.isAgg4
  z4 := Tryd.sizeOf4
  v4 := Tryd.zeroValue4
  t5 := Tryd.underlying5
  a5 := Tryd.isAgg5
  z5 := Tryd.sizeOf5
  v5 := Tryd.zeroValue5
  t9 := Tryd.underlying9
  a9 := Tryd.isAgg9
  z9 := Tryd.sizeOf9
  v9 := Tryd.zeroValue9
  t21 := Tryd.underlying21
  a21 := Tryd.isAgg21
  z21 := Tryd.sizeOf21
  v21 := Tryd.zeroValue21
  t31 := Tryd.underlying30
  a31 := Tryd.isAgg30
  z31 := Tryd.sizeOf30
  v31 := Tryd.zeroValue30
  t46 := Tryd.underlying22
  a46 := Tryd.isAgg22
  z46 := Tryd.sizeOf22
  v46 := Tryd.zeroValue22
  t51 := Tryd.underlying124
  a51 := Tryd.isAgg124
  z51 := Tryd.sizeOf124
  v51 := Tryd.zeroValue124
  t105 := Tryd.underlying94
  a105 := Tryd.isAgg94
  z105 := Tryd.sizeOf94
  v105 := Tryd.zeroValue94
  t119 := Tryd.underlying127
  a119 := Tryd.isAgg127
  z119 := Tryd.sizeOf127
  t138 := Tryd.underlying129
  a138 := Tryd.isAgg129
  z138 := Tryd.sizeOf129
  v138 := Tryd.zeroValue129
  t139 := Tryd.underlying130
  a139 := Tryd.isAgg130
  z139 := Tryd.sizeOf130
  v139 := Tryd.zeroValue130
  t146 := Tryd.underlying132
  a146 := Tryd.isAgg132
  z146 := Tryd.sizeOf132
  v146 := Tryd.zeroValue132
  g1 := by kernel_rfl
  g3 := by kernel_rfl
  g4 := by kernel_rfl }
open Go.RowKit Go.Lib in
/-- strings.Split. (LAID: no walk: one application.) -/
theorem Tryd.strings_Split (s sep : ByteArray) (m : Int) (w : World) (hs : s.size < 4294967281) (hm : w.cell? ⟨0, 0, none⟩ = some (.int .i64 m)) (h1 : 1 ≤ sep.size) :
    Calls Tryd.prog 22 #[.string s, .string sep] w fun e w' =>
      e = .returned (.slice (some ⟨w.heap.size, 0, none⟩) (Lib.countB s sep + 1) (Lib.countB s sep + 1)) ∧ w' = w.alloc (.cells ((Lib.splitB sep 0 (Lib.countB s sep) s).map Value.string).toArray 9) := Any.strings_Split Tryd.lays146 (by kernel_rfl) s sep m w hs hm h1
def Tryd.laysM146_ren : Go.Shelf.Ren := ⟨fun | 146 => 22 | 221 => 41 | 268 => 57 | 138 => 58 | 143 => 59 | 195 => 74 | 197 => 61 | 218 => 75 | 219 => 64 | 260 => 76 | 217 => 79 | 225 => 80 | 224 => 81 | 267 => 82 | 266 => 95 | 314 => 96 | n => n, fun | 9 => 9 | 31 => 30 | 3 => 3 | 4 => 4 | 0 => 0 | 105 => 94 | 21 => 21 | 5 => 5 | 46 => 22 | 119 => 127 | 139 => 130 | 138 => 129 | 146 => 132 | 51 => 124 | n => n, fun | 1 => 0 | 3 => 2 | 4 => 3 | n => n⟩
theorem Tryd.laysM146 : Go.Proofs.LaysM.n146 Tryd.prog Tryd.laysM146_ren := {
  mixed := by kernel_rfl
  f138 := Tryd.func58.trans (congrArg some (by kernel_rfl))
  f143 := Tryd.func59.trans (congrArg some (by kernel_rfl))
  f146 := Tryd.func22.trans (congrArg some (by kernel_rfl))
  f195 := Tryd.func74.trans (congrArg some (by kernel_rfl))
  f197 := Tryd.func61.trans (congrArg some (by kernel_rfl))
  f217 := Tryd.func79.trans (congrArg some (by kernel_rfl))
  f218 := Tryd.func75.trans (congrArg some (by kernel_rfl))
  f219 := Tryd.func64.trans (congrArg some (by kernel_rfl))
  f221 := Tryd.func41.trans (congrArg some (by kernel_rfl))
  f224 := Tryd.func81.trans (congrArg some (by kernel_rfl))
  f225 := Tryd.func80.trans (congrArg some (by kernel_rfl))
  f260 := Tryd.func76.trans (congrArg some (by kernel_rfl))
  f266 := Tryd.func95.trans (congrArg some (by kernel_rfl))
  f267 := Tryd.func82.trans (congrArg some (by kernel_rfl))
  f268 := Tryd.func57.trans (congrArg some (by kernel_rfl))
  f314 := Tryd.func96.trans (congrArg some (by kernel_rfl))
  t0 := Tryd.underlying0
  a0 := Tryd.isAgg0
  z0 := Tryd.sizeOf0
  v0 := Tryd.zeroValue0
  t3 := Tryd.underlying3
  a3 := Tryd.isAgg3
  z3 := Tryd.sizeOf3
  v3 := Tryd.zeroValue3
  t4 := Tryd.underlying4
  a4 := Tryd.isAgg4
  z4 := Tryd.sizeOf4
  v4 := Tryd.zeroValue4
  t5 := Tryd.underlying5
  a5 := Tryd.isAgg5
  z5 := Tryd.sizeOf5
  v5 := Tryd.zeroValue5
  t9 := Tryd.underlying9
  a9 := Tryd.isAgg9
  z9 := Tryd.sizeOf9
  v9 := Tryd.zeroValue9
  t21 := Tryd.underlying21
  a21 := Tryd.isAgg21
  z21 := Tryd.sizeOf21
  v21 := Tryd.zeroValue21
  t31 := Tryd.underlying30
  a31 := Tryd.isAgg30
  z31 := Tryd.sizeOf30
  v31 := Tryd.zeroValue30
  t46 := Tryd.underlying22
  a46 := Tryd.isAgg22
  z46 := Tryd.sizeOf22
  v46 := Tryd.zeroValue22
  t51 := Tryd.underlying124
  a51 := Tryd.isAgg124
  z51 := Tryd.sizeOf124
  v51 := Tryd.zeroValue124
  t105 := Tryd.underlying94
  a105 := Tryd.isAgg94
  z105 := Tryd.sizeOf94
  v105 := Tryd.zeroValue94
  t119 := Tryd.underlying127
  a119 := Tryd.isAgg127
  z119 := Tryd.sizeOf127
  t138 := Tryd.underlying129
  a138 := Tryd.isAgg129
  z138 := Tryd.sizeOf129
  v138 := Tryd.zeroValue129
  t139 := Tryd.underlying130
  a139 := Tryd.isAgg130
  z139 := Tryd.sizeOf130
  v139 := Tryd.zeroValue130
  t146 := Tryd.underlying132
  a146 := Tryd.isAgg132
  z146 := Tryd.sizeOf132
  v146 := Tryd.zeroValue132
  g1 := by kernel_rfl
  g3 := by kernel_rfl
  g4 := by kernel_rfl
  i0 := by kernel_rfl
  i3 := by kernel_rfl
  i4 := by kernel_rfl
  i5 := by kernel_rfl
  i9 := by kernel_rfl
  i21 := by kernel_rfl
  i31 := by kernel_rfl
  i46 := by kernel_rfl
  i51 := by kernel_rfl
  i105 := by kernel_rfl
  i138 := by kernel_rfl
  i139 := by kernel_rfl
  i146 := by kernel_rfl
  m1 := by kernel_rfl
  s1_3 := fun w h => Go.Proofs.cell_of_shapedOpen_int (zero := #[.int .i64 0]) (t := 3) h (of_decide_eq_true (by kernel_rfl)) (by kernel_rfl) rfl (by kernel_rfl) (by kernel_rfl) Tryd.underlying3
  m3 := by kernel_rfl
  m4 := by kernel_rfl }
end Go.Proofs
/- Settings as texts: what numbers are, in plain words (no program in sight). -/
namespace Go.Proofs.YtapbmmlgmcmpnaaDoorW.Am
open Go
def isDig (b : UInt8) : Bool := decide (48 ≤ b.toNat ∧ b.toNat ≤ 57)
/-- What a row of digits is worth, behind what was read. -/
def valA (a : Nat) : List UInt8 → Nat
  | [] => a
  | b :: r => valA (a * 10 + (b.toNat - 48)) r
/-- A number of so many digits at most. -/
def digF (l : List UInt8) (most : Nat) : Option Nat := if 1 ≤ l.length ∧ l.length ≤ most ∧ l.all isDig = true then some (valA 0 l) else none
def digB : List UInt8 := [48, 49, 50, 51, 52, 53, 54, 55, 56, 57]
theorem dig_mem (b : UInt8) : digB.contains b = isDig b := by
  have h : ∀ n, n < 256 → digB.contains (UInt8.ofNat n) = isDig (UInt8.ofNat n) := by decide +kernel
  have := h b.toNat b.toNat_lt
  rwa [UInt8.ofNat_toNat] at this
theorem dropWhile_nil {α : Type} {p : α → Bool} : ∀ {l : List α}, l.dropWhile p = [] ↔ l.all p = true
  | [] => by simp
  | a :: l => by
    rw [List.dropWhile_cons]
    cases h : p a
    · simp [h]
    · simp only [if_true, List.all_cons, h, Bool.true_and]
      exact dropWhile_nil
theorem trim_nil (l : List UInt8) : Go.Lib.trimS l digB = [] ↔ l.all isDig = true := by
  have e : (fun b => digB.contains b) = isDig := funext dig_mem
  unfold Go.Lib.trimS Go.Lib.trimLeftS Go.Lib.trimRightS
  rw [e, dropWhile_nil, List.all_reverse]
  constructor
  · intro h
    by_cases hn : l.reverse.dropWhile isDig = []
    · have := dropWhile_nil.1 hn
      rwa [List.all_reverse] at this
    · exfalso
      obtain ⟨a, r, hr⟩ := List.exists_cons_of_ne_nil hn
      have h1 : isDig a = true := by rw [hr] at h; simp at h; exact h.1
      have h2 : ∀ (m : List UInt8) a r, m.dropWhile isDig = a :: r → isDig a = false := by
        intro m
        induction m with
        | nil => intro a r e; simp at e
        | cons x m ih =>
          intro a r e
          rw [List.dropWhile_cons] at e
          cases hx : isDig x
          · rw [hx] at e; simp at e; rw [← e.1]; exact hx
          · rw [hx] at e; exact ih _ _ (by simpa using e)
      rw [h2 _ _ _ hr] at h1
      cases h1
  · intro h
    have : l.reverse.dropWhile isDig = [] := dropWhile_nil.2 (by rw [List.all_reverse]; exact h)
    rw [this]
    rfl
theorem valA_lt : ∀ (l : List UInt8) (a k : Nat), l.all isDig = true → a < 10 ^ k → valA a l < 10 ^ (k + l.length)
  | [], a, k, _, h => by rw [List.length_nil, Nat.add_zero]; exact h
  | b :: r, a, k, hd, h => by
    simp only [List.all_cons, Bool.and_eq_true, isDig, decide_eq_true_eq] at hd
    have := valA_lt r (a * 10 + (b.toNat - 48)) (k + 1) hd.2 (by rw [Nat.pow_succ]; omega)
    rw [List.length_cons, show k + (r.length + 1) = k + 1 + r.length by omega]
    exact this
theorem valA_le : ∀ (l : List UInt8) (a : Nat), a ≤ valA a l
  | [], a => Nat.le_refl _
  | b :: r, a => Nat.le_trans (by omega) (valA_le r (a * 10 + (b.toNat - 48)))
theorem parseM_ok (M : Nat) (hM : M ≤ 18446744073709551615) : ∀ (l : List UInt8) (a : Nat), l.all isDig = true → valA a l ≤ M → Go.Lib.parseUintM M a l = .ok (valA a l)
  | [], a, _, _ => rfl
  | b :: r, a, hd, h => by
    have hd' := hd
    simp only [List.all_cons, Bool.and_eq_true, isDig, decide_eq_true_eq] at hd'
    have hv : a * 10 + (b.toNat - 48) ≤ M := Nat.le_trans (valA_le r _) h
    have ih := parseM_ok M hM r (a * 10 + (b.toNat - 48)) hd'.2 h
    unfold Go.Lib.parseUintM
    simp only [hd'.1, and_self, if_true]
    rw [if_neg (by omega), if_neg (by omega)]
    exact ih
theorem parse_ok {l : List UInt8} (h0 : 1 ≤ l.length) (h9 : l.length ≤ 9) (hd : l.all isDig = true) : Go.Lib.parseIntB 64 l = .ok (valA 0 l : Int) := by
  have hlt := valA_lt l 0 0 hd (by decide)
  have hb : valA 0 l < 10 ^ 9 := Nat.lt_of_lt_of_le hlt (Nat.pow_le_pow_right (by decide) (by omega))
  cases l with
  | nil => simp at h0
  | cons c r =>
    have hc : 48 ≤ c.toNat ∧ c.toNat ≤ 57 := by
      simp only [List.all_cons, Bool.and_eq_true, isDig, decide_eq_true_eq] at hd
      exact hd.1
    unfold Go.Lib.parseIntB Go.Lib.parseUintB
    simp only
    rw [if_neg (by omega : ¬ (c.toNat = 43 ∨ c.toNat = 45)), if_neg (by simp : ¬ (c :: r = [])), parseM_ok _ (by decide) _ _ hd (by
      have : (10 : Nat) ^ 9 ≤ 2 ^ 64 - 1 := by decide
      omega)]
    have e63 : (10 : Nat) ^ 9 ≤ 2 ^ (64 - 1) := by decide
    simp only
    rw [if_neg (by omega), if_neg (by omega), if_neg (by omega)]
end Go.Proofs.YtapbmmlgmcmpnaaDoorW.Am
/- From the kit's contracts of the library to contracts over abstract heaps, and back. -/
namespace Go.Proofs.YtapbmmlgmcmpnaaDoorW.Am
open Go Go.RowKit Go.Sort
theorem enters_comp {P : Program} {f : FuncId} {fn : Func} {fi : FI} (hf : P.funcs[f]? = some fn) (hc : compF P fn = some fi) : Enters P f := by
  unfold compF at hc
  split at hc
  case h_2 => cases hc
  case h_1 c hbody =>
  split at hc
  case h_2 => cases hc
  case h_1 ic hic =>
  split at hc
  · cases hc
  next hname =>
  exact ⟨fn, hf, by simp [hbody], hname⟩
/-- A contract of plain values that leaves what was there. -/
theorem bridge {P : Program} {f : FuncId} {args : List Value} {x : Value} (he : Enters P f) (fa : flatL args = true) (fx : flat x = true)
    (c : ∀ w, TbP w → Calls P f args.toArray w fun e w' => e = .returned x ∧ Below w.heap.size w w' ∧ (DrOn → w.drawn ≤ w'.drawn)) (h : Hp) : ACall P f args h (fun v g => v = x ∧ h = g) := by
  refine ⟨he, fun base w0 m w args' ra s => ?_⟩
  have ea : args' = args := ra.flat_eq fa
  subst ea
  refine (c w (s.below.tb w s.below.bl)).mono ?_
  rintro e w' ⟨rfl, hb, hd⟩
  exact ⟨m, x, x, h, rfl, m.le_refl, RV.of_flat m x fx, s.world (hb.mono s.big) hd hb.size (fun b es ck hm => hb.block _ (Array.getElem?_eq_some_iff.1 hm).1) fun i l ob _ hm => hb.block _ (s.lt i l hm), rfl, rfl⟩
/-- Back: a contract over the empty heap, of plain values, in any world. -/
theorem unbridge {P : Program} {f : FuncId} {args : List Value} {x : Value} (fa : flatL args = true) (fx : flat x = true) (c : ACall P f args Hp.empty (fun v _ => v = x)) (hd : DrOn) (W : World) (t : TbP W → Tb W.heap.size W) (t2 : TbP W) :
    Calls P f args.toArray W fun e W' => e = .returned x ∧ ∃ q os', W' = grow (W.drewN q) os' := by
  refine (c.2 W.heap.size W ⟨fun _ => none, fun _ => none⟩ W args (RVs.of_flat fa) (Sim.empty W (t t2))).mono ?_
  rintro e W' ⟨m', v, v', h', rfl, _, rv, s, rfl⟩
  obtain rfl := rv.flat_eq fx
  refine ⟨rfl, W'.drawn - W.drawn, W'.heap.extract W.heap.size W'.heap.size, ?_⟩
  have b := s.below.bl
  have d := s.below.dr hd
  obtain ⟨h1, t1, d1, o1, u1⟩ := W'
  obtain ⟨h2, t2, d2, o2, u2⟩ := W
  obtain ⟨b1, b2, b3, b4, b5⟩ := b
  dsimp only at b1 b2 b3 b4 b5 d
  subst b1 b2 b3
  unfold grow World.drewN
  have hh : h1 = h2 ++ h1.extract h2.size h1.size := by
    refine Array.ext' ?_
    rw [Array.toList_append, Array.toList_extract, List.extract_eq_take_drop]
    refine List.ext_getElem? fun i => ?_
    rcases Nat.lt_or_ge i h2.size with hi | hi
    · rw [List.getElem?_append_left (by simpa using hi)]
      have := b5 i hi
      simpa using this
    · rw [List.getElem?_append_right (by simpa using hi), List.getElem?_take, List.getElem?_drop]
      have e : h2.size + (i - h2.toList.length) = i := by simp; omega
      rw [e]
      split
      · rfl
      · next hc =>
        rw [List.getElem?_eq_none_iff]
        simp at hc ⊢
        omega
  have e : d1 = d2 + (d1 - d2) := by omega
  show (⟨h1, t1, d1, o1, u1⟩ : World) = ⟨h2 ++ h1.extract h2.size h1.size, t1, d2 + (d1 - d2), o1, u1⟩
  rw [← e, ← hh]
end Go.Proofs.YtapbmmlgmcmpnaaDoorW.Am
/- Texts: the library's calls, and digits. -/
namespace Go.Proofs.YtapbmmlgmcmpnaaDoorW.Am
open Go Go.RowKit
theorem below_drewN (w : World) (k : Nat) : Below w.heap.size w (w.drewN k) := ⟨rfl, rfl, rfl, Nat.le_refl _, fun _ _ => rfl⟩
theorem dr_no : DrOn → False := id
def bs (l : List UInt8) : Value := .string ⟨l.toArray⟩
theorem ba_eta (s : ByteArray) : Value.string s = bs s.data.toList := rfl
theorem hv116 (w : World) : (zeroValue (Go.Proofs.Tryd.lays160_ren.t 116)).run PX w = .ok (.agg (Array.replicate 256 (.bool false))) w := (Go.Proofs.Tryd.zeroValue82 w).trans (by kernel_rfl)
theorem trimD_br (l : List UInt8) (hl : l.length ≤ 1000000) (h : Hp) : ACall PX 23 [bs l, .string ⟨#[48, 49, 50, 51, 52, 53, 54, 55, 56, 57]⟩] h (fun v g => v = bs (Go.Lib.trimS l digB) ∧ h = g) :=
  bridge (enters_comp Go.Proofs.Tryd.func23 c23) rfl rfl (fun w _ => (Any.strings_Trim_ascii Go.Proofs.Tryd.lays160 hv116 (by kernel_rfl) ⟨l.toArray⟩ ⟨#[48, 49, 50, 51, 52, 53, 54, 55, 56, 57]⟩ w (by show l.toArray.size ≤ _; rw [List.size_toArray]; omega) (by decide) (by
    intro j b hb
    have := List.mem_of_getElem? hb
    have h2 : ∀ b ∈ digB, b.toNat < 128 := by decide
    exact h2 b this)).mono (by
    rintro e w' ⟨rfl, hb⟩
    exact ⟨rfl, hb, fun d => (dr_no d).elim⟩)) h
theorem parse_br {l : List UInt8} (h0 : 1 ≤ l.length) (h9 : l.length ≤ 9) (hd : l.all isDig = true) (h : Hp) : ACall PX 52 [bs l, nI 10, nI 64] h (fun v g => v = .tuple #[nI (valA 0 l), .nilIface] ∧ h = g) := by
  have hp : Go.Lib.parseIntB 64 (ByteArray.mk l.toArray).data.toList = .ok ((valA 0 l : Nat) : Int) := by
    rw [show (ByteArray.mk l.toArray).data.toList = l by simp]
    exact parse_ok h0 h9 hd
  exact bridge (enters_comp Go.Proofs.Tryd.func52 c52) rfl rfl (fun w _ => (Go.Proofs.Tryd.strconv_ParseInt_10_at64_ok ⟨l.toArray⟩ (by show l.toArray.size ≤ _; rw [List.size_toArray]; omega) ((valA 0 l : Nat) : Int) hp w).mono (by
    rintro e w' ⟨rfl, hw⟩
    refine ⟨rfl, ?_, fun d => (dr_no d).elim⟩
    rcases hw with rfl | ⟨t, rfl⟩
    · exact Below.refl _ _
    · exact Go.Joins.below_bytesWorld _ _ _ _ (Nat.le_refl _))) h
theorem cutp_br (l : List UInt8) (h : Hp) : ACall PX 28 [bs l, .string ⟨#[45]⟩] h (fun v g => v = .tuple #[bs (Go.Lib.trimPrefix l [45]), .bool (Go.Lib.hasPrefix l [45])] ∧ h = g) :=
  bridge (enters_comp Go.Proofs.Tryd.func28 c28) rfl rfl (fun w _ => (Go.Proofs.Tryd.strings_CutPrefix ⟨l.toArray⟩ ⟨#[45]⟩ w).mono (by
    rintro e w' ⟨rfl, rfl⟩
    exact ⟨rfl, Below.refl _ _, fun d => (dr_no d).elim⟩)) h
theorem cut_br (l p : List UInt8) (hl : l.length ≤ 1000000) (h : Hp) : ACall PX 24 [bs l, bs p] h (fun v g => v = .tuple #[bs (Go.Lib.cut l p).1, bs (Go.Lib.cut l p).2.1, .bool (Go.Lib.cut l p).2.2] ∧ h = g) :=
  bridge (enters_comp Go.Proofs.Tryd.func24 c24) rfl rfl (fun w tb => by
    obtain ⟨m, hm⟩ := tb.2
    refine (Go.Proofs.Tryd.strings_Cut ⟨l.toArray⟩ ⟨p.toArray⟩ m w (by show l.toArray.size < _; rw [List.size_toArray]; omega) hm).mono ?_
    rintro e w' ⟨rfl, n, rfl⟩
    exact ⟨rfl, below_drewN _ _, fun d => (dr_no d).elim⟩) h
section
variable {P : Program} {CT : FuncId → List Value → Hp → (Value → Hp → Prop) → Prop} {d : Option Nat} {xs : List Operand} {env : Env} {h : Hp} {R : Value → Hp → Prop}
theorem w_neB {a b : List UInt8} (e : mapF env xs = some [bs a, bs b]) (n : R (.bool (!(a == b))) h) : WI P CT ⟨d, none, .op (.bin .neq) xs⟩ env h R :=
  w_v (v := .bool !((ByteArray.mk a.toArray).toList == (ByteArray.mk b.toArray).toList)) (by unfold opF; rw [e]; rfl) (by rw [ByteArray.toList_eq, ByteArray.toList_eq]) n
theorem w_eqB {a b : List UInt8} (e : mapF env xs = some [bs a, bs b]) (n : R (.bool (a == b)) h) : WI P CT ⟨d, none, .op (.bin .eql) xs⟩ env h R :=
  w_v (v := .bool ((ByteArray.mk a.toArray).toList == (ByteArray.mk b.toArray).toList)) (by unfold opF; rw [e]; rfl) (by rw [ByteArray.toList_eq, ByteArray.toList_eq]) n
end
theorem sz_mk (l : List UInt8) : (ByteArray.mk l.toArray).size = l.length := by simp [ByteArray.size]
theorem digits_ok (l : List UInt8) (most : Nat) (hm : most ≤ 9) (hl : l.length ≤ 1000000) (h : Hp) : ACall PX 29 [bs l, nI most] h (fun v g => v = .tuple #[nI (((digF l most).getD 0 : Nat) : Int), .bool (digF l most).isSome] ∧ h = g) := by
  have hz := sz_mk l
  unfold digF
  refine acall Go.Proofs.Tryd.func29 c29 (by simp [ir29]) ?_
  unfold ir29
  dsimp only
  by_cases h1 : 1 ≤ l.length
  case neg =>
    rw [if_neg (fun q => h1 q.1)]
    repeat (first | refine sS ?_ | refine sE ?_ | refine w_mv rfl ?_ | refine w_pickT rfl ?_ | (refine is_okn rfl ?_; refine w_op rfl ?_) | refine w_gF rfl rfl ?_ | (refine w_cmp (c2 := true) rfl ?_ ?_; focus (first | exact decide_eq_true (by omega) | (simp; done) | (simp; omega))) | refine ai_seq ?_ | refine ai_regW ?_ | refine ai_condF (b := true) rfl (fun _ => ?_) (fun hb => by cases hb) | (refine ai_ret ?_; repeat (first | rw [thenQ_r] | rw [blockQ_r] | rw [roundE_r])))
    exact ⟨_, rfl, rfl, rfl⟩
  by_cases h2 : l.length ≤ most
  case neg =>
    rw [if_neg (fun q => h2 q.2.1)]
    repeat (first | refine sS ?_ | refine sE ?_ | refine w_mv rfl ?_ | refine w_pickT rfl ?_ | refine w_pickF rfl ?_ | (refine is_okn rfl ?_; refine w_op rfl ?_) | refine w_gT rfl rfl ?_ | refine w_gF rfl rfl ?_ | (refine w_cmp (c2 := true) rfl ?_ ?_; focus (first | exact decide_eq_true (by omega) | (simp; done) | (simp; omega))) | (refine w_cmp (c2 := false) rfl ?_ ?_; focus (first | exact decide_eq_false (by omega) | (simp; done) | (simp; omega))) | refine ai_seq ?_ | refine ai_regW ?_ | refine ai_condF (b := true) rfl (fun _ => ?_) (fun hb => by cases hb) | (refine ai_ret ?_; repeat (first | rw [thenQ_r] | rw [blockQ_r] | rw [roundE_r])))
    exact ⟨_, rfl, rfl, rfl⟩
  repeat (first | refine sS ?_ | refine sE ?_ | refine w_mv rfl ?_ | refine w_pickF rfl ?_ | (refine is_okn rfl ?_; refine w_op rfl ?_) | refine w_gT rfl rfl ?_ | (refine w_cmp (c2 := false) rfl ?_ ?_; focus (first | exact decide_eq_false (by omega) | (simp; done) | (simp; omega))) | (refine w_call rfl ((trimD_br l hl _).mono ?_); rintro _ _ ⟨rfl, rfl⟩) | refine ai_seq ?_ | refine ai_regW ?_)
  refine w_neB (b := []) rfl ?_
  by_cases h3 : l.all isDig = true
  · rw [if_pos ⟨h1, h2, h3⟩, trim_nil l |>.2 h3]
    repeat (first | refine sS ?_ | refine sE ?_ | refine w_mv rfl ?_ | refine w_pickF rfl ?_ | refine ai_seq ?_ | refine ai_regW ?_ | refine ai_condF (b := false) rfl (fun hb => by cases hb) (fun _ => ?_) | refine ai_skip ?_)
    refine w_call rfl ((parse_br h1 (by omega) h3 _).mono ?_)
    rintro _ _ ⟨rfl, rfl⟩
    repeat (first | refine sS ?_ | refine sE ?_ | refine w_mv rfl ?_ | refine w_ext rfl rfl ?_ | refine ai_seq ?_ | refine ai_regW ?_ | (refine ai_ret ?_; repeat (first | rw [thenQ_r] | rw [blockQ_r] | rw [roundE_r])))
    exact ⟨_, rfl, rfl, rfl⟩
  · have hne : (!(Go.Lib.trimS l digB == [])) = true := by
      have : ¬ Go.Lib.trimS l digB = [] := fun q => h3 ((trim_nil l).1 q)
      simpa using this
    rw [if_neg (fun q => h3 q.2.2), hne]
    repeat (first | refine sS ?_ | refine sE ?_ | refine w_mv rfl ?_ | refine w_pickF rfl ?_ | refine ai_seq ?_ | refine ai_regW ?_ | refine ai_condF (b := true) rfl (fun _ => ?_) (fun hb => by cases hb) | (refine ai_ret ?_; repeat (first | rw [thenQ_r] | rw [blockQ_r] | rw [roundE_r])))
    exact ⟨_, rfl, rfl, rfl⟩
end Go.Proofs.YtapbmmlgmcmpnaaDoorW.Am
/- Texts: Number. -/
namespace Go.Proofs.YtapbmmlgmcmpnaaDoorW.Am
open Go Go.RowKit
def sgn (neg : Bool) (n : Int) : Int := if neg = true then -n else n
def numU (t : List UInt8) : Option Nat :=
  match digF (Go.Lib.cut t [46]).1 9 with
  | none => none
  | some n => if (Go.Lib.cut t [46]).2.2 = true then (match digF (Go.Lib.cut t [46]).2.1 3 with
    | none => none
    | some k => some (n * 1000 + k * 10 ^ (3 - (Go.Lib.cut t [46]).2.1.length))) else some (n * 1000)
def numF (l : List UInt8) : Option Int := (numU (Go.Lib.trimPrefix l [45])).map fun n => sgn (Go.Lib.hasPrefix l [45]) n
theorem trimP_len (l p : List UInt8) : (Go.Lib.trimPrefix l p).length ≤ l.length := by
  unfold Go.Lib.trimPrefix
  split
  · rw [List.length_drop]; omega
  · exact Nat.le_refl _
theorem cut_len (l p : List UInt8) : (Go.Lib.cut l p).1.length ≤ l.length ∧ (Go.Lib.cut l p).2.1.length ≤ l.length := by
  unfold Go.Lib.cut
  split
  · exact ⟨by rw [List.length_take]; omega, by rw [List.length_drop]; omega⟩
  · exact ⟨Nat.le_refl _, Nat.zero_le _⟩
theorem digF_some {l : List UInt8} {most n : Nat} (h : digF l most = some n) : 1 ≤ l.length ∧ l.length ≤ most ∧ n < 10 ^ l.length := by
  unfold digF at h
  split at h
  · next hc =>
    cases h
    have := valA_lt l 0 0 hc.2.2 (by decide)
    rw [Nat.zero_add] at this
    exact ⟨hc.1, hc.2.1, this⟩
  · cases h
set_option maxRecDepth 10000 in
set_option maxHeartbeats 1000000 in
theorem number_ok (l : List UInt8) (hl : l.length ≤ 1000000) (h : Hp) : ACall PX 12 [bs l] h (fun v g => v = .tuple #[nI ((numF l).getD 0), .bool (numF l).isSome] ∧ h = g) := by
  have ht := trimP_len l [45]
  have hcl := cut_len (Go.Lib.trimPrefix l [45]) [46]
  obtain ⟨neg, hneg⟩ : ∃ b, Go.Lib.hasPrefix l [45] = b := ⟨_, rfl⟩
  obtain ⟨t, het⟩ : ∃ t, Go.Lib.trimPrefix l [45] = t := ⟨_, rfl⟩
  obtain ⟨⟨a, b, pt⟩, hc⟩ : ∃ c, Go.Lib.cut t [46] = c := ⟨_, rfl⟩
  unfold numF numU
  rw [het] at ht hcl ⊢
  rw [hc] at hcl ⊢
  rw [hneg]
  dsimp only at hcl ⊢
  have hzb := sz_mk b
  have c1 := fun g => cutp_br l g
  simp only [het, hneg] at c1
  have c2 := fun g => cut_br t [46] (by omega) g
  simp only [hc] at c2
  refine acall Go.Proofs.Tryd.func12 c12 (by simp [ir12]) ?_
  unfold ir12
  dsimp only
  repeat (first | refine sS ?_ | refine sE ?_ | refine w_mv rfl ?_ | (refine is_okn rfl ?_; refine w_op rfl ?_) | refine w_ext rfl rfl ?_ | (refine w_call rfl ((c1 _).mono ?_); rintro _ _ ⟨rfl, rfl⟩) | (refine w_call rfl ((c2 _).mono ?_); rintro _ _ ⟨rfl, rfl⟩) | (refine w_call rfl ((digits_ok a 9 (by decide) (by omega) _).mono ?_); rintro _ _ ⟨rfl, rfl⟩) | refine ai_seq ?_ | refine ai_regW ?_)
  cases hA : digF a 9 with
  | none =>
    repeat (first | refine sS ?_ | refine sE ?_ | refine w_mv rfl ?_ | refine ai_seq ?_ | refine ai_regW ?_ | refine ai_condF (b := true) rfl (fun _ => ?_) (fun hb => by cases hb) | (refine ai_ret ?_; repeat (first | rw [thenQ_r] | rw [blockQ_r] | rw [roundE_r])))
    exact ⟨_, rfl, rfl, rfl⟩
  | some n =>
    obtain ⟨a1, a2, a3⟩ := digF_some hA
    have hn9 : n < 10 ^ 9 := Nat.lt_of_lt_of_le a3 (Nat.pow_le_pow_right (by decide) a2)
    simp only [Option.getD_some, Option.isSome_some]
    cases pt
    · repeat (first | refine sS ?_ | refine sE ?_ | refine w_mv rfl ?_ | (refine w_mul rfl ?_ ?_; (focus omega)) | refine ai_seq ?_ | refine ai_regW ?_ | refine ai_condF (b := false) rfl (fun hb => by cases hb) (fun _ => ?_) | refine ai_skip ?_)
      cases neg
      · repeat (first | refine sS ?_ | refine sE ?_ | refine w_mv rfl ?_ | refine ai_seq ?_ | refine ai_regW ?_ | refine ai_condF (b := false) rfl (fun hb => by cases hb) (fun _ => ?_) | refine ai_skip ?_ | (refine ai_ret ?_; repeat (first | rw [thenQ_r] | rw [blockQ_r] | rw [roundE_r])))
        exact ⟨_, rfl, rfl, rfl⟩
      · repeat (first | refine sS ?_ | refine sE ?_ | refine w_mv rfl ?_ | (refine w_neg rfl ?_ ?_; (focus omega)) | refine ai_seq ?_ | refine ai_regW ?_ | refine ai_condF (b := true) rfl (fun _ => ?_) (fun hb => by cases hb) | (refine ai_ret ?_; repeat (first | rw [thenQ_r] | rw [blockQ_r] | rw [roundE_r])))
        exact ⟨_, rfl, rfl, rfl⟩
    · repeat (first | refine sS ?_ | refine sE ?_ | refine w_mv rfl ?_ | (refine is_okn rfl ?_; refine w_op rfl ?_) | refine w_ext rfl rfl ?_ | (refine w_mul rfl ?_ ?_; (focus omega)) | (refine w_call rfl ((digits_ok b 3 (by decide) (by omega) _).mono ?_); rintro _ _ ⟨rfl, rfl⟩) | refine ai_seq ?_ | refine ai_regW ?_ | refine ai_condF (b := true) rfl (fun _ => ?_) (fun hb => by cases hb) | refine ai_condF (b := false) rfl (fun hb => by cases hb) (fun _ => ?_) | refine ai_skip ?_)
      cases hB : digF b 3 with
      | none =>
        repeat (first | refine sS ?_ | refine sE ?_ | refine w_mv rfl ?_ | refine ai_seq ?_ | refine ai_regW ?_ | refine ai_condF (b := true) rfl (fun _ => ?_) (fun hb => by cases hb) | (refine ai_ret ?_; repeat (first | rw [thenQ_r] | rw [blockQ_r] | rw [roundE_r])))
        exact ⟨_, rfl, rfl, rfl⟩
      | some k =>
        obtain ⟨b1, b2, b3⟩ := digF_some hB
        have hk3 : k < 10 ^ 3 := Nat.lt_of_lt_of_le b3 (Nat.pow_le_pow_right (by decide) b2)
        simp only [Option.getD_some, Option.isSome_some]
        repeat (first | refine sS ?_ | refine sE ?_ | refine w_mv rfl ?_ | (refine is_okn rfl ?_; refine w_op rfl ?_) | (refine w_sub rfl ?_ ?_; (focus omega)) | refine ai_seq ?_ | refine ai_regW ?_ | refine ai_condF (b := false) rfl (fun hb => by cases hb) (fun _ => ?_) | refine ai_skip ?_ | refine ai_block ?_)
        refine ai_loopE (γ := Nat × Nat) (fun e => [(4, .bool neg), (8, .int .i64 ((n : Int) * 1000)), (10, nI (e.2 : Nat)), (42, .int .i64 (3 - ((ByteArray.mk b.toArray).size : Int))), (43, nI e.1)])
          (fun e g => h = g ∧ e.1 ≤ 3 - b.length ∧ e.2 = k * 10 ^ e.1) (fun e => 3 - e.1) (0, k)
          (by repeat (first | exact le_nil | refine le_consF rfl ?_)) ⟨rfl, Nat.zero_le _, by simp⟩ ?_
        rintro ⟨j, x⟩ g1 ⟨rfl, hj, hx⟩
        dsimp only at hj hx ⊢
        have hxb : x ≤ 99900 := by
          rcases (show j = 0 ∨ j = 1 ∨ j = 2 by omega) with rfl | rfl | rfl
          · simp at hx; omega
          · simp at hx; omega
          · simp at hx; omega
        by_cases hj2 : j < 3 - b.length
        · repeat (first | refine sS ?_ | refine sE ?_ | refine w_mv rfl ?_ | (refine w_add rfl ?_ ?_; (focus omega)) | (refine w_cmp (c2 := true) rfl ?_ ?_; focus (first | exact decide_eq_true (by omega) | (simp; done) | (simp; omega))) | (refine w_mul rfl ?_ ?_; (focus omega)) | refine ai_seq ?_ | refine ai_regW ?_ | refine ai_condF (b := true) rfl (fun _ => ?_) (fun hb => by cases hb) | refine ai_skip ?_ | refine ai_block ?_)
          exact ⟨(j + 1, x * 10), (by repeat (first | exact le_nil | refine le_consF rfl ?_)), ⟨rfl, by dsimp only; omega, by dsimp only; rw [hx, Nat.pow_succ, Nat.mul_assoc]⟩, by dsimp only; omega⟩
        · obtain rfl : j = 3 - b.length := by omega
          rw [← hx]
          cases neg
          · repeat (first | refine sS ?_ | refine sE ?_ | refine w_mv rfl ?_ | (refine w_add rfl ?_ ?_; (focus omega)) | (refine w_cmp (c2 := false) rfl ?_ ?_; focus (first | exact decide_eq_false (by omega) | (simp; done) | (simp; omega))) | refine ai_seq ?_ | refine ai_regW ?_ | refine ai_condF (b := false) rfl (fun hb => by cases hb) (fun _ => ?_) | refine ai_skip ?_ | refine ai_exit ?_ | (refine ai_ret ?_; repeat (first | rw [thenQ_r] | rw [blockQ_r] | rw [roundE_r])))
            refine ⟨_, rfl, ?_, rfl⟩
            simp [pack, sgn, nI]
          · repeat (first | refine sS ?_ | refine sE ?_ | refine w_mv rfl ?_ | (refine w_add rfl ?_ ?_; (focus omega)) | (refine w_cmp (c2 := false) rfl ?_ ?_; focus (first | exact decide_eq_false (by omega) | (simp; done) | (simp; omega))) | (refine w_neg rfl ?_ ?_; (focus omega)) | refine ai_seq ?_ | refine ai_regW ?_ | refine ai_condF (b := true) rfl (fun _ => ?_) (fun hb => by cases hb) | refine ai_condF (b := false) rfl (fun hb => by cases hb) (fun _ => ?_) | refine ai_exit ?_ | (refine ai_ret ?_; repeat (first | rw [thenQ_r] | rw [blockQ_r] | rw [roundE_r])))
            refine ⟨_, rfl, ?_, rfl⟩
            simp [pack, sgn, nI]
end Go.Proofs.YtapbmmlgmcmpnaaDoorW.Am
/- The program's plain types, as cells: pods, requests, what is seen. -/
namespace Go.Proofs.YtapbmmlgmcmpnaaDoorW.Am
open Go Go.RowKit
/-- A pod: number, state, how many in flight, since when. -/
abbrev Pd := Int × Int × Int × Int
def p4 (v : Pd) : List Value := [nI v.1, nI v.2.1, nI v.2.2.1, nI v.2.2.2]
theorem els4 (l : List Pd) : Els 4 (l.map p4) := fun u hu => by
  obtain ⟨p, _, rfl⟩ := List.mem_map.1 hu
  exact ⟨rfl, rfl⟩
/-- Something that is seen: time, wanted, panic, proxy, pods, waiting, busy, the seven ends, over. -/
structure Vw where
  (t want : Int) (panic proxy : Bool) (pods : Value) (waiting busy e0 e1 e2 e3 e4 e5 e6 : Int) (over : Bool)
def vs15 (v : Vw) : List Value := [nI v.t, nI v.want, .bool v.panic, .bool v.proxy, v.pods, nI v.waiting, nI v.busy, nI v.e0, nI v.e1, nI v.e2, nI v.e3, nI v.e4, nI v.e5, nI v.e6, .bool v.over]
theorem vs15_one {v : Vw} (ho : one v.pods = true) : (vs15 v).all one = true := by simp only [vs15, List.all_cons, List.all_nil, ho]; rfl
/-- A row of what is seen, each with its pods. -/
abbrev VP := Vw × List Pd
structure RV15 (h : Hp) (s : Value) (l : List VP) : Prop where
  row : RR 15 h s (l.map fun p => vs15 p.1)
  pods : ∀ p ∈ l, RR 4 h p.1.pods (p.2.map p4)
theorem RV15.ext {h g : Hp} {s : Value} {l : List VP} (a : RV15 h s l) (x : Ext h g) : RV15 g s l := ⟨a.row.ext x, fun p hp => (a.pods p hp).ext x⟩
theorem take_snoc {α : Type} {l : List α} {i : Nat} {a : α} (h : l[i]? = some a) : l.take (i + 1) = l.take i ++ [a] := by
  obtain ⟨h1, rfl⟩ := List.getElem?_eq_some_iff.1 h
  exact List.take_succ_eq_append_getElem h1
theorem getD_lt {α : Type} {l : List α} {i : Nat} (h : i < l.length) : ∃ a, l[i]? = some a := ⟨_, List.getElem?_eq_getElem h⟩
end Go.Proofs.YtapbmmlgmcmpnaaDoorW.Am
