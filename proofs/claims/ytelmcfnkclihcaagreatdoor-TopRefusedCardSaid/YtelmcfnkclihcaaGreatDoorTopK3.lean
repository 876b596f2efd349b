/- The instructions of functions of the program, each with the proof that it is what the program has. Printed by a program of this session (irdump.lean, irfile.py). -/
import Derived.Test.YtelmcfnkclihcaaGreatDoorTopK2
import Derived.Test.YtelmcfnkclihcaaGreatDoorProg
import Derived.KernelRfl
import Derived.Laws.StructEq
import Derived.Test.YtelmcfnkclihcaaGreatDoorTopK1
import Derived.Sort.Grow
import Derived.Deep.Draws
import Derived.Lib.SlTrimSet
import Derived.Lib.ParseIntB
import Derived.Lib.IndexMore
import Derived.Lib.SplitLaws
import Derived.Lib.TrimByte
import Derived.Shelf.Strings.Trim
import Derived.Shelf.Small.Utf8
import Derived.Shelf.Small.Bits
import Derived.Shelf.Small.Strs
import Derived.Shelf.Small.Wraps
import Derived.Shelf.Utf8.RuneCount
import Derived.Shelf.Strconv.Itoa0
import Derived.Shelf.Strconv.Itoa1
import Derived.Shelf.LaysM
import Derived.Shelf.Strconv.Itoa2
import Derived.Shelf.Strconv.Itoa3
import Derived.Shelf.Strconv.ParseIntEmpty
import Derived.Shelf.Strconv.Clone
import Derived.Shelf.Strconv.SyntaxError
import Derived.Shelf.LaysC
import Derived.Shelf.Strconv.ToError
import Derived.Shelf.Strconv.Lower
import Derived.Shelf.Strconv.ParseUint10
import Derived.Shelf.Strconv.ParseUint10Empty
import Derived.Shelf.Strconv.ParseUint10Any
import Derived.Shelf.Strconv.ParseInt10
import Derived.Shelf.Strconv.RangeError
import Derived.Shelf.Strconv.ToErrorRange
import Derived.Shelf.Strconv.ParseUintEmpty
import Derived.Shelf.Strconv.ParseUint10b64
import Derived.Shelf.Strconv.ParseUint10b32
import Derived.Shelf.Strconv.ParseUint10b16
import Derived.Shelf.Strconv.ParseUint10b8
import Derived.Shelf.Strconv.ParseUint10At
import Derived.Shelf.Strconv.ParseInt10At64
import Derived.Shelf.Strconv.ParseInt10At32
import Derived.Shelf.Strconv.ParseInt10At16
import Derived.Shelf.Strconv.ParseInt10At8
import Derived.Shelf.Strconv.ParseInt10All
import Derived.Shelf.Strconv.ParseIntPublic10
import Derived.Shelf.Strconv.ErrVarParseInt
import Derived.Shelf.Strings.Search1
import Derived.Shelf.Strings.Search2
import Derived.Shelf.Strings.Search3
import Derived.Shelf.Strings.Cut
import Derived.Shelf.Strings.Count
import Derived.Shelf.Strings.Shaped
import Derived.Shelf.Strings.Prefix
import Derived.Shelf.Strings.Split
import Derived.Shelf.Strings.SplitShaped
import Derived.Shelf.Unicode.Decode
import Derived.Shelf.Strings.Runes
import Derived.Shelf.Strings.RuneCount
import Derived.Shelf.Strings.AsciiSet
import Derived.Shelf.Strings.Explode
import Derived.Shelf.Bits.Mul64
import Derived.Shelf.Unicode.DecodeSlow
import Derived.Shelf.Unicode.DecodeAny
import Derived.Shelf.Unicode.DecodeLast
import Derived.Ground.Names2Prog
import Derived.Shelf.Slices.Clone
import Derived.Shelf.Slices.SearchI
namespace Go.Proofs.YtelmcfnkclihcaaGreatDoorW.Am
open Go
def ir8 : FI :=
 ⟨23,[.tmp 4],.seq (.reg [qo 4 .mv [cb false]]) (.seq (.seq (.reg [qo 5 .mv [ci 0]]) (.block 0 (.loop (.seq (.seq (.reg [qm 6 5,qm 7 0,qk 8 .len 7,q2 9 (.bin .lss) 6 8]) (.cond (.tmp 9) (.skip) (.exit 0))) (.seq (.block 1 (.seq (.reg [qm 12 0,qm 13 5,q2 14 (.iad 3) 12 13,qk 15 (.fad 2) 14,qk 16 .ld1 15,qk 17 .lens 16,qi 18 (.bin .gtr) 17 300]) (.cond (.tmp 18) (.seq (.reg [qo 4 .mv [cb false]]) (.ret)) (.skip)))) (.reg [qm 10 5,qi 11 (.bin .add) 10 1,qm 5 11])))))) (.seq (.reg [qm 19 0,qk 20 .len 19,qm 21 1,q2 22 (.bin .leq) 20 21,qm 4 22]) (.ret)))⟩
theorem c8 : compF Tryz.prog Tryz.f8 = some ir8 := by kernel_rfl
def ir9 : FI :=
 ⟨71,[.tmp 0],.seq (.reg [qo 0 .mv [cb false]]) (.seq (.reg [qc 7 7 [],qc 8 6 [.tmp 7],qm 6 8,qk 9 (.ext 0) 6,qk 10 (.ext 1) 6,qm 1 9,qm 2 10]) (.seq (.seq (.reg [qm 11 2,qi 12 (.bin .neq) 11 0,qm 13 12,qn 14 13 false .mv 1,qg 15 13 false (.isn false) [.tmp 14,.const (.pointer none)],qo 16 .pick [.tmp 13,cb true,.tmp 15]]) (.cond (.tmp 16) (.seq (.reg [qo 0 .mv [cb false]]) (.ret)) (.skip))) (.seq (.reg [qm 17 1,⟨some 18,none,.op (.bld #[(.int .i64 0),(.int .i64 0),(.string ⟨#[]⟩)] [(0,1),(1,1),(2,1)] [0,1]) [ci 2,ci 30]⟩,qc 19 11 [.tmp 17,.tmp 18]]) (.seq (.reg [qm 20 1,⟨some 21,none,.op (.bld #[(.int .i64 0),(.int .i64 0),(.string ⟨#[]⟩)] [(0,1),(1,1),(2,1)] [0,1]) [ci 1,ci 10]⟩,qc 22 11 [.tmp 20,.tmp 21]]) (.seq (.reg [qm 23 1,qc 24 12 [.tmp 23],⟨some 3,none,.op (.new 39 (.agg #[(.int .i64 0),(.int .i64 0),(.bool false),(.bool false),(.slice none 0 0),(.int .i64 0),(.int .i64 0),(.int .i64 0),(.int .i64 0),(.int .i64 0),(.int .i64 0),(.int .i64 0),(.int .i64 0),(.int .i64 0),(.bool false)])) []⟩,qs 15 3 24]) (.seq (.seq (.reg [qo 4 .mv [ci 0]]) (.block 0 (.loop (.seq (.seq (.reg [qm 25 4,qi 26 (.bin .lss) 25 30]) (.cond (.tmp 26) (.skip) (.exit 0))) (.seq (.block 1 (.reg [qm 29 1,⟨some 30,none,.op (.bld #[(.int .i64 0),(.int .i64 0),(.string ⟨#[]⟩)] [(0,1),(1,1),(2,1)] [0]) [ci 3]⟩,qc 31 11 [.tmp 29,.tmp 30]])) (.reg [qm 27 4,qi 28 (.bin .add) 27 1,qm 4 28])))))) (.seq (.reg [qm 32 1,⟨some 33,none,.op (.bld #[(.int .i64 0),(.int .i64 0),(.string ⟨#[]⟩)] [(0,1),(1,1),(2,1)] [0,1]) [ci 1,ci 200]⟩,qc 34 11 [.tmp 32,.tmp 33]]) (.seq (.reg [qm 35 1,qc 36 12 [.tmp 35],⟨some 5,none,.op (.new 39 (.agg #[(.int .i64 0),(.int .i64 0),(.bool false),(.bool false),(.slice none 0 0),(.int .i64 0),(.int .i64 0),(.int .i64 0),(.int .i64 0),(.int .i64 0),(.int .i64 0),(.int .i64 0),(.int .i64 0),(.int .i64 0),(.bool false)])) []⟩,qs 15 5 36]) (.seq (.reg [qk 37 (.fad 6) 3,qk 38 .ld1 37,qi 39 (.bin .eql) 38 30,qm 40 39,qn 41 40 true (.fad 4) 3,qn 42 40 true .ld1 41,qn 43 40 true .len 42,qg 44 40 true (.bin .gtr) [.tmp 43,ci 1],qo 45 .pick [.tmp 40,.tmp 44,cb false],qm 46 45,qn 47 46 true (.fad 2) 3,qn 48 46 true .ld1 47,qo 49 .pick [.tmp 46,.tmp 48,cb false],qm 50 49,qn 51 50 true (.fad 4) 5,qn 52 50 true .ld1 51,qn 53 50 true .len 52,qg 54 50 true (.bin .eql) [.tmp 53,ci 0],qo 55 .pick [.tmp 50,.tmp 54,cb false],qm 56 55,qn 57 56 true (.fad 1) 5,qn 58 56 true .ld1 57,qg 59 56 true (.bin .eql) [.tmp 58,ci 0],qo 60 .pick [.tmp 56,.tmp 59,cb false],qm 61 60,qn 62 61 true (.fad 7) 5,qg 63 61 true (.iaa 7 1) [.tmp 62,ci 3],qn 64 61 true .ld1 63,qg 65 61 true (.bin .eql) [.tmp 64,ci 30],qo 66 .pick [.tmp 61,.tmp 65,cb false],qm 67 66,qn 68 67 true (.fad 3) 5,qn 69 67 true .ld1 68,qo 70 .pick [.tmp 67,.tmp 69,cb false],qm 0 70]) (.ret))))))))))⟩
theorem c9 : compF Tryz.prog Tryz.f9 = some ir9 := by kernel_rfl
def ir10 : FI :=
 ⟨70,[.cell 4 32],.seq (.reg [qk 2 (.box 32) 0,⟨some 4,none,.op (.new 32 (.agg #[(.int .i64 0),(.int .i64 0),(.string ⟨#[]⟩)])) []⟩]) (.seq (.seq (.reg [qm 7 1,qi 8 (.bin .rem) 7 11,qi 9 (.bin .eql) 8 10]) (.cond (.tmp 9) (.seq (.reg [qk 10 (.ldn 3) 2,qs 3 4 10]) (.ret)) (.skip))) (.seq (.reg [qk 11 (.fad 1) 2,qk 12 .ld1 11,qk 13 (.cvt .u64) 12,qm 5 13]) (.seq (.seq (.reg [qk 14 (.fad 0) 2,qk 15 .ld1 14,qk 16 (.cvt .u64) 15,qo 17 (.bin .rem) [.tmp 16,.const (.int .u64 16)],qm 6 17]) (.block 0 (.seq (.reg [qm 19 6,qo 20 (.bin .lss) [.tmp 19,.const (.int .u64 4)],qm 18 20]) (.cond (.tmp 18) (.seq (.reg [qm 21 5,qo 22 (.bin .rem) [.tmp 21,.const (.int .u64 6)],qk 23 (.cvt .i64) 22,qo 24 (.bin .add) [ci 1,.tmp 23],⟨some 25,none,.op (.bld #[(.int .i64 0),(.int .i64 0),(.string ⟨#[]⟩)] [(0,1),(1,1),(2,1)] [0,1]) [ci 1,.tmp 24]⟩,qs 3 4 25]) (.ret)) (.seq (.reg [qm 27 6,qo 28 (.bin .lss) [.tmp 27,.const (.int .u64 8)],qm 26 28]) (.cond (.tmp 26) (.seq (.reg [qm 29 5,qo 30 (.bin .rem) [.tmp 29,.const (.int .u64 9)],qk 31 (.cvt .i64) 30,qo 32 (.bin .add) [ci 1,.tmp 31],⟨some 33,none,.op (.bld #[(.int .i64 0),(.int .i64 0),(.string ⟨#[]⟩)] [(0,1),(1,1),(2,1)] [0,1]) [ci 2,.tmp 32]⟩,qs 3 4 33]) (.ret)) (.seq (.reg [qm 35 6,qo 36 (.bin .lss) [.tmp 35,.const (.int .u64 12)],qm 34 36]) (.cond (.tmp 34) (.seq (.reg [qm 37 5,qo 38 (.bin .rem) [.tmp 37,.const (.int .u64 12)],qk 39 (.cvt .i64) 38,⟨some 40,none,.op (.bld #[(.int .i64 0),(.int .i64 0),(.string ⟨#[]⟩)] [(0,1),(1,1),(2,1)] [0,1]) [ci 3,.tmp 39]⟩,qs 3 4 40]) (.ret)) (.seq (.reg [qm 42 6,qo 43 (.bin .eql) [.tmp 42,.const (.int .u64 12)],qm 41 43]) (.cond (.tmp 41) (.seq (.reg [qm 44 5,qo 45 (.bin .rem) [.tmp 44,.const (.int .u64 4)],qk 46 (.cvt .i64) 45,⟨some 47,none,.op (.bld #[(.int .i64 0),(.int .i64 0),(.string ⟨#[]⟩)] [(0,1),(1,1),(2,1)] [0,1]) [ci 4,.tmp 46]⟩,qs 3 4 47]) (.ret)) (.seq (.reg [qm 49 6,qo 50 (.bin .eql) [.tmp 49,.const (.int .u64 13)],qm 48 50]) (.cond (.tmp 48) (.seq (.reg [qm 51 5,qo 52 (.bin .rem) [.tmp 51,.const (.int .u64 5)],qk 53 (.cvt .i64) 52,qo 54 (.bin .add) [ci 1,.tmp 53],⟨some 55,none,.op (.bld #[(.int .i64 0),(.int .i64 0),(.string ⟨#[]⟩)] [(0,1),(1,1),(2,1)] [0,1]) [ci 6,.tmp 54]⟩,qs 3 4 55]) (.ret)) (.seq (.reg [qm 57 6,qo 58 (.bin .eql) [.tmp 57,.const (.int .u64 14)],qm 56 58]) (.cond (.tmp 56) (.seq (.reg [qm 59 5,qo 60 (.bin .rem) [.tmp 59,.const (.int .u64 80)],qk 61 (.cvt .i64) 60,qo 62 (.bin .add) [ci 1,.tmp 61],⟨some 63,none,.op (.bld #[(.int .i64 0),(.int .i64 0),(.string ⟨#[]⟩)] [(0,1),(1,1),(2,1)] [0,1]) [ci 1,.tmp 62]⟩,qs 3 4 63]) (.ret)) (.skip))))))))))))))) (.seq (.reg [⟨some 64,none,.op (.bsl 9 1 12 #[(.string ⟨#[]⟩),(.string ⟨#[]⟩),(.string ⟨#[]⟩),(.string ⟨#[]⟩),(.string ⟨#[]⟩),(.string ⟨#[]⟩),(.string ⟨#[]⟩),(.string ⟨#[]⟩),(.string ⟨#[]⟩),(.string ⟨#[]⟩),(.string ⟨#[]⟩),(.string ⟨#[]⟩)] [0,1,2,3,4,5,6,7,8,9,10,11]) [.const (.string ⟨#[109,97,120,58,32,53]⟩),.const (.string ⟨#[109,105,110,58,32,49]⟩),.const (.string ⟨#[108,105,109,105,116,58,32,50]⟩),.const (.string ⟨#[113,117,101,117,101,58,32,51]⟩),.const (.string ⟨#[98,117,114,115,116,58,32,45,49]⟩),.const (.string ⟨#[98,117,114,115,116,58,32,48]⟩),.const (.string ⟨#[100,101,108,97,121,58,32,50,48]⟩),.const (.string ⟨#[115,116,97,98,108,101,58,32,49,50,10,112,97,110,105,99,58,32,51]⟩),.const (.string ⟨#[115,117,98,115,101,116,58,32,50]⟩),.const (.string ⟨#[103,114,97,105,110,58,32,50]⟩),.const (.string ⟨#[116,105,109,101,111,117,116,58,32,52]⟩),.const (.string ⟨#[120]⟩)]⟩,qm 65 5,qo 66 (.bin .rem) [.tmp 65,.const (.int .u64 12)],q2 67 (.iad 1) 64 66,qk 68 .ld1 67,⟨some 69,none,.op (.bld #[(.int .i64 0),(.int .i64 0),(.string ⟨#[]⟩)] [(0,1),(1,1),(2,1)] [0,2]) [ci 5,.tmp 68]⟩,qs 3 4 69]) (.ret)))))⟩
theorem c10 : compF Tryz.prog Tryz.f10 = some ir10 := by kernel_rfl
def ir13 : FI :=
 ⟨10,[.cell 2 42],.seq (.reg [⟨some 2,none,.op (.new 42 (.agg #[(.int .i64 0),(.int .i64 0),(.int .i64 0),(.int .i64 0),(.bool false),(.int .i64 0)])) []⟩]) (.seq (.seq (.reg [qm 3 0,qo 4 (.isn false) [.tmp 3,.const (.pointer none)]]) (.cond (.tmp 4) (.seq (.reg [⟨some 5,none,.op (.bld #[(.int .i64 0),(.int .i64 0),(.int .i64 0),(.int .i64 0),(.bool false),(.int .i64 0)] [(0,1),(1,1),(2,1),(3,1),(4,1),(5,1)] []) []⟩,qs 6 2 5]) (.ret)) (.skip))) (.seq (.reg [qm 6 0,qk 7 .nck 6,qk 8 (.fad 23) 7,qk 9 (.ldn 6) 8,qs 6 2 9]) (.ret)))⟩
theorem c13 : compF Tryz.prog Tryz.f13 = some ir13 := by kernel_rfl
def ir19 : FI :=
 ⟨3,[.tmp 0],.seq (.reg [qo 0 .mv [.const (.pointer none)]]) (.seq (.reg [⟨some 1,none,.op (.bld #[(.slice none 0 0),(.int .i64 0)] [(0,1),(1,1)] []) []⟩,qk 2 (.box 85) 1,qm 0 2]) (.ret))⟩
theorem c19 : compF Tryz.prog Tryz.f19 = some ir19 := by kernel_rfl
def ir23 : FI :=
 ⟨10,[.tmp 2],.seq (.reg [qo 2 .mv [.const (.pointer none)]]) (.seq (.reg [qm 3 0,qk 4 .nck 3,qk 5 (.fad 21) 4,qk 6 .ld1 5,qi 7 (.iad 1) 6 0,qk 8 .ld1 7,qk 9 (.tas 53 false .nilIface) 8,qm 2 9]) (.ret))⟩
theorem c23 : compF Tryz.prog Tryz.f23 = some ir23 := by kernel_rfl
def ir42 : FI :=
 ⟨8,[.tmp 2],.seq (.reg [qo 2 .mv [.const (.slice none 0 0)]]) (.seq (.seq (.reg [qm 3 0,qo 4 (.isn false) [.tmp 3,.const (.slice none 0 0)]]) (.cond (.tmp 4) (.seq (.reg [qo 2 .mv [.const (.slice none 0 0)]]) (.ret)) (.skip))) (.seq (.reg [qo 5 (.bsl 50 4 0 #[] []) [],qm 6 0,q2 7 (.app 50 4 32) 5 6,qm 2 7]) (.ret)))⟩
theorem c42 : compF Tryz.prog Tryz.f42 = some ir42 := by kernel_rfl
def ir48 : FI :=
 ⟨48,[.tmp 2],.seq (.reg [qo 2 .mv [ci 0]]) (.seq (.reg [qo 3 .mv [ci (-1)]]) (.seq (.seq (.reg [qm 7 0,qc 8 34 [.tmp 7],qk 9 .len 8,qo 10 .mv [ci 0]]) (.block 0 (.loop (.seq (.reg [q2 11 (.bin .lss) 10 9]) (.seq (.cond (.tmp 11) (.skip) (.exit 0)) (.seq (.block 1 (.seq (.reg [qm 12 10,q2 13 (.iad 4) 8 10,qk 14 (.ldn 4) 13,⟨some 5,none,.op (.new 81 (.agg #[(.int .i64 0),(.int .i64 0),(.int .i64 0),(.int .i64 0)])) []⟩,qm 4 12,qs 4 5 14]) (.seq (.block 2 (.seq (.reg [qk 16 (.fad 1) 5,qk 17 .ld1 16,qi 18 (.bin .eql) 17 3,qm 15 18]) (.cond (.tmp 15) (.exit 1) (.seq (.reg [qm 20 3,qi 21 (.bin .lss) 20 0,qm 19 21]) (.cond (.tmp 19) (.seq (.reg [qm 22 4,qm 3 22]) (.exit 1)) (.skip)))))) (.seq (.reg [qm 23 0,qm 24 3,qc 25 49 [.tmp 23,.tmp 24],qm 6 25]) (.seq (.drw [dq 0 (qk 26 (.fad 1) 5),dq 1 (qk 27 .ld1 26),dq 2 (qi 28 (.bin .eql) 27 1),dq 3 (qm 29 28),dq 4 (qn 30 29 false .mv 6),dq 5 (qn 31 29 false .nck 30),dq 6 (qn 32 29 false (.fad 1) 31),dq 7 (qn 33 29 false .ld1 32),dq 8 (qg 34 29 false (.bin .eql) [.tmp 33,ci 2]),dq 9 (qn 35 29 false .mv 34),dq 10 (qn 36 35 true (.fad 2) 5),dq 11 (qn 37 35 true .ld1 36),dq 12 (qn 38 35 true .mv 6),dq 13 (qn 39 35 true .nck 38),dq 14 (qn 40 35 true (.fad 2) 39),dq 15 (qn 41 35 true .ld1 40),dq 16 (qg 42 35 true (.bin .leq) [.tmp 37,.tmp 41]),dq 17 (qg 43 29 false .pick [.tmp 35,.tmp 42,cb false]),dq 18 (qo 44 .pick [.tmp 29,cb true,.tmp 43])]) (.cond (.tmp 44) (.reg [qm 45 4,qm 3 45]) (.skip))))))) (.reg [qi 46 (.bin .add) 10 1,qm 10 46]))))))) (.seq (.reg [qm 47 3,qm 2 47]) (.ret))))⟩
theorem c48 : compF Tryz.prog Tryz.f48 = some ir48 := by kernel_rfl
def ir49 : FI :=
 ⟨19,[.tmp 4],.seq (.reg [qo 4 .mv [.const (.pointer none)]]) (.seq (.reg [qm 8 0,qk 9 .nck 8,qk 10 (.fad 0) 9,qk 11 .ld1 10,qm 12 1,q2 13 (.iad 1) 11 12,qk 14 .ld1 13,⟨some 15,none,.op (.tas 98 true (.pointer none)) [.tmp 14]⟩,qm 7 15,qk 16 (.ext 0) 7,qk 17 (.ext 1) 7,qm 5 16,qm 6 17]) (.seq (.reg [qm 18 5,qm 4 18]) (.ret)))⟩
theorem c49 : compF Tryz.prog Tryz.f49 = some ir49 := by kernel_rfl
def ir50 : FI :=
 ⟨33,[.tmp 6],.seq (.reg [qo 6 .mv [.const (.slice none 0 0)]]) (.seq (.reg [qm 8 0,qm 9 1,qm 10 2,qm 11 0,qk 12 .len 11,qo 13 (.slc 1 true true true) [.tmp 8,.tmp 9,.tmp 10,.tmp 12]]) (.seq (.seq (.reg [qm 14 1,qm 15 2,q2 16 (.bin .eql) 14 15]) (.cond (.tmp 16) (.seq (.reg [qm 17 0,qm 6 17]) (.ret)) (.skip))) (.seq (.reg [qm 18 0,qk 19 .len 18,qm 7 19]) (.seq (.drw [dq 0 (qm 20 0),dq 1 (qm 21 1),dq 2 (q2 22 (.slc 1 false true false) 20 21),dq 3 (qm 23 0),dq 4 (qm 24 2),dq 5 (q2 25 (.slc 1 true false false) 23 24),⟨6,q2 26 (.app 20 1 16) 22 25,true,[]⟩,⟨7,qm 0 26,true,[]⟩]) (.seq (.reg [qm 27 0,qm 28 0,qk 29 .len 28,qm 30 7,qo 31 (.slc 1 true true false) [.tmp 27,.tmp 29,.tmp 30],⟨none,none,.op (.clr 1 .nilIface) [.tmp 31]⟩]) (.seq (.reg [qm 32 0,qm 6 32]) (.ret)))))))⟩
theorem c50 : compF Tryz.prog Tryz.f50 = some ir50 := by kernel_rfl
def ir67 : FI :=
 ⟨151,[.cell 6 42,.tmp 7],.seq (.reg [⟨some 6,none,.op (.new 42 (.agg #[(.int .i64 0),(.int .i64 0),(.int .i64 0),(.int .i64 0),(.bool false),(.int .i64 0)])) []⟩,qo 7 .mv [ci 0]]) (.seq (.block 0 (.seq (.reg [qm 14 0,qo 15 (.isn false) [.tmp 14,.const (.pointer none)],qm 13 15]) (.cond (.tmp 13) (.seq (.reg [⟨some 16,none,.op (.bld #[(.int .i64 0),(.int .i64 0),(.int .i64 0),(.int .i64 0),(.bool false),(.int .i64 0)] [(0,1),(1,1),(2,1),(3,1),(4,1),(5,1)] []) []⟩,qs 6 6 16,qo 7 .mv [ci 8]]) (.ret)) (.seq (.reg [qm 18 1,qm 19 0,qk 20 .nck 19,qk 21 (.fad 23) 20,qk 22 .ld1 21,q2 23 (.bin .lss) 18 22,qm 24 23,qn 25 24 false .mv 1,qg 26 24 false (.bin .gtr) [.tmp 25,ci 1099511627776],qo 27 .pick [.tmp 24,cb true,.tmp 26],qm 28 27,qn 29 28 false .mv 2,qg 30 28 false (.bin .lss) [.tmp 29,ci 0],qo 31 .pick [.tmp 28,cb true,.tmp 30],qm 32 31,qn 33 32 false .mv 2,qg 34 32 false (.bin .gtr) [.tmp 33,ci 100],qo 35 .pick [.tmp 32,cb true,.tmp 34],qm 17 35]) (.cond (.tmp 17) (.seq (.reg [⟨some 36,none,.op (.bld #[(.int .i64 0),(.int .i64 0),(.int .i64 0),(.int .i64 0),(.bool false),(.int .i64 0)] [(0,1),(1,1),(2,1),(3,1),(4,1),(5,1)] []) []⟩,qs 6 6 36,qo 7 .mv [ci 1]]) (.ret)) (.skip)))))) (.seq (.reg [qm 37 0,qm 38 1,qk 39 .nck 37,qk 40 (.fad 23) 39,qs 1 40 38]) (.seq (.reg [qm 42 0,qc 43 71 [.tmp 42],qm 44 1,qc 45 98 [.tmp 43,.tmp 44],qm 41 45,qk 46 (.ext 0) 41,qk 47 (.ext 1) 41,qm 8 46,qm 9 47]) (.seq (.drw [dq 0 (qm 48 0),dq 1 (qk 49 .nck 48),dq 2 (qk 50 (.fad 0) 49),dq 3 (qk 51 (.ldn 20) 50),dq 4 (qm 52 8),dq 6 (qm 54 0),dq 7 (qk 55 .nck 54),dq 8 (qk 56 (.fad 0) 55),dq 9 (qk 57 (.ldn 20) 56),dq 10 (qm 58 9),⟨5,qc 53 99 [.tmp 51,.tmp 52],true,[qk 57 (.ldn 20) 56]⟩,⟨11,qc 59 99 [.tmp 57,.tmp 58],true,[]⟩,dq 12 (qm 10 53),dq 13 (qm 11 59)]) (.seq (.drw [dq 0 (qm 60 0),dq 1 (qm 61 0),dq 2 (qk 62 .nck 61),dq 3 (qk 63 (.fad 0) 62),dq 4 (qk 64 (.ldn 20) 63),dq 5 (qm 65 0),dq 6 (qk 66 .nck 65),dq 7 (qk 67 (.fad 21) 66),dq 8 (qk 68 (.ldn 2) 67),dq 9 (qm 69 1),dq 10 (qm 70 0),dq 11 (qk 71 .nck 70),dq 12 (qk 72 (.fad 0) 71),dq 13 (qk 73 (.ldn 20) 72),dq 14 (qm 74 11),dq 15 (qm 75 2),⟨16,qc 76 101 [.tmp 73,.tmp 74,.tmp 75],true,[qk 64 (.ldn 20) 63,qk 68 (.ldn 2) 67]⟩,⟨17,qc 77 100 [.tmp 64,.tmp 68,.tmp 69,.tmp 76],true,[]⟩,dq 18 (qk 78 .nck 60),dq 19 (qk 79 (.fad 21) 78),⟨20,qs 2 79 77,true,[]⟩]) (.seq (.reg [qm 80 0,qk 81 .nck 80,qk 82 (.fad 0) 81,qk 83 (.ldn 20) 82,qm 84 10,qm 85 2,qc 86 102 [.tmp 83,.tmp 84,.tmp 85],qm 12 86]) (.seq (.seq (.reg [qm 87 0,qk 88 .nck 87,qk 89 (.fad 21) 88,qk 90 (.ldn 2) 89,qc 91 103 [.tmp 90]]) (.cond (.tmp 91) (.reg [qm 92 12,qm 93 0,qk 94 .nck 93,qk 95 (.fad 0) 94,qk 96 (.ldn 20) 95,qm 97 11,qm 98 2,qc 99 102 [.tmp 96,.tmp 97,.tmp 98],q2 100 (.mm true) 92 99,qm 12 100]) (.skip))) (.seq (.reg [qm 101 0,qc 102 92 [.tmp 101],qm 103 1,qm 104 12,qc 105 104 [.tmp 102,.tmp 103,.tmp 104]]) (.seq (.drw [dq 0 (qm 107 0),dq 1 (qm 108 0),dq 2 (qk 109 .nck 108),dq 3 (qk 110 (.fad 21) 109),dq 4 (qk 111 (.ldn 2) 110),dq 5 (qm 112 0),dq 7 (qm 114 1),⟨6,qc 113 92 [.tmp 112],true,[qk 111 (.ldn 2) 110]⟩,⟨8,qc 115 106 [.tmp 113,.tmp 114],true,[qk 111 (.ldn 2) 110]⟩,⟨9,qc 116 105 [.tmp 111,.tmp 115],true,[]⟩,dq 10 (qm 106 116),dq 11 (qk 117 (.ext 0) 106),dq 12 (qk 118 (.ext 1) 106),dq 13 (qk 119 .nck 107),dq 14 (qk 120 (.fad 21) 119),⟨15,qs 2 120 117,true,[]⟩,dq 16 (qm 12 118)]) (.seq (.drw [dq 0 (qm 121 12),dq 1 (qm 122 0),dq 2 (qk 123 .nck 122),dq 3 (qk 124 (.fad 0) 123),dq 4 (qk 125 (.ldn 20) 124),dq 7 (qm 128 0),dq 8 (qk 129 .nck 128),dq 9 (qk 130 (.fad 0) 129),dq 10 (qk 131 (.fad 8) 130),dq 11 (qk 132 .ld1 131),⟨5,qc 126 70 [.tmp 125],true,[qk 132 .ld1 131]⟩,dq 6 (q2 127 (.mm false) 121 126),dq 12 (q2 133 (.mm true) 127 132),⟨13,qm 12 133,true,[]⟩]) (.seq (.drw [dq 0 (qm 134 1),dq 1 (qm 135 8),dq 2 (qm 136 9),dq 3 (qm 137 12),dq 4 (qm 138 0),dq 5 (qk 139 .nck 138),dq 6 (qk 140 (.fad 21) 139),dq 7 (qk 141 (.ldn 2) 140),dq 9 (qm 143 0),dq 10 (qk 144 .nck 143),dq 11 (qk 145 (.fad 0) 144),dq 12 (qk 146 (.ldn 20) 145),dq 13 (qm 147 2),dq 14 (qm 148 9),⟨8,qc 142 103 [.tmp 141],true,[qk 146 (.ldn 20) 145]⟩,⟨15,qc 149 27 [.tmp 146,.tmp 147,.tmp 148],true,[]⟩,⟨16,⟨some 150,none,.op (.bld #[(.int .i64 0),(.int .i64 0),(.int .i64 0),(.int .i64 0),(.bool false),(.int .i64 0)] [(0,1),(1,1),(2,1),(3,1),(4,1),(5,1)] [0,1,2,3,4,5]) [.tmp 134,.tmp 135,.tmp 136,.tmp 137,.tmp 142,.tmp 149]⟩,false,[]⟩,⟨17,qs 6 6 150,true,[]⟩,dq 18 (qo 7 .mv [ci 0])]) (.ret))))))))))))⟩
theorem c67 : compF Tryz.prog Tryz.f67 = some ir67 := by kernel_rfl
def ir89 : FI :=
 ⟨104,[.tmp 2],.seq (.reg [qo 2 .mv [.const (.slice none 0 0)]]) (.seq (.drw [dq 0 (qm 3 0),dq 1 (qk 4 .nck 3),dq 2 (qk 5 (.fad 0) 4),dq 3 (qk 6 (.ifc 204) 5),⟨4,⟨some 7,none,.op (.bld #[(.string ⟨#[]⟩),.nilIface] [(0,1),(1,1)] [0,1]) [.const (.string ⟨#[116,97,114,103,101,116]⟩),.tmp 6]⟩,false,[]⟩,dq 5 (qm 8 0),dq 6 (qk 9 .nck 8),dq 7 (qk 10 (.fad 1) 9),dq 8 (qk 11 (.ifc 204) 10),⟨9,⟨some 12,none,.op (.bld #[(.string ⟨#[]⟩),.nilIface] [(0,1),(1,1)] [0,1]) [.const (.string ⟨#[117,116,105,108]⟩),.tmp 11]⟩,false,[]⟩,dq 10 (qm 13 0),dq 11 (qk 14 .nck 13),dq 12 (qk 15 (.fad 2) 14),dq 13 (qk 16 (.ifc 205) 15),⟨14,⟨some 17,none,.op (.bld #[(.string ⟨#[]⟩),.nilIface] [(0,1),(1,1)] [0,1]) [.const (.string ⟨#[115,116,97,98,108,101]⟩),.tmp 16]⟩,false,[]⟩,dq 15 (qm 18 0),dq 16 (qk 19 .nck 18),dq 17 (qk 20 (.fad 3) 19),dq 18 (qk 21 (.ifc 205) 20),⟨19,⟨some 22,none,.op (.bld #[(.string ⟨#[]⟩),.nilIface] [(0,1),(1,1)] [0,1]) [.const (.string ⟨#[112,97,110,105,99]⟩),.tmp 21]⟩,false,[]⟩,dq 20 (qm 23 0),dq 21 (qk 24 .nck 23),dq 22 (qk 25 (.fad 4) 24),dq 23 (qk 26 (.ifc 205) 25),⟨24,⟨some 27,none,.op (.bld #[(.string ⟨#[]⟩),.nilIface] [(0,1),(1,1)] [0,1]) [.const (.string ⟨#[103,114,97,105,110]⟩),.tmp 26]⟩,false,[]⟩,dq 25 (qm 28 0),dq 26 (qk 29 .nck 28),dq 27 (qk 30 (.fad 5) 29),dq 28 (qk 31 (.ifc 204) 30),⟨29,⟨some 32,none,.op (.bld #[(.string ⟨#[]⟩),.nilIface] [(0,1),(1,1)] [0,1]) [.const (.string ⟨#[116,104,114,101,115,104,111,108,100]⟩),.tmp 31]⟩,false,[]⟩,dq 30 (qm 33 0),dq 31 (qk 34 .nck 33),dq 32 (qk 35 (.fad 6) 34),dq 33 (qk 36 (.ifc 204) 35),⟨34,⟨some 37,none,.op (.bld #[(.string ⟨#[]⟩),.nilIface] [(0,1),(1,1)] [0,1]) [.const (.string ⟨#[117,112]⟩),.tmp 36]⟩,false,[]⟩,dq 35 (qm 38 0),dq 36 (qk 39 .nck 38),dq 37 (qk 40 (.fad 7) 39),dq 38 (qk 41 (.ifc 204) 40),⟨39,⟨some 42,none,.op (.bld #[(.string ⟨#[]⟩),.nilIface] [(0,1),(1,1)] [0,1]) [.const (.string ⟨#[100,111,119,110]⟩),.tmp 41]⟩,false,[]⟩,dq 40 (qm 43 0),dq 41 (qk 44 .nck 43),dq 42 (qk 45 (.fad 8) 44),dq 43 (qk 46 (.ifc 205) 45),⟨44,⟨some 47,none,.op (.bld #[(.string ⟨#[]⟩),.nilIface] [(0,1),(1,1)] [0,1]) [.const (.string ⟨#[109,105,110]⟩),.tmp 46]⟩,false,[]⟩,dq 45 (qm 48 0),dq 46 (qk 49 .nck 48),dq 47 (qk 50 (.fad 9) 49),dq 48 (qk 51 (.ifc 205) 50),⟨49,⟨some 52,none,.op (.bld #[(.string ⟨#[]⟩),.nilIface] [(0,1),(1,1)] [0,1]) [.const (.string ⟨#[109,97,120]⟩),.tmp 51]⟩,false,[]⟩,dq 50 (qm 53 0),dq 51 (qk 54 .nck 53),dq 52 (qk 55 (.fad 10) 54),dq 53 (qk 56 (.ifc 205) 55),⟨54,⟨some 57,none,.op (.bld #[(.string ⟨#[]⟩),.nilIface] [(0,1),(1,1)] [0,1]) [.const (.string ⟨#[105,110,105,116,105,97,108]⟩),.tmp 56]⟩,false,[]⟩,dq 55 (qm 58 0),dq 56 (qk 59 .nck 58),dq 57 (qk 60 (.fad 11) 59),dq 58 (qk 61 (.ifc 205) 60),⟨59,⟨some 62,none,.op (.bld #[(.string ⟨#[]⟩),.nilIface] [(0,1),(1,1)] [0,1]) [.const (.string ⟨#[103,114,97,99,101]⟩),.tmp 61]⟩,false,[]⟩,dq 60 (qm 63 0),dq 61 (qk 64 .nck 63),dq 62 (qk 65 (.fad 12) 64),dq 63 (qk 66 (.ifc 205) 65),⟨64,⟨some 67,none,.op (.bld #[(.string ⟨#[]⟩),.nilIface] [(0,1),(1,1)] [0,1]) [.const (.string ⟨#[100,101,108,97,121]⟩),.tmp 66]⟩,false,[]⟩,dq 65 (qm 68 0),dq 66 (qk 69 .nck 68),dq 67 (qk 70 (.fad 13) 69),dq 68 (qk 71 (.ifc 204) 70),⟨69,⟨some 72,none,.op (.bld #[(.string ⟨#[]⟩),.nilIface] [(0,1),(1,1)] [0,1]) [.const (.string ⟨#[98,117,114,115,116]⟩),.tmp 71]⟩,false,[]⟩,dq 70 (qm 73 0),dq 71 (qk 74 .nck 73),dq 72 (qk 75 (.fad 14) 74),dq 73 (qk 76 (.ifc 205) 75),⟨74,⟨some 77,none,.op (.bld #[(.string ⟨#[]⟩),.nilIface] [(0,1),(1,1)] [0,1]) [.const (.string ⟨#[108,105,109,105,116]⟩),.tmp 76]⟩,false,[]⟩,dq 75 (qm 78 0),dq 76 (qk 79 .nck 78),dq 77 (qk 80 (.fad 15) 79),dq 78 (qk 81 (.ifc 205) 80),⟨79,⟨some 82,none,.op (.bld #[(.string ⟨#[]⟩),.nilIface] [(0,1),(1,1)] [0,1]) [.const (.string ⟨#[113,117,101,117,101]⟩),.tmp 81]⟩,false,[]⟩,dq 80 (qm 83 0),dq 81 (qk 84 .nck 83),dq 82 (qk 85 (.fad 16) 84),dq 83 (qk 86 (.ifc 205) 85),⟨84,⟨some 87,none,.op (.bld #[(.string ⟨#[]⟩),.nilIface] [(0,1),(1,1)] [0,1]) [.const (.string ⟨#[116,105,109,101,111,117,116]⟩),.tmp 86]⟩,false,[]⟩,dq 85 (qm 88 0),dq 86 (qk 89 .nck 88),dq 87 (qk 90 (.fad 17) 89),dq 88 (qk 91 (.ifc 205) 90),⟨89,⟨some 92,none,.op (.bld #[(.string ⟨#[]⟩),.nilIface] [(0,1),(1,1)] [0,1]) [.const (.string ⟨#[114,101,97,100,121]⟩),.tmp 91]⟩,false,[]⟩,dq 90 (qm 93 0),dq 91 (qk 94 .nck 93),dq 92 (qk 95 (.fad 18) 94),dq 93 (qk 96 (.ifc 205) 95),⟨94,⟨some 97,none,.op (.bld #[(.string ⟨#[]⟩),.nilIface] [(0,1),(1,1)] [0,1]) [.const (.string ⟨#[115,117,98,115,101,116]⟩),.tmp 96]⟩,false,[]⟩,dq 95 (qm 98 0),dq 96 (qk 99 .nck 98),dq 97 (qk 100 (.fad 19) 99),dq 98 (qk 101 (.ifc 205) 100),⟨99,⟨some 102,none,.op (.bld #[(.string ⟨#[]⟩),.nilIface] [(0,1),(1,1)] [0,1]) [.const (.string ⟨#[115,97,109,112,108,101]⟩),.tmp 101]⟩,false,[]⟩,⟨100,⟨some 103,none,.op (.bsl 156 2 20 #[(.string ⟨#[]⟩),.nilIface,(.string ⟨#[]⟩),.nilIface,(.string ⟨#[]⟩),.nilIface,(.string ⟨#[]⟩),.nilIface,(.string ⟨#[]⟩),.nilIface,(.string ⟨#[]⟩),.nilIface,(.string ⟨#[]⟩),.nilIface,(.string ⟨#[]⟩),.nilIface,(.string ⟨#[]⟩),.nilIface,(.string ⟨#[]⟩),.nilIface,(.string ⟨#[]⟩),.nilIface,(.string ⟨#[]⟩),.nilIface,(.string ⟨#[]⟩),.nilIface,(.string ⟨#[]⟩),.nilIface,(.string ⟨#[]⟩),.nilIface,(.string ⟨#[]⟩),.nilIface,(.string ⟨#[]⟩),.nilIface,(.string ⟨#[]⟩),.nilIface,(.string ⟨#[]⟩),.nilIface,(.string ⟨#[]⟩),.nilIface] [0,1,2,3,4,5,6,7,8,9,10,11,12,13,14,15,16,17,18,19]) [.tmp 7,.tmp 12,.tmp 17,.tmp 22,.tmp 27,.tmp 32,.tmp 37,.tmp 42,.tmp 47,.tmp 52,.tmp 57,.tmp 62,.tmp 67,.tmp 72,.tmp 77,.tmp 82,.tmp 87,.tmp 92,.tmp 97,.tmp 102]⟩,true,[]⟩,dq 101 (qm 2 103)]) (.ret))⟩
theorem c89 : compF Tryz.prog Tryz.f89 = some ir89 := by kernel_rfl
def ir94 : FI :=
 ⟨19,[.tmp 6],.seq (.reg [qo 6 .mv [ci 0]]) (.seq (.seq (.reg [qm 7 0,qo 8 (.isn false) [.tmp 7,.const (.pointer none)]]) (.cond (.tmp 8) (.seq (.reg [qo 6 .mv [ci 8]]) (.ret)) (.skip))) (.seq (.reg [qm 9 0,qc 10 109 [.tmp 9,ci 0],qm 11 1,qm 12 2,qc 13 133 [.tmp 10,.tmp 11,.tmp 12]]) (.seq (.reg [qm 14 0,qc 15 109 [.tmp 14,ci 1],qm 16 1,qm 17 2,qc 18 133 [.tmp 15,.tmp 16,.tmp 17],qm 6 18]) (.ret))))⟩
theorem c94 : compF Tryz.prog Tryz.f94 = some ir94 := by kernel_rfl
def ir97 : FI :=
 ⟨33,[.tmp 4,.tmp 5],.seq (.reg [qo 4 .mv [ci 0],qo 5 .mv [ci 0]]) (.seq (.seq (.reg [qm 6 1,qi 7 (.bin .gtr) 6 0,qm 8 7,qn 9 8 true .mv 0,qn 10 8 true .mv 1,qg 11 8 true (.bin .sub) [ci 9223372036854775807,.tmp 10],qg 12 8 true (.bin .gtr) [.tmp 9,.tmp 11],qo 13 .pick [.tmp 8,.tmp 12,cb false],qm 14 13,qn 15 14 false .mv 1,qg 16 14 false (.bin .lss) [.tmp 15,ci 0],qn 17 14 false .mv 16,qn 18 17 true .mv 0,qn 19 17 true .mv 1,qg 20 17 true (.bin .sub) [ci (-9223372036854775808),.tmp 19],qg 21 17 true (.bin .lss) [.tmp 18,.tmp 20],qg 22 14 false .pick [.tmp 17,.tmp 21,cb false],qo 23 .pick [.tmp 14,cb true,.tmp 22]]) (.cond (.tmp 23) (.seq (.reg [qm 24 1,qi 25 (.bin .gtr) 24 0,qk 26 (.ifc 4) 25,qc 27 78 [.tmp 26],qk 28 (.ext 0) 27,qk 29 (.ext 1) 27,qm 4 28,qm 5 29]) (.ret)) (.skip))) (.seq (.reg [qm 30 0,qm 31 1,q2 32 (.bin .add) 30 31,qm 4 32,qo 5 .mv [ci 0]]) (.ret)))⟩
theorem c97 : compF Tryz.prog Tryz.f97 = some ir97 := by kernel_rfl
def ir100 : FI :=
 ⟨49,[.cell 8 93],.seq (.reg [qk 4 (.box 27) 0,qk 5 (.box 93) 1,⟨some 8,none,.op (.new 93 (.agg #[(.int .i64 0),(.int .i64 0)])) []⟩]) (.seq (.block 0 (.seq (.reg [qk 10 (.ldn 20) 4,qc 11 18 [.tmp 10],qk 12 .not 11,qm 13 12,qn 14 13 false .mv 2,qg 15 13 false (.bin .lss) [.tmp 14,ci 0],qo 16 .pick [.tmp 13,cb true,.tmp 15],qm 17 16,qn 18 17 false .mv 2,qg 19 17 false (.bin .gtr) [.tmp 18,ci 1099511627776],qo 20 .pick [.tmp 17,cb true,.tmp 19],qm 9 20]) (.cond (.tmp 9) (.seq (.reg [qk 21 (.ldn 2) 5,qs 2 8 21]) (.ret)) (.seq (.reg [qm 23 3,qm 24 23,qn 25 24 true (.ldn 2) 5,qh 26 24 true 103 [.tmp 25],qo 27 .pick [.tmp 24,.tmp 26,cb false],qm 22 27]) (.cond (.tmp 22) (.seq (.reg [qm 28 2,qk 29 (.fad 0) 5,qs 1 29 28]) (.seq (.reg [qk 30 (.ldn 2) 5,qs 2 8 30]) (.ret))) (.seq (.reg [qm 32 3,qm 31 32]) (.cond (.tmp 31) (.seq (.reg [qm 33 2,⟨some 34,none,.op (.bld #[(.int .i64 0),(.int .i64 0)] [(0,1),(1,1)] [0]) [.tmp 33]⟩,qs 2 8 34]) (.ret)) (.seq (.reg [qk 36 (.ldn 2) 5,qc 37 103 [.tmp 36],qm 38 37,qn 39 38 true .mv 2,qn 40 38 true (.fad 0) 5,qn 41 38 true .ld1 40,qg 42 38 true (.bin .sub) [.tmp 39,.tmp 41],qn 43 38 true (.fad 2) 4,qn 44 38 true .ld1 43,qg 45 38 true (.bin .geq) [.tmp 42,.tmp 44],qo 46 .pick [.tmp 38,.tmp 45,cb false],qm 35 46]) (.cond (.tmp 35) (.seq (.reg [qc 47 46 [],qs 2 8 47]) (.ret)) (.skip)))))))))) (.seq (.reg [qk 48 (.ldn 2) 5,qs 2 8 48]) (.ret)))⟩
theorem c100 : compF Tryz.prog Tryz.f100 = some ir100 := by kernel_rfl
def ir103 : FI :=
 ⟨6,[.tmp 2],.seq (.reg [qk 1 (.box 93) 0,qo 2 .mv [cb false]]) (.seq (.reg [qk 3 (.ldn 2) 1,qk 4 (.ifc 93) 3,qc 5 143 [.tmp 4],qm 2 5]) (.ret))⟩
theorem c103 : compF Tryz.prog Tryz.f103 = some ir103 := by kernel_rfl
def ir108 : FI :=
 ⟨53,[.tmp 12],.seq (.reg [qk 6 (.box 27) 0,qk 7 (.box 61) 1,qo 12 .mv [cb false]]) (.seq (.reg [qk 14 (.ldn 1) 7,qk 15 (.ifc 61) 14,qc 16 107 [.tmp 15],qm 13 16]) (.seq (.reg [qk 17 (.ldn 20) 6,qc 18 18 [.tmp 17],qm 19 18,qn 20 19 true (.fad 8) 6,qn 21 19 true .ld1 20,qg 22 19 true (.bin .eql) [.tmp 21,ci 0],qo 23 .pick [.tmp 19,.tmp 22,cb false],qm 24 23,qn 25 24 true .mv 3,qg 26 24 true (.bin .eql) [.tmp 25,ci 0],qo 27 .pick [.tmp 24,.tmp 26,cb false],qm 28 27,qn 29 28 true .mv 4,qg 30 28 true (.bin .eql) [.tmp 29,ci 0],qo 31 .pick [.tmp 28,.tmp 30,cb false],qm 32 31,qn 33 32 true .mv 5,qg 34 32 true (.bin .eql) [.tmp 33,ci 0],qo 35 .pick [.tmp 32,.tmp 34,cb false],qm 36 35,qn 37 36 true .mv 13,qg 38 36 true (.bin .geq) [.tmp 37,ci 0],qo 39 .pick [.tmp 36,.tmp 38,cb false],qm 40 39,qn 41 40 true .mv 2,qn 42 40 true .mv 13,qg 43 40 true (.bin .geq) [.tmp 41,.tmp 42],qo 44 .pick [.tmp 40,.tmp 43,cb false],qm 45 44,qn 46 45 true .mv 2,qn 47 45 true .mv 13,qg 48 45 true (.bin .sub) [.tmp 46,.tmp 47],qn 49 45 true (.fad 11) 6,qn 50 45 true .ld1 49,qg 51 45 true (.bin .geq) [.tmp 48,.tmp 50],qo 52 .pick [.tmp 45,.tmp 51,cb false],qm 12 52]) (.ret)))⟩
theorem c108 : compF Tryz.prog Tryz.f108 = some ir108 := by kernel_rfl
def ir120 : FI :=
 ⟨11,[.tmp 3],.seq (.reg [qo 3 .mv [cb false]]) (.seq (.drw [dq 0 (qm 4 0),dq 1 (qk 5 (.tas 98 false .nilIface) 4),dq 2 (qk 6 .nck 5),dq 3 (qk 7 (.fad 0) 6),dq 4 (qk 8 .ld1 7),dq 5 (qk 9 .ld1 1),dq 6 (q2 10 (.bin .eql) 8 9),dq 7 (qm 3 10)]) (.ret))⟩
theorem c120 : compF Tryz.prog Tryz.f120 = some ir120 := by kernel_rfl
def ir130 : FI :=
 ⟨55,[.tmp 2,.tmp 3],.seq (.reg [qo 2 .mv [ci 0],qo 3 .mv [cb false]]) (.seq (.reg [qm 13 0,⟨some 14,none,.call 162 [.tmp 13,.const (.string ⟨#[45]⟩)]⟩,qm 12 14,qk 15 (.ext 0) 12,qk 16 (.ext 1) 12,qm 0 15,qm 4 16]) (.seq (.reg [qm 18 0,⟨some 19,none,.call 88 [.tmp 18,.const (.string ⟨#[46]⟩)]⟩,qm 17 19,qk 20 (.ext 0) 17,qk 21 (.ext 1) 17,qk 22 (.ext 2) 17,qm 5 20,qm 6 21,qm 7 22]) (.seq (.reg [qm 24 5,qc 25 131 [.tmp 24,ci 9],qm 23 25,qk 26 (.ext 0) 23,qk 27 (.ext 1) 23,qm 8 26,qm 9 27]) (.seq (.seq (.reg [qm 28 9,qk 29 .not 28]) (.cond (.tmp 29) (.seq (.reg [qo 2 .mv [ci 0],qo 3 .mv [cb false]]) (.ret)) (.skip))) (.seq (.reg [qm 30 8,qi 31 (.bin .mul) 30 1000,qm 8 31]) (.seq (.seq (.reg [qm 32 7]) (.cond (.tmp 32) (.seq (.reg [qm 34 6,qc 35 131 [.tmp 34,ci 3],qm 33 35,qk 36 (.ext 0) 33,qk 37 (.ext 1) 33,qm 10 36,qm 11 37]) (.seq (.seq (.reg [qm 38 11,qk 39 .not 38]) (.cond (.tmp 39) (.seq (.reg [qo 2 .mv [ci 0],qo 3 .mv [cb false]]) (.ret)) (.skip))) (.seq (.seq (.reg [qm 40 6,qk 41 .lens 40,qo 42 (.bin .sub) [ci 3,.tmp 41],qo 43 .mv [ci 0]]) (.block 0 (.loop (.seq (.reg [q2 44 (.bin .lss) 43 42]) (.seq (.cond (.tmp 44) (.skip) (.exit 0)) (.seq (.block 1 (.reg [qm 45 10,qi 46 (.bin .mul) 45 10,qm 10 46])) (.reg [qi 47 (.bin .add) 43 1,qm 43 47]))))))) (.reg [qm 48 8,qm 49 10,q2 50 (.bin .add) 48 49,qm 8 50])))) (.skip))) (.seq (.seq (.reg [qm 51 4]) (.cond (.tmp 51) (.reg [qm 52 8,qk 53 .neg 52,qm 8 53]) (.skip))) (.seq (.reg [qm 54 8,qm 2 54,qo 3 .mv [cb true]]) (.ret)))))))))⟩
theorem c130 : compF Tryz.prog Tryz.f130 = some ir130 := by kernel_rfl
def ir134 : FI :=
 ⟨23,[.tmp 2],.seq (.reg [qo 2 .mv [ci 0]]) (.seq (.block 0 (.seq (.reg [qm 4 0,qi 5 (.bin .lss) 4 1,qm 3 5]) (.cond (.tmp 3) (.seq (.reg [qo 2 .mv [ci 0]]) (.ret)) (.seq (.reg [qm 7 0,qi 8 (.bin .leq) 7 3,qm 6 8]) (.cond (.tmp 6) (.seq (.reg [qm 9 0,qm 2 9]) (.ret)) (.seq (.reg [qm 11 0,qi 12 (.bin .gtr) 11 208,qm 10 12]) (.cond (.tmp 10) (.seq (.reg [qo 2 .mv [ci 16]]) (.ret)) (.skip)))))))) (.seq (.reg [qm 13 0,qo 14 (.bin .mul) [ci 16,.tmp 13],qm 15 0,q2 16 (.bin .add) 14 15,qi 17 (.bin .add) 16 13,qi 18 (.bin .sub) 17 1,qm 19 0,qi 20 (.bin .add) 19 13,q2 21 (.bin .quo) 18 20,qo 22 (.mm true) [ci 3,.tmp 21],qm 2 22]) (.ret)))⟩
theorem c134 : compF Tryz.prog Tryz.f134 = some ir134 := by kernel_rfl
def ir140 : FI :=
 ⟨19,[.tmp 4],.seq (.reg [qo 4 .mv [ci 0]]) (.seq (.reg [qm 8 0,⟨some 9,none,.op (.tas 2 true (.int .i64 0)) [.tmp 8]⟩,qm 7 9,qk 10 (.ext 0) 7,qk 11 (.ext 1) 7,qm 5 10,qm 6 11]) (.seq (.seq (.reg [qm 12 6,qk 13 .not 12]) (.cond (.tmp 13) (.reg [qm 14 0,qk 15 (.tas 3 false .nilIface) 14,qm 5 15]) (.skip))) (.seq (.reg [qm 16 5,qm 17 1,qc 18 170 [.tmp 16,.tmp 17,ci 1000000],qm 4 18]) (.ret))))⟩
theorem c140 : compF Tryz.prog Tryz.f140 = some ir140 := by kernel_rfl
def ir142 : FI :=
 ⟨22,[.tmp 4],.seq (.reg [qk 2 (.box 27) 0,qo 4 .mv [ci 0]]) (.seq (.seq (.reg [qk 7 (.ldn 20) 2,qc 8 18 [.tmp 7],qk 9 .not 8]) (.cond (.tmp 9) (.seq (.reg [qo 4 .mv [ci 0]]) (.ret)) (.skip))) (.seq (.drw [dq 0 (qk 11 (.fad 6) 2),dq 1 (qk 12 .ld1 11),dq 2 (qm 13 1),dq 3 (qk 14 (.ifc 3) 13),⟨4,qc 15 172 [.tmp 14,ci 1],true,[qk 12 .ld1 11]⟩,dq 5 (q2 16 (.bin .mul) 12 15),⟨6,qc 17 138 [.tmp 16,ci 1000],true,[]⟩,dq 7 (qm 10 17),dq 8 (qk 18 (.ext 0) 10),dq 9 (qk 19 (.ext 1) 10),dq 10 (qm 5 18),dq 11 (qm 6 19)]) (.seq (.reg [qm 20 5,qi 21 (.mm false) 20 1000000,qm 4 21]) (.ret))))⟩
theorem c142 : compF Tryz.prog Tryz.f142 = some ir142 := by kernel_rfl
def ir144 : FI :=
 ⟨42,[.tmp 4],.seq (.reg [qo 4 .mv [.const (.slice none 0 0)]]) (.seq (.reg [qm 8 0,qm 9 1,qc 10 119 [.tmp 8,.tmp 9],qm 5 10]) (.seq (.seq (.reg [qm 11 5,qi 12 (.bin .eql) 11 (-1)]) (.cond (.tmp 12) (.seq (.reg [qm 13 0,qm 4 13]) (.ret)) (.skip))) (.seq (.seq (.reg [qm 14 5,qi 15 (.bin .add) 14 1,qm 6 15]) (.block 0 (.loop (.seq (.seq (.reg [qm 16 6,qm 17 0,qk 18 .len 17,q2 19 (.bin .lss) 16 18]) (.cond (.tmp 19) (.skip) (.exit 0))) (.seq (.block 1 (.seq (.reg [qm 22 0,qm 23 6,q2 24 (.iad 1) 22 23,qk 25 .ld1 24,qm 7 25]) (.seq (.reg [qm 26 1,qm 27 7,⟨some 28,none,.callv (.tmp 26) [.tmp 27]⟩,qk 29 .not 28]) (.cond (.tmp 29) (.seq (.reg [qm 30 0,qm 31 5,qm 32 7,q2 33 (.iad 1) 30 31,qs 1 33 32]) (.reg [qm 34 5,qi 35 (.bin .add) 34 1,qm 5 35])) (.skip))))) (.reg [qm 20 6,qi 21 (.bin .add) 20 1,qm 6 21])))))) (.seq (.reg [qm 36 0,qm 37 5,q2 38 (.slc 1 true false false) 36 37,⟨none,none,.op (.clr 1 .nilIface) [.tmp 38]⟩]) (.seq (.reg [qm 39 0,qm 40 5,q2 41 (.slc 1 false true false) 39 40,qm 4 41]) (.ret))))))⟩
theorem c144 : compF Tryz.prog Tryz.f144 = some ir144 := by kernel_rfl
def ir145 : FI :=
 ⟨20,[.tmp 3],.seq (.reg [qo 3 .mv [cb false]]) (.seq (.reg [qm 7 0,⟨some 8,none,.op (.tas 220 true (.agg #[(.int .i64 0),(.int .i64 0)])) [.tmp 7]⟩,qm 6 8,qk 9 (.ext 0) 6,qk 10 (.ext 1) 6,⟨some 4,none,.op (.new 220 (.agg #[(.int .i64 0),(.int .i64 0)])) []⟩,qs 2 4 9,qm 5 10]) (.seq (.reg [qm 11 5,qk 12 .not 11,qm 13 12,qn 14 13 false .ld1 1,qn 15 13 false (.fad 0) 4,qn 16 13 false .ld1 15,qg 17 13 false (.bin .sub) [.tmp 14,.tmp 16],qg 18 13 false (.bin .gtr) [.tmp 17,ci 600],qo 19 .pick [.tmp 13,cb true,.tmp 18],qm 3 19]) (.ret)))⟩
theorem c145 : compF Tryz.prog Tryz.f145 = some ir145 := by kernel_rfl
def ir168 : FI :=
 ⟨23,[.tmp 4,.tmp 5],.seq (.reg [qo 4 .mv [ci 0],qo 5 .mv [ci 0]]) (.seq (.block 0 (.seq (.reg [qm 7 1,qi 8 (.bin .eql) 7 0,qm 6 8]) (.cond (.tmp 6) (.seq (.reg [qo 4 .mv [ci 0],qo 5 .mv [ci 3]]) (.ret)) (.seq (.reg [qm 10 0,qi 11 (.bin .eql) 10 (-9223372036854775808),qm 12 11,qn 13 12 true .mv 1,qg 14 12 true (.bin .eql) [.tmp 13,ci (-1)],qo 15 .pick [.tmp 12,.tmp 14,cb false],qm 9 15]) (.cond (.tmp 9) (.seq (.reg [qo 16 (.ifc 4) [cb true],qc 17 78 [.tmp 16],qk 18 (.ext 0) 17,qk 19 (.ext 1) 17,qm 4 18,qm 5 19]) (.ret)) (.skip)))))) (.seq (.reg [qm 20 0,qm 21 1,q2 22 (.bin .quo) 20 21,qm 4 22,qo 5 .mv [ci 0]]) (.ret)))⟩
theorem c168 : compF Tryz.prog Tryz.f168 = some ir168 := by kernel_rfl
def ir197 : FI :=
 ⟨34,[.tmp 4],.seq (.reg [qo 4 .mv [cb false]]) (.seq (.reg [qm 8 0,⟨some 9,none,.op (.tas 163 true (.agg #[(.int .i64 0),(.int .i64 0),(.int .i64 0)])) [.tmp 8]⟩,qm 7 9,qk 10 (.ext 0) 7,qk 11 (.ext 1) 7,⟨some 5,none,.op (.new 163 (.agg #[(.int .i64 0),(.int .i64 0),(.int .i64 0)])) []⟩,qs 3 5 10,qm 6 11]) (.seq (.reg [qm 12 6,qm 13 12,qn 14 13 true (.fad 0) 5,qn 15 13 true .ld1 14,qg 16 13 true (.bin .geq) [.tmp 15,ci 0],qo 17 .pick [.tmp 13,.tmp 16,cb false],qm 18 17,qn 19 18 true (.fad 1) 5,qn 20 18 true .ld1 19,qg 21 18 true (.bin .geq) [.tmp 20,ci 0],qo 22 .pick [.tmp 18,.tmp 21,cb false],qm 23 22,qn 24 23 true (.fad 2) 5,qn 25 23 true .ld1 24,qg 26 23 true (.bin .geq) [.tmp 25,ci 0],qo 27 .pick [.tmp 23,.tmp 26,cb false],qm 28 27,qn 29 28 true (.fad 1) 5,qn 30 28 true .ld1 29,qn 31 28 true .mv 1,qg 32 28 true (.bin .geq) [.tmp 30,.tmp 31],qo 33 .pick [.tmp 28,.tmp 32,cb false],qm 4 33]) (.ret)))⟩
theorem c197 : compF Tryz.prog Tryz.f197 = some ir197 := by kernel_rfl
def ir198 : FI :=
 ⟨10,[.tmp 2],.seq (.reg [qo 2 .mv [.const (.int .u64 0)]]) (.seq (.seq (.reg [qm 3 0,qi 4 (.bin .lss) 3 0]) (.cond (.tmp 4) (.seq (.reg [qm 5 0,qk 6 (.cvt .u64) 5,qk 7 .neg 6,qm 2 7]) (.ret)) (.skip))) (.seq (.reg [qm 8 0,qk 9 (.cvt .u64) 8,qm 2 9]) (.ret)))⟩
theorem c198 : compF Tryz.prog Tryz.f198 = some ir198 := by kernel_rfl
end Go.Proofs.YtelmcfnkclihcaaGreatDoorW.Am
namespace Go.Proofs.YtelmcfnkclihcaaGreatDoorW.Am
open Go Go.RowKit
section
section
variable {P : Program}
theorem ps_bind [Fl] {α β : Type} (s : Sem α) (f : α → Sem β) : pureSem P (s >>= f) = (pureSem P s).bind fun a => pureSem P (f a) := by
 show pureSem P (Sem.bind s f) = _
 induction s with
 | pure a => rfl
 | program k ih => simp only [Sem.bind,pureSem]; exact ih P
 | _ => rfl
inductive SK
 | int (k : IntKind)
 | bool
 | str
def skOf (P : Program) (t : TypeId) : Option SK := match P.underlying t with
 | some (.int k) => some (.int k)
 | some .bool => some .bool
 | some .string => some .str
 | _ => none
def skOk : SK → Value → Bool
 | .int k,.int k' _ => decide (k = k')
 | .bool,.bool _ => true
 | .str,.string _ => true
 | _,_ => false
def skAll : List SK → List Value → Bool
 | [],[] => true
 | k :: ks,v :: vs => skOk k v && skAll ks vs
 | _,_ => false
def eqV : Value → Value → Bool
 | .int _ a,.int _ b => a == b
 | .bool a,.bool b => a == b
 | .string a,.string b => a == b
 | _,_ => false
def eqL : List Value → List Value → Bool
 | x :: xs,y :: ys => eqV x y && eqL xs ys
 | _,_ => true
theorem eqV_iff [Fl] {k : SK} {x y : Value} (hx : skOk k x = true) (hy : skOk k y = true) : eqV x y = true ↔ x = y := by
 cases k <;> cases x <;> simp only [skOk,Bool.false_eq_true,decide_eq_true_eq] at hx <;> cases y <;> simp only [skOk,Bool.false_eq_true,decide_eq_true_eq] at hy
 ·subst hx; subst hy; simp [eqV]
 ·simp [eqV]
 ·simp only [eqV,Value.string.injEq]
  rw [beq_toListBytes,beq_iff_eq,ByteArray.toList_eq,ByteArray.toList_eq]
  constructor
  ·intro e; exact ByteArray.ext (Array.ext' e)
  ·intro e; rw [e]
theorem eqL_iff [Fl] : ∀ {ks : List SK} {xs ys : List Value},skAll ks xs = true → skAll ks ys = true → (eqL xs ys = true ↔ xs = ys)
 | [],xs,ys,hx,hy => by cases xs <;> cases ys <;> simp_all [skAll,eqL]
 | k :: ks,xs,ys,hx,hy => by
  cases xs with
  | nil => cases hx
  | cons x xs =>
   cases ys with
   | nil => cases hy
   | cons y ys =>
    simp only [skAll,Bool.and_eq_true] at hx hy
    simp only [eqL,Bool.and_eq_true,List.cons.injEq]
    rw [eqV_iff hx.1 hy.1,eqL_iff hx.2 hy.2]
theorem ps_underlying [Fl] {t : TypeId} {d : TypeDesc} (h : P.underlying t = some d) : pureSem P (underlying t) = some d := by
 simp [underlying,program,pureSem,h,ps_bind]; rfl
theorem ps_sc [Fl] (d : Nat) {t : TypeId} {k : SK} {x y : Value} (hk : skOf P t = some k) (hx : skOk k x = true) (hy : skOk k y = true) : pureSem P (Op.equalIn (d + 1) t x y) = some (eqV x y) := by
 unfold skOf at hk
 split at hk <;> (try cases hk) <;> rename_i hu <;> cases x <;> simp only [skOk,Bool.false_eq_true,decide_eq_true_eq] at hx <;> cases y <;> simp only [skOk,Bool.false_eq_true,decide_eq_true_eq] at hy
 ·subst hx; subst hy; simp only [Op.equalIn,ps_bind,ps_underlying hu,Option.bind_some]; simp [eqV]; rfl
 ·simp only [Op.equalIn,ps_bind,ps_underlying hu,Option.bind_some]; rfl
 ·simp only [Op.equalIn,ps_bind,ps_underlying hu,Option.bind_some]; rfl
theorem ps_part [Fl] {t : TypeId} {k : SK} (hk : skOf P t = some k) {cs : Array Value} {off : Nat} {v : Value} (hv : cs[off]? = some v) : pureSem P (part t cs off) = some v := by
 have ha : pureSem P (isAgg t) = some false := by
  unfold skOf at hk
  unfold isAgg
  split at hk <;> (try cases hk) <;> rename_i hu <;> simp only [ps_bind,ps_underlying hu,Option.bind_some] <;> rfl
 unfold part
 simp only [ps_bind,ha,Option.bind_some,Bool.false_eq_true,if_false,hv]
 rfl
def skFs (P : Program) : Nat → List Field → Option (List SK)
 | _,[] => some []
 | i, f :: fs => if f.offset = i ∧ f.name ≠ "_" then (match skOf P f.type, skFs P (i + 1) fs with
  | some k,some ks => some (k :: ks)
  | _,_ => none) else none
def skTab (P : Program) (t : TypeId) : Option (List SK) := match P.underlying t with
 | some (.struct fs) => if P.stoodInHeld t = false ∧ P.eqGuardType P.depth t = false then skFs P 0 fs.toList else none
 | _ => none
theorem ps_fields [Fl] (d : Nat) : ∀ (fs : List Field) (i : Nat) (ks : List SK) (px py xs ys : List Value),px.length = i → py.length = i → skFs P i fs = some ks → skAll ks xs = true → skAll ks ys = true →
  pureSem P (Op.eqFields (d + 1) ⟨px ++ xs⟩ ⟨py ++ ys⟩ fs) = some (eqL xs ys) := by
 intro fs
 induction fs with
 | nil =>
  intro i ks px py xs ys _ _ hk hx hy
  cases hk
  cases xs <;> cases ys <;> simp_all [skAll,Op.eqFields,eqL] <;> rfl
 | cons f fs ih =>
  intro i ks px py xs ys hpx hpy hk hx hy
  simp only [skFs] at hk
  split at hk
  case isFalse => cases hk
  case isTrue hf =>
  split at hk
  case h_2 => cases hk
  case h_1 k ks' h1 h2 =>
  cases hk
  cases xs with
  | nil => cases hx
  | cons x xs =>
   cases ys with
   | nil => cases hy
   | cons y ys =>
    simp only [skAll,Bool.and_eq_true] at hx hy
    have gx : (⟨px ++ x :: xs⟩ : Array Value)[f.offset]? = some x := by simp [hf.1,← hpx]
    have gy : (⟨py ++ y :: ys⟩ : Array Value)[f.offset]? = some y := by simp [hf.1,← hpy]
    simp only [Op.eqFields,if_pos hf.2,ps_bind,ps_part h1 gx,ps_part h1 gy,Option.bind_some,ps_sc d h1 hx.1 hy.1]
    cases hb : eqV x y
    ·simp [eqL,hb]; rfl
    ·simp only [Bool.not_true,Bool.false_eq_true,if_false,eqL,hb,Bool.true_and]
     have := ih (i + 1) ks' (px ++ [x]) (py ++ [y]) xs ys (by simp [hpx]) (by simp [hpy]) h2 hx.2 hy.2
     simpa using this
theorem ps_pure [Fl] {α : Type} (a : α) : pureSem P (pure a : Sem α) = some a := rfl
theorem ps_program [Fl] : pureSem P program = some P := rfl
theorem ps_ite [Fl] {α : Type} (c : Prop) [Decidable c] (a b : Sem α) : pureSem P (if c then a else b) = if c then pureSem P a else pureSem P b := by split <;> rfl
theorem ps_struct [Fl] (d : Nat) {t : TypeId} {fs : Array Field} (xs ys : Array Value) (hu : P.underlying t = some (.struct fs)) (hp : P.stoodInHeld t = false) : pureSem P (Op.equalIn (d + 1) t (.agg xs) (.agg ys)) = pureSem P (Op.eqFields d xs ys fs.toList) := by
 simp only [Op.equalIn,ps_bind,ps_underlying hu,Option.bind_some,ps_program,hp,Bool.false_eq_true,if_false]
 rw [← Array.forIn_toList]
 generalize fs.toList = fs
 induction fs with
 | nil => rfl
 | cons f fs ih =>
  simp only [List.forIn_cons,Op.eqFields,ps_bind,ps_ite]
  split
  ·generalize pureSem P (part f.type xs f.offset) = r1
   cases r1 with
   | none => rfl
   | some a =>
    simp only [Option.bind_some]
    generalize pureSem P (part f.type ys f.offset) = r2
    cases r2 with
    | none => rfl
    | some b =>
     simp only [Option.bind_some]
     generalize pureSem P (Op.equalIn d f.type a b) = r3
     cases r3 with
     | none => rfl
     | some r =>
      cases r
      ·rfl
      ·simp only [Option.bind_some,Bool.not_true,Bool.false_eq_true,if_false,ps_pure]
       exact ih
  ·simp only [ps_pure,Option.bind_some]
   exact ih
theorem ps_eq [Fl] {t : TypeId} {ks : List SK} {xs ys : List Value} (ht : skTab P t = some ks) (hx : skAll ks xs = true) (hy : skAll ks ys = true) (op : BinOp) (ho : op = .eql ∨ op = .neq) (x y : Operand) :
  pureSem P (do eqGuard op t x y (.agg ⟨xs⟩) (.agg ⟨ys⟩); binOp op t (.agg ⟨xs⟩) (.agg ⟨ys⟩)) = some (.bool (if op = .eql then eqL xs ys else !eqL xs ys)) := by
 unfold skTab at ht
 split at ht
 case h_2 => cases ht
 case h_1 fs hu =>
 split at ht
 case isFalse => cases ht
 case isTrue hp =>
 have he : pureSem P (Op.equal t (.agg ⟨xs⟩) (.agg ⟨ys⟩)) = some (eqL xs ys) := by
  show pureSem P (Op.equalIn (9999 + 1) t (.agg ⟨xs⟩) (.agg ⟨ys⟩)) = _
  rw [ps_struct 9999 _ _ hu hp.1]
  have := ps_fields 9998 fs.toList 0 ks [] [] xs ys rfl rfl ht hx hy
  simpa using this
 have hg : pureSem P (eqGuard op t x y (.agg ⟨xs⟩) (.agg ⟨ys⟩)) = some () := by
  rcases ho with rfl | rfl <;> simp [eqGuard,ps_bind,ps_program,hp.2,ps_pure]
 rw [ps_bind,hg,Option.bind_some]
 rcases ho with rfl | rfl
 ·simp only [binOp,ps_bind,he,Option.bind_some,if_true]; rfl
 ·simp only [binOp,ps_bind,he,Option.bind_some]; rfl
theorem sk_flatN [Fl] {n : Nat} : ∀ {ks : List SK} {vs : List Value},skAll ks vs = true → vs.all (flatN (n + 1)) = true
 | [],vs,h => by cases vs <;> simp_all [skAll]
 | k :: ks,vs,h => by
  cases vs with
  | nil => cases h
  | cons v vs =>
   simp only [skAll,Bool.and_eq_true] at h
   simp only [List.all_cons,Bool.and_eq_true]
   refine ⟨?_,sk_flatN h.2⟩
   cases k <;> cases v <;> first | rfl | exact absurd h.1 Bool.false_ne_true
theorem sk_flat [Fl] {ks : List SK} {vs : List Value} (h : skAll ks vs = true) : flat (.agg ⟨vs⟩) = true := by
 show (⟨vs⟩ : Array Value).toList.all (flatN 7) = true
 exact sk_flatN (n := 6) h
theorem w_eqS [Fl] {CT : CTy} {env : Env} {h : Hp} {d : Option Nat} {R : Value → Hp → Prop} {t u ty : TypeId} {x y : Operand} {ks : List SK} {xs ys : List Value} (ex : evA env x = some (.agg ⟨xs⟩)) (ey : evA env y = some (.agg ⟨ys⟩)) (ht : skTab P t = some ks) (hx : skAll ks xs = true) (hy : skAll ks ys = true)
  (n : ∀ b : Bool,(b = true ↔ xs = ys) → R (.bool b) h) : WI P CT ⟨d,none,.fl (.binOp .eql t x y u) ty⟩ env h R := by
 refine ⟨?_⟩
 unfold wpIn
 have hs : flatStep P env (.binOp .eql t x y u) ty = some (.bool (eqL xs ys)) := by
  have fx := sk_flat hx
  have fy := sk_flat hy
  unfold flatStep
  have ha : allFlat env (Op.binOp .eql t x y u).operands.toList = true := by
   simp [allFlat,Op.operands,ex,ey,fx,fy]
  rw [if_pos ha]
  have he : pureSem P (execOp (fun x => (evA env x).getD undef) ⟨none, .binOp .eql t x y u, ty, "", #[], none⟩) = some (.value (.bool (eqL xs ys))) := by
   simp only [execOp,ex,ey,Option.getD_some]
   rw [ps_bind,ps_eq ht hx hy .eql (.inl rfl) x y]
   rfl
  rw [he]
  rfl
 simp only [wanted,hs]
 exact n _ (eqL_iff hx hy)
theorem w_neS [Fl] {CT : CTy} {env : Env} {h : Hp} {d : Option Nat} {R : Value → Hp → Prop} {t u ty : TypeId} {x y : Operand} {ks : List SK} {xs ys : List Value} (ex : evA env x = some (.agg ⟨xs⟩)) (ey : evA env y = some (.agg ⟨ys⟩)) (ht : skTab P t = some ks) (hx : skAll ks xs = true) (hy : skAll ks ys = true)
  (n : ∀ b : Bool,(b = true ↔ xs ≠ ys) → R (.bool b) h) : WI P CT ⟨d,none,.fl (.binOp .neq t x y u) ty⟩ env h R := by
 refine ⟨?_⟩
 unfold wpIn
 have hs : flatStep P env (.binOp .neq t x y u) ty = some (.bool (!eqL xs ys)) := by
  have fx := sk_flat hx
  have fy := sk_flat hy
  unfold flatStep
  have ha : allFlat env (Op.binOp .neq t x y u).operands.toList = true := by
   simp [allFlat,Op.operands,ex,ey,fx,fy]
  rw [if_pos ha]
  have he : pureSem P (execOp (fun x => (evA env x).getD undef) ⟨none, .binOp .neq t x y u, ty, "", #[], none⟩) = some (.value (.bool (!eqL xs ys))) := by
   simp only [execOp,ex,ey,Option.getD_some]
   rw [ps_bind,ps_eq ht hx hy .neq (.inr rfl) x y]
   rfl
  rw [he]
  rfl
 simp only [wanted,hs]
 refine n _ ?_
 rw [Bool.not_eq_true',← Bool.not_eq_true,eqL_iff hx hy]
end
end
end Go.Proofs.YtelmcfnkclihcaaGreatDoorW.Am
namespace Go.Proofs.YtelmcfnkclihcaaGreatDoorW.Am
noncomputable abbrev PX := Tryz.prog
end Go.Proofs.YtelmcfnkclihcaaGreatDoorW.Am
namespace Go.Proofs.YtelmcfnkclihcaaGreatDoorW.Am
open Go
structure Cf20 where
 (target util stable panic grain threshold up down min max initial grace delay burst limit queue timeout ready subset sample : Int)
def inB (n lo hi : Int) : Bool := decide (lo ≤ n) && decide (n ≤ hi)
def wrB (c : Cf20) (b1 b2 : Bool) : List (ByteArray × Bool) := [(⟨#[116,97,114,103,101,116]⟩,inB c.target 10 1000000),(⟨#[117,116,105,108]⟩,inB c.util 100 1000),(⟨#[115,116,97,98,108,101]⟩,inB c.stable 6 600),(⟨#[112,97,110,105,99]⟩,inB c.panic 1 c.stable),(⟨#[103,114,97,105,110]⟩,inB c.grain 1 c.panic),(⟨#[116,104,114,101,115,104,111,108,100]⟩,inB c.threshold 1100 10000),(⟨#[117,112]⟩,inB c.up 1001 1000000),(⟨#[100,111,119,110]⟩,inB c.down 1001 1000000),(⟨#[109,105,110]⟩,inB c.min 0 100),(⟨#[109,97,120]⟩,(b1 || inB c.max (if 1 > c.min then 1 else c.min) 100)),(⟨#[105,110,105,116,105,97,108]⟩,inB c.initial 0 (if c.max = 0 then 100 else c.max)),(⟨#[103,114,97,99,101]⟩,inB c.grace 0 600),(⟨#[100,101,108,97,121]⟩,inB c.delay 0 600),(⟨#[98,117,114,115,116]⟩,(b2 || inB c.burst 0 100000000)),(⟨#[108,105,109,105,116]⟩,inB c.limit 1 1000),(⟨#[113,117,101,117,101]⟩,inB c.queue 0 200),(⟨#[116,105,109,101,111,117,116]⟩,inB c.timeout 1 10000),(⟨#[114,101,97,100,121]⟩,inB c.ready 0 100),(⟨#[115,117,98,115,101,116]⟩,inB c.subset 0 100),(⟨#[115,97,109,112,108,101]⟩,inB c.sample 0 100)]
def wrL (c : Cf20) : List (ByteArray × Bool) := wrB c (c.max == 0) (c.burst == -1000)
def wrongF : List (ByteArray × Bool) → ByteArray
 | [] => ⟨#[]⟩
 | (s,b) :: r => if b = true then wrongF r else s
def mayB (c : Cf20) : Bool := (wrL c).all fun p => p.2
def vl (c : Cf20) : List Int := [c.target,c.util,c.stable,c.panic,c.grain,c.threshold,c.up,c.down,c.min,c.max,c.initial,c.grace,c.delay,c.burst,c.limit,c.queue,c.timeout,c.ready,c.subset,c.sample]
abbrev Pd := Int × Int × Int × Int
abbrev p0 : Pd := (0,0,0,0)
def cF (l : List Pd) : Nat := (l.filter fun p => decide (p.2.1 ≠ 3)).length
def rF (l : List Pd) : List Int := (l.filter fun p => decide (p.2.1 = 2)).map (·.1)
def rpF (now after : Int) (v : Pd) : Pd := if v.2.1 = 1 ∧ v.2.2.2 + after ≤ now then (v.1,2,v.2.2.1,v.2.2.2) else v
def nxS (l : List Pd) (best : Int) (k : Nat) (p : Pd) : Int :=
 if p.2.1 = 3 then best else if best < 0 then k else
  if p.2.1 = 1 ∨ ((l.getD best.toNat (0,0,0,0)).2.1 = 2 ∧ p.2.2.1 ≤ (l.getD best.toNat (0,0,0,0)).2.2.1) then k else best
def nxF (l : List Pd) : Nat → Int
 | 0 => -1
 | i + 1 => nxS l (nxF l i) i (l.getD i (0,0,0,0))
def newF (made now : Int) (k : Nat) : List Pd := (List.range k).map fun (i : Nat) => (made + i,1,0,now)
def dnF (now : Int) (l : List Pd) : List Pd :=
 if (l.getD (nxF l l.length).toNat p0).2.2.1 = 0 then l.take (nxF l l.length).toNat ++ l.drop ((nxF l l.length).toNat + 1)
 else l.set (nxF l l.length).toNat ((l.getD (nxF l l.length).toNat p0).1,3,(l.getD (nxF l l.length).toNat p0).2.2.1,now)
def dnN (now : Int) (l : List Pd) : Nat → List Pd
 | 0 => l
 | k + 1 => dnF now (dnN now l k)
def scL (made now : Int) (w : Nat) (l : List Pd) : List Pd := if cF l ≤ w then l ++ newF made now (w - cF l) else dnN now l (cF l - w)
def scM (made : Int) (w : Nat) (l : List Pd) : Int := made + ((w - cF l : Nat) : Int)
def fI (l : List Pd) (id : Int) : Nat := l.findIdx fun p => decide (p.1 = id)
def enF (l : List Pd) (id : Int) : List Pd × Int :=
 if (l.getD (fI l id) p0).2.1 = 2 then (l.set (fI l id) ((l.getD (fI l id) p0).1,2,(l.getD (fI l id) p0).2.2.1 + 1,(l.getD (fI l id) p0).2.2.2),0) else (l,7)
def lvF (l : List Pd) (id : Int) : List Pd × Int :=
 if (l.getD (fI l id) p0).2.2.1 = 0 then (l,7)
 else if (l.getD (fI l id) p0).2.2.1 = 1 ∧ (l.getD (fI l id) p0).2.1 = 3 then (l.take (fI l id) ++ l.drop (fI l id + 1),0)
 else (l.set (fI l id) ((l.getD (fI l id) p0).1,(l.getD (fI l id) p0).2.1,(l.getD (fI l id) p0).2.2.1 - 1,(l.getD (fI l id) p0).2.2.2),0)
def sizeF (n : Int) : Int := if n < 1 then 0 else if n ≤ 3 then n else if 208 < n then 16 else max 3 ((16 * n + n + 12) / (n + 13))
def kF (n most : Int) : Int := if 0 < most ∧ most < sizeF n then most else sizeF n
def posF (n most round : Int) (j : Nat) : Int := (max round 0 % n * kF n most + j) % n
def whichF (ids : List Int) (most round : Int) : List Int := (List.range (kF ids.length most).toNat).map fun j => ids.getD (posF ids.length most round j).toNat 0
def scF (id : Int) : Int := IntKind.u32.wrap (IntKind.u64.wrap (IntKind.u64.wrap id * 2654435761))
def ahF (x y : Int × Int) : Prop := scF x.1 < scF y.1 ∨ (scF x.1 = scF y.1 ∧ (x.1 < y.1 ∨ (x.1 = y.1 ∧ x.2 < y.2)))
instance (x y : Int × Int) : Decidable (ahF x y) := by unfold ahF; infer_instance
def zL : Nat → List Int → List (Int × Int)
 | _,[] => []
 | k,a :: l => (a,(k : Int)) :: zL (k + 1) l
def rk (L : List (Int × Int)) (x : Int × Int) : Nat := L.countP fun y => decide (ahF y x)
def subL (ids : List Int) (m : Nat) : List (Int × Int) := (zL 0 ids).filter fun x => decide (rk (zL 0 ids) x < m)
def subF (ids : List Int) (most : Int) : List Int := if most < 1 ∨ (ids.length : Int) ≤ most then ids else (subL ids most.toNat).map (·.1)
def lateB (now age t : Int) : Bool := !(decide (now < t) || decide (IntKind.u64.wrap (IntKind.u64.wrap now - IntKind.u64.wrap t) < IntKind.u64.wrap (if 0 > age then 0 else age)))
end Go.Proofs.YtelmcfnkclihcaaGreatDoorW.Am
namespace Go.Proofs.YtelmcfnkclihcaaGreatDoorW.Am
open Go Go.RowKit
section
theorem one_cells [Fl] {v : Value} (h : one v = true) : v.cells = #[v] := by cases v <;> first | rfl | (simp [one] at h)
def Els (k : Nat) (us : List (List Value)) : Prop := ∀ u ∈ us,u.length = k ∧ u.all one = true
theorem Els.app [Fl] {k : Nat} {us vs : List (List Value)} (a : Els k us) (b : Els k vs) : Els k (us ++ vs) := fun u hu => (List.mem_append.1 hu).elim (a u) (b u)
theorem Els.one [Fl] {k : Nat} {u : List Value} (a : u.length = k) (b : u.all one = true) : Els k [u] := fun x hx => by rw [List.mem_singleton.1 hx]; exact ⟨a,b⟩
theorem Els.len [Fl] {k : Nat} : ∀ {us : List (List Value)},Els k us → us.flatten.length = us.length * k
 | [],_ => by simp
 | u :: us,h => by
  rw [List.flatten_cons,List.length_append,Els.len (us := us) (fun x hx => h x (List.mem_cons_of_mem _ hx)),(h u (List.mem_cons_self ..)).1,List.length_cons,Nat.add_mul,Nat.one_mul,Nat.add_comm]
theorem Els.all [Fl] {k : Nat} : ∀ {us : List (List Value)},Els k us → us.flatten.all Am.one = true
 | [],_ => rfl
 | u :: us,h => by
  rw [List.flatten_cons,List.all_append,(h u (List.mem_cons_self ..)).2,Els.all (us := us) (fun x hx => h x (List.mem_cons_of_mem _ hx))]; rfl
theorem Els.drop [Fl] {k : Nat} : ∀ {us : List (List Value)},Els k us → ∀ i,us.flatten.drop (i * k) = (us.drop i).flatten
 | us,_,0 => by simp
 | [],_,i + 1 => by simp
 | u :: us,h,i + 1 => by
  have hu := (h u (List.mem_cons_self ..)).1
  rw [List.flatten_cons,List.drop_succ_cons,← Els.drop (us := us) (fun x hx => h x (List.mem_cons_of_mem _ hx)) i]
  rw [show (i + 1) * k = u.length + i * k by rw [hu,Nat.add_mul,Nat.one_mul,Nat.add_comm],List.drop_append,List.drop_of_length_le (by omega),Nat.add_sub_cancel_left,List.nil_append]
theorem rd_row2 [Fl] {h : Hp} {i k : Nat} {us : List (List Value)} {tl : List Value} {b : Bool} {e : Nat} (hg : h.get i = some ⟨us.flatten ++ tl,b,e⟩) (he : Els k us) {x : Nat} {u : List Value} (hx : us[x]? = some u) : h.rd i (0 + x * k) k = some u := by
 obtain ⟨hl,rfl⟩ := List.getElem?_eq_some_iff.1 hx
 have hn := he.len
 have hm := (he _ (List.getElem_mem hl)).1
 have hmul : x * k + k ≤ us.length * k := by rw [← Nat.succ_mul]; exact Nat.mul_le_mul_right _ hl
 unfold Hp.rd
 simp only [hg,Nat.zero_add]
 rw [if_pos (by rw [List.length_append]; omega)]
 rw [List.drop_append_of_le_length (by omega),he.drop,List.drop_eq_getElem_cons hl,List.flatten_cons,List.append_assoc]
 rw [List.take_left' hm]
theorem Els.set [Fl] {k : Nat} : ∀ {us : List (List Value)},Els k us → ∀ {w : Nat} {u : List Value},us[w]? = some u → ∀ {f : Nat},f < k → ∀ v,us.flatten.set (w * k + f) v = (us.set w (u.set f v)).flatten
 | [],_,_,_,hw,_,_,_ => by cases hw
 | x :: us,h,0,u,hw,f,hf,v => by
  cases hw
  have hx := (h x (List.mem_cons_self ..)).1
  rw [List.flatten_cons,List.set_cons_zero,List.flatten_cons,Nat.zero_mul,Nat.zero_add,List.set_append_left _ _ (by omega)]
 | x :: us,h,w + 1,u,hw,f,hf,v => by
  have hx := (h x (List.mem_cons_self ..)).1
  rw [List.flatten_cons,List.set_cons_succ,List.flatten_cons,List.set_append_right _ _ (by rw [Nat.add_mul,Nat.one_mul]; omega)]
  rw [show (w + 1) * k + f - x.length = w * k + f by rw [Nat.add_mul,Nat.one_mul]; omega]
  rw [Els.set (us := us) (fun x hx => h x (List.mem_cons_of_mem _ hx)) (by simpa using hw) hf v]
theorem Els.put [Fl] {k : Nat} {us : List (List Value)} (h : Els k us) {w : Nat} {u : List Value} (hu : u.length = k) (ho : u.all Am.one = true) : Els k (us.set w u) := fun x hx => by
 rcases List.mem_or_eq_of_mem_set hx with hx | rfl
 ·exact h x hx
 ·exact ⟨hu,ho⟩
def GR (k N : Nat) (h : Hp) (s : Value) (us : List (List Value)) : Prop :=
 (s = .slice none 0 0 ∧ us = []) ∨ ∃ i,N ≤ i ∧ i < h.nx ∧ s = .slice (some ⟨i,0,some 0⟩) us.length us.length ∧ h.get i = some ⟨us.flatten,true,k⟩ ∧ us ≠ [] ∧ Els k us
def RR (k : Nat) (h : Hp) (s : Value) (us : List (List Value)) : Prop :=
 (s = .slice none 0 0 ∧ us = []) ∨ ∃ i o sp c,s = .slice (some ⟨i,o,sp⟩) us.length c ∧ i < h.nx ∧ (us ≠ [] → sp.getD 0 = 0) ∧ ∀ (x : Nat) u,us[x]? = some u → h.rd i (o + x * k) k = some u
def Xo (s : Value) (h g : Hp) : Prop := ∀ j,j < h.nx → (∀ a n c,s = .slice (some a) n c → j ≠ a.block) → g.get j = h.get j
theorem GR.blk [Fl] {k N : Nat} {h : Hp} {s : Value} {us : List (List Value)} (r : GR k N h s us) {a : Addr} {n c : Nat} (e : s = .slice (some a) n c) : N ≤ a.block ∧ a.block < h.nx := by
 rcases r with ⟨rfl,_⟩ | ⟨i,h1,h2,rfl,_⟩
 ·cases e
 ·cases e; exact ⟨h1,h2⟩
def Xt (N : Nat) (h g : Hp) : Prop := h.nx ≤ g.nx ∧ ∀ j,j < N → g.get j = h.get j
theorem Ext.xt [Fl] {N : Nat} {a b : Hp} (x : Ext a b) (hN : N ≤ a.nx) : Xt N a b := ⟨x.1,fun j hj => x.2 j (Nat.lt_of_lt_of_le hj hN)⟩
theorem Ext.xtr [Fl] {N : Nat} {a b c : Hp} (x : Ext a b) (y : Xt N b c) (hN : a.nx ≤ N) : Ext a c := ⟨Nat.le_trans x.1 y.1,fun j hj => (y.2 j (Nat.lt_of_lt_of_le hj hN)).trans (x.2 j hj)⟩
theorem GR.nil [Fl] (k N : Nat) (h : Hp) : GR k N h (.slice none 0 0) [] := .inl ⟨rfl,rfl⟩
theorem GR.rr [Fl] {k N : Nat} {h : Hp} {s : Value} {us : List (List Value)} (a : GR k N h s us) : RR k h s us := by
 rcases a with a | ⟨i,_,h2,rfl,hg,_,he⟩
 ·exact .inl a
 ·exact .inr ⟨i,0,some 0,_,rfl,h2,fun _ => rfl,fun x u hx => rd_row2 (tl := []) (by rw [List.append_nil]; exact hg) he hx⟩
theorem GR.len [Fl] {k N : Nat} {h : Hp} {s : Value} {us : List (List Value)} (a : GR k N h s us) : ∃ x c,s = .slice x us.length c := by
 rcases a with ⟨rfl,rfl⟩ | ⟨i,_,_,rfl,_⟩ <;> exact ⟨_,_,rfl⟩
theorem RR.len [Fl] {k : Nat} {h : Hp} {s : Value} {us : List (List Value)} (a : RR k h s us) : ∃ x c,s = .slice x us.length c := by
 rcases a with ⟨rfl,rfl⟩ | ⟨i,o,sp,c,rfl,_⟩ <;> exact ⟨_,_,rfl⟩
theorem RR.one [Fl] {k : Nat} {h : Hp} {s : Value} {us : List (List Value)} (a : RR k h s us) : Am.one s = true := by
 rcases a with ⟨rfl,rfl⟩ | ⟨i,o,sp,c,rfl,_⟩ <;> rfl
theorem GR.keep [Fl] {k N : Nat} {h g : Hp} {s : Value} {us : List (List Value)} (a : GR k N h s us) (hn : h.nx ≤ g.nx) (hk : ∀ i,N ≤ i → i < h.nx → g.get i = h.get i) : GR k N g s us := by
 rcases a with a | ⟨i,h1,h2,h3,h4,h5⟩
 ·exact .inl a
 ·exact .inr ⟨i,h1,by omega,h3,(hk i h1 h2).trans h4,h5⟩
theorem GR.ext [Fl] {k N : Nat} {h g : Hp} {s : Value} {us : List (List Value)} (a : GR k N h s us) (x : Ext h g) : GR k N g s us := a.keep x.1 fun i _ hi => x.2 i hi
theorem GR.mono [Fl] {k N M : Nat} {h : Hp} {s : Value} {us : List (List Value)} (a : GR k N h s us) (hm : M ≤ N) : GR k M h s us := by
 rcases a with a | ⟨i,h1,h2⟩
 ·exact .inl a
 ·exact .inr ⟨i,Nat.le_trans hm h1,h2⟩
theorem RR.ext [Fl] {k : Nat} {h g : Hp} {s : Value} {us : List (List Value)} (a : RR k h s us) (x : Ext h g) : RR k g s us := by
 rcases a with a | ⟨i,o,sp,c,h1,h2,h3⟩
 ·exact .inl a
 ·exact .inr ⟨i,o,sp,c,h1,Nat.lt_of_lt_of_le h2 x.1,h3.1,fun j u hu => by rw [x.rd h2]; exact h3.2 j u hu⟩
theorem RR.at [Fl] {k : Nat} {h : Hp} {x : Option Addr} {n c : Nat} {us : List (List Value)} (a : RR k h (.slice x n c) us) {j : Nat} {u : List Value} (hj : us[j]? = some u) :
  ∃ i o sp,x = some ⟨i,o,sp⟩ ∧ i < h.nx ∧ h.rd i (o + ((j : Nat) : Int).toNat * k) k = some u := by
 rcases a with ⟨_,rfl⟩ | ⟨i,o,sp,c,e,hi,_,hr⟩
 ·cases hj
 ·cases e
  exact ⟨i,o,sp,rfl,hi,by rw [Int.toNat_natCast]; exact hr j u hj⟩
theorem rd_part [Fl] {h : Hp} {i o k : Nat} {u : List Value} (e : h.rd i o k = some u) {f : Nat} {v : Value} (hf : u[f]? = some v) : h.rd i (o + f) 1 = some [v] := by
 have hl := rd_len e
 obtain ⟨h1,rfl⟩ := List.getElem?_eq_some_iff.1 hf
 obtain ⟨h2,h3⟩ := rd_at e (x := f) (by omega)
 exact h3
theorem rd_join [Fl] {h : Hp} {i o k m : Nat} {a b : List Value} (e1 : h.rd i o k = some a) (e2 : h.rd i (o + k) m = some b) : h.rd i o (k + m) = some (a ++ b) := by
 obtain ⟨ob,hob,hn,rfl⟩ := Hp.rd_some e1
 obtain ⟨ob2,hob2,hn2,rfl⟩ := Hp.rd_some e2
 rw [hob] at hob2; cases hob2
 unfold Hp.rd
 simp only [hob]
 rw [if_pos (by omega),List.take_add,List.drop_drop]
theorem rd_els [Fl] {h : Hp} {i k : Nat} : ∀ {us : List (List Value)} {o : Nat},us ≠ [] → (∀ (x : Nat) u,us[x]? = some u → h.rd i (o + x * k) k = some u) → h.rd i o (us.length * k) = some us.flatten
 | [],_,h0,_ => absurd rfl h0
 | [u],o,_,hr => by
  have := hr 0 u rfl
  simpa using this
 | u :: v :: us,o,_,hr => by
  have h1 := hr 0 u rfl
  rw [Nat.zero_mul,Nat.add_zero] at h1
  have h2 := rd_els (us := v :: us) (o := o + k) (by simp) fun x w hw => by
   have := hr (x + 1) w (by simpa using hw)
   rw [Nat.add_mul,Nat.one_mul] at this
   rw [show o + k + x * k = o + (x * k + k) by omega]
   exact this
  have := rd_join h1 h2
  rw [show (u :: v :: us).length * k = k + (v :: us).length * k by rw [List.length_cons,Nat.add_mul,Nat.one_mul,Nat.add_comm]]
  exact this
theorem RR.all [Fl] {k : Nat} {h : Hp} {x : Option Addr} {n c : Nat} {us : List (List Value)} (a : RR k h (.slice x n c) us) (h0 : us ≠ []) : ∃ i o sp,x = some ⟨i,o,sp⟩ ∧ n = us.length ∧ sp.getD 0 = 0 ∧ h.rd i o (us.length * k) = some us.flatten := by
 rcases a with ⟨_,rfl⟩ | ⟨i,o,sp,c,e,hi,hs,hr⟩
 ·exact absurd rfl h0
 ·cases e
  exact ⟨i,o,sp,rfl,rfl,hs h0,rd_els h0 hr⟩
def rI (l : List Int) : List (List Value) := l.map fun a => [nI a]
theorem rI_els [Fl] (l : List Int) : Els 1 (rI l) := fun u hu => by
 obtain ⟨a,_,rfl⟩ := List.mem_map.1 hu
 exact ⟨rfl,rfl⟩
theorem rI_len [Fl] (l : List Int) : (rI l).length = l.length := by simp [rI]
theorem rI_get [Fl] {l : List Int} {i : Nat} {a : Int} (h : l[i]? = some a) : (rI l)[i]? = some [nI a] := by simp [rI,h]
theorem rI_app [Fl] (l m : List Int) : rI (l ++ m) = rI l ++ rI m := by simp [rI]
def New (N : Nat) (s : Value) : Prop := ∀ a n c,s = .slice (some a) n c → N ≤ a.block
theorem GR.new [Fl] {k N : Nat} {h : Hp} {s : Value} {us : List (List Value)} (r : GR k N h s us) : New N s := fun _ _ _ e => (r.blk e).1
section
variable {P : Program} {CT : CTy} {env : Env} {h : Hp} {d : Option Nat} {xs : List Operand} {R : Value → Hp → Prop}
theorem w_app1 [Fl] {N k bytes : Nat} {t : TypeId} {s : Value} {us : List (List Value)} {u : List Value} {q m : Nat} {b : Bool} (e : mapF env xs = some [s,.slice (some ⟨q,0,none⟩) 1 1]) (r : GR k N h s us) (hq : h.get q = some ⟨u,b,m⟩) (hu : u.length = k) (ho : u.all one = true) (hk : 0 < k)
  (hb : (us.length + 1) * bytes ≤ 140737488355328) (hl : us.length + 1 ≤ 140737488355328) (hN : N ≤ h.nx)
  (n : ∀ s' g,GR k N g s' (us ++ [u]) → Xt N h g → Xo s h g → R s' g) : WI P CT ⟨d,none,.op (.app t k bytes) xs⟩ env h R := by
 have hrd : rdS h (some ⟨q,0,none⟩) (1 * k) = some u := by
  simp only [rdS,Nat.one_mul]
  rw [if_neg (by omega)]
  simp only [Option.getD_none,if_true]
  exact rd_all hq hu
 have key : ∃ s' g,stepK (.app t k bytes) [s,.slice (some ⟨q,0,none⟩) 1 1] h = some (s',g) ∧ GR k N g s' (us ++ [u]) ∧ Xt N h g ∧ Xo s h g := by
  rcases r with ⟨rfl,rfl⟩ | ⟨i,h1,h2,rfl,h4,h5,h6⟩
  ·refine ⟨.slice (some ⟨h.nx,0,some 0⟩) 1 1,h.new ⟨u,true,k⟩,?_,.inr ⟨h.nx,hN,by simp [Hp.new],rfl,by simp [Hp.new],by simp,Els.one hu ho⟩,(Ext.new _ _).xt hN,fun j hj _ => (Ext.new h _).2 j hj⟩
   simp only [stepK,hrd,appA]
   simp only [List.length_nil,Nat.zero_add] at hb hl
   rw [if_pos ⟨by omega,ho,hk,by simpa using hb,by omega⟩]
   simp
  ·have hn0 : us.length ≠ 0 := fun hz => h5 (List.eq_nil_of_length_eq_zero hz)
   have hold : h.rd i 0 (us.length * k) = some us.flatten := rd_all h4 h6.len
   refine ⟨.slice (some ⟨h.nx,0,some 0⟩) (us.length + 1) (us.length + 1),(h.del i).new ⟨us.flatten ++ u,true,k⟩,?_,.inr ⟨h.nx,hN,by simp [Hp.new,Hp.del],by simp,by simp [Hp.new,Hp.del],by simp,h6.app (Els.one hu ho)⟩,⟨by simp [Hp.new,Hp.del],fun j hj => ?_⟩,fun j hj hne => ?_⟩
   ·simp only [stepK,hrd,appA]
    rw [if_pos ⟨by omega,ho,hk,hb,hl⟩]
    simp only [Nat.one_ne_zero,if_false,show ¬ (us.length + 1 ≤ us.length) by omega,if_neg hn0,hold,h4]
    rw [if_pos ⟨trivial,trivial,by rw [h6.len]; omega,Nat.le_refl _,h6.all⟩]
   ·have e1 : ¬ j = h.nx := by omega
    have e2 : ¬ j = i := by omega
    simp [Hp.new,Hp.del,e1,e2]
   ·have e1 : ¬ j = h.nx := by omega
    have e2 : ¬ j = i := hne _ _ _ rfl
    simp [Hp.new,Hp.del,e1,e2]
 obtain ⟨s',g,hs,h1,h2,h3⟩ := key
 exact w_op (v := s') (h' := g) (by unfold opF; rw [e]; exact hs) (n s' g h1 h2 h3)
theorem w_appc [Fl] {k bytes c o : Nat} {t : TypeId} {us : List (List Value)} {q i : Nat} {sp : Option Nat} (e : mapF env xs = some [.slice (some ⟨q,0,none⟩) 0 0,.slice (some ⟨i,o,sp⟩) us.length c]) (hr : rdS h (some ⟨i,o,sp⟩) (us.length * k) = some us.flatten) (he : Els k us) (h0 : us ≠ []) (hk : 0 < k)
  (hb : us.length * bytes ≤ 140737488355328) (hl : us.length ≤ 140737488355328)
  (n : ∀ g,g.get h.nx = some ⟨us.flatten,true,k⟩ → Ext h g → h.nx < g.nx → R (.slice (some ⟨h.nx,0,some 0⟩) us.length us.length) g) : WI P CT ⟨d,none,.op (.app t k bytes) xs⟩ env h R := by
 have hn0 : us.length ≠ 0 := fun hz => h0 (List.eq_nil_of_length_eq_zero hz)
 refine w_op (v := .slice (some ⟨h.nx,0,some 0⟩) us.length us.length) (h' := h.new ⟨us.flatten,true,k⟩) ?_ (n _ (by simp [Hp.new]) (Ext.new _ _) (by simp [Hp.new]))
 unfold opF
 rw [e]
 simp only [stepK,hr,appA,Nat.zero_add]
 rw [if_pos ⟨he.len,he.all,hk,hb,hl⟩]
 simp only [if_neg hn0,show ¬ us.length ≤ 0 by omega,if_true,if_false,List.nil_append]
theorem w_clone [Fl] {k bytes : Nat} {t : TypeId} {us : List (List Value)} {q : Nat} {x : Option Addr} {n0 c : Nat} (e : mapF env xs = some [.slice (some ⟨q,0,none⟩) 0 0,.slice x n0 c]) (r : RR k h (.slice x n0 c) us) (he : Els k us) (hq : q < h.nx) (hk : 0 < k)
  (hb : us.length * bytes ≤ 140737488355328) (hl : us.length ≤ 140737488355328)
  (n : ∀ v g,RR k g v us → Ext h g → (∀ a m c,v = .slice (some a) m c → q ≤ a.block) → R v g) : WI P CT ⟨d,none,.op (.app t k bytes) xs⟩ env h R := by
 by_cases h0 : us = []
 ·subst h0
  obtain ⟨x',c',e'⟩ := r.len
  cases e'
  refine w_op (v := .slice (some ⟨q,0,none⟩) 0 0) (h' := h) ?_ (n _ _ (.inr ⟨q,0,none,0,rfl,hq,fun hc => absurd rfl hc,fun x u hu => by cases hu⟩) (Ext.refl _) fun a m c e => by cases e; exact Nat.le_refl _)
  unfold opF
  rw [e]
  have hrd : rdS h x (([] : List (List Value)).length * k) = some [] := by
   simp only [List.length_nil,Nat.zero_mul]
   unfold rdS
   cases x <;> simp
  simp only [stepK,hrd,appA]
  simp [hk]
 ·obtain ⟨i,o,sp,rfl,rfl,hsp,hr⟩ := r.all h0
  have hlen : us.length ≠ 0 := fun hz => h0 (List.eq_nil_of_length_eq_zero hz)
  have hmul : us.length * k ≠ 0 := Nat.mul_ne_zero hlen (by omega)
  refine w_appc e (by simp only [rdS,if_neg hmul,hsp,if_true]; exact hr) he h0 hk hb hl fun g hg x hn => ?_
  exact n _ g (GR.rr (N := h.nx) (.inr ⟨h.nx,Nat.le_refl _,hn,rfl,hg,h0,he⟩)) x fun a m c e => by cases e; exact Nat.le_of_lt hq
theorem w_pre [Fl] {i n c m esz : Nat} (e : mapF env xs = some [.slice (some ⟨i,0,some 0⟩) n c,.int .i64 (m : Int)]) (hm : m ≤ c) (h0 : 0 < c) (r : R (.slice (some ⟨i,0,some 0⟩) m c) h) : WI P CT ⟨d,none,.op (.slc esz false true false) xs⟩ env h R := by
 refine w_op (v := .slice (some ⟨i,0,some 0⟩) m c) (h' := h) ?_ r
 unfold opF
 rw [e]
 have hm2 : (0 : Int) ≤ (m : Int) ∧ (m : Int) ≤ c := by omega
 simp only [stepK,get3,takeB,sliceA,bounds,bnd,if_pos hm2]
 have h1 : (0 : Nat) ≤ m := Nat.zero_le _
 have h2 : ¬ c = 0 := by omega
 simp [h2]
end
end
end Go.Proofs.YtelmcfnkclihcaaGreatDoorW.Am
namespace Go.Proofs.YtelmcfnkclihcaaGreatDoorW.Am
open Go Go.RowKit Go.Sort
theorem enters_comp [Fl] {P : Program} {f : FuncId} {fn : Func} {fi : FI} (hf : P.funcs[f]? = some fn) (hc : compF P fn = some fi) : Enters P f := by
 unfold compF at hc
 split at hc
 case h_2 => cases hc
 case h_1 c hbody =>
 split at hc
 case h_2 => cases hc
 case h_1 ic hic =>
 split at hc
 ·cases hc
 next hname =>
 exact ⟨fn,hf,by simp [hbody],hname⟩
theorem bridge [Fl] {P : Program} {f : FuncId} {args : List Value} {x : Value} (he : Enters P f) (fa : flatL args = true) (fx : flat x = true)
  (c : ∀ w,Fl.tb w → Calls P f args.toArray w fun e w' => e = .returned x ∧ Below w.heap.size w w' ∧ (Fl.on → w.drawn ≤ w'.drawn)) (h : Hp) : ACall P f args h (fun v g => v = x ∧ h = g) := by
 refine ⟨he,fun base w0 m w args' ra s => ?_⟩
 have ea : args' = args := ra.flat_eq fa
 subst ea
 refine (c w (s.below.tb w s.below.bl)).mono ?_
 rintro e w' ⟨rfl,hb,hd⟩
 exact ⟨m,x,x,h,rfl,m.le_refl,RV.of_flat m x fx,s.world (hb.mono s.big) hd hb.size (fun b es ck hm => hb.block _ (Array.getElem?_eq_some_iff.1 hm).1) fun i l ob _ hm => hb.block _ (s.lt i l hm),rfl,rfl⟩
theorem unbridge [Fl] {P : Program} {f : FuncId} {args : List Value} {x : Value} (fa : flatL args = true) (fx : flat x = true) (c : ACall P f args Hp.empty (fun v _ => v = x)) (hd : Fl.on) (W : World) (t : Fl.tb W → Tb W.heap.size W) (t2 : Fl.tb W) :
  Calls P f args.toArray W fun e W' => e = .returned x ∧ ∃ q os',W' = grow (W.drewN q) os' := by
 refine (c.2 W.heap.size W ⟨fun _ => none,fun _ => none⟩ W args (RVs.of_flat fa) (Sim.empty W (t t2))).mono ?_
 rintro e W' ⟨m',v,v',h',rfl,_,rv,s,rfl⟩
 obtain rfl := rv.flat_eq fx
 refine ⟨rfl,W'.drawn - W.drawn,W'.heap.extract W.heap.size W'.heap.size,?_⟩
 have b := s.below.bl
 have d := s.below.dr hd
 obtain ⟨h1,t1,d1,o1,u1⟩ := W'
 obtain ⟨h2,t2,d2,o2,u2⟩ := W
 obtain ⟨b1,b2,b3,b4,b5⟩ := b
 dsimp only at b1 b2 b3 b4 b5 d
 subst b1 b2 b3
 unfold grow World.drewN
 have hh : h1 = h2 ++ h1.extract h2.size h1.size := by
  refine Array.ext' ?_
  rw [Array.toList_append,Array.toList_extract,List.extract_eq_take_drop]
  refine List.ext_getElem? fun i => ?_
  rcases Nat.lt_or_ge i h2.size with hi | hi
  ·rw [List.getElem?_append_left (by simpa using hi)]
   have := b5 i hi
   simpa using this
  ·rw [List.getElem?_append_right (by simpa using hi),List.getElem?_take,List.getElem?_drop]
   have e : h2.size + (i - h2.toList.length) = i := by simp; omega
   rw [e]
   split
   ·rfl
   ·next hc =>
    rw [List.getElem?_eq_none_iff]
    simp at hc ⊢
    omega
 have e : d1 = d2 + (d1 - d2) := by omega
 show (⟨h1,t1,d1,o1,u1⟩ : World) = ⟨h2 ++ h1.extract h2.size h1.size,t1,d2 + (d1 - d2),o1,u1⟩
 rw [← e,← hh]
end Go.Proofs.YtelmcfnkclihcaaGreatDoorW.Am
namespace Go.Proofs.YtelmcfnkclihcaaGreatDoorW.Am
open Go Go.RowKit
def p4 (v : Pd) : List Value := [nI v.1,nI v.2.1,nI v.2.2.1,nI v.2.2.2]
def fl4 : List Pd → List Value
 | [] => []
 | p :: l => p4 p ++ fl4 l
theorem fl4_len : ∀ l,(fl4 l).length = l.length * 4
 | [] => rfl
 | p :: l => by simp only [fl4,List.length_append,List.length_cons,fl4_len l,p4,List.length_nil]; omega
theorem fl4_app : ∀ l k,fl4 (l ++ k) = fl4 l ++ fl4 k
 | [],_ => rfl
 | p :: l,k => by simp only [List.cons_append,fl4,fl4_app l k,List.append_assoc]
theorem fl4_one : ∀ l,(fl4 l).all one = true
 | [] => rfl
 | p :: l => by simp [fl4,fl4_one l,p4,one]
theorem fl4_drop : ∀ (l : List Pd) (i : Nat),(fl4 l).drop (i * 4) = fl4 (l.drop i)
 | l,0 => by simp
 | [],i + 1 => by simp [fl4]
 | p :: l,i + 1 => by rw [show (i + 1) * 4 = i * 4 + 1 + 1 + 1 + 1 by omega]; simp only [fl4,p4,List.cons_append,List.nil_append,List.drop_succ_cons]; exact fl4_drop l i
def A4 (N : Nat) (h : Hp) (s : Value) (l : List Pd) : Prop :=
 (s = .slice none 0 0 ∧ l = []) ∨ ∃ i,N ≤ i ∧ i < h.nx ∧ s = .slice (some ⟨i,0,some 0⟩) l.length l.length ∧ h.get i = some ⟨fl4 l,true,4⟩ ∧ l ≠ []
theorem A4.nil (N : Nat) (h : Hp) : A4 N h (.slice none 0 0) [] := .inl ⟨rfl,rfl⟩
theorem A4.len {N : Nat} {h : Hp} {s : Value} {l : List Pd} (a : A4 N h s l) : ∃ x c,s = .slice x l.length c := by
 rcases a with ⟨rfl,rfl⟩ | ⟨i,_,_,rfl,_⟩ <;> exact ⟨_,_,rfl⟩
theorem A4.move {N : Nat} {h h2 : Hp} {s : Value} {l : List Pd} (o : A4 N h s l) (x : Ext h h2) : A4 N h2 s l := by
 rcases o with o | ⟨i,h1,h2',h3,h4,h5⟩
 ·exact .inl o
 ·exact .inr ⟨i,h1,Nat.lt_of_lt_of_le h2' x.1,h3,(x.2 i h2').trans h4,h5⟩
theorem A4.at {N : Nat} {h : Hp} {s : Value} {l : List Pd} (a : A4 N h s l) {i : Nat} {p : Pd} (hi : l[i]? = some p) :
  ∃ k,s = .slice (some ⟨k,0,some 0⟩) l.length l.length ∧ k < h.nx ∧ N ≤ k ∧ h.rd k (0 + i * 4) 4 = some (p4 p) := by
 rcases a with ⟨_,rfl⟩ | ⟨k,h1,h2,rfl,hg,_⟩
 ·cases hi
 refine ⟨k,rfl,h2,h1,?_⟩
 obtain ⟨hl,rfl⟩ := List.getElem?_eq_some_iff.1 hi
 have hn := fl4_len l
 unfold Hp.rd
 simp only [hg,Nat.zero_add]
 rw [if_pos (by omega),fl4_drop,List.drop_eq_getElem_cons hl]
 simp [fl4,p4]
theorem A4.push {e : TypeId} {N : Nat} {h0 h : Hp} {s : Value} {l : List Pd} (o : A4 N h s l) (hN : h0.nx = N) (x : Ext h0 h) (p : Pd) (hl : l.length ≤ 1000000) :
  ∃ s' h2,stepK (.app e 4 32) [s,.slice (some ⟨h.nx,0,none⟩) 1 1] (h.new ⟨p4 p,true,4⟩) = some (s',h2) ∧ A4 N h2 s' (l ++ [p]) ∧ Ext h0 h2 := by
 have hrd : rdS (h.new ⟨p4 p,true,4⟩) (some ⟨h.nx,0,none⟩) (1 * 4) = some (p4 p) := by
  simp [rdS,Hp.rd,Hp.new,p4]
 have hall : (p4 p).all one = true := rfl
 rcases o with ⟨rfl,rfl⟩ | ⟨i,h1,h2,rfl,h4,h5⟩
 ·refine ⟨.slice (some ⟨h.nx + 1,0,some 0⟩) 1 1,(h.new ⟨p4 p,true,4⟩).new ⟨p4 p,true,4⟩,?_,.inr ⟨h.nx + 1,?_,?_,rfl,?_,by simp⟩,?_⟩
  ·simp only [stepK,hrd]
   simp [appA,Hp.new,p4,one]
  ·have := x.1; omega
  ·simp [Hp.new]
  ·simp [Hp.new,fl4]
  ·exact x.trans ((Ext.new _ _).trans (Ext.new _ _))
 ·have hne : i ≠ h.nx := by omega
  have hg2 : (h.new ⟨p4 p,true,4⟩).get i = some ⟨fl4 l,true,4⟩ := by simp [Hp.new,hne,h4]
  have hn := fl4_len l
  have hlen : l.length ≠ 0 := fun hz => h5 (List.eq_nil_of_length_eq_zero hz)
  have hold : (if l.length = 0 then some [] else (h.new ⟨p4 p,true,4⟩).rd i 0 (l.length * 4)) = some (fl4 l) := by
   rw [if_neg hlen]
   simp only [Hp.rd,hg2]
   rw [if_pos (by omega),List.drop_zero,List.take_of_length_le (by omega)]
  refine ⟨.slice (some ⟨h.nx + 1,0,some 0⟩) (l.length + 1) (l.length + 1),(((h.new ⟨p4 p,true,4⟩)).del i).new ⟨fl4 l ++ p4 p,true,4⟩,?_,.inr ⟨h.nx + 1,?_,?_,?_,?_,by simp⟩,?_⟩
  ·simp only [stepK,hrd]
   simp only [appA]
   rw [if_pos ⟨by simp [p4],hall,by omega,by omega,by omega⟩]
   simp only [Nat.one_ne_zero,if_false,show ¬ (l.length + 1 ≤ l.length) by omega,hold,hg2]
   rw [if_pos ⟨trivial,trivial,by omega,Nat.le_refl _,fl4_one l⟩]
   simp [Hp.del,Hp.new]
  ·have := x.1; omega
  ·simp [Hp.new,Hp.del]
  ·simp
  ·simp [Hp.new,Hp.del,fl4_app,fl4]
  ·refine ⟨by have := x.1; simp [Hp.new,Hp.del]; omega,fun k hk => ?_⟩
   have := x.1
   have e1 : ¬ k = h.nx + 1 := by omega
   have e2 : ¬ k = i := by omega
   have e3 : ¬ k = h.nx := by omega
   simp only [Hp.new,Hp.del,e1,e2,e3,if_false]
   exact x.2 k hk
def pE (P : Nat) : Value := .iface 98 (ptr P)
def LR (h : Hp) (L j : Nat) (s : Value) (us : List Value) : Prop :=
 (s = .slice none 0 0 ∧ us = []) ∨ ∃ tl,s = .slice (some ⟨j,0,some 0⟩) us.length (us.length + tl.length) ∧ h.get j = some ⟨us ++ tl,true,1⟩ ∧ (us ++ tl).all one = true ∧ j ≠ L
theorem LR.len {h : Hp} {L j : Nat} {s : Value} {us : List Value} (a : LR h L j s us) : ∃ x c,s = .slice x us.length c := by
 rcases a with ⟨rfl,rfl⟩ | ⟨tl,rfl,_⟩ <;> exact ⟨_,_,rfl⟩
theorem LR.keep {h h' : Hp} {L j : Nat} {s : Value} {us : List Value} (a : LR h L j s us) (e : j ≠ L → h'.get j = h.get j) : LR h' L j s us := by
 rcases a with a | ⟨tl,e1,e2,e3,e4⟩
 ·exact .inl a
 ·exact .inr ⟨tl,e1,(e e4).trans e2,e3,e4⟩
theorem LR.at {h : Hp} {L j : Nat} {s : Value} {us : List Value} (a : LR h L j s us) {i : Nat} {v : Value} (hi : us[i]? = some v) : ∃ c,s = .slice (some ⟨j,0,some 0⟩) us.length c ∧ h.rd j (0 + i * 1) 1 = some [v] := by
 rcases a with ⟨_,rfl⟩ | ⟨tl,rfl,hg,_⟩
 ·cases hi
 refine ⟨_,rfl,?_⟩
 have hl := (List.getElem?_eq_some_iff.1 hi).1
 have := rd_f hg (x := i) (v := v) (by rw [List.getElem?_append_left hl]; exact hi)
 simpa using this
structure LA (h : Hp) (L j : Nat) (ps : List (Nat × Pd)) (made : Int) : Prop where
 ll : L < h.nx
 jl : j < h.nx
 row : ∃ s,h.get L = some ⟨[s,nI made],true,0⟩ ∧ LR h L j s (ps.map fun p => pE p.1)
 pods : ∀ p ∈ ps,h.get p.1 = some ⟨p4 p.2,true,0⟩ ∧ p.1 < h.nx ∧ p.1 ≠ L ∧ p.1 ≠ j
 nd : (ps.map (·.1)).Nodup
theorem LA.ext {h h' : Hp} {L j : Nat} {ps : List (Nat × Pd)} {made : Int} (a : LA h L j ps made) (x : Ext h h') : LA h' L j ps made := by
 obtain ⟨hL,hj,⟨s,hg,hs⟩,hp,hn⟩ := a
 exact ⟨Nat.lt_of_lt_of_le hL x.1,Nat.lt_of_lt_of_le hj x.1,⟨s,(x.2 L hL).trans hg,hs.keep fun _ => x.2 j hj⟩,fun p hp' => ⟨(x.2 _ (hp p hp').2.1).trans (hp p hp').1,Nat.lt_of_lt_of_le (hp p hp').2.1 x.1,(hp p hp').2.2⟩,hn⟩
theorem lnew_ok (h : Hp) : ACall PX 19 [] h (fun v h' => v = ptr h.nx ∧ LA h' h.nx h.nx [] 0 ∧ Ext h h') := by
 refine acallA Tryz.func19 c19 ?_
 unfold ir19
 dsimp only [qo,qm,qk,q2,qi,qg,qn,qc,dq,ci,cb,qh,qs]
 refine ai_seq (ai_reg ?_)
 refine st rfl ?_
 refine ai_seq (ai_reg ?_)
 refine st (v := .agg #[.slice none 0 0,nI 0]) (h' := h) rfl ?_
 refine st (v := ptr h.nx) (h' := h.new ⟨[.slice none 0 0,nI 0],true,0⟩) rfl ?_
 refine st rfl ?_
 refine ai_ret ?_
 exact end_one rfl ⟨rfl,⟨by simp [Hp.new],by simp [Hp.new],⟨_,by simp [Hp.new],.inl ⟨rfl,rfl⟩⟩,(by intro p hp; cases hp),.nil⟩,Ext.new _ _⟩
theorem pod_ok (h : Hp) {L j : Nat} {ps : List (Nat × Pd)} {made : Int} (a : LA h L j ps made) {k : Nat} {p : Nat × Pd} (hk : ps[k]? = some p) : ACall PX 49 [ptr L,nI k] h (fun v h' => v = ptr p.1 ∧ h = h') := by
 obtain ⟨hL,hj,⟨s,hg,hs⟩,hp,hn⟩ := a
 have hkl := (List.getElem?_eq_some_iff.1 hk).1
 obtain ⟨c,rfl,hr⟩ := hs.at (i := k) (v := pE p.1) (by rw [List.getElem?_map,hk]; rfl)
 refine acallA Tryz.func49 c49 ?_
 unfold ir49
 dsimp only [qo,qm,qk,q2,qi,qg,qn,qc,dq,ci,cb,qh,qs]
 refine ai_seq (ai_reg ?_)
 refine st rfl ?_
 refine ai_seq (ai_reg ?_)
 iterate 3 refine st rfl ?_
 refine st_ld rfl (rd_f hg rfl) ?_
 refine st rfl ?_
 refine st_iad rfl (by simp; omega) ?_
 refine st_ld rfl (by rw [Int.toNat_natCast]; exact hr) ?_
 refine st (v := .tuple #[ptr p.1,.bool true]) rfl ?_
 iterate 5 refine st rfl ?_
 refine ai_seq (ai_reg ?_)
 iterate 2 refine st rfl ?_
 refine ai_ret ?_
 exact end_one rfl ⟨rfl,rfl⟩
theorem lall_ok (h : Hp) {L j : Nat} {ps : List (Nat × Pd)} {made : Int} (a : LA h L j ps made) (hb : ps.length ≤ 1000000) : ACall PX 34 [ptr L] h (fun v h' => Ext h h' ∧ A4 h.nx h' v (ps.map (·.2))) := by
 have a0 := a
 obtain ⟨hL,hj,⟨s,hg,hs⟩,hp,hn⟩ := a
 obtain ⟨x,c,e⟩ := hs.len
 subst e
 rw [List.length_map] at hg
 refine acallA Tryz.func34 c34 ?_
 unfold ir34
 dsimp only [qo,qm,qk,q2,qi,qg,qn,qc,dq,ci,cb,qh,qs]
 refine ai_seq (ai_reg ?_)
 refine st rfl ?_
 refine ai_seq (ai_seq (ai_reg ?_))
 iterate 2 refine st rfl ?_
 refine ai_cond (b := false) rfl (fun hb => by cases hb) (fun _ => ai_skip ?_)
 refine ai_seq (ai_reg ?_)
 refine st rfl ?_
 refine ai_join (γ := Value) (fun v => [(3,v)]) (fun v h' => Ext h h' ∧ A4 h.nx h' v (ps.map (·.2))) ?_ ?_
 ·refine ai_seq (ai_reg ?_)
  iterate 3 refine st rfl ?_
  refine st_ld rfl (rd_f hg rfl) ?_
  iterate 2 refine st rfl ?_
  refine ai_block (ai_loopE (γ := Nat × Value) (fun g => [(0,ptr L),(3,g.2),(11,nI ps.length),(12,nI g.1)]) (fun g h' => Ext h h' ∧ A4 h.nx h' g.2 ((ps.map (·.2)).take g.1) ∧ g.1 ≤ ps.length) (fun g => ps.length - g.1) (0,.slice none 0 0)
   (le_cons rfl (le_cons rfl (le_cons rfl (le_cons rfl le_nil)))) ⟨Ext.refl _,A4.nil _ _,Nat.zero_le _⟩ ?_)
  rintro ⟨i,v⟩ h1 ⟨hx,how,hi⟩
  dsimp only at how hi ⊢
  refine ai_seq (ai_reg ?_)
  refine st rfl ?_
  by_cases hlt : i < ps.length
  case neg =>
   refine ai_seq (ai_cond (b := false) (by simp [evA,Env.get,Env.put,hlt]) (fun hb => by cases hb) fun _ => ?_)
   refine ai_exit ?_
   rw [List.take_of_length_le (by simp; omega)] at how
   exact ⟨rfl,v,le_cons rfl le_nil,hx,how⟩
  refine ai_seq (ai_cond (b := true) (by simp [evA,Env.get,Env.put,hlt]) (fun _ => ?_) fun hb => by cases hb)
  refine ai_skip ?_
  have hu : ps[i]? = some ps[i] := by simp [hlt]
  have hpi := hp ps[i] (List.getElem_mem _)
  have htk : (ps.map (·.2)).take (i + 1) = (ps.map (·.2)).take i ++ [ps[i].2] := by
   rw [List.take_succ_eq_append_getElem (by simp; omega)]
   simp
  generalize ps[i] = p at hu hpi htk
  refine ai_seq (ai_block ?_)
  refine ai_seq (ai_reg ?_)
  iterate 2 refine st rfl ?_
  refine ai_reg ?_
  iterate 3 refine st rfl ?_
  refine stC rfl ((pod_ok h1 (a0.ext hx) hu).mono ?_)
  rintro w _ ⟨rfl,rfl⟩
  refine st rfl ?_
  refine st_ldn (us := p4 p.2) rfl (by simp only [Hp.rd,(hx.2 _ hpi.2.1).trans hpi.1]; rfl) ?_
  refine st (v := .slice (some ⟨h1.nx,0,none⟩) 1 1) (h' := h1.new ⟨p4 p.2,true,4⟩) rfl ?_
  obtain ⟨s',h2,hst,how2,hx2⟩ := how.push rfl hx p.2 (by simp; omega)
  refine st (v := s') (h' := h2) hst ?_
  refine st rfl ?_
  refine ai_reg ?_
  refine st_w rfl (by omega) ?_
  refine st rfl ?_
  refine ⟨(i + 1,s'),le_cons rfl (le_cons rfl (le_cons rfl (le_cons (by simp [Env.get,Env.put]) le_nil))),⟨hx2,?_,by dsimp only; omega⟩,by dsimp only; omega⟩
  dsimp only
  rw [htk]
  exact how2
 rintro v h1 ⟨hx,how⟩
 refine ai_seq (ai_reg ?_)
 iterate 2 refine st rfl ?_
 refine ai_ret ?_
 exact end_one rfl ⟨hx,how⟩
theorem cF_snoc (l : List Pd) (p : Pd) : cF (l ++ [p]) = cF l + if p.2.1 = 3 then 0 else 1 := by
 simp only [cF,List.filter_append,List.length_append]
 by_cases h : p.2.1 = 3 <;> simp [h]
theorem rF_snoc (l : List Pd) (p : Pd) : rF (l ++ [p]) = rF l ++ if p.2.1 = 2 then [p.1] else [] := by
 simp only [rF,List.filter_append,List.map_append]
 by_cases h : p.2.1 = 2 <;> simp [h]
theorem cF_le (l : List Pd) : cF l ≤ l.length := List.length_filter_le _ _
theorem rF_le (l : List Pd) : (rF l).length ≤ l.length := by simp only [rF,List.length_map]; exact List.length_filter_le _ _
theorem copy_ext (h : Hp) (p : Pd) : Ext h ((h.new ⟨[nI 0,nI 0,nI 0,nI 0],true,0⟩).put h.nx ⟨p4 p,true,0⟩) :=
 ⟨by simp [Hp.new,Hp.put],fun k hk => by rw [hput_ne _ _ (by omega)]; simp [Hp.new,show k ≠ h.nx by omega]⟩
theorem copy_wr (h : Hp) (p : Pd) : (h.new ⟨[nI 0,nI 0,nI 0,nI 0],true,0⟩).wr h.nx 0 (p4 p) = some ((h.new ⟨[nI 0,nI 0,nI 0,nI 0],true,0⟩).put h.nx ⟨p4 p,true,0⟩) := by
 have hgx : (h.new ⟨[nI 0,nI 0,nI 0,nI 0],true,0⟩).get h.nx = some ⟨[nI 0,nI 0,nI 0,nI 0],true,0⟩ := by simp [Hp.new]
 unfold Hp.wr
 rw [hgx]
 rfl
theorem count_ok (h : Hp) {L j : Nat} {ps : List (Nat × Pd)} {made : Int} (a : LA h L j ps made) (hb : ps.length ≤ 1000000) : ACall PX 47 [ptr L] h (fun v h' => v = nI (cF (ps.map (·.2))) ∧ Ext h h') := by
 refine acallA Tryz.func47 c47 ?_
 unfold ir47
 dsimp only [qo,qm,qk,q2,qi,qg,qn,qc,dq,ci,cb,qh,qs]
 refine ai_seq (ai_reg ?_)
 refine st rfl ?_
 refine ai_seq (ai_reg ?_)
 refine st rfl ?_
 refine ai_join (γ := Unit) (fun _ => [(3,nI (cF (ps.map (·.2))))]) (fun _ h' => Ext h h') ?_ ?_
 ·refine ai_seq (ai_reg ?_)
  refine st rfl ?_
  refine stC rfl ((lall_ok h a hb).mono ?_)
  rintro v h1 ⟨x1,a1⟩
  obtain ⟨vx,vc,e⟩ := a1.len
  subst e
  have hpl : (ps.map (·.2)).length = ps.length := by simp
  generalize ps.map (·.2) = l at a1 hpl ⊢
  iterate 2 refine st rfl ?_
  refine ai_block (ai_loopE (γ := Nat) (fun i => [(3,nI (cF (l.take i))),(7,.slice vx l.length vc),(8,nI l.length),(9,nI i)]) (fun i h' => Ext h1 h' ∧ i ≤ l.length) (fun i => l.length - i) 0
   (le_cons rfl (le_cons rfl (le_cons rfl (le_cons rfl le_nil)))) ⟨Ext.refl _,Nat.zero_le _⟩ ?_)
  rintro i h2 ⟨x2,hi⟩
  refine ai_seq (ai_reg ?_)
  refine st rfl ?_
  by_cases hlt : i < l.length
  case neg =>
   refine ai_seq (ai_cond (b := false) (by simp [evA,Env.get,Env.put,hlt]) (fun hb => by cases hb) fun _ => ?_)
   refine ai_exit ?_
   exact ⟨rfl,(),le_cons (by rw [List.take_of_length_le (by omega)]; rfl) le_nil,x1.trans x2⟩
  refine ai_seq (ai_cond (b := true) (by simp [evA,Env.get,Env.put,hlt]) (fun _ => ?_) fun hb => by cases hb)
  refine ai_skip ?_
  have hu : l[i]? = some l[i] := by simp [hlt]
  have htk : l.take (i + 1) = l.take i ++ [l[i]] := List.take_succ_eq_append_getElem hlt
  have hcl := cF_le (l.take i)
  rw [List.length_take] at hcl
  generalize l[i] = p at hu htk
  obtain ⟨k,e,_,_,hr⟩ := (a1.move x2).at hu
  cases e
  refine ai_join (γ := Unit) (fun _ => [(3,nI (cF (l.take (i + 1)))),(7,.slice (some ⟨k,0,some 0⟩) l.length l.length),(8,nI l.length),(9,nI i)]) (fun _ h' => Ext h1 h') ?_ ?_
  case refine_2 =>
   rintro _ h3 x3
   refine ai_reg ?_
   refine st_w rfl (by omega) ?_
   refine st rfl ?_
   exact ⟨i + 1,le_cons rfl (le_cons rfl (le_cons rfl (le_cons (by simp [Env.get,Env.put]) le_nil))),⟨x3,by omega⟩,by dsimp only; omega⟩
  refine ai_block ?_
  refine ai_seq (ai_reg ?_)
  refine st_iad rfl (by omega) ?_
  refine st_ldn rfl (by rw [Int.toNat_natCast]; exact hr) ?_
  refine st (v := ptr h2.nx) (h' := h2.new ⟨[nI 0,nI 0,nI 0,nI 0],true,0⟩) rfl ?_
  refine st_st (h' := (h2.new ⟨[nI 0,nI 0,nI 0,nI 0],true,0⟩).put h2.nx ⟨p4 p,true,0⟩) rfl rfl (copy_wr h2 p) ?_
  have x3 := x2.trans (copy_ext h2 p)
  have hO : ((h2.new ⟨[nI 0,nI 0,nI 0,nI 0],true,0⟩).put h2.nx ⟨p4 p,true,0⟩).get h2.nx = some ⟨p4 p,true,0⟩ := hput_same _ _ _
  generalize (h2.new ⟨[nI 0,nI 0,nI 0,nI 0],true,0⟩).put h2.nx ⟨p4 p,true,0⟩ = h3 at x3 hO ⊢
  refine ai_seq (ai_reg ?_)
  refine st rfl ?_
  refine st_ld rfl (rd_f (x := 1) hO rfl) ?_
  rw [htk,cF_snoc]
  by_cases hc : p.2.1 = 3
  ·refine st_v (v2 := .bool false) rfl (congrArg Value.bool (by simp [hc])) ?_
   refine ai_cond (b := false) rfl (fun hb => by cases hb) fun _ => ai_skip ?_
   exact ⟨rfl,(),le_cons (by rw [if_pos hc]; rfl) (le_cons rfl (le_cons rfl (le_cons rfl le_nil))),x3⟩
  ·refine st_v (v2 := .bool true) rfl (congrArg Value.bool (by simp [hc])) ?_
   refine ai_cond (b := true) rfl (fun _ => ?_) fun hb => by cases hb
   refine ai_reg ?_
   refine st rfl ?_
   refine st_w rfl (by omega) ?_
   refine st rfl ?_
   exact ⟨rfl,(),le_cons (by rw [if_neg hc]; simp [Env.get,Env.put]) (le_cons rfl (le_cons rfl (le_cons rfl le_nil))),x3⟩
 rintro _ h1 x1
 refine ai_seq (ai_reg ?_)
 iterate 2 refine st rfl ?_
 refine ai_ret ?_
 exact end_one rfl ⟨rfl,x1⟩
theorem ready_ok (h : Hp) {L j : Nat} {ps : List (Nat × Pd)} {made : Int} (a : LA h L j ps made) (hb : ps.length ≤ 1000000) : ACall PX 66 [ptr L] h (fun v h' => Ext h h' ∧ Ow h.nx h' v ((rF (ps.map (·.2))).map nI)) := by
 refine acallA Tryz.func66 c66 ?_
 unfold ir66
 dsimp only [qo,qm,qk,q2,qi,qg,qn,qc,dq,ci,cb,qh,qs]
 refine ai_seq (ai_reg ?_)
 refine st rfl ?_
 refine ai_seq (ai_reg ?_)
 refine st rfl ?_
 refine ai_join (γ := Value) (fun v => [(3,v)]) (fun v h' => Ext h h' ∧ Ow h.nx h' v ((rF (ps.map (·.2))).map nI)) ?_ ?_
 ·refine ai_seq (ai_reg ?_)
  refine st rfl ?_
  refine stC rfl ((lall_ok h a hb).mono ?_)
  rintro v h1 ⟨x1,a1⟩
  obtain ⟨vx,vc,e⟩ := a1.len
  subst e
  have hpl : (ps.map (·.2)).length = ps.length := by simp
  generalize ps.map (·.2) = l at a1 hpl ⊢
  iterate 2 refine st rfl ?_
  refine ai_block (ai_loopE (γ := Nat × Value) (fun g => [(3,g.2),(7,.slice vx l.length vc),(8,nI l.length),(9,nI g.1)]) (fun g h' => Ext h1 h' ∧ Ow h1.nx h' g.2 ((rF (l.take g.1)).map nI) ∧ g.1 ≤ l.length) (fun g => l.length - g.1) (0,.slice none 0 0)
   (le_cons rfl (le_cons rfl (le_cons rfl (le_cons rfl le_nil)))) ⟨Ext.refl _,Ow.nil _ _,Nat.zero_le _⟩ ?_)
  rintro ⟨i,w⟩ h2 ⟨x2,how,hi⟩
  dsimp only at how hi ⊢
  refine ai_seq (ai_reg ?_)
  refine st rfl ?_
  by_cases hlt : i < l.length
  case neg =>
   refine ai_seq (ai_cond (b := false) (by simp [evA,Env.get,Env.put,hlt]) (fun hb => by cases hb) fun _ => ?_)
   refine ai_exit ?_
   rw [List.take_of_length_le (by omega)] at how
   exact ⟨rfl,w,le_cons rfl le_nil,x1.trans x2,how.mono x1.1⟩
  refine ai_seq (ai_cond (b := true) (by simp [evA,Env.get,Env.put,hlt]) (fun _ => ?_) fun hb => by cases hb)
  refine ai_skip ?_
  have hu : l[i]? = some l[i] := by simp [hlt]
  have htk : l.take (i + 1) = l.take i ++ [l[i]] := List.take_succ_eq_append_getElem hlt
  have hcl := rF_le (l.take i)
  rw [List.length_take] at hcl
  generalize l[i] = p at hu htk
  obtain ⟨k,e,_,_,hr⟩ := (a1.move x2).at hu
  cases e
  refine ai_join (γ := Value) (fun w => [(3,w),(7,.slice (some ⟨k,0,some 0⟩) l.length l.length),(8,nI l.length),(9,nI i)]) (fun w h' => Ext h1 h' ∧ Ow h1.nx h' w ((rF (l.take (i + 1))).map nI)) ?_ ?_
  case refine_2 =>
   rintro w h3 ⟨x3,how3⟩
   refine ai_reg ?_
   refine st_w rfl (by omega) ?_
   refine st rfl ?_
   exact ⟨(i + 1,w),le_cons rfl (le_cons rfl (le_cons rfl (le_cons (by simp [Env.get,Env.put]) le_nil))),⟨x3,how3,by dsimp only; omega⟩,by dsimp only; omega⟩
  refine ai_block ?_
  refine ai_seq (ai_reg ?_)
  refine st_iad rfl (by omega) ?_
  refine st_ldn rfl (by rw [Int.toNat_natCast]; exact hr) ?_
  refine st (v := ptr h2.nx) (h' := h2.new ⟨[nI 0,nI 0,nI 0,nI 0],true,0⟩) rfl ?_
  refine st_st (h' := (h2.new ⟨[nI 0,nI 0,nI 0,nI 0],true,0⟩).put h2.nx ⟨p4 p,true,0⟩) rfl rfl (copy_wr h2 p) ?_
  have x3 := x2.trans (copy_ext h2 p)
  have how3 := how.move (copy_ext h2 p)
  have hO : ((h2.new ⟨[nI 0,nI 0,nI 0,nI 0],true,0⟩).put h2.nx ⟨p4 p,true,0⟩).get h2.nx = some ⟨p4 p,true,0⟩ := hput_same _ _ _
  generalize (h2.new ⟨[nI 0,nI 0,nI 0,nI 0],true,0⟩).put h2.nx ⟨p4 p,true,0⟩ = h3 at x3 hO how3 ⊢
  refine ai_seq (ai_reg ?_)
  refine st rfl ?_
  refine st_ld rfl (rd_f (x := 1) hO rfl) ?_
  rw [htk,rF_snoc]
  by_cases hc : p.2.1 = 2
  ·refine st_v (v2 := .bool true) rfl (congrArg Value.bool (by simp [hc])) ?_
   refine ai_cond (b := true) rfl (fun _ => ?_) fun hb => by cases hb
   rw [if_pos hc]
   refine ai_reg ?_
   iterate 2 refine st rfl ?_
   refine st_ld rfl (rd_f (x := 0) hO rfl) ?_
   refine st (v := .slice (some ⟨h3.nx,0,none⟩) 1 1) (h' := h3.new ⟨[nI p.1],true,1⟩) rfl ?_
   obtain ⟨s',h4,hst,how4,x4⟩ := how3.push (e := 3) (e2 := 1) (bytes := 8) rfl x3 (u := nI p.1) rfl (by simp; omega) (by simp; omega)
   refine st (v := s') (h' := h4) hst ?_
   refine st rfl ?_
   exact ⟨rfl,s',le_cons rfl (le_cons rfl (le_cons rfl (le_cons rfl le_nil))),x4,by rw [List.map_append]; exact how4⟩
  ·refine st_v (v2 := .bool false) rfl (congrArg Value.bool (by simp [hc])) ?_
   refine ai_cond (b := false) rfl (fun hb => by cases hb) fun _ => ai_skip ?_
   rw [if_neg hc,List.append_nil]
   exact ⟨rfl,w,le_cons rfl (le_cons rfl (le_cons rfl (le_cons rfl le_nil))),x3,how3⟩
 rintro v h1 ⟨x1,how⟩
 refine ai_seq (ai_reg ?_)
 iterate 2 refine st rfl ?_
 refine ai_ret ?_
 exact end_one rfl ⟨x1,how⟩
theorem stCV {P : Program} {CT : CTy} {r : List In} {env : Env} {h : Hp} {Q : Env → Hp → Prop} {d : Option Nat} {x : Operand} {xs : List Operand} {vs : List Value} {f : FuncId} {a b : Array Value} (e : evA env x = some (.func (.func f) a b)) (e2 : mapE env xs = some vs)
  (c : CT f (a.toList ++ vs ++ b.toList) h fun v h' => wpS P CT r (env.put d v) h' Q) : wpS P CT (⟨d,none,.callv x xs⟩ :: r) env h Q := by
 unfold wpS wpIn
 simp only [wanted,e,e2]
 exact c
def ixF (ps : List (Nat × Pd)) (id : Int) : Int := if ps.findIdx (fun p => decide (p.2.1 = id)) < ps.length then (ps.findIdx (fun p => decide (p.2.1 = id)) : Nat) else -1
theorem same_ok (h : Hp) {P B : Nat} {p : Pd} {id : Int} (hP : h.get P = some ⟨p4 p,true,0⟩) (hB : h.get B = some ⟨[nI id],true,0⟩) : ACall PX 120 [pE P,ptr B] h (fun v h' => v = .bool (decide (p.1 = id)) ∧ h = h') := by
 refine acallA Tryz.func120 c120 ?_
 unfold ir120
 dsimp only [qo,qm,qk,q2,qi,qg,qn,qc,dq,ci,cb,qh,qs]
 refine ai_seq (ai_reg ?_)
 refine st rfl ?_
 refine ai_seq (ai_drw (by kernel_rfl) ?_)
 refine dr rfl ?_
 refine dr (v := ptr P) (h' := h) rfl ?_
 iterate 2 refine dr rfl ?_
 refine dr (o_ld rfl (rd_f (x := 0) hP rfl)) ?_
 refine dr (o_ld rfl (rd_f (x := 0) hB rfl)) ?_
 refine dr (v := .bool (decide (p.1 = id))) (o_v rfl (congrArg Value.bool (by rw [Bool.eq_iff_iff]; simp))) ?_
 refine dr rfl ?_
 refine ai_ret ?_
 exact end_one rfl ⟨rfl,rfl⟩
theorem index_ok (h : Hp) {L j B : Nat} {s : Value} {ps : List (Nat × Pd)} {id : Int} (hs : LR h L j s (ps.map fun p => pE p.1)) (hp : ∀ p ∈ ps,h.get p.1 = some ⟨p4 p.2,true,0⟩) (hB : h.get B = some ⟨[nI id],true,0⟩) (hb : ps.length ≤ 1000000) :
  ACall PX 119 [s,.func (.func 120) #[] #[ptr B]] h (fun v h' => v = nI (ixF ps id) ∧ h = h') := by
 obtain ⟨x,c,e⟩ := hs.len
 subst e
 rw [List.length_map] at *
 refine acallA Tryz.func119 c119 ?_
 unfold ir119
 dsimp only [qo,qm,qk,q2,qi,qg,qn,qc,dq,ci,cb,qh,qs]
 refine ai_seq (ai_reg ?_)
 refine st rfl ?_
 refine ai_seq (ai_seq (ai_reg ?_))
 iterate 3 refine st rfl ?_
 refine ai_block (ai_loopE (γ := Nat) (fun i => [(0,.slice x ps.length c),(1,.func (.func 120) #[] #[ptr B]),(7,nI ps.length),(8,nI i)]) (fun i h' => h = h' ∧ i ≤ ps.length ∧ i ≤ ps.findIdx (fun p => decide (p.2.1 = id))) (fun i => ps.length - i) 0
  (le_cons rfl (le_cons rfl (le_cons rfl (le_cons rfl le_nil)))) ⟨rfl,Nat.zero_le _,Nat.zero_le _⟩ ?_)
 rintro i _ ⟨rfl,hi,hix⟩
 refine ai_seq (ai_reg ?_)
 refine st rfl ?_
 by_cases hlt : i < ps.length
 case neg =>
  refine ai_seq (ai_cond (b := false) (by simp [evA,Env.get,Env.put,hlt]) (fun hb => by cases hb) fun _ => ?_)
  refine ai_exit ?_
  refine ai_seq (ai_reg ?_)
  refine st rfl ?_
  refine ai_ret ?_
  exact end_one rfl ⟨by rw [ixF,if_neg (by omega)],rfl⟩
 refine ai_seq (ai_cond (b := true) (by simp [evA,Env.get,Env.put,hlt]) (fun _ => ?_) fun hb => by cases hb)
 refine ai_skip ?_
 have hu : (ps.map fun p => pE p.1)[i]? = some (pE ps[i].1) := by simp [hlt]
 have hpi := hp ps[i] (List.getElem_mem _)
 obtain ⟨c',e,hr⟩ := hs.at hu
 rw [List.length_map] at e
 cases e
 refine ai_seq (ai_block ?_)
 refine ai_seq (ai_reg ?_)
 iterate 2 refine st rfl ?_
 refine ai_seq (ai_reg ?_)
 iterate 3 refine st rfl ?_
 refine st_iad rfl (by omega) ?_
 refine st_ld rfl (by rw [Int.toNat_natCast]; exact hr) ?_
 refine stCV rfl rfl ((same_ok h hpi hB).mono ?_)
 rintro v _ ⟨rfl,rfl⟩
 by_cases hc : ps[i].2.1 = id
 ·rw [decide_eq_true hc]
  refine ai_cond (b := true) rfl (fun _ => ?_) fun hb => by cases hb
  refine ai_seq (ai_reg ?_)
  iterate 2 refine st rfl ?_
  refine ai_ret ?_
  have e : ps.findIdx (fun p => decide (p.2.1 = id)) = i := by
   refine (List.findIdx_eq hlt).2 ⟨decide_eq_true hc,fun k hk => ?_⟩
   have := List.not_of_lt_findIdx (show k < ps.findIdx (fun p => decide (p.2.1 = id)) by omega)
   simpa using this
  simp only [thenQ_r,blockQ_r,roundE]
  exact end_one rfl ⟨by rw [ixF,e,if_pos hlt],rfl⟩
 ·rw [decide_eq_false hc]
  refine ai_cond (b := false) rfl (fun hb => by cases hb) fun _ => ai_skip ?_
  refine ai_reg ?_
  refine st_w rfl (by omega) ?_
  refine st rfl ?_
  refine ⟨i + 1,le_cons rfl (le_cons rfl (le_cons rfl (le_cons (by simp [Env.get,Env.put]) le_nil))),⟨rfl,by omega,?_⟩,by dsimp only; omega⟩
  rcases Nat.lt_or_ge i (ps.findIdx (fun p => decide (p.2.1 = id))) with h1 | h1
  ·omega
  ·exfalso
   have e : ps.findIdx (fun p => decide (p.2.1 = id)) = i := by omega
   have := List.findIdx_getElem (xs := ps) (p := fun p => decide (p.2.1 = id)) (w := by omega)
   simp only [e] at this
   exact hc (of_decide_eq_true this)
theorem at_ok (h : Hp) {L j : Nat} {ps : List (Nat × Pd)} {made id : Int} (a : LA h L j ps made) (hb : ps.length ≤ 1000000) : ACall PX 85 [ptr L,nI id] h (fun v h' => v = nI (ixF ps id) ∧ Ext h h') := by
 have a1 := a.ext (Ext.new h ⟨[nI id],true,0⟩)
 obtain ⟨hL,hj,⟨s,hg,hs⟩,hp,hn⟩ := a1
 refine acallA Tryz.func85 c85 ?_
 unfold ir85
 dsimp only [qo,qm,qk,q2,qi,qg,qn,qc,dq,ci,cb,qh,qs]
 refine ai_seq (ai_reg ?_)
 refine st (v := ptr h.nx) (h' := h.new ⟨[nI id],true,0⟩) rfl ?_
 refine st rfl ?_
 refine ai_seq (ai_reg ?_)
 iterate 3 refine st rfl ?_
 refine st_ld rfl (rd_f hg rfl) ?_
 refine st (v := .func (.func 120) #[] #[ptr h.nx]) rfl ?_
 refine stC rfl ((index_ok _ hs (fun p hp' => (hp p hp').1) (B := h.nx) (id := id) (by simp [Hp.new]) hb).mono ?_)
 rintro v _ ⟨rfl,rfl⟩
 refine st rfl ?_
 refine ai_ret ?_
 exact end_one rfl ⟨rfl,Ext.new _ _⟩
def ModL (L j : Nat) (ps : List (Nat × Pd)) (h h' : Hp) : Prop := h.nx ≤ h'.nx ∧ ∀ k,k < h.nx → k ≠ L → k ≠ j → (∀ p ∈ ps,k ≠ p.1) → h'.get k = h.get k
theorem ModL.of_ext {L j : Nat} {ps : List (Nat × Pd)} {h h' : Hp} (x : Ext h h') : ModL L j ps h h' := ⟨x.1,fun k hk _ _ _ => x.2 k hk⟩
theorem ModL.trans {L j : Nat} {ps : List (Nat × Pd)} {a b c : Hp} (x : ModL L j ps a b) (y : ModL L j ps b c) : ModL L j ps a c :=
 ⟨Nat.le_trans x.1 y.1,fun k h1 h2 h3 h4 => (y.2 k (Nat.lt_of_lt_of_le h1 x.1) h2 h3 h4).trans (x.2 k h1 h2 h3 h4)⟩
theorem LA.set {h : Hp} {L j : Nat} {ps : List (Nat × Pd)} {made : Int} (a : LA h L j ps made) {i : Nat} {p : Nat × Pd} (hi : ps[i]? = some p) (v : Pd) : LA (h.put p.1 ⟨p4 v,true,0⟩) L j (ps.set i (p.1,v)) made ∧ ModL L j ps h (h.put p.1 ⟨p4 v,true,0⟩) := by
 obtain ⟨hL,hj,⟨s,hg,hs⟩,hp,hn⟩ := a
 obtain ⟨hil,hie⟩ := List.getElem?_eq_some_iff.1 hi
 have hpm : p ∈ ps := List.mem_of_getElem? hi
 have hpp := hp p hpm
 have e1 : (ps.set i (p.1,v)).map (fun p => pE p.1) = ps.map fun p => pE p.1 := by
  rw [List.map_set]
  refine List.ext_getElem (by simp) fun k h1 h2 => ?_
  rw [List.getElem_set]
  split
  ·next h => subst h; simp [hie]
  ·rfl
 have e2 : (ps.set i (p.1,v)).map (·.1) = ps.map (·.1) := by
  rw [List.map_set]
  refine List.ext_getElem (by simp) fun k h1 h2 => ?_
  rw [List.getElem_set]
  split
  ·next h => subst h; simp [hie]
  ·rfl
 refine ⟨⟨hL,hj,⟨s,(hput_ne _ _ (Ne.symm hpp.2.2.1)).trans hg,?_⟩,fun q hq => ?_,by rw [e2]; exact hn⟩,Nat.le_refl _,fun k _ _ _ h4 => hput_ne _ _ (h4 p hpm)⟩
 ·rw [e1]
  exact hs.keep fun _ => hput_ne _ _ (Ne.symm hpp.2.2.2)
 ·obtain ⟨k,hk,rfl⟩ := List.getElem_of_mem hq
  rw [List.length_set] at hk
  rw [List.getElem_set]
  split
  ·exact ⟨hput_same _ _ _,hpp.2.1,hpp.2.2.1,hpp.2.2.2⟩
  ·next hne =>
   have hq := hp ps[k] (List.getElem_mem _)
   have hd : ps[k].1 ≠ p.1 := by
    intro e
    have h1 := (List.nodup_iff_pairwise_ne.1 hn)
    have h2 := List.pairwise_iff_getElem.1 h1
    have hi2 : p.1 = (ps.map (·.1))[i]'(by simpa using hil) := by simp [hie]
    have hk2 : ps[k].1 = (ps.map (·.1))[k]'(by simpa using hk) := by simp
    rcases Nat.lt_or_gt_of_ne hne with h | h
    ·exact h2 i k (by simpa using hil) (by simpa using hk) h (by rw [← hi2,← hk2,e])
    ·exact h2 k i (by simpa using hk) (by simpa using hil) h (by rw [← hi2,← hk2,e])
   exact ⟨(hput_ne _ _ hd).trans hq.1,hq.2.1,hq.2.2.1,hq.2.2.2⟩
theorem LA.cell {h : Hp} {L j : Nat} {ps : List (Nat × Pd)} {made : Int} (a : LA h L j ps made) {i : Nat} {p : Nat × Pd} (hi : ps[i]? = some p) : h.get p.1 = some ⟨p4 p.2,true,0⟩ := (a.pods p (List.mem_of_getElem? hi)).1
theorem enter_no (h : Hp) {L j : Nat} {ps : List (Nat × Pd)} {made id : Int} (a : LA h L j ps made) (hb : ps.length ≤ 1000000) (hn : ixF ps id = -1 ∨ ∃ k p,ixF ps id = (k : Nat) ∧ ps[k]? = some p ∧ p.2.2.1 ≠ 2) : ACall PX 84 [ptr L,nI id] h (fun v h' => v = nI 7 ∧ Ext h h') := by
 refine acallA Tryz.func84 c84 ?_
 unfold ir84
 dsimp only [qo,qm,qk,q2,qi,qg,qn,qc,dq,ci,cb,qh,qs]
 refine ai_seq (ai_reg ?_)
 refine st rfl ?_
 refine ai_seq (ai_seq (ai_reg ?_))
 iterate 2 refine st rfl ?_
 refine ai_cond (b := false) rfl (fun hb => by cases hb) (fun _ => ai_skip ?_)
 refine ai_seq (ai_reg ?_)
 iterate 2 refine st rfl ?_
 refine stC rfl ((at_ok h a hb).mono ?_)
 rintro v h1 ⟨rfl,x1⟩
 refine st rfl ?_
 refine ai_seq (ai_seq (ai_reg ?_))
 refine st rfl ?_
 rcases hn with e | ⟨k,p,e,hk,hne⟩
 ·rw [e]
  iterate 2 refine st rfl ?_
  iterate 7 refine stF rfl rfl ?_
  refine st rfl ?_
  refine ai_cond (b := true) rfl (fun _ => ?_) (fun hb => by cases hb)
  refine ai_seq (ai_reg ?_)
  refine st rfl ?_
  refine ai_ret ?_
  simp only [thenQ_r]
  exact end_one rfl ⟨rfl,x1⟩
 ·rw [e]
  have a1 := a.ext x1
  refine st_v (v2 := .bool false) rfl (congrArg Value.bool (by simp)) ?_
  refine st rfl ?_
  iterate 2 refine stT rfl rfl rfl ?_
  refine stCT rfl rfl rfl ((pod_ok h1 a1 hk).mono ?_)
  rintro v _ ⟨rfl,rfl⟩
  iterate 2 refine stT rfl rfl rfl ?_
  refine stT rfl rfl (o_ld rfl (rd_f (x := 1) (a1.cell hk) rfl)) ?_
  refine stT (v := .bool true) rfl rfl (o_v rfl (congrArg Value.bool (by simp [hne]))) ?_
  refine st rfl ?_
  refine ai_cond (b := true) rfl (fun _ => ?_) (fun hb => by cases hb)
  refine ai_seq (ai_reg ?_)
  refine st rfl ?_
  refine ai_ret ?_
  simp only [thenQ_r]
  exact end_one rfl ⟨rfl,x1⟩
theorem enter_ok (h : Hp) {L j : Nat} {ps : List (Nat × Pd)} {made id : Int} (a : LA h L j ps made) (hb : ps.length ≤ 1000000) {k : Nat} {p : Nat × Pd} (e : ixF ps id = (k : Nat)) (hk : ps[k]? = some p) (hs : p.2.2.1 = 2) (hB : 0 ≤ p.2.2.2.1 ∧ p.2.2.2.1 ≤ 1000000) :
  ACall PX 84 [ptr L,nI id] h (fun v h' => v = nI 0 ∧ LA h' L j (ps.set k (p.1,(p.2.1,p.2.2.1,p.2.2.2.1 + 1,p.2.2.2.2))) made ∧ ModL L j ps h h') := by
 refine acallA Tryz.func84 c84 ?_
 unfold ir84
 dsimp only [qo,qm,qk,q2,qi,qg,qn,qc,dq,ci,cb,qh,qs]
 refine ai_seq (ai_reg ?_)
 refine st rfl ?_
 refine ai_seq (ai_seq (ai_reg ?_))
 iterate 2 refine st rfl ?_
 refine ai_cond (b := false) rfl (fun hb => by cases hb) (fun _ => ai_skip ?_)
 refine ai_seq (ai_reg ?_)
 iterate 2 refine st rfl ?_
 refine stC rfl ((at_ok h a hb).mono ?_)
 rintro v h1 ⟨rfl,x1⟩
 refine st rfl ?_
 have a1 := a.ext x1
 refine ai_seq (ai_seq (ai_reg ?_))
 refine st rfl ?_
 rw [e]
 refine st_v (v2 := .bool false) rfl (congrArg Value.bool (by simp)) ?_
 refine st rfl ?_
 iterate 2 refine stT rfl rfl rfl ?_
 refine stCT rfl rfl rfl ((pod_ok h1 a1 hk).mono ?_)
 rintro v _ ⟨rfl,rfl⟩
 iterate 2 refine stT rfl rfl rfl ?_
 refine stT rfl rfl (o_ld rfl (rd_f (x := 1) (a1.cell hk) rfl)) ?_
 refine stT (v := .bool false) rfl rfl (o_v rfl (congrArg Value.bool (by simp [hs]))) ?_
 refine st rfl ?_
 refine ai_cond (b := false) rfl (fun hb => by cases hb) (fun _ => ai_skip ?_)
 refine ai_seq (ai_reg ?_)
 iterate 2 refine st rfl ?_
 refine stC rfl ((pod_ok h1 a1 hk).mono ?_)
 rintro v _ ⟨rfl,rfl⟩
 iterate 2 refine st rfl ?_
 refine st_ld rfl (rd_f (x := 2) (a1.cell hk) rfl) ?_
 refine st_w rfl (by omega) ?_
 iterate 2 refine st rfl ?_
 refine st_st rfl rfl (wr_f (a1.cell hk) (x := 2) (by simp [p4]) rfl) ?_
 refine ai_seq (ai_reg ?_)
 refine st rfl ?_
 refine ai_ret ?_
 have hset := a1.set hk (p.2.1,p.2.2.1,p.2.2.2.1 + 1,p.2.2.2.2)
 exact end_one rfl ⟨rfl,hset.1,(ModL.of_ext x1).trans hset.2⟩
theorem end_zero {P : Program} {R : Value → Hp → Prop} {env : Env} {h : Hp} (r : R (.tuple #[]) h) : endQ P [] R .ret env h := ⟨[],rfl,r⟩
theorem end_zeroN {P : Program} {R : Value → Hp → Prop} {env : Env} {h : Hp} (r : R (.tuple #[]) h) : endQ P [] R .normal env h := ⟨[],rfl,r⟩
def rps (now after : Int) (ps : List (Nat × Pd)) (i : Nat) : List (Nat × Pd) := (ps.take i).map (fun p => (p.1,rpF now after p.2)) ++ ps.drop i
theorem rps_get (now after : Int) {ps : List (Nat × Pd)} {i : Nat} (hi : i < ps.length) : (rps now after ps i)[i]? = some ps[i] := by
 rw [rps,List.getElem?_append_right (by simp; omega)]
 simp [Nat.min_eq_left (Nat.le_of_lt hi),hi]
theorem rps_succ (now after : Int) {ps : List (Nat × Pd)} {i : Nat} (hi : i < ps.length) : rps now after ps (i + 1) = (rps now after ps i).set i (ps[i].1,rpF now after ps[i].2) := by
 have hl : ((ps.take i).map (fun p => (p.1,rpF now after p.2))).length = i := by simp; omega
 rw [rps,rps,List.set_append_right _ _ (by omega),hl,Nat.sub_self,List.drop_eq_getElem_cons hi,List.set_cons_zero,List.take_succ_eq_append_getElem hi,List.map_append,List.append_assoc]
 rfl
theorem rps_all (now after : Int) (ps : List (Nat × Pd)) : rps now after ps ps.length = ps.map (fun p => (p.1,rpF now after p.2)) := by simp [rps]
theorem ripe_ok (h : Hp) {L j : Nat} {ps : List (Nat × Pd)} {made now after : Int} (a : LA h L j ps made) (hb : ps.length ≤ 1000000) (h0 : 0 ≤ after) (h1 : after ≤ 100) (hs : ∀ p ∈ ps,0 ≤ p.2.2.2.2 ∧ p.2.2.2.2 ≤ 1099511627776) :
  ACall PX 25 [ptr L,nI now,nI after] h (fun _ h' => LA h' L j (ps.map fun p => (p.1,rpF now after p.2)) made ∧ ModL L j ps h h') := by
 refine acallA Tryz.func25 c25 ?_
 unfold ir25
 dsimp only [qo,qm,qk,q2,qi,qg,qn,qc,dq,ci,cb,qh,qs]
 refine ai_seq (ai_seq (ai_reg ?_))
 iterate 3 refine st rfl ?_
 refine stT rfl rfl rfl ?_
 refine stT (v := .bool false) rfl rfl (o_v rfl (congrArg Value.bool (by simp; omega))) ?_
 iterate 2 refine st rfl ?_
 refine stT rfl rfl rfl ?_
 refine stT (v := .bool false) rfl rfl (o_v rfl (congrArg Value.bool (by simp; omega))) ?_
 refine st rfl ?_
 refine ai_cond (b := false) rfl (fun hb => by cases hb) (fun _ => ai_skip ?_)
 obtain ⟨s,hg,hls⟩ := a.row
 obtain ⟨x,c,e⟩ := hls.len
 subst e
 rw [List.length_map] at hg
 refine ai_seq (ai_reg ?_)
 iterate 3 refine st rfl ?_
 refine st_ld rfl (rd_f hg rfl) ?_
 iterate 2 refine st rfl ?_
 refine ai_block (ai_loopE (γ := Nat) (fun i => [(0,ptr L),(1,nI now),(2,nI after),(22,nI ps.length),(23,nI i)]) (fun i h' => LA h' L j (rps now after ps i) made ∧ ModL L j ps h h' ∧ i ≤ ps.length) (fun i => ps.length - i) 0
  (le_cons rfl (le_cons rfl (le_cons rfl (le_cons rfl (le_cons rfl le_nil))))) ⟨by simpa [rps] using a,ModL.of_ext (Ext.refl _),Nat.zero_le _⟩ ?_)
 rintro i h2 ⟨a2,m2,hi⟩
 refine ai_seq (ai_reg ?_)
 refine st rfl ?_
 by_cases hlt : i < ps.length
 case neg =>
  obtain rfl : i = ps.length := by omega
  refine ai_seq (ai_cond (b := false) (by simp [evA,Env.get,Env.put]) (fun hb => by cases hb) fun _ => ?_)
  refine ai_exit ?_
  rw [rps_all] at a2
  exact end_zeroN (R := fun _ h' => LA h' L j (ps.map fun p => (p.1,rpF now after p.2)) made ∧ ModL L j ps h h') ⟨a2,m2⟩
 refine ai_seq (ai_cond (b := true) (by simp [evA,Env.get,Env.put,hlt]) (fun _ => ?_) fun hb => by cases hb)
 refine ai_skip ?_
 have hget := rps_get now after hlt
 have hsuc := rps_succ now after hlt
 have hsi := hs ps[i] (List.getElem_mem _)
 have hmem : ps[i] ∈ ps := List.getElem_mem _
 generalize ps[i] = p at hget hsuc hsi hmem
 refine ai_join (γ := Unit) (fun _ => [(0,ptr L),(1,nI now),(2,nI after),(22,nI ps.length),(23,nI i)]) (fun _ h' => LA h' L j (rps now after ps (i + 1)) made ∧ ModL L j ps h h') ?_ ?_
 case refine_2 =>
  rintro _ h3 ⟨a3,m3⟩
  refine ai_reg ?_
  refine st_w rfl (by omega) ?_
  refine st rfl ?_
  exact ⟨i + 1,le_cons rfl (le_cons rfl (le_cons rfl (le_cons rfl (le_cons (by simp [Env.get,Env.put]) le_nil)))),⟨a3,m3,by omega⟩,by dsimp only; omega⟩
 refine ai_block ?_
 refine ai_seq (ai_reg ?_)
 iterate 2 refine st rfl ?_
 refine ai_seq (ai_reg ?_)
 iterate 2 refine st rfl ?_
 refine stC rfl ((pod_ok h2 a2 hget).mono ?_)
 rintro w _ ⟨rfl,rfl⟩
 refine st rfl ?_
 refine ai_seq (ai_reg ?_)
 iterate 3 refine st rfl ?_
 refine st_ld rfl (rd_f (x := 1) (a2.cell hget) rfl) ?_
 by_cases hc : p.2.2.1 = 1
 ·refine st_v (v2 := .bool true) rfl (congrArg Value.bool (by simp [hc])) ?_
  refine st rfl ?_
  iterate 3 refine stT rfl rfl rfl ?_
  refine stT rfl rfl (o_ld rfl (rd_f (x := 3) (a2.cell hget) rfl)) ?_
  refine stT rfl rfl rfl ?_
  refine stT rfl rfl (o_w rfl (by omega)) ?_
  refine stT rfl rfl rfl ?_
  by_cases hd : p.2.2.2.2 + after ≤ now
  ·refine stT (v := .bool true) rfl rfl (o_v rfl (congrArg Value.bool (by simp [hd]))) ?_
   refine st rfl ?_
   refine ai_cond (b := true) rfl (fun _ => ?_) fun hb => by cases hb
   refine ai_reg ?_
   iterate 3 refine st rfl ?_
   refine st_st rfl rfl (wr_f (a2.cell hget) (x := 1) (by simp [p4]) rfl) ?_
   have hset := a2.set hget (rpF now after p.2)
   rw [← hsuc] at hset
   have e : (p4 p.2).set 1 (nI 2) = p4 (rpF now after p.2) := by rw [rpF,if_pos ⟨hc,hd⟩]; rfl
   rw [e]
   refine ⟨rfl,(),le_cons rfl (le_cons rfl (le_cons rfl (le_cons rfl (le_cons rfl le_nil)))),hset.1,⟨m2.1,fun k h1 h2 h3 h4 => (hput_ne _ _ (h4 p hmem)).trans (m2.2 k h1 h2 h3 h4)⟩⟩
  ·refine stT (v := .bool false) rfl rfl (o_v rfl (congrArg Value.bool (by simp; omega))) ?_
   refine st rfl ?_
   refine ai_cond (b := false) rfl (fun hb => by cases hb) fun _ => ai_skip ?_
   have e : rpF now after p.2 = p.2 := by rw [rpF,if_neg fun h => hd h.2]
   rw [e] at hsuc
   have hsame : (rps now after ps i).set i (p.1,p.2) = rps now after ps i := by
    obtain ⟨hl,he⟩ := List.getElem?_eq_some_iff.1 hget
    rw [← he]
    exact List.set_getElem_self hl
   rw [hsame] at hsuc
   rw [hsuc]
   exact ⟨rfl,(),le_cons rfl (le_cons rfl (le_cons rfl (le_cons rfl (le_cons rfl le_nil)))),a2,m2⟩
 ·refine st_v (v2 := .bool false) rfl (congrArg Value.bool (by simp [hc])) ?_
  refine st rfl ?_
  iterate 8 refine stF rfl rfl ?_
  refine st rfl ?_
  refine ai_cond (b := false) rfl (fun hb => by cases hb) fun _ => ai_skip ?_
  have e : rpF now after p.2 = p.2 := by rw [rpF,if_neg fun h => hc h.1]
  rw [e] at hsuc
  have hsame : (rps now after ps i).set i (p.1,p.2) = rps now after ps i := by
   obtain ⟨hl,he⟩ := List.getElem?_eq_some_iff.1 hget
   rw [← he]
   exact List.set_getElem_self hl
  rw [hsame] at hsuc
  rw [hsuc]
  exact ⟨rfl,(),le_cons rfl (le_cons rfl (le_cons rfl (le_cons rfl (le_cons rfl le_nil)))),a2,m2⟩
theorem slc_lhm {j n c : Nat} {h : Hp} {l u m : Nat} (h1 : l ≤ u) (h2 : u ≤ m) (h3 : m ≤ c) : ∃ v,stepK (.slc 1 true true true) [.slice (some ⟨j,0,some 0⟩) n c,nI l,nI u,nI m] h = some (v,h) := by
 have e1 : (m : Int) ≤ c := by omega
 have e2 : (u : Int) ≤ m := by omega
 have e3 : (l : Int) ≤ u := by omega
 simp [stepK,get3,takeB,sliceA,bounds,bnd,e1,e2,e3]
theorem slc_h {j n c : Nat} {h : Hp} {u : Nat} (h2 : u ≤ c) (h3 : 0 < c) : stepK (.slc 1 false true false) [.slice (some ⟨j,0,some 0⟩) n c,nI u] h = some (.slice (some ⟨j,0,some 0⟩) u c,h) := by
 have e2 : (u : Int) ≤ c := by omega
 have e0 : c ≠ 0 := by omega
 simp [stepK,get3,takeB,sliceA,bounds,bnd,e2,e0]
theorem slc_l {j n c : Nat} {h : Hp} {l : Nat} (h1 : l ≤ n) (h2 : n ≤ c) : stepK (.slc 1 true false false) [.slice (some ⟨j,0,some 0⟩) n c,nI l] h = some (.slice (some ⟨j,l,some (if c = l then 1 else 0)⟩) (n - l) (c - l),h) := by
 have e1 : (l : Int) ≤ n := by omega
 have e2 : ¬ c < n := by omega
 simp [stepK,get3,takeB,sliceA,bounds,bnd,e1,e2]
theorem slc_lh {j n c : Nat} {h : Hp} {l u : Nat} (h1 : l ≤ u) (h2 : u ≤ c) : stepK (.slc 1 true true false) [.slice (some ⟨j,0,some 0⟩) n c,nI l,nI u] h = some (.slice (some ⟨j,l,some (if c = l then 1 else 0)⟩) (u - l) (c - l),h) := by
 have e1 : (l : Int) ≤ u := by omega
 have e2 : (u : Int) ≤ c := by omega
 simp [stepK,get3,takeB,sliceA,bounds,bnd,e1,e2]
theorem splice_eq (vs : List Value) : ∀ (cs : List Value) (o : Nat),o + vs.length ≤ cs.length → splice cs o vs = cs.take o ++ vs ++ cs.drop (o + vs.length) := by
 induction vs with
 | nil => intro cs o _; simp [splice]
 | cons v r ih =>
  intro cs o h
  rw [List.length_cons] at h
  simp only [splice]
  rw [ih _ _ (by rw [List.length_set]; omega),List.set_eq_take_append_cons_drop,if_pos (by omega)]
  have hl : (cs.take o).length = o := by rw [List.length_take]; omega
  have e1 : (cs.take o ++ v :: cs.drop (o + 1)).take (o + 1) = cs.take o ++ [v] := by
   rw [List.take_append,hl,List.take_of_length_le (by omega),show o + 1 - o = 1 by omega]
   rfl
  have e2 : (cs.take o ++ v :: cs.drop (o + 1)).drop (o + 1 + r.length) = cs.drop (o + (r.length + 1)) := by
   rw [List.drop_append,hl,List.drop_eq_nil_of_le (by omega),List.nil_append,show o + 1 + r.length - o = r.length + 1 by omega,List.drop_succ_cons,List.drop_drop]
   congr 1
   omega
  rw [e1,e2,List.length_cons]
  simp
theorem del_app {h : Hp} {j i c : Nat} {us tl : List Value} (hg : h.get j = some ⟨us ++ tl,true,1⟩) (ha : (us ++ tl).all one = true) (hc : c = us.length + tl.length) (hi : i < us.length) (hb : us.length ≤ 1000000) :
  ∃ h2,stepK (.app 20 1 16) [.slice (some ⟨j,0,some 0⟩) i c,.slice (some ⟨j,i + 1,some (if c = i + 1 then 1 else 0)⟩) (us.length - (i + 1)) (c - (i + 1))] h = some (.slice (some ⟨j,0,some 0⟩) (us.length - 1) c,h2) ∧
   h2.get j = some ⟨us.take i ++ us.drop (i + 1) ++ (us ++ tl).drop (us.length - 1),true,1⟩ ∧ h2.nx = h.nx ∧ ∀ k,k ≠ j → h2.get k = h.get k := by
 have hal : us.all one = true := by simp only [List.all_append,Bool.and_eq_true] at ha; exact ha.1
 by_cases hz : us.length - (i + 1) = 0
 ·refine ⟨h,?_,?_,rfl,fun _ _ => rfl⟩
  ·have e : us.length - 1 = i := by omega
   simp only [stepK,rdS,hz,Nat.zero_mul,if_true]
   simp only [appA]
   rw [if_pos ⟨rfl,rfl,by omega,by omega,by omega⟩]
   simp only [if_true,e]
   rw [if_pos (by omega)]
  ·have e : us.length - 1 = i := by omega
   rw [hg,e,List.drop_eq_nil_of_le (by omega : us.length ≤ i + 1),List.append_nil,List.drop_append_of_le_length (by omega),← List.append_assoc,List.take_append_drop]
 ·have hs : (if c = i + 1 then 1 else 0) = 0 := if_neg (by omega)
  have hr : h.rd j (i + 1) ((us.length - (i + 1)) * 1) = some (us.drop (i + 1)) := by
   unfold Hp.rd
   simp only [hg]
   rw [if_pos (by simp; omega),List.drop_append_of_le_length (by omega),List.take_append_of_le_length (by simp),List.take_of_length_le (by simp)]
  have hal2 : (us.drop (i + 1)).all one = true := by
   rw [List.all_eq_true] at hal ⊢
   exact fun x hx => hal x (List.mem_of_mem_drop hx)
  refine ⟨h.put j ⟨splice (us ++ tl) i (us.drop (i + 1)),true,1⟩,?_,?_,rfl,fun k hk => hput_ne _ _ hk⟩
  ·simp only [stepK,rdS,hs,Option.getD_some,if_true]
   rw [if_neg (by omega),hr]
   simp only [appA]
   rw [if_pos ⟨by simp,hal2,by omega,by omega,by omega⟩]
   simp only [hz,if_false]
   rw [if_pos (by omega)]
   simp only [Hp.wr,hg,Nat.zero_add,Nat.mul_one]
   rw [if_pos ⟨trivial,by simp; omega,hal2⟩]
   simp only [Option.map_some]
   rw [show i + (us.length - (i + 1)) = us.length - 1 by omega]
  ·rw [hput_same]
   congr 2
   rw [splice_eq _ _ _ (by simp; omega),List.take_append_of_le_length (by omega),List.length_drop,show i + (us.length - (i + 1)) = us.length - 1 by omega]
theorem del_clr {h : Hp} {j n m : Nat} {sp : Option Nat} {A tl : List Value} {x : Value} (hg : h.get j = some ⟨A ++ x :: tl,true,1⟩) (hn : n = A.length) : stepK (.clr 1 .nilIface) [.slice (some ⟨j,n,sp⟩) 1 m] h = some (.tuple #[],h.put j ⟨A ++ .nilIface :: tl,true,1⟩) := by
 subst hn
 have e : (Builtin.zeroCells (Value.nilIface).cells 1).toList = [.nilIface] := by simp [Builtin.zeroCells,Value.cells]
 have e2 : (Value.nilIface).cells.size = 1 := rfl
 simp only [stepK,Nat.one_ne_zero,if_false,e2,if_true,e,Hp.wr,hg]
 rw [if_pos ⟨trivial,by simp,rfl⟩]
 simp [splice]
theorem delete_ok (h : Hp) {L j i : Nat} {s : Value} {us : List Value} (a : LR h L j s us) (hi : i < us.length) (hb : us.length ≤ 1000000) :
  ACall PX 50 [s,nI i,nI ((i : Int) + 1)] h (fun v h' => LR h' L j v (us.take i ++ us.drop (i + 1)) ∧ h'.nx = h.nx ∧ ∀ k,k ≠ j → h'.get k = h.get k) := by
 obtain ⟨_,rfl⟩ | ⟨tl,rfl,hg,hal,hjL⟩ := a
 ·simp at hi
 refine acallA Tryz.func50 c50 ?_
 unfold ir50
 dsimp only [qo,qm,qk,q2,qi,qg,qn,qc,dq,ci,cb,qh,qs]
 refine ai_seq (ai_reg ?_)
 refine st rfl ?_
 refine ai_seq (ai_reg ?_)
 iterate 5 refine st rfl ?_
 obtain ⟨w,hw⟩ := slc_lhm (j := j) (n := us.length) (c := us.length + tl.length) (h := h) (l := i) (u := i + 1) (m := us.length) (by omega) (by omega) (by omega)
 refine st hw ?_
 refine ai_seq (ai_seq (ai_reg ?_))
 iterate 2 refine st rfl ?_
 refine st_v (v2 := .bool false) rfl (congrArg Value.bool (by simp; omega)) ?_
 refine ai_cond (b := false) rfl (fun hb => by cases hb) (fun _ => ai_skip ?_)
 refine ai_seq (ai_reg ?_)
 iterate 3 refine st rfl ?_
 refine ai_seq (ai_drw (by kernel_rfl) ?_)
 obtain ⟨h2,hst,hg2,hn2,hk2⟩ := del_app hg hal rfl hi hb
 iterate 2 refine dr rfl ?_
 refine dr (slc_h (by omega) (by omega)) ?_
 iterate 2 refine dr rfl ?_
 refine dr (slc_l (l := i + 1) (by omega) (by omega)) ?_
 refine dr hst ?_
 refine dr rfl ?_
 refine ai_seq (ai_reg ?_)
 iterate 4 refine st rfl ?_
 refine st (slc_lh (l := us.length - 1) (u := us.length) (by omega) (by omega)) ?_
 have hA : (us.take i ++ us.drop (i + 1)).length = us.length - 1 := by simp; omega
 have hdr : (us ++ tl).drop (us.length - 1) = (us[us.length - 1]) :: tl := by
  rw [List.drop_append_of_le_length (by omega),List.drop_eq_getElem_cons (by omega),show us.length - 1 + 1 = us.length by omega,List.drop_length]
  rfl
 rw [hdr] at hg2
 have hclr := del_clr (h := h2) (j := j) (n := us.length - 1) (m := us.length + tl.length - (us.length - 1)) (sp := some (if us.length + tl.length = us.length - 1 then 1 else 0)) hg2 hA.symm
 rw [show us.length - (us.length - 1) = 1 by omega]
 refine st hclr ?_
 refine ai_seq (ai_reg ?_)
 iterate 2 refine st rfl ?_
 refine ai_ret ?_
 refine end_one rfl ⟨.inr ⟨.nilIface :: tl,?_,hput_same _ _ _,?_,hjL⟩,by rw [hput_nx]; exact hn2,fun k hk => (hput_ne _ _ hk).trans (hk2 k hk)⟩
 ·rw [hA,List.length_cons,show us.length - 1 + (tl.length + 1) = us.length + tl.length by omega]
 ·simp only [List.all_append,List.all_cons,Bool.and_eq_true] at hal ⊢
  refine ⟨⟨?_,?_⟩,rfl,hal.2⟩
  ·rw [List.all_eq_true] at hal ⊢
   exact fun x hx => hal.1 x (List.mem_of_mem_take hx)
  ·rw [List.all_eq_true] at hal ⊢
   exact fun x hx => hal.1 x (List.mem_of_mem_drop hx)
def ixQ (us : List Value) (q : Value → Bool) : Int := if us.findIdx q < us.length then (us.findIdx q : Nat) else -1
theorem LR.ext {h h' : Hp} {L j : Nat} {s : Value} {us : List Value} (a : LR h L j s us) (hj : j < h.nx) (x : Ext h h') : LR h' L j s us := a.keep fun _ => x.2 j hj
theorem idxF_ok (h : Hp) {L j f : Nat} {caps : List Value} {s : Value} {us : List Value} (q : Value → Bool) (hs : LR h L j s us) (hj : j < h.nx) (hb : us.length ≤ 2199023255552)
  (hc : ∀ g,Ext h g → ∀ u ∈ us,ACall PX f (u :: caps) g (fun v g' => v = .bool (q u) ∧ Ext g g')) :
  ACall PX 119 [s,.func (.func f) #[] ⟨caps⟩] h (fun v h' => v = nI (ixQ us q) ∧ Ext h h') := by
 obtain ⟨x,c,e⟩ := hs.len
 subst e
 refine acallA Tryz.func119 c119 ?_
 unfold ir119
 dsimp only [qo,qm,qk,q2,qi,qg,qn,qc,dq,ci,cb,qh,qs]
 repeat (first | apply sS | apply sE | refine w_mv rfl ?_ | (refine is_okk rfl ?_; refine w_op rfl ?_) | apply ai_seq | apply ai_regW | apply ai_block)
 refine ai_loopE (γ := Nat) (fun i => [(0,.slice x us.length c),(1,.func (.func f) #[] ⟨caps⟩),(7,nI us.length),(8,nI i)]) (fun i h' => Ext h h' ∧ i ≤ us.length ∧ i ≤ us.findIdx q) (fun i => us.length - i) 0
  leX ⟨Ext.refl _,Nat.zero_le _,Nat.zero_le _⟩ ?_
 rintro i g1 ⟨x1,hi,hix⟩
 by_cases hlt : i < us.length
 ·have hu : us[i]? = some us[i] := List.getElem?_eq_getElem hlt
  obtain ⟨c',e,hr⟩ := (hs.ext hj x1).at hu
  cases e
  repeat (first | apply sS | apply sE | refine w_mv rfl ?_ | (apply is_ld; refine w_ldA rfl ?_) | (apply is_bin; refine w_cT rfl ?_) | (apply is_iad; refine w_iadA rfl ?_) | apply ai_seq | apply ai_regW | refine ai_cT rfl ?_ | apply ai_skip | apply ai_block)
  refine w_callv rfl rfl ((hc g1 x1 us[i] (List.getElem_mem _)).mono ?_)
  rintro _ g2 ⟨rfl,x2⟩
  by_cases hq : q us[i] = true
  ·have e : us.findIdx q = i := by
    refine (List.findIdx_eq hlt).2 ⟨hq,fun k hk => ?_⟩
    have := List.not_of_lt_findIdx (show k < us.findIdx q by omega)
    simpa using this
   rw [hq]
   repeat (first | apply sS | apply sE | refine w_mv rfl ?_ | apply ai_seq | apply ai_regW | refine ai_cT rfl ?_ | (apply ai_ret; repeat (first | rw [thenQ_r] | rw [blockQ_r] | rw [roundE_r])))
   exact end_one rfl ⟨by rw [ixQ,e,if_pos hlt],x1.trans x2⟩
  ·have hq2 : q us[i] = false := by simpa using hq
   rw [hq2]
   repeat (first | apply sS | apply sE | refine w_mv rfl ?_ | (apply is_bin; refine w_addA rfl ?_) | apply ai_regW | refine ai_cF rfl ?_ | apply ai_skip)
   refine ⟨i + 1,leX,⟨x1.trans x2,by omega,?_⟩,by dsimp only; omega⟩
   rcases Nat.lt_or_ge i (us.findIdx q) with h1 | h1
   ·omega
   ·exfalso
    have e : us.findIdx q = i := by omega
    have := List.findIdx_getElem (xs := us) (p := q) (w := by omega)
    simp only [e] at this
    exact hq this
 ·repeat (first | apply sS | apply sE | refine w_mv rfl ?_ | (apply is_bin; refine w_cF rfl ?_) | apply ai_seq | apply ai_regW | refine ai_cF rfl ?_ | apply ai_exit | (apply ai_ret; repeat (first | rw [thenQ_r] | rw [blockQ_r] | rw [roundE_r])))
  exact end_one rfl ⟨by rw [ixQ,if_neg (by omega)],x1⟩
theorem zc_one (k : Nat) : (Builtin.zeroCells (Value.nilIface).cells k).toList = List.replicate k .nilIface := by
 have e : (Value.nilIface).cells = #[Value.nilIface] := rfl
 unfold Builtin.zeroCells
 rw [e]
 refine List.ext_getElem (by simp) fun i h1 h2 => ?_
 simp [Nat.mod_one]
theorem rep_one (k : Nat) : (List.replicate k Value.nilIface).all one = true := List.all_eq_true.2 fun x hx => by rw [List.eq_of_mem_replicate hx]; rfl
theorem clr_many {h : Hp} {j n b m : Nat} {sp : Option Nat} {A B tl : List Value} (hg : h.get j = some ⟨A ++ B ++ tl,true,1⟩) (hn : n = A.length) (hb : b = B.length) (h0 : 0 < b) : stepK (.clr 1 .nilIface) [.slice (some ⟨j,n,sp⟩) b m] h = some (.tuple #[],h.put j ⟨A ++ List.replicate B.length .nilIface ++ tl,true,1⟩) := by
 subst hn hb
 have e2 : (Value.nilIface).cells.size = 1 := rfl
 simp only [stepK,e2,if_true,zc_one,Hp.wr,hg]
 rw [if_neg (by omega),if_pos ⟨trivial,by simp,rep_one _⟩]
 simp only [Option.map_some]
 rw [splice_eq _ _ _ (by simp)]
 congr 5
 ·rw [List.append_assoc,List.take_left]
 ·rw [List.length_replicate,← List.length_append,List.drop_left]
theorem delF_ok (h : Hp) {L j f : Nat} {caps : List Value} {s : Value} {us : List Value} (q : Value → Bool) (hs : LR h L j s us) (hj : j < h.nx) (hb : us.length ≤ 2199023255552)
  (hc : ∀ g,h.nx ≤ g.nx → (∀ k,k < h.nx → (k ≠ j ∨ j = L) → g.get k = h.get k) → ∀ u ∈ us,ACall PX f (u :: caps) g (fun v g' => v = .bool (q u) ∧ Ext g g')) :
  ACall PX 144 [s,.func (.func f) #[] ⟨caps⟩] h (fun v g => LR g L j v (us.filter fun u => !q u) ∧ h.nx ≤ g.nx ∧ ∀ k,k < h.nx → (k ≠ j ∨ j = L) → g.get k = h.get k) := by
 obtain ⟨x,c,e⟩ := hs.len
 subst e
 refine acallA Tryz.func144 c144 ?_
 unfold ir144
 dsimp only [qo,qm,qk,q2,qi,qg,qn,qc,dq,ci,cb,qh,qs]
 repeat (first | apply sS | apply sE | refine w_mv rfl ?_ | apply ai_seq | apply ai_regW)
 refine w_call rfl ((idxF_ok h q hs hj hb (fun g xg u hu => hc g xg.1 (fun k hk _ => xg.2 k hk) u hu)).mono ?_)
 rintro _ g1 ⟨rfl,x1⟩
 by_cases hno : us.findIdx q < us.length
 case neg =>
  have e : ixQ us q = -1 := by rw [ixQ,if_neg hno]
  rw [e]
  repeat (first | apply sS | apply sE | refine w_mv rfl ?_ | (apply is_bin; refine w_cT rfl ?_) | apply ai_seq | apply ai_regW | refine ai_cT rfl ?_ | (apply ai_ret; repeat (first | rw [thenQ_r] | rw [blockQ_r] | rw [roundE_r])))
  refine end_one rfl ⟨?_,x1.1,fun k hk _ => x1.2 k hk⟩
  have hall : us.filter (fun u => !q u) = us := by
   refine List.filter_eq_self.2 fun u hu => ?_
   obtain ⟨i,hi,rfl⟩ := List.getElem_of_mem hu
   have := List.not_of_lt_findIdx (show i < us.findIdx q by omega)
   simpa using this
  rw [hall]
  exact hs.ext hj x1
 obtain ⟨i0,hi0⟩ : ∃ i0,us.findIdx q = i0 := ⟨_,rfl⟩
 have e : ixQ us q = (i0 : Nat) := by rw [ixQ,if_pos hno,hi0]
 rw [e]
 rw [hi0] at hno
 obtain ⟨_,rfl⟩ | ⟨tl,e1,hg,hal,hjL⟩ := hs
 ·simp at hno
 cases e1
 have hal' := hal
 simp only [List.all_append,Bool.and_eq_true] at hal'
 have hpre : (us.take i0).filter (fun u => !q u) = us.take i0 := by
  refine List.filter_eq_self.2 fun u hu => ?_
  obtain ⟨i,hi,rfl⟩ := List.getElem_of_mem hu
  rw [List.length_take] at hi
  rw [List.getElem_take]
  have := List.not_of_lt_findIdx (show i < us.findIdx q by omega)
  simpa using this
 have hq0 : q us[i0] = true := by
  have := List.findIdx_getElem (xs := us) (p := q) (w := by omega)
  simpa only [hi0] using this
 repeat (first | apply sS | apply sE | refine w_mv rfl ?_ | (apply is_bin; refine w_addA rfl ?_) | (apply is_bin; refine w_cF rfl ?_) | apply ai_seq | apply ai_regW | refine ai_cF rfl ?_ | apply ai_skip | apply ai_block)
 refine ai_loopE (γ := Nat × Nat × List Value) (fun e => [(0,.slice (some ⟨j,0,some 0⟩) us.length (us.length + tl.length)),(1,.func (.func f) #[] ⟨caps⟩),(5,nI e.1),(6,nI e.2.1)])
  (fun e g => h.nx ≤ g.nx ∧ (∀ k,k < h.nx → k ≠ j → g.get k = h.get k) ∧ e.2.1 ≤ us.length ∧ e.1 = ((us.take e.2.1).filter fun u => !q u).length ∧ e.1 + e.2.2.length = e.2.1 ∧ e.2.2 ≠ [] ∧ e.2.2.all one = true ∧
   g.get j = some ⟨((us.take e.2.1).filter fun u => !q u) ++ e.2.2 ++ us.drop e.2.1 ++ tl,true,1⟩) (fun e => us.length - e.2.1) (i0,i0 + 1,[us[i0]])
  leX ⟨x1.1,fun k hk _ => x1.2 k hk,by dsimp only; omega,?_,rfl,by simp,?_,?_⟩ ?_
 ·dsimp only
  rw [List.take_succ_eq_append_getElem hno,List.filter_append,hpre]
  simp [hq0]
  omega
 ·simp only [List.all_cons,List.all_nil,Bool.and_true]
  exact List.all_eq_true.1 hal'.1 _ (List.getElem_mem _)
 ·rw [x1.2 j hj,hg]
  dsimp only
  rw [List.take_succ_eq_append_getElem hno,List.filter_append,hpre]
  have e9 : [us[i0]].filter (fun u => !q u) = [] := by simp [hq0]
  rw [e9,List.append_nil,List.append_assoc (us.take i0),List.singleton_append,← List.drop_eq_getElem_cons hno,List.take_append_drop]
 rintro ⟨i,jj,mid⟩ g2 ⟨hn2,hk2,hjj,hil,him,hm0,hmo,hg2⟩
 dsimp only at hjj hil him hm0 hmo hg2 ⊢
 by_cases hlt : jj < us.length
 ·have hu : us[jj]? = some us[jj] := List.getElem?_eq_getElem hlt
  have hr : g2.rd j (0 + jj * 1) 1 = some [us[jj]] := by
   rw [Nat.mul_one]
   refine rd_f hg2 ?_
   rw [List.append_assoc,List.getElem?_append_right (by rw [List.length_append]; omega),List.length_append,List.drop_eq_getElem_cons hlt]
   rw [show jj - ((List.filter (fun u => !q u) (List.take jj us)).length + mid.length) = 0 by omega]
   rfl
  repeat (first | apply sS | apply sE | refine w_mv rfl ?_ | (refine is_okn rfl ?_; refine w_op rfl ?_) | (apply is_ld; refine w_ldA rfl ?_) | (apply is_bin; refine w_cT rfl ?_) | (apply is_iad; refine w_iadA rfl ?_) | apply ai_seq | apply ai_regW | refine ai_cT rfl ?_ | apply ai_skip | apply ai_block)
  refine w_callv rfl rfl ((hc g2 hn2 (fun k hk ho => hk2 k hk (ho.resolve_right hjL)) us[jj] (List.getElem_mem _)).mono ?_)
  rintro _ g3 ⟨rfl,x3⟩
  have hn3 := Nat.le_trans hn2 x3.1
  have hk3 : ∀ k,k < h.nx → k ≠ j → g3.get k = h.get k := fun k hk hkj => (x3.2 k (by omega)).trans (hk2 k hk hkj)
  have hg3 := (x3.2 j (by omega)).trans hg2
  have ht : us.take (jj + 1) = us.take jj ++ [us[jj]] := List.take_succ_eq_append_getElem hlt
  obtain ⟨m0,mid1,rfl⟩ : ∃ a b,mid = a :: b := by
   cases mid with
   | nil => exact absurd rfl hm0
   | cons a b => exact ⟨a,b,rfl⟩
  simp only [List.all_cons,Bool.and_eq_true] at hmo
  have ho : one us[jj] = true := List.all_eq_true.1 hal'.1 _ (List.getElem_mem _)
  rw [List.length_cons] at him
  by_cases hq : q us[jj] = true
  ·rw [hq]
   repeat (first | apply sS | apply sE | refine w_mv rfl ?_ | (refine is_okn rfl ?_; refine w_op rfl ?_) | (apply is_bin; refine w_addA rfl ?_) | apply ai_regW | refine ai_cF rfl ?_ | apply ai_skip)
   have hf : (us.take (jj + 1)).filter (fun u => !q u) = (us.take jj).filter (fun u => !q u) := by
    rw [ht,List.filter_append]
    simp [hq]
   refine ⟨(i,jj + 1,m0 :: (mid1 ++ [us[jj]])),leX,⟨hn3,hk3,by dsimp only; omega,by dsimp only; rw [hf]; exact hil,by simp; omega,by simp,by simp [hmo,ho],?_⟩,by dsimp only; omega⟩
   dsimp only
   rw [hg3,hf,List.drop_eq_getElem_cons hlt]
   simp
  ·have hq2 : q us[jj] = false := by simpa using hq
   rw [hq2]
   repeat (first | apply sS | apply sSn | apply sE | refine w_mv rfl ?_ | (refine is_okn rfl ?_; refine w_op rfl ?_) | (apply is_iad; refine w_iadA rfl ?_) | apply ai_seq | apply ai_regW | refine ai_cT rfl ?_)
   refine w_st1 rfl (one_cells ho) hg3 (by simp; omega) ho fun g4 m4 k4 n4 => ?_
   repeat (first | apply sS | apply sE | refine w_mv rfl ?_ | (apply is_bin; refine w_addA rfl ?_) | apply ai_regW)
   have hf : (us.take (jj + 1)).filter (fun u => !q u) = (us.take jj).filter (fun u => !q u) ++ [us[jj]] := by
    rw [ht,List.filter_append]
    simp [hq2]
   refine ⟨(i + 1,jj + 1,mid1 ++ [us[jj]]),leX,⟨by rw [n4]; exact hn3,fun k hk hkj => (m4 k hkj).trans (hk3 k hk hkj),by dsimp only; omega,by dsimp only; rw [hf,List.length_append,← hil]; rfl,by simp; omega,by simp,by simp [hmo,ho],?_⟩,by dsimp only; omega⟩
   dsimp only
   rw [k4,hf,List.drop_eq_getElem_cons hlt,hil]
   simp
 ·obtain rfl : jj = us.length := by omega
  rw [List.take_length,List.drop_length,List.append_nil] at hg2
  rw [List.take_length] at hil
  have hmp : 0 < mid.length := List.length_pos_iff.2 hm0
  repeat (first | apply sS | apply sE | refine w_mv rfl ?_ | (refine is_okn rfl ?_; refine w_op rfl ?_) | (apply is_bin; refine w_cF rfl ?_) | apply ai_seq | apply ai_regW | refine ai_cF rfl ?_ | apply ai_exit)
  refine w_op (slc_l (by omega) (by omega)) ?_
  repeat (first | apply sSn)
  refine w_op (clr_many (sp := some (if us.length + tl.length = i then 1 else 0)) (m := us.length + tl.length - i) hg2 hil (by omega) (by omega)) ?_
  repeat (first | apply sS | apply sE | refine w_mv rfl ?_ | apply ai_seq | apply ai_regW)
  refine w_op (slc_h (by omega) (by omega)) ?_
  repeat (first | apply sS | apply sE | refine w_mv rfl ?_ | (apply ai_ret; repeat (first | rw [thenQ_r] | rw [blockQ_r] | rw [roundE_r])))
  refine end_one rfl ⟨.inr ⟨List.replicate mid.length .nilIface ++ tl,?_,?_,?_,hjL⟩,hn2,fun k hk ho => (hput_ne _ _ (ho.resolve_right hjL)).trans (hk2 k hk (ho.resolve_right hjL))⟩
  ·rw [hil]
   simp
   omega
  ·rw [hput_same]
   simp
  ·simp only [List.all_append,Bool.and_eq_true,rep_one,hal'.2,and_true]
   exact List.all_eq_true.2 fun u hu => List.all_eq_true.1 hal'.1 u (List.mem_filter.1 hu).1
section
section
variable {P : Program} {CT : CTy} {env : Env} {h : Hp} {d : Option Nat} {xs : List Operand} {R : Value → Hp → Prop}
theorem w_pushL {L j q m t : Nat} {b : Bool} {s u : Value} {us : List Value} (e : mapF env xs = some [s,.slice (some ⟨q,0,none⟩) 1 1]) (a : LR h L j s us) (hq : h.get q = some ⟨[u],b,m⟩) (hj : j < h.nx) (hL : L < h.nx) (hu : one u = true) (hb : us.length ≤ 2199023255552)
  (n : ∀ s' g j',LR g L j' s' (us ++ [u]) → h.nx ≤ g.nx → j' < g.nx → (j' = j ∨ h.nx ≤ j') → (∀ k,k < h.nx → (k ≠ j ∨ j = L) → g.get k = h.get k) → one s' = true → R s' g) : WI P CT ⟨d,none,.op (.app t 1 16) xs⟩ env h R := by
 have hrd : rdS h (some ⟨q,0,none⟩) (1 * 1) = some [u] := by
  simp [rdS,Hp.rd,hq]
 have hall : [u].all one = true := by simp [hu]
 suffices hs : ∃ s' g j',stepK (.app t 1 16) [s,.slice (some ⟨q,0,none⟩) 1 1] h = some (s',g) ∧ LR g L j' s' (us ++ [u]) ∧ h.nx ≤ g.nx ∧ j' < g.nx ∧ (j' = j ∨ h.nx ≤ j') ∧ (∀ k,k < h.nx → (k ≠ j ∨ j = L) → g.get k = h.get k) ∧ one s' = true by
  obtain ⟨s',g,j',h1,h2,h3,h4,h5,h6,h7⟩ := hs
  refine w_op (v := s') (h' := g) ?_ (n s' g j' h2 h3 h4 h5 h6 h7)
  unfold opF
  rw [e]
  exact h1
 rcases a with ⟨rfl,rfl⟩ | ⟨tl,rfl,hg,hal,hjL⟩
 ·refine ⟨.slice (some ⟨h.nx,0,some 0⟩) 1 1,h.new ⟨[u],true,1⟩,h.nx,?_,.inr ⟨[],rfl,?_,hall,by omega⟩,by simp [Hp.new],by simp [Hp.new],.inr (Nat.le_refl _),?_,rfl⟩
  ·simp only [stepK,hrd]
   simp [appA,hu]
  ·simp [Hp.new]
  ·intro k hk _
   have e3 : ¬ k = h.nx := by omega
   simp only [Hp.new,e3,if_false]
 ·have hal' := hal
  simp only [List.all_append,Bool.and_eq_true] at hal
  cases tl with
  | nil =>
   rw [List.append_nil] at hg
   have hold : (if us.length = 0 then some [] else h.rd j 0 (us.length * 1)) = some us := by
    split
    ·next hz => rw [List.eq_nil_of_length_eq_zero hz]
    ·simp [Hp.rd,hg]
   refine ⟨.slice (some ⟨h.nx,0,some 0⟩) (us.length + 1) (us.length + 1),(h.del j).new ⟨us ++ [u],true,1⟩,h.nx,?_,.inr ⟨[],by simp,?_,by simp [hu,hal.1],by omega⟩,by simp [Hp.new,Hp.del],by simp [Hp.new,Hp.del],.inr (Nat.le_refl _),?_,rfl⟩
   ·simp only [stepK,hrd]
    simp only [appA]
    rw [if_pos ⟨by simp,hall,by omega,by omega,by omega⟩]
    simp only [Nat.one_ne_zero,if_false,List.length_nil,Nat.add_zero,show ¬ (us.length + 1 ≤ us.length) by omega,hold,hg]
    simp [hal.1]
   ·simp [Hp.new,Hp.del]
   ·intro k hk hkj
    have e2 : ¬ k = j := by omega
    have e3 : ¬ k = h.nx := by omega
    simp only [Hp.new,Hp.del,e2,e3,if_false]
  | cons x tl =>
   refine ⟨.slice (some ⟨j,0,some 0⟩) (us.length + 1) (us.length + (tl.length + 1)),h.put j ⟨us ++ u :: tl,true,1⟩,j,?_,.inr ⟨tl,by simp; omega,by rw [hput_same]; simp,by simp only [List.all_append,List.all_cons,Bool.and_eq_true] at hal ⊢; simp [hu,hal],hjL⟩,by rw [hput_nx]; exact Nat.le_refl _,by rw [hput_nx]; exact hj,.inl rfl,?_,rfl⟩
   ·simp only [stepK,hrd]
    simp only [appA]
    rw [if_pos ⟨by simp,hall,by omega,by omega,by omega⟩]
    simp only [Nat.one_ne_zero,if_false,List.length_cons]
    rw [if_pos (by omega)]
    simp only [Hp.wr,hg,Nat.zero_add,Nat.mul_one]
    rw [if_pos ⟨trivial,by simp,hall⟩]
    simp [splice]
   ·intro k hk hkj
    have e2 : k ≠ j := by omega
    rw [hput_ne _ _ e2]
end
theorem LR.one {h : Hp} {L j : Nat} {s : Value} {us : List Value} (a : LR h L j s us) : Am.one s = true ∧ s.cells = #[s] := by
 rcases a with ⟨rfl,_⟩ | ⟨_,rfl,_⟩ <;> exact ⟨rfl,rfl⟩
end
end Go.Proofs.YtelmcfnkclihcaaGreatDoorW.Am
namespace Go.Proofs.YtelmcfnkclihcaaGreatDoorW.Am
open Go
section
def isDig (b : UInt8) : Bool := decide (48 ≤ b.toNat ∧ b.toNat ≤ 57)
def valA (a : Nat) : List UInt8 → Nat
 | [] => a
 | b :: r => valA (a * 10 + (b.toNat - 48)) r
def digF (l : List UInt8) (most : Nat) : Option Nat := if 1 ≤ l.length ∧ l.length ≤ most ∧ l.all isDig = true then some (valA 0 l) else none
def sgn (neg : Bool) (n : Int) : Int := if neg = true then -n else n
def numU (t : List UInt8) : Option Nat :=
 match digF (Go.Lib.cut t [46]).1 9 with
 | none => none
 | some n => if (Go.Lib.cut t [46]).2.2 = true then (match digF (Go.Lib.cut t [46]).2.1 3 with
  | none => none
  | some k => some (n * 1000 + k * 10 ^ (3 - (Go.Lib.cut t [46]).2.1.length))) else some (n * 1000)
def numF (l : List UInt8) : Option Int := (numU (Go.Lib.trimPrefix l [45])).map fun n => sgn (Go.Lib.hasPrefix l [45]) n
def nmB : List (List UInt8) := [[116,97,114,103,101,116],[117,116,105,108],[115,116,97,98,108,101],[112,97,110,105,99],[103,114,97,105,110],[116,104,114,101,115,104,111,108,100],[117,112],[100,111,119,110],[109,105,110],[109,97,120],[105,110,105,116,105,97,108],[103,114,97,99,101],[100,101,108,97,121],[98,117,114,115,116],[108,105,109,105,116],[113,117,101,117,101],[116,105,109,101,111,117,116],[114,101,97,100,121],[115,117,98,115,101,116],[115,97,109,112,108,101]]
def thinK (k : Nat) : Bool := [0,1,5,6,7,13].contains k
def setF (k : Nat) (l : List UInt8) : Option Int := if thinK k = true then numF l else (digF l 6).map fun n => (n : Int)
def consH (b : UInt8) : List (List UInt8) → List (List UInt8)
 | [] => [[b]]
 | a :: t => (b :: a) :: t
def linesL : List UInt8 → List (List UInt8)
 | [] => [[]]
 | b :: l => if b = 10 then [] :: linesL l else consH b (linesL l)
def findN (nm : List UInt8) : Option Nat := nmB.findIdx? (· == nm)
def blankB : List UInt8 → Bool
 | [] => true
 | b :: _ => b == 35
section
variable (S : Nat → List UInt8 → Option Int)
def lineF (l : List UInt8) : Option (Nat × Int) := (findN (Go.Lib.cut l [58,32]).1).bind fun k => (S k (Go.Lib.cut l [58,32]).2.1).map fun n => (k,n)
def parseL : List (List UInt8) → Nat → List Int → List Nat → Except Nat (List Int)
 | [],_,v,_ => .ok v
 | l :: r,i,v,was => if blankB (Go.Lib.trimB l 32) = true then parseL r (i + 1) v was else match lineF S (Go.Lib.trimB l 32) with
  | none => .error (i + 1)
  | some (k,x) => if was.contains k = true then .error (i + 1) else parseL r (i + 1) (v.set k x) (was ++ [k])
end
def ofL : List Int → Cf20
 | [a0,a1,a2,a3,a4,a5,a6,a7,a8,a9,b0,b1,b2,b3,b4,b5,b6,b7,b8,b9] => ⟨a0,a1,a2,a3,a4,a5,a6,a7,a8,a9,b0,b1,b2,b3,b4,b5,b6,b7,b8,b9⟩
 | _ => ⟨0,0,0,0,0,0,0,0,0,0,0,0,0,0,0,0,0,0,0,0⟩
def parseF (S : Nat → List UInt8 → Option Int) (c : Cf20) (s : List UInt8) : Cf20 × Int × Int :=
 match parseL S (linesL s) 0 (vl c) [] with
 | .error n => (c,4,n)
 | .ok v => if mayB (ofL v) = true then (ofL v,0,0) else (c,5,0)
end
def endF (up : Bool) : Int × Int := (if up then 9223372036854775807 else -9223372036854775808,2)
def mAdd (a b : Int) : Int × Int := if (0 < b ∧ 9223372036854775807 - b < a) ∨ (b < 0 ∧ a < -9223372036854775808 - b) then endF (decide (0 < b)) else (a + b,0)
def mSub (a b : Int) : Int × Int := if (b < 0 ∧ 9223372036854775807 + b < a) ∨ (0 < b ∧ a < -9223372036854775808 + b) then endF (decide (b < 0)) else (a - b,0)
def mUp (a b : Int) : Int := if a % b = 0 then a / b else a / b + 1
def mClamp (a lo hi : Int) : Int := if hi < a then hi else if a < lo then lo else a
def topF (c : Cf20) : Int := if c.max = 0 then 100 else c.max
def perF (c : Cf20) : Int := max (c.target * c.util / 1000) 1
def wantF (c : Cf20) (mean : Int) : Int := mClamp (mUp mean (perF c)) 0 1000000
def overF (c : Cf20) (want ready : Int) : Bool := decide (c.threshold * mClamp ready 1 1000000 ≤ mClamp want 0 1000000 * 1000)
def thereF (ready lo : Int) : Int := min (max ready lo) 1000000
def mostR (c : Cf20) (ready : Int) : Int := min (mUp (c.up * thereF ready 1) 1000) 1000000
def leastR (c : Cf20) (ready : Int) : Int := 1000 * thereF ready 0 / c.down
def limitR (c : Cf20) (want ready : Int) : Int := min (max want (leastR c ready)) (mostR c ready)
abbrev Md2 := Int × Int
def isM (m : Md2) : Bool := decide (0 ≤ m.1)
def nextM (c : Cf20) (m : Md2) (now : Int) (over : Bool) : Md2 :=
 if over then (if isM m then (now,m.2) else (now,0)) else if isM m && decide (c.stable ≤ now - m.1) then (-1,0) else m
def keepM (m : Md2) (want : Int) : Md2 × Int := if isM m then ((m.1,max m.2 want),max m.2 want) else (m,want)
def excF (c : Cf20) (ready quick : Int) : Int := if c.burst = -1000 then -1000 else (mSub (mSub (thereF ready 0 * c.limit * 1000) quick).1 c.burst).1
def proxF (c : Cf20) (ready excess : Int) : Bool := decide (c.burst = -1000) || decide (ready < 1) || (decide (0 < c.burst) && decide (excess < 0))
def zNext (s now : Int) (proxy : Bool) : Int := if proxy then (if 0 ≤ s then s else now) else -1
def zMay (c : Cf20) (s now mean waiting busy : Int) : Bool := decide (c.min = 0 ∧ mean = 0 ∧ waiting = 0 ∧ busy = 0 ∧ 0 ≤ s ∧ s ≤ now ∧ c.grace ≤ now - s)
def zWant (c : Cf20) (s now want have_ mean waiting busy : Int) : Int := if 0 < want then want else if (have_ = 0 ∧ waiting = 0) ∨ zMay c s now mean waiting busy = true then 0 else 1
structure Bk where
 (at_ sum n : Int)
 cut : Bool
structure Rg where
 l : List Bk
 (window grain n newest : Int)
 over : Bool
def bksF (window grain : Int) : Int := (window + grain - 1) / grain
def rgNew (window grain : Int) : Rg := ⟨[],window,grain,bksF window grain,-1,false⟩
def forgF (newest n : Int) (l : List Bk) : List Bk := l.filter fun b => decide (newest - b.at_ < n)
def putB (at_ v : Int) : List Bk → List Bk
 | [] => [⟨at_,(mAdd 0 v).1,1,false || decide ((mAdd 0 v).2 ≠ 0)⟩]
 | b :: l => if b.at_ = at_ then ⟨b.at_,(mAdd b.sum v).1,b.n + 1,b.cut || decide ((mAdd b.sum v).2 ≠ 0)⟩ :: l else b :: putB at_ v l
def rgPut (r : Rg) (t v : Int) : Rg :=
 if t < 0 ∨ 1099511627776 < t ∨ v < 0 then r else
  if r.n ≤ max r.newest (t / r.grain) - t / r.grain then { r with newest := max r.newest (t / r.grain),l := forgF (max r.newest (t / r.grain)) r.n r.l }
  else { r with newest := max r.newest (t / r.grain),l := putB (t / r.grain) v (forgF (max r.newest (t / r.grain)) r.n r.l) }
def sumB (last n : Int) : List Bk → Int × Int × Bool → Int × Int × Bool
 | [],x => x
 | b :: l,x => sumB last n l (if last < b.at_ ∨ n ≤ last - b.at_ then x else ((mAdd x.1 b.sum).1,x.2.1 + b.n,x.2.2 || b.cut || decide ((mAdd x.1 b.sum).2 ≠ 0)))
def rgSum (r : Rg) (t : Int) : Int × Int × Bool := if t < 0 then (0,0,r.over) else sumB (t / r.grain) r.n r.l (0,0,r.over)
def rgMean (r : Rg) (t : Int) : Int := if (rgSum r t).2.1 = 0 then 0 else (rgSum r t).1 / (rgSum r t).2.1
def rgSeen (r : Rg) (t : Int) : Rg := { r with over := (rgSum r t).2.2 }
def rgSize (r : Rg) (window : Int) : Rg := if window < r.grain ∨ 600 < window then r else { r with window := window,n := bksF window r.grain,l := forgF r.newest (bksF window r.grain) r.l }
structure Mt where
 c : Cf20
 (a b : Rg)
 over : Bool
def mtNew (c : Cf20) : Mt := ⟨c,rgNew c.stable c.grain,rgNew c.panic c.grain,false⟩
def mtPut (m : Mt) (t v : Int) : Mt := { m with a := rgPut m.a t v,b := rgPut m.b t v }
def mtSeen (m : Mt) (t : Int) : Mt := { m with a := rgSeen m.a t,b := rgSeen m.b t }
def mtOver (m : Mt) : Bool := m.over || m.a.over || m.b.over
def mtChange (m : Mt) (c : Cf20) : Mt := if c.grain ≠ m.c.grain then { mtNew c with over := mtOver m } else { m with a := rgSize m.a c.stable,b := rgSize m.b c.panic,c := c }
structure Dl where
 l : List (Int × Int)
 (span last : Int)
def dlPut (d : Dl) (t want : Int) : Dl :=
 if t < d.last ∨ 1099511627776 < t ∨ want < 0 ∨ 1000000 < want then d else { d with last := t,l := (d.l.filter fun w => decide (t - w.1 ≤ 600)) ++ [(t,want)] }
def dlMost (d : Dl) (t : Int) : Int := d.l.foldl (fun n w => if max t 0 ≤ w.1 ∨ max t 0 - w.1 < d.span then max n w.2 else n) 0
structure Dc where
 (t stable quick want : Int)
 panic : Bool
 excess : Int
 deriving DecidableEq
structure Dd where
 c : Cf20
 m : Mt
 d : Dl
 mode : Md2
 last : Int
def ddNew (c : Cf20) : Dd := ⟨c,mtNew c,⟨[],c.delay,0⟩,(-1,0),0⟩
def ddPut (d : Dd) (t v : Int) : Dd := { d with m := mtPut d.m t v }
def ddLim (c : Cf20) (m : Md2) (stable quick ready : Int) : Int := if isM m then max (limitR c (wantF c stable) ready) (limitR c (wantF c quick) ready) else limitR c (wantF c stable) ready
def ddNext (d : Dd) (now ready : Int) : Dd × Dc :=
 let stable := rgMean d.m.a now
 let quick := rgMean d.m.b now
 let md := nextM d.c d.mode now (overF d.c (wantF d.c quick) ready)
 let dl := dlPut d.d now (ddLim d.c md stable quick ready)
 let kp := keepM md (dlMost dl now)
 ({ d with m := mtSeen d.m now,d := dl,mode := kp.1,last := now },⟨now,stable,quick,max (min kp.2 (topF d.c)) d.c.min,isM kp.1,excF d.c ready quick⟩)
def ddChange (d : Dd) (c : Cf20) : Dd := { d with m := mtChange d.m c,d := { d.d with span := c.delay },mode := (d.mode.1,min d.mode.2 (topF c)),c := c }
abbrev Rq := Int × Int × Int × Int
abbrev r0 : Rq := (0,0,0,0)
structure Vw where
 (t want : Int)
 (panic proxy : Bool)
 pods : List Pd
 (waiting busy : Int)
 ends : List Int
 over : Bool
 deriving DecidableEq
structure Sy where
 c : Cf20
 now : Int
 ps : List Pd
 made : Int
 q : List (Int × Int)
 (depth put : Int)
 d : Dd
 r : List Rq
 last : Dc
 want : Int
 proxy : Bool
 since : Int
 lost : Int
 tr : List Vw
def pickA (limit : Int) : List Int → Int → Int → Int → Int
 | [],_,best,_ => best
 | z :: l,k,best,bv => if z < limit ∧ (best < 0 ∨ z < bv) then pickA limit l (k + 1) k z else pickA limit l (k + 1) best bv
def pickF (l : List Int) (limit : Int) : Int := pickA limit l 0 (-1) 0
def busyF (l : List Pd) (id : Int) : Int := (l.getD (fI l id) p0).2.2.1
def idsF (c : Cf20) (proxy : Bool) (ps : List Pd) : List Int := if proxy then subF (rF ps) c.subset else rF ps
def setR (r : List Rq) (k : Nat) (f : Rq → Rq) : List Rq := r.set k (f (r.getD k r0))
def sentF (c : Cf20) (proxy : Bool) (now : Int) : List (Int × Int) → List Pd → List Rq → List (Int × Int) × List Pd × List Rq
 | [],ps,r => ([],ps,r)
 | w :: q,ps,r =>
  let k := pickF ((idsF c proxy ps).map (busyF ps)) c.limit
  if k < 0 then (w :: q,ps,r) else
   let id := (idsF c proxy ps).getD k.toNat 0
   sentF c proxy now q (enF ps id).1 (setR r w.1.toNat fun x => (x.1,now,2,id))
def sySent (s : Sy) : Sy :=
 let x := sentF s.c s.proxy s.now s.q s.ps s.r
 { s with q := x.1,ps := x.2.1,r := x.2.2 }
def syArrive (s : Sy) : Sy :=
 if (s.q.length : Int) < s.depth then sySent { s with q := s.q ++ [((s.r.length : Int),s.now)],put := s.now,r := s.r ++ [(s.now,s.now,1,-1)] }
 else sySent { s with r := s.r ++ [(s.now,s.now,5,-1)] }
def nTimes {α : Type} (f : α → α) : Nat → α → α
 | 0,x => x
 | n + 1,x => nTimes f n (f x)
def flyA : Nat → List Rq → List Nat
 | _,[] => []
 | k,x :: r => if x.2.2.1 = 2 then k :: flyA (k + 1) r else flyA (k + 1) r
def flyF (r : List Rq) : List Nat := flyA 0 r
def syFinish (s : Sy) (n : Int) : Sy × Int :=
 if ((flyF s.r).length : Int) ≤ n then (s,7) else
  let k := (flyF s.r).getD n.toNat 0
  (sySent { s with r := setR s.r k fun x => (x.1,s.now,3,x.2.2.2),ps := (lvF s.ps (s.r.getD k r0).2.2.2).1 },0)
def syCrash (s : Sy) (n : Int) : Sy × Int :=
 if n < 0 ∨ (s.ps.length : Int) ≤ n then (s,7) else
  let id := (s.ps.getD n.toNat p0).1
  (sySent { s with ps := s.ps.take n.toNat ++ s.ps.drop (n.toNat + 1),r := s.r.map fun x => if x.2.2.1 = 2 ∧ x.2.2.2 = id then (x.1,s.now,6,x.2.2.2) else x },0)
def syChange (s : Sy) (t : List UInt8) : Sy × Int :=
 let x := parseF setF s.c t
 if x.2.1 ≠ 0 then (s,x.2.1) else (sySent { s with c := x.1,d := ddChange s.d x.1,depth := x.1.queue },0)
def statsF (ps : List Pd) (now : Int) (asked : List Int) : List (Int × Int × Int) := asked.flatMap fun id => (ps.filter fun p => decide (p.1 = id)).map fun p => (id,now - p.2.2.2,p.2.2.1 * 1000)
def spreadF (l : List (Int × Int × Int)) (ready : Int) : Int :=
 let sum := l.foldl (fun a x => (mAdd a x.2.2).1) 0
 if l.length = 0 then 0 else (if 9223372036854775807 < sum * ready then 9223372036854775807 else sum * ready) / (l.length : Int)
def scrapeF (s : Sy) : Int := (mAdd (spreadF (statsF s.ps s.now (whichF (rF s.ps) s.c.sample s.now)) (rF s.ps).length) ((s.q.length : Int) * 1000)).1
def endsF (r : List Rq) : List Int := (List.range 7).map fun k : Nat => ((r.countP fun x => decide (x.2.2.1 = (k : Int)) : Nat) : Int)
def seeF (s : Sy) : Vw := ⟨s.now,s.want,s.last.panic,s.proxy,s.ps,s.q.length,(s.r.countP fun x => decide (x.2.2.1 = 2) : Nat),endsF s.r,mtOver s.d.m⟩
def lateF (now age : Int) (q : List (Int × Int)) : List (Int × Int) := q.takeWhile fun w => lateB now age w.2
def lateR (now : Int) (late : List (Int × Int)) (r : List Rq) : List Rq := late.foldl (fun (r : List Rq) (w : Int × Int) => setR r w.1.toNat fun x => (x.1,now,4,x.2.2.2)) r
def tkL (s : Sy) : List (Int × Int) := lateF (s.now + 1) s.c.timeout s.q
def tk0 (s : Sy) : Sy := { s with now := s.now + 1 }
def tk1 (s : Sy) : Sy := { s with now := s.now + 1,q := s.q.drop (tkL s).length,r := lateR (s.now + 1) (tkL s) s.r,ps := s.ps.map (rpF (s.now + 1) s.c.ready) }
def tk2 (s : Sy) : Sy := if 0 < s.lost then { s with lost := s.lost - 1 } else { s with d := ddPut s.d s.now (scrapeF s) }
def tkX (s : Sy) : Dd × Dc := ddNext s.d s.now (rF s.ps).length
def tkP (s : Sy) : Bool := proxF s.c (rF s.ps).length (tkX s).2.excess
def tkW (s : Sy) : Int := zWant s.c (zNext s.since s.now (tkP s)) s.now (tkX s).2.want (cF s.ps) (tkX s).2.stable s.q.length (flyF s.r).length
def tk3 (s : Sy) : Sy := { s with d := (tkX s).1,last := (tkX s).2,proxy := tkP s,since := zNext s.since s.now (tkP s),want := tkW s }
def tkN (s : Sy) : Int := min s.want (topF s.c)
def tk4 (s : Sy) : Sy := if tkN s ≠ (cF s.ps : Int) then { s with ps := scL s.made s.now (tkN s).toNat s.ps,made := scM s.made (tkN s).toNat s.ps } else s
def tk5 (s : Sy) : Sy := { s with tr := if 1000 < (s.tr ++ [seeF s]).length then (s.tr ++ [seeF s]).drop 1 else s.tr ++ [seeF s] }
def syTick (s : Sy) : Sy := tk5 (sySent (tk4 (tk3 (tk2 (tk1 s)))))
def syNew (c : Cf20) : Sy :=
  { c := c,now := 0,ps := (scL 0 0 c.initial.toNat []).map (rpF 0 0),made := c.initial,q := [],depth := c.queue,put := -9223372036854775808,d := ddNew c,r := [],last := ⟨0,0,0,0,false,0⟩,
    want := c.initial,proxy := proxF c c.initial (excF c c.initial 0),since := -1,lost := 0,tr := [] }
structure Ev where
 (kind n : Int)
 text : List UInt8
def mayE (e : Ev) : Bool :=
 if e.kind ≠ 5 ∧ e.text ≠ [] then false else
 if e.kind = 1 then decide (1 ≤ e.n ∧ e.n ≤ 200) else
 if e.kind = 2 then decide (1 ≤ e.n ∧ e.n ≤ 100) else
 if e.kind = 3 ∨ e.kind = 4 then decide (0 ≤ e.n ∧ e.n ≤ 999) else
 if e.kind = 5 then decide (e.n = 0 ∧ e.text.length ≤ 200) else
 if e.kind = 6 then decide (1 ≤ e.n ∧ e.n ≤ 50) else false
def syDo (s : Sy) (e : Ev) : Sy × Int :=
 if mayE e = false then (s,1) else
 if e.kind = 2 then (nTimes syArrive e.n.toNat s,0) else
 if e.kind = 3 then syFinish s e.n else
 if e.kind = 4 then syCrash s e.n else
 if e.kind = 5 then syChange s e.text else
 if e.kind = 6 then ({ s with lost := min (s.lost + e.n) 1000 },0) else
 if 1099511627776 < s.now + e.n then (s,5) else (nTimes syTick e.n.toNat s,0)
end Go.Proofs.YtelmcfnkclihcaaGreatDoorW.Am
namespace Go.Proofs.YtelmcfnkclihcaaGreatDoorW.Am
open Go Go.RowKit
def L64 (a : Int) : Prop := -9223372036854775808 ≤ a ∧ a ≤ 9223372036854775807
theorem mend_ok (h : Hp) (up : Bool) : ACall PX 78 [.iface 4 (.bool up)] h (fun v g => v = .tuple #[nI (endF up).1,nI (endF up).2] ∧ h = g) := by
 cases up
 ·refine acallA Tryz.func78 c78 ?_
  unfold ir78
  dsimp only [qo,qm,qk,q2,qi,qg,qn,qc,dq,ci,cb,qh,qs]
  repeat (first | apply sS | apply sE | refine w_mv rfl ?_ | refine w_pickT rfl ?_ | (refine is_okk rfl ?_; refine w_op rfl ?_) | refine w_ext rfl rfl ?_ | refine w_gT rfl rfl ?_ | apply ai_seq | apply ai_regW | refine ai_cF rfl ?_ | apply ai_skip | (apply ai_ret; repeat (first | rw [thenQ_r] | rw [blockQ_r] | rw [roundE_r])))
  exact end_two rfl rfl ⟨rfl,rfl⟩
 ·refine acallA Tryz.func78 c78 ?_
  unfold ir78
  dsimp only [qo,qm,qk,q2,qi,qg,qn,qc,dq,ci,cb,qh,qs]
  repeat (first | apply sS | apply sE | refine w_mv rfl ?_ | refine w_pickT rfl ?_ | (refine is_okk rfl ?_; refine w_op rfl ?_) | refine w_ext rfl rfl ?_ | refine w_gT rfl rfl ?_ | apply ai_seq | apply ai_regW | refine ai_cT rfl ?_ | (apply ai_ret; repeat (first | rw [thenQ_r] | rw [blockQ_r] | rw [roundE_r])))
  exact end_two rfl rfl ⟨rfl,rfl⟩
theorem madd_ok (h : Hp) {a b : Int} (ha : L64 a) (hb : L64 b) : ACall PX 97 [nI a,nI b] h (fun v g => v = .tuple #[nI (mAdd a b).1,nI (mAdd a b).2] ∧ h = g) := by
 unfold mAdd
 unfold L64 at ha hb
 by_cases h0 : 0 < b
 ·by_cases h1 : 9223372036854775807 - b < a
  ·rw [if_pos (.inl ⟨h0,h1⟩),decide_eq_true h0]
   refine acallA Tryz.func97 c97 ?_
   unfold ir97
   dsimp only [qo,qm,qk,q2,qi,qg,qn,qc,dq,ci,cb,qh,qs]
   repeat (first | apply sS | apply sE | refine w_mv rfl ?_ | refine w_pickT rfl ?_ | (refine is_okk rfl ?_; refine w_op rfl ?_) | refine w_ext rfl rfl ?_ | refine w_gT rfl rfl ?_ | refine w_gF rfl rfl ?_ | refine w_gU rfl ?_ | (apply is_bin; refine w_subA rfl ?_) | (apply is_bin; refine w_cT rfl ?_) | (refine w_callE ((mend_ok _ _).mono ?_) rfl rfl; rintro _ _ ⟨rfl,rfl⟩) | apply ai_seq | apply ai_regW | refine ai_cT rfl ?_ | (apply ai_ret; repeat (first | rw [thenQ_r] | rw [blockQ_r] | rw [roundE_r])))
   exact end_two rfl rfl ⟨rfl,rfl⟩
  ·rw [if_neg (by omega)]
   refine acallA Tryz.func97 c97 ?_
   unfold ir97
   dsimp only [qo,qm,qk,q2,qi,qg,qn,qc,dq,ci,cb,qh,qs]
   repeat (first | apply sS | apply sE | refine w_mv rfl ?_ | refine w_pickT rfl ?_ | refine w_pickF rfl ?_ | refine w_gT rfl rfl ?_ | refine w_gF rfl rfl ?_ | (apply is_bin; refine w_addA rfl ?_) | (apply is_bin; refine w_subA rfl ?_) | (apply is_bin; refine w_cT rfl ?_) | (apply is_bin; refine w_cF rfl ?_) | apply ai_seq | apply ai_regW | refine ai_cF rfl ?_ | apply ai_skip | (apply ai_ret; repeat (first | rw [thenQ_r] | rw [blockQ_r] | rw [roundE_r])))
   exact end_two rfl rfl ⟨rfl,rfl⟩
 ·by_cases h1 : b < 0
  ·by_cases h2 : a < -9223372036854775808 - b
   ·rw [if_pos (.inr ⟨h1,h2⟩),decide_eq_false h0]
    refine acallA Tryz.func97 c97 ?_
    unfold ir97
    dsimp only [qo,qm,qk,q2,qi,qg,qn,qc,dq,ci,cb,qh,qs]
    repeat (first | apply sS | apply sE | refine w_mv rfl ?_ | refine w_pickT rfl ?_ | refine w_pickF rfl ?_ | (refine is_okk rfl ?_; refine w_op rfl ?_) | refine w_ext rfl rfl ?_ | refine w_gT rfl rfl ?_ | refine w_gF rfl rfl ?_ | (apply is_bin; refine w_subA rfl ?_) | (apply is_bin; refine w_cT rfl ?_) | (apply is_bin; refine w_cF rfl ?_) | (refine w_callE ((mend_ok _ _).mono ?_) rfl rfl; rintro _ _ ⟨rfl,rfl⟩) | apply ai_seq | apply ai_regW | refine ai_cT rfl ?_ | (apply ai_ret; repeat (first | rw [thenQ_r] | rw [blockQ_r] | rw [roundE_r])))
    exact end_two rfl rfl ⟨rfl,rfl⟩
   ·rw [if_neg (by omega)]
    refine acallA Tryz.func97 c97 ?_
    unfold ir97
    dsimp only [qo,qm,qk,q2,qi,qg,qn,qc,dq,ci,cb,qh,qs]
    repeat (first | apply sS | apply sE | refine w_mv rfl ?_ | refine w_pickT rfl ?_ | refine w_pickF rfl ?_ | refine w_gT rfl rfl ?_ | refine w_gF rfl rfl ?_ | (apply is_bin; refine w_addA rfl ?_) | (apply is_bin; refine w_subA rfl ?_) | (apply is_bin; refine w_cT rfl ?_) | (apply is_bin; refine w_cF rfl ?_) | apply ai_seq | apply ai_regW | refine ai_cF rfl ?_ | apply ai_skip | (apply ai_ret; repeat (first | rw [thenQ_r] | rw [blockQ_r] | rw [roundE_r])))
    exact end_two rfl rfl ⟨rfl,rfl⟩
  ·rw [if_neg (by omega)]
   refine acallA Tryz.func97 c97 ?_
   unfold ir97
   dsimp only [qo,qm,qk,q2,qi,qg,qn,qc,dq,ci,cb,qh,qs]
   repeat (first | apply sS | apply sE | refine w_mv rfl ?_ | refine w_pickF rfl ?_ | refine w_gT rfl rfl ?_ | refine w_gF rfl rfl ?_ | (apply is_bin; refine w_addA rfl ?_) | (apply is_bin; refine w_cF rfl ?_) | apply ai_seq | apply ai_regW | refine ai_cF rfl ?_ | apply ai_skip | (apply ai_ret; repeat (first | rw [thenQ_r] | rw [blockQ_r] | rw [roundE_r])))
   exact end_two rfl rfl ⟨rfl,rfl⟩
theorem msub_ok (h : Hp) {a b : Int} (ha : L64 a) (hb : L64 b) : ACall PX 51 [nI a,nI b] h (fun v g => v = .tuple #[nI (mSub a b).1,nI (mSub a b).2] ∧ h = g) := by
 unfold mSub
 unfold L64 at ha hb
 by_cases h0 : b < 0
 ·by_cases h1 : 9223372036854775807 + b < a
  ·rw [if_pos (.inl ⟨h0,h1⟩),decide_eq_true h0]
   refine acallA Tryz.func51 c51 ?_
   unfold ir51
   dsimp only [qo,qm,qk,q2,qi,qg,qn,qc,dq,ci,cb,qh,qs]
   repeat (first | apply sS | apply sE | refine w_mv rfl ?_ | refine w_pickT rfl ?_ | (refine is_okk rfl ?_; refine w_op rfl ?_) | refine w_ext rfl rfl ?_ | refine w_gT rfl rfl ?_ | refine w_gF rfl rfl ?_ | refine w_gU rfl ?_ | (apply is_bin; refine w_addA rfl ?_) | (apply is_bin; refine w_cT rfl ?_) | (refine w_callE ((mend_ok _ _).mono ?_) rfl rfl; rintro _ _ ⟨rfl,rfl⟩) | apply ai_seq | apply ai_regW | refine ai_cT rfl ?_ | (apply ai_ret; repeat (first | rw [thenQ_r] | rw [blockQ_r] | rw [roundE_r])))
   exact end_two rfl rfl ⟨rfl,rfl⟩
  ·rw [if_neg (by omega)]
   refine acallA Tryz.func51 c51 ?_
   unfold ir51
   dsimp only [qo,qm,qk,q2,qi,qg,qn,qc,dq,ci,cb,qh,qs]
   repeat (first | apply sS | apply sE | refine w_mv rfl ?_ | refine w_pickT rfl ?_ | refine w_pickF rfl ?_ | refine w_gT rfl rfl ?_ | refine w_gF rfl rfl ?_ | (apply is_bin; refine w_addA rfl ?_) | (apply is_bin; refine w_subA rfl ?_) | (apply is_bin; refine w_cT rfl ?_) | (apply is_bin; refine w_cF rfl ?_) | apply ai_seq | apply ai_regW | refine ai_cF rfl ?_ | apply ai_skip | (apply ai_ret; repeat (first | rw [thenQ_r] | rw [blockQ_r] | rw [roundE_r])))
   exact end_two rfl rfl ⟨rfl,rfl⟩
 ·by_cases h1 : 0 < b
  ·by_cases h2 : a < -9223372036854775808 + b
   ·rw [if_pos (.inr ⟨h1,h2⟩),decide_eq_false h0]
    refine acallA Tryz.func51 c51 ?_
    unfold ir51
    dsimp only [qo,qm,qk,q2,qi,qg,qn,qc,dq,ci,cb,qh,qs]
    repeat (first | apply sS | apply sE | refine w_mv rfl ?_ | refine w_pickT rfl ?_ | refine w_pickF rfl ?_ | (refine is_okk rfl ?_; refine w_op rfl ?_) | refine w_ext rfl rfl ?_ | refine w_gT rfl rfl ?_ | refine w_gF rfl rfl ?_ | (apply is_bin; refine w_addA rfl ?_) | (apply is_bin; refine w_cT rfl ?_) | (apply is_bin; refine w_cF rfl ?_) | (refine w_callE ((mend_ok _ _).mono ?_) rfl rfl; rintro _ _ ⟨rfl,rfl⟩) | apply ai_seq | apply ai_regW | refine ai_cT rfl ?_ | (apply ai_ret; repeat (first | rw [thenQ_r] | rw [blockQ_r] | rw [roundE_r])))
    exact end_two rfl rfl ⟨rfl,rfl⟩
   ·rw [if_neg (by omega)]
    refine acallA Tryz.func51 c51 ?_
    unfold ir51
    dsimp only [qo,qm,qk,q2,qi,qg,qn,qc,dq,ci,cb,qh,qs]
    repeat (first | apply sS | apply sE | refine w_mv rfl ?_ | refine w_pickT rfl ?_ | refine w_pickF rfl ?_ | refine w_gT rfl rfl ?_ | refine w_gF rfl rfl ?_ | (apply is_bin; refine w_addA rfl ?_) | (apply is_bin; refine w_subA rfl ?_) | (apply is_bin; refine w_cT rfl ?_) | (apply is_bin; refine w_cF rfl ?_) | apply ai_seq | apply ai_regW | refine ai_cF rfl ?_ | apply ai_skip | (apply ai_ret; repeat (first | rw [thenQ_r] | rw [blockQ_r] | rw [roundE_r])))
    exact end_two rfl rfl ⟨rfl,rfl⟩
  ·rw [if_neg (by omega)]
   refine acallA Tryz.func51 c51 ?_
   unfold ir51
   dsimp only [qo,qm,qk,q2,qi,qg,qn,qc,dq,ci,cb,qh,qs]
   repeat (first | apply sS | apply sE | refine w_mv rfl ?_ | refine w_pickF rfl ?_ | refine w_gT rfl rfl ?_ | refine w_gF rfl rfl ?_ | (apply is_bin; refine w_subA rfl ?_) | (apply is_bin; refine w_cF rfl ?_) | apply ai_seq | apply ai_regW | refine ai_cF rfl ?_ | apply ai_skip | (apply ai_ret; repeat (first | rw [thenQ_r] | rw [blockQ_r] | rw [roundE_r])))
   exact end_two rfl rfl ⟨rfl,rfl⟩
theorem mSub_bd {a b : Int} (ha : L64 a) (hb : L64 b) : L64 (mSub a b).1 := by
 unfold L64 mSub endF at *
 split
 ·split <;> (dsimp only; omega)
 ·dsimp only; omega
theorem mhalf_ok (h : Hp) {a b : Int} (ha : 0 ≤ a ∧ a ≤ 9223372036854775807) (hb : 0 < b) : ACall PX 168 [nI a,nI b] h (fun v g => v = .tuple #[nI (a / b),nI 0] ∧ h = g) := by
 refine acallA Tryz.func168 c168 ?_
 unfold ir168
 dsimp only [qo,qm,qk,q2,qi,qg,qn,qc,dq,ci,cb,qh,qs]
 repeat (first | apply sS | apply sE | refine w_mv rfl ?_ | refine w_pickF rfl ?_ | refine w_gF rfl rfl ?_ | (apply is_bin; refine w_cF rfl ?_) | (refine w_quo rfl ?_ ?_ ?_; (focus omega); (focus omega)) | apply ai_seq | apply ai_regW | refine ai_cF rfl ?_ | apply ai_skip | apply ai_block | (apply ai_ret; repeat (first | rw [thenQ_r] | rw [blockQ_r] | rw [roundE_r])))
 exact end_two rfl rfl ⟨rfl,rfl⟩
theorem mup_ok (h : Hp) {a b : Int} (ha : 0 ≤ a ∧ a ≤ 9223372036854775807) (hb : 0 < b) : ACall PX 138 [nI a,nI b] h (fun v g => v = .tuple #[nI (mUp a b),nI 0] ∧ h = g) := by
 have h1 : 0 ≤ a / b := Int.ediv_nonneg ha.1 (by omega)
 have h2 : a / b ≤ a := Int.ediv_le_self _ ha.1
 have h3 : 0 ≤ a % b := Int.emod_nonneg _ (by omega)
 unfold mUp
 by_cases h0 : a % b = 0
 ·rw [if_pos h0]
  refine acallA Tryz.func138 c138 ?_
  unfold ir138
  dsimp only [qo,qm,qk,q2,qi,qg,qn,qc,dq,ci,cb,qh,qs]
  repeat (first | apply sS | apply sE | refine w_mv rfl ?_ | refine w_pickT rfl ?_ | refine w_pickF rfl ?_ | refine w_ext rfl rfl ?_ | refine w_gT rfl rfl ?_ | refine w_gF rfl rfl ?_ | (apply is_bin; refine w_cT rfl ?_) | (apply is_bin; refine w_cF rfl ?_) | (refine w_rem rfl ?_ ?_ ?_; (focus omega); (focus omega)) | (refine w_callE ((mhalf_ok _ (by omega) (by omega)).mono ?_) rfl rfl; rintro _ _ ⟨rfl,rfl⟩) | apply ai_seq | apply ai_regW | refine ai_cF rfl ?_ | apply ai_skip | (apply ai_ret; repeat (first | rw [thenQ_r] | rw [blockQ_r] | rw [roundE_r])))
  exact end_two rfl rfl ⟨rfl,rfl⟩
 ·have h4 : a / b + 1 ≤ 9223372036854775807 := by
   have h5 := Int.mul_ediv_add_emod a b
   have : 1 * (a / b) ≤ b * (a / b) := Int.mul_le_mul_of_nonneg_right (by omega) h1
   omega
  rw [if_neg h0]
  refine acallA Tryz.func138 c138 ?_
  unfold ir138
  dsimp only [qo,qm,qk,q2,qi,qg,qn,qc,dq,ci,cb,qh,qs]
  repeat (first | apply sS | apply sE | refine w_mv rfl ?_ | refine w_pickT rfl ?_ | (refine is_okk rfl ?_; refine w_op rfl ?_) | refine w_ext rfl rfl ?_ | refine w_gT rfl rfl ?_ | (apply is_bin; refine w_addA rfl ?_) | (apply is_bin; refine w_cT rfl ?_) | (apply is_bin; refine w_cF rfl ?_) | (refine w_rem rfl ?_ ?_ ?_; (focus omega); (focus omega)) | (refine w_callE ((mhalf_ok _ (by omega) (by omega)).mono ?_) rfl rfl; rintro _ _ ⟨rfl,rfl⟩) | apply ai_seq | apply ai_regW | refine ai_cT rfl ?_ | (apply ai_ret; repeat (first | rw [thenQ_r] | rw [blockQ_r] | rw [roundE_r])))
  exact end_two rfl rfl ⟨rfl,rfl⟩
theorem mdown_ok (h : Hp) {a b : Int} (ha : 0 ≤ a ∧ a ≤ 9223372036854775807) (hb : 0 < b) : ACall PX 171 [nI a,nI b] h (fun v g => v = .tuple #[nI (a / b),nI 0] ∧ h = g) := by
 have h3 : 0 ≤ a % b := Int.emod_nonneg _ (by omega)
 by_cases h0 : a % b = 0
 ·refine acallA Tryz.func171 c171 ?_
  unfold ir171
  dsimp only [qo,qm,qk,q2,qi,qg,qn,qc,dq,ci,cb,qh,qs]
  repeat (first | apply sS | apply sE | refine w_mv rfl ?_ | refine w_pickT rfl ?_ | refine w_pickF rfl ?_ | refine w_ext rfl rfl ?_ | refine w_gT rfl rfl ?_ | refine w_gF rfl rfl ?_ | (apply is_bin; refine w_cT rfl ?_) | (apply is_bin; refine w_cF rfl ?_) | (refine w_rem rfl ?_ ?_ ?_; (focus omega); (focus omega)) | (refine w_callE ((mhalf_ok _ (by omega) (by omega)).mono ?_) rfl rfl; rintro _ _ ⟨rfl,rfl⟩) | apply ai_seq | apply ai_regW | refine ai_cF rfl ?_ | apply ai_skip | (apply ai_ret; repeat (first | rw [thenQ_r] | rw [blockQ_r] | rw [roundE_r])))
  exact end_two rfl rfl ⟨rfl,rfl⟩
 ·refine acallA Tryz.func171 c171 ?_
  unfold ir171
  dsimp only [qo,qm,qk,q2,qi,qg,qn,qc,dq,ci,cb,qh,qs]
  repeat (first | apply sS | apply sE | refine w_mv rfl ?_ | refine w_pickT rfl ?_ | (refine is_okk rfl ?_; refine w_op rfl ?_) | refine w_ext rfl rfl ?_ | refine w_gT rfl rfl ?_ | (apply is_bin; refine w_cT rfl ?_) | (apply is_bin; refine w_cF rfl ?_) | (refine w_rem rfl ?_ ?_ ?_; (focus omega); (focus omega)) | (refine w_callE ((mhalf_ok _ (by omega) (by omega)).mono ?_) rfl rfl; rintro _ _ ⟨rfl,rfl⟩) | apply ai_seq | apply ai_regW | refine ai_cF rfl ?_ | apply ai_skip | (apply ai_ret; repeat (first | rw [thenQ_r] | rw [blockQ_r] | rw [roundE_r])))
  exact end_two rfl rfl ⟨rfl,rfl⟩
theorem mclamp_ok (h : Hp) (a lo hi : Int) : ACall PX 170 [nI a,nI lo,nI hi] h (fun v g => v = nI (mClamp a lo hi) ∧ h = g) := by
 unfold mClamp
 by_cases h0 : hi < a
 ·rw [if_pos h0]
  refine acallA Tryz.func170 c170 ?_
  unfold ir170
  dsimp only [qo,qm,qk,q2,qi,qg,qn,qc,dq,ci,cb,qh,qs]
  repeat (first | apply sS | apply sE | refine w_mv rfl ?_ | (apply is_bin; refine w_cT rfl ?_) | apply ai_seq | apply ai_regW | refine ai_cT rfl ?_ | apply ai_block | (apply ai_ret; repeat (first | rw [thenQ_r] | rw [blockQ_r] | rw [roundE_r])))
  exact end_one rfl ⟨rfl,rfl⟩
 ·rw [if_neg h0]
  by_cases h1 : a < lo
  ·rw [if_pos h1]
   refine acallA Tryz.func170 c170 ?_
   unfold ir170
   dsimp only [qo,qm,qk,q2,qi,qg,qn,qc,dq,ci,cb,qh,qs]
   repeat (first | apply sS | apply sE | refine w_mv rfl ?_ | (apply is_bin; refine w_cT rfl ?_) | (apply is_bin; refine w_cF rfl ?_) | apply ai_seq | apply ai_regW | refine ai_cT rfl ?_ | refine ai_cF rfl ?_ | apply ai_block | (apply ai_ret; repeat (first | rw [thenQ_r] | rw [blockQ_r] | rw [roundE_r])))
   exact end_one rfl ⟨rfl,rfl⟩
  ·rw [if_neg h1]
   refine acallA Tryz.func170 c170 ?_
   unfold ir170
   dsimp only [qo,qm,qk,q2,qi,qg,qn,qc,dq,ci,cb,qh,qs]
   repeat (first | apply sS | apply sE | refine w_mv rfl ?_ | (apply is_bin; refine w_cF rfl ?_) | apply ai_seq | apply ai_regW | refine ai_cF rfl ?_ | apply ai_skip | apply ai_block | (apply ai_ret; repeat (first | rw [thenQ_r] | rw [blockQ_r] | rw [roundE_r])))
   exact end_one rfl ⟨rfl,rfl⟩
theorem within_l (h : Hp) (n lo hi : Int) : ACall PX 76 [.iface 2 (nI n),nI lo,nI hi] h (fun v g => v = .bool (decide (lo ≤ n) && decide (n ≤ hi)) ∧ h = g) := by
 refine acallA Tryz.func76 c76 ?_
 unfold ir76
 dsimp only [qo,qm,qk,q2,qi,qg,qn,qc,dq,ci,cb,qh,qs]
 repeat (first | apply sS | apply sE | refine w_mv rfl ?_ | (refine is_okk rfl ?_; refine w_op rfl ?_) | refine w_ext rfl rfl ?_ | apply ai_seq | apply ai_regW | refine ai_cT rfl ?_)
 by_cases h1 : lo ≤ n
 ·rw [decide_eq_true h1,Bool.true_and]
  by_cases h2 : n ≤ hi
  ·rw [decide_eq_true h2]
   repeat (first | apply sS | apply sE | refine w_mv rfl ?_ | refine w_pickT rfl ?_ | refine w_gT rfl rfl ?_ | (apply is_bin; refine w_cT rfl ?_) | (apply ai_ret; repeat (first | rw [thenQ_r] | rw [blockQ_r] | rw [roundE_r])))
   exact end_one rfl ⟨rfl,rfl⟩
  ·rw [decide_eq_false h2]
   repeat (first | apply sS | apply sE | refine w_mv rfl ?_ | refine w_pickT rfl ?_ | refine w_gT rfl rfl ?_ | (apply is_bin; refine w_cT rfl ?_) | (apply is_bin; refine w_cF rfl ?_) | (apply ai_ret; repeat (first | rw [thenQ_r] | rw [blockQ_r] | rw [roundE_r])))
   exact end_one rfl ⟨rfl,rfl⟩
 ·rw [decide_eq_false h1,Bool.false_and]
  repeat (first | apply sS | apply sE | refine w_mv rfl ?_ | refine w_pickF rfl ?_ | refine w_gF rfl rfl ?_ | (apply is_bin; refine w_cF rfl ?_) | (apply ai_ret; repeat (first | rw [thenQ_r] | rw [blockQ_r] | rw [roundE_r])))
  exact end_one rfl ⟨rfl,rfl⟩
theorem within_i (h : Hp) (n lo hi : Int) : ACall PX 76 [.iface 3 (nI n),nI lo,nI hi] h (fun v g => v = .bool (decide (lo ≤ n) && decide (n ≤ hi)) ∧ h = g) := by
 refine acallA Tryz.func76 c76 ?_
 unfold ir76
 dsimp only [qo,qm,qk,q2,qi,qg,qn,qc,dq,ci,cb,qh,qs]
 repeat (first | apply sS | apply sE | refine w_mv rfl ?_ | (refine is_okk rfl ?_; refine w_op rfl ?_) | refine w_ext rfl rfl ?_ | refine w_gT rfl rfl ?_ | apply ai_seq | apply ai_regW | refine ai_cF rfl ?_ | apply ai_skip)
 by_cases h1 : lo ≤ n
 ·rw [decide_eq_true h1,Bool.true_and]
  by_cases h2 : n ≤ hi
  ·rw [decide_eq_true h2]
   repeat (first | apply sS | apply sE | refine w_mv rfl ?_ | refine w_pickT rfl ?_ | refine w_gT rfl rfl ?_ | (apply is_bin; refine w_cT rfl ?_) | (apply ai_ret; repeat (first | rw [thenQ_r] | rw [blockQ_r] | rw [roundE_r])))
   exact end_one rfl ⟨rfl,rfl⟩
  ·rw [decide_eq_false h2]
   repeat (first | apply sS | apply sE | refine w_mv rfl ?_ | refine w_pickT rfl ?_ | refine w_gT rfl rfl ?_ | (apply is_bin; refine w_cT rfl ?_) | (apply is_bin; refine w_cF rfl ?_) | (apply ai_ret; repeat (first | rw [thenQ_r] | rw [blockQ_r] | rw [roundE_r])))
   exact end_one rfl ⟨rfl,rfl⟩
 ·rw [decide_eq_false h1,Bool.false_and]
  repeat (first | apply sS | apply sE | refine w_mv rfl ?_ | refine w_pickT rfl ?_ | refine w_pickF rfl ?_ | refine w_gF rfl rfl ?_ | (apply is_bin; refine w_cF rfl ?_) | (apply ai_ret; repeat (first | rw [thenQ_r] | rw [blockQ_r] | rw [roundE_r])))
  exact end_one rfl ⟨rfl,rfl⟩
def cs20 (c : Cf20) : List Value := [nI c.target,nI c.util,nI c.stable,nI c.panic,nI c.grain,nI c.threshold,nI c.up,nI c.down,nI c.min,nI c.max,nI c.initial,nI c.grace,nI c.delay,nI c.burst,nI c.limit,nI c.queue,nI c.timeout,nI c.ready,nI c.subset,nI c.sample]
def rowW (l : List (ByteArray × Bool)) : List Value := l.flatMap fun p => [.string p.1,.bool p.2]
theorem rowW_drop : ∀ (l : List (ByteArray × Bool)) (i : Nat),(rowW l).drop (i * 2) = rowW (l.drop i)
 | l,0 => by simp
 | [],i + 1 => by simp [rowW]
 | p :: l,i + 1 => by rw [show (i + 1) * 2 = i * 2 + 1 + 1 by omega]; simp only [rowW,List.flatMap_cons,List.cons_append,List.nil_append,List.drop_succ_cons]; exact rowW_drop l i
theorem rowW_len : ∀ l,(rowW l).length = l.length * 2
 | [] => rfl
 | p :: l => by have := rowW_len l; simp only [rowW,List.flatMap_cons,List.length_append,List.length_cons,List.length_nil] at this ⊢; omega
theorem rowW_rd {h : Hp} {j : Nat} {l : List (ByteArray × Bool)} {b : Bool} {e : Nat} (hg : h.get j = some ⟨rowW l,b,e⟩) {i : Nat} {p : ByteArray × Bool} (hi : l[i]? = some p) : h.rd j (0 + ((i : Nat) : Int).toNat * 2) 2 = some [.string p.1,.bool p.2] := by
 obtain ⟨hl,rfl⟩ := List.getElem?_eq_some_iff.1 hi
 have hn := rowW_len l
 unfold Hp.rd
 simp only [hg,Nat.zero_add,Int.toNat_natCast]
 rw [if_pos (by omega),rowW_drop,List.drop_eq_getElem_cons hl]
 rfl
set_option maxHeartbeats 4000000 in
set_option maxRecDepth 10000 in
theorem wrong_ok (h : Hp) (c : Cf20) : ACall PX 43 [.agg ⟨cs20 c⟩] h (fun v g => v = .string (wrongF (wrL c)) ∧ Ext h g) := by
 refine acallA Tryz.func43 c43 ?_
 unfold ir43
 dsimp only [qo,qm,qk,q2,qi,qg,qn,qc,dq,ci,cb,qh,qs]
 refine ai_seq ?_
 repeat (first | apply sS | apply sE | refine w_mv rfl ?_ | (refine is_okk rfl ?_; refine w_op rfl ?_) | apply ai_regW)
 refine ai_seq ?_
 repeat (first | apply sS | apply sE | refine w_mv rfl ?_ | apply ai_regW)
 refine ai_join (γ := Unit) (fun _ => [(1,ptr h.nx),(3,nI (if c.max = 0 then 100 else c.max))]) (fun _ g => g = h.new ⟨cs20 c,true,0⟩) ?_ ?_
 ·refine ai_seq ?_
  repeat (first | apply sS | (refine is_okk rfl ?_; refine w_op rfl ?_) | (apply is_ld; refine w_ldA rfl ?_) | apply ai_regW)
  by_cases h0 : c.max = 0
  ·rw [if_pos h0]
   repeat (first | apply sE | (apply is_bin; refine w_cF rfl ?_) | refine ai_cF rfl ?_ | apply ai_skip)
   exact ⟨rfl,(),leX,rfl⟩
  ·rw [if_neg h0]
   repeat (first | apply sS | apply sE | refine w_mv rfl ?_ | (refine is_okk rfl ?_; refine w_op rfl ?_) | (apply is_ld; refine w_ldA rfl ?_) | (apply is_bin; refine w_cT rfl ?_) | apply ai_regW | refine ai_cT rfl ?_)
   exact ⟨rfl,(),leX,rfl⟩
 rintro _ _ rfl
 refine ai_seq (ai_seq (ai_drwW (by kernel_rfl) ?_))
 repeat (first | apply dS | (refine is_okk rfl ?_; refine w_op rfl ?_) | (apply is_ld; refine w_ldA rfl ?_))
 refine w_op rfl ?_
 generalize hb1 : (c.max == 0) = b1
 repeat (first | apply dS | refine w_mv rfl ?_ | (refine is_okk rfl ?_; refine w_op rfl ?_) | (apply is_ld; refine w_ldA rfl ?_))
 refine w_op rfl ?_
 generalize hb2 : (c.burst == -1000) = b2
 repeat (first | apply dS | apply dSR | (apply is_ag; refine agSA ?_) | refine w_mv rfl ?_ | refine w_bldF rfl rfl rfl rfl rfl ?_ | (refine is_okk rfl ?_; refine w_op rfl ?_) | (apply is_ld; refine w_ldA rfl ?_) | (refine w_callE ((within_l _ _ _ _).mono ?_) rfl rfl; rintro _ _ ⟨rfl,rfl⟩) | (refine w_callE ((within_i _ _ _ _).mono ?_) rfl rfl; rintro _ _ ⟨rfl,rfl⟩))
 repeat (first | refine dS ?_ | refine dSR ?_ | refine w_gB rfl (by intro hc; simp at hc; subst hc; first | rfl | exact o_ldF rfl (rd_new rfl)) ?_)
 refine w_gBc rfl (fun _ _ hr c => c.mono hr) (by intro hc; simp at hc; subst hc; rfl) (within_i _ _ _ _) ?_
 refine agSA ?_
 refine dS (w_v rfl (v2 := .bool (b1 || inB c.max (if 1 > c.min then 1 else c.min) 100)) (by cases b1 <;> rfl) ?_)
 repeat (first | apply dS | apply dSR | (apply is_ag; refine agSA ?_) | refine w_mv rfl ?_ | refine w_bldF rfl rfl rfl rfl rfl ?_ | (refine w_callE ((within_i _ _ _ _).mono ?_) rfl rfl; rintro _ _ ⟨rfl,rfl⟩))
 repeat (first | refine dS ?_ | refine dSR ?_ | refine w_gB rfl (by intro hc; simp at hc; subst hc; first | rfl | exact o_ldF rfl (rd_new rfl)) ?_)
 refine w_gBc rfl (fun _ _ hr c => c.mono hr) (by intro hc; simp at hc; subst hc; rfl) (within_l _ _ _ _) ?_
 refine agSA ?_
 refine dS (w_v rfl (v2 := .bool (b2 || inB c.burst 0 100000000)) (by cases b2 <;> rfl) ?_)
 repeat (first | apply dS | apply dSR | (apply is_ag; refine agSA ?_) | refine w_bldF rfl rfl rfl rfl rfl ?_ | (refine w_callE ((within_i _ _ _ _).mono ?_) rfl rfl; rintro _ _ ⟨rfl,rfl⟩))
 refine w_bslF rfl rfl rfl rfl rfl ?_
 intro g xg hg hng
 have hg2 : g.get (h.nx + 1) = some ⟨rowW (wrB c b1 b2),true,2⟩ := hg
 have hw : wrB c b1 b2 = wrL c := by subst hb1 hb2; rfl
 rw [hw] at hg2
 have hng2 : h.nx + 1 < g.nx := hng
 have hl20 : (wrL c).length = 20 := rfl
 have x0 : Ext h g := (Ext.new _ _).trans xg
 clear hg xg hw
 generalize wrL c = l at hg2 hl20 ⊢
 repeat (first | apply dS | apply dE | (refine is_okk rfl ?_; refine w_op rfl ?_) | apply ai_block)
 refine ai_loopE (γ := Nat) (fun i => [(129,.slice (some ⟨h.nx + 1,0,none⟩) 20 20),(130,nI 20),(131,nI i)]) (fun i g' => Ext g g' ∧ i ≤ 20 ∧ wrongF (l.drop i) = wrongF l) (fun i => 20 - i) 0
  leX ⟨Ext.refl _,Nat.zero_le _,rfl⟩ ?_
 rintro i g1 ⟨x1,hi,hwr⟩
 by_cases hi20 : i < 20
 ·obtain ⟨p,hp⟩ : ∃ p,l[i]? = some p := ⟨_,List.getElem?_eq_getElem (by omega)⟩
  have hp2 : l.drop i = p :: l.drop (i + 1) := by
   obtain ⟨h1,rfl⟩ := List.getElem?_eq_some_iff.1 hp
   exact List.drop_eq_getElem_cons h1
  rw [hp2] at hwr
  have hrd := rowW_rd ((x1.2 (h.nx + 1) hng2).trans hg2) hp
  refine ai_seq ?_
  repeat (first | apply sS | apply sE | (apply is_bin; refine w_cT rfl ?_) | apply ai_regW)
  refine ai_seq ?_
  repeat (first | refine ai_cT rfl ?_ | apply ai_skip)
  refine ai_seq ?_
  repeat (first | apply ai_block)
  refine ai_seq ?_
  refine ai_regW (sS (w_iad rfl (by omega) (sS (w_ldn rfl hrd (sS (w_new ?_))))))
  intro g2 x2 k2 n2
  refine sSn (w_stN rfl rfl k2 rfl rfl fun g3 m3 k3 n3 => sE ?_)
  have x3 := x1.trans (x2.own m3 n3)
  obtain ⟨s,b⟩ := p
  dsimp only [wrongF] at hwr k3
  cases b
  ·rw [if_neg (by decide)] at hwr
   repeat (first | apply sS | apply sE | refine w_mv rfl ?_ | (refine is_okk rfl ?_; refine w_op rfl ?_) | (apply is_ld; refine w_ldA rfl ?_) | apply ai_seq | apply ai_regW | refine ai_cT rfl ?_ | (apply ai_ret; repeat (first | rw [thenQ_r] | rw [blockQ_r] | rw [roundE_r])))
   exact end_one rfl ⟨by rw [hwr],x0.trans x3⟩
  ·rw [if_pos rfl] at hwr
   repeat (first | apply sS | apply sE | refine w_mv rfl ?_ | (refine is_okk rfl ?_; refine w_op rfl ?_) | (apply is_ld; refine w_ldA rfl ?_) | (apply is_bin; refine w_addA rfl ?_) | apply ai_seq | apply ai_regW | refine ai_cF rfl ?_ | apply ai_skip)
   exact ⟨i + 1,leX,⟨x3,by omega,hwr⟩,by dsimp only; omega⟩
 ·have e20 : i = l.length := by omega
  rw [e20,List.drop_length] at hwr
  repeat (first | apply sS | apply sE | refine w_mv rfl ?_ | (apply is_bin; refine w_cF rfl ?_) | apply ai_seq | apply ai_regW | refine ai_cF rfl ?_ | apply ai_exit | (apply ai_ret; repeat (first | rw [thenQ_r] | rw [blockQ_r] | rw [roundE_r])))
  exact end_one rfl ⟨by rw [← hwr]; rfl,x0.trans x1⟩
theorem wrong_empty : ∀ (l : List (ByteArray × Bool)),(l.all fun p => decide (p.1.size ≠ 0)) = true → ((wrongF l).toList == (⟨#[]⟩ : ByteArray).toList) = l.all fun p => p.2
 | [],_ => by simp [wrongF]
 | (s,b) :: l,h => by
  simp only [List.all_cons,Bool.and_eq_true,decide_eq_true_eq] at h
  cases b
  ·simp only [wrongF,Bool.false_eq_true,if_false,List.all_cons,Bool.false_and]
   rw [beq_eq_false_iff_ne,ByteArray.toList_eq,ByteArray.toList_eq]
   intro e
   have e2 : s.data.toList.length = 0 := by rw [e]; rfl
   exact h.1 (by show s.data.size = 0; simpa using e2)
  ·simp only [wrongF,if_true,List.all_cons,Bool.true_and]
   exact wrong_empty l h.2
theorem wrL_names (c : Cf20) : ((wrL c).all fun p => decide (p.1.size ≠ 0)) = true := by kernel_rfl
theorem may_ok (h : Hp) (c : Cf20) : ACall PX 18 [.agg ⟨cs20 c⟩] h (fun v g => v = .bool (mayB c) ∧ Ext h g) := by
 refine acallA Tryz.func18 c18 ?_
 unfold ir18
 dsimp only [qo,qm,qk,q2,qi,qg,qn,qc,dq,ci,cb,qh,qs]
 refine ai_seq (ai_regW (sS (w_box rfl fun g1 x1 k1 n1 => ?_)))
 repeat (first | apply sS | apply sE | refine w_mv rfl ?_ | (apply is_ldn; refine w_ldnA rfl ?_) | apply ai_seq | apply ai_regW)
 refine w_call rfl ((wrong_ok _ c).mono ?_)
 rintro v g2 ⟨rfl,x2⟩
 repeat (first | apply sS)
 refine w_cmp (c2 := mayB c) rfl (wrong_empty _ (wrL_names c)) ?_
 repeat (first | apply sS | apply sE | refine w_mv rfl ?_ | (apply ai_ret; repeat (first | rw [thenQ_r] | rw [blockQ_r] | rw [roundE_r])))
 exact end_one rfl ⟨rfl,x1.trans x2⟩
theorem most_ok (h : Hp) (c : Cf20) : ACall PX 70 [.agg ⟨cs20 c⟩] h (fun v g => v = nI (if c.max = 0 then 100 else c.max) ∧ Ext h g) := by
 refine acallA Tryz.func70 c70 ?_
 unfold ir70
 dsimp only [qo,qm,qk,q2,qi,qg,qn,qc,dq,ci,cb,qh,qs]
 repeat (first | apply sS | apply sE | refine w_mv rfl ?_ | (refine is_okk rfl ?_; refine w_op rfl ?_) | (apply is_ld; refine w_ldA rfl ?_) | apply ai_seq | apply ai_regW)
 by_cases h0 : c.max = 0
 ·rw [if_pos h0]
  repeat (first | apply sS | apply sE | refine w_mv rfl ?_ | (apply is_bin; refine w_cT rfl ?_) | apply ai_seq | apply ai_regW | refine ai_cT rfl ?_ | (apply ai_ret; repeat (first | rw [thenQ_r] | rw [blockQ_r] | rw [roundE_r])))
  exact end_one rfl ⟨rfl,Ext.new _ _⟩
 ·rw [if_neg h0]
  repeat (first | apply sS | apply sE | refine w_mv rfl ?_ | (refine is_okk rfl ?_; refine w_op rfl ?_) | (apply is_ld; refine w_ldA rfl ?_) | (apply is_bin; refine w_cF rfl ?_) | apply ai_seq | apply ai_regW | refine ai_cF rfl ?_ | apply ai_skip | (apply ai_ret; repeat (first | rw [thenQ_r] | rw [blockQ_r] | rw [roundE_r])))
  exact end_one rfl ⟨rfl,Ext.new _ _⟩
end Go.Proofs.YtelmcfnkclihcaaGreatDoorW.Am
namespace Go.Proofs
open Go.Shelf
def Tryz.lays160_ren : Go.Shelf.Ren := ⟨fun | 160 => 87 | 232 => 123 | 231 => 122 | 227 => 124 | 234 => 126 | 233 => 125 | 236 => 128 | 235 => 127 | 228 => 157 | 271 => 160 | 151 => 159 | 197 => 158 | 120 => 188 | 152 => 187 | 260 => 186 | 137 => 205 | 119 => 206 | 224 => 191 | 225 => 190 | 217 => 189 | 266 => 207 | n => n, fun | 9 => 9 | 4 => 4 | 3 => 3 | 5 => 5 | 117 => 200 | 116 => 199 | 0 => 0 | 124 => 203 | 21 => 21 | 105 => 236 | 46 => 35 | 119 => 273 | 139 => 276 | 138 => 275 | n => n, fun | 3 => 1 | 4 => 2 | n => n⟩
theorem Tryz.lays160 : Go.Proofs.Lays.n160 Tryz.prog Tryz.lays160_ren := {
  mixed := by kernel_rfl
  f119 := Tryz.func206.trans (congrArg some (by kernel_rfl))
  f120 := Tryz.func188.trans (congrArg some (by kernel_rfl))
  f137 := Tryz.func205.trans (congrArg some (by kernel_rfl))
  f151 := Tryz.func159.trans (congrArg some (by kernel_rfl))
  f152 := Tryz.func187.trans (congrArg some (by kernel_rfl))
  f160 := Tryz.func87.trans (congrArg some (by kernel_rfl))
  f197 := Tryz.func158.trans (congrArg some (by kernel_rfl))
  f217 := Tryz.func189.trans (congrArg some (by kernel_rfl))
  f224 := Tryz.func191.trans (congrArg some (by kernel_rfl))
  f225 := Tryz.func190.trans (congrArg some (by kernel_rfl))
  f227 := Tryz.func124.trans (congrArg some (by kernel_rfl))
  f228 := Tryz.func157.trans (congrArg some (by kernel_rfl))
  f231 := Tryz.func122.trans (congrArg some (by kernel_rfl))
  f232 := Tryz.func123.trans (congrArg some (by kernel_rfl))
  f233 := Tryz.func125.trans (congrArg some (by kernel_rfl))
  f234 := Tryz.func126.trans (congrArg some (by kernel_rfl))
  f235 := Tryz.func127.trans (congrArg some (by kernel_rfl))
  f236 := Tryz.func128.trans (congrArg some (by kernel_rfl))
  f260 := Tryz.func186.trans (congrArg some (by kernel_rfl))
  f266 := Tryz.func207.trans (congrArg some (by kernel_rfl))
  f271 := Tryz.func160.trans (congrArg some (by kernel_rfl))
  t0 := Tryz.underlying0
  a0 := Tryz.isAgg0
  z0 := Tryz.sizeOf0
  v0 := Tryz.zeroValue0
  t3 := Tryz.underlying3
  a3 := Tryz.isAgg3
  z3 := Tryz.sizeOf3
  v3 := Tryz.zeroValue3
  t4 := Tryz.underlying4
  a4 := Tryz.isAgg4
  z4 := Tryz.sizeOf4
  v4 := Tryz.zeroValue4
  t5 := Tryz.underlying5
  a5 := Tryz.isAgg5
  z5 := Tryz.sizeOf5
  v5 := Tryz.zeroValue5
  t9 := Tryz.underlying9
  a9 := Tryz.isAgg9
  z9 := Tryz.sizeOf9
  v9 := Tryz.zeroValue9
  t21 := Tryz.underlying21
  a21 := Tryz.isAgg21
  z21 := Tryz.sizeOf21
  v21 := Tryz.zeroValue21
  t46 := Tryz.underlying35
  a46 := Tryz.isAgg35
  z46 := Tryz.sizeOf35
  v46 := Tryz.zeroValue35
  t105 := Tryz.underlying236
  a105 := Tryz.isAgg236
  z105 := Tryz.sizeOf236
  v105 := Tryz.zeroValue236
  t116 := Tryz.underlying199
  a116 := Tryz.isAgg199
  z116 := Tryz.sizeOf199
  t117 := Tryz.underlying200
  a117 := Tryz.isAgg200
  z117 := Tryz.sizeOf200
  v117 := Tryz.zeroValue200
  t119 := Tryz.underlying273
  a119 := Tryz.isAgg273
  z119 := Tryz.sizeOf273
  t124 := Tryz.underlying203
  a124 := Tryz.isAgg203
  z124 := Tryz.sizeOf203
  v124 := Tryz.zeroValue203
  t138 := Tryz.underlying275
  a138 := Tryz.isAgg275
  z138 := Tryz.sizeOf275
  v138 := Tryz.zeroValue275
  t139 := Tryz.underlying276
  a139 := Tryz.isAgg276
  z139 := Tryz.sizeOf276
  v139 := Tryz.zeroValue276
  g3 := by kernel_rfl
  g4 := by kernel_rfl }
open Go.RowKit in
theorem Tryz.strings_Trim_one (s : ByteArray) (c : UInt8) (hc : c.toNat < 128) (w : World) (hs : s.size ≤ 9223372036854775807) :
    Calls Tryz.prog 87 #[.string s, .string ⟨#[c]⟩] w fun e w' => e = .returned (.string ⟨(Lib.trimB s.data.toList c).toArray⟩) ∧ (w' = w ∨ w' = w.drew) := Any.strings_Trim_one Tryz.lays160 s c hc w hs
def Tryz.lays103_ren : Go.Shelf.Ren := ⟨fun | 103 => 162 | 210 => 193 | 206 => 209 | n => n, fun | 9 => 9 | 4 => 4 | 24 => 239 | 3 => 3 | n => n, fun | n => n⟩
theorem Tryz.lays103 : Go.Proofs.Lays.n103 Tryz.prog Tryz.lays103_ren := {
  mixed := by kernel_rfl
  f103 := Tryz.func162.trans (congrArg some (by kernel_rfl))
  f206 := Tryz.func209.trans (congrArg some (by kernel_rfl))
  f210 := Tryz.func193.trans (congrArg some (by kernel_rfl))
  t3 := Tryz.underlying3
  a3 := Tryz.isAgg3
  z3 := Tryz.sizeOf3
  v3 := Tryz.zeroValue3
  t4 := Tryz.underlying4
  a4 := Tryz.isAgg4
  z4 := Tryz.sizeOf4
  v4 := Tryz.zeroValue4
  t9 := Tryz.underlying9
  a9 := Tryz.isAgg9
  z9 := Tryz.sizeOf9
  v9 := Tryz.zeroValue9
  t24 := Tryz.underlying239
  a24 := Tryz.isAgg239
  z24 := Tryz.sizeOf239
  v24 := Tryz.zeroValue239 }
open Go.RowKit in
theorem Tryz.strings_CutPrefix (s p : ByteArray) (w : World) :
    Calls Tryz.prog 162 #[.string s, .string p] w fun e w' => e = .returned (.tuple #[.string ⟨(Lib.trimPrefix s.data.toList p.data.toList).toArray⟩, .bool (Lib.hasPrefix s.data.toList p.data.toList)]) ∧ w' = w := Any.strings_CutPrefix Tryz.lays103 s p w
def Tryz.laysC174_ren : Go.Shelf.Ren := ⟨fun | 174 => 163 | 247 => 194 | 245 => 195 | 287 => 210 | 279 => 211 | 280 => 212 | 281 => 213 | 282 => 214 | 321 => 217 | 322 => 218 | 316 => 219 | 171 => 221 | 205 => 220 | 243 => 222 | 246 => 223 | 283 => 224 | 284 => 225 | 285 => 226 | 286 => 227 | 129 => 182 | 317 => 228 | 318 => 229 | 319 => 230 | 320 => 231 | 337 => 232 | 338 => 233 | n => n, fun | 9 => 9 | 3 => 3 | 2 => 2 | 75 => 242 | 85 => 243 | 4 => 4 | 167 => 281 | 5 => 5 | 53 => 159 | 175 => 282 | 46 => 35 | 168 => 284 | 37 => 292 | 0 => 0 | 210 => 295 | 21 => 21 | 127 => 298 | 145 => 301 | 143 => 299 | 171 => 303 | 173 => 305 | 212 => 308 | 51 => 229 | 20 => 20 | 213 => 309 | 232 => 310 | 233 => 311 | 80 => 312 | n => n, fun | 15 => 5 | 16 => 6 | 17 => 7 | 18 => 8 | 19 => 9 | n => n⟩
theorem Tryz.laysC174 : Go.Proofs.LaysC.n174 Tryz.prog Tryz.laysC174_ren := {
  mixed := by kernel_rfl
  f129 := Tryz.func182.trans (congrArg some (by kernel_rfl))
  f171 := Tryz.func221.trans (congrArg some (by kernel_rfl))
  f174 := Tryz.func163.trans (congrArg some (by kernel_rfl))
  f205 := Tryz.func220.trans (congrArg some (by kernel_rfl))
  f243 := Tryz.func222.trans (congrArg some (by kernel_rfl))
  f245 := Tryz.func195.trans (congrArg some (by kernel_rfl))
  f246 := Tryz.func223.trans (congrArg some (by kernel_rfl))
  f247 := Tryz.func194.trans (congrArg some (by kernel_rfl))
  f279 := Tryz.func211.trans (congrArg some (by kernel_rfl))
  f280 := Tryz.func212.trans (congrArg some (by kernel_rfl))
  f281 := Tryz.func213.trans (congrArg some (by kernel_rfl))
  f282 := Tryz.func214.trans (congrArg some (by kernel_rfl))
  f283 := Tryz.func224.trans (congrArg some (by kernel_rfl))
  f284 := Tryz.func225.trans (congrArg some (by kernel_rfl))
  f285 := Tryz.func226.trans (congrArg some (by kernel_rfl))
  f286 := Tryz.func227.trans (congrArg some (by kernel_rfl))
  f287 := Tryz.func210.trans (congrArg some (by kernel_rfl))
  f316 := Tryz.func219.trans (congrArg some (by kernel_rfl))
  f317 := Tryz.func228.trans (congrArg some (by kernel_rfl))
  f318 := Tryz.func229.trans (congrArg some (by kernel_rfl))
  f319 := Tryz.func230.trans (congrArg some (by kernel_rfl))
  f320 := Tryz.func231.trans (congrArg some (by kernel_rfl))
  f321 := Tryz.func217.trans (congrArg some (by kernel_rfl))
  f322 := Tryz.func218.trans (congrArg some (by kernel_rfl))
  f337 := Tryz.func232.trans (congrArg some (by kernel_rfl))
  f338 := Tryz.func233.trans (congrArg some (by kernel_rfl))
  t0 := Tryz.underlying0
  a0 := Tryz.isAgg0
  z0 := Tryz.sizeOf0
  v0 := Tryz.zeroValue0
  t2 := Tryz.underlying2
  a2 := Tryz.isAgg2
  z2 := Tryz.sizeOf2
  v2 := Tryz.zeroValue2
  t3 := Tryz.underlying3
  a3 := Tryz.isAgg3
  z3 := Tryz.sizeOf3
  v3 := Tryz.zeroValue3
  t4 := Tryz.underlying4
  a4 := Tryz.isAgg4
  z4 := Tryz.sizeOf4
  v4 := Tryz.zeroValue4
  t5 := Tryz.underlying5
  a5 := Tryz.isAgg5
  z5 := Tryz.sizeOf5
  v5 := Tryz.zeroValue5
  t9 := Tryz.underlying9
  a9 := Tryz.isAgg9
  z9 := Tryz.sizeOf9
  v9 := Tryz.zeroValue9
  t20 := Tryz.underlying20
  a20 := Tryz.isAgg20
  z20 := Tryz.sizeOf20
  v20 := Tryz.zeroValue20
  t21 := Tryz.underlying21
  a21 := Tryz.isAgg21
  z21 := Tryz.sizeOf21
  v21 := Tryz.zeroValue21
  t37 := Tryz.underlying292
  a37 := Tryz.isAgg292
  z37 := Tryz.sizeOf292
  v37 := Tryz.zeroValue292
  t46 := Tryz.underlying35
  a46 := Tryz.isAgg35
  z46 := Tryz.sizeOf35
  v46 := Tryz.zeroValue35
  t51 := Tryz.underlying229
  a51 := Tryz.isAgg229
  z51 := Tryz.sizeOf229
  v51 := Tryz.zeroValue229
  t53 := Tryz.underlying159
  a53 := Tryz.isAgg159
  z53 := Tryz.sizeOf159
  v53 := Tryz.zeroValue159
  t75 := Tryz.underlying242
  a75 := Tryz.isAgg242
  z75 := Tryz.sizeOf242
  v75 := Tryz.zeroValue242
  t85 := Tryz.underlying243
  a85 := Tryz.isAgg243
  z85 := Tryz.sizeOf243
  v85 := Tryz.zeroValue243
  t127 := Tryz.underlying298
  a127 := Tryz.isAgg298
  z127 := Tryz.sizeOf298
  v127 := Tryz.zeroValue298
  t143 := Tryz.underlying299
  a143 := Tryz.isAgg299
  z143 := Tryz.sizeOf299
  v143 := Tryz.zeroValue299
  t145 := Tryz.underlying301
  a145 := Tryz.isAgg301
  z145 := Tryz.sizeOf301
  v145 := Tryz.zeroValue301
  t167 := Tryz.underlying281
  a167 := Tryz.isAgg281
  z167 := Tryz.sizeOf281
  v167 := Tryz.zeroValue281
  t168 := Tryz.underlying284
  a168 := Tryz.isAgg284
  z168 := Tryz.sizeOf284
  v168 := Tryz.zeroValue284
  t171 := Tryz.underlying303
  a171 := Tryz.isAgg303
  z171 := Tryz.sizeOf303
  v171 := Tryz.zeroValue303
  t173 := Tryz.underlying305
  a173 := Tryz.isAgg305
  z173 := Tryz.sizeOf305
  v173 := Tryz.zeroValue305
  t175 := Tryz.underlying282
  a175 := Tryz.isAgg282
  z175 := Tryz.sizeOf282
  v175 := Tryz.zeroValue282
  t210 := Tryz.underlying295
  a210 := Tryz.isAgg295
  z210 := Tryz.sizeOf295
  v210 := Tryz.zeroValue295
  t212 := Tryz.underlying308
  a212 := Tryz.isAgg308
  z212 := Tryz.sizeOf308
  v212 := Tryz.zeroValue308
  t213 := Tryz.underlying309
  a213 := Tryz.isAgg309
  z213 := Tryz.sizeOf309
  t232 := Tryz.underlying310
  a232 := Tryz.isAgg310
  z232 := Tryz.sizeOf310
  v232 := Tryz.zeroValue310
  t233 := Tryz.underlying311
  a233 := Tryz.isAgg311
  z233 := Tryz.sizeOf311
  v233 := Tryz.zeroValue311
  g15 := by kernel_rfl
  g16 := by kernel_rfl
  g17 := by kernel_rfl
  g18 := by kernel_rfl
  g19 := by kernel_rfl
  t80 := Tryz.underlying312
  a80 := Tryz.isAgg312
  z80 := Tryz.sizeOf312
  v80 := Tryz.zeroValue312
  i0 := by kernel_rfl
  i2 := by kernel_rfl
  i3 := by kernel_rfl
  i4 := by kernel_rfl
  i5 := by kernel_rfl
  i9 := by kernel_rfl
  i20 := by kernel_rfl
  i21 := by kernel_rfl
  i37 := by kernel_rfl
  i46 := by kernel_rfl
  i51 := by kernel_rfl
  i53 := by kernel_rfl
  i75 := by kernel_rfl
  i80 := by kernel_rfl
  i85 := by kernel_rfl
  i127 := by kernel_rfl
  i143 := by kernel_rfl
  i145 := by kernel_rfl
  i167 := by kernel_rfl
  i168 := by kernel_rfl
  i171 := by kernel_rfl
  i173 := by kernel_rfl
  i175 := by kernel_rfl
  i210 := by kernel_rfl
  i212 := by kernel_rfl
  i232 := by kernel_rfl
  i233 := by kernel_rfl
  m15 := by kernel_rfl
  m16 := by kernel_rfl
  m17 := by kernel_rfl
  m18 := by kernel_rfl
  m19 := by kernel_rfl
  c0 := by kernel_rfl
  c2 := by kernel_rfl
  c3 := by kernel_rfl
  c4 := by kernel_rfl
  c5 := by kernel_rfl
  c9 := by kernel_rfl
  c20 := by kernel_rfl
  c21 := by kernel_rfl
  c37 := by kernel_rfl
  c46 := by kernel_rfl
  c51 := by kernel_rfl
  c53 := by kernel_rfl
  c75 := by kernel_rfl
  c80 := by kernel_rfl
  c85 := by kernel_rfl
  c127 := by kernel_rfl
  c143 := by kernel_rfl
  c145 := by kernel_rfl
  c167 := by kernel_rfl
  c168 := by kernel_rfl
  c171 := by kernel_rfl
  c173 := by kernel_rfl
  c175 := by kernel_rfl
  c210 := by kernel_rfl
  c212 := by kernel_rfl
  c213 := by kernel_rfl
  c232 := by kernel_rfl
  c233 := by kernel_rfl }
open Go.RowKit in
theorem Tryz.strconv_ParseInt_10_at64_ok (s : ByteArray) (hmax : s.size ≤ 9223372036854775806) (v : Int) (h : Lib.parseIntB 64 s.data.toList = .ok v) (w : World) :
    Calls Tryz.prog 163 #[.string s, .int .i64 10, .int .i64 64] w fun e w' => e = .returned (.tuple #[.int .i64 v, .nilIface]) ∧ (w' = w ∨ ∃ t, w' = Lib.bytesWorld w 5 t) := Any.strconv_ParseInt_10_at64_ok Tryz.laysC174 s hmax v h w
def Tryz.lays145_ren : Go.Shelf.Ren := ⟨fun | 145 => 88 | 220 => 129 | 219 => 161 | 217 => 189 | 225 => 190 | 224 => 191 | 267 => 192 | 266 => 207 | 314 => 208 | n => n, fun | 9 => 9 | 4 => 4 | 59 => 150 | 3 => 3 | 5 => 5 | 46 => 35 | 146 => 278 | 51 => 229 | n => n, fun | 1 => 0 | n => n⟩
theorem Tryz.lays145 : Go.Proofs.Lays.n145 Tryz.prog Tryz.lays145_ren := {
  mixed := by kernel_rfl
  f145 := Tryz.func88.trans (congrArg some (by kernel_rfl))
  f217 := Tryz.func189.trans (congrArg some (by kernel_rfl))
  f219 := Tryz.func161.trans (congrArg some (by kernel_rfl))
  f220 := Tryz.func129.trans (congrArg some (by kernel_rfl))
  f224 := Tryz.func191.trans (congrArg some (by kernel_rfl))
  f225 := Tryz.func190.trans (congrArg some (by kernel_rfl))
  f266 := Tryz.func207.trans (congrArg some (by kernel_rfl))
  f267 := Tryz.func192.trans (congrArg some (by kernel_rfl))
  f314 := Tryz.func208.trans (congrArg some (by kernel_rfl))
  t3 := Tryz.underlying3
  a3 := Tryz.isAgg3
  z3 := Tryz.sizeOf3
  v3 := Tryz.zeroValue3
  t4 := Tryz.underlying4
  a4 := Tryz.isAgg4
  z4 := Tryz.sizeOf4
  v4 := Tryz.zeroValue4
  t5 := Tryz.underlying5
  a5 := Tryz.isAgg5
  z5 := Tryz.sizeOf5
  v5 := Tryz.zeroValue5
  t9 := Tryz.underlying9
  a9 := Tryz.isAgg9
  z9 := Tryz.sizeOf9
  v9 := Tryz.zeroValue9
  t46 := Tryz.underlying35
  a46 := Tryz.isAgg35
  z46 := Tryz.sizeOf35
  v46 := Tryz.zeroValue35
  t51 := Tryz.underlying229
  a51 := Tryz.isAgg229
  z51 := Tryz.sizeOf229
  v51 := Tryz.zeroValue229
  t59 := Tryz.underlying150
  a59 := Tryz.isAgg150
  z59 := Tryz.sizeOf150
  v59 := Tryz.zeroValue150
  t146 := Tryz.underlying278
  a146 := Tryz.isAgg278
  z146 := Tryz.sizeOf278
  v146 := Tryz.zeroValue278
  g1 := by kernel_rfl }
open Go.RowKit Go.Lib in
theorem Tryz.strings_Cut (s sep : ByteArray) (m : Int) (w : World) (hs : s.size < 4294967281) (hm : w.cell? ⟨0, 0, none⟩ = some (.int .i64 m)) :
    Calls Tryz.prog 88 #[.string s, .string sep] w fun e w' => e = .returned (.tuple #[.string ⟨(Lib.cut s.data.toList sep.data.toList).1.toArray⟩, .string ⟨(Lib.cut s.data.toList sep.data.toList).2.1.toArray⟩, .bool (Lib.cut s.data.toList sep.data.toList).2.2]) ∧ ∃ n, w' = w.drewN n := Any.strings_Cut Tryz.lays145 s sep m w hs hm
def Tryz.lays146_ren : Go.Shelf.Ren := ⟨fun | 146 => 86 | 221 => 121 | 268 => 154 | 138 => 155 | 143 => 156 | 195 => 184 | 197 => 158 | 218 => 185 | 219 => 161 | 260 => 186 | 217 => 189 | 225 => 190 | 224 => 191 | 267 => 192 | 266 => 207 | 314 => 208 | n => n, fun | 9 => 9 | 31 => 69 | 3 => 3 | 4 => 4 | 0 => 0 | 105 => 236 | 21 => 21 | 5 => 5 | 46 => 35 | 119 => 273 | 139 => 276 | 138 => 275 | 146 => 278 | 51 => 229 | n => n, fun | 1 => 0 | 3 => 1 | 4 => 2 | n => n⟩
theorem Tryz.lays146 : Go.Proofs.Lays.n146 Tryz.prog Tryz.lays146_ren := {
  mixed := by kernel_rfl
  f138 := Tryz.func155.trans (congrArg some (by kernel_rfl))
  f143 := Tryz.func156.trans (congrArg some (by kernel_rfl))
  f146 := Tryz.func86.trans (congrArg some (by kernel_rfl))
  f195 := Tryz.func184.trans (congrArg some (by kernel_rfl))
  f197 := Tryz.func158.trans (congrArg some (by kernel_rfl))
  f217 := Tryz.func189.trans (congrArg some (by kernel_rfl))
  f218 := Tryz.func185.trans (congrArg some (by kernel_rfl))
  f219 := Tryz.func161.trans (congrArg some (by kernel_rfl))
  f221 := Tryz.func121.trans (congrArg some (by kernel_rfl))
  f224 := Tryz.func191.trans (congrArg some (by kernel_rfl))
  f225 := Tryz.func190.trans (congrArg some (by kernel_rfl))
  f260 := Tryz.func186.trans (congrArg some (by kernel_rfl))
  f266 := Tryz.func207.trans (congrArg some (by kernel_rfl))
  f267 := Tryz.func192.trans (congrArg some (by kernel_rfl))
  f268 := Tryz.func154.trans (congrArg some (by kernel_rfl))
  f314 := Tryz.func208.trans (congrArg some (by kernel_rfl))
  t0 := Tryz.underlying0
  a0 := Tryz.isAgg0
  z0 := Tryz.sizeOf0
  v0 := Tryz.zeroValue0
  t3 := Tryz.underlying3
  a3 := Tryz.isAgg3
  z3 := Tryz.sizeOf3
  v3 := Tryz.zeroValue3
  t4 := Tryz.underlying4
  a4 := Tryz.isAgg4
  z4 := Tryz.sizeOf4
  v4 := Tryz.zeroValue4
  t5 := Tryz.underlying5
  a5 := Tryz.isAgg5
  z5 := Tryz.sizeOf5
  v5 := Tryz.zeroValue5
  t9 := Tryz.underlying9
  a9 := Tryz.isAgg9
  z9 := Tryz.sizeOf9
  v9 := Tryz.zeroValue9
  t21 := Tryz.underlying21
  a21 := Tryz.isAgg21
  z21 := Tryz.sizeOf21
  v21 := Tryz.zeroValue21
  t31 := Tryz.underlying69
  a31 := Tryz.isAgg69
  z31 := Tryz.sizeOf69
  v31 := Tryz.zeroValue69
  t46 := Tryz.underlying35
  a46 := Tryz.isAgg35
  z46 := Tryz.sizeOf35
  v46 := Tryz.zeroValue35
  t51 := Tryz.underlying229
  a51 := Tryz.isAgg229
  z51 := Tryz.sizeOf229
  v51 := Tryz.zeroValue229
  t105 := Tryz.underlying236
  a105 := Tryz.isAgg236
  z105 := Tryz.sizeOf236
  v105 := Tryz.zeroValue236
  t119 := Tryz.underlying273
  a119 := Tryz.isAgg273
  z119 := Tryz.sizeOf273
  t138 := Tryz.underlying275
  a138 := Tryz.isAgg275
  z138 := Tryz.sizeOf275
  v138 := Tryz.zeroValue275
  t139 := Tryz.underlying276
  a139 := Tryz.isAgg276
  z139 := Tryz.sizeOf276
  v139 := Tryz.zeroValue276
  t146 := Tryz.underlying278
  a146 := Tryz.isAgg278
  z146 := Tryz.sizeOf278
  v146 := Tryz.zeroValue278
  g1 := by kernel_rfl
  g3 := by kernel_rfl
  g4 := by kernel_rfl }
open Go.RowKit Go.Lib in
theorem Tryz.strings_Split (s sep : ByteArray) (m : Int) (w : World) (hs : s.size < 4294967281) (hm : w.cell? ⟨0, 0, none⟩ = some (.int .i64 m)) (h1 : 1 ≤ sep.size) :
    Calls Tryz.prog 86 #[.string s, .string sep] w fun e w' =>
      e = .returned (.slice (some ⟨w.heap.size, 0, none⟩) (Lib.countB s sep + 1) (Lib.countB s sep + 1)) ∧ w' = w.alloc (.cells ((Lib.splitB sep 0 (Lib.countB s sep) s).map Value.string).toArray 9) := Any.strings_Split Tryz.lays146 (by kernel_rfl) s sep m w hs hm h1
def Tryz.lays264_ren : Go.Shelf.Ren := ⟨fun | 264 => 136 | n => n, fun | 53 => 159 | 46 => 35 | n => n, fun | n => n⟩
theorem Tryz.lays264 : Go.Proofs.Lays.n264 Tryz.prog Tryz.lays264_ren := {
  mixed := by kernel_rfl
  f264 := Tryz.func136.trans (congrArg some (by kernel_rfl))
  t46 := Tryz.underlying35
  a46 := Tryz.isAgg35
  z46 := Tryz.sizeOf35
  v46 := Tryz.zeroValue35
  t53 := Tryz.underlying159
  a53 := Tryz.isAgg159
  z53 := Tryz.sizeOf159
  v53 := Tryz.zeroValue159 }
open Go.RowKit Go.Lib in
theorem Tryz.bits_Mul64 (x y : Nat) (hx : x < 18446744073709551616) (hy : y < 18446744073709551616) (w : World) :
    Calls Tryz.prog 136 #[.int .u64 x, .int .u64 y] w fun e w' => e = .returned (.tuple #[.int .u64 ((x * y / 18446744073709551616 : Nat) : Int), .int .u64 ((x * y % 18446744073709551616 : Nat) : Int)]) ∧ w' = w := Any.bits_Mul64 Tryz.lays264 x y hx hy w
end Go.Proofs
namespace Go.Proofs.YtelmcfnkclihcaaGreatDoorW.Am
open Go Go.RowKit
theorem far_ok (h : Hp) {a : Int} (ha : 0 ≤ a ∧ a ≤ 9223372036854775807) : ACall PX 198 [nI a] h (fun v g => v = .int .u64 a ∧ h = g) := by
 refine acallA Tryz.func198 c198 ?_
 unfold ir198
 dsimp only [qo,qm,qk,q2,qi,qg,qn,qc,dq,ci,cb,qh,qs]
 repeat (first | apply sS | apply sE | refine w_mv rfl ?_ | (refine w_cu rfl ?_ ?_; (focus omega)) | (apply is_bin; refine w_cF rfl ?_) | apply ai_seq | apply ai_regW | refine ai_cF rfl ?_ | apply ai_skip | (apply ai_ret; repeat (first | rw [thenQ_r] | rw [blockQ_r] | rw [roundE_r])))
 exact end_one rfl ⟨rfl,rfl⟩
theorem mul64_br (h : Hp) {x y : Int} (hx : 0 ≤ x ∧ x < 18446744073709551616) (hy : 0 ≤ y ∧ y < 18446744073709551616) : ACall PX 136 [.int .u64 x,.int .u64 y] h (fun v g => v = .tuple #[.int .u64 (x * y / 18446744073709551616),.int .u64 (x * y % 18446744073709551616)] ∧ h = g) := by
 obtain ⟨x,rfl⟩ : ∃ n : Nat,x = n := ⟨x.toNat,by omega⟩
 obtain ⟨y,rfl⟩ : ∃ n : Nat,y = n := ⟨y.toNat,by omega⟩
 exact bridge (enters_comp Tryz.func136 c136) rfl rfl (fun w _ => (Tryz.bits_Mul64 x y (by omega) (by omega) w).mono (by
  rintro e w' ⟨rfl,rfl⟩
  refine ⟨?_,Below.refl _ _,fun _ => Nat.le_refl _⟩
  simp)) h
theorem div64_ok (h : Hp) {lo : Int} (hl : 0 ≤ lo ∧ lo ≤ 18446744073709551615) : ACall PX 199 [.int .u64 0,.int .u64 lo,.int .u64 1000] h (fun v g => v = .tuple #[.int .u64 (lo / 1000),.int .u64 (lo % 1000)] ∧ h = g) := by
 refine acallA Tryz.func199 c199 ?_
 unfold ir199
 dsimp only [qo,qm,qk,q2,qi,qg,qn,qc,dq,ci,cb,qh,qs]
 repeat (first | apply sS | apply dS | apply sE | apply dE | refine w_mv rfl ?_ | (apply is_bin; refine w_cT rfl ?_) | (apply is_bin; refine w_cF rfl ?_) | (refine w_rem rfl ?_ ?_ ?_; (focus omega); (focus omega)) | (refine w_quou rfl ?_ ?_ ?_; (focus omega); (focus omega)) | apply ai_seq | apply ai_regW | refine ai_cT rfl ?_ | refine ai_cF rfl ?_ | apply ai_skip | refine ai_drwW (by kernel_rfl) ?_ | (apply ai_ret; repeat (first | rw [thenQ_r] | rw [blockQ_r] | rw [roundE_r])))
 exact end_two rfl rfl ⟨rfl,rfl⟩
theorem mmul_ok (h : Hp) {a b : Int} (ha : 0 ≤ a ∧ a ≤ 1000000000) (hb : 0 ≤ b ∧ b ≤ 1000000000) : ACall PX 169 [nI a,nI b] h (fun v g => v = .tuple #[nI (a * b / 1000),nI 0] ∧ h = g) := by
 have h0 : 0 ≤ a * b := Int.mul_nonneg ha.1 hb.1
 have h1 : a * b ≤ 1000000000 * 1000000000 := Int.mul_le_mul ha.2 hb.2 hb.1 (by omega)
 have e1 : a * b / 18446744073709551616 = 0 := by omega
 have e2 : a * b % 18446744073709551616 = a * b := by omega
 refine acallA Tryz.func169 c169 ?_
 unfold ir169
 dsimp only [qo,qm,qk,q2,qi,qg,qn,qc,dq,ci,cb,qh,qs]
 repeat (first | apply sS | apply sE | refine w_mv rfl ?_ | (refine is_okk rfl ?_; refine w_op rfl ?_) | (apply is_bin; refine w_cF rfl ?_) | (refine w_callE ((far_ok _ (by omega)).mono ?_) rfl rfl; rintro _ _ ⟨rfl,rfl⟩) | apply ai_seq | apply ai_regW)
 refine w_call rfl ((mul64_br _ (by omega) (by omega)).mono ?_)
 rw [e1,e2]
 generalize a * b = c at *
 rintro _ _ ⟨rfl,rfl⟩
 repeat (first | apply sS | apply sE | refine w_mv rfl ?_ | (refine is_okk rfl ?_; refine w_op rfl ?_) | refine w_ext rfl rfl ?_ | (refine w_ci rfl ?_ ?_; (focus omega)) | (apply is_bin; refine w_cF rfl ?_) | (refine w_callE ((div64_ok _ (by omega)).mono ?_) rfl rfl; rintro _ _ ⟨rfl,rfl⟩) | apply ai_seq | apply ai_regW | refine ai_cT rfl ?_ | refine ai_cF rfl ?_ | apply ai_skip | (apply ai_ret; repeat (first | rw [thenQ_r] | rw [blockQ_r] | rw [roundE_r])))
 exact end_two rfl rfl ⟨rfl,rfl⟩
structure CfOk (c : Cf20) : Prop where
 target : 10 ≤ c.target ∧ c.target ≤ 1000000
 util : 100 ≤ c.util ∧ c.util ≤ 1000
 stable : 6 ≤ c.stable ∧ c.stable ≤ 600
 panic : 1 ≤ c.panic ∧ c.panic ≤ c.stable
 grain : 1 ≤ c.grain ∧ c.grain ≤ c.panic
 threshold : 1100 ≤ c.threshold ∧ c.threshold ≤ 10000
 up : 1001 ≤ c.up ∧ c.up ≤ 1000000
 down : 1001 ≤ c.down ∧ c.down ≤ 1000000
 min : 0 ≤ c.min ∧ c.min ≤ 100
 max : 0 ≤ c.max ∧ c.max ≤ 100 ∧ (c.max ≠ 0 → c.min ≤ c.max)
 initial : 0 ≤ c.initial ∧ c.initial ≤ topF c
 grace : 0 ≤ c.grace ∧ c.grace ≤ 600
 delay : 0 ≤ c.delay ∧ c.delay ≤ 600
 burst : c.burst = -1000 ∨ (0 ≤ c.burst ∧ c.burst ≤ 100000000)
 limit : 1 ≤ c.limit ∧ c.limit ≤ 1000
 queue : 0 ≤ c.queue ∧ c.queue ≤ 200
 timeout : 1 ≤ c.timeout ∧ c.timeout ≤ 10000
 ready : 0 ≤ c.ready ∧ c.ready ≤ 100
 subset : 0 ≤ c.subset ∧ c.subset ≤ 100
 sample : 0 ≤ c.sample ∧ c.sample ≤ 100
theorem cf_ok {c : Cf20} (h : mayB c = true) : CfOk c := by
 unfold mayB wrL wrB at h
 simp only [List.all_cons,List.all_nil,Bool.and_true,Bool.and_eq_true,inB,Bool.or_eq_true,decide_eq_true_eq,beq_iff_eq] at h
 obtain ⟨h1,h2,h3,h4,h5,h6,h7,h8,h9,h10,h11,h12,h13,h14,h15,h16,h17,h18,h19,h20⟩ := h
 refine ⟨h1,h2,h3,h4,h5,h6,h7,h8,h9,?_,?_,h12,h13,h14,h15,h16,h17,h18,h19,h20⟩
 ·split at h10 <;> omega
 ·unfold topF
  split at h11 <;> omega
theorem CfOk.top {c : Cf20} (k : CfOk c) : 1 ≤ topF c ∧ topF c ≤ 100 ∧ c.min ≤ topF c := by
 have h1 := k.max; have h2 := k.min
 unfold topF
 split <;> omega
theorem per_ok (h : Hp) {c : Cf20} (k : CfOk c) : ACall PX 139 [.agg ⟨cs20 c⟩] h (fun v g => v = nI (perF c) ∧ Ext h g) := by
 have h1 := k.target; have h2 := k.util
 refine acallA Tryz.func139 c139 ?_
 unfold ir139
 dsimp only [qo,qm,qk,q2,qi,qg,qn,qc,dq,ci,cb,qh,qs]
 repeat (first | apply sS | apply sE | refine w_mv rfl ?_ | (refine is_okk rfl ?_; refine w_op rfl ?_) | (apply is_ld; refine w_ldA rfl ?_) | apply ai_seq | apply ai_regW)
 refine w_call rfl ((mmul_ok _ (by omega) (by omega)).mono ?_)
 rintro _ _ ⟨rfl,rfl⟩
 repeat (first | apply sS | apply sE | refine w_mv rfl ?_ | refine w_ext rfl rfl ?_ | refine w_max rfl ?_ | apply ai_seq | apply ai_regW | (apply ai_ret; repeat (first | rw [thenQ_r] | rw [blockQ_r] | rw [roundE_r])))
 refine end_one rfl ⟨?_,Ext.new _ _⟩
 unfold perF
 congr 1
theorem perF_bd {c : Cf20} (k : CfOk c) : 1 ≤ perF c ∧ perF c ≤ 1000000 := by
 have h1 := k.target; have h2 := k.util
 have h0 : 0 ≤ c.target * c.util := Int.mul_nonneg (by omega) (by omega)
 have h3 : c.target * c.util ≤ 1000000 * 1000 := Int.mul_le_mul (by omega) (by omega) (by omega) (by omega)
 unfold perF
 generalize c.target * c.util = x at *
 omega
def bkV (b : Bk) : List Value := [nI b.at_,nI b.sum,nI b.n,.bool b.cut]
def bE (P : Nat) : Value := .iface 247 (ptr P)
def rgV (s : Value) (r : Rg) : List Value := [s,nI r.window,nI r.grain,nI r.n,nI r.newest,.bool r.over]
structure RgA (h : Hp) (R j : Nat) (bs : List (Nat × Bk)) (r : Rg) : Prop where
 rl : R < h.nx
 jl : j < h.nx
 row : ∃ s,h.get R = some ⟨rgV s r,true,0⟩ ∧ LR h R j s (bs.map fun p => bE p.1)
 bks : ∀ p ∈ bs,h.get p.1 = some ⟨bkV p.2,true,0⟩ ∧ p.1 < h.nx ∧ p.1 ≠ R ∧ p.1 ≠ j
 nd : (bs.map (·.1)).Nodup
 val : bs.map (·.2) = r.l
abbrev Ft := Nat → Prop
def RgF (h : Hp) (S : Ft) (R : Nat) (r : Rg) : Prop := ∃ j bs,RgA h R j bs r ∧ S R ∧ S j ∧ ∀ p ∈ bs,S p.1
def FrP (S : Ft) (h h' : Hp) : Prop := h.nx ≤ h'.nx ∧ ∀ k,k < h.nx → ¬ S k → h'.get k = h.get k
def Up (S : Ft) (h h' : Hp) : Ft := fun k => S k ∨ (h.nx ≤ k ∧ k < h'.nx)
theorem RgF.keep {h h' : Hp} {S S' : Ft} {R : Nat} {r : Rg} (a : RgF h S R r) (hn : h.nx ≤ h'.nx) (hk : ∀ k,k < h.nx → S k → h'.get k = h.get k) (hs : ∀ k,k < h.nx → S k → S' k) : RgF h' S' R r := by
 obtain ⟨j,bs,⟨hR,hj,⟨s,hg,hs1⟩,hp,hnd,hv⟩,h1,h2,h3⟩ := a
 exact ⟨j,bs,⟨by omega,by omega,⟨s,(hk R hR h1).trans hg,hs1.keep fun _ => hk j hj h2⟩,fun p hp' => ⟨(hk p.1 (hp p hp').2.1 (h3 p hp')).trans (hp p hp').1,by have := (hp p hp').2.1; omega,(hp p hp').2.2⟩,hnd,hv⟩,hs _ hR h1,hs _ hj h2,fun p hp' => hs _ (hp p hp').2.1 (h3 p hp')⟩
theorem bucks_ok (h : Hp) {w g : Int} (hw : 1 ≤ w ∧ w ≤ 600) (hg : 1 ≤ g ∧ g ≤ 600) : ACall PX 111 [nI w,nI g] h (fun v g' => v = nI (bksF w g) ∧ h = g') := by
 refine acallA Tryz.func111 c111 ?_
 unfold ir111
 dsimp only [qo,qm,qk,q2,qi,qg,qn,qc,dq,ci,cb,qh,qs]
 repeat (first | apply sS | apply sE | refine w_mv rfl ?_ | (apply is_bin; refine w_addA rfl ?_) | (apply is_bin; refine w_subA rfl ?_) | (refine w_quo rfl ?_ ?_ ?_; (focus omega); (focus omega)) | apply ai_seq | apply ai_regW | (apply ai_ret; repeat (first | rw [thenQ_r] | rw [blockQ_r] | rw [roundE_r])))
 exact end_one rfl ⟨rfl,rfl⟩
theorem rgnew_ok (h : Hp) {w g : Int} (hw : 1 ≤ w ∧ w ≤ 600) (hg : 1 ≤ g ∧ g ≤ w) : ACall PX 77 [nI w,nI g] h (fun v g' => v = ptr h.nx ∧ RgF g' (fun k => h.nx ≤ k) h.nx (rgNew w g) ∧ Ext h g' ∧ g'.nx = h.nx + 1) := by
 refine acallA Tryz.func77 c77 ?_
 unfold ir77
 dsimp only [qo,qm,qk,q2,qi,qg,qn,qc,dq,ci,cb,qh,qs]
 repeat (first | apply sS | apply sE | refine w_mv rfl ?_ | refine w_pickF rfl ?_ | refine w_gT rfl rfl ?_ | (apply is_bin; refine w_cF rfl ?_) | apply ai_seq | apply ai_regW | refine ai_cF rfl ?_ | apply ai_skip)
 refine w_call rfl ((bucks_ok _ (by omega) (by omega)).mono ?_)
 rintro _ _ ⟨rfl,rfl⟩
 repeat (first | apply sS)
 refine w_op (v := .agg ⟨rgV (.slice none 0 0) (rgNew w g)⟩) (h' := h) rfl ?_
 repeat (first | apply sS)
 refine w_op (v := ptr h.nx) (h' := h.new ⟨rgV (.slice none 0 0) (rgNew w g),true,0⟩) rfl ?_
 repeat (first | apply sS | apply sE | refine w_mv rfl ?_ | (apply ai_ret; repeat (first | rw [thenQ_r] | rw [blockQ_r] | rw [roundE_r])))
 exact end_one rfl ⟨rfl,⟨h.nx,[],⟨by simp [Hp.new],by simp [Hp.new],⟨_,new_get _ _,.inl ⟨rfl,rfl⟩⟩,by simp,by simp,rfl⟩,Nat.le_refl _,Nat.le_refl _,by simp⟩,Ext.new _ _,by simp [Hp.new]⟩
structure RgB (r : Rg) (T : Int) : Prop where
 w : 1 ≤ r.window ∧ r.window ≤ 600
 g : 1 ≤ r.grain ∧ r.grain ≤ r.window
 n : r.n = bksF r.window r.grain
 nw : -1 ≤ r.newest ∧ r.newest ≤ T
 b : ∀ b ∈ r.l,0 ≤ b.at_ ∧ b.at_ ≤ T ∧ 0 ≤ b.sum ∧ b.sum ≤ 9223372036854775807 ∧ 1 ≤ b.n
 s : (r.l.map fun b => b.n).sum ≤ T
theorem bks_bd {w g : Int} (hw : 1 ≤ w ∧ w ≤ 600) (hg : 1 ≤ g ∧ g ≤ w) : 1 ≤ bksF w g ∧ bksF w g ≤ 1200 := by
 unfold bksF
 have h1 : (w + g - 1) / g ≤ w + g - 1 := Int.ediv_le_self _ (by omega)
 have h2 : 1 ≤ (w + g - 1) / g := by
  rw [Int.le_ediv_iff_mul_le (by omega)]
  omega
 omega
theorem RgB.nb {r : Rg} {T : Int} (b : RgB r T) : 1 ≤ r.n ∧ r.n ≤ 1200 := by rw [b.n]; exact bks_bd b.w b.g
theorem sum_len : ∀ {l : List Bk},(∀ b ∈ l,1 ≤ b.n) → (l.length : Int) ≤ (l.map fun b => b.n).sum
 | [],_ => by simp
 | b :: l,h => by
  have h1 := h b (by simp)
  have h2 := sum_len (l := l) fun c hc => h c (by simp [hc])
  simp only [List.map_cons,List.sum_cons,List.length_cons]
  omega
theorem RgB.len {r : Rg} {T : Int} (b : RgB r T) : (r.l.length : Int) ≤ T := Int.le_trans (sum_len fun c hc => (b.b c hc).2.2.2.2) b.s
theorem sum_filter (q : Bk → Bool) : ∀ {l : List Bk},(∀ b ∈ l,1 ≤ b.n) → ((l.filter q).map fun b => b.n).sum ≤ (l.map fun b => b.n).sum
 | [],_ => by simp
 | b :: l,h => by
  have h1 := h b (by simp)
  have h2 := sum_filter q (l := l) fun c hc => h c (by simp [hc])
  rw [List.filter_cons]
  split
  ·simp only [List.map_cons,List.sum_cons]; omega
  ·simp only [List.map_cons,List.sum_cons]; omega
theorem far_ok2 (h : Hp) {B R : Nat} {s : Value} {r : Rg} {p : Nat} {b : Bk} (hB : h.get B = some ⟨[ptr R],true,0⟩) (hR : h.get R = some ⟨rgV s r,true,0⟩) (hp : h.get p = some ⟨bkV b,true,0⟩) (hb : 0 ≤ b.at_ ∧ b.at_ ≤ 1099511627776) (hn : -1 ≤ r.newest ∧ r.newest ≤ 1099511627776) :
  ACall PX 196 [bE p,ptr B] h (fun v g => v = .bool (!decide (r.newest - b.at_ < r.n)) ∧ h = g) := by
 refine acallA Tryz.func196 c196 ?_
 unfold ir196
 dsimp only [qo,qm,qk,q2,qi,qg,qn,qc,dq,ci,cb,qh,qs]
 by_cases q : r.newest - b.at_ < r.n
 ·rw [decide_eq_true q]
  repeat (first | apply sS | apply dS | apply sE | apply dE | refine w_mv rfl ?_ | refine w_pickF rfl ?_ | (refine is_okn rfl ?_; refine w_op rfl ?_) | refine w_ext rfl rfl ?_ | refine w_gT rfl rfl ?_ | (apply is_ld; refine w_ldA rfl ?_) | (apply is_bin; refine w_subA rfl ?_) | (apply is_bin; refine w_cF rfl ?_) | apply ai_seq | apply ai_regW | refine ai_drwW (by kernel_rfl) ?_ | (apply ai_ret; repeat (first | rw [thenQ_r] | rw [blockQ_r] | rw [roundE_r])))
  exact end_one rfl ⟨rfl,rfl⟩
 ·rw [decide_eq_false q]
  repeat (first | apply sS | apply dS | apply sE | apply dE | refine w_mv rfl ?_ | refine w_pickF rfl ?_ | (refine is_okn rfl ?_; refine w_op rfl ?_) | refine w_ext rfl rfl ?_ | refine w_gT rfl rfl ?_ | (apply is_ld; refine w_ldA rfl ?_) | (apply is_bin; refine w_subA rfl ?_) | (apply is_bin; refine w_cT rfl ?_) | apply ai_seq | apply ai_regW | refine ai_drwW (by kernel_rfl) ?_ | (apply ai_ret; repeat (first | rw [thenQ_r] | rw [blockQ_r] | rw [roundE_r])))
  exact end_one rfl ⟨rfl,rfl⟩
theorem forget_ok (h : Hp) {R j : Nat} {bs : List (Nat × Bk)} {r : Rg} (a : RgA h R j bs r) (hl : r.l.length ≤ 1099511627776) (hb : ∀ b ∈ r.l,0 ≤ b.at_ ∧ b.at_ ≤ 1099511627776) (hn : -1 ≤ r.newest ∧ r.newest ≤ 1099511627776) :
  ACall PX 164 [ptr R] h (fun _ g => RgA g R j (bs.filter fun p => decide (r.newest - p.2.at_ < r.n)) { r with l := forgF r.newest r.n r.l } ∧ h.nx ≤ g.nx ∧ ∀ k,k < h.nx → k ≠ j → k ≠ R → g.get k = h.get k) := by
 obtain ⟨hR,hj,⟨s,hg,hs⟩,hp,hnd,hv⟩ := a
 have hlen : bs.length = r.l.length := by rw [← hv,List.length_map]
 refine acallA Tryz.func164 c164 ?_
 unfold ir164
 dsimp only [qo,qm,qk,q2,qi,qg,qn,qc,dq,ci,cb,qh,qs]
 repeat (first | apply sS | apply ai_seq | apply ai_regW)
 refine w_box rfl fun g1 x1 k1 n1 => ?_
 have k1R := (x1.2 R hR).trans hg
 have hone := hs.one
 repeat (first | apply dS | apply dSR | apply sE | (refine is_okn rfl ?_; refine w_op rfl ?_) | (apply is_ld; refine w_ldA rfl ?_) | refine ai_drwW (by kernel_rfl) ?_)
 have hs1 := hs.ext hj x1
 have hfind : ∀ p ∈ bs,∀ p' ∈ bs,p.1 = p'.1 → p = p' := by
  intro p hp p' hp' e
  obtain ⟨i,hi,rfl⟩ := List.getElem_of_mem hp
  obtain ⟨i',hi',rfl⟩ := List.getElem_of_mem hp'
  have := (List.getElem_inj (i := i) (j := i') (h₀ := by simpa using hi) (h₁ := by simpa using hi') hnd).1 (by simpa using e)
  subst this; rfl
 obtain ⟨q,hq⟩ : ∃ q : Value → Bool,∀ p ∈ bs,q (bE p.1) = !decide (r.newest - p.2.at_ < r.n) := by
  refine ⟨fun u => @decide (∃ p ∈ bs,u = bE p.1 ∧ ¬ (r.newest - p.2.at_ < r.n)) (Classical.propDecidable _),fun p hp => ?_⟩
  rw [Bool.eq_iff_iff]
  simp only [decide_eq_true_eq,Bool.not_eq_true',decide_eq_false_iff_not]
  constructor
  ·rintro ⟨p',hp',e,hn'⟩
   have e' : p.1 = p'.1 := by simpa [bE] using e
   rw [hfind p hp p' hp' e']
   exact hn'
  ·exact fun hd => ⟨p,hp,rfl,hd⟩
 have hjk : ∀ {k : Nat},k ≠ R → k ≠ j → (k ≠ j ∨ j = R) := fun _ h => .inl h
 have hRk : R ≠ j ∨ j = R := by
  by_cases e : j = R
  ·exact .inr e
  ·exact .inl fun e' => e e'.symm
 refine w_call rfl ((delF_ok (f := 196) (caps := [ptr h.nx]) g1 q hs1 (Nat.lt_of_lt_of_le hj x1.1) (by rw [List.length_map,hlen]; omega) ?_).mono ?_)
 ·intro g hng hkg u hu
  obtain ⟨p,hpm,rfl⟩ := List.mem_map.1 hu
  have h1 := hp p hpm
  rw [hq p hpm]
  have e1 : g.get h.nx = some ⟨[ptr R],true,0⟩ := (hkg _ n1 (.inl (by omega))).trans k1
  have e3 : g.get p.1 = some ⟨bkV p.2,true,0⟩ := (hkg _ (Nat.lt_of_lt_of_le h1.2.1 x1.1) (.inl h1.2.2.2)).trans ((x1.2 _ h1.2.1).trans h1.1)
  have e2 : g.get R = some ⟨rgV s r,true,0⟩ := (hkg R (Nat.lt_of_lt_of_le hR x1.1) hRk).trans k1R
  refine (far_ok2 g e1 e2 e3 (hb _ (by rw [← hv]; exact List.mem_map_of_mem hpm)) hn).mono ?_
  rintro _ _ ⟨rfl,rfl⟩
  exact ⟨rfl,Ext.refl _⟩
 rintro v g2 ⟨lr,hn2,hk2⟩
 have hone2 := lr.one
 have hb2 : g2.get h.nx = some ⟨[ptr R],true,0⟩ := (hk2 _ n1 (.inl (by omega))).trans k1
 have hR2 : g2.get R = some ⟨rgV s r,true,0⟩ := (hk2 R (Nat.lt_of_lt_of_le hR x1.1) hRk).trans k1R
 repeat (first | apply dS | apply dSn | (apply is_ag; refine agSA ?_) | (refine is_okn rfl ?_; refine w_op rfl ?_))
 refine w_st1 rfl hone2.2 hR2 (by show 0 < 6; decide) hone2.1 fun g3 m3 k3 n3 => ?_
 repeat (first | apply dE)
 have hn3 : h.nx ≤ g3.nx := by rw [n3]; exact Nat.le_trans x1.1 hn2
 have hkk : ∀ k,k < h.nx → (k ≠ j ∨ j = R) → k ≠ R → g3.get k = h.get k := fun k hk ho hne => (m3 k hne).trans ((hk2 k (Nat.lt_of_lt_of_le hk x1.1) ho).trans (x1.2 k hk))
 have hmf : ((bs.map fun p => bE p.1).filter fun u => !q u) = (bs.filter fun p => decide (r.newest - p.2.at_ < r.n)).map fun p => bE p.1 := by
  rw [List.filter_map]
  congr 1
  refine List.filter_congr fun p hp => ?_
  simp only [Function.comp]
  rw [hq p hp,Bool.not_not]
 rw [hmf] at lr
 refine end_zeroN ⟨⟨by omega,by omega,⟨v,k3,lr.keep fun e => m3 j e⟩,fun p hp' => ?_,?_,?_⟩,hn3,fun k hk h1 h2 => hkk k hk (.inl h1) h2⟩
 ·have h1 := hp p (List.mem_filter.1 hp').1
  exact ⟨(hkk p.1 h1.2.1 (.inl h1.2.2.2) h1.2.2.1).trans h1.1,by omega,h1.2.2⟩
 ·exact hnd.sublist (List.Sublist.map _ List.filter_sublist)
 ·show _ = forgF r.newest r.n r.l
  rw [← hv]
  unfold forgF
  rw [List.filter_map]
  rfl
theorem forg_le (newest n : Int) (l : List Bk) : (forgF newest n l).length ≤ l.length := List.length_filter_le _ _
theorem over_ok (h : Hp) {S : Ft} {R : Nat} {r : Rg} (a : RgF h S R r) : ACall PX 110 [ptr R] h (fun v g => v = .bool r.over ∧ h = g) := by
 obtain ⟨j,bs,⟨hR,hj,⟨s,hg,hs⟩,_⟩,_⟩ := a
 refine acallA Tryz.func110 c110 ?_
 unfold ir110
 dsimp only [qo,qm,qk,q2,qi,qg,qn,qc,dq,ci,cb,qh,qs]
 repeat (first | apply sS | apply sE | refine w_mv rfl ?_ | refine w_pickT rfl ?_ | (refine is_okn rfl ?_; refine w_op rfl ?_) | refine w_gT rfl rfl ?_ | (apply is_ld; refine w_ldA rfl ?_) | apply ai_seq | apply ai_regW | (apply ai_ret; repeat (first | rw [thenQ_r] | rw [blockQ_r] | rw [roundE_r])))
 exact end_one rfl ⟨rfl,rfl⟩
theorem resize_ok (h : Hp) {S : Ft} {R : Nat} {r : Rg} {T : Int} (a : RgF h S R r) (b : RgB r T) (hT : T ≤ 1099511627776) {w : Int} (hw : r.grain ≤ w ∧ w ≤ 600) : ACall PX 132 [ptr R,nI w] h (fun _ g => RgF g (Up S h g) R (rgSize r w) ∧ FrP S h g) := by
 obtain ⟨j,bs,a,s1,s2,s3⟩ := a
 obtain ⟨hR,hj,⟨s,hg,hs⟩,hp,hnd,hv⟩ := a
 have hgr := b.g
 have hww := b.w
 have hlen := b.len
 have hnb := bks_bd (w := w) (g := r.grain) (by omega) (by omega)
 have e : rgSize r w = { r with window := w,n := bksF w r.grain,l := forgF r.newest (bksF w r.grain) r.l } := by
  unfold rgSize
  rw [if_neg (by omega)]
 rw [e]
 refine acallA Tryz.func132 c132 ?_
 unfold ir132
 dsimp only [qo,qm,qk,q2,qi,qg,qn,qc,dq,ci,cb,qh,qs]
 repeat (first | apply sS | apply sE | refine w_mv rfl ?_ | refine w_pickF rfl ?_ | (refine is_okn rfl ?_; refine w_op rfl ?_) | refine w_gT rfl rfl ?_ | (apply is_ld; refine w_ldA rfl ?_) | (apply is_bin; refine w_cF rfl ?_) | apply ai_seq | apply ai_regW | refine ai_cF rfl ?_ | apply ai_skip | apply ai_block)
 refine w_call rfl ((bucks_ok _ (by omega) (by omega)).mono ?_)
 rintro _ _ ⟨rfl,rfl⟩
 repeat (first | apply sS | apply sSn | (refine is_okn rfl ?_; refine w_op rfl ?_))
 refine w_st1 rfl rfl hg (by show 1 < 6; decide) rfl fun g1 m1 k1 n1 => ?_
 repeat (first | apply sS | apply sSn | (refine is_okn rfl ?_; refine w_op rfl ?_))
 refine w_st1 rfl rfl k1 (by show 3 < 6; decide) rfl fun g2 m2 k2 n2 => ?_
 repeat (first | apply sS | apply sE | refine w_mv rfl ?_ | apply ai_seq | apply ai_regW)
 have hk2 : ∀ k,k ≠ R → g2.get k = h.get k := fun k hk => (m2 k hk).trans (m1 k hk)
 have a2 : RgA g2 R j bs { r with window := w,n := bksF w r.grain } :=
  ⟨by omega,by omega,⟨s,k2,hs.keep fun e => hk2 j e⟩,fun p hp' => ⟨(hk2 p.1 (hp p hp').2.2.1).trans (hp p hp').1,by have := (hp p hp').2.1; omega,(hp p hp').2.2⟩,hnd,hv⟩
 refine w_call rfl ((forget_ok g2 a2 (by dsimp only; omega) (fun c hc => by have := b.b c hc; omega) (by have := b.nw; dsimp only; omega)).mono ?_)
 rintro v g3 ⟨a3,hn3,hk3⟩
 repeat (first | apply sS | apply sE | refine w_mv rfl ?_ | apply ai_seq | apply ai_regW | (apply ai_ret; repeat (first | rw [thenQ_r] | rw [blockQ_r] | rw [roundE_r])))
 refine end_one rfl ⟨⟨j,_,a3,.inl s1,.inl s2,fun p hp' => .inl (s3 p (List.mem_filter.1 hp').1)⟩,by omega,fun k hk hnS => ?_⟩
 have e1 : k ≠ R := fun e => hnS (e ▸ s1)
 have e2 : k ≠ j := fun e => hnS (e ▸ s2)
 exact (hk3 k (by omega) e2 e1).trans (hk2 k e1)
abbrev I3 := Int × Int × Int
def v3 (x : I3) : List Value := [nI x.1,nI x.2.1,nI x.2.2]
def rT (l : List I3) : List (List Value) := l.map v3
theorem rT_len (l : List I3) : (rT l).length = l.length := by simp [rT]
theorem rT_get {l : List I3} {i : Nat} {a : I3} (h : l[i]? = some a) : (rT l)[i]? = some (v3 a) := by simp [rT,h]
theorem rT_app (l m : List I3) : rT (l ++ m) = rT l ++ rT m := by simp [rT]
def okS (x : I3) : Prop := 0 ≤ x.1 ∧ 0 ≤ x.2.1 ∧ 0 ≤ x.2.2 ∧ x.2.2 ≤ 9223372036854775807
theorem smay_ok (h : Hp) {x : I3} (hx : okS x) : ACall PX 197 [.iface 163 (.agg ⟨v3 x⟩),nI 0] h (fun v g => v = .bool true ∧ Ext h g) := by
 obtain ⟨h0,h1,h2,h3⟩ := hx
 refine acallA Tryz.func197 c197 ?_
 unfold ir197
 dsimp only [qo,qm,qk,q2,qi,qg,qn,qc,dq,ci,cb,qh,qs]
 repeat (first | apply sS | apply sE | refine w_mv rfl ?_ | (refine is_okn rfl ?_; refine w_op rfl ?_) | refine w_ext rfl rfl ?_ | apply ai_seq | apply ai_regW)
 refine w_new fun g1 x1 k1 n1 => ?_
 repeat (first | apply sSn)
 refine w_stN rfl rfl k1 rfl rfl fun g2 m2 k2 n2 => ?_
 repeat (first | apply sS | apply sE | refine w_mv rfl ?_ | refine w_pickT rfl ?_ | (refine is_okk rfl ?_; refine w_op rfl ?_) | refine w_gT rfl rfl ?_ | (apply is_ld; refine w_ldA rfl ?_) | (apply is_bin; refine w_cT rfl ?_) | apply ai_seq | apply ai_regW | (apply ai_ret; repeat (first | rw [thenQ_r] | rw [blockQ_r] | rw [roundE_r])))
 exact end_one rfl ⟨rfl,x1.own m2 n2⟩
def sumF (l : List I3) : Int := l.foldl (fun a x => (mAdd a x.2.2).1) 0
theorem sumF_take {l : List I3} {i : Nat} {a : I3} (ha : l[i]? = some a) : sumF (l.take (i + 1)) = (mAdd (sumF (l.take i)) a.2.2).1 := by
 obtain ⟨h1,rfl⟩ := List.getElem?_eq_some_iff.1 ha
 unfold sumF
 rw [List.take_succ_eq_append_getElem h1,List.foldl_append]
 rfl
theorem mAdd_nn {a b : Int} (ha : 0 ≤ a ∧ a ≤ 9223372036854775807) (hb : 0 ≤ b ∧ b ≤ 9223372036854775807) : 0 ≤ (mAdd a b).1 ∧ (mAdd a b).1 ≤ 9223372036854775807 := by
 unfold mAdd endF
 by_cases q : (0 < b ∧ 9223372036854775807 - b < a) ∨ (b < 0 ∧ a < -9223372036854775808 - b)
 ·rw [if_pos q,if_pos (by simp; omega)]
  dsimp only; omega
 ·rw [if_neg q]
  dsimp only; omega
theorem sumF_bd {l : List I3} (h : ∀ x ∈ l,okS x) : 0 ≤ sumF l ∧ sumF l ≤ 9223372036854775807 := by
 have key : ∀ (l : List I3) (a : Int),(0 ≤ a ∧ a ≤ 9223372036854775807) → (∀ x ∈ l,okS x) → 0 ≤ l.foldl (fun a x => (mAdd a x.2.2).1) a ∧ l.foldl (fun a x => (mAdd a x.2.2).1) a ≤ 9223372036854775807 := by
  intro l
  induction l with
  | nil => intro a ha _; exact ha
  | cons x l ih => intro a ha h; exact ih _ (mAdd_nn ha ⟨(h x (by simp)).2.2.1,(h x (by simp)).2.2.2⟩) fun y hy => h y (by simp [hy])
 exact key l 0 (by omega) h
theorem total_ok (h : Hp) {s : Value} {l : List I3} (r : RR 3 h s (rT l)) (hl : l.length ≤ 1000000) (hx : ∀ x ∈ l,okS x) : ACall PX 166 [s,nI 0] h (fun v g => (∃ code,v = .tuple #[nI (sumF l),nI l.length,nI code]) ∧ Ext h g) := by
 obtain ⟨x,c,e⟩ := r.len
 rw [rT_len] at e
 subst e
 refine acallA Tryz.func166 c166 ?_
 unfold ir166
 dsimp only [qo,qm,qk,q2,qi,qg,qn,qc,dq,ci,cb,qh,qs]
 repeat (first | apply sS | apply sE | refine w_mv rfl ?_ | (refine is_okk rfl ?_; refine w_op rfl ?_) | apply ai_seq | apply ai_regW | apply ai_block)
 refine ai_loopE (γ := Nat × Int) (fun e => [(1,nI 0),(14,.slice x l.length c),(15,nI l.length),(16,nI e.1),(7,nI (sumF (l.take e.1))),(8,nI e.1),(9,nI e.2)])
  (fun e g => Ext h g ∧ e.1 ≤ l.length) (fun e => l.length - e.1) (0,0) leX ⟨Ext.refl _,Nat.zero_le _⟩ ?_
 rintro ⟨i,code⟩ g1 ⟨x1,hi⟩
 dsimp only at hi
 by_cases hil : i < l.length
 ·obtain ⟨a,ha⟩ : ∃ a,l[i]? = some a := ⟨_,List.getElem?_eq_getElem hil⟩
  have hok := hx a (List.mem_of_getElem? ha)
  have hsb := sumF_bd (l := l.take i) fun y hy => hx y (List.mem_of_mem_take hy)
  obtain ⟨bi,bo,bs,rfl,_,hr⟩ := (r.ext x1).at (rT_get ha)
  repeat (first | apply sS | apply sE | (apply is_ldn; refine w_ldnA rfl ?_) | (apply is_bin; refine w_cT rfl ?_) | (apply is_iad; refine w_iadA rfl ?_) | apply ai_seq | apply ai_regW | refine ai_cT rfl ?_ | apply ai_skip | apply ai_block)
  refine w_new fun g2 x2 k2 n2 => ?_
  repeat (first | apply sSn)
  refine w_stN rfl rfl k2 rfl rfl fun g3 m3 k3 n3 => ?_
  have x3 := x2.own m3 n3
  repeat (first | apply sS | apply sE | refine w_mv rfl ?_ | (refine is_okn rfl ?_; refine w_op rfl ?_) | (apply is_ldn; refine w_ldnA rfl ?_) | apply ai_seq | apply ai_regW)
  refine w_call rfl ((smay_ok _ hok).mono ?_)
  rintro _ g4 ⟨rfl,x4⟩
  have k4 := (x4.2 _ (by rw [n3]; exact n2)).trans k3
  have l1 : L64 (sumF (l.take i)) := ⟨by omega,hsb.2⟩
  have l2 : L64 a.2.2 := ⟨by have := hok.2.2.1; omega,hok.2.2.2⟩
  repeat (first | apply sS | apply sE | refine w_mv rfl ?_ | (refine is_okn rfl ?_; refine w_op rfl ?_) | refine w_ext rfl rfl ?_ | (apply is_ld; refine w_ldA rfl ?_) | (apply is_bin; refine w_addA rfl ?_) | refine w_max rfl ?_ | (refine w_callE ((madd_ok _ l1 l2).mono ?_) rfl rfl; rintro _ _ ⟨rfl,rfl⟩) | apply ai_seq | apply ai_regW | refine ai_cF rfl ?_ | apply ai_skip)
  exact ⟨(i + 1,max code (mAdd (sumF (l.take i)) a.2.2).2),by dsimp only; rw [sumF_take ha]; exact leX,⟨(x1.trans x3).trans x4,by omega⟩,by dsimp only; omega⟩
 ·have e : i = l.length := by omega
  subst e
  rw [List.take_length]
  repeat (first | apply sS | apply sE | refine w_mv rfl ?_ | (apply is_bin; refine w_cF rfl ?_) | apply ai_seq | apply ai_regW | refine ai_cF rfl ?_ | apply ai_exit | (apply ai_ret; repeat (first | rw [thenQ_r] | rw [blockQ_r] | rw [roundE_r])))
  exact ⟨_,rfl,⟨code,rfl⟩,x1⟩
theorem sold_ok (h : Hp) {s : Value} {l : List I3} (r : RR 3 h s (rT l)) (hl : l.length ≤ 1000000) (hx : ∀ x ∈ l,okS x) : ACall PX 135 [s,nI 0] h (fun v g => (∃ code,v = .tuple #[nI (sumF l),nI l.length,nI code]) ∧ Ext h g) := by
 refine acallA Tryz.func135 c135 ?_
 unfold ir135
 dsimp only [qo,qm,qk,q2,qi,qg,qn,qc,dq,ci,cb,qh,qs]
 repeat (first | apply sS | apply sE | refine w_mv rfl ?_ | apply ai_seq | apply ai_regW)
 refine w_call rfl ((total_ok _ r hl hx).mono ?_)
 rintro _ g1 ⟨⟨code,rfl⟩,x1⟩
 by_cases q : l.length = 0
 ·repeat (first | apply sS | apply sE | refine w_mv rfl ?_ | refine w_ext rfl rfl ?_ | (apply is_bin; refine w_cT rfl ?_) | apply ai_seq | apply ai_regW | refine ai_cT rfl ?_)
  refine w_call rfl ((total_ok _ (r.ext x1) hl hx).mono ?_)
  rintro _ g2 ⟨⟨code2,rfl⟩,x2⟩
  repeat (first | apply sS | apply sE | refine w_mv rfl ?_ | refine w_ext rfl rfl ?_ | (apply ai_ret; repeat (first | rw [thenQ_r] | rw [blockQ_r] | rw [roundE_r])))
  exact ⟨_,rfl,⟨code2,rfl⟩,x1.trans x2⟩
 ·repeat (first | apply sS | apply sE | refine w_mv rfl ?_ | refine w_ext rfl rfl ?_ | (apply is_bin; refine w_cF rfl ?_) | apply ai_seq | apply ai_regW | refine ai_cF rfl ?_ | apply ai_skip | (apply ai_ret; repeat (first | rw [thenQ_r] | rw [blockQ_r] | rw [roundE_r])))
  exact ⟨_,rfl,⟨code,rfl⟩,x1⟩
theorem spread_ok (h : Hp) {s : Value} {l : List I3} (r : RR 3 h s (rT l)) (hl : l.length ≤ 1000000) (hx : ∀ x ∈ l,okS x) {ready : Int} (hr : 0 ≤ ready ∧ ready ≤ 1000000) : ACall PX 96 [s,nI 0,nI ready] h (fun v g => (∃ code,v = .tuple #[nI (spreadF l ready),nI code]) ∧ Ext h g) := by
 have hsb := sumF_bd hx
 have e : spreadF l ready = if l.length = 0 then 0 else (if 9223372036854775807 < sumF l * ready then 9223372036854775807 else sumF l * ready) / (l.length : Int) := rfl
 rw [e]
 have h0 : 0 ≤ sumF l * ready := Int.mul_nonneg (by omega) (by omega)
 refine acallA Tryz.func96 c96 ?_
 unfold ir96
 dsimp only [qo,qm,qk,q2,qi,qg,qn,qc,dq,ci,cb,qh,qs]
 repeat (first | apply sS | apply sE | refine w_mv rfl ?_ | apply ai_seq | apply ai_regW)
 refine w_call rfl ((sold_ok _ r hl hx).mono ?_)
 rintro _ g1 ⟨⟨code,rfl⟩,x1⟩
 by_cases q : l.length = 0
 ·rw [if_pos q]
  repeat (first | apply sS | apply sE | refine w_mv rfl ?_ | refine w_ext rfl rfl ?_ | (apply is_bin; refine w_cT rfl ?_) | apply ai_seq | apply ai_regW | refine ai_cT rfl ?_ | apply ai_block | (apply ai_ret; repeat (first | rw [thenQ_r] | rw [blockQ_r] | rw [roundE_r])))
  exact ⟨_,rfl,⟨_,rfl⟩,x1⟩
 ·rw [if_neg q]
  repeat (first | apply sS | apply sE | refine w_mv rfl ?_ | refine w_ext rfl rfl ?_ | (refine w_cu rfl ?_ ?_; (focus omega)) | (apply is_bin; refine w_cF rfl ?_) | apply ai_seq | apply ai_regW | refine ai_cF rfl ?_ | apply ai_skip | apply ai_block)
  refine w_call rfl ((mul64_br _ (by omega) (by omega)).mono ?_)
  rintro _ _ ⟨rfl,rfl⟩
  generalize sumF l * ready = p at h0 ⊢
  have hp := Int.mul_ediv_add_emod p 18446744073709551616
  by_cases q2 : 9223372036854775807 < p
  ·rw [if_pos q2]
   by_cases q3 : 0 < p / 18446744073709551616
   ·repeat (first | apply sS | apply sE | refine w_mv rfl ?_ | refine w_pickT rfl ?_ | refine w_ext rfl rfl ?_ | refine w_gF rfl rfl ?_ | (refine w_ci rfl ?_ ?_; (focus omega)) | (apply is_bin; refine w_cT rfl ?_) | (refine w_quo rfl ?_ ?_ ?_; (focus omega); (focus omega)) | apply ai_seq | apply ai_regW | refine ai_cT rfl ?_ | (apply ai_ret; repeat (first | rw [thenQ_r] | rw [blockQ_r] | rw [roundE_r])))
    exact ⟨_,rfl,⟨_,rfl⟩,x1⟩
   ·have e1 : p / 18446744073709551616 = 0 := by omega
    have e2 : p % 18446744073709551616 = p := by omega
    rw [e1,e2]
    repeat (first | apply sS | apply sE | refine w_mv rfl ?_ | refine w_pickF rfl ?_ | refine w_ext rfl rfl ?_ | refine w_gT rfl rfl ?_ | (refine w_ci rfl ?_ ?_; (focus omega)) | (apply is_bin; refine w_cT rfl ?_) | (apply is_bin; refine w_cF rfl ?_) | (refine w_quo rfl ?_ ?_ ?_; (focus omega); (focus omega)) | apply ai_seq | apply ai_regW | refine ai_cT rfl ?_ | (apply ai_ret; repeat (first | rw [thenQ_r] | rw [blockQ_r] | rw [roundE_r])))
    exact ⟨_,rfl,⟨_,rfl⟩,x1⟩
  ·rw [if_neg q2]
   have e1 : p / 18446744073709551616 = 0 := by omega
   have e2 : p % 18446744073709551616 = p := by omega
   rw [e1,e2]
   repeat (first | apply sS | apply sE | refine w_mv rfl ?_ | refine w_pickF rfl ?_ | refine w_ext rfl rfl ?_ | refine w_gT rfl rfl ?_ | (refine w_ci rfl ?_ ?_; (focus omega)) | (apply is_bin; refine w_cF rfl ?_) | (refine w_quo rfl ?_ ?_ ?_; (focus omega); (focus omega)) | apply ai_seq | apply ai_regW | refine ai_cF rfl ?_ | apply ai_skip | (apply ai_ret; repeat (first | rw [thenQ_r] | rw [blockQ_r] | rw [roundE_r])))
   exact ⟨_,rfl,⟨_,rfl⟩,x1⟩
def updB (v : Int) (b : Bk) : Bk := ⟨b.at_,(mAdd b.sum v).1,b.n + 1,b.cut || decide ((mAdd b.sum v).2 ≠ 0)⟩
theorem putB_some {at_ v : Int} : ∀ {l : List Bk} {k : Nat} {b : Bk},l.findIdx (fun b => decide (b.at_ = at_)) = k → l[k]? = some b → putB at_ v l = l.set k (updB v b)
 | [],k,b,_,h => by simp at h
 | c :: l,k,b,h,hb => by
  rw [List.findIdx_cons] at h
  by_cases q : c.at_ = at_
  ·simp only [q,decide_true,cond_true] at h
   subst h
   simp only [putB,if_pos q]
   simp at hb
   subst hb
   rfl
  ·simp only [q,decide_false,cond_false] at h
   subst h
   simp only [putB,if_neg q]
   rw [putB_some rfl (by simpa using hb)]
   rfl
theorem putB_none {at_ v : Int} : ∀ {l : List Bk},¬ l.findIdx (fun b => decide (b.at_ = at_)) < l.length → putB at_ v l = l ++ [updB v ⟨at_,0,0,false⟩]
 | [],_ => rfl
 | c :: l,h => by
  rw [List.findIdx_cons] at h
  by_cases q : c.at_ = at_
  ·simp [q] at h
  ·simp only [q,decide_false,cond_false,List.length_cons] at h
   simp only [putB,if_neg q,List.cons_append]
   rw [putB_none (by omega)]
theorem pat_ok (h : Hp) {A p : Nat} {b : Bk} {at_ : Int} (hA : h.get A = some ⟨[nI at_],true,0⟩) (hp : h.get p = some ⟨bkV b,true,0⟩) : ACall PX 165 [bE p,ptr A] h (fun v g => v = .bool (decide (b.at_ = at_)) ∧ h = g) := by
 refine acallA Tryz.func165 c165 ?_
 unfold ir165
 dsimp only [qo,qm,qk,q2,qi,qg,qn,qc,dq,ci,cb,qh,qs]
 by_cases q : b.at_ = at_
 ·rw [decide_eq_true q]
  repeat (first | apply sS | apply dS | apply sE | apply dE | refine w_mv rfl ?_ | (refine is_okn rfl ?_; refine w_op rfl ?_) | (apply is_ld; refine w_ldA rfl ?_) | (apply is_bin; refine w_cT rfl ?_) | apply ai_seq | apply ai_regW | refine ai_drwW (by kernel_rfl) ?_ | (apply ai_ret; repeat (first | rw [thenQ_r] | rw [blockQ_r] | rw [roundE_r])))
  exact end_one rfl ⟨rfl,rfl⟩
 ·rw [decide_eq_false q]
  repeat (first | apply sS | apply dS | apply sE | apply dE | refine w_mv rfl ?_ | (refine is_okn rfl ?_; refine w_op rfl ?_) | (apply is_ld; refine w_ldA rfl ?_) | (apply is_bin; refine w_cF rfl ?_) | apply ai_seq | apply ai_regW | refine ai_drwW (by kernel_rfl) ?_ | (apply ai_ret; repeat (first | rw [thenQ_r] | rw [blockQ_r] | rw [roundE_r])))
  exact end_one rfl ⟨rfl,rfl⟩
theorem RgA.set {h : Hp} {R j : Nat} {bs : List (Nat × Bk)} {r : Rg} (a : RgA h R j bs r) {i : Nat} {p : Nat × Bk} (hi : bs[i]? = some p) (v : Bk) {h' : Hp} (hn : h'.nx = h.nx) (hk : ∀ k,k ≠ p.1 → h'.get k = h.get k) (hv : h'.get p.1 = some ⟨bkV v,true,0⟩) :
  RgA h' R j (bs.set i (p.1,v)) { r with l := r.l.set i v } := by
 obtain ⟨hR,hj,⟨s,hg,hs⟩,hp,hnd,hl⟩ := a
 have hpm := hp p (List.mem_of_getElem? hi)
 obtain ⟨hil,hie⟩ := List.getElem?_eq_some_iff.1 hi
 have hfst : (bs.set i (p.1,v)).map (·.1) = bs.map (·.1) := by
  rw [List.map_set]
  refine List.ext_getElem (by simp) fun k h1 h2 => ?_
  rw [List.getElem_set]
  split
  ·next e => subst e; simp [hie]
  ·rfl
 have e1 : (bs.set i (p.1,v)).map (fun p => bE p.1) = bs.map fun p => bE p.1 := by
  rw [List.map_set]
  refine List.ext_getElem (by simp) fun k h1 h2 => ?_
  rw [List.getElem_set]
  split
  ·next h => subst h; simp [hie]
  ·rfl
 refine ⟨by omega,by omega,⟨s,(hk R fun e => hpm.2.2.1 e.symm).trans hg,?_⟩,fun q hq => ?_,by rw [hfst]; exact hnd,?_⟩
 ·rw [e1]
  exact hs.keep fun _ => hk j fun e => hpm.2.2.2 e.symm
 ·obtain ⟨k,hkl,rfl⟩ := List.getElem_of_mem hq
  rw [List.length_set] at hkl
  rw [List.getElem_set]
  split
  ·exact ⟨hv,by have := hpm.2.1; dsimp only; omega,hpm.2.2⟩
  ·next hne =>
   have hq := hp bs[k] (List.getElem_mem _)
   have hd : bs[k].1 ≠ p.1 := by
    intro e
    have h1 := (List.nodup_iff_pairwise_ne.1 hnd)
    have h2 := List.pairwise_iff_getElem.1 h1
    have hi2 : p.1 = (bs.map (·.1))[i]'(by simpa using hil) := by simp [hie]
    have hk2 : bs[k].1 = (bs.map (·.1))[k]'(by simpa using hkl) := by simp
    rcases Nat.lt_or_gt_of_ne hne with h | h
    ·exact h2 i k (by simpa using hil) (by simpa using hkl) h (by rw [← hi2,← hk2,e])
    ·exact h2 k i (by simpa using hkl) (by simpa using hil) h (by rw [← hi2,← hk2,e])
   exact ⟨(hk _ hd).trans hq.1,by omega,hq.2.2⟩
 ·show _ = r.l.set i v
  rw [← hl,List.map_set]
theorem putB_bd {at_ v T : Int} (hat : 0 ≤ at_ ∧ at_ ≤ T) (hv : 0 ≤ v ∧ v ≤ 9223372036854775807) : ∀ {l : List Bk},(∀ b ∈ l,0 ≤ b.at_ ∧ b.at_ ≤ T ∧ 0 ≤ b.sum ∧ b.sum ≤ 9223372036854775807 ∧ 1 ≤ b.n) →
  (∀ b ∈ putB at_ v l,0 ≤ b.at_ ∧ b.at_ ≤ T ∧ 0 ≤ b.sum ∧ b.sum ≤ 9223372036854775807 ∧ 1 ≤ b.n) ∧ ((putB at_ v l).map fun b => b.n).sum = (l.map fun b => b.n).sum + 1
 | [],_ => by
  have h1 := mAdd_nn (a := 0) (b := v) (by omega) hv
  refine ⟨fun b hb => ?_,rfl⟩
  simp only [putB,List.mem_singleton] at hb
  subst hb
  exact ⟨hat.1,hat.2,h1.1,h1.2,by show (1 : Int) ≤ 1; decide⟩
 | c :: l,h => by
  have hc := h c (by simp)
  by_cases q : c.at_ = at_
  ·have h1 := mAdd_nn (a := c.sum) (b := v) ⟨hc.2.2.1,hc.2.2.2.1⟩ hv
   simp only [putB,if_pos q]
   refine ⟨fun b hb => ?_,by simp only [List.map_cons,List.sum_cons]; omega⟩
   rcases List.mem_cons.1 hb with rfl | hb
   ·exact ⟨hc.1,hc.2.1,h1.1,h1.2,by dsimp only; omega⟩
   ·exact h b (by simp [hb])
  ·have ih := putB_bd hat hv (l := l) fun b hb => h b (by simp [hb])
   simp only [putB,if_neg q]
   refine ⟨fun b hb => ?_,by simp only [List.map_cons,List.sum_cons,ih.2]; omega⟩
   rcases List.mem_cons.1 hb with rfl | hb
   ·exact hc
   ·exact ih.1 b hb
theorem RgB.put {r : Rg} {T t v : Int} (b : RgB r T) (hT : 0 ≤ T) (ht : t = T + 1) (h0 : t ≤ 1099511627776) (hv : 0 ≤ v ∧ v ≤ 9223372036854775807) : RgB (rgPut r t v) t := by
 have hg := b.g
 have hat : 0 ≤ t / r.grain ∧ t / r.grain ≤ t := ⟨Int.ediv_nonneg (by omega) (by omega),Int.ediv_le_self _ (by omega)⟩
 unfold rgPut
 rw [if_neg (by omega)]
 have hnw := b.nw
 have hf : ∀ c ∈ forgF (max r.newest (t / r.grain)) r.n r.l,0 ≤ c.at_ ∧ c.at_ ≤ t ∧ 0 ≤ c.sum ∧ c.sum ≤ 9223372036854775807 ∧ 1 ≤ c.n := fun c hc => by
  have := b.b c (List.mem_filter.1 hc).1
  omega
 have hs : ((forgF (max r.newest (t / r.grain)) r.n r.l).map fun b => b.n).sum ≤ T := Int.le_trans (sum_filter _ fun c hc => (b.b c hc).2.2.2.2) b.s
 split
 ·exact ⟨b.w,b.g,b.n,by dsimp only; omega,hf,by dsimp only; omega⟩
 ·have hp := putB_bd hat hv hf
  exact ⟨b.w,b.g,b.n,by dsimp only; omega,hp.1,by dsimp only; rw [hp.2]; omega⟩
theorem RgB.mono {r : Rg} {T T' : Int} (b : RgB r T) (h : T ≤ T') : RgB r T' :=
 ⟨b.w,b.g,b.n,by have := b.nw; omega,fun c hc => by have := b.b c hc; omega,Int.le_trans b.s h⟩
theorem fi_congr {α : Type} {p q : α → Bool} : ∀ {l : List α},(∀ x ∈ l,p x = q x) → l.findIdx p = l.findIdx q
 | [],_ => rfl
 | a :: l,h => by rw [List.findIdx_cons,List.findIdx_cons,h a (by simp),fi_congr fun x hx => h x (by simp [hx])]
theorem bE_q {bs : List (Nat × Bk)} (hnd : (bs.map (·.1)).Nodup) (f : Bk → Bool) : ∃ q : Value → Bool,∀ p ∈ bs,q (bE p.1) = f p.2 := by
 have hfind : ∀ p ∈ bs,∀ p' ∈ bs,p.1 = p'.1 → p = p' := by
  intro p hp p' hp' e
  obtain ⟨i,hi,rfl⟩ := List.getElem_of_mem hp
  obtain ⟨i',hi',rfl⟩ := List.getElem_of_mem hp'
  have := (List.getElem_inj (i := i) (j := i') (h₀ := by simpa using hi) (h₁ := by simpa using hi') hnd).1 (by simpa using e)
  subst this; rfl
 refine ⟨fun u => @decide (∃ p ∈ bs,u = bE p.1 ∧ f p.2 = true) (Classical.propDecidable _),fun p hp => ?_⟩
 rw [Bool.eq_iff_iff]
 simp only [decide_eq_true_eq]
 constructor
 ·rintro ⟨p',hp',e,hn'⟩
  have e' : p.1 = p'.1 := by simpa [bE] using e
  rw [hfind p hp p' hp' e']
  exact hn'
 ·exact fun hd => ⟨p,hp,rfl,hd⟩
theorem bE_ix {bs : List (Nat × Bk)} {q : Value → Bool} {f : Bk → Bool} (hq : ∀ p ∈ bs,q (bE p.1) = f p.2) : (bs.map fun p => bE p.1).findIdx q = (bs.map (·.2)).findIdx f := by
 rw [List.findIdx_map,List.findIdx_map]
 exact fi_congr fun p hp => hq p hp
theorem n_le_sum : ∀ {l : List Bk},(∀ b ∈ l,1 ≤ b.n) → ∀ c ∈ l,c.n ≤ (l.map fun b => b.n).sum
 | [],_,c,hc => by cases hc
 | b :: l,h,c,hc => by
  have h1 := h b (by simp)
  have h0 := sum_len (l := l) fun c hc => h c (by simp [hc])
  simp only [List.map_cons,List.sum_cons]
  rcases List.mem_cons.1 hc with rfl | hc
  ·omega
  ·have := n_le_sum (l := l) (fun c hc => h c (by simp [hc])) c hc
   omega
theorem RgA.ext {h h' : Hp} {R j : Nat} {bs : List (Nat × Bk)} {r : Rg} (a : RgA h R j bs r) (x : Ext h h') : RgA h' R j bs r := by
 obtain ⟨hR,hj,⟨s,hg,hs⟩,hp,hnd,hl⟩ := a
 have := x.1
 exact ⟨by omega,by omega,⟨s,(x.2 R hR).trans hg,hs.ext hj x⟩,fun p hp' => ⟨(x.2 _ (hp p hp').2.1).trans (hp p hp').1,by have := (hp p hp').2.1; omega,(hp p hp').2.2⟩,hnd,hl⟩
theorem RgA.push {h h' : Hp} {R j j' p : Nat} {bs : List (Nat × Bk)} {r : Rg} {b : Bk} {s : Value} (a : RgA h R j bs r) (hn : h.nx ≤ h'.nx) (hj' : j' < h'.nx) (hp1 : h.nx ≤ p) (hp2 : p < h'.nx) (hpj : p ≠ j') (hjj : j' = j ∨ h.nx ≤ j') (hk : ∀ k,k < h.nx → k ≠ R → (k ≠ j ∨ j = R) → h'.get k = h.get k) (hr : h'.get R = some ⟨rgV s r,true,0⟩) (lr : LR h' R j' s ((bs.map fun p => bE p.1) ++ [bE p])) (hb : h'.get p = some ⟨bkV b,true,0⟩) :
  RgA h' R j' (bs ++ [(p,b)]) { r with l := r.l ++ [b] } := by
 obtain ⟨hR,hj,⟨s0,hg,hs⟩,hp,hnd,hl⟩ := a
 refine ⟨by omega,hj',⟨s,hr,by rw [List.map_append]; exact lr⟩,fun q hq => ?_,?_,by rw [List.map_append,hl]; rfl⟩
 ·rcases List.mem_append.1 hq with hq | hq
  ·have h1 := hp q hq
   refine ⟨(hk q.1 h1.2.1 h1.2.2.1 (.inl h1.2.2.2)).trans h1.1,by omega,h1.2.2.1,?_⟩
   rcases hjj with rfl | hjj
   ·exact h1.2.2.2
   ·omega
  ·rw [List.mem_singleton.1 hq]
   exact ⟨hb,hp2,by dsimp only; omega,hpj⟩
 ·rw [List.map_append,List.nodup_append]
  refine ⟨hnd,by simp,fun x hx y hy => ?_⟩
  obtain ⟨q,hq,rfl⟩ := List.mem_map.1 hx
  have := (hp q hq).2.1
  simp at hy
  omega
set_option maxHeartbeats 1000000 in
theorem rgput_ok (h : Hp) {S : Ft} {R : Nat} {r : Rg} {T t v : Int} (a : RgF h S R r) (b : RgB r T) (hT : 0 ≤ T) (ht : t = T + 1) (h0 : t ≤ 1099511627776) (hv : 0 ≤ v ∧ v ≤ 9223372036854775807) :
  ACall PX 133 [ptr R,nI t,nI v] h (fun x g => (∃ c,x = nI c) ∧ RgF g (Up S h g) R (rgPut r t v) ∧ FrP S h g) := by
 obtain ⟨j,bs,a,s1,s2,s3⟩ := a
 have hg := b.g
 have hnb := b.nb
 have hlen := b.len
 have hnw := b.nw
 have hat : 0 ≤ t / r.grain ∧ t / r.grain ≤ t := ⟨Int.ediv_nonneg (by omega) (by omega),Int.ediv_le_self _ (by omega)⟩
 unfold rgPut
 rw [if_neg (by omega)]
 obtain ⟨hR,hj,⟨s,hgR,hs⟩,hp,hnd,hl⟩ := a
 refine acallA Tryz.func133 c133 ?_
 unfold ir133
 dsimp only [qo,qm,qk,q2,qi,qg,qn,qc,dq,ci,cb,qh,qs]
 repeat (first | apply sS | apply sE | refine w_mv rfl ?_ | refine w_pickF rfl ?_ | (refine is_okn rfl ?_; refine w_op rfl ?_) | refine w_gT rfl rfl ?_ | (apply is_ld; refine w_ldA rfl ?_) | (apply is_bin; refine w_cF rfl ?_) | (refine w_quo rfl ?_ ?_ ?_; (focus omega); (focus omega)) | apply ai_seq | apply ai_regW | refine ai_cF rfl ?_ | apply ai_skip | apply ai_block)
 refine w_new fun g1 x1 k1 n1 => ?_
 have R1 := (x1.2 R hR).trans hgR
 repeat (first | apply sSn)
 generalize t / r.grain = at_ at hat ⊢
 refine w_stN rfl rfl k1 rfl rfl fun g2 m2 k2 n2 => ?_
 have R2 := (m2 R (by omega)).trans R1
 repeat (first | apply dS | apply dSn | apply sE | refine w_mv rfl ?_ | (refine is_okn rfl ?_; refine w_op rfl ?_) | (apply is_ld; refine w_ldA rfl ?_) | refine w_max rfl ?_ | apply ai_seq | refine ai_drwW (by kernel_rfl) ?_)
 refine w_st1 rfl rfl R2 (by show 4 < 6; decide) rfl fun g3 m3 k3 n3 => ?_
 have A3 := (m3 h.nx (by omega)).trans k2
 have hk3 : ∀ k,k < h.nx → k ≠ R → g3.get k = h.get k := fun k hk e => (m3 k e).trans ((m2 k (by omega)).trans (x1.2 k hk))
 have hn3 : g3.nx = g1.nx := by omega
 have a3 : RgA g3 R j bs { r with newest := max r.newest at_ } := by
  have h13 := x1.1
  refine ⟨by omega,by omega,⟨s,k3,hs.keep fun e => hk3 j hj e⟩,fun p hp' => ⟨(hk3 p.1 (hp p hp').2.1 (hp p hp').2.2.1).trans (hp p hp').1,by have := (hp p hp').2.1; omega,(hp p hp').2.2⟩,hnd,hl⟩
 repeat (first | apply sS | apply dE | refine w_mv rfl ?_ | apply ai_seq | apply ai_regW)
 refine w_call rfl ((forget_ok g3 a3 (by dsimp only; omega) (fun c hc => by have := b.b c hc; omega) (by dsimp only; omega)).mono ?_)
 dsimp only
 rintro _ g4 ⟨a4,hn4,hk4⟩
 have h13 := x1.1
 have A4 := (hk4 h.nx (by omega) (by omega) (by omega)).trans A3
 have hk4' : ∀ k,k < h.nx → k ≠ j → k ≠ R → g4.get k = h.get k := fun k hk e1 e2 => (hk4 k (by omega) e1 e2).trans (hk3 k hk e2)
 have a4' := a4
 obtain ⟨hR4,hj4,⟨s4,hg4,hs4⟩,hp4,hnd4,hl4⟩ := a4
 replace hg4 : g4.get R = some ⟨[s4,nI r.window,nI r.grain,nI r.n,nI (max r.newest at_),.bool r.over],true,0⟩ := hg4
 have fr4 : FrP S h g4 := ⟨by omega,fun k hk hnS => hk4' k hk (fun e => hnS (e ▸ s2)) fun e => hnS (e ▸ s1)⟩
 repeat (first | apply dS | apply sE | refine w_mv rfl ?_ | (refine is_okn rfl ?_; refine w_op rfl ?_) | (apply is_ld; refine w_ldA rfl ?_) | (apply is_bin; refine w_subA rfl ?_) | apply ai_seq | refine ai_drwW (by kernel_rfl) ?_)
 by_cases q1 : r.n ≤ max r.newest at_ - at_
 ·rw [if_pos q1]
  repeat (first | apply sS | apply sE | apply dE | refine w_mv rfl ?_ | (apply is_bin; refine w_cT rfl ?_) | apply ai_seq | apply ai_regW | refine ai_cT rfl ?_ | (apply ai_ret; repeat (first | rw [thenQ_r] | rw [blockQ_r] | rw [roundE_r])))
  exact end_one rfl ⟨⟨_,rfl⟩,⟨j,_,a4',.inl s1,.inl s2,fun p hp' => .inl (s3 p (List.mem_filter.1 hp').1)⟩,fr4⟩
 rw [if_neg q1]
 have hlen4 : (forgF (max r.newest at_) r.n r.l).length ≤ 1099511627776 := by
  have := forg_le (max r.newest at_) r.n r.l
  omega
 dsimp only at hl4
 have s34 : ∀ p ∈ (bs.filter fun p => decide (max r.newest at_ - p.2.at_ < r.n)),S p.1 := fun p hp' => s3 p (List.mem_filter.1 hp').1
 generalize (bs.filter fun p => decide (max r.newest at_ - p.2.at_ < r.n)) = bs4 at *
 have hf4 : ∀ c ∈ forgF (max r.newest at_) r.n r.l,1 ≤ c.n ∧ c.n ≤ 1099511627776 ∧ 0 ≤ c.sum ∧ c.sum ≤ 9223372036854775807 := fun c hc => by
  have hm := (List.mem_filter.1 hc).1
  have h1 := b.b c hm
  have h2 := n_le_sum (fun c hc => (b.b c hc).2.2.2.2) c hm
  have h3 := b.s
  omega
 generalize forgF (max r.newest at_) r.n r.l = l4 at *
 obtain ⟨q,hq⟩ := bE_q hnd4 fun b => decide (b.at_ = at_)
 have hix := bE_ix (f := fun b => decide (b.at_ = at_)) hq
 rw [hl4] at hix
 have hlb : bs4.length = l4.length := by rw [← hl4,List.length_map]
 repeat (first | apply sS | apply dE | refine w_mv rfl ?_ | (refine is_okn rfl ?_; refine w_op rfl ?_) | (apply is_ld; refine w_ldA rfl ?_) | (apply is_bin; refine w_cF rfl ?_) | apply ai_seq | apply ai_regW | refine ai_cF rfl ?_ | apply ai_skip)
 refine w_call rfl ((idxF_ok (f := 165) (caps := [ptr h.nx]) g4 q hs4 hj4 (by rw [List.length_map]; omega) ?_).mono ?_)
 ·intro g xg u hu
  obtain ⟨p,hpm,rfl⟩ := List.mem_map.1 hu
  have h1 := hp4 p hpm
  rw [hq p hpm]
  refine (pat_ok g ((xg.2 _ (by omega)).trans A4) ((xg.2 _ h1.2.1).trans h1.1)).mono ?_
  rintro _ _ ⟨rfl,rfl⟩
  exact ⟨rfl,Ext.refl _⟩
 rintro _ g5 ⟨rfl,x5⟩
 have R5 := (x5.2 R hR4).trans hg4
 have A5 := (x5.2 h.nx (by omega)).trans A4
 have n5 := x5.1
 unfold ixQ
 rw [List.length_map,hix,hlb]
 have fr5 : FrP S h g5 := ⟨by omega,fun k hk hnS => (x5.2 k (by omega)).trans (fr4.2 k hk hnS)⟩
 have a5 := a4'.ext x5
 clear a4'
 repeat (first | apply sS | apply sE | refine w_mv rfl ?_)
 refine ai_join (γ := Nat × Nat × Bk × Nat × List (Nat × Bk)) (fun e => [(0,ptr R),(2,nI v),(8,nI e.1)])
  (fun e g => FrP S h g ∧ (∃ l1,RgA g R e.2.2.2.1 e.2.2.2.2 { r with newest := max r.newest at_,l := l1 } ∧ putB at_ v l4 = l1.set e.1 (updB v e.2.2.1)) ∧ e.2.2.2.2[e.1]? = some (e.2.1,e.2.2.1) ∧ Up S h g e.2.2.2.1 ∧ (∀ p ∈ e.2.2.2.2,Up S h g p.1) ∧ (0 ≤ e.2.2.1.n ∧ e.2.2.1.n ≤ 1099511627776) ∧ 0 ≤ e.2.2.1.sum ∧ e.2.2.1.sum ≤ 9223372036854775807) ?_ ?_
 ·by_cases q2 : l4.findIdx (fun b => decide (b.at_ = at_)) < l4.length
  ·rw [if_pos q2]
   obtain ⟨k,hk⟩ : ∃ k,l4.findIdx (fun b => decide (b.at_ = at_)) = k := ⟨_,rfl⟩
   rw [hk] at q2 ⊢
   have hkb : k < bs4.length := by omega
   have hbk : l4[k]? = some bs4[k].2 := by rw [← hl4,List.getElem?_map,List.getElem?_eq_getElem hkb]; rfl
   have h1 := hf4 _ (List.mem_of_getElem? hbk)
   repeat (first | apply sS | apply sE | refine w_mv rfl ?_ | (apply is_bin; refine w_cF rfl ?_) | apply ai_seq | apply ai_regW | refine ai_cF rfl ?_ | apply ai_skip)
   exact ⟨rfl,(k,bs4[k].1,bs4[k].2,j,bs4),leX,fr5,⟨l4,a5,putB_some hk hbk⟩,List.getElem?_eq_getElem hkb,.inl s2,fun p hp' => .inl (s34 p hp'),by dsimp only; omega,h1.2.2⟩
  ·rw [if_neg q2]
   obtain ⟨x,c,e⟩ := hs4.len
   subst e
   rw [List.length_map] at R5
   have hs5 := hs4.ext hj4 x5
   rw [List.length_map] at hs5
   repeat (first | apply sS | apply dS | apply sE | refine w_mv rfl ?_ | (refine is_okn rfl ?_; refine w_op rfl ?_) | (apply is_ld; refine w_ldA rfl ?_) | (apply is_bin; refine w_cT rfl ?_) | apply ai_seq | apply ai_regW | refine ai_cT rfl ?_ | refine ai_drwW (by kernel_rfl) ?_)
   refine w_op (v := .agg ⟨bkV ⟨at_,0,0,false⟩⟩) (h' := g5) rfl ?_
   repeat (first | apply dSR)
   refine w_box rfl fun g6 x6 k6 n6 => ?_
   have R6 := (x6.2 R (by omega)).trans R5
   repeat (first | apply dS | apply dSR | (apply is_ag; refine agSA ?_) | (refine is_okn rfl ?_; refine w_op rfl ?_))
   refine w_bslF rfl rfl rfl rfl rfl fun g7 x7 k7 n7 => ?_
   have R7 := (x7.2 R (by have := x6.1; omega)).trans R6
   have k67 := (x7.2 _ n6).trans k6
   have x57 := x6.trans x7
   have hs7 := hs5.ext (by omega) x57
   have o6 := x6.1
   have o7 := x7.1
   repeat (first | apply dS | (apply is_ag; refine agSA ?_))
   refine w_pushL rfl hs7 k7 (by omega) (by omega) rfl (by rw [List.length_map]; omega) fun s' g8 j' lr8 hn8 hj8 hjj hk8 hone => ?_
   have hRk : R ≠ j ∨ j = R := by
    by_cases e : j = R
    ·exact .inr e
    ·exact .inl fun e' => e e'.symm
   have R8 := (hk8 R (by omega) hRk).trans R7
   have k68 := (hk8 g5.nx (by omega) (.inl (by omega))).trans k67
   repeat (first | apply dS | apply dSn | (refine is_okn rfl ?_; refine w_op rfl ?_))
   refine w_st1 rfl (one_cells hone) R8 (by show 0 < 6; decide) hone fun g9 m9 k9 n9 => ?_
   repeat (first | apply dE)
   have hj9 : j' ≠ R := by
    rcases lr8 with ⟨_,e⟩ | ⟨_,_,_,_,e⟩
    ·simp at e
    ·exact e
   have a9 : RgA g9 R j' (bs4 ++ [(g5.nx,(⟨at_,0,0,false⟩ : Bk))]) { r with newest := max r.newest at_,l := l4 ++ [⟨at_,0,0,false⟩] } :=
    a5.push (s := s') (by omega) (by omega) (Nat.le_refl _) (by omega) (by omega) (by omega) (fun k hk e1 e2 => (m9 k e1).trans ((hk8 k (by omega) e2).trans (x57.2 k hk))) k9 (lr8.keep fun e => m9 j' e) ((m9 _ (by omega)).trans k68)
   refine ⟨rfl,(bs4.length,g5.nx,⟨at_,0,0,false⟩,j',bs4 ++ [(g5.nx,⟨at_,0,0,false⟩)]),leX,⟨by omega,fun k hk hnS => ?_⟩,⟨_,a9,?_⟩,by simp,?_,fun p hp' => ?_,by dsimp only; omega,by dsimp only; omega⟩
   ·have e1 : k ≠ R := fun e => hnS (e ▸ s1)
    have e2 : k ≠ j := fun e => hnS (e ▸ s2)
    exact (m9 k e1).trans ((hk8 k (by omega) (.inl e2)).trans ((x57.2 k (by omega)).trans (fr5.2 k hk hnS)))
   ·rw [putB_none q2,hlb]
    simp
   ·rcases hjj with rfl | hjj
    ·exact .inl s2
    ·exact .inr ⟨show h.nx ≤ j' by omega,show j' < g9.nx by omega⟩
   ·rcases List.mem_append.1 hp' with hp' | hp'
    ·exact .inl (s34 p hp')
    ·obtain rfl := List.mem_singleton.1 hp'
     exact .inr ⟨show h.nx ≤ g5.nx by omega,show g5.nx < g9.nx by omega⟩
 ·rintro ⟨k,p,c,j1,bs1⟩ g6 ⟨fr6,⟨l1,a6,e6⟩,hk6,u1,u2,hn6,hs6⟩
  dsimp only at a6 e6 hk6 u1 u2 hn6 hs6
  obtain ⟨hR6,hj6,⟨s6,hg6,hs6'⟩,hp6,hnd6,hl6⟩ := id a6
  have h1 := hp6 _ (List.mem_of_getElem? hk6)
  have hP6 : g6.get p = some ⟨[nI c.at_,nI c.sum,nI c.n,.bool c.cut],true,0⟩ := h1.1
  replace hg6 : g6.get R = some ⟨[s6,nI r.window,nI r.grain,nI r.n,nI (max r.newest at_),.bool r.over],true,0⟩ := hg6
  obtain ⟨c6,e,hr6⟩ := hs6'.at (i := k) (v := bE p) (by rw [List.getElem?_map,hk6]; rfl)
  subst e
  have hkl := (List.getElem?_eq_some_iff.1 hk6).1
  have l1' : L64 c.sum := ⟨by omega,hs6.2⟩
  have l2' : L64 v := ⟨by omega,hv.2⟩
  repeat (first | apply sS | apply sE | refine w_mv rfl ?_ | (refine is_okn rfl ?_; refine w_op rfl ?_) | (apply is_ld; refine w_ldA rfl ?_) | (apply is_iad; refine w_iadA rfl ?_) | apply ai_seq | apply ai_regW)
  refine w_call rfl ((madd_ok _ l1' l2').mono ?_)
  rintro _ _ ⟨rfl,rfl⟩
  have fin : ∀ (w : Bool),w = (c.cut || decide ((mAdd c.sum v).2 ≠ 0)) → ∀ g7 g8 g9 : Hp,(∀ k,k ≠ p → g7.get k = g6.get k) → g7.nx = g6.nx → (∀ k,k ≠ p → g8.get k = g7.get k) → g8.nx = g7.nx → (∀ k,k ≠ p → g9.get k = g8.get k) → g9.nx = g8.nx → g9.get p = some ⟨[nI c.at_,nI (mAdd c.sum v).1,nI (c.n + 1),.bool w],true,0⟩ →
    RgF g9 (Up S h g9) R { r with newest := max r.newest at_,l := putB at_ v l4 } ∧ FrP S h g9 := by
   rintro w hw g7 g8 g9 m7 n7 m8 n8 m9 n9 k9
   have hk9 : ∀ k,k ≠ p → g9.get k = g6.get k := fun k hk => (m9 k hk).trans ((m8 k hk).trans (m7 k hk))
   have hn9 : g9.nx = g6.nx := by omega
   have a9 := a6.set hk6 (updB v c) (h' := g9) hn9 hk9 (by rw [k9,hw]; rfl)
   dsimp only at a9
   rw [← e6] at a9
   have up : ∀ {k : Nat},Up S h g6 k → Up S h g9 k := fun hu => hu.elim .inl fun q => .inr ⟨q.1,by rw [hn9]; exact q.2⟩
   refine ⟨⟨j1,_,a9,.inl s1,up u1,fun q hq => ?_⟩,by rw [hn9]; exact fr6.1,fun k hk hnS => ?_⟩
   ·rcases List.mem_or_eq_of_mem_set hq with hq | rfl
    ·exact up (u2 q hq)
    ·exact up (u2 (p,c) (List.mem_of_getElem? hk6))
   ·by_cases e : k = p
    ·exfalso
     have := u2 (p,c) (List.mem_of_getElem? hk6)
     rcases this with q | q
     ·exact hnS (e ▸ q)
     ·have := q.1
      dsimp only at this
      omega
    ·exact (hk9 k e).trans (fr6.2 k hk hnS)
  obtain ⟨cc,hcc⟩ : ∃ cc,c.cut = cc := ⟨_,rfl⟩
  rw [hcc] at fin hP6
  cases cc
  ·rw [Bool.false_or] at fin
   by_cases q3 : (mAdd c.sum v).2 = 0
   ·rw [decide_eq_false (by simpa using q3)] at fin
    repeat (first | apply sS | apply dS | apply dSn | apply sE | refine w_mv rfl ?_ | refine w_pickF rfl ?_ | (refine is_okn rfl ?_; refine w_op rfl ?_) | refine w_ext rfl rfl ?_ | refine w_gT rfl rfl ?_ | (apply is_ld; refine w_ldA rfl ?_) | (apply is_bin; refine w_addA rfl ?_) | (apply is_bin; refine w_cF rfl ?_) | apply ai_seq | refine ai_drwW (by kernel_rfl) ?_)
    refine w_st1 rfl rfl hP6 (by show 1 < 4; decide) rfl fun g7 m7 k7 n7 => ?_
    repeat (first | apply dS | apply dSn | (refine is_okn rfl ?_; refine w_op rfl ?_))
    refine w_st1 rfl rfl k7 (by show 2 < 4; decide) rfl fun g8 m8 k8 n8 => ?_
    repeat (first | apply dS | apply dSn | (refine is_okn rfl ?_; refine w_op rfl ?_))
    refine w_st1 rfl rfl k8 (by show 3 < 4; decide) rfl fun g9 m9 k9 n9 => ?_
    repeat (first | apply sS | apply sE | apply dE | refine w_mv rfl ?_ | apply ai_seq | apply ai_regW | (apply ai_ret; repeat (first | rw [thenQ_r] | rw [blockQ_r] | rw [roundE_r])))
    exact end_one rfl ⟨⟨_,rfl⟩,fin _ rfl g7 g8 g9 m7 n7 m8 n8 m9 n9 k9⟩
   ·rw [decide_eq_true (by simpa using q3)] at fin
    repeat (first | apply sS | apply dS | apply dSn | apply sE | refine w_mv rfl ?_ | refine w_pickF rfl ?_ | (refine is_okn rfl ?_; refine w_op rfl ?_) | refine w_ext rfl rfl ?_ | refine w_gT rfl rfl ?_ | (apply is_ld; refine w_ldA rfl ?_) | (apply is_bin; refine w_addA rfl ?_) | (apply is_bin; refine w_cT rfl ?_) | apply ai_seq | refine ai_drwW (by kernel_rfl) ?_)
    refine w_st1 rfl rfl hP6 (by show 1 < 4; decide) rfl fun g7 m7 k7 n7 => ?_
    repeat (first | apply dS | apply dSn | (refine is_okn rfl ?_; refine w_op rfl ?_))
    refine w_st1 rfl rfl k7 (by show 2 < 4; decide) rfl fun g8 m8 k8 n8 => ?_
    repeat (first | apply dS | apply dSn | (refine is_okn rfl ?_; refine w_op rfl ?_))
    refine w_st1 rfl rfl k8 (by show 3 < 4; decide) rfl fun g9 m9 k9 n9 => ?_
    repeat (first | apply sS | apply sE | apply dE | refine w_mv rfl ?_ | apply ai_seq | apply ai_regW | (apply ai_ret; repeat (first | rw [thenQ_r] | rw [blockQ_r] | rw [roundE_r])))
    exact end_one rfl ⟨⟨_,rfl⟩,fin _ rfl g7 g8 g9 m7 n7 m8 n8 m9 n9 k9⟩
  ·rw [Bool.true_or] at fin
   repeat (first | apply sS | apply dS | apply dSn | apply sE | refine w_mv rfl ?_ | refine w_pickT rfl ?_ | (refine is_okn rfl ?_; refine w_op rfl ?_) | refine w_ext rfl rfl ?_ | refine w_gF rfl rfl ?_ | (apply is_ld; refine w_ldA rfl ?_) | (apply is_bin; refine w_addA rfl ?_) | apply ai_seq | refine ai_drwW (by kernel_rfl) ?_)
   refine w_st1 rfl rfl hP6 (by show 1 < 4; decide) rfl fun g7 m7 k7 n7 => ?_
   repeat (first | apply dS | apply dSn | (refine is_okn rfl ?_; refine w_op rfl ?_))
   refine w_st1 rfl rfl k7 (by show 2 < 4; decide) rfl fun g8 m8 k8 n8 => ?_
   repeat (first | apply dS | apply dSn | (refine is_okn rfl ?_; refine w_op rfl ?_))
   refine w_st1 rfl rfl k8 (by show 3 < 4; decide) rfl fun g9 m9 k9 n9 => ?_
   repeat (first | apply sS | apply sE | apply dE | refine w_mv rfl ?_ | apply ai_seq | apply ai_regW | (apply ai_ret; repeat (first | rw [thenQ_r] | rw [blockQ_r] | rw [roundE_r])))
   exact end_one rfl ⟨⟨_,rfl⟩,fin _ rfl g7 g8 g9 m7 n7 m8 n8 m9 n9 k9⟩
def setOv (r : Rg) (o : Bool) : Rg := { r with over := o }
theorem RgA.over {h h' : Hp} {R j : Nat} {bs : List (Nat × Bk)} {r : Rg} {o : Bool} (a : RgA h R j bs r) (hn : h'.nx = h.nx) (hk : ∀ k,k ≠ R → h'.get k = h.get k) {s : Value} (hr : h.get R = some ⟨rgV s r,true,0⟩) (hr' : h'.get R = some ⟨rgV s (setOv r o),true,0⟩) : RgA h' R j bs (setOv r o) := by
 obtain ⟨hR,hj,⟨s0,hg,hs⟩,hp,hnd,hl⟩ := a
 rw [hg] at hr
 have e : s0 = s := by
  have := congrArg (fun o : Option Ob => (o.map fun o => o.cells.head?)) hr
  simpa [rgV] using this
 subst e
 exact ⟨by omega,by omega,⟨s0,hr',hs.keep fun e => hk j e⟩,fun p hp' => ⟨(hk p.1 (hp p hp').2.2.1).trans (hp p hp').1,by have := (hp p hp').2.1; omega,(hp p hp').2.2⟩,hnd,hl⟩
theorem sumB_nn {last n : Int} : ∀ {l : List Bk} {x : Int × Int × Bool},(∀ b ∈ l,0 ≤ b.sum ∧ b.sum ≤ 9223372036854775807 ∧ 1 ≤ b.n) → 0 ≤ x.1 ∧ x.1 ≤ 9223372036854775807 ∧ 0 ≤ x.2.1 →
  0 ≤ (sumB last n l x).1 ∧ (sumB last n l x).1 ≤ 9223372036854775807 ∧ 0 ≤ (sumB last n l x).2.1 ∧ (sumB last n l x).2.1 ≤ x.2.1 + (l.map fun b => b.n).sum
 | [],x,_,hx => by simp [sumB]; omega
 | b :: l,x,hb,hx => by
  have h1 := hb b (by simp)
  have h2 := mAdd_nn ⟨hx.1,hx.2.1⟩ ⟨h1.1,h1.2.1⟩
  have h3 := sum_len (l := l) fun c hc => (hb c (by simp [hc])).2.2
  simp only [sumB,List.map_cons,List.sum_cons]
  by_cases q : last < b.at_ ∨ n ≤ last - b.at_
  ·rw [if_pos q]
   have := sumB_nn (last := last) (n := n) (l := l) (x := x) (fun c hc => hb c (by simp [hc])) hx
   omega
  ·rw [if_neg q]
   have := sumB_nn (last := last) (n := n) (l := l) (x := ((mAdd x.1 b.sum).1,x.2.1 + b.n,x.2.2 || b.cut || decide ((mAdd x.1 b.sum).2 ≠ 0))) (fun c hc => hb c (by simp [hc])) ⟨h2.1,h2.2,by dsimp only; omega⟩
   dsimp only at this
   omega
set_option maxHeartbeats 1000000 in
theorem rgsum_ok (h : Hp) {S : Ft} {R : Nat} {r : Rg} {T t : Int} (a : RgF h S R r) (b : RgB r T) (hT : T ≤ 1099511627776) (ht : 0 ≤ t ∧ t ≤ 1099511627776) :
  ACall PX 167 [ptr R,nI t] h (fun x g => x = .tuple #[nI (rgSum r t).1,nI (rgSum r t).2.1] ∧ RgF g S R (rgSeen r t) ∧ FrP S h g ∧ g.nx = h.nx) := by
 obtain ⟨j,bs,a,s1,s2,s3⟩ := a
 have hg := b.g
 have hnb := b.nb
 have hlen := b.len
 have hat : 0 ≤ t / r.grain ∧ t / r.grain ≤ t := ⟨Int.ediv_nonneg (by omega) (by omega),Int.ediv_le_self _ (by omega)⟩
 unfold rgSeen rgSum
 rw [if_neg (by omega)]
 have hbs : bs.length = r.l.length := by rw [← a.val,List.length_map]
 obtain ⟨s,hgR,hs⟩ := a.row
 obtain ⟨x,c,e⟩ := hs.len
 subst e
 rw [List.length_map] at hs hgR
 have hR0 : h.get R = some ⟨[.slice x bs.length c,nI r.window,nI r.grain,nI r.n,nI r.newest,.bool r.over],true,0⟩ := hgR
 refine acallA Tryz.func167 c167 ?_
 unfold ir167
 dsimp only [qo,qm,qk,q2,qi,qg,qn,qc,dq,ci,cb,qh,qs]
 repeat (first | apply sS | apply sE | refine w_mv rfl ?_ | refine w_pickF rfl ?_ | (refine is_okn rfl ?_; refine w_op rfl ?_) | refine w_gT rfl rfl ?_ | (apply is_ld; refine w_ldA rfl ?_) | (apply is_bin; refine w_cF rfl ?_) | (refine w_quo rfl ?_ ?_ ?_; (focus omega); (focus omega)) | apply ai_seq | apply ai_regW | refine ai_cF rfl ?_ | apply ai_skip | apply ai_block)
 generalize t / r.grain = last at hat ⊢
 refine ai_loopE (γ := Nat × (Int × Int × Bool)) (fun e => [(0,ptr R),(6,nI last),(7,nI e.2.1),(8,nI e.2.2.1),(30,.slice x bs.length c),(31,nI bs.length),(32,nI e.1)])
  (fun e g => RgA g R j bs (setOv r e.2.2.2) ∧ g.get R = some ⟨rgV (.slice x bs.length c) (setOv r e.2.2.2),true,0⟩ ∧ (∀ k,k ≠ R → g.get k = h.get k) ∧ g.nx = h.nx ∧ e.1 ≤ bs.length ∧ sumB last r.n (r.l.drop e.1) e.2 = sumB last r.n r.l (0,0,r.over) ∧ (0 ≤ e.2.1 ∧ e.2.1 ≤ 9223372036854775807) ∧ 0 ≤ e.2.2.1 ∧ e.2.2.1 + ((r.l.drop e.1).map fun b => b.n).sum ≤ T) (fun e => bs.length - e.1) (0,(0,0,r.over))
  leX ⟨a,hgR,fun _ _ => rfl,rfl,Nat.zero_le _,rfl,by dsimp only; omega,Int.le_refl _,by have := b.s; simpa using this⟩ ?_
 rintro ⟨i,sum,n,ov⟩ g1 ⟨a1,hg1,hk1,hn1,hi,hS,hb1,hn0,hnT⟩
 dsimp only at a1 hg1 hi hS hb1 hn0 hnT ⊢
 replace hg1 : g1.get R = some ⟨[.slice x bs.length c,nI r.window,nI r.grain,nI r.n,nI r.newest,.bool ov],true,0⟩ := hg1
 by_cases hil : i < bs.length
 ·have hbi := a1.bks bs[i] (List.getElem_mem _)
  have hli : r.l[i]? = some bs[i].2 := by rw [← a.val,List.getElem?_map,List.getElem?_eq_getElem hil]; rfl
  have hm := b.b _ (List.mem_of_getElem? hli)
  have hd : r.l.drop i = bs[i].2 :: r.l.drop (i + 1) := by
   obtain ⟨h1,h2⟩ := List.getElem?_eq_some_iff.1 hli
   rw [List.drop_eq_getElem_cons h1,h2]
  rw [hd] at hS hnT
  simp only [sumB,List.map_cons,List.sum_cons] at hS hnT
  obtain ⟨s',hg1',hs1⟩ := a1.row
  have es : s' = .slice x bs.length c := by
   rw [hg1] at hg1'
   have := congrArg (fun o : Option Ob => (o.map fun o => o.cells.head?)) hg1'
   simpa [rgV] using this.symm
  subst es
  clear hg1'
  obtain ⟨c',e,hr⟩ := hs1.at (i := i) (v := bE bs[i].1) (by rw [List.getElem?_map,List.getElem?_eq_getElem hil]; rfl)
  rw [List.length_map] at e
  cases e
  generalize bs[i] = pb at *
  obtain ⟨p,⟨at_,bsum,bn,bcut⟩⟩ := pb
  dsimp only at hbi hm hS hnT hr
  have hP : g1.get p = some ⟨[nI at_,nI bsum,nI bn,.bool bcut],true,0⟩ := hbi.1
  have hsl := sum_len (l := r.l.drop (i + 1)) fun c hc => (b.b c (List.mem_of_mem_drop hc)).2.2.2.2
  repeat (first | apply sS | apply dS | apply sE | refine w_mv rfl ?_ | (refine is_okn rfl ?_; refine w_op rfl ?_) | refine w_ext rfl rfl ?_ | refine w_gT rfl rfl ?_ | (apply is_ld; refine w_ldA rfl ?_) | (apply is_bin; refine w_cT rfl ?_) | (apply is_iad; refine w_iadA rfl ?_) | apply ai_seq | apply ai_regW | refine ai_cT rfl ?_ | apply ai_skip | refine ai_drwW (by kernel_rfl) ?_ | apply ai_block)
  by_cases q1 : last < at_
  ·rw [if_pos (.inl q1)] at hS
   repeat (first | apply sS | apply dS | apply sE | apply dE | refine w_mv rfl ?_ | refine w_pickT rfl ?_ | refine w_pickF rfl ?_ | refine w_gF rfl rfl ?_ | (apply is_bin; refine w_addA rfl ?_) | (apply is_bin; refine w_cT rfl ?_) | apply ai_regW | refine ai_cT rfl ?_ | apply ai_exit)
   exact ⟨(i + 1,sum,n,ov),leX,⟨a1,hg1,hk1,hn1,by dsimp only; omega,hS,hb1,hn0,by dsimp only; omega⟩,by dsimp only; omega⟩
  by_cases q2 : r.n ≤ last - at_
  ·rw [if_pos (.inr q2)] at hS
   repeat (first | apply sS | apply dS | apply sE | apply dE | refine w_mv rfl ?_ | refine w_pickF rfl ?_ | (refine is_okn rfl ?_; refine w_op rfl ?_) | refine w_gT rfl rfl ?_ | (apply is_ld; refine w_ldA rfl ?_) | (apply is_bin; refine w_addA rfl ?_) | (apply is_bin; refine w_subA rfl ?_) | (apply is_bin; refine w_cT rfl ?_) | (apply is_bin; refine w_cF rfl ?_) | apply ai_regW | refine ai_cT rfl ?_ | apply ai_exit)
   exact ⟨(i + 1,sum,n,ov),leX,⟨a1,hg1,hk1,hn1,by dsimp only; omega,hS,hb1,hn0,by dsimp only; omega⟩,by dsimp only; omega⟩
  rw [if_neg (by omega)] at hS
  have l1 : L64 sum := ⟨by omega,hb1.2⟩
  have l2 : L64 bsum := ⟨by omega,hm.2.2.2.1⟩
  have hnn := mAdd_nn hb1 ⟨hm.2.2.1,hm.2.2.2.1⟩
  repeat (first | apply sS | apply dS | apply dE | refine w_mv rfl ?_ | refine w_pickF rfl ?_ | (refine is_okn rfl ?_; refine w_op rfl ?_) | refine w_gT rfl rfl ?_ | (apply is_ld; refine w_ldA rfl ?_) | (apply is_bin; refine w_subA rfl ?_) | (apply is_bin; refine w_cF rfl ?_) | apply ai_seq | apply ai_regW | refine ai_cF rfl ?_ | apply ai_skip)
  refine w_call rfl ((madd_ok _ l1 l2).mono ?_)
  rintro _ _ ⟨rfl,rfl⟩
  have fin : ∀ (w : Bool),w = (ov || bcut || decide ((mAdd sum bsum).2 ≠ 0)) → ∀ g2 : Hp,(∀ k,k ≠ R → g2.get k = g1.get k) → g2.nx = g1.nx → g2.get R = some ⟨[.slice (some ⟨j,0,some 0⟩) bs.length c,nI r.window,nI r.grain,nI r.n,nI r.newest,.bool w],true,0⟩ →
    RgA g2 R j bs (setOv r w) ∧ g2.get R = some ⟨rgV (.slice (some ⟨j,0,some 0⟩) bs.length c) (setOv r w),true,0⟩ ∧ (∀ k,k ≠ R → g2.get k = h.get k) ∧ g2.nx = h.nx ∧ i + 1 ≤ bs.length ∧ sumB last r.n (r.l.drop (i + 1)) ((mAdd sum bsum).1,n + bn,w) = sumB last r.n r.l (0,0,r.over) ∧ (0 ≤ (mAdd sum bsum).1 ∧ (mAdd sum bsum).1 ≤ 9223372036854775807) ∧ 0 ≤ n + bn ∧ n + bn + ((r.l.drop (i + 1)).map fun b => b.n).sum ≤ T := by
   rintro w rfl g2 m2 n2 k2
   exact ⟨a1.over (o := ov || bcut || decide ((mAdd sum bsum).2 ≠ 0)) n2 m2 hg1 k2,k2,fun k hk => (m2 k hk).trans (hk1 k hk),by omega,hil,hS,hnn,by omega,by omega⟩
  cases ov
  ·cases bcut
   ·rw [Bool.false_or,Bool.false_or] at fin
    by_cases q3 : (mAdd sum bsum).2 = 0
    ·rw [decide_eq_false (by simpa using q3)] at fin
     repeat (first | apply sS | apply sSn | apply sE | refine w_mv rfl ?_ | refine w_pickF rfl ?_ | (refine is_okn rfl ?_; refine w_op rfl ?_) | refine w_ext rfl rfl ?_ | refine w_gT rfl rfl ?_ | (apply is_ld; refine w_ldA rfl ?_) | (apply is_bin; refine w_cF rfl ?_) | apply ai_seq | apply ai_regW)
     refine w_st1 rfl rfl hg1 (by show 5 < 6; decide) rfl fun g2 m2 k2 n2 => ?_
     have hP2 := (m2 p hbi.2.2.1).trans hP
     repeat (first | apply sS | apply dS | apply sE | apply dE | refine w_mv rfl ?_ | (refine is_okn rfl ?_; refine w_op rfl ?_) | (apply is_ld; refine w_ldA rfl ?_) | (apply is_bin; refine w_addA rfl ?_) | apply ai_regW | refine ai_drwW (by kernel_rfl) ?_)
     exact ⟨(i + 1,(mAdd sum bsum).1,n + bn,false),leX,fin _ rfl g2 m2 n2 k2,by dsimp only; omega⟩
    ·rw [decide_eq_true (by simpa using q3)] at fin
     repeat (first | apply sS | apply sSn | apply sE | refine w_mv rfl ?_ | refine w_pickF rfl ?_ | (refine is_okn rfl ?_; refine w_op rfl ?_) | refine w_ext rfl rfl ?_ | refine w_gT rfl rfl ?_ | (apply is_ld; refine w_ldA rfl ?_) | (apply is_bin; refine w_cT rfl ?_) | apply ai_seq | apply ai_regW)
     refine w_st1 rfl rfl hg1 (by show 5 < 6; decide) rfl fun g2 m2 k2 n2 => ?_
     have hP2 := (m2 p hbi.2.2.1).trans hP
     repeat (first | apply sS | apply dS | apply sE | apply dE | refine w_mv rfl ?_ | (refine is_okn rfl ?_; refine w_op rfl ?_) | (apply is_ld; refine w_ldA rfl ?_) | (apply is_bin; refine w_addA rfl ?_) | apply ai_regW | refine ai_drwW (by kernel_rfl) ?_)
     exact ⟨(i + 1,(mAdd sum bsum).1,n + bn,true),leX,fin _ rfl g2 m2 n2 k2,by dsimp only; omega⟩
   ·rw [Bool.false_or,Bool.true_or] at fin
    repeat (first | apply sS | apply sSn | apply sE | refine w_mv rfl ?_ | refine w_pickT rfl ?_ | refine w_pickF rfl ?_ | (refine is_okn rfl ?_; refine w_op rfl ?_) | refine w_ext rfl rfl ?_ | refine w_gT rfl rfl ?_ | refine w_gF rfl rfl ?_ | (apply is_ld; refine w_ldA rfl ?_) | apply ai_seq | apply ai_regW)
    refine w_st1 rfl rfl hg1 (by show 5 < 6; decide) rfl fun g2 m2 k2 n2 => ?_
    have hP2 := (m2 p hbi.2.2.1).trans hP
    repeat (first | apply sS | apply dS | apply sE | apply dE | refine w_mv rfl ?_ | (refine is_okn rfl ?_; refine w_op rfl ?_) | (apply is_ld; refine w_ldA rfl ?_) | (apply is_bin; refine w_addA rfl ?_) | apply ai_regW | refine ai_drwW (by kernel_rfl) ?_)
    exact ⟨(i + 1,(mAdd sum bsum).1,n + bn,true),leX,fin _ rfl g2 m2 n2 k2,by dsimp only; omega⟩
  ·rw [Bool.true_or,Bool.true_or] at fin
   repeat (first | apply sS | apply sSn | apply sE | refine w_mv rfl ?_ | refine w_pickT rfl ?_ | (refine is_okn rfl ?_; refine w_op rfl ?_) | refine w_ext rfl rfl ?_ | refine w_gF rfl rfl ?_ | (apply is_ld; refine w_ldA rfl ?_) | apply ai_seq | apply ai_regW)
   refine w_st1 rfl rfl hg1 (by show 5 < 6; decide) rfl fun g2 m2 k2 n2 => ?_
   have hP2 := (m2 p hbi.2.2.1).trans hP
   repeat (first | apply sS | apply dS | apply sE | apply dE | refine w_mv rfl ?_ | (refine is_okn rfl ?_; refine w_op rfl ?_) | (apply is_ld; refine w_ldA rfl ?_) | (apply is_bin; refine w_addA rfl ?_) | apply ai_regW | refine ai_drwW (by kernel_rfl) ?_)
   exact ⟨(i + 1,(mAdd sum bsum).1,n + bn,true),leX,fin _ rfl g2 m2 n2 k2,by dsimp only; omega⟩
 ·obtain rfl : i = bs.length := by omega
  rw [hbs,List.drop_length] at hS
  simp only [sumB] at hS
  rw [← hS]
  repeat (first | apply sS | apply sE | refine w_mv rfl ?_ | (apply is_bin; refine w_cF rfl ?_) | apply ai_seq | apply ai_regW | refine ai_cF rfl ?_ | apply ai_exit | (apply ai_ret; repeat (first | rw [thenQ_r] | rw [blockQ_r] | rw [roundE_r])))
  exact end_two rfl rfl ⟨rfl,⟨j,bs,a1,s1,s2,s3⟩,⟨by omega,fun k hk hnS => hk1 k fun e => hnS (e ▸ s1)⟩,hn1⟩
theorem rgmean_ok (h : Hp) {S : Ft} {R : Nat} {r : Rg} {T t : Int} (a : RgF h S R r) (b : RgB r T) (hT : T ≤ 1099511627776) (ht : 0 ≤ t ∧ t ≤ 1099511627776) :
  ACall PX 137 [ptr R,nI t] h (fun x g => x = nI (rgMean r t) ∧ RgF g S R (rgSeen r t) ∧ FrP S h g ∧ g.nx = h.nx) := by
 have hx : 0 ≤ (rgSum r t).1 ∧ (rgSum r t).1 ≤ 9223372036854775807 ∧ 0 ≤ (rgSum r t).2.1 := by
  unfold rgSum
  rw [if_neg (by omega)]
  have := sumB_nn (last := t / r.grain) (n := r.n) (l := r.l) (x := (0,0,r.over)) (fun c hc => by have := b.b c hc; omega) (by dsimp only; omega)
  exact ⟨this.1,this.2.1,this.2.2.1⟩
 unfold rgMean
 refine acallA Tryz.func137 c137 ?_
 unfold ir137
 dsimp only [qo,qm,qk,q2,qi,qg,qn,qc,dq,ci,cb,qh,qs]
 repeat (first | apply sS | apply sE | refine w_mv rfl ?_ | apply ai_seq | apply ai_regW)
 refine w_call rfl ((rgsum_ok h a b hT ht).mono ?_)
 rintro _ g ⟨rfl,r1,r2,r3⟩
 by_cases q : (rgSum r t).2.1 = 0
 ·rw [if_pos q]
  repeat (first | apply sS | apply sE | refine w_mv rfl ?_ | refine w_ext rfl rfl ?_ | (apply is_bin; refine w_cT rfl ?_) | apply ai_seq | apply ai_regW | refine ai_cT rfl ?_ | (apply ai_ret; repeat (first | rw [thenQ_r] | rw [blockQ_r] | rw [roundE_r])))
  exact end_one rfl ⟨rfl,r1,r2,r3⟩
 ·rw [if_neg q]
  repeat (first | apply sS | apply sE | refine w_mv rfl ?_ | refine w_ext rfl rfl ?_ | (apply is_bin; refine w_cF rfl ?_) | (refine w_quo rfl ?_ ?_ ?_; (focus omega); (focus omega)) | apply ai_seq | apply ai_regW | refine ai_cF rfl ?_ | apply ai_skip | (apply ai_ret; repeat (first | rw [thenQ_r] | rw [blockQ_r] | rw [roundE_r])))
  exact end_one rfl ⟨rfl,r1,r2,r3⟩
theorem rgMean_bd {r : Rg} {T t : Int} (b : RgB r T) (ht : 0 ≤ t) : 0 ≤ rgMean r t ∧ rgMean r t ≤ 9223372036854775807 := by
 have hx : 0 ≤ (rgSum r t).1 ∧ (rgSum r t).1 ≤ 9223372036854775807 ∧ 0 ≤ (rgSum r t).2.1 := by
  unfold rgSum
  rw [if_neg (by omega)]
  have := sumB_nn (last := t / r.grain) (n := r.n) (l := r.l) (x := (0,0,r.over)) (fun c hc => by have := b.b c hc; omega) (by dsimp only; omega)
  exact ⟨this.1,this.2.1,this.2.2.1⟩
 unfold rgMean
 split
 ·omega
 ·exact ⟨Int.ediv_nonneg hx.1 hx.2.2,Int.le_trans (Int.ediv_le_self _ hx.1) hx.2.1⟩
theorem RgB.seen {r : Rg} {T t : Int} (b : RgB r T) : RgB (rgSeen r t) T := ⟨b.w,b.g,b.n,b.nw,b.b,b.s⟩
end Go.Proofs.YtelmcfnkclihcaaGreatDoorW.Am
