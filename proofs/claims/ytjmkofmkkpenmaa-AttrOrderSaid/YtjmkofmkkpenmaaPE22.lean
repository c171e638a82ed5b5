/- A part of the proof: a logic for calls over plain values, and the functions that the law reaches, each walked once. -/
import Derived.Test.YtjmkofmkkpenmaaPE21
import Derived.Test.YtjmkofmkkpenmaaProg
import Derived.Sort.AssemblyPlain
import Derived.Sort.LotD5
import Derived.Laws.Bits64
set_option linter.unusedVariables false
set_option linter.unusedSimpArgs false
set_option linter.unusedSectionVars false

/- S90B -/
namespace Go.Am.Tst
open Go.Proofs
def str0 : ByteArray := ⟨[0, 1, 2, 2, 3, 3, 3, 3, 4, 4, 4, 4, 4, 4, 4, 4, 5, 5, 5, 5, 5, 5, 5, 5, 5, 5, 5, 5, 5, 5, 5, 5, 6, 6, 6, 6, 6, 6, 6, 6, 6, 6, 6, 6, 6, 6, 6, 6, 6, 6, 6, 6, 6, 6, 6, 6, 6, 6, 6, 6, 6, 6, 6, 6, 7, 7, 7, 7, 7, 7, 7, 7, 7, 7, 7, 7, 7, 7, 7, 7, 7, 7, 7, 7, 7, 7, 7, 7, 7, 7, 7, 7, 7, 7, 7, 7, 7, 7, 7, 7, 7, 7, 7, 7, 7, 7, 7, 7, 7, 7, 7, 7, 7, 7, 7, 7, 7, 7, 7, 7, 7, 7, 7, 7, 7, 7, 7, 7, 8, 8, 8, 8, 8, 8, 8, 8, 8, 8, 8, 8, 8, 8, 8, 8, 8, 8, 8, 8, 8, 8, 8, 8, 8, 8, 8, 8, 8, 8, 8, 8, 8, 8, 8, 8, 8, 8, 8, 8, 8, 8, 8, 8, 8, 8, 8, 8, 8, 8, 8, 8, 8, 8, 8, 8, 8, 8, 8, 8, 8, 8, 8, 8, 8, 8, 8, 8, 8, 8, 8, 8, 8, 8, 8, 8, 8, 8, 8, 8, 8, 8, 8, 8, 8, 8, 8, 8, 8, 8, 8, 8, 8, 8, 8, 8, 8, 8, 8, 8, 8, 8, 8, 8, 8, 8, 8, 8, 8, 8, 8, 8, 8, 8, 8, 8, 8, 8, 8, 8, 8, 8, 8, 8, 8, 8, 8, 8].toArray⟩
end Go.Am.Tst

namespace Go.Am.Tst
open Go.Proofs
/-- math/bits.Len -/
def b52 : BC := .seq (.ops [⟨some 2, none, .pure (.mov), [.c (.int .i64 0)]⟩] [0]) (.seq (.cond (.c (.bool false)) (.seq (.ops [⟨some 3, none, .pure (.mov), [.t 0]⟩, ⟨some 4, none, .pure (.conv .u32), [.t 3]⟩, ⟨some 5, none, .loud (.call 76), [.t 4]⟩, ⟨some 2, none, .pure (.mov), [.t 5]⟩] [2]) (.ret)) (.skip)) (.seq (.ops [⟨some 6, none, .pure (.mov), [.t 0]⟩, ⟨some 7, none, .loud (.call 77), [.t 6]⟩, ⟨some 2, none, .pure (.mov), [.t 7]⟩] [2]) (.ret)))
def F52 : Fn Try.prog 52 := Fn.mkX false b52 [.t 2] 8 Try.f52 _ Try.func52 (by decide) rfl Try.ntmps52 (by kernel_rfl) (by kernel_rfl)
/-- math/bits.Len64 -/
def b77 : BC := .seq (.ops [⟨some 2, none, .pure (.mov), [.c (.int .i64 0)]⟩] [0, 2]) (.seq (.seq (.ops [⟨some 3, none, .pure (.mov), [.t 0]⟩, ⟨some 4, none, .pure (.bin .geq), [.t 3, .c (.int .u64 4294967296)]⟩] [0, 2, 4]) (.cond (.t 4) (.seq (.ops [⟨some 5, none, .pure (.mov), [.t 0]⟩, ⟨some 6, none, .pure (.bin .shr), [.t 5, .c (.int .u64 32)]⟩, ⟨some 0, none, .pure (.mov), [.t 6]⟩] [0]) (.ops [⟨some 2, none, .pure (.mov), [.c (.int .i64 32)]⟩] [0, 2])) (.skip))) (.seq (.seq (.ops [⟨some 7, none, .pure (.mov), [.t 0]⟩, ⟨some 8, none, .pure (.bin .geq), [.t 7, .c (.int .u64 65536)]⟩] [0, 2, 8]) (.cond (.t 8) (.seq (.ops [⟨some 9, none, .pure (.mov), [.t 0]⟩, ⟨some 10, none, .pure (.bin .shr), [.t 9, .c (.int .u64 16)]⟩, ⟨some 0, none, .pure (.mov), [.t 10]⟩] [0, 2]) (.ops [⟨some 11, none, .pure (.mov), [.t 2]⟩, ⟨some 12, none, .pure (.bin .add), [.t 11, .c (.int .i64 16)]⟩, ⟨some 2, none, .pure (.mov), [.t 12]⟩] [0, 2])) (.skip))) (.seq (.seq (.ops [⟨some 13, none, .pure (.mov), [.t 0]⟩, ⟨some 14, none, .pure (.bin .geq), [.t 13, .c (.int .u64 256)]⟩] [0, 2, 14]) (.cond (.t 14) (.seq (.ops [⟨some 15, none, .pure (.mov), [.t 0]⟩, ⟨some 16, none, .pure (.bin .shr), [.t 15, .c (.int .u64 8)]⟩, ⟨some 0, none, .pure (.mov), [.t 16]⟩] [0, 2]) (.ops [⟨some 17, none, .pure (.mov), [.t 2]⟩, ⟨some 18, none, .pure (.bin .add), [.t 17, .c (.int .i64 8)]⟩, ⟨some 2, none, .pure (.mov), [.t 18]⟩] [0, 2])) (.skip))) (.seq (.ops [⟨some 19, none, .pure (.mov), [.t 2]⟩, ⟨some 20, none, .pure (.mov), [.t 0]⟩, ⟨some 21, none, .pure (.conv .u8), [.t 20]⟩, ⟨some 22, none, .pure (.idxs), [.c (.str str0), .t 21]⟩, ⟨some 23, none, .pure (.conv .i64), [.t 22]⟩, ⟨some 24, none, .pure (.bin .add), [.t 19, .t 23]⟩, ⟨some 2, none, .pure (.mov), [.t 24]⟩] [2]) (.ret)))))
def F77 : Fn Try.prog 77 := Fn.mkX false b77 [.t 2] 25 Try.f77 _ Try.func77 (by decide) rfl Try.ntmps77 (by kernel_rfl) (by kernel_rfl)
/-- cmp.isNaN[uint32] -/
def b81 : BC := .seq (.ops [⟨some 2, none, .pure (.mov), [.c (.bool false)]⟩] [0]) (.seq (.ops [⟨some 3, none, .pure (.mov), [.t 0]⟩, ⟨some 4, none, .pure (.mov), [.t 0]⟩, ⟨some 5, none, .pure (.bin .neq), [.t 3, .t 4]⟩, ⟨some 2, none, .pure (.mov), [.t 5]⟩] [2]) (.ret))
def F81 : Fn Try.prog 81 := Fn.mkX false b81 [.t 2] 6 Try.f81 _ Try.func81 (by decide) rfl Try.ntmps81 (by kernel_rfl) (by kernel_rfl)
/-- slices.nextPowerOfTwo -/
def b86 : BC := .seq (.ops [⟨some 2, none, .pure (.mov), [.c (.int .u64 0)]⟩] [0]) (.seq (.ops [⟨some 3, none, .pure (.mov), [.t 0]⟩, ⟨some 4, none, .pure (.conv .u64), [.t 3]⟩, ⟨some 5, none, .loud (.call 52), [.t 4]⟩, ⟨some 6, none, .pure (.bin .shl), [.c (.int .u64 1), .t 5]⟩, ⟨some 2, none, .pure (.mov), [.t 6]⟩] [2]) (.ret))
def F86 : Fn Try.prog 86 := Fn.mkX false b86 [.t 2] 7 Try.f86 _ Try.func86 (by decide) rfl Try.ntmps86 (by kernel_rfl) (by kernel_rfl)
/-- (*slices.xorshift).Next -/
def b87 : BC := .seq (.ops [⟨some 2, none, .pure (.mov), [.c (.int .u64 0)]⟩] [0]) (.seq (.ops [⟨some 3, none, .pure (.mov), [.t 0]⟩, ⟨some 4, none, .pure (.nilchk), [.t 3]⟩, ⟨some 6, none, .pure (.mov), [.t 0]⟩, ⟨some 7, none, .pure (.nilchk), [.t 6]⟩, ⟨some 5, none, .load (.ld 1 false), [.t 4]⟩, ⟨some 8, none, .load (.ld 1 false), [.t 7]⟩, ⟨some 9, none, .pure (.bin .shl), [.t 8, .c (.int .u64 13)]⟩, ⟨some 10, none, .pure (.bin .xor), [.t 5, .t 9]⟩, ⟨some 11, none, .pure (.nilchk), [.t 3]⟩, ⟨none, none, .loud (.st 1), [.t 11, .t 10]⟩] [0]) (.seq (.ops [⟨some 12, none, .pure (.mov), [.t 0]⟩, ⟨some 13, none, .pure (.nilchk), [.t 12]⟩, ⟨some 15, none, .pure (.mov), [.t 0]⟩, ⟨some 16, none, .pure (.nilchk), [.t 15]⟩, ⟨some 14, none, .load (.ld 1 false), [.t 13]⟩, ⟨some 17, none, .load (.ld 1 false), [.t 16]⟩, ⟨some 18, none, .pure (.bin .shr), [.t 17, .c (.int .u64 7)]⟩, ⟨some 19, none, .pure (.bin .xor), [.t 14, .t 18]⟩, ⟨some 20, none, .pure (.nilchk), [.t 12]⟩, ⟨none, none, .loud (.st 1), [.t 20, .t 19]⟩] [0]) (.seq (.ops [⟨some 21, none, .pure (.mov), [.t 0]⟩, ⟨some 22, none, .pure (.nilchk), [.t 21]⟩, ⟨some 24, none, .pure (.mov), [.t 0]⟩, ⟨some 25, none, .pure (.nilchk), [.t 24]⟩, ⟨some 23, none, .load (.ld 1 false), [.t 22]⟩, ⟨some 26, none, .load (.ld 1 false), [.t 25]⟩, ⟨some 27, none, .pure (.bin .shl), [.t 26, .c (.int .u64 17)]⟩, ⟨some 28, none, .pure (.bin .xor), [.t 23, .t 27]⟩, ⟨some 29, none, .pure (.nilchk), [.t 21]⟩, ⟨none, none, .loud (.st 1), [.t 29, .t 28]⟩] [0]) (.seq (.ops [⟨some 30, none, .pure (.mov), [.t 0]⟩, ⟨some 31, none, .pure (.nilchk), [.t 30]⟩, ⟨some 32, none, .load (.ld 1 false), [.t 31]⟩, ⟨some 2, none, .pure (.mov), [.t 32]⟩] [2]) (.ret)))))
def F87 : Fn Try.prog 87 := Fn.mkX false b87 [.t 2] 33 Try.f87 _ Try.func87 (by decide) rfl Try.ntmps87 (by kernel_rfl) (by kernel_rfl)
/-- slices.insertionSortOrdered[uint32] -/
def b90 : BC := .seq (.ops [⟨some 8, none, .pure (.mov), [.t 1]⟩, ⟨some 9, none, .pure (.bin .add), [.t 8, .c (.int .i64 1)]⟩, ⟨some 6, none, .pure (.mov), [.t 9]⟩] [0, 1, 2, 6]) (.block 0 (.loop [0, 1, 2, 6] (.seq (.seq (.ops [⟨some 10, none, .pure (.mov), [.t 6]⟩, ⟨some 11, none, .pure (.mov), [.t 2]⟩, ⟨some 12, none, .pure (.bin .lss), [.t 10, .t 11]⟩] [0, 1, 2, 6, 12]) (.cond (.t 12) (.skip) (.exit 0))) (.seq (.block 1 (.seq (.ops [⟨some 15, none, .pure (.mov), [.t 6]⟩, ⟨some 7, none, .pure (.mov), [.t 15]⟩] [0, 1, 2, 6, 7]) (.block 2 (.loop [0, 1, 2, 6, 7] (.seq (.seq (.ops [⟨some 16, none, .pure (.mov), [.t 7]⟩, ⟨some 17, none, .pure (.mov), [.t 1]⟩, ⟨some 18, none, .pure (.bin .gtr), [.t 16, .t 17]⟩, ⟨some 19, none, .pure (.mov), [.t 18]⟩, ⟨some 20, some (19, true), .pure (.mov), [.t 0]⟩, ⟨some 21, some (19, true), .pure (.mov), [.t 7]⟩, ⟨some 22, some (19, true), .pure (.idx 1), [.t 20, .t 21]⟩, ⟨some 24, some (19, true), .pure (.mov), [.t 0]⟩, ⟨some 25, some (19, true), .pure (.mov), [.t 7]⟩, ⟨some 26, some (19, true), .pure (.bin .sub), [.t 25, .c (.int .i64 1)]⟩, ⟨some 27, some (19, true), .pure (.idx 1), [.t 24, .t 26]⟩, ⟨some 23, some (19, true), .load (.ld 1 false), [.t 22]⟩, ⟨some 28, some (19, true), .load (.ld 1 false), [.t 27]⟩, ⟨some 29, some (19, true), .loud (.call 96), [.t 23, .t 28]⟩, ⟨some 30, none, .pick, [.t 19, .t 29, .c (.bool false)]⟩] [0, 1, 2, 6, 7, 30]) (.cond (.t 30) (.skip) (.exit 2))) (.seq (.block 3 (.ops [⟨some 33, none, .pure (.mov), [.t 0]⟩, ⟨some 34, none, .pure (.mov), [.t 7]⟩, ⟨some 35, none, .pure (.mov), [.t 0]⟩, ⟨some 36, none, .pure (.mov), [.t 7]⟩, ⟨some 37, none, .pure (.bin .sub), [.t 36, .c (.int .i64 1)]⟩, ⟨some 38, none, .pure (.mov), [.t 0]⟩, ⟨some 39, none, .pure (.mov), [.t 7]⟩, ⟨some 40, none, .pure (.bin .sub), [.t 39, .c (.int .i64 1)]⟩, ⟨some 41, none, .pure (.idx 1), [.t 38, .t 40]⟩, ⟨some 43, none, .pure (.mov), [.t 0]⟩, ⟨some 44, none, .pure (.mov), [.t 7]⟩, ⟨some 45, none, .pure (.idx 1), [.t 43, .t 44]⟩, ⟨some 42, none, .load (.ld 1 false), [.t 41]⟩, ⟨some 46, none, .load (.ld 1 false), [.t 45]⟩, ⟨some 47, none, .pure (.idx 1), [.t 33, .t 34]⟩, ⟨none, none, .loud (.st 1), [.t 47, .t 42]⟩, ⟨some 48, none, .pure (.idx 1), [.t 35, .t 37]⟩, ⟨none, none, .loud (.st 1), [.t 48, .t 46]⟩] [0, 1, 2, 6, 7])) (.ops [⟨some 31, none, .pure (.mov), [.t 7]⟩, ⟨some 32, none, .pure (.bin .sub), [.t 31, .c (.int .i64 1)]⟩, ⟨some 7, none, .pure (.mov), [.t 32]⟩] [0, 1, 2, 6, 7]))))))) (.ops [⟨some 13, none, .pure (.mov), [.t 6]⟩, ⟨some 14, none, .pure (.bin .add), [.t 13, .c (.int .i64 1)]⟩, ⟨some 6, none, .pure (.mov), [.t 14]⟩] [0, 1, 2, 6])))))
def F90 : Fn Try.prog 90 := Fn.mkX false b90 [] 49 Try.f90 _ Try.func90 (by decide) rfl Try.ntmps90 (by kernel_rfl) (by kernel_rfl)
/-- slices.heapSortOrdered[uint32] -/
def b91 : BC := .seq (.ops [⟨some 11, none, .pure (.mov), [.t 1]⟩, ⟨some 6, none, .pure (.mov), [.t 11]⟩] [0, 1, 2, 6]) (.seq (.ops [⟨some 7, none, .pure (.mov), [.c (.int .i64 0)]⟩] [0, 1, 2, 6, 7]) (.seq (.ops [⟨some 12, none, .pure (.mov), [.t 2]⟩, ⟨some 13, none, .pure (.mov), [.t 1]⟩, ⟨some 14, none, .pure (.bin .sub), [.t 12, .t 13]⟩, ⟨some 8, none, .pure (.mov), [.t 14]⟩] [0, 6, 7, 8]) (.seq (.seq (.ops [⟨some 15, none, .pure (.mov), [.t 8]⟩, ⟨some 16, none, .pure (.bin .sub), [.t 15, .c (.int .i64 1)]⟩, ⟨some 17, none, .pure (.bin .quo), [.t 16, .c (.int .i64 2)]⟩, ⟨some 9, none, .pure (.mov), [.t 17]⟩] [0, 6, 7, 8, 9]) (.block 0 (.loop [0, 6, 7, 8, 9] (.seq (.seq (.ops [⟨some 18, none, .pure (.mov), [.t 9]⟩, ⟨some 19, none, .pure (.bin .geq), [.t 18, .c (.int .i64 0)]⟩] [0, 6, 7, 8, 9, 19]) (.cond (.t 19) (.skip) (.exit 0))) (.seq (.block 1 (.ops [⟨some 22, none, .pure (.mov), [.t 0]⟩, ⟨some 23, none, .pure (.mov), [.t 9]⟩, ⟨some 24, none, .pure (.mov), [.t 8]⟩, ⟨some 25, none, .pure (.mov), [.t 6]⟩, ⟨some 26, none, .loud (.call 100), [.t 22, .t 23, .t 24, .t 25]⟩] [0, 6, 7, 8, 9])) (.ops [⟨some 20, none, .pure (.mov), [.t 9]⟩, ⟨some 21, none, .pure (.bin .sub), [.t 20, .c (.int .i64 1)]⟩, ⟨some 9, none, .pure (.mov), [.t 21]⟩] [0, 6, 7, 8, 9])))))) (.seq (.ops [⟨some 27, none, .pure (.mov), [.t 8]⟩, ⟨some 28, none, .pure (.bin .sub), [.t 27, .c (.int .i64 1)]⟩, ⟨some 10, none, .pure (.mov), [.t 28]⟩] [0, 6, 7, 10]) (.block 2 (.loop [0, 6, 7, 10] (.seq (.seq (.ops [⟨some 29, none, .pure (.mov), [.t 10]⟩, ⟨some 30, none, .pure (.bin .geq), [.t 29, .c (.int .i64 0)]⟩] [0, 6, 7, 10, 30]) (.cond (.t 30) (.skip) (.exit 2))) (.seq (.block 3 (.seq (.ops [⟨some 33, none, .pure (.mov), [.t 0]⟩, ⟨some 34, none, .pure (.mov), [.t 6]⟩, ⟨some 35, none, .pure (.mov), [.t 0]⟩, ⟨some 36, none, .pure (.mov), [.t 6]⟩, ⟨some 37, none, .pure (.mov), [.t 10]⟩, ⟨some 38, none, .pure (.bin .add), [.t 36, .t 37]⟩, ⟨some 39, none, .pure (.mov), [.t 0]⟩, ⟨some 40, none, .pure (.mov), [.t 6]⟩, ⟨some 41, none, .pure (.mov), [.t 10]⟩, ⟨some 42, none, .pure (.bin .add), [.t 40, .t 41]⟩, ⟨some 43, none, .pure (.idx 1), [.t 39, .t 42]⟩, ⟨some 45, none, .pure (.mov), [.t 0]⟩, ⟨some 46, none, .pure (.mov), [.t 6]⟩, ⟨some 47, none, .pure (.idx 1), [.t 45, .t 46]⟩, ⟨some 44, none, .load (.ld 1 false), [.t 43]⟩, ⟨some 48, none, .load (.ld 1 false), [.t 47]⟩, ⟨some 49, none, .pure (.idx 1), [.t 33, .t 34]⟩, ⟨none, none, .loud (.st 1), [.t 49, .t 44]⟩, ⟨some 50, none, .pure (.idx 1), [.t 35, .t 38]⟩, ⟨none, none, .loud (.st 1), [.t 50, .t 48]⟩] [0, 6, 7, 10]) (.ops [⟨some 51, none, .pure (.mov), [.t 0]⟩, ⟨some 52, none, .pure (.mov), [.t 7]⟩, ⟨some 53, none, .pure (.mov), [.t 10]⟩, ⟨some 54, none, .pure (.mov), [.t 6]⟩, ⟨some 55, none, .loud (.call 100), [.t 51, .t 52, .t 53, .t 54]⟩] [0, 6, 7, 10]))) (.ops [⟨some 31, none, .pure (.mov), [.t 10]⟩, ⟨some 32, none, .pure (.bin .sub), [.t 31, .c (.int .i64 1)]⟩, ⟨some 10, none, .pure (.mov), [.t 32]⟩] [0, 6, 7, 10])))))))))
def F91 : Fn Try.prog 91 := Fn.mkX false b91 [] 56 Try.f91 _ Try.func91 (by decide) rfl Try.ntmps91 (by kernel_rfl) (by kernel_rfl)
/-- slices.choosePivotOrdered[uint32] -/
def b93 : BC := .seq (.ops [⟨some 6, none, .pure (.mov), [.c (.int .i64 0)]⟩, ⟨some 7, none, .pure (.mov), [.c (.int .i64 0)]⟩] [0, 1, 2]) (.seq (.ops [⟨some 13, none, .pure (.mov), [.t 2]⟩, ⟨some 14, none, .pure (.mov), [.t 1]⟩, ⟨some 15, none, .pure (.bin .sub), [.t 13, .t 14]⟩, ⟨some 8, none, .pure (.mov), [.t 15]⟩] [0, 1, 8]) (.seq (.ops [⟨some 9, none, .alloc (.alloc [(.int .i64 0)]), []⟩] [0, 1, 8, 9]) (.seq (.ops [⟨some 16, none, .pure (.mov), [.t 1]⟩, ⟨some 17, none, .pure (.mov), [.t 8]⟩, ⟨some 18, none, .pure (.bin .quo), [.t 17, .c (.int .i64 4)]⟩, ⟨some 19, none, .pure (.bin .mul), [.t 18, .c (.int .i64 1)]⟩, ⟨some 20, none, .pure (.bin .add), [.t 16, .t 19]⟩, ⟨some 10, none, .pure (.mov), [.t 20]⟩] [0, 1, 8, 9, 10]) (.seq (.ops [⟨some 21, none, .pure (.mov), [.t 1]⟩, ⟨some 22, none, .pure (.mov), [.t 8]⟩, ⟨some 23, none, .pure (.bin .quo), [.t 22, .c (.int .i64 4)]⟩, ⟨some 24, none, .pure (.bin .mul), [.t 23, .c (.int .i64 2)]⟩, ⟨some 25, none, .pure (.bin .add), [.t 21, .t 24]⟩, ⟨some 11, none, .pure (.mov), [.t 25]⟩] [0, 1, 8, 9, 10, 11]) (.seq (.ops [⟨some 26, none, .pure (.mov), [.t 1]⟩, ⟨some 27, none, .pure (.mov), [.t 8]⟩, ⟨some 28, none, .pure (.bin .quo), [.t 27, .c (.int .i64 4)]⟩, ⟨some 29, none, .pure (.bin .mul), [.t 28, .c (.int .i64 3)]⟩, ⟨some 30, none, .pure (.bin .add), [.t 26, .t 29]⟩, ⟨some 12, none, .pure (.mov), [.t 30]⟩] [0, 8, 9, 10, 11, 12]) (.seq (.seq (.ops [⟨some 31, none, .pure (.mov), [.t 8]⟩, ⟨some 32, none, .pure (.bin .geq), [.t 31, .c (.int .i64 8)]⟩] [0, 8, 9, 10, 11, 12, 32]) (.cond (.t 32) (.seq (.seq (.ops [⟨some 33, none, .pure (.mov), [.t 8]⟩, ⟨some 34, none, .pure (.bin .geq), [.t 33, .c (.int .i64 50)]⟩] [0, 9, 10, 11, 12, 34]) (.cond (.t 34) (.seq (.ops [⟨some 35, none, .pure (.mov), [.t 0]⟩, ⟨some 36, none, .pure (.mov), [.t 10]⟩, ⟨some 37, none, .loud (.call 101), [.t 35, .t 36, .t 9]⟩, ⟨some 10, none, .pure (.mov), [.t 37]⟩] [0, 9, 10, 11, 12]) (.seq (.ops [⟨some 38, none, .pure (.mov), [.t 0]⟩, ⟨some 39, none, .pure (.mov), [.t 11]⟩, ⟨some 40, none, .loud (.call 101), [.t 38, .t 39, .t 9]⟩, ⟨some 11, none, .pure (.mov), [.t 40]⟩] [0, 9, 10, 11, 12]) (.ops [⟨some 41, none, .pure (.mov), [.t 0]⟩, ⟨some 42, none, .pure (.mov), [.t 12]⟩, ⟨some 43, none, .loud (.call 101), [.t 41, .t 42, .t 9]⟩, ⟨some 12, none, .pure (.mov), [.t 43]⟩] [0, 9, 10, 11, 12]))) (.skip))) (.ops [⟨some 44, none, .pure (.mov), [.t 0]⟩, ⟨some 45, none, .pure (.mov), [.t 10]⟩, ⟨some 46, none, .pure (.mov), [.t 11]⟩, ⟨some 47, none, .pure (.mov), [.t 12]⟩, ⟨some 48, none, .loud (.call 102), [.t 44, .t 45, .t 46, .t 47, .t 9]⟩, ⟨some 11, none, .pure (.mov), [.t 48]⟩] [9, 11])) (.skip))) (.seq (.ops [⟨some 49, none, .load (.ld 1 false), [.t 9]⟩] [11, 49]) (.block 0 (.seq (.ops [⟨some 52, none, .pure (.bin .eql), [.t 49, .c (.int .i64 0)]⟩, ⟨some 51, none, .pure (.mov), [.t 52]⟩] [11, 49, 51]) (.cond (.t 51) (.seq (.ops [⟨some 53, none, .pure (.mov), [.t 11]⟩, ⟨some 6, none, .pure (.mov), [.t 53]⟩, ⟨some 7, none, .pure (.mov), [.c (.int .i64 1)]⟩] [6, 7]) (.ret)) (.seq (.ops [⟨some 55, none, .pure (.bin .eql), [.t 49, .c (.int .i64 12)]⟩, ⟨some 54, none, .pure (.mov), [.t 55]⟩] [11, 54]) (.cond (.t 54) (.seq (.ops [⟨some 56, none, .pure (.mov), [.t 11]⟩, ⟨some 6, none, .pure (.mov), [.t 56]⟩, ⟨some 7, none, .pure (.mov), [.c (.int .i64 2)]⟩] [6, 7]) (.ret)) (.seq (.ops [⟨some 50, none, .pure (.mov), [.t 11]⟩, ⟨some 6, none, .pure (.mov), [.t 50]⟩, ⟨some 7, none, .pure (.mov), [.c (.int .i64 0)]⟩] [6, 7]) (.ret))))))))))))))
def F93 : Fn Try.prog 93 := Fn.mkX false b93 [.t 6, .t 7] 57 Try.f93 _ Try.func93 (by decide) rfl Try.ntmps93 (by kernel_rfl) (by kernel_rfl)
/-- slices.reverseRangeOrdered[uint32] -/
def b94 : BC := .seq (.ops [⟨some 8, none, .pure (.mov), [.t 1]⟩, ⟨some 6, none, .pure (.mov), [.t 8]⟩] [0, 2, 6]) (.seq (.ops [⟨some 9, none, .pure (.mov), [.t 2]⟩, ⟨some 10, none, .pure (.bin .sub), [.t 9, .c (.int .i64 1)]⟩, ⟨some 7, none, .pure (.mov), [.t 10]⟩] [0, 6, 7]) (.block 0 (.loop [0, 6, 7] (.seq (.seq (.ops [⟨some 11, none, .pure (.mov), [.t 6]⟩, ⟨some 12, none, .pure (.mov), [.t 7]⟩, ⟨some 13, none, .pure (.bin .lss), [.t 11, .t 12]⟩] [0, 6, 7, 13]) (.cond (.t 13) (.skip) (.exit 0))) (.block 1 (.seq (.ops [⟨some 14, none, .pure (.mov), [.t 0]⟩, ⟨some 15, none, .pure (.mov), [.t 6]⟩, ⟨some 16, none, .pure (.mov), [.t 0]⟩, ⟨some 17, none, .pure (.mov), [.t 7]⟩, ⟨some 18, none, .pure (.mov), [.t 0]⟩, ⟨some 19, none, .pure (.mov), [.t 7]⟩, ⟨some 20, none, .pure (.idx 1), [.t 18, .t 19]⟩, ⟨some 22, none, .pure (.mov), [.t 0]⟩, ⟨some 23, none, .pure (.mov), [.t 6]⟩, ⟨some 24, none, .pure (.idx 1), [.t 22, .t 23]⟩, ⟨some 21, none, .load (.ld 1 false), [.t 20]⟩, ⟨some 25, none, .load (.ld 1 false), [.t 24]⟩, ⟨some 26, none, .pure (.idx 1), [.t 14, .t 15]⟩, ⟨none, none, .loud (.st 1), [.t 26, .t 21]⟩, ⟨some 27, none, .pure (.idx 1), [.t 16, .t 17]⟩, ⟨none, none, .loud (.st 1), [.t 27, .t 25]⟩] [0, 6, 7]) (.seq (.ops [⟨some 28, none, .pure (.mov), [.t 6]⟩, ⟨some 29, none, .pure (.bin .add), [.t 28, .c (.int .i64 1)]⟩, ⟨some 6, none, .pure (.mov), [.t 29]⟩] [0, 6, 7]) (.ops [⟨some 30, none, .pure (.mov), [.t 7]⟩, ⟨some 31, none, .pure (.bin .sub), [.t 30, .c (.int .i64 1)]⟩, ⟨some 7, none, .pure (.mov), [.t 31]⟩] [0, 6, 7]))))))))
def F94 : Fn Try.prog 94 := Fn.mkX false b94 [] 32 Try.f94 _ Try.func94 (by decide) rfl Try.ntmps94 (by kernel_rfl) (by kernel_rfl)
/-- slices.partialInsertionSortOrdered[uint32] -/
def b95 : BC := .seq (.ops [⟨some 6, none, .pure (.mov), [.c (.bool false)]⟩] [0, 1, 2]) (.seq (.ops [⟨some 11, none, .pure (.mov), [.t 1]⟩, ⟨some 12, none, .pure (.bin .add), [.t 11, .c (.int .i64 1)]⟩, ⟨some 7, none, .pure (.mov), [.t 12]⟩] [0, 1, 2, 7]) (.seq (.seq (.ops [⟨some 8, none, .pure (.mov), [.c (.int .i64 0)]⟩] [0, 1, 2, 7, 8]) (.block 0 (.loop [0, 1, 2, 7, 8] (.seq (.seq (.ops [⟨some 13, none, .pure (.mov), [.t 8]⟩, ⟨some 14, none, .pure (.bin .lss), [.t 13, .c (.int .i64 5)]⟩] [0, 1, 2, 7, 8, 14]) (.cond (.t 14) (.skip) (.exit 0))) (.seq (.block 1 (.seq (.block 2 (.loop [0, 1, 2, 7, 8] (.seq (.seq (.ops [⟨some 17, none, .pure (.mov), [.t 7]⟩, ⟨some 18, none, .pure (.mov), [.t 2]⟩, ⟨some 19, none, .pure (.bin .lss), [.t 17, .t 18]⟩, ⟨some 20, none, .pure (.mov), [.t 19]⟩, ⟨some 21, some (20, true), .pure (.mov), [.t 0]⟩, ⟨some 22, some (20, true), .pure (.mov), [.t 7]⟩, ⟨some 23, some (20, true), .pure (.idx 1), [.t 21, .t 22]⟩, ⟨some 25, some (20, true), .pure (.mov), [.t 0]⟩, ⟨some 26, some (20, true), .pure (.mov), [.t 7]⟩, ⟨some 27, some (20, true), .pure (.bin .sub), [.t 26, .c (.int .i64 1)]⟩, ⟨some 28, some (20, true), .pure (.idx 1), [.t 25, .t 27]⟩, ⟨some 24, some (20, true), .load (.ld 1 false), [.t 23]⟩, ⟨some 29, some (20, true), .load (.ld 1 false), [.t 28]⟩, ⟨some 30, some (20, true), .loud (.call 96), [.t 24, .t 29]⟩, ⟨some 31, some (20, true), .pure (.not), [.t 30]⟩, ⟨some 32, none, .pick, [.t 20, .t 31, .c (.bool false)]⟩] [0, 1, 2, 7, 8, 32]) (.cond (.t 32) (.skip) (.exit 2))) (.block 3 (.ops [⟨some 33, none, .pure (.mov), [.t 7]⟩, ⟨some 34, none, .pure (.bin .add), [.t 33, .c (.int .i64 1)]⟩, ⟨some 7, none, .pure (.mov), [.t 34]⟩] [0, 1, 2, 7, 8]))))) (.seq (.seq (.ops [⟨some 35, none, .pure (.mov), [.t 7]⟩, ⟨some 36, none, .pure (.mov), [.t 2]⟩, ⟨some 37, none, .pure (.bin .eql), [.t 35, .t 36]⟩] [0, 1, 2, 7, 8, 37]) (.cond (.t 37) (.seq (.ops [⟨some 6, none, .pure (.mov), [.c (.bool true)]⟩] [6]) (.ret)) (.skip))) (.seq (.seq (.ops [⟨some 38, none, .pure (.mov), [.t 2]⟩, ⟨some 39, none, .pure (.mov), [.t 1]⟩, ⟨some 40, none, .pure (.bin .sub), [.t 38, .t 39]⟩, ⟨some 41, none, .pure (.bin .lss), [.t 40, .c (.int .i64 50)]⟩] [0, 1, 2, 7, 8, 41]) (.cond (.t 41) (.seq (.ops [⟨some 6, none, .pure (.mov), [.c (.bool false)]⟩] [6]) (.ret)) (.skip))) (.seq (.ops [⟨some 42, none, .pure (.mov), [.t 0]⟩, ⟨some 43, none, .pure (.mov), [.t 7]⟩, ⟨some 44, none, .pure (.mov), [.t 0]⟩, ⟨some 45, none, .pure (.mov), [.t 7]⟩, ⟨some 46, none, .pure (.bin .sub), [.t 45, .c (.int .i64 1)]⟩, ⟨some 47, none, .pure (.mov), [.t 0]⟩, ⟨some 48, none, .pure (.mov), [.t 7]⟩, ⟨some 49, none, .pure (.bin .sub), [.t 48, .c (.int .i64 1)]⟩, ⟨some 50, none, .pure (.idx 1), [.t 47, .t 49]⟩, ⟨some 52, none, .pure (.mov), [.t 0]⟩, ⟨some 53, none, .pure (.mov), [.t 7]⟩, ⟨some 54, none, .pure (.idx 1), [.t 52, .t 53]⟩, ⟨some 51, none, .load (.ld 1 false), [.t 50]⟩, ⟨some 55, none, .load (.ld 1 false), [.t 54]⟩, ⟨some 56, none, .pure (.idx 1), [.t 42, .t 43]⟩, ⟨none, none, .loud (.st 1), [.t 56, .t 51]⟩, ⟨some 57, none, .pure (.idx 1), [.t 44, .t 46]⟩, ⟨none, none, .loud (.st 1), [.t 57, .t 55]⟩] [0, 1, 2, 7, 8]) (.seq (.seq (.ops [⟨some 58, none, .pure (.mov), [.t 7]⟩, ⟨some 59, none, .pure (.mov), [.t 1]⟩, ⟨some 60, none, .pure (.bin .sub), [.t 58, .t 59]⟩, ⟨some 61, none, .pure (.bin .geq), [.t 60, .c (.int .i64 2)]⟩] [0, 1, 2, 7, 8, 61]) (.cond (.t 61) (.seq (.ops [⟨some 62, none, .pure (.mov), [.t 7]⟩, ⟨some 63, none, .pure (.bin .sub), [.t 62, .c (.int .i64 1)]⟩, ⟨some 9, none, .pure (.mov), [.t 63]⟩] [0, 1, 2, 7, 8, 9]) (.block 4 (.loop [0, 1, 2, 7, 8, 9] (.seq (.seq (.ops [⟨some 64, none, .pure (.mov), [.t 9]⟩, ⟨some 65, none, .pure (.bin .geq), [.t 64, .c (.int .i64 1)]⟩] [0, 1, 2, 7, 8, 9, 65]) (.cond (.t 65) (.skip) (.exit 4))) (.seq (.block 5 (.seq (.seq (.ops [⟨some 68, none, .pure (.mov), [.t 0]⟩, ⟨some 69, none, .pure (.mov), [.t 9]⟩, ⟨some 70, none, .pure (.idx 1), [.t 68, .t 69]⟩, ⟨some 72, none, .pure (.mov), [.t 0]⟩, ⟨some 73, none, .pure (.mov), [.t 9]⟩, ⟨some 74, none, .pure (.bin .sub), [.t 73, .c (.int .i64 1)]⟩, ⟨some 75, none, .pure (.idx 1), [.t 72, .t 74]⟩, ⟨some 71, none, .load (.ld 1 false), [.t 70]⟩, ⟨some 76, none, .load (.ld 1 false), [.t 75]⟩, ⟨some 77, none, .loud (.call 96), [.t 71, .t 76]⟩, ⟨some 78, none, .pure (.not), [.t 77]⟩] [0, 1, 2, 7, 8, 9, 78]) (.cond (.t 78) (.exit 4) (.skip))) (.ops [⟨some 79, none, .pure (.mov), [.t 0]⟩, ⟨some 80, none, .pure (.mov), [.t 9]⟩, ⟨some 81, none, .pure (.mov), [.t 0]⟩, ⟨some 82, none, .pure (.mov), [.t 9]⟩, ⟨some 83, none, .pure (.bin .sub), [.t 82, .c (.int .i64 1)]⟩, ⟨some 84, none, .pure (.mov), [.t 0]⟩, ⟨some 85, none, .pure (.mov), [.t 9]⟩, ⟨some 86, none, .pure (.bin .sub), [.t 85, .c (.int .i64 1)]⟩, ⟨some 87, none, .pure (.idx 1), [.t 84, .t 86]⟩, ⟨some 89, none, .pure (.mov), [.t 0]⟩, ⟨some 90, none, .pure (.mov), [.t 9]⟩, ⟨some 91, none, .pure (.idx 1), [.t 89, .t 90]⟩, ⟨some 88, none, .load (.ld 1 false), [.t 87]⟩, ⟨some 92, none, .load (.ld 1 false), [.t 91]⟩, ⟨some 93, none, .pure (.idx 1), [.t 79, .t 80]⟩, ⟨none, none, .loud (.st 1), [.t 93, .t 88]⟩, ⟨some 94, none, .pure (.idx 1), [.t 81, .t 83]⟩, ⟨none, none, .loud (.st 1), [.t 94, .t 92]⟩] [0, 1, 2, 7, 8, 9]))) (.ops [⟨some 66, none, .pure (.mov), [.t 9]⟩, ⟨some 67, none, .pure (.bin .sub), [.t 66, .c (.int .i64 1)]⟩, ⟨some 9, none, .pure (.mov), [.t 67]⟩] [0, 1, 2, 7, 8, 9])))))) (.skip))) (.seq (.ops [⟨some 95, none, .pure (.mov), [.t 2]⟩, ⟨some 96, none, .pure (.mov), [.t 7]⟩, ⟨some 97, none, .pure (.bin .sub), [.t 95, .t 96]⟩, ⟨some 98, none, .pure (.bin .geq), [.t 97, .c (.int .i64 2)]⟩] [0, 1, 2, 7, 8, 98]) (.cond (.t 98) (.seq (.ops [⟨some 99, none, .pure (.mov), [.t 7]⟩, ⟨some 100, none, .pure (.bin .add), [.t 99, .c (.int .i64 1)]⟩, ⟨some 10, none, .pure (.mov), [.t 100]⟩] [0, 1, 2, 7, 8, 10]) (.block 6 (.loop [0, 1, 2, 7, 8, 10] (.seq (.seq (.ops [⟨some 101, none, .pure (.mov), [.t 10]⟩, ⟨some 102, none, .pure (.mov), [.t 2]⟩, ⟨some 103, none, .pure (.bin .lss), [.t 101, .t 102]⟩] [0, 1, 2, 7, 8, 10, 103]) (.cond (.t 103) (.skip) (.exit 6))) (.seq (.block 7 (.seq (.seq (.ops [⟨some 106, none, .pure (.mov), [.t 0]⟩, ⟨some 107, none, .pure (.mov), [.t 10]⟩, ⟨some 108, none, .pure (.idx 1), [.t 106, .t 107]⟩, ⟨some 110, none, .pure (.mov), [.t 0]⟩, ⟨some 111, none, .pure (.mov), [.t 10]⟩, ⟨some 112, none, .pure (.bin .sub), [.t 111, .c (.int .i64 1)]⟩, ⟨some 113, none, .pure (.idx 1), [.t 110, .t 112]⟩, ⟨some 109, none, .load (.ld 1 false), [.t 108]⟩, ⟨some 114, none, .load (.ld 1 false), [.t 113]⟩, ⟨some 115, none, .loud (.call 96), [.t 109, .t 114]⟩, ⟨some 116, none, .pure (.not), [.t 115]⟩] [0, 1, 2, 7, 8, 10, 116]) (.cond (.t 116) (.exit 6) (.skip))) (.ops [⟨some 117, none, .pure (.mov), [.t 0]⟩, ⟨some 118, none, .pure (.mov), [.t 10]⟩, ⟨some 119, none, .pure (.mov), [.t 0]⟩, ⟨some 120, none, .pure (.mov), [.t 10]⟩, ⟨some 121, none, .pure (.bin .sub), [.t 120, .c (.int .i64 1)]⟩, ⟨some 122, none, .pure (.mov), [.t 0]⟩, ⟨some 123, none, .pure (.mov), [.t 10]⟩, ⟨some 124, none, .pure (.bin .sub), [.t 123, .c (.int .i64 1)]⟩, ⟨some 125, none, .pure (.idx 1), [.t 122, .t 124]⟩, ⟨some 127, none, .pure (.mov), [.t 0]⟩, ⟨some 128, none, .pure (.mov), [.t 10]⟩, ⟨some 129, none, .pure (.idx 1), [.t 127, .t 128]⟩, ⟨some 126, none, .load (.ld 1 false), [.t 125]⟩, ⟨some 130, none, .load (.ld 1 false), [.t 129]⟩, ⟨some 131, none, .pure (.idx 1), [.t 117, .t 118]⟩, ⟨none, none, .loud (.st 1), [.t 131, .t 126]⟩, ⟨some 132, none, .pure (.idx 1), [.t 119, .t 121]⟩, ⟨none, none, .loud (.st 1), [.t 132, .t 130]⟩] [0, 1, 2, 7, 8, 10]))) (.ops [⟨some 104, none, .pure (.mov), [.t 10]⟩, ⟨some 105, none, .pure (.bin .add), [.t 104, .c (.int .i64 1)]⟩, ⟨some 10, none, .pure (.mov), [.t 105]⟩] [0, 1, 2, 7, 8, 10])))))) (.skip))))))))) (.ops [⟨some 15, none, .pure (.mov), [.t 8]⟩, ⟨some 16, none, .pure (.bin .add), [.t 15, .c (.int .i64 1)]⟩, ⟨some 8, none, .pure (.mov), [.t 16]⟩] [0, 1, 2, 7, 8])))))) (.seq (.ops [⟨some 6, none, .pure (.mov), [.c (.bool false)]⟩] [6]) (.ret))))
def F95 : Fn Try.prog 95 := Fn.mkX false b95 [.t 6] 133 Try.f95 _ Try.func95 (by decide) rfl Try.ntmps95 (by kernel_rfl) (by kernel_rfl)
/-- cmp.Less[uint32] -/
def b96 : BC := .seq (.ops [⟨some 4, none, .pure (.mov), [.c (.bool false)]⟩] [0, 1]) (.seq (.ops [⟨some 5, none, .pure (.mov), [.t 0]⟩, ⟨some 6, none, .loud (.call 81), [.t 5]⟩, ⟨some 7, none, .pure (.mov), [.t 6]⟩, ⟨some 8, some (7, true), .pure (.mov), [.t 1]⟩, ⟨some 9, some (7, true), .loud (.call 81), [.t 8]⟩, ⟨some 10, some (7, true), .pure (.not), [.t 9]⟩, ⟨some 11, none, .pick, [.t 7, .t 10, .c (.bool false)]⟩, ⟨some 12, none, .pure (.mov), [.t 11]⟩, ⟨some 13, some (12, false), .pure (.mov), [.t 0]⟩, ⟨some 14, some (12, false), .pure (.mov), [.t 1]⟩, ⟨some 15, some (12, false), .pure (.bin .lss), [.t 13, .t 14]⟩, ⟨some 16, none, .pick, [.t 12, .c (.bool true), .t 15]⟩, ⟨some 4, none, .pure (.mov), [.t 16]⟩] [4]) (.ret))
def F96 : Fn Try.prog 96 := Fn.mkX false b96 [.t 4] 17 Try.f96 _ Try.func96 (by decide) rfl Try.ntmps96 (by kernel_rfl) (by kernel_rfl)
/-- slices.partitionEqualOrdered[uint32] -/
def b97 : BC := .seq (.ops [⟨some 8, none, .pure (.mov), [.c (.int .i64 0)]⟩] [0, 1, 2, 3]) (.seq (.ops [⟨some 11, none, .pure (.mov), [.t 0]⟩, ⟨some 12, none, .pure (.mov), [.t 1]⟩, ⟨some 13, none, .pure (.mov), [.t 0]⟩, ⟨some 14, none, .pure (.mov), [.t 3]⟩, ⟨some 15, none, .pure (.mov), [.t 0]⟩, ⟨some 16, none, .pure (.mov), [.t 3]⟩, ⟨some 17, none, .pure (.idx 1), [.t 15, .t 16]⟩, ⟨some 19, none, .pure (.mov), [.t 0]⟩, ⟨some 20, none, .pure (.mov), [.t 1]⟩, ⟨some 21, none, .pure (.idx 1), [.t 19, .t 20]⟩, ⟨some 18, none, .load (.ld 1 false), [.t 17]⟩, ⟨some 22, none, .load (.ld 1 false), [.t 21]⟩, ⟨some 23, none, .pure (.idx 1), [.t 11, .t 12]⟩, ⟨none, none, .loud (.st 1), [.t 23, .t 18]⟩, ⟨some 24, none, .pure (.idx 1), [.t 13, .t 14]⟩, ⟨none, none, .loud (.st 1), [.t 24, .t 22]⟩] [0, 1, 2]) (.seq (.ops [⟨some 25, none, .pure (.mov), [.t 1]⟩, ⟨some 26, none, .pure (.bin .add), [.t 25, .c (.int .i64 1)]⟩, ⟨some 27, none, .pure (.mov), [.t 2]⟩, ⟨some 28, none, .pure (.bin .sub), [.t 27, .c (.int .i64 1)]⟩, ⟨some 9, none, .pure (.mov), [.t 26]⟩, ⟨some 10, none, .pure (.mov), [.t 28]⟩] [0, 1, 9, 10]) (.seq (.block 0 (.loop [0, 1, 9, 10] (.block 1 (.seq (.block 2 (.loop [0, 1, 9, 10] (.seq (.seq (.ops [⟨some 29, none, .pure (.mov), [.t 9]⟩, ⟨some 30, none, .pure (.mov), [.t 10]⟩, ⟨some 31, none, .pure (.bin .leq), [.t 29, .t 30]⟩, ⟨some 32, none, .pure (.mov), [.t 31]⟩, ⟨some 33, some (32, true), .pure (.mov), [.t 0]⟩, ⟨some 34, some (32, true), .pure (.mov), [.t 1]⟩, ⟨some 35, some (32, true), .pure (.idx 1), [.t 33, .t 34]⟩, ⟨some 37, some (32, true), .pure (.mov), [.t 0]⟩, ⟨some 38, some (32, true), .pure (.mov), [.t 9]⟩, ⟨some 39, some (32, true), .pure (.idx 1), [.t 37, .t 38]⟩, ⟨some 36, some (32, true), .load (.ld 1 false), [.t 35]⟩, ⟨some 40, some (32, true), .load (.ld 1 false), [.t 39]⟩, ⟨some 41, some (32, true), .loud (.call 96), [.t 36, .t 40]⟩, ⟨some 42, some (32, true), .pure (.not), [.t 41]⟩, ⟨some 43, none, .pick, [.t 32, .t 42, .c (.bool false)]⟩] [0, 1, 9, 10, 43]) (.cond (.t 43) (.skip) (.exit 2))) (.block 3 (.ops [⟨some 44, none, .pure (.mov), [.t 9]⟩, ⟨some 45, none, .pure (.bin .add), [.t 44, .c (.int .i64 1)]⟩, ⟨some 9, none, .pure (.mov), [.t 45]⟩] [0, 1, 9, 10]))))) (.seq (.block 4 (.loop [0, 1, 9, 10] (.seq (.seq (.ops [⟨some 46, none, .pure (.mov), [.t 9]⟩, ⟨some 47, none, .pure (.mov), [.t 10]⟩, ⟨some 48, none, .pure (.bin .leq), [.t 46, .t 47]⟩, ⟨some 49, none, .pure (.mov), [.t 48]⟩, ⟨some 50, some (49, true), .pure (.mov), [.t 0]⟩, ⟨some 51, some (49, true), .pure (.mov), [.t 1]⟩, ⟨some 52, some (49, true), .pure (.idx 1), [.t 50, .t 51]⟩, ⟨some 54, some (49, true), .pure (.mov), [.t 0]⟩, ⟨some 55, some (49, true), .pure (.mov), [.t 10]⟩, ⟨some 56, some (49, true), .pure (.idx 1), [.t 54, .t 55]⟩, ⟨some 53, some (49, true), .load (.ld 1 false), [.t 52]⟩, ⟨some 57, some (49, true), .load (.ld 1 false), [.t 56]⟩, ⟨some 58, some (49, true), .loud (.call 96), [.t 53, .t 57]⟩, ⟨some 59, none, .pick, [.t 49, .t 58, .c (.bool false)]⟩] [0, 1, 9, 10, 59]) (.cond (.t 59) (.skip) (.exit 4))) (.block 5 (.ops [⟨some 60, none, .pure (.mov), [.t 10]⟩, ⟨some 61, none, .pure (.bin .sub), [.t 60, .c (.int .i64 1)]⟩, ⟨some 10, none, .pure (.mov), [.t 61]⟩] [0, 1, 9, 10]))))) (.seq (.seq (.ops [⟨some 62, none, .pure (.mov), [.t 9]⟩, ⟨some 63, none, .pure (.mov), [.t 10]⟩, ⟨some 64, none, .pure (.bin .gtr), [.t 62, .t 63]⟩] [0, 1, 9, 10, 64]) (.cond (.t 64) (.exit 0) (.skip))) (.seq (.ops [⟨some 65, none, .pure (.mov), [.t 0]⟩, ⟨some 66, none, .pure (.mov), [.t 9]⟩, ⟨some 67, none, .pure (.mov), [.t 0]⟩, ⟨some 68, none, .pure (.mov), [.t 10]⟩, ⟨some 69, none, .pure (.mov), [.t 0]⟩, ⟨some 70, none, .pure (.mov), [.t 10]⟩, ⟨some 71, none, .pure (.idx 1), [.t 69, .t 70]⟩, ⟨some 73, none, .pure (.mov), [.t 0]⟩, ⟨some 74, none, .pure (.mov), [.t 9]⟩, ⟨some 75, none, .pure (.idx 1), [.t 73, .t 74]⟩, ⟨some 72, none, .load (.ld 1 false), [.t 71]⟩, ⟨some 76, none, .load (.ld 1 false), [.t 75]⟩, ⟨some 77, none, .pure (.idx 1), [.t 65, .t 66]⟩, ⟨none, none, .loud (.st 1), [.t 77, .t 72]⟩, ⟨some 78, none, .pure (.idx 1), [.t 67, .t 68]⟩, ⟨none, none, .loud (.st 1), [.t 78, .t 76]⟩] [0, 1, 9, 10]) (.seq (.ops [⟨some 79, none, .pure (.mov), [.t 9]⟩, ⟨some 80, none, .pure (.bin .add), [.t 79, .c (.int .i64 1)]⟩, ⟨some 9, none, .pure (.mov), [.t 80]⟩] [0, 1, 9, 10]) (.ops [⟨some 81, none, .pure (.mov), [.t 10]⟩, ⟨some 82, none, .pure (.bin .sub), [.t 81, .c (.int .i64 1)]⟩, ⟨some 10, none, .pure (.mov), [.t 82]⟩] [0, 1, 9, 10]))))))))) (.seq (.ops [⟨some 83, none, .pure (.mov), [.t 9]⟩, ⟨some 8, none, .pure (.mov), [.t 83]⟩] [8]) (.ret)))))
def F97 : Fn Try.prog 97 := Fn.mkX false b97 [.t 8] 84 Try.f97 _ Try.func97 (by decide) rfl Try.ntmps97 (by kernel_rfl) (by kernel_rfl)
/-- slices.partitionOrdered[uint32] -/
def b98 : BC := .seq (.ops [⟨some 8, none, .pure (.mov), [.c (.int .i64 0)]⟩, ⟨some 9, none, .pure (.mov), [.c (.bool false)]⟩] [0, 1, 2, 3]) (.seq (.ops [⟨some 12, none, .pure (.mov), [.t 0]⟩, ⟨some 13, none, .pure (.mov), [.t 1]⟩, ⟨some 14, none, .pure (.mov), [.t 0]⟩, ⟨some 15, none, .pure (.mov), [.t 3]⟩, ⟨some 16, none, .pure (.mov), [.t 0]⟩, ⟨some 17, none, .pure (.mov), [.t 3]⟩, ⟨some 18, none, .pure (.idx 1), [.t 16, .t 17]⟩, ⟨some 20, none, .pure (.mov), [.t 0]⟩, ⟨some 21, none, .pure (.mov), [.t 1]⟩, ⟨some 22, none, .pure (.idx 1), [.t 20, .t 21]⟩, ⟨some 19, none, .load (.ld 1 false), [.t 18]⟩, ⟨some 23, none, .load (.ld 1 false), [.t 22]⟩, ⟨some 24, none, .pure (.idx 1), [.t 12, .t 13]⟩, ⟨none, none, .loud (.st 1), [.t 24, .t 19]⟩, ⟨some 25, none, .pure (.idx 1), [.t 14, .t 15]⟩, ⟨none, none, .loud (.st 1), [.t 25, .t 23]⟩] [0, 1, 2]) (.seq (.ops [⟨some 26, none, .pure (.mov), [.t 1]⟩, ⟨some 27, none, .pure (.bin .add), [.t 26, .c (.int .i64 1)]⟩, ⟨some 28, none, .pure (.mov), [.t 2]⟩, ⟨some 29, none, .pure (.bin .sub), [.t 28, .c (.int .i64 1)]⟩, ⟨some 10, none, .pure (.mov), [.t 27]⟩, ⟨some 11, none, .pure (.mov), [.t 29]⟩] [0, 1, 10, 11]) (.seq (.block 0 (.loop [0, 1, 10, 11] (.seq (.seq (.ops [⟨some 30, none, .pure (.mov), [.t 10]⟩, ⟨some 31, none, .pure (.mov), [.t 11]⟩, ⟨some 32, none, .pure (.bin .leq), [.t 30, .t 31]⟩, ⟨some 33, none, .pure (.mov), [.t 32]⟩, ⟨some 34, some (33, true), .pure (.mov), [.t 0]⟩, ⟨some 35, some (33, true), .pure (.mov), [.t 10]⟩, ⟨some 36, some (33, true), .pure (.idx 1), [.t 34, .t 35]⟩, ⟨some 38, some (33, true), .pure (.mov), [.t 0]⟩, ⟨some 39, some (33, true), .pure (.mov), [.t 1]⟩, ⟨some 40, some (33, true), .pure (.idx 1), [.t 38, .t 39]⟩, ⟨some 37, some (33, true), .load (.ld 1 false), [.t 36]⟩, ⟨some 41, some (33, true), .load (.ld 1 false), [.t 40]⟩, ⟨some 42, some (33, true), .loud (.call 96), [.t 37, .t 41]⟩, ⟨some 43, none, .pick, [.t 33, .t 42, .c (.bool false)]⟩] [0, 1, 10, 11, 43]) (.cond (.t 43) (.skip) (.exit 0))) (.block 1 (.ops [⟨some 44, none, .pure (.mov), [.t 10]⟩, ⟨some 45, none, .pure (.bin .add), [.t 44, .c (.int .i64 1)]⟩, ⟨some 10, none, .pure (.mov), [.t 45]⟩] [0, 1, 10, 11]))))) (.seq (.block 2 (.loop [0, 1, 10, 11] (.seq (.seq (.ops [⟨some 46, none, .pure (.mov), [.t 10]⟩, ⟨some 47, none, .pure (.mov), [.t 11]⟩, ⟨some 48, none, .pure (.bin .leq), [.t 46, .t 47]⟩, ⟨some 49, none, .pure (.mov), [.t 48]⟩, ⟨some 50, some (49, true), .pure (.mov), [.t 0]⟩, ⟨some 51, some (49, true), .pure (.mov), [.t 11]⟩, ⟨some 52, some (49, true), .pure (.idx 1), [.t 50, .t 51]⟩, ⟨some 54, some (49, true), .pure (.mov), [.t 0]⟩, ⟨some 55, some (49, true), .pure (.mov), [.t 1]⟩, ⟨some 56, some (49, true), .pure (.idx 1), [.t 54, .t 55]⟩, ⟨some 53, some (49, true), .load (.ld 1 false), [.t 52]⟩, ⟨some 57, some (49, true), .load (.ld 1 false), [.t 56]⟩, ⟨some 58, some (49, true), .loud (.call 96), [.t 53, .t 57]⟩, ⟨some 59, some (49, true), .pure (.not), [.t 58]⟩, ⟨some 60, none, .pick, [.t 49, .t 59, .c (.bool false)]⟩] [0, 1, 10, 11, 60]) (.cond (.t 60) (.skip) (.exit 2))) (.block 3 (.ops [⟨some 61, none, .pure (.mov), [.t 11]⟩, ⟨some 62, none, .pure (.bin .sub), [.t 61, .c (.int .i64 1)]⟩, ⟨some 11, none, .pure (.mov), [.t 62]⟩] [0, 1, 10, 11]))))) (.seq (.seq (.ops [⟨some 63, none, .pure (.mov), [.t 10]⟩, ⟨some 64, none, .pure (.mov), [.t 11]⟩, ⟨some 65, none, .pure (.bin .gtr), [.t 63, .t 64]⟩] [0, 1, 10, 11, 65]) (.cond (.t 65) (.seq (.ops [⟨some 66, none, .pure (.mov), [.t 0]⟩, ⟨some 67, none, .pure (.mov), [.t 11]⟩, ⟨some 68, none, .pure (.mov), [.t 0]⟩, ⟨some 69, none, .pure (.mov), [.t 1]⟩, ⟨some 70, none, .pure (.mov), [.t 0]⟩, ⟨some 71, none, .pure (.mov), [.t 1]⟩, ⟨some 72, none, .pure (.idx 1), [.t 70, .t 71]⟩, ⟨some 74, none, .pure (.mov), [.t 0]⟩, ⟨some 75, none, .pure (.mov), [.t 11]⟩, ⟨some 76, none, .pure (.idx 1), [.t 74, .t 75]⟩, ⟨some 73, none, .load (.ld 1 false), [.t 72]⟩, ⟨some 77, none, .load (.ld 1 false), [.t 76]⟩, ⟨some 78, none, .pure (.idx 1), [.t 66, .t 67]⟩, ⟨none, none, .loud (.st 1), [.t 78, .t 73]⟩, ⟨some 79, none, .pure (.idx 1), [.t 68, .t 69]⟩, ⟨none, none, .loud (.st 1), [.t 79, .t 77]⟩] [11]) (.seq (.ops [⟨some 80, none, .pure (.mov), [.t 11]⟩, ⟨some 8, none, .pure (.mov), [.t 80]⟩, ⟨some 9, none, .pure (.mov), [.c (.bool true)]⟩] [8, 9]) (.ret))) (.skip))) (.seq (.ops [⟨some 81, none, .pure (.mov), [.t 0]⟩, ⟨some 82, none, .pure (.mov), [.t 10]⟩, ⟨some 83, none, .pure (.mov), [.t 0]⟩, ⟨some 84, none, .pure (.mov), [.t 11]⟩, ⟨some 85, none, .pure (.mov), [.t 0]⟩, ⟨some 86, none, .pure (.mov), [.t 11]⟩, ⟨some 87, none, .pure (.idx 1), [.t 85, .t 86]⟩, ⟨some 89, none, .pure (.mov), [.t 0]⟩, ⟨some 90, none, .pure (.mov), [.t 10]⟩, ⟨some 91, none, .pure (.idx 1), [.t 89, .t 90]⟩, ⟨some 88, none, .load (.ld 1 false), [.t 87]⟩, ⟨some 92, none, .load (.ld 1 false), [.t 91]⟩, ⟨some 93, none, .pure (.idx 1), [.t 81, .t 82]⟩, ⟨none, none, .loud (.st 1), [.t 93, .t 88]⟩, ⟨some 94, none, .pure (.idx 1), [.t 83, .t 84]⟩, ⟨none, none, .loud (.st 1), [.t 94, .t 92]⟩] [0, 1, 10, 11]) (.seq (.ops [⟨some 95, none, .pure (.mov), [.t 10]⟩, ⟨some 96, none, .pure (.bin .add), [.t 95, .c (.int .i64 1)]⟩, ⟨some 10, none, .pure (.mov), [.t 96]⟩] [0, 1, 10, 11]) (.seq (.ops [⟨some 97, none, .pure (.mov), [.t 11]⟩, ⟨some 98, none, .pure (.bin .sub), [.t 97, .c (.int .i64 1)]⟩, ⟨some 11, none, .pure (.mov), [.t 98]⟩] [0, 1, 10, 11]) (.seq (.block 4 (.loop [0, 1, 10, 11] (.block 5 (.seq (.block 6 (.loop [0, 1, 10, 11] (.seq (.seq (.ops [⟨some 99, none, .pure (.mov), [.t 10]⟩, ⟨some 100, none, .pure (.mov), [.t 11]⟩, ⟨some 101, none, .pure (.bin .leq), [.t 99, .t 100]⟩, ⟨some 102, none, .pure (.mov), [.t 101]⟩, ⟨some 103, some (102, true), .pure (.mov), [.t 0]⟩, ⟨some 104, some (102, true), .pure (.mov), [.t 10]⟩, ⟨some 105, some (102, true), .pure (.idx 1), [.t 103, .t 104]⟩, ⟨some 107, some (102, true), .pure (.mov), [.t 0]⟩, ⟨some 108, some (102, true), .pure (.mov), [.t 1]⟩, ⟨some 109, some (102, true), .pure (.idx 1), [.t 107, .t 108]⟩, ⟨some 106, some (102, true), .load (.ld 1 false), [.t 105]⟩, ⟨some 110, some (102, true), .load (.ld 1 false), [.t 109]⟩, ⟨some 111, some (102, true), .loud (.call 96), [.t 106, .t 110]⟩, ⟨some 112, none, .pick, [.t 102, .t 111, .c (.bool false)]⟩] [0, 1, 10, 11, 112]) (.cond (.t 112) (.skip) (.exit 6))) (.block 7 (.ops [⟨some 113, none, .pure (.mov), [.t 10]⟩, ⟨some 114, none, .pure (.bin .add), [.t 113, .c (.int .i64 1)]⟩, ⟨some 10, none, .pure (.mov), [.t 114]⟩] [0, 1, 10, 11]))))) (.seq (.block 8 (.loop [0, 1, 10, 11] (.seq (.seq (.ops [⟨some 115, none, .pure (.mov), [.t 10]⟩, ⟨some 116, none, .pure (.mov), [.t 11]⟩, ⟨some 117, none, .pure (.bin .leq), [.t 115, .t 116]⟩, ⟨some 118, none, .pure (.mov), [.t 117]⟩, ⟨some 119, some (118, true), .pure (.mov), [.t 0]⟩, ⟨some 120, some (118, true), .pure (.mov), [.t 11]⟩, ⟨some 121, some (118, true), .pure (.idx 1), [.t 119, .t 120]⟩, ⟨some 123, some (118, true), .pure (.mov), [.t 0]⟩, ⟨some 124, some (118, true), .pure (.mov), [.t 1]⟩, ⟨some 125, some (118, true), .pure (.idx 1), [.t 123, .t 124]⟩, ⟨some 122, some (118, true), .load (.ld 1 false), [.t 121]⟩, ⟨some 126, some (118, true), .load (.ld 1 false), [.t 125]⟩, ⟨some 127, some (118, true), .loud (.call 96), [.t 122, .t 126]⟩, ⟨some 128, some (118, true), .pure (.not), [.t 127]⟩, ⟨some 129, none, .pick, [.t 118, .t 128, .c (.bool false)]⟩] [0, 1, 10, 11, 129]) (.cond (.t 129) (.skip) (.exit 8))) (.block 9 (.ops [⟨some 130, none, .pure (.mov), [.t 11]⟩, ⟨some 131, none, .pure (.bin .sub), [.t 130, .c (.int .i64 1)]⟩, ⟨some 11, none, .pure (.mov), [.t 131]⟩] [0, 1, 10, 11]))))) (.seq (.seq (.ops [⟨some 132, none, .pure (.mov), [.t 10]⟩, ⟨some 133, none, .pure (.mov), [.t 11]⟩, ⟨some 134, none, .pure (.bin .gtr), [.t 132, .t 133]⟩] [0, 1, 10, 11, 134]) (.cond (.t 134) (.exit 4) (.skip))) (.seq (.ops [⟨some 135, none, .pure (.mov), [.t 0]⟩, ⟨some 136, none, .pure (.mov), [.t 10]⟩, ⟨some 137, none, .pure (.mov), [.t 0]⟩, ⟨some 138, none, .pure (.mov), [.t 11]⟩, ⟨some 139, none, .pure (.mov), [.t 0]⟩, ⟨some 140, none, .pure (.mov), [.t 11]⟩, ⟨some 141, none, .pure (.idx 1), [.t 139, .t 140]⟩, ⟨some 143, none, .pure (.mov), [.t 0]⟩, ⟨some 144, none, .pure (.mov), [.t 10]⟩, ⟨some 145, none, .pure (.idx 1), [.t 143, .t 144]⟩, ⟨some 142, none, .load (.ld 1 false), [.t 141]⟩, ⟨some 146, none, .load (.ld 1 false), [.t 145]⟩, ⟨some 147, none, .pure (.idx 1), [.t 135, .t 136]⟩, ⟨none, none, .loud (.st 1), [.t 147, .t 142]⟩, ⟨some 148, none, .pure (.idx 1), [.t 137, .t 138]⟩, ⟨none, none, .loud (.st 1), [.t 148, .t 146]⟩] [0, 1, 10, 11]) (.seq (.ops [⟨some 149, none, .pure (.mov), [.t 10]⟩, ⟨some 150, none, .pure (.bin .add), [.t 149, .c (.int .i64 1)]⟩, ⟨some 10, none, .pure (.mov), [.t 150]⟩] [0, 1, 10, 11]) (.ops [⟨some 151, none, .pure (.mov), [.t 11]⟩, ⟨some 152, none, .pure (.bin .sub), [.t 151, .c (.int .i64 1)]⟩, ⟨some 11, none, .pure (.mov), [.t 152]⟩] [0, 1, 10, 11]))))))))) (.seq (.ops [⟨some 153, none, .pure (.mov), [.t 0]⟩, ⟨some 154, none, .pure (.mov), [.t 11]⟩, ⟨some 155, none, .pure (.mov), [.t 0]⟩, ⟨some 156, none, .pure (.mov), [.t 1]⟩, ⟨some 157, none, .pure (.mov), [.t 0]⟩, ⟨some 158, none, .pure (.mov), [.t 1]⟩, ⟨some 159, none, .pure (.idx 1), [.t 157, .t 158]⟩, ⟨some 161, none, .pure (.mov), [.t 0]⟩, ⟨some 162, none, .pure (.mov), [.t 11]⟩, ⟨some 163, none, .pure (.idx 1), [.t 161, .t 162]⟩, ⟨some 160, none, .load (.ld 1 false), [.t 159]⟩, ⟨some 164, none, .load (.ld 1 false), [.t 163]⟩, ⟨some 165, none, .pure (.idx 1), [.t 153, .t 154]⟩, ⟨none, none, .loud (.st 1), [.t 165, .t 160]⟩, ⟨some 166, none, .pure (.idx 1), [.t 155, .t 156]⟩, ⟨none, none, .loud (.st 1), [.t 166, .t 164]⟩] [11]) (.seq (.ops [⟨some 167, none, .pure (.mov), [.t 11]⟩, ⟨some 8, none, .pure (.mov), [.t 167]⟩, ⟨some 9, none, .pure (.mov), [.c (.bool false)]⟩] [8, 9]) (.ret))))))))))))
def F98 : Fn Try.prog 98 := Fn.mkX false b98 [.t 8, .t 9] 168 Try.f98 _ Try.func98 (by decide) rfl Try.ntmps98 (by kernel_rfl) (by kernel_rfl)
/-- slices.siftDownOrdered[uint32] -/
def b100 : BC := .seq (.ops [⟨some 10, none, .pure (.mov), [.t 1]⟩, ⟨some 8, none, .pure (.mov), [.t 10]⟩] [0, 2, 3, 8]) (.block 0 (.loop [0, 2, 3, 8] (.block 1 (.seq (.ops [⟨some 11, none, .pure (.mov), [.t 8]⟩, ⟨some 12, none, .pure (.bin .mul), [.c (.int .i64 2), .t 11]⟩, ⟨some 13, none, .pure (.bin .add), [.t 12, .c (.int .i64 1)]⟩, ⟨some 9, none, .pure (.mov), [.t 13]⟩] [0, 2, 3, 8, 9]) (.seq (.seq (.ops [⟨some 14, none, .pure (.mov), [.t 9]⟩, ⟨some 15, none, .pure (.mov), [.t 2]⟩, ⟨some 16, none, .pure (.bin .geq), [.t 14, .t 15]⟩] [0, 2, 3, 8, 9, 16]) (.cond (.t 16) (.exit 0) (.skip))) (.seq (.seq (.ops [⟨some 17, none, .pure (.mov), [.t 9]⟩, ⟨some 18, none, .pure (.bin .add), [.t 17, .c (.int .i64 1)]⟩, ⟨some 19, none, .pure (.mov), [.t 2]⟩, ⟨some 20, none, .pure (.bin .lss), [.t 18, .t 19]⟩, ⟨some 21, none, .pure (.mov), [.t 20]⟩, ⟨some 22, some (21, true), .pure (.mov), [.t 0]⟩, ⟨some 23, some (21, true), .pure (.mov), [.t 3]⟩, ⟨some 24, some (21, true), .pure (.mov), [.t 9]⟩, ⟨some 25, some (21, true), .pure (.bin .add), [.t 23, .t 24]⟩, ⟨some 26, some (21, true), .pure (.idx 1), [.t 22, .t 25]⟩, ⟨some 28, some (21, true), .pure (.mov), [.t 0]⟩, ⟨some 29, some (21, true), .pure (.mov), [.t 3]⟩, ⟨some 30, some (21, true), .pure (.mov), [.t 9]⟩, ⟨some 31, some (21, true), .pure (.bin .add), [.t 29, .t 30]⟩, ⟨some 32, some (21, true), .pure (.bin .add), [.t 31, .c (.int .i64 1)]⟩, ⟨some 33, some (21, true), .pure (.idx 1), [.t 28, .t 32]⟩, ⟨some 27, some (21, true), .load (.ld 1 false), [.t 26]⟩, ⟨some 34, some (21, true), .load (.ld 1 false), [.t 33]⟩, ⟨some 35, some (21, true), .loud (.call 96), [.t 27, .t 34]⟩, ⟨some 36, none, .pick, [.t 21, .t 35, .c (.bool false)]⟩] [0, 2, 3, 8, 9, 36]) (.cond (.t 36) (.ops [⟨some 37, none, .pure (.mov), [.t 9]⟩, ⟨some 38, none, .pure (.bin .add), [.t 37, .c (.int .i64 1)]⟩, ⟨some 9, none, .pure (.mov), [.t 38]⟩] [0, 2, 3, 8, 9]) (.skip))) (.seq (.seq (.ops [⟨some 39, none, .pure (.mov), [.t 0]⟩, ⟨some 40, none, .pure (.mov), [.t 3]⟩, ⟨some 41, none, .pure (.mov), [.t 8]⟩, ⟨some 42, none, .pure (.bin .add), [.t 40, .t 41]⟩, ⟨some 43, none, .pure (.idx 1), [.t 39, .t 42]⟩, ⟨some 45, none, .pure (.mov), [.t 0]⟩, ⟨some 46, none, .pure (.mov), [.t 3]⟩, ⟨some 47, none, .pure (.mov), [.t 9]⟩, ⟨some 48, none, .pure (.bin .add), [.t 46, .t 47]⟩, ⟨some 49, none, .pure (.idx 1), [.t 45, .t 48]⟩, ⟨some 44, none, .load (.ld 1 false), [.t 43]⟩, ⟨some 50, none, .load (.ld 1 false), [.t 49]⟩, ⟨some 51, none, .loud (.call 96), [.t 44, .t 50]⟩, ⟨some 52, none, .pure (.not), [.t 51]⟩] [0, 2, 3, 8, 9, 52]) (.cond (.t 52) (.ret) (.skip))) (.seq (.ops [⟨some 53, none, .pure (.mov), [.t 0]⟩, ⟨some 54, none, .pure (.mov), [.t 3]⟩, ⟨some 55, none, .pure (.mov), [.t 8]⟩, ⟨some 56, none, .pure (.bin .add), [.t 54, .t 55]⟩, ⟨some 57, none, .pure (.mov), [.t 0]⟩, ⟨some 58, none, .pure (.mov), [.t 3]⟩, ⟨some 59, none, .pure (.mov), [.t 9]⟩, ⟨some 60, none, .pure (.bin .add), [.t 58, .t 59]⟩, ⟨some 61, none, .pure (.mov), [.t 0]⟩, ⟨some 62, none, .pure (.mov), [.t 3]⟩, ⟨some 63, none, .pure (.mov), [.t 9]⟩, ⟨some 64, none, .pure (.bin .add), [.t 62, .t 63]⟩, ⟨some 65, none, .pure (.idx 1), [.t 61, .t 64]⟩, ⟨some 67, none, .pure (.mov), [.t 0]⟩, ⟨some 68, none, .pure (.mov), [.t 3]⟩, ⟨some 69, none, .pure (.mov), [.t 8]⟩, ⟨some 70, none, .pure (.bin .add), [.t 68, .t 69]⟩, ⟨some 71, none, .pure (.idx 1), [.t 67, .t 70]⟩, ⟨some 66, none, .load (.ld 1 false), [.t 65]⟩, ⟨some 72, none, .load (.ld 1 false), [.t 71]⟩, ⟨some 73, none, .pure (.idx 1), [.t 53, .t 56]⟩, ⟨none, none, .loud (.st 1), [.t 73, .t 66]⟩, ⟨some 74, none, .pure (.idx 1), [.t 57, .t 60]⟩, ⟨none, none, .loud (.st 1), [.t 74, .t 72]⟩] [0, 2, 3, 9]) (.ops [⟨some 75, none, .pure (.mov), [.t 9]⟩, ⟨some 8, none, .pure (.mov), [.t 75]⟩] [0, 2, 3, 8])))))))))
def F100 : Fn Try.prog 100 := Fn.mkX false b100 [] 76 Try.f100 _ Try.func100 (by decide) rfl Try.ntmps100 (by kernel_rfl) (by kernel_rfl)
/-- slices.medianAdjacentOrdered[uint32] -/
def b101 : BC := .seq (.ops [⟨some 6, none, .pure (.mov), [.c (.int .i64 0)]⟩] [0, 1, 2]) (.seq (.ops [⟨some 7, none, .pure (.mov), [.t 0]⟩, ⟨some 8, none, .pure (.mov), [.t 1]⟩, ⟨some 9, none, .pure (.bin .sub), [.t 8, .c (.int .i64 1)]⟩, ⟨some 10, none, .pure (.mov), [.t 1]⟩, ⟨some 11, none, .pure (.mov), [.t 1]⟩, ⟨some 12, none, .pure (.bin .add), [.t 11, .c (.int .i64 1)]⟩, ⟨some 13, none, .pure (.mov), [.t 2]⟩, ⟨some 14, none, .loud (.call 102), [.t 7, .t 9, .t 10, .t 12, .t 13]⟩, ⟨some 6, none, .pure (.mov), [.t 14]⟩] [6]) (.ret))
def F101 : Fn Try.prog 101 := Fn.mkX false b101 [.t 6] 15 Try.f101 _ Try.func101 (by decide) rfl Try.ntmps101 (by kernel_rfl) (by kernel_rfl)
/-- slices.medianOrdered[uint32] -/
def b102 : BC := .seq (.ops [⟨some 10, none, .pure (.mov), [.c (.int .i64 0)]⟩] [0, 1, 2, 3, 4]) (.seq (.ops [⟨some 12, none, .pure (.mov), [.t 0]⟩, ⟨some 13, none, .pure (.mov), [.t 1]⟩, ⟨some 14, none, .pure (.mov), [.t 2]⟩, ⟨some 15, none, .pure (.mov), [.t 4]⟩, ⟨some 16, none, .loud (.call 103), [.t 12, .t 13, .t 14, .t 15]⟩, ⟨some 11, none, .pure (.mov), [.t 16]⟩, ⟨some 17, none, .pure (.ext 0), [.t 11]⟩, ⟨some 18, none, .pure (.ext 1), [.t 11]⟩, ⟨some 1, none, .pure (.mov), [.t 17]⟩, ⟨some 2, none, .pure (.mov), [.t 18]⟩] [0, 1, 2, 3, 4]) (.seq (.ops [⟨some 20, none, .pure (.mov), [.t 0]⟩, ⟨some 21, none, .pure (.mov), [.t 2]⟩, ⟨some 22, none, .pure (.mov), [.t 3]⟩, ⟨some 23, none, .pure (.mov), [.t 4]⟩, ⟨some 24, none, .loud (.call 103), [.t 20, .t 21, .t 22, .t 23]⟩, ⟨some 19, none, .pure (.mov), [.t 24]⟩, ⟨some 25, none, .pure (.ext 0), [.t 19]⟩, ⟨some 26, none, .pure (.ext 1), [.t 19]⟩, ⟨some 2, none, .pure (.mov), [.t 25]⟩, ⟨some 3, none, .pure (.mov), [.t 26]⟩] [0, 1, 2, 4]) (.seq (.ops [⟨some 28, none, .pure (.mov), [.t 0]⟩, ⟨some 29, none, .pure (.mov), [.t 1]⟩, ⟨some 30, none, .pure (.mov), [.t 2]⟩, ⟨some 31, none, .pure (.mov), [.t 4]⟩, ⟨some 32, none, .loud (.call 103), [.t 28, .t 29, .t 30, .t 31]⟩, ⟨some 27, none, .pure (.mov), [.t 32]⟩, ⟨some 33, none, .pure (.ext 0), [.t 27]⟩, ⟨some 34, none, .pure (.ext 1), [.t 27]⟩, ⟨some 1, none, .pure (.mov), [.t 33]⟩, ⟨some 2, none, .pure (.mov), [.t 34]⟩] [2]) (.seq (.ops [⟨some 35, none, .pure (.mov), [.t 2]⟩, ⟨some 10, none, .pure (.mov), [.t 35]⟩] [10]) (.ret)))))
def F102 : Fn Try.prog 102 := Fn.mkX false b102 [.t 10] 36 Try.f102 _ Try.func102 (by decide) rfl Try.ntmps102 (by kernel_rfl) (by kernel_rfl)
/-- slices.order2Ordered[uint32] -/
def b103 : BC := .seq (.ops [⟨some 8, none, .pure (.mov), [.c (.int .i64 0)]⟩, ⟨some 9, none, .pure (.mov), [.c (.int .i64 0)]⟩] [0, 1, 2, 3]) (.seq (.seq (.ops [⟨some 10, none, .pure (.mov), [.t 0]⟩, ⟨some 11, none, .pure (.mov), [.t 2]⟩, ⟨some 12, none, .pure (.idx 1), [.t 10, .t 11]⟩, ⟨some 14, none, .pure (.mov), [.t 0]⟩, ⟨some 15, none, .pure (.mov), [.t 1]⟩, ⟨some 16, none, .pure (.idx 1), [.t 14, .t 15]⟩, ⟨some 13, none, .load (.ld 1 false), [.t 12]⟩, ⟨some 17, none, .load (.ld 1 false), [.t 16]⟩, ⟨some 18, none, .loud (.call 96), [.t 13, .t 17]⟩] [1, 2, 3, 18]) (.cond (.t 18) (.seq (.ops [⟨some 19, none, .pure (.mov), [.t 3]⟩, ⟨some 20, none, .pure (.nilchk), [.t 19]⟩, ⟨some 21, none, .load (.ld 1 false), [.t 20]⟩, ⟨some 22, none, .pure (.bin .add), [.t 21, .c (.int .i64 1)]⟩, ⟨some 23, none, .pure (.nilchk), [.t 19]⟩, ⟨none, none, .loud (.st 1), [.t 23, .t 22]⟩] [1, 2]) (.seq (.ops [⟨some 24, none, .pure (.mov), [.t 2]⟩, ⟨some 25, none, .pure (.mov), [.t 1]⟩, ⟨some 8, none, .pure (.mov), [.t 24]⟩, ⟨some 9, none, .pure (.mov), [.t 25]⟩] [8, 9]) (.ret))) (.skip))) (.seq (.ops [⟨some 26, none, .pure (.mov), [.t 1]⟩, ⟨some 27, none, .pure (.mov), [.t 2]⟩, ⟨some 8, none, .pure (.mov), [.t 26]⟩, ⟨some 9, none, .pure (.mov), [.t 27]⟩] [8, 9]) (.ret)))
def F103 : Fn Try.prog 103 := Fn.mkX false b103 [.t 8, .t 9] 28 Try.f103 _ Try.func103 (by decide) rfl Try.ntmps103 (by kernel_rfl) (by kernel_rfl)
end Go.Am.Tst

/- U2 -/
namespace Go.Am
open Go.Proofs Go.Sort
/-- Numbers of 32 bits, one a cell. -/
def cU (x : Int) : List AV := [.int .u32 x]
def cfU (x y : Int) : Int := x - y
def ltU (x y : Int) : Bool := decide (cfU x y < 0)
abbrev LessU : Prop := ∀ x y : Int, Pur Try.prog 96 [.int .u32 x, .int .u32 y] (.bool (decide (cfU x y < 0)))
theorem c81 (x : Int) : Pur Try.prog 81 [.int .u32 x] (.bool false) := by
  refine pur_of Tst.F81 (by simp [Tst.F81, Fn.mkX]) fun σ => ?_
  simp only [Tst.F81, Fn.mkX, Tst.b81]
  simp only [↓vcPre, ↓wit_get, ↓reduceIte, vcPost, vcStd, Nat.reduceEqDiff, reduceCtorEq, Nat.reduceAdd, Nat.reduceLeDiff, Int.reduceLT, Int.reduceLE, ↓u_setN]
theorem lessU : LessU := by
  intro x y
  refine pur_of Tst.F96 (by simp [Tst.F96, Fn.mkX]) fun σ => ?_
  simp only [Tst.F96, Fn.mkX, Tst.b96]
  simp only [↓vcPre, ↓wit_get, ↓reduceIte, vcPost, vcStd, Nat.reduceEqDiff, reduceCtorEq, Nat.reduceAdd, Nat.reduceLeDiff, Int.reduceLT, Int.reduceLE, ↓u_setN]
  refine (c81 x).Q ?_
  simp only [↓vcPre, ↓wit_get, ↓reduceIte, vcPost, vcStd, Nat.reduceEqDiff, reduceCtorEq, Nat.reduceAdd, Nat.reduceLeDiff, Int.reduceLT, Int.reduceLE, ↓u_setN]
  have e : decide (x < y) = decide (cfU x y < 0) := by
    rw [Bool.eq_iff_iff, decide_eq_true_eq, decide_eq_true_eq]; unfold cfU; omega
  rw [e]
end Go.Am

/- O2 -/
namespace Go.Am
open Go.Proofs Go.Sort
set_option linter.unusedSectionVars false
variable {β : Type} [Inhabited β]

/-- An array of such things. -/
def arrA (k : Nat) (c : β → List AV) (d : Array β) : Obj := .arr k (d.toList.map c)
theorem s_arr {k : Nat} {c : β → List AV} {d : Array β} : arrO k (some (arrA k c d)) = some (d.toList.map c) := u_arr
theorem s_get {c : β → List AV} {d : Array β} {j : Nat} {K : List AV → Prop} : wit ((d.toList.map c)[j]?) K ↔ j < d.size ∧ K (c d[j]!) := by
  rw [wit_get]
  constructor
  · rintro ⟨h, k⟩
    have h' : j < d.size := by simpa using h
    refine ⟨h', ?_⟩
    rw [getElem!_pos d j h']
    simpa using k
  · rintro ⟨h, k⟩
    refine ⟨by simpa using h, ?_⟩
    rw [getElem!_pos d j h] at k
    simpa using k
theorem s_setL {c : β → List AV} {d : Array β} {j : Nat} {x : β} : (d.toList.map c).set j (c x) = (d.setIfInBounds j x).toList.map c := by simp [List.map_set]
theorem s_fold {k : Nat} {c : β → List AV} {d : Array β} : Obj.arr k (d.toList.map c) = arrA k c d := rfl
theorem splice_all : ∀ (a b : List AV), a.length = b.length → splice 0 a b = some a
  | [], [], _ => rfl
  | a :: l, b :: m, h => by
    have := splice_all l m (by simpa using h)
    simp [splice, this]
/-- What is known of the comparison. -/
structure Cmp (P : Program) (g : Nat) (caps : List AV) (k : Nat) (c : β → List AV) (cf : β → β → Int) : Prop where
  hk : ∀ x, (c x).length = k
  call : ∀ x y, Pur P g ([.agg (c x), .agg (c y)] ++ caps) (.int .i64 (cf x y))
theorem swp_size (d : Array β) (i j : Nat) : (swp d i j).size = d.size := by simp [swp]

theorem s_setU {d : Array Int} {j : Nat} {x : Int} : (d.toList.map cU).set j [.int .u32 x] = (d.setIfInBounds j x).toList.map cU := s_setL (c := cU)
section
theorem s90 (hc : LessU) (d : Array Int) (a b : Nat) (hab : a ≤ b) (hb : b ≤ d.size) (hs : d.size < 4611686018427387904) (σ : Store) (id : Nat) :
    ACalls Try.prog 90 [.os id 1 0 d.size, .int .i64 a, .int .i64 b] (σ.set id (arrA 1 cU d)) (fun r s => r = .tup [] ∧ s = σ.set id (arrA 1 cU (insertionSort ltU d a b))) := by
  refine calls_of Tst.F90 (by simp [Tst.F90, Fn.mkX]) ?_
  simp only [Tst.F90, Fn.mkX, Tst.b90]
  simp only [cU, s_setU, ↓vcPre, ↓s_get, ↓reduceIte, vcPost, vcStd, Store.set_set, s_arr, s_setL, s_fold, swp_size, Nat.le_refl, Nat.zero_add, Array.size_setIfInBounds, Nat.reduceEqDiff, reduceCtorEq, Nat.reduceAdd, Nat.reduceLeDiff, Int.reduceLT, Int.reduceLE, ↓u_setN]
  rw [wrap64 (by unfold I64; omega)]
  refine LoopQ.inv (S := Nat × Array Int) (fun s => [(0, .os id 1 0 d.size), (1, .int .i64 a), (2, .int .i64 b), (6, .int .i64 s.1)]) (fun s => σ.set id (arrA 1 cU s.2))
    (fun s => a + 1 ≤ s.1 ∧ s.1 ≤ d.size + 1 ∧ s.2.size = d.size ∧ insOuter ltU a b s.1 s.2 = insertionSort ltU d a b) (fun s => d.size + 2 - s.1) (a + 1, d) (by simp) (Store.sub_refl _) ⟨by simp, by simp; omega, rfl, rfl⟩ ?_
  rintro ⟨i, d1⟩ ⟨h1, h2, h3, h4⟩
  simp only at h1 h2 h3 h4
  simp only [cU, s_setU, ↓vcPre, ↓s_get, ↓reduceIte, vcPost, vcStd, Store.set_set, s_arr, s_setL, s_fold, swp_size, Nat.le_refl, Nat.zero_add, Array.size_setIfInBounds, Nat.reduceEqDiff, reduceCtorEq, Nat.reduceAdd, Nat.reduceLeDiff, Int.reduceLT, Int.reduceLE, ↓u_setN]
  refine ⟨fun h5 => ?_, fun h5 => ?_⟩
  · refine LoopQ.inv (S := Nat × Array Int) (fun s => [(0, .os id 1 0 d.size), (1, .int .i64 a), (2, .int .i64 b), (6, .int .i64 i), (7, .int .i64 s.1)]) (fun s => σ.set id (arrA 1 cU s.2))
      (fun s => a ≤ s.1 ∧ s.1 ≤ i ∧ s.2.size = d.size ∧ insInner ltU a s.1 s.2 = insInner ltU a i d1) (fun s => s.1) (i, d1) rfl (Store.sub_refl _) ⟨by simp only; omega, by simp only; omega, h3, rfl⟩ ?_
    rintro ⟨j, d2⟩ ⟨g1, g2, g3, g4⟩
    simp only at g1 g2 g3 g4
    simp only [cU, s_setU, g3, ↓vcPre, ↓s_get, ↓reduceIte, vcPost, vcStd, Store.set_set, s_arr, s_setL, s_fold, swp_size, Nat.le_refl, Nat.zero_add, Array.size_setIfInBounds, Nat.reduceEqDiff, reduceCtorEq, Nat.reduceAdd, Nat.reduceLeDiff, Int.reduceLT, Int.reduceLE, ↓u_setN]
    refine ⟨fun a1 => ?_, fun a1 => ?_⟩
    · obtain ⟨m, rfl⟩ : ∃ m, j = m + 1 := ⟨j - 1, by omega⟩
      have w1 : IntKind.i64.wrap (((m + 1 : Nat) : Int) - 1) = (m : Int) := by rw [wrap64 (by unfold I64; omega)]; omega
      simp only [w1, Int.toNat_natCast]
      refine ⟨by omega, ⟨by omega, by omega⟩, by omega, by omega, (hc _ _).Q ?_⟩
      simp only [cU, s_setU, g3, w1, ↓vcPre, ↓s_get, ↓reduceIte, vcPost, vcStd, Store.set_set, s_arr, s_setL, s_fold, swp_size, Nat.le_refl, Nat.zero_add, Array.size_setIfInBounds, Nat.reduceEqDiff, reduceCtorEq, Nat.reduceAdd, Nat.reduceLeDiff, Int.reduceLT, Int.reduceLE, ↓u_setN]
      have hlt : ltU d2[m + 1]! d2[m]! = decide (cfU d2[m + 1]! d2[m]! < 0) := rfl
      rw [insInner] at g4
      refine ⟨fun a2 => ?_, fun a2 => ?_⟩
      · rw [hlt, decide_eq_true a2, decide_eq_true (show m + 1 > a by omega)] at g4
        refine ⟨by omega, by omega, by omega, by omega, by omega, by omega, by omega, by omega, ?_⟩
        refine NextQ.to (m, swp d2 (m + 1) m) ?_ ?_ ?_ ?_
        · rfl
        · exact Store.sub_refl _
        · simp
        · exact ⟨by simp only; omega, by simp only; omega, by simp only [swp_size]; omega, by simpa using g4⟩
      · rw [hlt, decide_eq_false a2] at g4
        rw [wrap64 (n := (i : Int) + 1) (by unfold I64; omega)]
        refine NextQ.to (i + 1, d2) ?_ ?_ ?_ ?_
        · rfl
        · exact Store.sub_refl _
        · simp only; omega
        · refine ⟨by simp only; omega, by simp only; omega, by simp only; omega, ?_⟩
          have g5 : d2 = insInner ltU a i d1 := by simpa using g4
          simp only
          rw [← h4, insOuter.eq_1 ltU a b i, if_pos h5, g5]
    · rw [wrap64 (n := (i : Int) + 1) (by unfold I64; omega)]
      refine NextQ.to (i + 1, d2) ?_ ?_ ?_ ?_
      · rfl
      · exact Store.sub_refl _
      · simp only; omega
      · refine ⟨by simp only; omega, by simp only; omega, by simp only; omega, ?_⟩
        have : d2 = insInner ltU a i d1 := by
          rw [← g4]
          have : j = a := by omega
          subst this
          cases j with
          | zero => rfl
          | succ j => simp [insInner]
        simp only
        rw [← h4, insOuter.eq_1 ltU a b i, if_pos h5, this]
  · refine EndQ.to _ _ rfl (Store.sub_refl _) ⟨rfl, ?_⟩
    rw [← h4, insOuter, if_neg h5]
end
end Go.Am

/- O10a -/
namespace Go.Am
open Go.Proofs Go.Sort

/-! ## bits.Len -/
theorem shr_u64 (x k : Nat) (hk : k ≤ 64) : shrInt .u64 (x : Int) (k : Int) = ((x / 2 ^ k : Nat) : Int) := by
  unfold shrInt
  have : min ((k : Int).toNat) IntKind.u64.bits = k := by simp [IntKind.bits]; omega
  rw [this]
  have e : ((2 : Int) ^ k) = ((2 ^ k : Nat) : Int) := by simp
  rw [e, Int.fdiv_eq_ediv_of_nonneg _ (Int.natCast_nonneg _)]
  simp

theorem bitsLen_div {x k : Nat} (h : 2 ^ k ≤ x) : bitsLen x = k + bitsLen (x / 2 ^ k) := by
  have key : ∀ m, bitsLen x ≤ m ↔ k + bitsLen (x / 2 ^ k) ≤ m := fun m => by
    rw [bitsLen_le_iff]
    rcases Nat.lt_or_ge m k with hm | hm
    · have h1 : 2 ^ m ≤ 2 ^ k := Nat.pow_le_pow_right (by omega) (by omega)
      constructor <;> intro h2 <;> omega
    · have e : k + bitsLen (x / 2 ^ k) ≤ m ↔ bitsLen (x / 2 ^ k) ≤ m - k := by omega
      rw [e, bitsLen_le_iff, Nat.div_lt_iff_lt_mul (Nat.two_pow_pos k), ← Nat.pow_add]
      rw [show m - k + k = m by omega]
  have h1 := (key (bitsLen x)).1 (Nat.le_refl _)
  have h2 := (key (k + bitsLen (x / 2 ^ k))).2 (Nat.le_refl _)
  omega

theorem tab_len : ∀ m : Fin 256, Tst.str0[m.val]? = some (UInt8.ofNat (bitsLen m.val)) := by decide +kernel

theorem idx_len (m : Nat) (h : m < 256) : pv .idxs [.str Tst.str0, .int .u8 (m : Int)] = some (.int .u8 (bitsLen m : Nat)) := by
  have h1 := tab_len ⟨m, h⟩
  have h2 : bitsLen m ≤ 8 := (bitsLen_le_iff m 8).2 (by omega)
  simp only [pv, pIdxs, Int.natCast_nonneg, if_true, Int.toNat_natCast]
  rw [h1]
  simp only [Option.map_some, Option.some.injEq, AV.int.injEq, true_and, UInt8.toNat_ofNat']
  omega

theorem w_i64 {n : Nat} (h : n < 9223372036854775808) : IntKind.i64.wrap (n : Int) = n := wrap64 (by unfold I64; omega)
theorem w_u8 {n : Nat} (h : n < 256) : IntKind.u8.wrap (n : Int) = n := by simp [IntKind.wrap, IntKind.bits, IntKind.signed]; omega
theorem w_u64 {n : Nat} (h : n < 18446744073709551616) : IntKind.u64.wrap (n : Int) = n := by simp [IntKind.wrap, IntKind.bits, IntKind.signed]; omega

theorem c77 (x : Nat) (hx : x < 18446744073709551616) : Pur Try.prog 77 [.int .u64 x] (.int .i64 (bitsLen x : Nat)) := by
  refine pur_of Tst.F77 (by simp [Tst.F77, Fn.mkX]) fun σ => ?_
  simp only [Tst.F77, Fn.mkX]
  simp only [Tst.b77]
  have s32 : shrInt .u64 (x : Int) 32 = ((x / 4294967296 : Nat) : Int) := shr_u64 x 32 (by decide)
  have s16 : ∀ y : Nat, shrInt .u64 (y : Int) 16 = ((y / 65536 : Nat) : Int) := fun y => shr_u64 y 16 (by decide)
  have s8 : ∀ y : Nat, shrInt .u64 (y : Int) 8 = ((y / 256 : Nat) : Int) := fun y => shr_u64 y 8 (by decide)
  have fin : ∀ (y n : Nat), y < 256 → n ≤ 56 → IntKind.i64.wrap ((n : Int) + IntKind.i64.wrap ((bitsLen y : Nat) : Int)) = ((n + bitsLen y : Nat) : Int) := fun y n hy hn => by
    have := (bitsLen_le_iff y 8).2 (by omega)
    rw [w_i64 (by omega), show ((n : Int) + ((bitsLen y : Nat) : Int)) = ((n + bitsLen y : Nat) : Int) by omega, w_i64 (by omega)]
  have leaf : ∀ (y n : Nat) (N : Int), bitsLen x = n + bitsLen y → y < 256 → n ≤ 56 → N = (n : Int) →
      wit (pv PK.idxs [AV.str Tst.str0, AV.int IntKind.u8 (IntKind.u8.wrap (y : Int))]) fun a =>
        wit (pv (PK.conv IntKind.i64) [a]) fun a => wit (pv (PK.bin BinOp.add) [AV.int IntKind.i64 N, a]) fun a => a = AV.int IntKind.i64 (bitsLen x : Nat) := by
    intro y n N e hy hn hN
    subst hN
    rw [w_u8 hy, idx_len y hy]
    simp only [wit_some, u_conv, u_add]
    rw [fin y n hy hn, e]
  have d32 : (4294967296 : Int) ≤ x → bitsLen x = 32 + bitsLen (x / 4294967296) := fun h => bitsLen_div (k := 32) (by omega)
  have d16 : ∀ y : Nat, (65536 : Int) ≤ y → bitsLen y = 16 + bitsLen (y / 65536) := fun y h => bitsLen_div (k := 16) (by omega)
  have d8 : ∀ y : Nat, (256 : Int) ≤ y → bitsLen y = 8 + bitsLen (y / 256) := fun y h => bitsLen_div (k := 8) (by omega)
  simp only [s32, s16, s8, ↓vcPre, ↓wit_get, ↓reduceIte, vcPost, vcStd, Nat.reduceEqDiff, reduceCtorEq, Nat.reduceAdd, Nat.reduceLeDiff, Int.reduceLT, Int.reduceLE, ↓u_setN]
  have a1 : IntKind.i64.wrap (IntKind.i64.wrap (32 + 16) + 8) = ((56 : Nat) : Int) := by decide
  have a2 : IntKind.i64.wrap (32 + 16) = ((48 : Nat) : Int) := by decide
  have a3 : IntKind.i64.wrap (32 + 8) = ((40 : Nat) : Int) := by decide
  have a4 : IntKind.i64.wrap (IntKind.i64.wrap (0 + 16) + 8) = ((24 : Nat) : Int) := by decide
  have a5 : IntKind.i64.wrap (0 + 16) = ((16 : Nat) : Int) := by decide
  have a6 : IntKind.i64.wrap (0 + 8) = ((8 : Nat) : Int) := by decide
  refine ⟨fun h1 => ⟨fun h2 => ⟨fun h3 => ?_, fun h3 => ?_⟩, fun h2 => ⟨fun h3 => ?_, fun h3 => ?_⟩⟩, fun h1 => ⟨fun h2 => ⟨fun h3 => ?_, fun h3 => ?_⟩, fun h2 => ⟨fun h3 => ?_, fun h3 => ?_⟩⟩⟩
  · exact leaf _ 56 _ (by have e1 := d32 h1; have e2 := d16 _ h2; have e3 := d8 _ h3; omega) (by omega) (by omega) a1
  · exact leaf _ 48 _ (by have e1 := d32 h1; have e2 := d16 _ h2; omega) (by omega) (by omega) a2
  · exact leaf _ 40 _ (by have e1 := d32 h1; have e3 := d8 _ h3; omega) (by omega) (by omega) a3
  · exact leaf _ 32 _ (by have e1 := d32 h1; omega) (by omega) (by omega) rfl
  · exact leaf _ 24 _ (by have e2 := d16 _ h2; have e3 := d8 _ h3; omega) (by omega) (by omega) a4
  · exact leaf _ 16 _ (by have e2 := d16 _ h2; omega) (by omega) (by omega) a5
  · exact leaf _ 8 _ (by have e3 := d8 _ h3; omega) (by omega) (by omega) a6
  · exact leaf _ 0 _ (by omega) (by omega) (by omega) rfl

theorem c52 (x : Nat) (hx : x < 18446744073709551616) : Pur Try.prog 52 [.int .u64 x] (.int .i64 (bitsLen x : Nat)) := by
  refine pur_of Tst.F52 (by simp [Tst.F52, Fn.mkX]) fun σ => ?_
  simp only [Tst.F52, Fn.mkX, Tst.b52]
  simp only [↓vcPre, ↓wit_get, ↓reduceIte, vcPost, vcStd, Nat.reduceEqDiff, reduceCtorEq, Nat.reduceAdd, Nat.reduceLeDiff, Int.reduceLT, Int.reduceLE, ↓u_setN]
  refine (c77 x hx).Q ?_
  simp only [↓vcPre, ↓wit_get, ↓reduceIte, vcPost, vcStd, Nat.reduceEqDiff, reduceCtorEq, Nat.reduceAdd, Nat.reduceLeDiff, Int.reduceLT, Int.reduceLE, ↓u_setN]

theorem shl_one (k : Nat) (hk : k ≤ 63) : shlInt .u64 1 (k : Int) = ((1 <<< k : Nat) : Int) := by
  unfold shlInt
  have : min ((k : Int).toNat) IntKind.u64.bits = k := by simp [IntKind.bits]; omega
  rw [this, Int.one_mul]
  have h : (2 : Nat) ^ k ≤ 2 ^ 63 := Nat.pow_le_pow_right (by decide) hk
  have e : ((2 : Int) ^ k) = ((2 ^ k : Nat) : Int) := by simp
  rw [e, w_u64 (by omega), Nat.one_shiftLeft]

theorem c86 (n : Nat) (hn : n < 4611686018427387904) : Pur Try.prog 86 [.int .i64 n] (.int .u64 (1 <<< bitsLen n : Nat)) := by
  refine pur_of Tst.F86 (by simp [Tst.F86, Fn.mkX]) fun σ => ?_
  simp only [Tst.F86, Fn.mkX, Tst.b86]
  have hb : bitsLen n ≤ 62 := (bitsLen_le_iff n 62).2 (by omega)
  simp only [w_u64 (n := n) (by omega), ↓vcPre, ↓wit_get, ↓reduceIte, vcPost, vcStd, Nat.reduceEqDiff, reduceCtorEq, Nat.reduceAdd, Nat.reduceLeDiff, Int.reduceLT, Int.reduceLE, ↓u_setN]
  refine (c52 n (by omega)).Q ?_
  simp only [shl_one (bitsLen n) (by omega), ↓vcPre, ↓wit_get, ↓reduceIte, vcPost, vcStd, Nat.reduceEqDiff, reduceCtorEq, Nat.reduceAdd, Nat.reduceLeDiff, Int.reduceLT, Int.reduceLE, ↓u_setN]
  omega

theorem xor_u64 (a b : Nat) (ha : a < 18446744073709551616) (hb : b < 18446744073709551616) : bitInt .xor .u64 (a : Int) (b : Int) = ((a ^^^ b : Nat) : Int) := by
  have := bits_xor_u64_nat a b ha hb
  rw [← this]
  rfl
theorem shl_u64 (x k : Nat) (hk : k ≤ 64) : shlInt .u64 (x : Int) (k : Int) = ((x * 2 ^ k % 18446744073709551616 : Nat) : Int) := by
  unfold shlInt
  have : min ((k : Int).toNat) IntKind.u64.bits = k := by simp [IntKind.bits]; omega
  rw [this]
  have e : ((2 : Int) ^ k) = ((2 ^ k : Nat) : Int) := by simp
  rw [e]
  simp [IntKind.wrap, IntKind.bits, IntKind.signed]

theorem s87 (X : Nat) (hX : X < 18446744073709551616) (σ : Store) (i : Nat) (hi : σ i = some (.box [.int .u64 X])) :
    ACalls Try.prog 87 [.ptr i 0] σ (fun r s => r = .int .u64 (xorNextN X : Nat) ∧ s = σ.set i (.box [.int .u64 (xorNextN X : Nat)])) := by
  refine calls_of Tst.F87 (by simp [Tst.F87, Fn.mkX]) ?_
  simp only [Tst.F87, Fn.mkX, Tst.b87]
  obtain ⟨A, hA⟩ : ∃ A : Nat, A = X ^^^ (X * 8192 % 18446744073709551616) := ⟨_, rfl⟩
  obtain ⟨B, hB⟩ : ∃ B : Nat, B = A ^^^ (A / 128) := ⟨_, rfl⟩
  obtain ⟨C, hC⟩ : ∃ C : Nat, C = B ^^^ (B * 131072 % 18446744073709551616) := ⟨_, rfl⟩
  have lA : A < 18446744073709551616 := by rw [hA]; exact Nat.xor_lt_two_pow (n := 64) (by omega) (by omega)
  have lB : B < 18446744073709551616 := by rw [hB]; exact Nat.xor_lt_two_pow (n := 64) (by omega) (by omega)
  have e1 : bitInt .xor .u64 (X : Int) (shlInt .u64 (X : Int) 13) = (A : Int) := by
    have := shl_u64 X 13 (by decide)
    rw [show ((13 : Nat) : Int) = 13 from rfl] at this
    rw [this, xor_u64 _ _ hX (by omega), hA]
  have e2 : bitInt .xor .u64 (A : Int) (shrInt .u64 (A : Int) 7) = (B : Int) := by
    have := shr_u64 A 7 (by decide)
    rw [show ((7 : Nat) : Int) = 7 from rfl] at this
    rw [this, xor_u64 _ _ lA (by omega), hB]
  have e3 : bitInt .xor .u64 (B : Int) (shlInt .u64 (B : Int) 17) = (C : Int) := by
    have := shl_u64 B 17 (by decide)
    rw [show ((17 : Nat) : Int) = 17 from rfl] at this
    rw [this, xor_u64 _ _ lB (by omega), hC]
  have hv : xorNextN X = C := by unfold xorNextN; simp only []; rw [← hA, ← hB, ← hC]
  rw [hv]
  clear hA hB hC hv
  simp only [hi, e1, e2, e3, Store.set_set, ↓vcPre, ↓wit_get, ↓reduceIte, vcPost, vcStd, Nat.reduceEqDiff, reduceCtorEq, Nat.reduceAdd, Nat.reduceLeDiff, Int.reduceLT, Int.reduceLE, ↓u_setN]
  exact EndQ.to _ _ rfl (Store.sub_refl _) ⟨rfl, rfl⟩

end Go.Am

/- O3 -/
namespace Go.Am
open Go.Proofs Go.Sort
set_option linter.unusedSectionVars false
theorem s94 (hc : LessU) (d : Array Int) (a b : Nat) (hab : a ≤ b) (hb : b ≤ d.size) (hs : d.size < 4611686018427387904) (σ : Store) (id : Nat) :
    ACalls Try.prog 94 [.os id 1 0 d.size, .int .i64 a, .int .i64 b] (σ.set id (arrA 1 cU d)) (fun r s => r = .tup [] ∧ s = σ.set id (arrA 1 cU (reverseRange d a b))) := by
  refine calls_of Tst.F94 (by simp [Tst.F94, Fn.mkX]) ?_
  simp only [Tst.F94, Fn.mkX, Tst.b94]

  simp only [cU, s_setU, ↓vcPre, ↓s_get, ↓reduceIte, vcPost, vcStd, Store.set_set, s_arr, s_setL, s_fold, swp_size, Nat.le_refl, Nat.zero_add, Array.size_setIfInBounds, Nat.reduceEqDiff, reduceCtorEq, Nat.reduceAdd, Nat.reduceLeDiff, Int.reduceLT, Int.reduceLE, ↓u_setN]
  have e0 : IntKind.i64.wrap ((b : Int) - 1) = (b : Int) - 1 := wrap64 (by unfold I64; omega)
  rw [e0]
  refine LoopQ.inv (S := Nat × Nat × Array Int) (fun s => [(0, .os id 1 0 d.size), (6, .int .i64 s.1), (7, .int .i64 ((s.2.1 : Int) - 1))]) (fun s => σ.set id (arrA 1 cU s.2.2))
    (fun s => s.1 ≤ d.size ∧ s.2.1 ≤ d.size ∧ s.2.2.size = d.size ∧ reverseLoop s.1 (s.2.1 - 1) s.2.2 = reverseRange d a b) (fun s => s.2.1) (a, b, d) rfl (Store.sub_refl _) ⟨by simp only; omega, by simp only; omega, rfl, rfl⟩ ?_
  rintro ⟨i, j, d1⟩ ⟨h1, h2, h3, h4⟩
  simp only at h1 h2 h3 h4
  simp only [cU, s_setU, h3, ↓vcPre, ↓s_get, ↓reduceIte, vcPost, vcStd, Store.set_set, s_arr, s_setL, s_fold, swp_size, Nat.le_refl, Nat.zero_add, Array.size_setIfInBounds, Nat.reduceEqDiff, reduceCtorEq, Nat.reduceAdd, Nat.reduceLeDiff, Int.reduceLT, Int.reduceLE, ↓u_setN]
  rw [reverseLoop] at h4
  refine ⟨fun a1 => ?_, fun a1 => ?_⟩
  · obtain ⟨m, rfl⟩ : ∃ m, j = m + 1 := ⟨j - 1, by omega⟩
    have e1 : ((m + 1 : Nat) : Int) - 1 = m := by omega
    simp only [e1, Int.toNat_natCast]
    rw [if_pos (by omega)] at h4
    have e2 : IntKind.i64.wrap ((i : Int) + 1) = ((i + 1 : Nat) : Int) := by rw [wrap64 (by unfold I64; omega)]; omega
    have e3 : IntKind.i64.wrap ((m : Int) - 1) = (m : Int) - 1 := wrap64 (by unfold I64; omega)
    rw [e2, e3]
    and_intros <;> try omega
    refine NextQ.to (i + 1, m, swp d1 i m) ?_ ?_ ?_ ?_
    · rfl
    · exact Store.sub_refl _
    · simp
    · refine ⟨by simp only; omega, by simp only; omega, by simp only [swp_size]; omega, ?_⟩
      simpa using h4
  · rw [if_neg (by omega)] at h4
    exact EndQ.to _ _ rfl (Store.sub_refl _) ⟨rfl, by rw [h4]⟩

theorem s100 (hc : LessU) (d : Array Int) (lo hi first : Nat) (hb : first + hi ≤ d.size) (hs : d.size < 2305843009213693952) (hlo : lo ≤ d.size) (σ : Store) (id : Nat) :
    ACalls Try.prog 100 [.os id 1 0 d.size, .int .i64 lo, .int .i64 hi, .int .i64 first] (σ.set id (arrA 1 cU d)) (fun r s => r = .tup [] ∧ s = σ.set id (arrA 1 cU (siftDown ltU hi first lo d))) := by
  refine calls_of Tst.F100 (by simp [Tst.F100, Fn.mkX]) ?_
  simp only [Tst.F100, Fn.mkX, Tst.b100]

  simp only [cU, s_setU, ↓vcPre, ↓s_get, ↓reduceIte, vcPost, vcStd, Store.set_set, s_arr, s_setL, s_fold, swp_size, Nat.le_refl, Nat.zero_add, Array.size_setIfInBounds, Nat.reduceEqDiff, reduceCtorEq, Nat.reduceAdd, Nat.reduceLeDiff, Int.reduceLT, Int.reduceLE, ↓u_setN]
  refine LoopQ.inv (S := Nat × Array Int) (fun s => [(0, .os id 1 0 d.size), (2, .int .i64 hi), (3, .int .i64 first), (8, .int .i64 s.1)]) (fun s => σ.set id (arrA 1 cU s.2))
    (fun s => s.1 ≤ d.size ∧ s.2.size = d.size ∧ siftDown ltU hi first s.1 s.2 = siftDown ltU hi first lo d) (fun s => d.size + 1 - s.1) (lo, d) rfl (Store.sub_refl _) ⟨hlo, rfl, rfl⟩ ?_
  rintro ⟨r, d1⟩ ⟨h1, h2, h3⟩
  simp only at h1 h2 h3
  have e1 : IntKind.i64.wrap (IntKind.i64.wrap (2 * (r : Int)) + 1) = ((2 * r + 1 : Nat) : Int) := by rw [wrap64 (n := 2 * (r : Int)) (by unfold I64; omega), wrap64 (by unfold I64; omega)]; omega
  have e2 : IntKind.i64.wrap (((2 * r + 1 : Nat) : Int) + 1) = ((2 * r + 2 : Nat) : Int) := by rw [wrap64 (by unfold I64; omega)]; omega
  have e3 : IntKind.i64.wrap ((first : Int) + ((2 * r + 1 : Nat) : Int)) = ((first + (2 * r + 1) : Nat) : Int) := by rw [wrap64 (by unfold I64; omega)]; omega
  have e4 : IntKind.i64.wrap (((first + (2 * r + 1) : Nat) : Int) + 1) = ((first + (2 * r + 1) + 1 : Nat) : Int) := by rw [wrap64 (by unfold I64; omega)]; omega
  have e5 : IntKind.i64.wrap ((first : Int) + (r : Int)) = ((first + r : Nat) : Int) := by rw [wrap64 (by unfold I64; omega)]; omega
  have e6 : IntKind.i64.wrap ((first : Int) + ((2 * r + 2 : Nat) : Int)) = ((first + (2 * r + 2) : Nat) : Int) := by rw [wrap64 (by unfold I64; omega)]; omega
  simp only [cU, s_setU, h2, e1, e2, e3, e4, e5, e6, ↓vcPre, ↓s_get, ↓reduceIte, vcPost, vcStd, Store.set_set, s_arr, s_setL, s_fold, swp_size, Nat.le_refl, Nat.zero_add, Array.size_setIfInBounds, Nat.reduceEqDiff, reduceCtorEq, Nat.reduceAdd, Nat.reduceLeDiff, Int.reduceLT, Int.reduceLE, ↓u_setN]
  rw [siftDown] at h3
  refine ⟨fun a1 => ?_, fun a1 => ⟨fun a2 => ?_, fun a2 => ?_⟩⟩
  · rw [dif_pos (by omega)] at h3
    exact EndQ.to _ _ rfl (Store.sub_refl _) ⟨rfl, by rw [h3]⟩
  · rw [dif_neg (by omega)] at h3
    and_intros <;> try omega
    refine (hc _ _).Q ?_
    simp only [cU, s_setU, h2, e1, e2, e3, e4, e5, e6, ↓vcPre, ↓s_get, ↓reduceIte, vcPost, vcStd, Store.set_set, s_arr, s_setL, s_fold, swp_size, Nat.le_refl, Nat.zero_add, Array.size_setIfInBounds, Nat.reduceEqDiff, reduceCtorEq, Nat.reduceAdd, Nat.reduceLeDiff, Int.reduceLT, Int.reduceLE, ↓u_setN]
    refine ⟨fun a3 => ?_, fun a3 => ?_⟩
    · have hl : ltU d1[first + (2 * r + 1)]! d1[first + (2 * r + 1) + 1]! = true := decide_eq_true a3
      rw [if_pos (by simp [hl, a2])] at h3
      and_intros <;> try omega
      refine (hc _ _).Q ?_
      simp only [cU, s_setU, h2, e1, e2, e3, e4, e5, e6, ↓vcPre, ↓s_get, ↓reduceIte, vcPost, vcStd, Store.set_set, s_arr, s_setL, s_fold, swp_size, Nat.le_refl, Nat.zero_add, Array.size_setIfInBounds, Nat.reduceEqDiff, reduceCtorEq, Nat.reduceAdd, Nat.reduceLeDiff, Int.reduceLT, Int.reduceLE, ↓u_setN]
      refine ⟨fun a5 => ?_, fun a5 => ?_⟩
      · have hl2 : ltU d1[first + r]! d1[first + (2 * r + 2)]! = false := decide_eq_false a5
        rw [if_pos (by simp [hl2])] at h3
        exact EndQ.to _ _ rfl (Store.sub_refl _) ⟨rfl, by rw [h3]⟩
      · have hl2 : ltU d1[first + r]! d1[first + (2 * r + 2)]! = true := decide_eq_true (by omega)
        rw [if_neg (by simp [hl2])] at h3
        try rw [dif_pos (by omega)] at h3
        and_intros <;> try omega
        refine NextQ.to (2 * r + 2, swp d1 (first + r) (first + (2 * r + 2))) ?_ ?_ ?_ ?_
        · rfl
        · exact Store.sub_refl _
        · simp only; omega
        · exact ⟨by simp only; omega, by simp only [swp_size]; omega, h3⟩
    · have hl : ltU d1[first + (2 * r + 1)]! d1[first + (2 * r + 1) + 1]! = false := decide_eq_false a3
      rw [if_neg (by simp [hl])] at h3
      and_intros <;> try omega
      refine (hc _ _).Q ?_
      simp only [cU, s_setU, h2, e1, e2, e3, e4, e5, e6, ↓vcPre, ↓s_get, ↓reduceIte, vcPost, vcStd, Store.set_set, s_arr, s_setL, s_fold, swp_size, Nat.le_refl, Nat.zero_add, Array.size_setIfInBounds, Nat.reduceEqDiff, reduceCtorEq, Nat.reduceAdd, Nat.reduceLeDiff, Int.reduceLT, Int.reduceLE, ↓u_setN]
      refine ⟨fun a5 => ?_, fun a5 => ?_⟩
      · have hl2 : ltU d1[first + r]! d1[first + (2 * r + 1)]! = false := decide_eq_false a5
        rw [if_pos (by simp [hl2])] at h3
        exact EndQ.to _ _ rfl (Store.sub_refl _) ⟨rfl, by rw [h3]⟩
      · have hl2 : ltU d1[first + r]! d1[first + (2 * r + 1)]! = true := decide_eq_true (by omega)
        rw [if_neg (by simp [hl2])] at h3
        try rw [dif_pos (by omega)] at h3
        and_intros <;> try omega
        refine NextQ.to (2 * r + 1, swp d1 (first + r) (first + (2 * r + 1))) ?_ ?_ ?_ ?_
        · rfl
        · exact Store.sub_refl _
        · simp only; omega
        · exact ⟨by simp only; omega, by simp only [swp_size]; omega, h3⟩
  · rw [dif_neg (by omega), if_neg (by simp; omega)] at h3
    and_intros <;> try omega
    refine (hc _ _).Q ?_
    simp only [cU, s_setU, h2, e1, e2, e3, e4, e5, e6, ↓vcPre, ↓s_get, ↓reduceIte, vcPost, vcStd, Store.set_set, s_arr, s_setL, s_fold, swp_size, Nat.le_refl, Nat.zero_add, Array.size_setIfInBounds, Nat.reduceEqDiff, reduceCtorEq, Nat.reduceAdd, Nat.reduceLeDiff, Int.reduceLT, Int.reduceLE, ↓u_setN]
    refine ⟨fun a5 => ?_, fun a5 => ?_⟩
    · have hl2 : ltU d1[first + r]! d1[first + (2 * r + 1)]! = false := decide_eq_false a5
      rw [if_pos (by simp [hl2])] at h3
      exact EndQ.to _ _ rfl (Store.sub_refl _) ⟨rfl, by rw [h3]⟩
    · have hl2 : ltU d1[first + r]! d1[first + (2 * r + 1)]! = true := decide_eq_true (by omega)
      rw [if_neg (by simp [hl2])] at h3
      try rw [dif_pos (by omega)] at h3
      and_intros <;> try omega
      refine NextQ.to (2 * r + 1, swp d1 (first + r) (first + (2 * r + 1))) ?_ ?_ ?_ ?_
      · rfl
      · exact Store.sub_refl _
      · simp only; omega
      · exact ⟨by simp only; omega, by simp only [swp_size]; omega, h3⟩
end Go.Am

/- O4 -/
namespace Go.Am
open Go.Proofs Go.Sort
set_option linter.unusedSectionVars false
theorem siftDown_size (lt : Int → Int → Bool) (hi first r : Nat) (d : Array Int) : (siftDown lt hi first r d).size = d.size := by
  fun_induction siftDown lt hi first r d <;> simp_all [swp_size]
theorem s91 (hc : LessU) (d : Array Int) (a b : Nat) (hab : a ≤ b) (hb : b ≤ d.size) (hs : d.size < 2305843009213693952) (σ : Store) (id : Nat) :
    ACalls Try.prog 91 [.os id 1 0 d.size, .int .i64 a, .int .i64 b] (σ.set id (arrA 1 cU d)) (fun r s => r = .tup [] ∧ s = σ.set id (arrA 1 cU (heapSort ltU d a b))) := by
  refine calls_of Tst.F91 (by simp [Tst.F91, Fn.mkX]) ?_
  simp only [Tst.F91, Fn.mkX, Tst.b91]

  simp only [cU, s_setU, ↓vcPre, ↓s_get, ↓reduceIte, vcPost, vcStd, Store.set_set, s_arr, s_setL, s_fold, swp_size, Nat.le_refl, Nat.zero_add, Array.size_setIfInBounds, Nat.reduceEqDiff, reduceCtorEq, Nat.reduceAdd, Nat.reduceLeDiff, Int.reduceLT, Int.reduceLE, ↓u_setN]
  have e1 : IntKind.i64.wrap ((b : Int) - a) = ((b - a : Nat) : Int) := by rw [wrap64 (by unfold I64; omega)]; omega
  have e2 : IntKind.i64.wrap (((b - a : Nat) : Int) - 1) = ((b - a : Nat) : Int) - 1 := wrap64 (by unfold I64; omega)
  have e3 : IntKind.i64.wrap ((((b - a : Nat) : Int) - 1).tdiv 2) = (((b - a - 1) / 2 + 1 : Nat) : Int) - 1 := by
    have : (((b - a : Nat) : Int) - 1).tdiv 2 = (((b - a - 1) / 2 : Nat) : Int) := by
      by_cases h : b - a = 0
      · rw [h]; decide
      · rw [Int.tdiv_eq_ediv_of_nonneg (by omega)]; omega
    rw [this, wrap64 (by unfold I64; omega)]; omega
  rw [e1, e2, e3]
  refine ⟨by omega, ?_⟩
  refine LoopQ.inv (S := Nat × Array Int) (fun s => [(0, .os id 1 0 d.size), (6, .int .i64 a), (7, .int .i64 0), (8, .int .i64 ((b - a : Nat) : Int)), (9, .int .i64 ((s.1 : Int) - 1))]) (fun s => σ.set id (arrA 1 cU s.2))
    (fun s => s.1 ≤ d.size + 1 ∧ s.2.size = d.size ∧ heapBuild ltU (b - a) a s.1 s.2 = heapBuild ltU (b - a) a ((b - a - 1) / 2 + 1) d) (fun s => s.1) ((b - a - 1) / 2 + 1, d) rfl (Store.sub_refl _) ⟨by simp only; omega, rfl, rfl⟩ ?_
  rintro ⟨k, d1⟩ ⟨h1, h2, h3⟩
  simp only at h1 h2 h3
  simp only [cU, s_setU, h2, e2, ↓vcPre, ↓s_get, ↓reduceIte, vcPost, vcStd, Store.set_set, s_arr, s_setL, s_fold, swp_size, Nat.le_refl, Nat.zero_add, Array.size_setIfInBounds, Nat.reduceEqDiff, reduceCtorEq, Nat.reduceAdd, Nat.reduceLeDiff, Int.reduceLT, Int.reduceLE, ↓u_setN]
  refine ⟨fun a1 => ?_, fun a1 => ?_⟩
  · obtain ⟨m, rfl⟩ : ∃ m, k = m + 1 := ⟨k - 1, by omega⟩
    have e4 : ((m + 1 : Nat) : Int) - 1 = m := by omega
    rw [e4]
    have h5 := s100 hc d1 m (b - a) a (by omega) (by omega) (by omega) σ id
    rw [h2] at h5
    refine h5.Q ?_
    rintro r s ⟨rfl, rfl⟩
    have e5 : IntKind.i64.wrap ((m : Int) - 1) = (m : Int) - 1 := wrap64 (by unfold I64; omega)
    simp only [cU, s_setU, h2, e5, e4, ↓vcPre, ↓s_get, ↓reduceIte, vcPost, vcStd, Store.set_set, s_arr, s_setL, s_fold, swp_size, Nat.le_refl, Nat.zero_add, Array.size_setIfInBounds, Nat.reduceEqDiff, reduceCtorEq, Nat.reduceAdd, Nat.reduceLeDiff, Int.reduceLT, Int.reduceLE, ↓u_setN]
    refine NextQ.to (m, siftDown ltU (b - a) a m d1) ?_ ?_ ?_ ?_
    · rfl
    · exact Store.sub_refl _
    · simp
    · exact ⟨by simp only; omega, by simp only [siftDown_size]; omega, h3⟩
  · have hk0 : k = 0 := by omega
    subst hk0
    have h3 : d1 = heapBuild ltU (b - a) a ((b - a - 1) / 2 + 1) d := h3
    have hd : heapSort ltU d a b = heapPop ltU a (b - a) d1 := by rw [heapSort, h3]
    rw [hd]
    clear h3 hd
    refine LoopQ.inv (S := Nat × Array Int) (fun s => [(0, .os id 1 0 d.size), (6, .int .i64 a), (7, .int .i64 0), (10, .int .i64 ((s.1 : Int) - 1))]) (fun s => σ.set id (arrA 1 cU s.2))
      (fun s => s.1 ≤ b - a ∧ s.2.size = d.size ∧ heapPop ltU a s.1 s.2 = heapPop ltU a (b - a) d1) (fun s => s.1) (b - a, d1) rfl (Store.sub_refl _) ⟨by simp only; omega, h2, rfl⟩ ?_
    rintro ⟨k, d2⟩ ⟨g1, g2, g3⟩
    simp only at g1 g2 g3
    simp only [cU, s_setU, g2, ↓vcPre, ↓s_get, ↓reduceIte, vcPost, vcStd, Store.set_set, s_arr, s_setL, s_fold, swp_size, Nat.le_refl, Nat.zero_add, Array.size_setIfInBounds, Nat.reduceEqDiff, reduceCtorEq, Nat.reduceAdd, Nat.reduceLeDiff, Int.reduceLT, Int.reduceLE, ↓u_setN]
    refine ⟨fun a1 => ?_, fun a1 => ?_⟩
    · obtain ⟨m, rfl⟩ : ∃ m, k = m + 1 := ⟨k - 1, by omega⟩
      have e4 : ((m + 1 : Nat) : Int) - 1 = m := by omega
      have e6 : IntKind.i64.wrap ((a : Int) + m) = ((a + m : Nat) : Int) := by rw [wrap64 (by unfold I64; omega)]; omega
      simp only [e4, e6, Int.toNat_natCast]
      and_intros <;> try omega
      have h5 := s100 hc (swp d2 a (a + m)) 0 m a (by rw [swp_size]; omega) (by rw [swp_size]; omega) (by omega) σ id
      rw [swp_size, g2] at h5
      refine h5.Q ?_
      rintro r s ⟨rfl, rfl⟩
      have e5 : IntKind.i64.wrap ((m : Int) - 1) = (m : Int) - 1 := wrap64 (by unfold I64; omega)
      simp only [cU, s_setU, g2, e5, e4, ↓vcPre, ↓s_get, ↓reduceIte, vcPost, vcStd, Store.set_set, s_arr, s_setL, s_fold, swp_size, Nat.le_refl, Nat.zero_add, Array.size_setIfInBounds, Nat.reduceEqDiff, reduceCtorEq, Nat.reduceAdd, Nat.reduceLeDiff, Int.reduceLT, Int.reduceLE, ↓u_setN]
      refine NextQ.to (m, siftDown ltU m a 0 (swp d2 a (a + m))) ?_ ?_ ?_ ?_
      · rfl
      · exact Store.sub_refl _
      · simp
      · exact ⟨by simp only; omega, by simp only [siftDown_size, swp_size]; omega, g3⟩
    · have hk0 : k = 0 := by omega
      subst hk0
      exact EndQ.to _ _ rfl (Store.sub_refl _) ⟨rfl, by rw [← g3]; rfl⟩
end Go.Am

/- O5 -/
namespace Go.Am
open Go.Proofs Go.Sort
set_option linter.unusedSectionVars false
theorem wI {n : Int} {m : Nat} (h : n = m) (hm : m < 4611686018427387904) : IntKind.i64.wrap n = (m : Int) := by rw [wrap64 (by unfold I64; omega), h]
theorem scanUp_ge (p : Int → Bool) (d : Array Int) (j : Nat) : ∀ i, i ≤ scanUp p d j i := by
  intro i
  fun_induction scanUp p d j i <;> omega
theorem scanDown_stop (p : Int → Bool) (d : Array Int) (i j : Nat) (h : ¬ i ≤ j) : scanDown p d i j = j := by
  cases j with
  | zero => rfl
  | succ j => rw [scanDown, if_neg (by simp; omega)]
theorem s97 (hc : LessU) (d : Array Int) (a b pivot : Nat) (hab : a ≤ pivot) (hpb : pivot < b) (hb : b ≤ d.size) (hs : d.size < 2305843009213693952) (σ : Store) (id : Nat) :
    ACalls Try.prog 97 [.os id 1 0 d.size, .int .i64 a, .int .i64 b, .int .i64 pivot] (σ.set id (arrA 1 cU d)) (fun r s => r = .int .i64 (partitionEqual ltU d a b pivot).1 ∧ s = σ.set id (arrA 1 cU (partitionEqual ltU d a b pivot).2)) := by
  refine calls_of Tst.F97 (by simp [Tst.F97, Fn.mkX]) ?_
  simp only [Tst.F97, Fn.mkX, Tst.b97]

  simp only [cU, s_setU, ↓vcPre, ↓s_get, ↓reduceIte, vcPost, vcStd, Store.set_set, s_arr, s_setL, s_fold, swp_size, Nat.le_refl, Nat.zero_add, Array.size_setIfInBounds, Nat.reduceEqDiff, reduceCtorEq, Nat.reduceAdd, Nat.reduceLeDiff, Int.reduceLT, Int.reduceLE, ↓u_setN]
  and_intros <;> try omega
  have e1 : IntKind.i64.wrap ((a : Int) + 1) = ((a + 1 : Nat) : Int) := wI (by omega) (by omega)
  have e2 : IntKind.i64.wrap ((b : Int) - 1) = ((b - 1 : Nat) : Int) := wI (by omega) (by omega)
  rw [e1, e2]
  refine LoopQ.inv (S := Nat × Nat × Array Int) (fun s => [(0, .os id 1 0 d.size), (1, .int .i64 a), (9, .int .i64 s.1), (10, .int .i64 s.2.1)]) (fun s => σ.set id (arrA 1 cU s.2.2))
    (fun s => a < s.1 ∧ s.1 ≤ b ∧ s.2.1 < b ∧ a ≤ s.2.1 ∧ s.2.2.size = d.size ∧ partEqLoop ltU a s.1 s.2.1 s.2.2 = partitionEqual ltU d a b pivot) (fun s => d.size + 1 - s.1) (a + 1, b - 1, swp d a pivot) rfl (Store.sub_refl _)
    ⟨by simp only; omega, by simp only; omega, by simp only; omega, by simp only; omega, by simp only [swp_size], rfl⟩ ?_
  rintro ⟨i, j, d1⟩ ⟨h1, h2, h3, h4, h5, h6⟩
  simp only at h1 h2 h3 h4 h5 h6
  rw [partEqLoop] at h6
  simp only [cU, s_setU, h5, ↓vcPre, ↓s_get, ↓reduceIte, vcPost, vcStd, Store.set_set, s_arr, s_setL, s_fold, swp_size, Nat.le_refl, Nat.zero_add, Array.size_setIfInBounds, Nat.reduceEqDiff, reduceCtorEq, Nat.reduceAdd, Nat.reduceLeDiff, Int.reduceLT, Int.reduceLE, ↓u_setN]
  refine LoopQ.inv (S := Nat) (fun s => [(0, .os id 1 0 d.size), (1, .int .i64 a), (9, .int .i64 s), (10, .int .i64 j)]) (fun s => σ.set id (arrA 1 cU d1))
    (fun s => i ≤ s ∧ s ≤ b ∧ scanUp (fun x => !ltU d1[a]! x) d1 j s = scanUp (fun x => !ltU d1[a]! x) d1 j i) (fun s => d.size + 1 - s) i rfl (Store.sub_refl _) ⟨Nat.le_refl _, h2, rfl⟩ ?_
  rintro i2 ⟨g1, g2, g3⟩
  simp only [cU, s_setU, h5, ↓vcPre, ↓s_get, ↓reduceIte, vcPost, vcStd, Store.set_set, s_arr, s_setL, s_fold, swp_size, Nat.le_refl, Nat.zero_add, Array.size_setIfInBounds, Nat.reduceEqDiff, reduceCtorEq, Nat.reduceAdd, Nat.reduceLeDiff, Int.reduceLT, Int.reduceLE, ↓u_setN]
  rw [scanUp] at g3
  refine ⟨fun a1 => ?_, fun a1 => ?_⟩
  · and_intros <;> try omega
    refine (hc _ _).Q ?_
    have e3 : IntKind.i64.wrap ((i2 : Int) + 1) = ((i2 + 1 : Nat) : Int) := wI (by omega) (by omega)
    simp only [cU, s_setU, h5, e3, ↓vcPre, ↓s_get, ↓reduceIte, vcPost, vcStd, Store.set_set, s_arr, s_setL, s_fold, swp_size, Nat.le_refl, Nat.zero_add, Array.size_setIfInBounds, Nat.reduceEqDiff, reduceCtorEq, Nat.reduceAdd, Nat.reduceLeDiff, Int.reduceLT, Int.reduceLE, ↓u_setN]
    refine ⟨fun a2 => ?_, fun a2 => ?_⟩
    · have hl : ltU d1[a]! d1[i2]! = false := decide_eq_false a2
      rw [if_pos (by simp [hl, a1])] at g3
      refine NextQ.to (i2 + 1) ?_ ?_ ?_ ?_
      · rfl
      · exact Store.sub_refl _
      · omega
      · exact ⟨by omega, by omega, g3⟩
    · have hl : ltU d1[a]! d1[i2]! = true := decide_eq_true (by omega)
      rw [if_neg (by simp [hl])] at g3
      rw [← g3] at h6
      refine LoopQ.inv (S := Nat) (fun s => [(0, .os id 1 0 d.size), (1, .int .i64 a), (9, .int .i64 i2), (10, .int .i64 s)]) (fun s => σ.set id (arrA 1 cU d1))
        (fun s => (i2 ≤ s + 1 ∨ s = j) ∧ s ≤ j ∧ scanDown (fun x => ltU d1[a]! x) d1 i2 s = scanDown (fun x => ltU d1[a]! x) d1 i2 j) (fun s => s) j rfl (Store.sub_refl _) ⟨Or.inr rfl, Nat.le_refl _, rfl⟩ ?_
      rintro j2 ⟨k1, k2, k3⟩
      simp only [cU, s_setU, h5, ↓vcPre, ↓s_get, ↓reduceIte, vcPost, vcStd, Store.set_set, s_arr, s_setL, s_fold, swp_size, Nat.le_refl, Nat.zero_add, Array.size_setIfInBounds, Nat.reduceEqDiff, reduceCtorEq, Nat.reduceAdd, Nat.reduceLeDiff, Int.reduceLT, Int.reduceLE, ↓u_setN]
      refine ⟨fun b1 => ?_, fun b1 => ?_⟩
      · obtain ⟨q, rfl⟩ : ∃ q, j2 = q + 1 := ⟨j2 - 1, by omega⟩
        rw [scanDown] at k3
        and_intros <;> try omega
        refine (hc _ _).Q ?_
        have e4 : IntKind.i64.wrap (((q + 1 : Nat) : Int) - 1) = ((q : Nat) : Int) := wI (by omega) (by omega)
        simp only [cU, s_setU, h5, e4, ↓vcPre, ↓s_get, ↓reduceIte, vcPost, vcStd, Store.set_set, s_arr, s_setL, s_fold, swp_size, Nat.le_refl, Nat.zero_add, Array.size_setIfInBounds, Nat.reduceEqDiff, reduceCtorEq, Nat.reduceAdd, Nat.reduceLeDiff, Int.reduceLT, Int.reduceLE, ↓u_setN]
        refine ⟨fun b2 => ?_, fun b2 => ?_⟩
        · have hl2 : ltU d1[a]! d1[q + 1]! = true := decide_eq_true b2
          rw [if_pos (by simp [hl2, b1])] at k3
          refine NextQ.to q ?_ ?_ ?_ ?_
          · rfl
          · exact Store.sub_refl _
          · omega
          · exact ⟨Or.inl (by omega), by omega, k3⟩
        · have hl2 : ltU d1[a]! d1[q + 1]! = false := decide_eq_false b2
          rw [if_neg (by simp [hl2])] at k3
          rw [← k3] at h6
          refine ⟨fun c1 => ?_, fun c1 => ?_⟩
          · rw [if_pos (by omega)] at h6
            exact EndQ.to _ _ rfl (Store.sub_refl _) ⟨by rw [← h6], by rw [← h6]⟩
          · rw [if_neg (by omega), dif_pos (by omega)] at h6
            and_intros <;> try omega
            have e5 : IntKind.i64.wrap ((i2 : Int) + 1) = ((i2 + 1 : Nat) : Int) := wI (by omega) (by omega)
            have e6 : IntKind.i64.wrap (((q + 1 : Nat) : Int) - 1) = (((q + 1) - 1 : Nat) : Int) := wI (by omega) (by omega)
            try rw [e5]
            try rw [e6]
            refine NextQ.to (i2 + 1, (q + 1) - 1, swp d1 i2 (q + 1)) ?_ ?_ ?_ ?_
            · rfl
            · exact Store.sub_refl _
            · simp only; omega
            · exact ⟨by simp only; omega, by simp only; omega, by simp only; omega, by simp only; omega, by simp only [swp_size]; omega, h6⟩
      · rw [scanDown_stop _ _ _ _ b1] at k3
        rw [← k3] at h6
        refine ⟨fun c1 => ?_, fun c1 => (by exfalso; omega)⟩
        rw [if_pos (by omega)] at h6
        exact EndQ.to _ _ rfl (Store.sub_refl _) ⟨by rw [← h6], by rw [← h6]⟩
  · rw [if_neg (by simp; omega)] at g3
    rw [← g3] at h6
    refine LoopQ.inv (S := Nat) (fun s => [(0, .os id 1 0 d.size), (1, .int .i64 a), (9, .int .i64 i2), (10, .int .i64 s)]) (fun s => σ.set id (arrA 1 cU d1))
      (fun s => (i2 ≤ s + 1 ∨ s = j) ∧ s ≤ j ∧ scanDown (fun x => ltU d1[a]! x) d1 i2 s = scanDown (fun x => ltU d1[a]! x) d1 i2 j) (fun s => s) j rfl (Store.sub_refl _) ⟨Or.inr rfl, Nat.le_refl _, rfl⟩ ?_
    rintro j2 ⟨k1, k2, k3⟩
    simp only [cU, s_setU, h5, ↓vcPre, ↓s_get, ↓reduceIte, vcPost, vcStd, Store.set_set, s_arr, s_setL, s_fold, swp_size, Nat.le_refl, Nat.zero_add, Array.size_setIfInBounds, Nat.reduceEqDiff, reduceCtorEq, Nat.reduceAdd, Nat.reduceLeDiff, Int.reduceLT, Int.reduceLE, ↓u_setN]
    refine ⟨fun b1 => (by exfalso; omega), fun b1 => ?_⟩
    rw [scanDown_stop _ _ _ _ b1] at k3
    rw [← k3] at h6
    refine ⟨fun c1 => ?_, fun c1 => (by exfalso; omega)⟩
    rw [if_pos (by omega)] at h6
    exact EndQ.to _ _ rfl (Store.sub_refl _) ⟨by rw [← h6], by rw [← h6]⟩
end Go.Am

/- O6 -/
namespace Go.Am
open Go.Proofs Go.Sort
set_option linter.unusedSectionVars false
theorem s98 (hc : LessU) (d : Array Int) (a b pivot : Nat) (hab : a ≤ pivot) (hpb : pivot < b) (hb : b ≤ d.size) (hs : d.size < 2305843009213693952) (σ : Store) (id : Nat) :
    ACalls Try.prog 98 [.os id 1 0 d.size, .int .i64 a, .int .i64 b, .int .i64 pivot] (σ.set id (arrA 1 cU d)) (fun r s => r = .tup [.int .i64 (partition ltU d a b pivot).1, .bool (partition ltU d a b pivot).2.1] ∧ s = σ.set id (arrA 1 cU (partition ltU d a b pivot).2.2)) := by
  refine calls_of Tst.F98 (by simp [Tst.F98, Fn.mkX]) ?_
  simp only [Tst.F98, Fn.mkX, Tst.b98]

  simp only [cU, s_setU, ↓vcPre, ↓s_get, ↓reduceIte, vcPost, vcStd, Store.set_set, s_arr, s_setL, s_fold, swp_size, Nat.le_refl, Nat.zero_add, Array.size_setIfInBounds, Nat.reduceEqDiff, reduceCtorEq, Nat.reduceAdd, Nat.reduceLeDiff, Int.reduceLT, Int.reduceLE, ↓u_setN]
  and_intros <;> try omega
  have e1 : IntKind.i64.wrap ((a : Int) + 1) = ((a + 1 : Nat) : Int) := wI (by omega) (by omega)
  have e2 : IntKind.i64.wrap ((b : Int) - 1) = ((b - 1 : Nat) : Int) := wI (by omega) (by omega)
  rw [e1, e2]
  rw [show (d.setIfInBounds a d[pivot]!).setIfInBounds pivot d[a]! = swp d a pivot from rfl]
  obtain ⟨d1, hd1⟩ : ∃ x, x = swp d a pivot := ⟨_, rfl⟩
  obtain ⟨i, hi⟩ : ∃ x, x = a + 1 := ⟨_, rfl⟩
  obtain ⟨j, hj⟩ : ∃ x, x = b - 1 := ⟨_, rfl⟩
  have h5 : d1.size = d.size := by rw [hd1, swp_size]
  have h2 : i ≤ b := by omega
  have h1 : a < i := by omega
  have h3 : j < b := by omega
  have h4 : a ≤ j := by omega
  rw [← hd1, ← hi, ← hj]
  clear e1 e2
  refine LoopQ.inv (S := Nat) (fun s => [(0, .os id 1 0 d.size), (1, .int .i64 a), (10, .int .i64 s), (11, .int .i64 j)]) (fun s => σ.set id (arrA 1 cU d1))
    (fun s => i ≤ s ∧ s ≤ b ∧ scanUp (fun x => ltU x d1[a]!) d1 j s = scanUp (fun x => ltU x d1[a]!) d1 j i) (fun s => d.size + 1 - s) i rfl (Store.sub_refl _) ⟨Nat.le_refl _, h2, rfl⟩ ?_
  rintro i2 ⟨g1, g2, g3⟩
  simp only [cU, s_setU, h5, ↓vcPre, ↓s_get, ↓reduceIte, vcPost, vcStd, Store.set_set, s_arr, s_setL, s_fold, swp_size, Nat.le_refl, Nat.zero_add, Array.size_setIfInBounds, Nat.reduceEqDiff, reduceCtorEq, Nat.reduceAdd, Nat.reduceLeDiff, Int.reduceLT, Int.reduceLE, ↓u_setN]
  rw [scanUp] at g3
  refine ⟨fun a1 => ?_, fun a1 => ?_⟩
  · and_intros <;> try omega
    refine (hc _ _).Q ?_
    have e3 : IntKind.i64.wrap ((i2 : Int) + 1) = ((i2 + 1 : Nat) : Int) := wI (by omega) (by omega)
    simp only [cU, s_setU, h5, e3, ↓vcPre, ↓s_get, ↓reduceIte, vcPost, vcStd, Store.set_set, s_arr, s_setL, s_fold, swp_size, Nat.le_refl, Nat.zero_add, Array.size_setIfInBounds, Nat.reduceEqDiff, reduceCtorEq, Nat.reduceAdd, Nat.reduceLeDiff, Int.reduceLT, Int.reduceLE, ↓u_setN]
    refine ⟨fun a2 => ?_, fun a2 => ?_⟩
    · have hl : ltU d1[i2]! d1[a]! = true := decide_eq_true a2
      rw [if_pos (by simp [hl, a1])] at g3
      refine NextQ.to (i2 + 1) ?_ ?_ ?_ ?_
      · rfl
      · exact Store.sub_refl _
      · omega
      · exact ⟨by omega, by omega, g3⟩
    · have hl : ltU d1[i2]! d1[a]! = false := decide_eq_false a2
      rw [if_neg (by simp [hl])] at g3
      refine LoopQ.inv (S := Nat) (fun s => [(0, .os id 1 0 d.size), (1, .int .i64 a), (10, .int .i64 i2), (11, .int .i64 s)]) (fun s => σ.set id (arrA 1 cU d1))
        (fun s => (i2 ≤ s + 1 ∨ s = j) ∧ s ≤ j ∧ scanDown (fun x => !ltU x d1[a]!) d1 i2 s = scanDown (fun x => !ltU x d1[a]!) d1 i2 j) (fun s => s) j rfl (Store.sub_refl _) ⟨Or.inr rfl, Nat.le_refl _, rfl⟩ ?_
      rintro j2 ⟨k1, k2, k3⟩
      simp only [cU, s_setU, h5, ↓vcPre, ↓s_get, ↓reduceIte, vcPost, vcStd, Store.set_set, s_arr, s_setL, s_fold, swp_size, Nat.le_refl, Nat.zero_add, Array.size_setIfInBounds, Nat.reduceEqDiff, reduceCtorEq, Nat.reduceAdd, Nat.reduceLeDiff, Int.reduceLT, Int.reduceLE, ↓u_setN]
      refine ⟨fun b1 => ?_, fun b1 => ?_⟩
      · obtain ⟨q, rfl⟩ : ∃ q, j2 = q + 1 := ⟨j2 - 1, by omega⟩
        rw [scanDown] at k3
        and_intros <;> try omega
        refine (hc _ _).Q ?_
        have e4 : IntKind.i64.wrap (((q + 1 : Nat) : Int) - 1) = ((q : Nat) : Int) := wI (by omega) (by omega)
        simp only [cU, s_setU, h5, e4, ↓vcPre, ↓s_get, ↓reduceIte, vcPost, vcStd, Store.set_set, s_arr, s_setL, s_fold, swp_size, Nat.le_refl, Nat.zero_add, Array.size_setIfInBounds, Nat.reduceEqDiff, reduceCtorEq, Nat.reduceAdd, Nat.reduceLeDiff, Int.reduceLT, Int.reduceLE, ↓u_setN]
        refine ⟨fun b2 => ?_, fun b2 => ?_⟩
        · have hl2 : ltU d1[q + 1]! d1[a]! = false := decide_eq_false b2
          rw [if_pos (by simp [hl2, b1])] at k3
          refine NextQ.to q ?_ ?_ ?_ ?_
          · rfl
          · exact Store.sub_refl _
          · omega
          · exact ⟨Or.inl (by omega), by omega, k3⟩
        · have hl2 : ltU d1[q + 1]! d1[a]! = true := decide_eq_true (by omega)
          rw [if_neg (by simp [hl2])] at k3
          obtain ⟨j2, hj2⟩ : ∃ x, x = q + 1 := ⟨_, rfl⟩
          rw [← hj2] at k1 k2 k3 b1 ⊢
          have hp : partition ltU d a b pivot = if i2 > j2 then (j2, true, swp d1 j2 a) else ((partLoop ltU a (i2 + 1) (j2 - 1) (swp d1 i2 j2)).1, false, swp (partLoop ltU a (i2 + 1) (j2 - 1) (swp d1 i2 j2)).2 (partLoop ltU a (i2 + 1) (j2 - 1) (swp d1 i2 j2)).1 a) := by
            subst hd1 hi hj
            rw [partition]
            simp only [← g3, ← k3]
          refine ⟨fun c1 => (by exfalso; omega), fun c1 => ?_⟩
          rw [if_neg (by omega)] at hp
          and_intros <;> try omega
          rw [hp]
          clear hp
          have e5 : IntKind.i64.wrap ((i2 : Int) + 1) = ((i2 + 1 : Nat) : Int) := wI (by omega) (by omega)
          have e6 : IntKind.i64.wrap (((j2 : Nat) : Int) - 1) = ((j2 - 1 : Nat) : Int) := wI (by omega) (by omega)
          try rw [e5]
          try rw [e6]
          rw [show ((q : Nat) : Int) = ((j2 - 1 : Nat) : Int) from by omega]
          refine LoopQ.inv (S := Nat × Nat × Array Int) (fun s => [(0, .os id 1 0 d.size), (1, .int .i64 a), (10, .int .i64 s.1), (11, .int .i64 s.2.1)]) (fun s => σ.set id (arrA 1 cU s.2.2))
            (fun s => a < s.1 ∧ s.1 ≤ b ∧ s.2.1 < b ∧ a ≤ s.2.1 ∧ s.2.2.size = d.size ∧ partLoop ltU a s.1 s.2.1 s.2.2 = partLoop ltU a (i2 + 1) (j2 - 1) (swp d1 i2 j2)) (fun s => d.size + 1 - s.1) (i2 + 1, j2 - 1, swp d1 i2 j2) rfl (Store.sub_refl _)
            ⟨by simp only; omega, by simp only; omega, by simp only; omega, by simp only; omega, by simp only [swp_size]; omega, rfl⟩ ?_
          obtain ⟨R, hR⟩ : ∃ x, x = partLoop ltU a (i2 + 1) (j2 - 1) (swp d1 i2 j2) := ⟨_, rfl⟩
          rw [← hR]
          clear hR k1 k2 g1 g2 g3 b1 c1 e5 e6 h1 h2 h3 h4 h5 hi hj hd1 a1
          clear k3
          clear hj2 hl hl2 b2 a2
          clear e3 e4
          clear j2 i2 q
          clear i j d1
          rintro ⟨i, j, d1⟩ ⟨h1, h2, h3, h4, h5, h6⟩
          simp only at h1 h2 h3 h4 h5 h6
          rw [partLoop] at h6
          simp only [cU, s_setU, h5, ↓vcPre, ↓s_get, ↓reduceIte, vcPost, vcStd, Store.set_set, s_arr, s_setL, s_fold, swp_size, Nat.le_refl, Nat.zero_add, Array.size_setIfInBounds, Nat.reduceEqDiff, reduceCtorEq, Nat.reduceAdd, Nat.reduceLeDiff, Int.reduceLT, Int.reduceLE, ↓u_setN]
          refine LoopQ.inv (S := Nat) (fun s => [(0, .os id 1 0 d.size), (1, .int .i64 a), (10, .int .i64 s), (11, .int .i64 j)]) (fun s => σ.set id (arrA 1 cU d1))
            (fun s => i ≤ s ∧ s ≤ b ∧ scanUp (fun x => ltU x d1[a]!) d1 j s = scanUp (fun x => ltU x d1[a]!) d1 j i) (fun s => d.size + 1 - s) i rfl (Store.sub_refl _) ⟨Nat.le_refl _, h2, rfl⟩ ?_
          rintro i2 ⟨g1, g2, g3⟩
          simp only [cU, s_setU, h5, ↓vcPre, ↓s_get, ↓reduceIte, vcPost, vcStd, Store.set_set, s_arr, s_setL, s_fold, swp_size, Nat.le_refl, Nat.zero_add, Array.size_setIfInBounds, Nat.reduceEqDiff, reduceCtorEq, Nat.reduceAdd, Nat.reduceLeDiff, Int.reduceLT, Int.reduceLE, ↓u_setN]
          rw [scanUp] at g3
          refine ⟨fun a1 => ?_, fun a1 => ?_⟩
          · and_intros <;> try omega
            refine (hc _ _).Q ?_
            have e3 : IntKind.i64.wrap ((i2 : Int) + 1) = ((i2 + 1 : Nat) : Int) := wI (by omega) (by omega)
            simp only [cU, s_setU, h5, e3, ↓vcPre, ↓s_get, ↓reduceIte, vcPost, vcStd, Store.set_set, s_arr, s_setL, s_fold, swp_size, Nat.le_refl, Nat.zero_add, Array.size_setIfInBounds, Nat.reduceEqDiff, reduceCtorEq, Nat.reduceAdd, Nat.reduceLeDiff, Int.reduceLT, Int.reduceLE, ↓u_setN]
            refine ⟨fun a2 => ?_, fun a2 => ?_⟩
            · have hl : ltU d1[i2]! d1[a]! = true := decide_eq_true a2
              rw [if_pos (by simp [hl, a1])] at g3
              refine NextQ.to (i2 + 1) ?_ ?_ ?_ ?_
              · rfl
              · exact Store.sub_refl _
              · omega
              · exact ⟨by omega, by omega, g3⟩
            · have hl : ltU d1[i2]! d1[a]! = false := decide_eq_false a2
              rw [if_neg (by simp [hl])] at g3
              refine LoopQ.inv (S := Nat) (fun s => [(0, .os id 1 0 d.size), (1, .int .i64 a), (10, .int .i64 i2), (11, .int .i64 s)]) (fun s => σ.set id (arrA 1 cU d1))
                (fun s => (i2 ≤ s + 1 ∨ s = j) ∧ s ≤ j ∧ scanDown (fun x => !ltU x d1[a]!) d1 i2 s = scanDown (fun x => !ltU x d1[a]!) d1 i2 j) (fun s => s) j rfl (Store.sub_refl _) ⟨Or.inr rfl, Nat.le_refl _, rfl⟩ ?_
              rintro j2 ⟨k1, k2, k3⟩
              simp only [cU, s_setU, h5, ↓vcPre, ↓s_get, ↓reduceIte, vcPost, vcStd, Store.set_set, s_arr, s_setL, s_fold, swp_size, Nat.le_refl, Nat.zero_add, Array.size_setIfInBounds, Nat.reduceEqDiff, reduceCtorEq, Nat.reduceAdd, Nat.reduceLeDiff, Int.reduceLT, Int.reduceLE, ↓u_setN]
              refine ⟨fun b1 => ?_, fun b1 => ?_⟩
              · obtain ⟨q, rfl⟩ : ∃ q, j2 = q + 1 := ⟨j2 - 1, by omega⟩
                rw [scanDown] at k3
                and_intros <;> try omega
                refine (hc _ _).Q ?_
                have e4 : IntKind.i64.wrap (((q + 1 : Nat) : Int) - 1) = ((q : Nat) : Int) := wI (by omega) (by omega)
                simp only [cU, s_setU, h5, e4, ↓vcPre, ↓s_get, ↓reduceIte, vcPost, vcStd, Store.set_set, s_arr, s_setL, s_fold, swp_size, Nat.le_refl, Nat.zero_add, Array.size_setIfInBounds, Nat.reduceEqDiff, reduceCtorEq, Nat.reduceAdd, Nat.reduceLeDiff, Int.reduceLT, Int.reduceLE, ↓u_setN]
                refine ⟨fun b2 => ?_, fun b2 => ?_⟩
                · have hl2 : ltU d1[q + 1]! d1[a]! = false := decide_eq_false b2
                  rw [if_pos (by simp [hl2, b1])] at k3
                  refine NextQ.to q ?_ ?_ ?_ ?_
                  · rfl
                  · exact Store.sub_refl _
                  · omega
                  · exact ⟨Or.inl (by omega), by omega, k3⟩
                · have hl2 : ltU d1[q + 1]! d1[a]! = true := decide_eq_true (by omega)
                  rw [if_neg (by simp [hl2])] at k3
                  obtain ⟨j2, hj2⟩ : ∃ x, x = q + 1 := ⟨_, rfl⟩
                  rw [← hj2] at k1 k2 k3 b1 ⊢
                  rw [← g3, ← k3] at h6
                  refine ⟨fun c1 => (by exfalso; omega), fun c1 => ?_⟩
                  rw [if_neg (by omega), dif_pos (by omega)] at h6
                  and_intros <;> try omega
                  have e5 : IntKind.i64.wrap ((i2 : Int) + 1) = ((i2 + 1 : Nat) : Int) := wI (by omega) (by omega)
                  have e6 : IntKind.i64.wrap (((j2 : Nat) : Int) - 1) = ((j2 - 1 : Nat) : Int) := wI (by omega) (by omega)
                  try rw [e5]
                  try rw [e6]
                  rw [show ((q : Nat) : Int) = ((j2 - 1 : Nat) : Int) from by omega]
                  refine NextQ.to (i2 + 1, j2 - 1, swp d1 i2 j2) ?_ ?_ ?_ ?_
                  · rfl
                  · exact Store.sub_refl _
                  · simp only; omega
                  · exact ⟨by simp only; omega, by simp only; omega, by simp only; omega, by simp only; omega, by simp only [swp_size]; omega, h6⟩
              · rw [scanDown_stop _ _ _ _ b1] at k3
                rw [← g3, ← k3] at h6
                refine ⟨fun c1 => ?_, fun c1 => (by exfalso; omega)⟩
                rw [if_pos (by omega)] at h6
                and_intros <;> try omega
                exact EndQ.to _ _ rfl (Store.sub_refl _) ⟨by rw [← h6], by rw [← h6]; rfl⟩
          · rw [if_neg (by simp; omega)] at g3
            refine LoopQ.inv (S := Nat) (fun s => [(0, .os id 1 0 d.size), (1, .int .i64 a), (10, .int .i64 i2), (11, .int .i64 s)]) (fun s => σ.set id (arrA 1 cU d1))
              (fun s => (i2 ≤ s + 1 ∨ s = j) ∧ s ≤ j ∧ scanDown (fun x => !ltU x d1[a]!) d1 i2 s = scanDown (fun x => !ltU x d1[a]!) d1 i2 j) (fun s => s) j rfl (Store.sub_refl _) ⟨Or.inr rfl, Nat.le_refl _, rfl⟩ ?_
            rintro j2 ⟨k1, k2, k3⟩
            simp only [cU, s_setU, h5, ↓vcPre, ↓s_get, ↓reduceIte, vcPost, vcStd, Store.set_set, s_arr, s_setL, s_fold, swp_size, Nat.le_refl, Nat.zero_add, Array.size_setIfInBounds, Nat.reduceEqDiff, reduceCtorEq, Nat.reduceAdd, Nat.reduceLeDiff, Int.reduceLT, Int.reduceLE, ↓u_setN]
            refine ⟨fun b1 => (by exfalso; omega), fun b1 => ?_⟩
            rw [scanDown_stop _ _ _ _ b1] at k3
            rw [← g3, ← k3] at h6
            refine ⟨fun c1 => ?_, fun c1 => (by exfalso; omega)⟩
            rw [if_pos (by omega)] at h6
            and_intros <;> try omega
            exact EndQ.to _ _ rfl (Store.sub_refl _) ⟨by rw [← h6], by rw [← h6]; rfl⟩
      · rw [scanDown_stop _ _ _ _ b1] at k3
        have hp : partition ltU d a b pivot = if i2 > j2 then (j2, true, swp d1 j2 a) else ((partLoop ltU a (i2 + 1) (j2 - 1) (swp d1 i2 j2)).1, false, swp (partLoop ltU a (i2 + 1) (j2 - 1) (swp d1 i2 j2)).2 (partLoop ltU a (i2 + 1) (j2 - 1) (swp d1 i2 j2)).1 a) := by
          subst hd1 hi hj
          rw [partition]
          simp only [← g3, ← k3]
        refine ⟨fun c1 => ?_, fun c1 => (by exfalso; omega)⟩
        rw [if_pos (by omega)] at hp
        and_intros <;> try omega
        exact EndQ.to _ _ rfl (Store.sub_refl _) ⟨by rw [hp], by rw [hp]; rfl⟩
  · rw [if_neg (by simp; omega)] at g3
    refine LoopQ.inv (S := Nat) (fun s => [(0, .os id 1 0 d.size), (1, .int .i64 a), (10, .int .i64 i2), (11, .int .i64 s)]) (fun s => σ.set id (arrA 1 cU d1))
      (fun s => (i2 ≤ s + 1 ∨ s = j) ∧ s ≤ j ∧ scanDown (fun x => !ltU x d1[a]!) d1 i2 s = scanDown (fun x => !ltU x d1[a]!) d1 i2 j) (fun s => s) j rfl (Store.sub_refl _) ⟨Or.inr rfl, Nat.le_refl _, rfl⟩ ?_
    rintro j2 ⟨k1, k2, k3⟩
    simp only [cU, s_setU, h5, ↓vcPre, ↓s_get, ↓reduceIte, vcPost, vcStd, Store.set_set, s_arr, s_setL, s_fold, swp_size, Nat.le_refl, Nat.zero_add, Array.size_setIfInBounds, Nat.reduceEqDiff, reduceCtorEq, Nat.reduceAdd, Nat.reduceLeDiff, Int.reduceLT, Int.reduceLE, ↓u_setN]
    refine ⟨fun b1 => (by exfalso; omega), fun b1 => ?_⟩
    rw [scanDown_stop _ _ _ _ b1] at k3
    have hp : partition ltU d a b pivot = if i2 > j2 then (j2, true, swp d1 j2 a) else ((partLoop ltU a (i2 + 1) (j2 - 1) (swp d1 i2 j2)).1, false, swp (partLoop ltU a (i2 + 1) (j2 - 1) (swp d1 i2 j2)).2 (partLoop ltU a (i2 + 1) (j2 - 1) (swp d1 i2 j2)).1 a) := by
      subst hd1 hi hj
      rw [partition]
      simp only [← g3, ← k3]
    refine ⟨fun c1 => ?_, fun c1 => (by exfalso; omega)⟩
    rw [if_pos (by omega)] at hp
    and_intros <;> try omega
    exact EndQ.to _ _ rfl (Store.sub_refl _) ⟨by rw [hp], by rw [hp]; rfl⟩
end Go.Am

/- O7 -/
namespace Go.Am
open Go.Proofs Go.Sort
set_option linter.unusedSectionVars false
/-- The array, and a count. -/
def stQ (σ : Store) (id q : Nat) (c : Int → List AV) (d : Array Int) (n : Nat) : Store := (σ.set id (arrA 1 cU d)).set q (.box [.int .i64 n])
theorem s103 (hc : LessU) (d : Array Int) (a b n : Nat) (ha : a < d.size) (hb : b < d.size) (hs : d.size < 2305843009213693952) (hn : n < 1000) (σ : Store) (id q : Nat) (hq : ¬ id = q) :
    ACalls Try.prog 103 [.os id 1 0 d.size, .int .i64 a, .int .i64 b, .ptr q 0] (stQ σ id q cU d n) (fun r s => r = .tup [.int .i64 (order2 ltU d a b n).1, .int .i64 (order2 ltU d a b n).2.1] ∧ s = stQ σ id q cU d (order2 ltU d a b n).2.2) := by
  refine calls_of Tst.F103 (by simp [Tst.F103, Fn.mkX]) ?_
  simp only [Tst.F103, Fn.mkX, Tst.b103, stQ]

  simp only [cU, s_setU, hq, ↓vcPre, ↓s_get, ↓reduceIte, vcPost, vcStd, Store.set_set, s_arr, s_setL, s_fold, swp_size, Nat.le_refl, Nat.zero_add, Array.size_setIfInBounds, Nat.reduceEqDiff, reduceCtorEq, Nat.reduceAdd, Nat.reduceLeDiff, Int.reduceLT, Int.reduceLE, ↓u_setN]
  and_intros <;> try omega
  refine (hc _ _).Q ?_
  simp only [cU, s_setU, hq, ↓vcPre, ↓s_get, ↓reduceIte, vcPost, vcStd, Store.set_set, s_arr, s_setL, s_fold, swp_size, Nat.le_refl, Nat.zero_add, Array.size_setIfInBounds, Nat.reduceEqDiff, reduceCtorEq, Nat.reduceAdd, Nat.reduceLeDiff, Int.reduceLT, Int.reduceLE, ↓u_setN]
  have e1 : IntKind.i64.wrap ((n : Int) + 1) = ((n + 1 : Nat) : Int) := wI (by omega) (by omega)
  rw [e1]
  refine ⟨fun h => ?_, fun h => ?_⟩
  · have hl : ltU d[b]! d[a]! = true := decide_eq_true h
    refine EndQ.to _ _ rfl (Store.sub_refl _) ?_
    simp [order2, hl, stQ]
  · have hl : ltU d[b]! d[a]! = false := decide_eq_false h
    refine EndQ.to _ _ rfl (Store.sub_refl _) ?_
    simp [order2, hl, stQ]
theorem order2_lt (lt : Int → Int → Bool) (d : Array Int) (a b n m : Nat) (ha : a < m) (hb : b < m) : (order2 lt d a b n).1 < m ∧ (order2 lt d a b n).2.1 < m ∧ (order2 lt d a b n).2.2 ≤ n + 1 := by
  unfold order2; split <;> simp <;> omega
theorem s102 (hc : LessU) (d : Array Int) (a b e n : Nat) (ha : a < d.size) (hb : b < d.size) (he : e < d.size) (hs : d.size < 2305843009213693952) (hn : n < 900) (σ : Store) (id q : Nat) (hq : ¬ id = q) :
    ACalls Try.prog 102 [.os id 1 0 d.size, .int .i64 a, .int .i64 b, .int .i64 e, .ptr q 0] (stQ σ id q cU d n) (fun r s => r = .int .i64 (median ltU d a b e n).1 ∧ s = stQ σ id q cU d (median ltU d a b e n).2) := by
  refine calls_of Tst.F102 (by simp [Tst.F102, Fn.mkX]) ?_
  simp only [Tst.F102, Fn.mkX, Tst.b102]
  simp only [↓vcPre, ↓wit_get, ↓reduceIte, vcPost, vcStd, Nat.reduceEqDiff, reduceCtorEq, Nat.reduceAdd, Nat.reduceLeDiff, Int.reduceLT, Int.reduceLE, ↓u_setN]
  refine (s103 hc d a b n ha hb hs (by omega) σ id q hq).Q ?_
  rintro r s ⟨rfl, rfl⟩
  obtain ⟨p1, p2, p3⟩ := order2_lt ltU d a b n d.size ha hb
  simp only [↓vcPre, ↓wit_get, ↓reduceIte, vcPost, vcStd, Nat.reduceEqDiff, reduceCtorEq, Nat.reduceAdd, Nat.reduceLeDiff, Int.reduceLT, Int.reduceLE, ↓u_setN]
  refine (s103 hc d _ e _ p2 he hs (by omega) σ id q hq).Q ?_
  rintro r s ⟨rfl, rfl⟩
  obtain ⟨q1, q2, q3⟩ := order2_lt ltU d (order2 ltU d a b n).2.1 e (order2 ltU d a b n).2.2 d.size p2 he
  simp only [↓vcPre, ↓wit_get, ↓reduceIte, vcPost, vcStd, Nat.reduceEqDiff, reduceCtorEq, Nat.reduceAdd, Nat.reduceLeDiff, Int.reduceLT, Int.reduceLE, ↓u_setN]
  refine (s103 hc d _ _ _ p1 q1 hs (by omega) σ id q hq).Q ?_
  rintro r s ⟨rfl, rfl⟩
  simp only [↓vcPre, ↓wit_get, ↓reduceIte, vcPost, vcStd, Nat.reduceEqDiff, reduceCtorEq, Nat.reduceAdd, Nat.reduceLeDiff, Int.reduceLT, Int.reduceLE, ↓u_setN]
  exact EndQ.to _ _ rfl (Store.sub_refl _) ⟨rfl, rfl⟩
theorem median_lt (lt : Int → Int → Bool) (d : Array Int) (a b e n m : Nat) (ha : a < m) (hb : b < m) (he : e < m) : (median lt d a b e n).1 < m ∧ (median lt d a b e n).2 ≤ n + 3 := by
  obtain ⟨p1, p2, p3⟩ := order2_lt lt d a b n m ha hb
  obtain ⟨q1, q2, q3⟩ := order2_lt lt d (order2 lt d a b n).2.1 e (order2 lt d a b n).2.2 m p2 he
  obtain ⟨r1, r2, r3⟩ := order2_lt lt d (order2 lt d a b n).1 (order2 lt d (order2 lt d a b n).2.1 e (order2 lt d a b n).2.2).1 (order2 lt d (order2 lt d a b n).2.1 e (order2 lt d a b n).2.2).2.2 m p1 q1
  simp only [median]
  exact ⟨r2, by omega⟩
theorem s101 (hc : LessU) (d : Array Int) (a n : Nat) (h1 : 1 ≤ a) (ha : a + 1 < d.size) (hs : d.size < 2305843009213693952) (hn : n < 900) (σ : Store) (id q : Nat) (hq : ¬ id = q) :
    ACalls Try.prog 101 [.os id 1 0 d.size, .int .i64 a, .ptr q 0] (stQ σ id q cU d n) (fun r s => r = .int .i64 (medianAdjacent ltU d a n).1 ∧ s = stQ σ id q cU d (medianAdjacent ltU d a n).2) := by
  refine calls_of Tst.F101 (by simp [Tst.F101, Fn.mkX]) ?_
  simp only [Tst.F101, Fn.mkX, Tst.b101]
  simp only [↓vcPre, ↓wit_get, ↓reduceIte, vcPost, vcStd, Nat.reduceEqDiff, reduceCtorEq, Nat.reduceAdd, Nat.reduceLeDiff, Int.reduceLT, Int.reduceLE, ↓u_setN]
  have e1 : IntKind.i64.wrap ((a : Int) + 1) = ((a + 1 : Nat) : Int) := wI (by omega) (by omega)
  have e2 : IntKind.i64.wrap ((a : Int) - 1) = ((a - 1 : Nat) : Int) := wI (by omega) (by omega)
  rw [e1, e2]
  refine (s102 hc d (a - 1) a (a + 1) n (by omega) (by omega) (by omega) hs hn σ id q hq).Q ?_
  rintro r s ⟨rfl, rfl⟩
  simp only [↓vcPre, ↓wit_get, ↓reduceIte, vcPost, vcStd, Nat.reduceEqDiff, reduceCtorEq, Nat.reduceAdd, Nat.reduceLeDiff, Int.reduceLT, Int.reduceLE, ↓u_setN]
  exact EndQ.to _ _ rfl (Store.sub_refl _) ⟨rfl, rfl⟩
theorem s93 (hc : LessU) (d : Array Int) (a b : Nat) (hab : a < b) (hb : b ≤ d.size) (hs : d.size < 2305843009213693952) (σ : Store) (id : Nat) :
    ACalls Try.prog 93 [.os id 1 0 d.size, .int .i64 a, .int .i64 b] (σ.set id (arrA 1 cU d)) (fun r s => r = .tup [.int .i64 (choosePivot ltU d a b).1, .int .i64 (match (choosePivot ltU d a b).2 with | .unknown => 0 | .increasing => 1 | .decreasing => 2)] ∧ s = σ.set id (arrA 1 cU d)) := by
  refine calls_of Tst.F93 (by simp [Tst.F93, Fn.mkX]) ?_
  simp only [Tst.F93, Fn.mkX, Tst.b93]

  simp only [cU, s_setU, ↓vcPre, ↓s_get, ↓reduceIte, vcPost, vcStd, Store.set_set, s_arr, s_setL, s_fold, swp_size, Nat.le_refl, Nat.zero_add, Array.size_setIfInBounds, Nat.reduceEqDiff, reduceCtorEq, Nat.reduceAdd, Nat.reduceLeDiff, Int.reduceLT, Int.reduceLE, ↓u_setN]
  refine AllocQ.i1 fun q hq1 hq2 hq => ?_
  have fr : (σ.set id (arrA 1 cU d)) q = none := by rw [u_setne hq1]; exact hq
  simp only [cU, s_setU, hq1, hq2, ↓vcPre, ↓s_get, ↓reduceIte, vcPost, vcStd, Store.set_set, s_arr, s_setL, s_fold, swp_size, Nat.le_refl, Nat.zero_add, Array.size_setIfInBounds, Nat.reduceEqDiff, reduceCtorEq, Nat.reduceAdd, Nat.reduceLeDiff, Int.reduceLT, Int.reduceLE, ↓u_setN]
  have eL : IntKind.i64.wrap ((b : Int) - a) = ((b - a : Nat) : Int) := wI (by omega) (by omega)
  have eQ : IntKind.i64.wrap (((b - a : Nat) : Int).tdiv 4) = (((b - a) / 4 : Nat) : Int) := wI (by rw [Int.tdiv_eq_ediv_of_nonneg (by omega)]; omega) (by omega)
  have m1 : IntKind.i64.wrap ((((b - a) / 4 : Nat) : Int) * 1) = (((b - a) / 4 * 1 : Nat) : Int) := wI (by omega) (by omega)
  have m2 : IntKind.i64.wrap ((((b - a) / 4 : Nat) : Int) * 2) = (((b - a) / 4 * 2 : Nat) : Int) := wI (by omega) (by omega)
  have m3 : IntKind.i64.wrap ((((b - a) / 4 : Nat) : Int) * 3) = (((b - a) / 4 * 3 : Nat) : Int) := wI (by omega) (by omega)
  have n1 : IntKind.i64.wrap ((a : Int) + (((b - a) / 4 * 1 : Nat) : Int)) = ((a + (b - a) / 4 * 1 : Nat) : Int) := wI (by omega) (by omega)
  have n2 : IntKind.i64.wrap ((a : Int) + (((b - a) / 4 * 2 : Nat) : Int)) = ((a + (b - a) / 4 * 2 : Nat) : Int) := wI (by omega) (by omega)
  have n3 : IntKind.i64.wrap ((a : Int) + (((b - a) / 4 * 3 : Nat) : Int)) = ((a + (b - a) / 4 * 3 : Nat) : Int) := wI (by omega) (by omega)
  simp only [eL, eQ, m1, m2, m3, n1, n2, n3]
  rw [show (Obj.box [AV.int IntKind.i64 0]) = Obj.box [AV.int IntKind.i64 ((0 : Nat) : Int)] from rfl]
  rw [show (σ.set id (arrA 1 cU d)).set q (Obj.box [AV.int IntKind.i64 ((0 : Nat) : Int)]) = stQ σ id q cU d 0 from rfl]
  have hsub : ∀ n, Store.sub (σ.set id (arrA 1 cU d)) (stQ σ id q cU d n) := fun n => Store.sub_set _ _ _ fr
  obtain ⟨l, hl⟩ : ∃ x, x = b - a := ⟨_, rfl⟩
  obtain ⟨i, hi⟩ : ∃ x, x = a + l / 4 * 1 := ⟨_, rfl⟩
  obtain ⟨j, hj⟩ : ∃ x, x = a + l / 4 * 2 := ⟨_, rfl⟩
  obtain ⟨k, hk'⟩ : ∃ x, x = a + l / 4 * 3 := ⟨_, rfl⟩
  have hcp : choosePivot ltU d a b = (fun r : Nat × Nat => (r.1, if r.2 = 0 then Hint.increasing else if r.2 = 12 then .decreasing else .unknown))
      (if l ≥ 8 then (if l ≥ 50 then median ltU d (medianAdjacent ltU d i 0).1 (medianAdjacent ltU d j (medianAdjacent ltU d i 0).2).1 (medianAdjacent ltU d k (medianAdjacent ltU d j (medianAdjacent ltU d i 0).2).2).1 (medianAdjacent ltU d k (medianAdjacent ltU d j (medianAdjacent ltU d i 0).2).2).2
        else median ltU d i j k 0) else (j, 0)) := by subst hi hj hk' hl; rfl
  have F2 : IntKind.i64.wrap ((a : Int) + IntKind.i64.wrap (IntKind.i64.wrap ((IntKind.i64.wrap ((b : Int) - a)).tdiv 4) * 2)) = (j : Int) := by rw [eL, eQ, m2, n2, hj, hl]
  have F3 : IntKind.i64.wrap ((a : Int) + IntKind.i64.wrap (IntKind.i64.wrap ((IntKind.i64.wrap ((b : Int) - a)).tdiv 4) * 3)) = (k : Int) := by rw [eL, eQ, m3, n3, hk', hl]
  rw [hcp]
  simp only [← hl, ← hi, ← hj, ← hk']
  clear hcp eL eQ m1 m2 m3 n1 n2 n3
  refine ⟨by omega, by omega, by omega, fun a1 => ⟨fun a2 => ?_, fun a2 => ?_⟩, fun a1 => ?_⟩
  · have v0 := fun (x n : Nat) (h1 : 1 ≤ x) (h2 : x + 1 < d.size) => (by
      unfold medianAdjacent; exact median_lt ltU d (x - 1) x (x + 1) n d.size (by omega) (by omega) (by omega) : (medianAdjacent ltU d x n).1 < d.size ∧ (medianAdjacent ltU d x n).2 ≤ n + 3)
    rw [if_pos (by omega), if_pos (by omega)]
    refine (s101 hc d i 0 (by omega) (by omega) hs (by omega) σ id q hq2).Q ?_
    rintro r s ⟨rfl, rfl⟩
    obtain ⟨p1, p2⟩ := v0 i 0 (by omega) (by omega)
    simp only [F2, F3, ↓vcPre, ↓wit_get, ↓reduceIte, vcPost, vcStd, Nat.reduceEqDiff, reduceCtorEq, Nat.reduceAdd, Nat.reduceLeDiff, Int.reduceLT, Int.reduceLE, ↓u_setN]
    refine (s101 hc d j (medianAdjacent ltU d i 0).2 (by omega) (by omega) hs (by omega) σ id q hq2).Q ?_
    rintro r s ⟨rfl, rfl⟩
    obtain ⟨p3, p4⟩ := v0 j (medianAdjacent ltU d i 0).2 (by omega) (by omega)
    simp only [F2, F3, ↓vcPre, ↓wit_get, ↓reduceIte, vcPost, vcStd, Nat.reduceEqDiff, reduceCtorEq, Nat.reduceAdd, Nat.reduceLeDiff, Int.reduceLT, Int.reduceLE, ↓u_setN]
    refine (s101 hc d k (medianAdjacent ltU d j (medianAdjacent ltU d i 0).2).2 (by omega) (by omega) hs (by omega) σ id q hq2).Q ?_
    rintro r s ⟨rfl, rfl⟩
    obtain ⟨p5, p6⟩ := v0 k (medianAdjacent ltU d j (medianAdjacent ltU d i 0).2).2 (by omega) (by omega)
    simp only [F2, F3, ↓vcPre, ↓wit_get, ↓reduceIte, vcPost, vcStd, Nat.reduceEqDiff, reduceCtorEq, Nat.reduceAdd, Nat.reduceLeDiff, Int.reduceLT, Int.reduceLE, ↓u_setN]
    refine (s102 hc d _ _ _ (medianAdjacent ltU d k (medianAdjacent ltU d j (medianAdjacent ltU d i 0).2).2).2 p1 p3 p5 hs (by omega) σ id q hq2).Q ?_
    rintro r s ⟨rfl, rfl⟩
    generalize median ltU d _ _ _ _ = R
    unfold stQ at hsub ⊢
    simp only [hq2, ↓vcPre, ↓wit_get, ↓reduceIte, vcPost, vcStd, Nat.reduceEqDiff, reduceCtorEq, Nat.reduceAdd, Nat.reduceLeDiff, Int.reduceLT, Int.reduceLE, ↓u_setN]
    refine ⟨fun z => ?_, fun z => ⟨fun z2 => ?_, fun z2 => ?_⟩⟩
    · exact EndQ.to _ _ rfl (hsub _) ⟨by dsimp only; rw [if_pos (by omega)], rfl⟩
    · exact EndQ.to _ _ rfl (hsub _) ⟨by dsimp only; rw [if_neg (by omega), if_pos (by omega)], rfl⟩
    · exact EndQ.to _ _ rfl (hsub _) ⟨by dsimp only; rw [if_neg (by omega), if_neg (by omega)], rfl⟩
  · rw [if_pos (by omega), if_neg (by omega)]
    refine (s102 hc d i j k 0 (by omega) (by omega) (by omega) hs (by omega) σ id q hq2).Q ?_
    rintro r s ⟨rfl, rfl⟩
    generalize median ltU d _ _ _ _ = R
    unfold stQ at hsub ⊢
    simp only [hq2, ↓vcPre, ↓wit_get, ↓reduceIte, vcPost, vcStd, Nat.reduceEqDiff, reduceCtorEq, Nat.reduceAdd, Nat.reduceLeDiff, Int.reduceLT, Int.reduceLE, ↓u_setN]
    refine ⟨fun z => ?_, fun z => ⟨fun z2 => ?_, fun z2 => ?_⟩⟩
    · exact EndQ.to _ _ rfl (hsub _) ⟨by dsimp only; rw [if_pos (by omega)], rfl⟩
    · exact EndQ.to _ _ rfl (hsub _) ⟨by dsimp only; rw [if_neg (by omega), if_pos (by omega)], rfl⟩
    · exact EndQ.to _ _ rfl (hsub _) ⟨by dsimp only; rw [if_neg (by omega), if_neg (by omega)], rfl⟩
  · rw [if_neg (by omega)]
    exact EndQ.to _ _ rfl (hsub 0) ⟨rfl, rfl⟩
end Go.Am

/- O8 -/
namespace Go.Am
open Go.Proofs Go.Sort
set_option linter.unusedSectionVars false
theorem shiftDown_size (lt : Int → Int → Bool) : ∀ j (d : Array Int), (shiftDown lt j d).size = d.size
  | 0, d => rfl
  | j + 1, d => by rw [shiftDown]; split <;> simp [shiftDown_size lt j, swp_size]
theorem shiftUp_size (lt : Int → Int → Bool) (b j : Nat) (d : Array Int) : (shiftUp lt b j d).size = d.size := by
  fun_induction shiftUp lt b j d <;> simp_all [swp_size]
set_option maxRecDepth 20000 in
theorem s95 (hc : LessU) (d : Array Int) (a b : Nat) (hab : a < b) (hb : b ≤ d.size) (hs : d.size < 2305843009213693952) (σ : Store) (id : Nat) :
    ACalls Try.prog 95 [.os id 1 0 d.size, .int .i64 a, .int .i64 b] (σ.set id (arrA 1 cU d)) (fun r s => r = .bool (partialInsertionSort ltU d a b).2 ∧ s = σ.set id (arrA 1 cU (partialInsertionSort ltU d a b).1)) := by
  refine calls_of Tst.F95 (by simp [Tst.F95, Fn.mkX]) ?_
  simp only [Tst.F95, Fn.mkX, Tst.b95]

  simp only [cU, s_setU, ↓vcPre, ↓s_get, ↓reduceIte, vcPost, vcStd, Store.set_set, s_arr, s_setL, s_fold, swp_size, Nat.le_refl, Nat.zero_add, Array.size_setIfInBounds, Nat.reduceEqDiff, reduceCtorEq, Nat.reduceAdd, Nat.reduceLeDiff, Int.reduceLT, Int.reduceLE, ↓u_setN]
  have e1 : IntKind.i64.wrap ((a : Int) + 1) = ((a + 1 : Nat) : Int) := wI (by omega) (by omega)
  rw [e1]
  refine LoopQ.inv (S := Nat × Nat × Array Int) (fun s => [(0, .os id 1 0 d.size), (1, .int .i64 a), (2, .int .i64 b), (7, .int .i64 s.2.1), (8, .int .i64 (5 - (s.1 : Int)))]) (fun s => σ.set id (arrA 1 cU s.2.2))
    (fun s => s.1 ≤ 5 ∧ a < s.2.1 ∧ s.2.1 ≤ b ∧ s.2.2.size = d.size ∧ partialIns ltU a b s.1 s.2.1 s.2.2 = partialInsertionSort ltU d a b) (fun s => s.1) (5, a + 1, d) rfl (Store.sub_refl _)
    ⟨by simp, by simp only; omega, by simp only; omega, rfl, rfl⟩ ?_
  rintro ⟨k, i, d1⟩ ⟨h1, h2, h3, h4, h5⟩
  simp only at h1 h2 h3 h4 h5
  simp only [cU, s_setU, h4, ↓vcPre, ↓s_get, ↓reduceIte, vcPost, vcStd, Store.set_set, s_arr, s_setL, s_fold, swp_size, Nat.le_refl, Nat.zero_add, Array.size_setIfInBounds, Nat.reduceEqDiff, reduceCtorEq, Nat.reduceAdd, Nat.reduceLeDiff, Int.reduceLT, Int.reduceLE, ↓u_setN]
  refine ⟨fun a1 => ?_, fun a1 => ?_⟩
  · obtain ⟨m, rfl⟩ : ∃ m, k = m + 1 := ⟨k - 1, by omega⟩
    rw [partialIns] at h5
    simp only at h5
    refine LoopQ.inv (S := Nat) (fun s => [(0, .os id 1 0 d.size), (1, .int .i64 a), (2, .int .i64 b), (7, .int .i64 s), (8, .int .i64 (5 - ((m + 1 : Nat) : Int)))]) (fun s => σ.set id (arrA 1 cU d1))
      (fun s => i ≤ s ∧ s ≤ b ∧ scanSorted ltU d1 b s = scanSorted ltU d1 b i) (fun s => d.size + 1 - s) i rfl (Store.sub_refl _) ⟨Nat.le_refl _, h3, rfl⟩ ?_
    rintro i2 ⟨g1, g2, g3⟩
    have e2 : IntKind.i64.wrap ((i2 : Int) - 1) = ((i2 - 1 : Nat) : Int) := wI (by omega) (by omega)
    have e3 : IntKind.i64.wrap ((i2 : Int) + 1) = ((i2 + 1 : Nat) : Int) := wI (by omega) (by omega)
    have e4 : IntKind.i64.wrap ((b : Int) - a) = ((b - a : Nat) : Int) := wI (by omega) (by omega)
    have e5 : IntKind.i64.wrap ((i2 : Int) - a) = ((i2 - a : Nat) : Int) := wI (by omega) (by omega)
    have e6 : IntKind.i64.wrap ((b : Int) - i2) = ((b - i2 : Nat) : Int) := wI (by omega) (by omega)
    simp only [cU, s_setU, h4, e2, e3, e4, e5, e6, ↓vcPre, ↓s_get, ↓reduceIte, vcPost, vcStd, Store.set_set, s_arr, s_setL, s_fold, swp_size, Nat.le_refl, Nat.zero_add, Array.size_setIfInBounds, Nat.reduceEqDiff, reduceCtorEq, Nat.reduceAdd, Nat.reduceLeDiff, Int.reduceLT, Int.reduceLE, ↓u_setN]
    rw [scanSorted] at g3
    refine ⟨fun a2 => ?_, fun a2 => ?_⟩
    · and_intros <;> try omega
      refine (hc _ _).Q ?_
      simp only [cU, s_setU, h4, e2, e3, e4, e5, e6, ↓vcPre, ↓s_get, ↓reduceIte, vcPost, vcStd, Store.set_set, s_arr, s_setL, s_fold, swp_size, Nat.le_refl, Nat.zero_add, Array.size_setIfInBounds, Nat.reduceEqDiff, reduceCtorEq, Nat.reduceAdd, Nat.reduceLeDiff, Int.reduceLT, Int.reduceLE, ↓u_setN]
      refine ⟨fun a3 => ?_, fun a3 => ?_⟩
      · have hl : ltU d1[i2]! d1[i2 - 1]! = false := decide_eq_false a3
        rw [if_pos (by simp [hl, a2])] at g3
        refine NextQ.to (i2 + 1) ?_ ?_ ?_ ?_
        · rfl
        · exact Store.sub_refl _
        · omega
        · exact ⟨by omega, by omega, g3⟩
      · have hl : ltU d1[i2]! d1[i2 - 1]! = true := decide_eq_true (by omega)
        rw [if_neg (by simp [hl])] at g3
        rw [← g3, if_neg (by omega)] at h5
        refine ⟨fun b1 => (by exfalso; omega), fun b1 => ⟨fun b2 => ?_, fun b2 => ?_⟩⟩
        · rw [if_pos (by omega)] at h5
          exact EndQ.to _ _ rfl (Store.sub_refl _) ⟨by rw [← h5], by rw [← h5]⟩
        · rw [if_neg (by omega)] at h5
          and_intros <;> try omega
          · intro b3
            rw [if_pos (show i2 - a ≥ 2 by omega)] at h5
            refine LoopQ.inv (S := Nat × Array Int) (fun s => [(0, .os id 1 0 d.size), (1, .int .i64 a), (2, .int .i64 b), (7, .int .i64 i2), (8, .int .i64 (5 - ((m + 1 : Nat) : Int))), (9, .int .i64 s.1)]) (fun s => σ.set id (arrA 1 cU s.2))
              (fun s => s.1 ≤ i2 ∧ s.2.size = d.size ∧ shiftDown ltU s.1 s.2 = shiftDown ltU (i2 - 1) (swp d1 i2 (i2 - 1))) (fun s => s.1) (i2 - 1, swp d1 i2 (i2 - 1)) rfl (Store.sub_refl _)
              ⟨by simp only; omega, by simp only [swp_size]; omega, rfl⟩ ?_
            rintro ⟨j, d3⟩ ⟨k1, k2, k3⟩
            simp only at k1 k2 k3
            have f1 : IntKind.i64.wrap ((b : Int) - i2) = ((b - i2 : Nat) : Int) := e6
            rw [← k3] at h5
            simp only [cU, s_setU, k2, e2, e3, e4, e5, e6, ↓vcPre, ↓s_get, ↓reduceIte, vcPost, vcStd, Store.set_set, s_arr, s_setL, s_fold, swp_size, Nat.le_refl, Nat.zero_add, Array.size_setIfInBounds, Nat.reduceEqDiff, reduceCtorEq, Nat.reduceAdd, Nat.reduceLeDiff, Int.reduceLT, Int.reduceLE, ↓u_setN]
            refine ⟨fun b4 => ?_, fun b4 => ?_⟩
            · obtain ⟨j, rfl⟩ : ∃ q, j = q + 1 := ⟨j - 1, by omega⟩
              have f2 : IntKind.i64.wrap (((j + 1 : Nat) : Int) - 1) = (j : Int) := wI (by omega) (by omega)
              simp only [f2, Int.toNat_natCast]
              and_intros <;> try omega
              refine (hc _ _).Q ?_
              simp only [cU, s_setU, k2, e2, e3, e4, e5, e6, f2, ↓vcPre, ↓s_get, ↓reduceIte, vcPost, vcStd, Store.set_set, s_arr, s_setL, s_fold, swp_size, Nat.le_refl, Nat.zero_add, Array.size_setIfInBounds, Nat.reduceEqDiff, reduceCtorEq, Nat.reduceAdd, Nat.reduceLeDiff, Int.reduceLT, Int.reduceLE, ↓u_setN]
              refine ⟨fun b5 => ?_, fun b5 => ?_⟩
              · have hl2 : ltU d3[j + 1]! d3[j]! = false := decide_eq_false b5
                rw [show shiftDown ltU (j + 1) d3 = d3 by rw [shiftDown, if_pos (by simp [hl2])]] at h5
                have f3 : IntKind.i64.wrap (5 - ((m + 1 : Nat) : Int) + 1) = 5 - (m : Int) := by rw [wrap64 (by unfold I64; omega)]; omega
                refine ⟨fun c1 => ?_, fun c1 => ?_⟩
                · rw [if_pos (show b - i2 ≥ 2 by omega)] at h5
                  refine LoopQ.inv (S := Nat × Array Int) (fun s => [(0, .os id 1 0 d.size), (1, .int .i64 a), (2, .int .i64 b), (7, .int .i64 i2), (8, .int .i64 (5 - ((m + 1 : Nat) : Int))), (10, .int .i64 s.1)]) (fun s => σ.set id (arrA 1 cU s.2))
                    (fun s => i2 < s.1 ∧ s.1 ≤ b ∧ s.2.size = d.size ∧ shiftUp ltU b s.1 s.2 = shiftUp ltU b (i2 + 1) d3) (fun s => b + 1 - s.1) (i2 + 1, d3) rfl (Store.sub_refl _)
                    ⟨by simp only; omega, by simp only; omega, k2, rfl⟩ ?_
                  rintro ⟨p, d4⟩ ⟨l1, l2, l3, l4⟩
                  simp only at l1 l2 l3 l4
                  rw [← l4] at h5
                  simp only [cU, s_setU, l3, e2, e3, e4, e5, e6, ↓vcPre, ↓s_get, ↓reduceIte, vcPost, vcStd, Store.set_set, s_arr, s_setL, s_fold, swp_size, Nat.le_refl, Nat.zero_add, Array.size_setIfInBounds, Nat.reduceEqDiff, reduceCtorEq, Nat.reduceAdd, Nat.reduceLeDiff, Int.reduceLT, Int.reduceLE, ↓u_setN]
                  have f4 : IntKind.i64.wrap ((p : Int) - 1) = ((p - 1 : Nat) : Int) := wI (by omega) (by omega)
                  have f5 : IntKind.i64.wrap ((p : Int) + 1) = ((p + 1 : Nat) : Int) := wI (by omega) (by omega)
                  simp only [f3, f4, f5, Int.toNat_natCast]
                  refine ⟨fun c2 => ?_, fun c2 => ?_⟩
                  · and_intros <;> try omega
                    refine (hc _ _).Q ?_
                    simp only [cU, s_setU, l3, e2, e3, e4, e5, e6, f3, f4, f5, ↓vcPre, ↓s_get, ↓reduceIte, vcPost, vcStd, Store.set_set, s_arr, s_setL, s_fold, swp_size, Nat.le_refl, Nat.zero_add, Array.size_setIfInBounds, Nat.reduceEqDiff, reduceCtorEq, Nat.reduceAdd, Nat.reduceLeDiff, Int.reduceLT, Int.reduceLE, ↓u_setN]
                    refine ⟨fun c3 => ?_, fun c3 => ?_⟩
                    · have hl3 : ltU d4[p]! d4[p - 1]! = false := decide_eq_false c3
                      rw [shiftUp, if_pos (by omega), if_pos (by simp [hl3])] at h5
                      refine NextQ.to (m, i2, d4) ?_ ?_ ?_ ?_
                      · rfl
                      · exact Store.sub_refl _
                      · simp
                      · exact ⟨by simp only; omega, by simp only; omega, by simp only; omega, l3, h5⟩
                    · have hl3 : ltU d4[p]! d4[p - 1]! = true := decide_eq_true (by omega)
                      rw [shiftUp, if_pos (by omega), if_neg (by simp [hl3])] at l4
                      and_intros <;> try omega
                      refine NextQ.to (p + 1, swp d4 p (p - 1)) ?_ ?_ ?_ ?_
                      · rfl
                      · exact Store.sub_refl _
                      · simp only; omega
                      · exact ⟨by simp only; omega, by simp only; omega, by simp only [swp_size]; omega, l4⟩
                  · rw [shiftUp, if_neg (by omega)] at h5
                    refine NextQ.to (m, i2, d4) ?_ ?_ ?_ ?_
                    · rfl
                    · exact Store.sub_refl _
                    · simp
                    · exact ⟨by simp only; omega, by simp only; omega, by simp only; omega, l3, h5⟩
                · rw [if_neg (show ¬ b - i2 ≥ 2 by omega)] at h5
                  rw [f3]
                  refine NextQ.to (m, i2, d3) ?_ ?_ ?_ ?_
                  · rfl
                  · exact Store.sub_refl _
                  · simp
                  · exact ⟨by simp only; omega, by simp only; omega, by simp only; omega, k2, h5⟩
              · have hl2 : ltU d3[j + 1]! d3[j]! = true := decide_eq_true (by omega)
                rw [shiftDown, if_neg (by simp [hl2])] at k3
                and_intros <;> try omega
                refine NextQ.to (j, swp d3 (j + 1) j) ?_ ?_ ?_ ?_
                · rfl
                · exact Store.sub_refl _
                · simp
                · exact ⟨by simp only; omega, by simp only [swp_size]; omega, k3⟩
            · have : j = 0 := by omega
              subst this
              rw [shiftDown] at h5
              have f3 : IntKind.i64.wrap (5 - ((m + 1 : Nat) : Int) + 1) = 5 - (m : Int) := by rw [wrap64 (by unfold I64; omega)]; omega
              refine ⟨fun c1 => ?_, fun c1 => ?_⟩
              · rw [if_pos (show b - i2 ≥ 2 by omega)] at h5
                refine LoopQ.inv (S := Nat × Array Int) (fun s => [(0, .os id 1 0 d.size), (1, .int .i64 a), (2, .int .i64 b), (7, .int .i64 i2), (8, .int .i64 (5 - ((m + 1 : Nat) : Int))), (10, .int .i64 s.1)]) (fun s => σ.set id (arrA 1 cU s.2))
                  (fun s => i2 < s.1 ∧ s.1 ≤ b ∧ s.2.size = d.size ∧ shiftUp ltU b s.1 s.2 = shiftUp ltU b (i2 + 1) d3) (fun s => b + 1 - s.1) (i2 + 1, d3) rfl (Store.sub_refl _)
                  ⟨by simp only; omega, by simp only; omega, k2, rfl⟩ ?_
                rintro ⟨p, d4⟩ ⟨l1, l2, l3, l4⟩
                simp only at l1 l2 l3 l4
                rw [← l4] at h5
                simp only [cU, s_setU, l3, e2, e3, e4, e5, e6, ↓vcPre, ↓s_get, ↓reduceIte, vcPost, vcStd, Store.set_set, s_arr, s_setL, s_fold, swp_size, Nat.le_refl, Nat.zero_add, Array.size_setIfInBounds, Nat.reduceEqDiff, reduceCtorEq, Nat.reduceAdd, Nat.reduceLeDiff, Int.reduceLT, Int.reduceLE, ↓u_setN]
                have f4 : IntKind.i64.wrap ((p : Int) - 1) = ((p - 1 : Nat) : Int) := wI (by omega) (by omega)
                have f5 : IntKind.i64.wrap ((p : Int) + 1) = ((p + 1 : Nat) : Int) := wI (by omega) (by omega)
                simp only [f3, f4, f5, Int.toNat_natCast]
                refine ⟨fun c2 => ?_, fun c2 => ?_⟩
                · and_intros <;> try omega
                  refine (hc _ _).Q ?_
                  simp only [cU, s_setU, l3, e2, e3, e4, e5, e6, f3, f4, f5, ↓vcPre, ↓s_get, ↓reduceIte, vcPost, vcStd, Store.set_set, s_arr, s_setL, s_fold, swp_size, Nat.le_refl, Nat.zero_add, Array.size_setIfInBounds, Nat.reduceEqDiff, reduceCtorEq, Nat.reduceAdd, Nat.reduceLeDiff, Int.reduceLT, Int.reduceLE, ↓u_setN]
                  refine ⟨fun c3 => ?_, fun c3 => ?_⟩
                  · have hl3 : ltU d4[p]! d4[p - 1]! = false := decide_eq_false c3
                    rw [shiftUp, if_pos (by omega), if_pos (by simp [hl3])] at h5
                    refine NextQ.to (m, i2, d4) ?_ ?_ ?_ ?_
                    · rfl
                    · exact Store.sub_refl _
                    · simp
                    · exact ⟨by simp only; omega, by simp only; omega, by simp only; omega, l3, h5⟩
                  · have hl3 : ltU d4[p]! d4[p - 1]! = true := decide_eq_true (by omega)
                    rw [shiftUp, if_pos (by omega), if_neg (by simp [hl3])] at l4
                    and_intros <;> try omega
                    refine NextQ.to (p + 1, swp d4 p (p - 1)) ?_ ?_ ?_ ?_
                    · rfl
                    · exact Store.sub_refl _
                    · simp only; omega
                    · exact ⟨by simp only; omega, by simp only; omega, by simp only [swp_size]; omega, l4⟩
                · rw [shiftUp, if_neg (by omega)] at h5
                  refine NextQ.to (m, i2, d4) ?_ ?_ ?_ ?_
                  · rfl
                  · exact Store.sub_refl _
                  · simp
                  · exact ⟨by simp only; omega, by simp only; omega, by simp only; omega, l3, h5⟩
              · rw [if_neg (show ¬ b - i2 ≥ 2 by omega)] at h5
                rw [f3]
                refine NextQ.to (m, i2, d3) ?_ ?_ ?_ ?_
                · rfl
                · exact Store.sub_refl _
                · simp
                · exact ⟨by simp only; omega, by simp only; omega, by simp only; omega, k2, h5⟩
          · intro b3
            rw [if_neg (show ¬ i2 - a ≥ 2 by omega)] at h5
            obtain ⟨d3, hd3⟩ : ∃ x, x = swp d1 i2 (i2 - 1) := ⟨_, rfl⟩
            have k2 : d3.size = d.size := by rw [hd3, swp_size]; exact h4
            rw [show (d1.setIfInBounds i2 d1[i2 - 1]!).setIfInBounds (i2 - 1) d1[i2]! = swp d1 i2 (i2 - 1) from rfl, ← hd3]
            rw [← hd3] at h5
            have f3 : IntKind.i64.wrap (5 - ((m + 1 : Nat) : Int) + 1) = 5 - (m : Int) := by rw [wrap64 (by unfold I64; omega)]; omega
            refine ⟨fun c1 => ?_, fun c1 => ?_⟩
            · rw [if_pos (show b - i2 ≥ 2 by omega)] at h5
              refine LoopQ.inv (S := Nat × Array Int) (fun s => [(0, .os id 1 0 d.size), (1, .int .i64 a), (2, .int .i64 b), (7, .int .i64 i2), (8, .int .i64 (5 - ((m + 1 : Nat) : Int))), (10, .int .i64 s.1)]) (fun s => σ.set id (arrA 1 cU s.2))
                (fun s => i2 < s.1 ∧ s.1 ≤ b ∧ s.2.size = d.size ∧ shiftUp ltU b s.1 s.2 = shiftUp ltU b (i2 + 1) d3) (fun s => b + 1 - s.1) (i2 + 1, d3) rfl (Store.sub_refl _)
                ⟨by simp only; omega, by simp only; omega, k2, rfl⟩ ?_
              rintro ⟨p, d4⟩ ⟨l1, l2, l3, l4⟩
              simp only at l1 l2 l3 l4
              rw [← l4] at h5
              simp only [cU, s_setU, l3, e2, e3, e4, e5, e6, ↓vcPre, ↓s_get, ↓reduceIte, vcPost, vcStd, Store.set_set, s_arr, s_setL, s_fold, swp_size, Nat.le_refl, Nat.zero_add, Array.size_setIfInBounds, Nat.reduceEqDiff, reduceCtorEq, Nat.reduceAdd, Nat.reduceLeDiff, Int.reduceLT, Int.reduceLE, ↓u_setN]
              have f4 : IntKind.i64.wrap ((p : Int) - 1) = ((p - 1 : Nat) : Int) := wI (by omega) (by omega)
              have f5 : IntKind.i64.wrap ((p : Int) + 1) = ((p + 1 : Nat) : Int) := wI (by omega) (by omega)
              simp only [f3, f4, f5, Int.toNat_natCast]
              refine ⟨fun c2 => ?_, fun c2 => ?_⟩
              · and_intros <;> try omega
                refine (hc _ _).Q ?_
                simp only [cU, s_setU, l3, e2, e3, e4, e5, e6, f3, f4, f5, ↓vcPre, ↓s_get, ↓reduceIte, vcPost, vcStd, Store.set_set, s_arr, s_setL, s_fold, swp_size, Nat.le_refl, Nat.zero_add, Array.size_setIfInBounds, Nat.reduceEqDiff, reduceCtorEq, Nat.reduceAdd, Nat.reduceLeDiff, Int.reduceLT, Int.reduceLE, ↓u_setN]
                refine ⟨fun c3 => ?_, fun c3 => ?_⟩
                · have hl3 : ltU d4[p]! d4[p - 1]! = false := decide_eq_false c3
                  rw [shiftUp, if_pos (by omega), if_pos (by simp [hl3])] at h5
                  refine NextQ.to (m, i2, d4) ?_ ?_ ?_ ?_
                  · rfl
                  · exact Store.sub_refl _
                  · simp
                  · exact ⟨by simp only; omega, by simp only; omega, by simp only; omega, l3, h5⟩
                · have hl3 : ltU d4[p]! d4[p - 1]! = true := decide_eq_true (by omega)
                  rw [shiftUp, if_pos (by omega), if_neg (by simp [hl3])] at l4
                  and_intros <;> try omega
                  refine NextQ.to (p + 1, swp d4 p (p - 1)) ?_ ?_ ?_ ?_
                  · rfl
                  · exact Store.sub_refl _
                  · simp only; omega
                  · exact ⟨by simp only; omega, by simp only; omega, by simp only [swp_size]; omega, l4⟩
              · rw [shiftUp, if_neg (by omega)] at h5
                refine NextQ.to (m, i2, d4) ?_ ?_ ?_ ?_
                · rfl
                · exact Store.sub_refl _
                · simp
                · exact ⟨by simp only; omega, by simp only; omega, by simp only; omega, l3, h5⟩
            · rw [if_neg (show ¬ b - i2 ≥ 2 by omega)] at h5
              rw [f3]
              refine NextQ.to (m, i2, d3) ?_ ?_ ?_ ?_
              · rfl
              · exact Store.sub_refl _
              · simp
              · exact ⟨by simp only; omega, by simp only; omega, by simp only; omega, k2, h5⟩
    · rw [if_neg (by simp; omega)] at g3
      rw [← g3, if_pos (by omega)] at h5
      refine ⟨fun b1 => ?_, fun b1 => (by exfalso; omega)⟩
      exact EndQ.to _ _ rfl (Store.sub_refl _) ⟨by rw [← h5], by rw [← h5]⟩
  · have : k = 0 := by omega
    subst this
    rw [partialIns] at h5
    exact EndQ.to _ _ rfl (Store.sub_refl _) ⟨by rw [← h5], by rw [← h5]⟩
end Go.Am

/- O9a -/
namespace Go.Am
open Go.Proofs Go.Sort
set_option linter.unusedSectionVars false
theorem scanUp_le (p : Int → Bool) (d : Array Int) (j : Nat) : ∀ i, scanUp p d j i ≤ max i (j + 1) := by
  intro i
  fun_induction scanUp p d j i
  · rename_i h ih
    simp at h
    omega
  · omega
theorem scanDown_le (p : Int → Bool) (d : Array Int) (i : Nat) : ∀ j, scanDown p d i j ≤ j
  | 0 => by rw [scanDown]; exact Nat.le_refl _
  | j + 1 => by
    rw [scanDown]; split
    · have := scanDown_le p d i j; omega
    · exact Nat.le_refl _
theorem partEqLoop_size (lt : Int → Int → Bool) (a i j : Nat) (d : Array Int) : (partEqLoop lt a i j d).2.size = d.size := by
  fun_induction partEqLoop lt a i j d <;> simp_all [swp_size]
theorem partEqLoop_range (lt : Int → Int → Bool) (a b : Nat) : ∀ (m i j : Nat) (d : Array Int), j + 1 - i < m → a < i → i ≤ b → j < b → a < (partEqLoop lt a i j d).1 ∧ (partEqLoop lt a i j d).1 ≤ b
  | 0, i, j, d, h, _, _, _ => by omega
  | m + 1, i, j, d, h, q1, q2, q3 => by
    have w1 := scanUp_ge (fun x => !lt d[a]! x) d j i
    have w2 := scanUp_le (fun x => !lt d[a]! x) d j i
    rw [partEqLoop]
    generalize scanUp (fun x => !lt d[a]! x) d j i = i2 at *
    have w3 := scanDown_le (fun x => lt d[a]! x) d i2 j
    generalize scanDown (fun x => lt d[a]! x) d i2 j = j2 at *
    split
    · simp only; omega
    · split
      · exact partEqLoop_range lt a b m (i2 + 1) (j2 - 1) _ (by omega) (by omega) (by omega) (by omega)
      · simp only; omega
theorem partitionEqual_range (lt : Int → Int → Bool) (d : Array Int) (a b p : Nat) (h : a < b) : a < (partitionEqual lt d a b p).1 ∧ (partitionEqual lt d a b p).1 ≤ b := by
  unfold partitionEqual
  exact partEqLoop_range lt a b _ (a + 1) (b - 1) _ (Nat.lt_succ_self _) (by omega) (by omega) (by omega)
theorem partitionEqual_size (lt : Int → Int → Bool) (d : Array Int) (a b p : Nat) : (partitionEqual lt d a b p).2.size = d.size := by
  unfold partitionEqual; rw [partEqLoop_size, swp_size]
theorem partialIns_size (lt : Int → Int → Bool) (a b : Nat) : ∀ k i (d : Array Int), (partialIns lt a b k i d).1.size = d.size
  | 0, i, d => rfl
  | k + 1, i, d => by
    rw [partialIns]
    simp only
    split
    · rfl
    · split
      · rfl
      · rw [partialIns_size lt a b k]
        split <;> split <;> simp [shiftUp_size, shiftDown_size, swp_size]
theorem reverseLoop_size (i j : Nat) (d : Array Int) : (reverseLoop i j d).size = d.size := by
  fun_induction reverseLoop i j d <;> simp_all [swp_size]
end Go.Am
