/- A part of the proof: a logic for calls over plain values, and the functions that the law reaches, each walked once. -/
import Derived.Test.YtjmkofmkkpenmaaPE23
import Derived.RangeFuncBox
import Derived.RangeFuncLeaves
import Derived.Shelf.Abstract
import Derived.WalkKit
import Derived.OwnWalkIn
import Derived.TacticsInMore
import Derived.LoopNIn
import Derived.LoopIn
import Derived.Maps.AppendAt
import Derived.Test.YtjmkofmkkpenmaaProg
set_option linter.unusedVariables false
set_option linter.unusedSimpArgs false
set_option linter.unusedSectionVars false

namespace Go.Am.Tst
open Go.Proofs
/-- signpost/attr.Same -/
def b13 : BC := .seq (.ops [⟨some 2, none, .alloc (.box), [.t 0]⟩, ⟨some 3, none, .alloc (.box), [.t 1]⟩, ⟨some 4, none, .pure (.mov), [.c (.bool false)]⟩] [2, 3]) (.seq (.ops [⟨some 5, none, .load (.ld 9 true), [.t 2]⟩, ⟨some 6, none, .load (.ld 9 true), [.t 3]⟩, ⟨some 7, none, .loud (.call 30), [.t 5, .t 6]⟩, ⟨some 8, none, .pure (.bin .eql), [.t 7, .c (.int .i64 0)]⟩, ⟨some 4, none, .pure (.mov), [.t 8]⟩] [4]) (.ret))
def F13 : Fn Try.prog 13 := Fn.mkX false b13 [.t 4] 9 Try.f13 _ Try.func13 (by decide) rfl Try.ntmps13 (by kernel_rfl) (by kernel_rfl)
/-- signpost/attr.Cmp -/
def b30 : BC := .seq (.ops [⟨some 2, none, .alloc (.box), [.t 0]⟩, ⟨some 3, none, .alloc (.box), [.t 1]⟩, ⟨some 4, none, .pure (.mov), [.c (.int .i64 0)]⟩] [2, 3]) (.seq (.ops [⟨some 5, none, .load (.ld 9 true), [.t 2]⟩, ⟨some 7, none, .load (.ld 9 true), [.t 3]⟩, ⟨some 6, none, .qcall 17, [.t 5]⟩, ⟨some 8, none, .qcall 17, [.t 7]⟩, ⟨none, none, .loud (.st 9), [.t 2, .t 6]⟩, ⟨none, none, .loud (.st 9), [.t 3, .t 8]⟩] [2, 3]) (.seq (.ops [⟨some 9, none, .pure (.fld 0), [.t 2]⟩, ⟨some 11, none, .pure (.fld 0), [.t 3]⟩, ⟨some 14, none, .pure (.fld 1), [.t 2]⟩, ⟨some 16, none, .pure (.fld 1), [.t 3]⟩, ⟨some 19, none, .pure (.fld 2), [.t 2]⟩, ⟨some 21, none, .pure (.fld 2), [.t 3]⟩, ⟨some 24, none, .pure (.fld 3), [.t 2]⟩, ⟨some 27, none, .pure (.fld 3), [.t 3]⟩, ⟨some 31, none, .pure (.fld 4), [.t 2]⟩, ⟨some 33, none, .pure (.fld 4), [.t 3]⟩, ⟨some 36, none, .pure (.fld 5), [.t 2]⟩, ⟨some 39, none, .pure (.fld 5), [.t 3]⟩, ⟨some 43, none, .pure (.fld 6), [.t 2]⟩, ⟨some 45, none, .pure (.fld 6), [.t 3]⟩, ⟨some 48, none, .pure (.fld 7), [.t 2]⟩, ⟨some 51, none, .pure (.fld 7), [.t 3]⟩, ⟨some 55, none, .pure (.fld 8), [.t 2]⟩, ⟨some 57, none, .pure (.fld 8), [.t 3]⟩, ⟨some 10, none, .load (.ld 1 false), [.t 9]⟩, ⟨some 12, none, .load (.ld 1 false), [.t 11]⟩, ⟨some 15, none, .load (.ld 1 false), [.t 14]⟩, ⟨some 17, none, .load (.ld 1 false), [.t 16]⟩, ⟨some 20, none, .load (.ld 1 false), [.t 19]⟩, ⟨some 22, none, .load (.ld 1 false), [.t 21]⟩, ⟨some 25, none, .load (.ld 1 false), [.t 24]⟩, ⟨some 28, none, .load (.ld 1 false), [.t 27]⟩, ⟨some 32, none, .load (.ld 1 false), [.t 31]⟩, ⟨some 34, none, .load (.ld 1 false), [.t 33]⟩, ⟨some 37, none, .load (.ld 1 false), [.t 36]⟩, ⟨some 40, none, .load (.ld 1 false), [.t 39]⟩, ⟨some 44, none, .load (.ld 1 false), [.t 43]⟩, ⟨some 46, none, .load (.ld 1 false), [.t 45]⟩, ⟨some 49, none, .load (.ld 1 false), [.t 48]⟩, ⟨some 52, none, .load (.ld 1 false), [.t 51]⟩, ⟨some 56, none, .load (.ld 1 false), [.t 55]⟩, ⟨some 58, none, .load (.ld 1 false), [.t 57]⟩, ⟨some 13, none, .qcall 54, [.t 10, .t 12]⟩, ⟨some 18, none, .qcall 55, [.t 15, .t 17]⟩, ⟨some 23, none, .qcall 56, [.t 20, .t 22]⟩, ⟨some 26, none, .qcall 57, [.t 25]⟩, ⟨some 29, none, .qcall 57, [.t 28]⟩, ⟨some 30, none, .pure (.bin .sub), [.t 26, .t 29]⟩, ⟨some 35, none, .qcall 56, [.t 32, .t 34]⟩, ⟨some 38, none, .qcall 57, [.t 37]⟩, ⟨some 41, none, .qcall 57, [.t 40]⟩, ⟨some 42, none, .pure (.bin .sub), [.t 38, .t 41]⟩, ⟨some 47, none, .qcall 56, [.t 44, .t 46]⟩, ⟨some 50, none, .qcall 57, [.t 49]⟩, ⟨some 53, none, .qcall 57, [.t 52]⟩, ⟨some 54, none, .pure (.bin .sub), [.t 50, .t 53]⟩, ⟨some 59, none, .qcall 58, [.t 56, .t 58]⟩, ⟨some 60, none, .alloc (.mksl 1 9), [.t 13, .t 18, .t 23, .t 30, .t 35, .t 42, .t 47, .t 54, .t 59]⟩, ⟨some 61, none, .qcall 53, [.t 60]⟩, ⟨some 4, none, .pure (.mov), [.t 61]⟩] [4]) (.ret)))
def F30 : Fn Try.prog 30 := Fn.mkX false b30 [.t 4] 62 Try.f30 _ Try.func30 (by decide) rfl Try.ntmps30 (by kernel_rfl) (by kernel_rfl)
/-- signpost/aspath.Copy -/
def b32 : BC := .seq (.ops [⟨some 2, none, .pure (.mov), [.c .nils]⟩] [0]) (.seq (.ops [⟨some 3, none, .pure (.mov), [.c .nils]⟩] [0, 3]) (.seq (.seq (.ops [⟨some 6, none, .pure (.mov), [.t 0]⟩, ⟨some 7, none, .pure (.len), [.t 6]⟩, ⟨some 8, none, .pure (.mov), [.c (.int .i64 0)]⟩] [3, 6, 7, 8]) (.block 0 (.loop [3, 6, 7, 8] (.seq (.ops [⟨some 9, none, .pure (.bin .lss), [.t 8, .t 7]⟩] [3, 6, 7, 8, 9]) (.seq (.cond (.t 9) (.skip) (.exit 0)) (.seq (.block 1 (.seq (.ops [⟨some 10, none, .pure (.idx 2), [.t 6, .t 8]⟩, ⟨some 11, none, .load (.ld 2 true), [.t 10]⟩, ⟨some 5, none, .alloc (.alloc [(.int .i64 0), .nils]), []⟩, ⟨none, none, .loud (.st 2), [.t 5, .t 11]⟩] [3, 5, 6, 7, 8]) (.ops [⟨some 12, none, .pure (.mov), [.t 3]⟩, ⟨some 13, none, .pure (.fld 0), [.t 5]⟩, ⟨some 15, none, .pure (.fld 1), [.t 5]⟩, ⟨some 14, none, .load (.ld 1 false), [.t 13]⟩, ⟨some 16, none, .load (.ld 1 false), [.t 15]⟩, ⟨some 17, none, .qcall 59, [.t 16]⟩, ⟨some 18, none, .pure (.build [(.int .i64 0), .nils] [(0, 1), (1, 1)]), [.t 14, .t 17]⟩, ⟨some 19, none, .alloc (.mksl 2 1), [.t 18]⟩, ⟨some 20, none, .loud (.app 2 32), [.t 12, .t 19]⟩, ⟨some 3, none, .pure (.mov), [.t 20]⟩] [3, 6, 7, 8]))) (.ops [⟨some 21, none, .pure (.bin .add), [.t 8, .c (.int .i64 1)]⟩, ⟨some 8, none, .pure (.mov), [.t 21]⟩] [3, 6, 7, 8]))))))) (.seq (.ops [⟨some 22, none, .pure (.mov), [.t 3]⟩, ⟨some 2, none, .pure (.mov), [.t 22]⟩] [2]) (.ret))))
def F32 : Fn Try.prog 32 := Fn.mkX false b32 [.t 2] 23 Try.f32 _ Try.func32 (by decide) rfl Try.ntmps32 (by kernel_rfl) (by kernel_rfl)
/-- slices.Compact[[]uint32,uint32] -/
def b33 : BC := .seq (.ops [⟨some 2, none, .pure (.mov), [.c .nils]⟩] [0]) (.seq (.seq (.ops [⟨some 6, none, .pure (.mov), [.t 0]⟩, ⟨some 7, none, .pure (.len), [.t 6]⟩, ⟨some 8, none, .pure (.bin .lss), [.t 7, .c (.int .i64 2)]⟩] [0, 8]) (.cond (.t 8) (.seq (.ops [⟨some 9, none, .pure (.mov), [.t 0]⟩, ⟨some 2, none, .pure (.mov), [.t 9]⟩] [2]) (.ret)) (.skip))) (.seq (.seq (.ops [⟨some 3, none, .pure (.mov), [.c (.int .i64 1)]⟩] [0, 3]) (.block 0 (.loop [0, 3] (.seq (.seq (.ops [⟨some 10, none, .pure (.mov), [.t 3]⟩, ⟨some 11, none, .pure (.mov), [.t 0]⟩, ⟨some 12, none, .pure (.len), [.t 11]⟩, ⟨some 13, none, .pure (.bin .lss), [.t 10, .t 12]⟩] [0, 3, 13]) (.cond (.t 13) (.skip) (.exit 0))) (.seq (.block 1 (.seq (.ops [⟨some 16, none, .pure (.mov), [.t 0]⟩, ⟨some 17, none, .pure (.mov), [.t 3]⟩, ⟨some 18, none, .pure (.idx 1), [.t 16, .t 17]⟩, ⟨some 20, none, .pure (.mov), [.t 0]⟩, ⟨some 21, none, .pure (.mov), [.t 3]⟩, ⟨some 22, none, .pure (.bin .sub), [.t 21, .c (.int .i64 1)]⟩, ⟨some 23, none, .pure (.idx 1), [.t 20, .t 22]⟩, ⟨some 19, none, .load (.ld 1 false), [.t 18]⟩, ⟨some 24, none, .load (.ld 1 false), [.t 23]⟩, ⟨some 25, none, .pure (.bin .eql), [.t 19, .t 24]⟩] [0, 3, 25]) (.cond (.t 25) (.seq (.ops [⟨some 26, none, .pure (.mov), [.t 0]⟩, ⟨some 27, none, .pure (.mov), [.t 3]⟩, ⟨some 28, none, .pure (.slice 1 true false), [.t 26, .t 27]⟩, ⟨some 4, none, .pure (.mov), [.t 28]⟩] [0, 3, 4]) (.seq (.seq (.ops [⟨some 5, none, .pure (.mov), [.c (.int .i64 1)]⟩] [0, 3, 4, 5]) (.block 2 (.loop [0, 3, 4, 5] (.seq (.seq (.ops [⟨some 29, none, .pure (.mov), [.t 5]⟩, ⟨some 30, none, .pure (.mov), [.t 4]⟩, ⟨some 31, none, .pure (.len), [.t 30]⟩, ⟨some 32, none, .pure (.bin .lss), [.t 29, .t 31]⟩] [0, 3, 4, 5, 32]) (.cond (.t 32) (.skip) (.exit 2))) (.seq (.block 3 (.seq (.ops [⟨some 35, none, .pure (.mov), [.t 4]⟩, ⟨some 36, none, .pure (.mov), [.t 5]⟩, ⟨some 37, none, .pure (.idx 1), [.t 35, .t 36]⟩, ⟨some 39, none, .pure (.mov), [.t 4]⟩, ⟨some 40, none, .pure (.mov), [.t 5]⟩, ⟨some 41, none, .pure (.bin .sub), [.t 40, .c (.int .i64 1)]⟩, ⟨some 42, none, .pure (.idx 1), [.t 39, .t 41]⟩, ⟨some 38, none, .load (.ld 1 false), [.t 37]⟩, ⟨some 43, none, .load (.ld 1 false), [.t 42]⟩, ⟨some 44, none, .pure (.bin .neq), [.t 38, .t 43]⟩] [0, 3, 4, 5, 44]) (.cond (.t 44) (.seq (.ops [⟨some 45, none, .pure (.mov), [.t 0]⟩, ⟨some 46, none, .pure (.mov), [.t 3]⟩, ⟨some 47, none, .pure (.mov), [.t 4]⟩, ⟨some 48, none, .pure (.mov), [.t 5]⟩, ⟨some 49, none, .pure (.idx 1), [.t 47, .t 48]⟩, ⟨some 50, none, .load (.ld 1 false), [.t 49]⟩, ⟨some 51, none, .pure (.idx 1), [.t 45, .t 46]⟩, ⟨none, none, .loud (.st 1), [.t 51, .t 50]⟩] [0, 3, 4, 5]) (.ops [⟨some 52, none, .pure (.mov), [.t 3]⟩, ⟨some 53, none, .pure (.bin .add), [.t 52, .c (.int .i64 1)]⟩, ⟨some 3, none, .pure (.mov), [.t 53]⟩] [0, 3, 4, 5])) (.skip)))) (.ops [⟨some 33, none, .pure (.mov), [.t 5]⟩, ⟨some 34, none, .pure (.bin .add), [.t 33, .c (.int .i64 1)]⟩, ⟨some 5, none, .pure (.mov), [.t 34]⟩] [0, 3, 4, 5])))))) (.seq (.ops [⟨some 54, none, .pure (.mov), [.t 0]⟩, ⟨some 55, none, .pure (.mov), [.t 3]⟩, ⟨some 56, none, .pure (.slice 1 true false), [.t 54, .t 55]⟩, ⟨none, none, .loud (.clr 1 [(.int .u32 0)]), [.t 56]⟩] [0, 3]) (.seq (.ops [⟨some 57, none, .pure (.mov), [.t 0]⟩, ⟨some 58, none, .pure (.mov), [.t 3]⟩, ⟨some 59, none, .pure (.slice 1 false true), [.t 57, .t 58]⟩, ⟨some 2, none, .pure (.mov), [.t 59]⟩] [2]) (.ret))))) (.skip)))) (.ops [⟨some 14, none, .pure (.mov), [.t 3]⟩, ⟨some 15, none, .pure (.bin .add), [.t 14, .c (.int .i64 1)]⟩, ⟨some 3, none, .pure (.mov), [.t 15]⟩] [0, 3])))))) (.seq (.ops [⟨some 60, none, .pure (.mov), [.t 0]⟩, ⟨some 2, none, .pure (.mov), [.t 60]⟩] [2]) (.ret))))
def F33 : Fn Try.prog 33 := Fn.mkX false b33 [.t 2] 61 Try.f33 _ Try.func33 (by decide) rfl Try.ntmps33 (by kernel_rfl) (by kernel_rfl)
/-- slices.Sorted[uint32] -/
def b34 : BC := .seq (.ops [⟨some 2, none, .pure (.mov), [.c .nils]⟩] [0]) (.seq (.ops [⟨some 4, none, .pure (.mov), [.t 0]⟩, ⟨some 5, none, .loud (.call 60), [.t 4]⟩, ⟨some 3, none, .pure (.mov), [.t 5]⟩] [3]) (.seq (.ops [⟨some 6, none, .pure (.mov), [.t 3]⟩, ⟨some 7, none, .loud (.call 61), [.t 6]⟩] [3]) (.seq (.ops [⟨some 8, none, .pure (.mov), [.t 3]⟩, ⟨some 2, none, .pure (.mov), [.t 8]⟩] [2]) (.ret))))
def F34 : Fn Try.prog 34 := Fn.mkX false b34 [.t 2] 9 Try.f34 _ Try.func34 (by decide) rfl Try.ntmps34 (by kernel_rfl) (by kernel_rfl)
/-- slices.Values[[]uint32,uint32] -/
def b35 : BC := .seq (.ops [⟨some 1, none, .alloc (.box), [.t 0]⟩, ⟨some 2, none, .pure (.mov), [.c .nilfn]⟩] [1]) (.seq (.ops [⟨some 3, none, .pure (.mkfn 62), [.t 1]⟩, ⟨some 2, none, .pure (.mov), [.t 3]⟩] [2]) (.ret))
def F35 : Fn Try.prog 35 := Fn.mkX false b35 [.t 2] 4 Try.f35 _ Try.func35 (by decide) rfl Try.ntmps35 (by kernel_rfl) (by kernel_rfl)
/-- cmp.Or[int] -/
def b53 : BC := .seq (.ops [⟨some 2, none, .pure (.mov), [.c (.int .i64 0)]⟩] [0]) (.seq (.ops [⟨some 3, none, .pure (.mov), [.c (.int .i64 0)]⟩] [0, 3]) (.seq (.seq (.ops [⟨some 6, none, .pure (.mov), [.t 0]⟩, ⟨some 7, none, .pure (.len), [.t 6]⟩, ⟨some 8, none, .pure (.mov), [.c (.int .i64 0)]⟩] [3, 6, 7, 8]) (.block 0 (.loop [3, 6, 7, 8] (.seq (.ops [⟨some 9, none, .pure (.bin .lss), [.t 8, .t 7]⟩] [3, 6, 7, 8, 9]) (.seq (.cond (.t 9) (.skip) (.exit 0)) (.seq (.block 1 (.seq (.ops [⟨some 10, none, .pure (.idx 1), [.t 6, .t 8]⟩, ⟨some 11, none, .load (.ld 1 false), [.t 10]⟩, ⟨some 5, none, .pure (.mov), [.t 11]⟩] [3, 5, 6, 7, 8]) (.seq (.ops [⟨some 12, none, .pure (.mov), [.t 5]⟩, ⟨some 13, none, .pure (.mov), [.t 3]⟩, ⟨some 14, none, .pure (.bin .neq), [.t 12, .t 13]⟩] [3, 5, 6, 7, 8, 14]) (.cond (.t 14) (.seq (.ops [⟨some 15, none, .pure (.mov), [.t 5]⟩, ⟨some 2, none, .pure (.mov), [.t 15]⟩] [2]) (.ret)) (.skip))))) (.ops [⟨some 16, none, .pure (.bin .add), [.t 8, .c (.int .i64 1)]⟩, ⟨some 8, none, .pure (.mov), [.t 16]⟩] [3, 6, 7, 8]))))))) (.seq (.ops [⟨some 17, none, .pure (.mov), [.t 3]⟩, ⟨some 2, none, .pure (.mov), [.t 17]⟩] [2]) (.ret))))
def F53 : Fn Try.prog 53 := Fn.mkX false b53 [.t 2] 18 Try.f53 _ Try.func53 (by decide) rfl Try.ntmps53 (by kernel_rfl) (by kernel_rfl)
/-- cmp.Compare[int] -/
def b54 : BC := .seq (.ops [⟨some 4, none, .pure (.mov), [.c (.int .i64 0)]⟩] [0, 1]) (.seq (.ops [⟨some 7, none, .pure (.mov), [.t 0]⟩, ⟨some 8, none, .loud (.call 78), [.t 7]⟩, ⟨some 5, none, .pure (.mov), [.t 8]⟩] [0, 1, 5]) (.seq (.ops [⟨some 9, none, .pure (.mov), [.t 1]⟩, ⟨some 10, none, .loud (.call 78), [.t 9]⟩, ⟨some 6, none, .pure (.mov), [.t 10]⟩] [0, 1, 5, 6]) (.seq (.seq (.ops [⟨some 11, none, .pure (.mov), [.t 5]⟩] [0, 1, 6, 11]) (.cond (.t 11) (.seq (.seq (.ops [⟨some 12, none, .pure (.mov), [.t 6]⟩] [12]) (.cond (.t 12) (.seq (.ops [⟨some 4, none, .pure (.mov), [.c (.int .i64 0)]⟩] [4]) (.ret)) (.skip))) (.seq (.ops [⟨some 4, none, .pure (.mov), [.c (.int .i64 (-1))]⟩] [4]) (.ret))) (.skip))) (.seq (.seq (.ops [⟨some 13, none, .pure (.mov), [.t 6]⟩] [0, 1, 13]) (.cond (.t 13) (.seq (.ops [⟨some 4, none, .pure (.mov), [.c (.int .i64 1)]⟩] [4]) (.ret)) (.skip))) (.seq (.seq (.ops [⟨some 14, none, .pure (.mov), [.t 0]⟩, ⟨some 15, none, .pure (.mov), [.t 1]⟩, ⟨some 16, none, .pure (.bin .lss), [.t 14, .t 15]⟩] [0, 1, 16]) (.cond (.t 16) (.seq (.ops [⟨some 4, none, .pure (.mov), [.c (.int .i64 (-1))]⟩] [4]) (.ret)) (.skip))) (.seq (.seq (.ops [⟨some 17, none, .pure (.mov), [.t 0]⟩, ⟨some 18, none, .pure (.mov), [.t 1]⟩, ⟨some 19, none, .pure (.bin .gtr), [.t 17, .t 18]⟩] [19]) (.cond (.t 19) (.seq (.ops [⟨some 4, none, .pure (.mov), [.c (.int .i64 1)]⟩] [4]) (.ret)) (.skip))) (.seq (.ops [⟨some 4, none, .pure (.mov), [.c (.int .i64 0)]⟩] [4]) (.ret))))))))
def F54 : Fn Try.prog 54 := Fn.mkX false b54 [.t 4] 20 Try.f54 _ Try.func54 (by decide) rfl Try.ntmps54 (by kernel_rfl) (by kernel_rfl)
/-- signpost/aspath.Cmp -/
def b55 : BC := .seq (.ops [⟨some 4, none, .pure (.mov), [.c (.int .i64 0)]⟩] [0, 1]) (.seq (.ops [⟨some 5, none, .pure (.mov), [.t 0]⟩, ⟨some 6, none, .pure (.mov), [.t 1]⟩, ⟨some 7, none, .loud (.call 79), [.t 5, .t 6, .c (.fn 80 [])]⟩, ⟨some 4, none, .pure (.mov), [.t 7]⟩] [4]) (.ret))
def F55 : Fn Try.prog 55 := Fn.mkX false b55 [.t 4] 8 Try.f55 _ Try.func55 (by decide) rfl Try.ntmps55 (by kernel_rfl) (by kernel_rfl)
/-- cmp.Compare[uint32] -/
def b56 : BC := .seq (.ops [⟨some 4, none, .pure (.mov), [.c (.int .i64 0)]⟩] [0, 1]) (.seq (.ops [⟨some 7, none, .pure (.mov), [.t 0]⟩, ⟨some 8, none, .loud (.call 81), [.t 7]⟩, ⟨some 5, none, .pure (.mov), [.t 8]⟩] [0, 1, 5]) (.seq (.ops [⟨some 9, none, .pure (.mov), [.t 1]⟩, ⟨some 10, none, .loud (.call 81), [.t 9]⟩, ⟨some 6, none, .pure (.mov), [.t 10]⟩] [0, 1, 5, 6]) (.seq (.seq (.ops [⟨some 11, none, .pure (.mov), [.t 5]⟩] [0, 1, 6, 11]) (.cond (.t 11) (.seq (.seq (.ops [⟨some 12, none, .pure (.mov), [.t 6]⟩] [12]) (.cond (.t 12) (.seq (.ops [⟨some 4, none, .pure (.mov), [.c (.int .i64 0)]⟩] [4]) (.ret)) (.skip))) (.seq (.ops [⟨some 4, none, .pure (.mov), [.c (.int .i64 (-1))]⟩] [4]) (.ret))) (.skip))) (.seq (.seq (.ops [⟨some 13, none, .pure (.mov), [.t 6]⟩] [0, 1, 13]) (.cond (.t 13) (.seq (.ops [⟨some 4, none, .pure (.mov), [.c (.int .i64 1)]⟩] [4]) (.ret)) (.skip))) (.seq (.seq (.ops [⟨some 14, none, .pure (.mov), [.t 0]⟩, ⟨some 15, none, .pure (.mov), [.t 1]⟩, ⟨some 16, none, .pure (.bin .lss), [.t 14, .t 15]⟩] [0, 1, 16]) (.cond (.t 16) (.seq (.ops [⟨some 4, none, .pure (.mov), [.c (.int .i64 (-1))]⟩] [4]) (.ret)) (.skip))) (.seq (.seq (.ops [⟨some 17, none, .pure (.mov), [.t 0]⟩, ⟨some 18, none, .pure (.mov), [.t 1]⟩, ⟨some 19, none, .pure (.bin .gtr), [.t 17, .t 18]⟩] [19]) (.cond (.t 19) (.seq (.ops [⟨some 4, none, .pure (.mov), [.c (.int .i64 1)]⟩] [4]) (.ret)) (.skip))) (.seq (.ops [⟨some 4, none, .pure (.mov), [.c (.int .i64 0)]⟩] [4]) (.ret))))))))
def F56 : Fn Try.prog 56 := Fn.mkX false b56 [.t 4] 20 Try.f56 _ Try.func56 (by decide) rfl Try.ntmps56 (by kernel_rfl) (by kernel_rfl)
/-- signpost/attr.truth -/
def b57 : BC := .seq (.ops [⟨some 2, none, .pure (.mov), [.c (.int .i64 0)]⟩] [0]) (.seq (.seq (.ops [⟨some 3, none, .pure (.mov), [.t 0]⟩] [3]) (.cond (.t 3) (.seq (.ops [⟨some 2, none, .pure (.mov), [.c (.int .i64 1)]⟩] [2]) (.ret)) (.skip))) (.seq (.ops [⟨some 2, none, .pure (.mov), [.c (.int .i64 0)]⟩] [2]) (.ret)))
def F57 : Fn Try.prog 57 := Fn.mkX false b57 [.t 2] 4 Try.f57 _ Try.func57 (by decide) rfl Try.ntmps57 (by kernel_rfl) (by kernel_rfl)
/-- slices.Compare[[]uint32,uint32] -/
def b58 : BC := .seq (.ops [⟨some 4, none, .pure (.mov), [.c (.int .i64 0)]⟩] [0, 1]) (.seq (.seq (.ops [⟨some 9, none, .pure (.mov), [.t 0]⟩, ⟨some 10, none, .pure (.len), [.t 9]⟩, ⟨some 11, none, .pure (.mov), [.c (.int .i64 0)]⟩] [0, 1, 9, 10, 11]) (.block 0 (.loop [0, 1, 9, 10, 11] (.seq (.ops [⟨some 12, none, .pure (.bin .lss), [.t 11, .t 10]⟩] [0, 1, 9, 10, 11, 12]) (.seq (.cond (.t 12) (.skip) (.exit 0)) (.seq (.block 1 (.seq (.ops [⟨some 13, none, .pure (.mov), [.t 11]⟩, ⟨some 14, none, .pure (.idx 1), [.t 9, .t 11]⟩, ⟨some 15, none, .load (.ld 1 false), [.t 14]⟩, ⟨some 5, none, .pure (.mov), [.t 13]⟩, ⟨some 6, none, .pure (.mov), [.t 15]⟩] [0, 1, 5, 6, 9, 10, 11]) (.seq (.seq (.ops [⟨some 16, none, .pure (.mov), [.t 5]⟩, ⟨some 17, none, .pure (.mov), [.t 1]⟩, ⟨some 18, none, .pure (.len), [.t 17]⟩, ⟨some 19, none, .pure (.bin .geq), [.t 16, .t 18]⟩] [0, 1, 5, 6, 9, 10, 11, 19]) (.cond (.t 19) (.seq (.ops [⟨some 4, none, .pure (.mov), [.c (.int .i64 1)]⟩] [4]) (.ret)) (.skip))) (.seq (.ops [⟨some 20, none, .pure (.mov), [.t 1]⟩, ⟨some 21, none, .pure (.mov), [.t 5]⟩, ⟨some 22, none, .pure (.idx 1), [.t 20, .t 21]⟩, ⟨some 23, none, .load (.ld 1 false), [.t 22]⟩, ⟨some 7, none, .pure (.mov), [.t 23]⟩] [0, 1, 6, 7, 9, 10, 11]) (.seq (.ops [⟨some 24, none, .pure (.mov), [.t 6]⟩, ⟨some 25, none, .pure (.mov), [.t 7]⟩, ⟨some 26, none, .loud (.call 56), [.t 24, .t 25]⟩, ⟨some 8, none, .pure (.mov), [.t 26]⟩] [0, 1, 8, 9, 10, 11]) (.seq (.ops [⟨some 27, none, .pure (.mov), [.t 8]⟩, ⟨some 28, none, .pure (.bin .neq), [.t 27, .c (.int .i64 0)]⟩] [0, 1, 8, 9, 10, 11, 28]) (.cond (.t 28) (.seq (.ops [⟨some 29, none, .pure (.mov), [.t 8]⟩, ⟨some 4, none, .pure (.mov), [.t 29]⟩] [4]) (.ret)) (.skip)))))))) (.ops [⟨some 30, none, .pure (.bin .add), [.t 11, .c (.int .i64 1)]⟩, ⟨some 11, none, .pure (.mov), [.t 30]⟩] [0, 1, 9, 10, 11]))))))) (.seq (.seq (.ops [⟨some 31, none, .pure (.mov), [.t 0]⟩, ⟨some 32, none, .pure (.len), [.t 31]⟩, ⟨some 33, none, .pure (.mov), [.t 1]⟩, ⟨some 34, none, .pure (.len), [.t 33]⟩, ⟨some 35, none, .pure (.bin .lss), [.t 32, .t 34]⟩] [35]) (.cond (.t 35) (.seq (.ops [⟨some 4, none, .pure (.mov), [.c (.int .i64 (-1))]⟩] [4]) (.ret)) (.skip))) (.seq (.ops [⟨some 4, none, .pure (.mov), [.c (.int .i64 0)]⟩] [4]) (.ret))))
def F58 : Fn Try.prog 58 := Fn.mkX false b58 [.t 4] 36 Try.f58 _ Try.func58 (by decide) rfl Try.ntmps58 (by kernel_rfl) (by kernel_rfl)
/-- slices.Clone[[]uint32,uint32] -/
def b59 : BC := .seq (.ops [⟨some 2, none, .pure (.mov), [.c .nils]⟩] [0]) (.seq (.seq (.ops [⟨some 3, none, .pure (.mov), [.t 0]⟩, ⟨some 4, none, .loud (.nilq false), [.t 3]⟩] [0, 4]) (.cond (.t 4) (.seq (.ops [⟨some 2, none, .pure (.mov), [.c .nils]⟩] [2]) (.ret)) (.skip))) (.seq (.ops [⟨some 5, none, .alloc (.mksl 1 0), []⟩, ⟨some 6, none, .pure (.mov), [.t 0]⟩, ⟨some 7, none, .loud (.app 1 4), [.t 5, .t 6]⟩, ⟨some 2, none, .pure (.mov), [.t 7]⟩] [2]) (.ret)))
def F59 : Fn Try.prog 59 := Fn.mkX false b59 [.t 2] 8 Try.f59 _ Try.func59 (by decide) rfl Try.ntmps59 (by kernel_rfl) (by kernel_rfl)
/-- slices.Collect[uint32] -/
def b60 : BC := .seq (.ops [⟨some 2, none, .pure (.mov), [.c .nils]⟩] [0]) (.seq (.ops [⟨some 3, none, .pure (.mov), [.t 0]⟩, ⟨some 4, none, .loud (.call 82), [.c .nils, .t 3]⟩, ⟨some 2, none, .pure (.mov), [.t 4]⟩] [2]) (.ret))
def F60 : Fn Try.prog 60 := Fn.mkX false b60 [.t 2] 5 Try.f60 _ Try.func60 (by decide) rfl Try.ntmps60 (by kernel_rfl) (by kernel_rfl)
/-- cmp.isNaN[int] -/
def b78 : BC := .seq (.ops [⟨some 2, none, .pure (.mov), [.c (.bool false)]⟩] [0]) (.seq (.ops [⟨some 3, none, .pure (.mov), [.t 0]⟩, ⟨some 4, none, .pure (.mov), [.t 0]⟩, ⟨some 5, none, .pure (.bin .neq), [.t 3, .t 4]⟩, ⟨some 2, none, .pure (.mov), [.t 5]⟩] [2]) (.ret))
def F78 : Fn Try.prog 78 := Fn.mkX false b78 [.t 2] 6 Try.f78 _ Try.func78 (by decide) rfl Try.ntmps78 (by kernel_rfl) (by kernel_rfl)
/-- slices.CompareFunc[[]signpost/api.Seg,[]signpost/api.Seg,signpost/api.Seg,signpost/api.Seg] -/
def b79 : BC := .seq (.ops [⟨some 6, none, .pure (.mov), [.c (.int .i64 0)]⟩] [0, 1, 2]) (.seq (.seq (.ops [⟨some 11, none, .pure (.mov), [.t 0]⟩, ⟨some 12, none, .pure (.len), [.t 11]⟩, ⟨some 13, none, .pure (.mov), [.c (.int .i64 0)]⟩] [0, 1, 2, 11, 12, 13]) (.block 0 (.loop [0, 1, 2, 11, 12, 13] (.seq (.ops [⟨some 14, none, .pure (.bin .lss), [.t 13, .t 12]⟩] [0, 1, 2, 11, 12, 13, 14]) (.seq (.cond (.t 14) (.skip) (.exit 0)) (.seq (.block 1 (.seq (.ops [⟨some 15, none, .pure (.mov), [.t 13]⟩, ⟨some 16, none, .pure (.idx 2), [.t 11, .t 13]⟩, ⟨some 17, none, .load (.ld 2 true), [.t 16]⟩, ⟨some 8, none, .alloc (.alloc [(.int .i64 0), .nils]), []⟩, ⟨some 7, none, .pure (.mov), [.t 15]⟩, ⟨none, none, .loud (.st 2), [.t 8, .t 17]⟩] [0, 1, 2, 7, 8, 11, 12, 13]) (.seq (.seq (.ops [⟨some 18, none, .pure (.mov), [.t 7]⟩, ⟨some 19, none, .pure (.mov), [.t 1]⟩, ⟨some 20, none, .pure (.len), [.t 19]⟩, ⟨some 21, none, .pure (.bin .geq), [.t 18, .t 20]⟩] [0, 1, 2, 7, 8, 11, 12, 13, 21]) (.cond (.t 21) (.seq (.ops [⟨some 6, none, .pure (.mov), [.c (.int .i64 1)]⟩] [6]) (.ret)) (.skip))) (.seq (.ops [⟨some 22, none, .pure (.mov), [.t 1]⟩, ⟨some 23, none, .pure (.mov), [.t 7]⟩, ⟨some 24, none, .pure (.idx 2), [.t 22, .t 23]⟩, ⟨some 25, none, .load (.ld 2 true), [.t 24]⟩, ⟨some 9, none, .alloc (.alloc [(.int .i64 0), .nils]), []⟩, ⟨none, none, .loud (.st 2), [.t 9, .t 25]⟩] [0, 1, 2, 8, 9, 11, 12, 13]) (.seq (.ops [⟨some 26, none, .pure (.mov), [.t 2]⟩, ⟨some 27, none, .load (.ld 2 true), [.t 8]⟩, ⟨some 28, none, .load (.ld 2 true), [.t 9]⟩, ⟨some 29, none, .loud (.callv), [.t 26, .t 27, .t 28]⟩, ⟨some 10, none, .pure (.mov), [.t 29]⟩] [0, 1, 2, 10, 11, 12, 13]) (.seq (.ops [⟨some 30, none, .pure (.mov), [.t 10]⟩, ⟨some 31, none, .pure (.bin .neq), [.t 30, .c (.int .i64 0)]⟩] [0, 1, 2, 10, 11, 12, 13, 31]) (.cond (.t 31) (.seq (.ops [⟨some 32, none, .pure (.mov), [.t 10]⟩, ⟨some 6, none, .pure (.mov), [.t 32]⟩] [6]) (.ret)) (.skip)))))))) (.ops [⟨some 33, none, .pure (.bin .add), [.t 13, .c (.int .i64 1)]⟩, ⟨some 13, none, .pure (.mov), [.t 33]⟩] [0, 1, 2, 11, 12, 13]))))))) (.seq (.seq (.ops [⟨some 34, none, .pure (.mov), [.t 0]⟩, ⟨some 35, none, .pure (.len), [.t 34]⟩, ⟨some 36, none, .pure (.mov), [.t 1]⟩, ⟨some 37, none, .pure (.len), [.t 36]⟩, ⟨some 38, none, .pure (.bin .lss), [.t 35, .t 37]⟩] [38]) (.cond (.t 38) (.seq (.ops [⟨some 6, none, .pure (.mov), [.c (.int .i64 (-1))]⟩] [6]) (.ret)) (.skip))) (.seq (.ops [⟨some 6, none, .pure (.mov), [.c (.int .i64 0)]⟩] [6]) (.ret))))
def F79 : Fn Try.prog 79 := Fn.mkX false b79 [.t 6] 39 Try.f79 _ Try.func79 (by decide) rfl Try.ntmps79 (by kernel_rfl) (by kernel_rfl)
/-- signpost/aspath.compare -/
def b80 : BC := .seq (.ops [⟨some 2, none, .alloc (.box), [.t 0]⟩, ⟨some 3, none, .alloc (.box), [.t 1]⟩, ⟨some 4, none, .pure (.mov), [.c (.int .i64 0)]⟩] [2, 3]) (.seq (.ops [⟨some 5, none, .pure (.fld 0), [.t 2]⟩, ⟨some 7, none, .pure (.fld 0), [.t 3]⟩, ⟨some 10, none, .pure (.fld 1), [.t 2]⟩, ⟨some 13, none, .pure (.fld 1), [.t 3]⟩, ⟨some 17, none, .pure (.fld 1), [.t 2]⟩, ⟨some 19, none, .pure (.fld 1), [.t 3]⟩, ⟨some 6, none, .load (.ld 1 false), [.t 5]⟩, ⟨some 8, none, .load (.ld 1 false), [.t 7]⟩, ⟨some 11, none, .load (.ld 1 false), [.t 10]⟩, ⟨some 12, none, .pure (.len), [.t 11]⟩, ⟨some 14, none, .load (.ld 1 false), [.t 13]⟩, ⟨some 15, none, .pure (.len), [.t 14]⟩, ⟨some 18, none, .load (.ld 1 false), [.t 17]⟩, ⟨some 20, none, .load (.ld 1 false), [.t 19]⟩, ⟨some 9, none, .qcall 54, [.t 6, .t 8]⟩, ⟨some 16, none, .qcall 54, [.t 12, .t 15]⟩, ⟨some 21, none, .qcall 58, [.t 18, .t 20]⟩, ⟨some 22, none, .alloc (.mksl 1 3), [.t 9, .t 16, .t 21]⟩, ⟨some 23, none, .qcall 53, [.t 22]⟩, ⟨some 4, none, .pure (.mov), [.t 23]⟩] [4]) (.ret))
def F80 : Fn Try.prog 80 := Fn.mkX false b80 [.t 4] 24 Try.f80 _ Try.func80 (by decide) rfl Try.ntmps80 (by kernel_rfl) (by kernel_rfl)
end Go.Am.Tst

/- AS -/
/- A part of the proof: slices.AppendSeq over slices.Values gives what the slice holds, in its order. -/
namespace Go.Am.AS
open Go.RowKit Go.Shelf Go.Proofs
set_option linter.unusedVariables false
set_option linter.unusedSimpArgs false
attribute [local go_sem] Oper.semAt_some

def upto {α : Type} (f : Nat → α) (k : Nat) : List α := (List.range k).map f
theorem upto_succ {α : Type} (f : Nat → α) (k : Nat) : upto f (k + 1) = upto f k ++ [f k] := by simp [upto, List.range_succ]
theorem upto_length {α : Type} (f : Nat → α) (k : Nat) : (upto f k).length = k := by simp [upto]
theorem upto_all (zs : List Int) : upto (fun j => zs[j]?.getD 0) zs.length = zs := by
  apply List.ext_getElem
  · simp [upto]
  · intro i h1 h2
    simp [upto, h2]

set_option maxRecDepth 100000 in
set_option maxHeartbeats 2000000 in
/-- The closure of slices.Values. -/
theorem values1_in (F : Fence) (n : Nat) (h7 : F.fn 62) (hro : F.round = none) (hn : 1 ≤ n) (l Bs oB n₀ b off len cap : Nat) (pa : Option Addr) (zs : List Int) (hreach : len ≤ 9223372036854775806) (hpa : 0 < len → pa = some ⟨b, off, none⟩ ∧ b < n₀) (J Jx : List Int → World → Prop)
    (hY : ∀ pre x W, J pre W → pre.length < len → YieldAt F (n - 1) Try.prog l #[.int .u32 x] W fun e W' =>
      (e = .returned (.bool true) ∧ J (pre ++ [x]) W' ∧ Below n₀ W W') ∨ (e = .returned (.bool false) ∧ Jx (pre ++ [x]) W'))
    (W : World) (hBs : W.cell? ⟨Bs, oB, none⟩ = some (.slice pa len cap)) (hc : ∀ j, j < len → W.cell? ⟨b, off + j, none⟩ = some (.int .u32 (zs[j]?.getD 0))) (h0 : J [] W) :
    CallsIn F n Try.prog 62 #[.func (.yield l) #[] #[], .pointer (some ⟨Bs, oB, none⟩)] W fun e W' => (∃ v, e = .returned v) ∧
      ((∃ ys, ys = upto (fun j => zs[j]?.getD 0) len ∧ J ys W') ∨ (∃ pre, (∃ k, k ≤ len ∧ pre = upto (fun j => zs[j]?.getD 0) k) ∧ Jx pre W')) := by
  refine callsIn_of_wp Try.func62 rfl h7 ?_ hro
  simp only [Try.ntmps62, List.size_toArray, List.length_cons, List.length_nil, Nat.reduceAdd, Nat.reduceSub, Array.replicate_succ, Array.replicate_zero, List.push_toArray, List.append_toArray, List.nil_append, List.cons_append]
  gi_wp2
  gi_loopw [7] (fun i wr => ∃ k : Nat, k ≤ len ∧ i = .int .i64 k ∧ J (upto (fun j => zs[j]?.getD 0) k) wr ∧ Below n₀ W wr)
    (fun i _ => len - (intOf i).toNat)
  case atStart => exact ⟨0, Nat.zero_le _, rfl, h0, Below.refl _ _⟩
  case round =>
    obtain ⟨k, hk, rfl, hJs, hnx⟩ := hrel
    have hcx : b < n₀ → k < len → wr.cell? ⟨b, off + k, none⟩ = some (.int .u32 (zs[k]?.getD 0)) := fun hb h => (hnx.cell (p := ⟨b, off + k, none⟩) hb).trans (hc k h)
    by_cases hlt : k < len
    · obtain ⟨fn, tmps, assign, body, hy, hR⟩ := hY _ (zs[k]?.getD 0) wr hJs (by rw [upto_length]; exact hlt)
      obtain ⟨hpa1, hb⟩ := hpa (by omega)
      subst hpa1
      have hcx' := hcx hb hlt
      gi_wp2
      refine hR.mono ?_
      rintro e W3 (⟨rfl, hJ3, hk3⟩ | ⟨rfl, hJx3⟩)
      · gi_wp2
        go_roundw
        case rel => exact ⟨k + 1, by omega, by simp, by rw [upto_succ]; exact hJ3, hnx.trans hk3⟩
        case measure => simp [intOf]; omega
      · gi_wp2
        refine bodyPost_ret (results_none rfl _ _ _) rfl ?_
        exact ⟨⟨_, rfl⟩, .inr ⟨_, ⟨k + 1, by omega, (upto_succ _ _).symm⟩, hJx3⟩⟩
    · obtain rfl : k = len := by omega
      gi_wp2
      go_end0
      exact ⟨⟨_, rfl⟩, .inl ⟨_, rfl, hJs⟩⟩

/-- The same, as the contract that the caller's law asks for. -/
theorem values_stops (F : Fence) (n : Nat) (h7 : F.fn 62) (hro : F.round = none) (hn : 1 ≤ n) (Bs oB n₀ b off cap : Nat) (pa : Option Addr) (zs : List Int) (w : World) (hreach : zs.length ≤ 9223372036854775806) (hBs : Bs < w.heap.size) (hn₀ : n₀ ≤ w.heap.size) (hpa : 0 < zs.length → pa = some ⟨b, off, none⟩ ∧ b < n₀)
    (hc0 : w.cell? ⟨Bs, oB, none⟩ = some (.slice pa zs.length cap)) (hc : ∀ j, j < zs.length → w.cell? ⟨b, off + j, none⟩ = some (.int .u32 (zs[j]?.getD 0))) :
    SeqStopsK F n Try.prog 62 #[.pointer (some ⟨Bs, oB, none⟩)] (fun x : Int => #[Value.int .u32 x]) (Below n₀) (fun ys => ys = zs) (fun _ => True) zs.length w := fun l J Jx W hW _ _ hY h0 => by
  refine (values1_in F n h7 hro hn l Bs oB n₀ b off zs.length cap pa zs hreach hpa J Jx hY W ((hW.cell (p := ⟨Bs, oB, none⟩) hBs).trans hc0) (fun j hj => (hW.cell (p := ⟨b, off + j, none⟩) (Nat.lt_of_lt_of_le (hpa (by omega)).2 hn₀)).trans (hc j hj)) h0).mono ?_
  rintro e W' ⟨hv, ⟨ys, h1, h2⟩ | ⟨pre, _, h2⟩⟩
  · exact ⟨hv, .inl ⟨ys, by rw [h1, upto_all], h2⟩⟩
  · exact ⟨hv, .inr ⟨pre, trivial, h2⟩⟩

theorem infoE : (Try.prog.info? 23).map (fun i => (i.zero, i.size, i.bytes)) = some (some (.int .u32 0), 1, 4) := by kernel_rfl

set_option maxRecDepth 100000 in
set_option maxHeartbeats 2000000 in
/-- slices.AppendSeq onto nil. -/
theorem append_in (F : Fence) (n : Nat) (h3 : F.fn 82) (h5 : F.fn 62) (hro : F.round = none) (hn : 3 ≤ n) (Bs oB b off cap : Nat) (pa : Option Addr) (zs : List Int) (hlen : zs.length * 4 ≤ 140737488355328) (w : World) (hBs : Bs < w.heap.size) (hpa : 0 < zs.length → pa = some ⟨b, off, none⟩ ∧ b < w.heap.size)
    (hc0 : w.cell? ⟨Bs, oB, none⟩ = some (.slice pa zs.length cap)) (hcs : ∀ j, j < zs.length → w.cell? ⟨b, off + j, none⟩ = some (.int .u32 (zs[j]?.getD 0))) :
    CallsIn F n Try.prog 82 #[.slice none 0 0, .func (.func 62) #[] #[.pointer (some ⟨Bs, oB, none⟩)]] w fun e W' => ∃ v, e = .returned v ∧ W'.ownsRow w.heap.size 23 1 v zs.length (zs.map (Value.int .u32)) ∧ (v = .slice none 0 0 ↔ zs = []) ∧ Below w.heap.size w W' := by
  have h1 : 1 ≤ n := by omega
  have hml : zs.length ≤ maxLen := by unfold maxLen; omega
  obtain ⟨i0, hi, hz0, hz1, hz2⟩ := info_parts infoE
  refine callsIn_of_wp_marks Try.func82 rfl h3 ?_ hro
  simp only [Try.ntmps82, List.size_toArray, List.length_cons, List.length_nil, Nat.reduceAdd, Nat.reduceSub, Array.replicate_succ, Array.replicate_zero, List.push_toArray, List.append_toArray, List.nil_append, List.cons_append]
  gi_wp2
  have bO := Boxed.new w 24 (.slice none 0 0)
  have hB0 : Below w.heap.size w (w.alloc (.cells #[.slice none 0 0] 24)) := (Below.refl _ w).alloc (Nat.le_refl _) _
  refine wpIn_rangeFunc_ownG hro h1 (gf := 62) (lb := #[.pointer (some ⟨Bs, oB, none⟩)]) rfl h5 (enters_of Try.func62 (by kernel_rfl) rfl)
    (values_stops F (n - 1) h5 hro (by omega) Bs oB w.heap.size b off cap pa zs _ (by omega) (by simp; omega) (by simp) hpa ((hB0.cell (p := ⟨Bs, oB, none⟩) hBs).trans hc0) (fun j hj => (hB0.cell (p := ⟨b, off + j, none⟩) (hpa (by omega)).2).trans (hcs j hj))) belowK_t (belowK_b (by simp)) (Below.refl _ _) (fun _ => rfl)
    (fun pre W => (∃ v, Boxed W w.heap.size 24 v ∧ W.ownsRow w.heap.size 23 1 v pre.length (pre.map (Value.int .u32)) ∧ (v = .slice none 0 0 ↔ pre = [])) ∧ Below w.heap.size w W)
    (fun _ _ _ => False)
    (OwnFrom.and (Own.from (holdsRow_own w.heap.size w.heap.size 24 23 1 (fun pre : List Int => pre.length) (fun pre => pre.map (Value.int .u32)) (fun pre v => v = .slice none 0 0 ↔ pre = [])) _) (ownFrom_below (Nat.le_refl _) (by simp)))
    (fun _ _ _ _ _ hs _ _ => hs)
    ⟨⟨_, bO, World.ownsRow_nil _ _ _ _, by simp⟩, hB0⟩
    (fun x => { tmps := #[.slice none 0 0, .func (.func 62) #[] #[.pointer (some ⟨Bs, oB, none⟩)], .pointer (some ⟨w.heap.size, 0, none⟩), undef, .slice none 0 0, .int .u32 x, .func (.func 62) #[] #[.pointer (some ⟨Bs, oB, none⟩)], .int .u32 x, undef, undef, undef, undef, undef], defers := [] }) ?assign ?body ?done ?stop
  case assign =>
    intro l x W K hK
    gi_wp2
    exact hK
  case body =>
    rintro l pre x W ⟨⟨v, hv, hrow, hnil⟩, hB⟩ hlt
    have hc := hv.cell
    gi_wp2_with (gi_at_builtin; refine wpListIn_append_own _ rfl _ _ 24 rfl w.heap.size 23 i0 (.int .u32 0) 1 4 Try.underlying24 hi hz0 hz1 hz2 rfl (by decide) _ _ _ rfl (hrow.alloc _) ⟨W.heap.size, 0, none⟩ 1 1 [.int .u32 x] rfl rfl (cell_one_new _ _ _) (by simp [Value.oneCell']) (by omega) (by omega) (by have := hB.size; simp; omega) ?_; intro v' w1 hown' hgrow _; obtain ⟨g', cap', rfl⟩ := ownsRow_succ hown'; obtain ⟨hv1, hv2, hr2, hk2, hb2⟩ := hv.appended (by decide) hrow hB.size (Nat.le_refl _) hown' hgrow; have hc1 := hv1.cell; have hf1 := hv1.frozen)
    exact ⟨hk2.from _, hb2, ⟨_, hv2, by simpa using hr2, by simp⟩, hB.trans hb2⟩
  case done =>
    rintro D ys W hD rfl ⟨⟨v, hv, hrow, hnil⟩, hB⟩ hK
    have hc := hv.cell
    gi_wp2
    refine ⟨by simp, .inl ⟨_, _, rfl, run_takeDeferred hK, ?_⟩⟩
    exact ⟨_, results_tmp rfl _ _ _, v, rfl, ownsRow_putObj hrow _ hK rfl, hnil, hB.trans (belowK_b (w := w) (Nat.le_refl _) W D _ _ (by simp at hD; omega) hK rfl rfl)⟩
  case stop =>
    rintro D c pre W _ _ h _
    exact h.elim

/-- As a call, with no fence. -/
theorem append_calls : Go.Am.SeqHolds Try.prog 82 62 .u32 23 4 := fun Bs oB b off cap pa zs w hlen hBs hpa hc0 hcs =>
  (callsIn_wide (n := 3)).1 (append_in _ 3 trivial trivial rfl (Nat.le_refl _) Bs oB b off cap pa zs hlen w hBs hpa hc0 hcs)

theorem ent : Go.Am.Ent Try.prog 82 := ⟨_, Try.func82, by decide, rfl⟩

theorem rule_ok : Go.Am.RuleOk Try.prog 82 (Go.Am.seqRule 62 .u32 4) := Go.Am.seqRule_ok ent append_calls

end Go.Am.AS

/- O12 -/
namespace Go.Am
open Go.Proofs Go.Sort

theorem s90n (σ : Store) : ACalls Try.prog 90 [.nils, .int .i64 0, .int .i64 0] σ (fun r s => r = .tup [] ∧ s = σ) := by
  refine calls_of Tst.F90 (by simp [Tst.F90, Fn.mkX]) ?_
  simp only [Tst.F90, Fn.mkX, Tst.b90]
  have e1 : IntKind.i64.wrap (0 + 1) = 1 := by decide
  simp only [e1, ↓vcPre, ↓wit_get, ↓reduceIte, vcPost, vcStd, Nat.reduceEqDiff, reduceCtorEq, Nat.reduceAdd, Nat.reduceLeDiff, Int.reduceLT, Int.reduceLE, ↓u_setN]
  refine LoopQ.inv (S := Unit) (fun _ => [(0, .nils), (1, .int .i64 0), (2, .int .i64 0), (6, .int .i64 1)]) (fun _ => σ) (fun _ => True) (fun _ => 0) () rfl (Store.sub_refl _) trivial ?_
  intro _ _
  simp only [↓vcPre, ↓wit_get, ↓reduceIte, vcPost, vcStd, Nat.reduceEqDiff, reduceCtorEq, Nat.reduceAdd, Nat.reduceLeDiff, Int.reduceLT, Int.reduceLE, ↓u_setN]
  exact EndQ.to _ _ rfl (Store.sub_refl _) ⟨rfl, rfl⟩

theorem s83n (m : Int) (σ : Store) : ACalls Try.prog 83 [.nils, .int .i64 0, .int .i64 0, .int .i64 m] σ (fun r s => r = .tup [] ∧ s = σ) := by
  refine calls_of Tst.F83 (by simp [Tst.F83, Fn.mkX]) ?_
  simp only [Tst.F83, Fn.mkX, Tst.b83]
  simp only [↓vcPre, ↓wit_get, ↓reduceIte, vcPost, vcStd, Nat.reduceEqDiff, reduceCtorEq, Nat.reduceAdd, Nat.reduceLeDiff, Int.reduceLT, Int.reduceLE, ↓u_setN]
  refine LoopQ.inv (S := Unit) (fun _ => [(0, .nils), (1, .int .i64 0), (2, .int .i64 0), (3, .int .i64 m), (8, .bool true), (9, .bool true)]) (fun _ => σ) (fun _ => True) (fun _ => 0) () rfl (Store.sub_refl _) trivial ?_
  intro _ _
  have e1 : IntKind.i64.wrap (0 - 0) = 0 := by decide
  simp only [e1, ↓vcPre, ↓wit_get, ↓reduceIte, vcPost, vcStd, Nat.reduceEqDiff, reduceCtorEq, Nat.reduceAdd, Nat.reduceLeDiff, Int.reduceLT, Int.reduceLE, ↓u_setN]
  refine (s90n σ).Q ?_
  rintro r s ⟨rfl, rfl⟩
  simp only [↓vcPre, ↓wit_get, ↓reduceIte, vcPost, vcStd, Nat.reduceEqDiff, reduceCtorEq, Nat.reduceAdd, Nat.reduceLeDiff, Int.reduceLT, Int.reduceLE, ↓u_setN]
  exact EndQ.to _ _ rfl (Store.sub_refl _) ⟨rfl, rfl⟩

theorem s61n (σ : Store) : ACalls Try.prog 61 [.nils] σ (fun r s => r = .tup [] ∧ s = σ) := by
  refine calls_of Tst.F61 (by simp [Tst.F61, Fn.mkX]) ?_
  simp only [Tst.F61, Fn.mkX, Tst.b61]
  have e1 : IntKind.u64.wrap 0 = ((0 : Nat) : Int) := by decide
  simp only [e1, ↓vcPre, ↓wit_get, ↓reduceIte, vcPost, vcStd, Nat.reduceEqDiff, reduceCtorEq, Nat.reduceAdd, Nat.reduceLeDiff, Int.reduceLT, Int.reduceLE, ↓u_setN]
  refine (c52 0 (by omega)).Q ?_
  simp only [↓vcPre, ↓wit_get, ↓reduceIte, vcPost, vcStd, Nat.reduceEqDiff, reduceCtorEq, Nat.reduceAdd, Nat.reduceLeDiff, Int.reduceLT, Int.reduceLE, ↓u_setN]
  refine (s83n _ σ).Q ?_
  rintro r s ⟨rfl, rfl⟩
  simp only [↓vcPre, ↓wit_get, ↓reduceIte, vcPost, vcStd, Nat.reduceEqDiff, reduceCtorEq, Nat.reduceAdd, Nat.reduceLeDiff, Int.reduceLT, Int.reduceLE, ↓u_setN]
  exact EndQ.to _ _ rfl (Store.sub_refl _) ⟨rfl, rfl⟩

theorem swoU : SWO ltU := by
  have h : ∀ x y, ltU x y = true ↔ x < y := fun x y => by unfold ltU cfU; rw [decide_eq_true_eq]; omega
  refine ⟨fun x => ?_, fun x y z h1 h2 => ?_, fun x y z h1 h2 => ?_⟩
  · rw [Bool.eq_false_iff, Ne, h]; omega
  · rw [h] at *; omega
  · rw [Bool.eq_false_iff, Ne, h] at *; omega

/-- A sort of numbers that a function owns. -/
theorem sort_u {s : Store} {i : Nat} {L : List Int} (hs : s i = some (.arr 1 (L.map cU))) (hsz : L.length < 1000000000000) :
    ACalls Try.prog 61 [.os i 1 0 L.length] s (fun r s' => r = .tup [] ∧ ∃ L' : List Int, L'.Perm L ∧ L'.Pairwise (· ≤ ·) ∧ s' = s.set i (.arr 1 (L'.map cU))) := by
  have hs' : s = s.set i (arrA 1 cU L.toArray) := (Store.set_self (by simpa [arrA] using hs)).symm
  have h := s61 lessU swoU L.toArray (by simp; omega) s i
  rw [← hs'] at h
  have hz : L.toArray.size = L.length := by simp
  rw [hz] at h
  refine h.mono ?_
  rintro r s' ⟨rfl, rfl⟩
  generalize hd : pdq ltU L.toArray 0 L.length (bitsLen L.length) true true = d
  have hp := pdq_sorts ltU swoU L.toArray 0 L.length (bitsLen L.length) true true (by omega) (by simp) (.inl rfl)
  rw [hd] at hp
  obtain ⟨⟨h1, h2, h3⟩, h4⟩ := hp
  have hx : ∀ (a : Array Int), a.size = L.length → a.extract 0 L.length = a := fun a ha => by rw [← ha]; simp
  rw [hx _ (by simpa using h1), hx _ (by simp)] at h3
  refine ⟨rfl, d.toList, by simpa using h3, ?_, rfl⟩
  rw [List.pairwise_iff_getElem]
  intro a b ha hb hab
  have := h4 a b (Nat.zero_le _) hab (by simpa [h1] using hb)
  rw [getElem!_pos d a (by simpa using ha), getElem!_pos d b (by simpa using hb)] at this
  simp only [ltU, cfU, decide_eq_false_iff_not] at this
  have := of_decide_eq_false this
  simp only [Array.getElem_toList]
  omega

/-- slices.Sorted over slices.Values. -/
theorem s34 {σ : Store} {b : Nat} {S : AV} {zs : List Int} (hbox : σ b = some (.box [S])) (hS : slc σ 1 S = some (zs.map cU)) (hle : zs.length ≤ 1000000000) :
    ACalls Try.prog 34 [.fn 62 [.ptr b 0]] σ (fun r s => (zs = [] ∧ r = .nils ∧ s = σ) ∨ (zs ≠ [] ∧ ∃ g, ∃ L : List Int, σ g = none ∧ L.Perm zs ∧ L.Pairwise (· ≤ ·) ∧ r = .os g 1 0 L.length ∧ s = σ.set g (.arr 1 (L.map cU)))) := by
  refine calls_of Tst.F34 (by simp [Tst.F34, Fn.mkX]) ?_
  simp only [Tst.F34, Fn.mkX, Tst.b34]
  simp only [↓vcPre, ↓wit_get, ↓reduceIte, vcPost, vcStd, Nat.reduceEqDiff, reduceCtorEq, Nat.reduceAdd, Nat.reduceLeDiff, Int.reduceLT, Int.reduceLE, ↓u_setN]
  have hcol : ACalls Try.prog 60 [.fn 62 [.ptr b 0]] σ (fun a s => (zs = [] ∧ a = .nils ∧ s = σ) ∨ (zs ≠ [] ∧ ∃ g, σ g = none ∧ a = .os g 1 0 zs.length ∧ s = σ.set g (.arr 1 (zs.map cU)))) := by
    refine calls_of Tst.F60 (by simp [Tst.F60, Fn.mkX]) ?_
    simp only [Tst.F60, Fn.mkX, Tst.b60]
    simp only [↓vcPre, ↓wit_get, ↓reduceIte, vcPost, vcStd, Nat.reduceEqDiff, reduceCtorEq, Nat.reduceAdd, Nat.reduceLeDiff, Int.reduceLT, Int.reduceLE, ↓u_setN]
    refine (seq_call AS.ent AS.append_calls hbox hS (by omega)).Q ?_
    rintro r s (⟨hz, rfl, rfl⟩ | ⟨hz, g, hg, rfl, rfl⟩)
    · simp only [↓vcPre, ↓wit_get, ↓reduceIte, vcPost, vcStd, Nat.reduceEqDiff, reduceCtorEq, Nat.reduceAdd, Nat.reduceLeDiff, Int.reduceLT, Int.reduceLE, ↓u_setN]
      exact EndQ.to _ _ rfl (Store.sub_refl _) (.inl ⟨hz, rfl, rfl⟩)
    · simp only [↓vcPre, ↓wit_get, ↓reduceIte, vcPost, vcStd, Nat.reduceEqDiff, reduceCtorEq, Nat.reduceAdd, Nat.reduceLeDiff, Int.reduceLT, Int.reduceLE, ↓u_setN]
      exact EndQ.to _ _ rfl (Store.sub_refl _) (.inr ⟨hz, g, hg, rfl, rfl⟩)
  refine hcol.Q ?_
  rintro r s (⟨hz, rfl, rfl⟩ | ⟨hz, g, hg, rfl, rfl⟩)
  · simp only [↓vcPre, ↓wit_get, ↓reduceIte, vcPost, vcStd, Nat.reduceEqDiff, reduceCtorEq, Nat.reduceAdd, Nat.reduceLeDiff, Int.reduceLT, Int.reduceLE, ↓u_setN]
    refine (s61n _).Q ?_
    rintro r s ⟨rfl, rfl⟩
    simp only [↓vcPre, ↓wit_get, ↓reduceIte, vcPost, vcStd, Nat.reduceEqDiff, reduceCtorEq, Nat.reduceAdd, Nat.reduceLeDiff, Int.reduceLT, Int.reduceLE, ↓u_setN]
    exact EndQ.to _ _ rfl (Store.sub_refl _) (.inl ⟨hz, rfl, rfl⟩)
  · simp only [↓vcPre, ↓wit_get, ↓reduceIte, vcPost, vcStd, Nat.reduceEqDiff, reduceCtorEq, Nat.reduceAdd, Nat.reduceLeDiff, Int.reduceLT, Int.reduceLE, ↓u_setN]
    refine (sort_u (Store.set_same _ _ _) (by omega)).Q ?_
    rintro r s ⟨rfl, L, hp, hl, rfl⟩
    simp only [↓vcPre, ↓wit_get, ↓reduceIte, vcPost, vcStd, Nat.reduceEqDiff, reduceCtorEq, Nat.reduceAdd, Nat.reduceLeDiff, Int.reduceLT, Int.reduceLE, ↓u_setN]
    exact EndQ.to _ _ rfl (Store.sub_refl _) (.inr ⟨hz, g, L, hg, hp, hl, by rw [hp.length_eq], by rw [Store.set_set]⟩)
theorem s35 (S : AV) (hS : S.isTup = false ∧ S.cells = [S]) (σ : Store) : ACalls Try.prog 35 [S] σ (fun r s => ∃ b, σ b = none ∧ r = .fn 62 [.ptr b 0] ∧ s = σ.set b (.box [S])) := by
  refine calls_of Tst.F35 (by simp [Tst.F35, Fn.mkX]) ?_
  simp only [Tst.F35, Fn.mkX, Tst.b35]
  simp only [hS.1, hS.2, ↓vcPre, ↓wit_get, ↓reduceIte, vcPost, vcStd, Nat.reduceEqDiff, reduceCtorEq, Nat.reduceAdd, Nat.reduceLeDiff, Int.reduceLT, Int.reduceLE, ↓u_setN]
  refine AllocQ.i0 fun b hb => ?_
  simp only [↓vcPre, ↓wit_get, ↓reduceIte, vcPost, vcStd, Nat.reduceEqDiff, reduceCtorEq, Nat.reduceAdd, Nat.reduceLeDiff, Int.reduceLT, Int.reduceLE, ↓u_setN]
  exact EndQ.to _ _ rfl (Store.sub_refl _) ⟨b, hb, rfl, rfl⟩
end Go.Am

/- A1 -/
namespace Go.Am
open Go.Proofs Go.Sort

theorem u_clr {P : Program} {n : Nat} {z : List AV} {a : AV} {σ : Store} {K : AV → Store → Prop} : lwp P (.clr n z) [a] σ K ↔ clrwp n z a σ (K (.tup [])) := by simp only [lwp]

/-- Neighbours that are the same, once. -/
def ddA : List Int → List Int
  | [] => []
  | [a] => [a]
  | a :: b :: r => if a = b then ddA (b :: r) else a :: ddA (b :: r)
theorem ddA_snoc (x : Int) : ∀ l : List Int, ddA (l ++ [x]) = if l.getLast? = some x then ddA l else ddA l ++ [x]
  | [] => by simp [ddA]
  | [a] => by
    by_cases h : a = x
    · simp [ddA, h]
    · simp [ddA, h]
  | a :: b :: r => by
    have ih := ddA_snoc x (b :: r)
    simp only [List.cons_append] at ih ⊢
    simp only [ddA, List.getLast?_cons_cons]
    rw [ih]
    by_cases hab : a = b
    · simp only [hab, if_true]
    · simp only [hab, if_false]
      split <;> simp
theorem ddA_take {L : List Int} {k : Nat} (h1 : 1 ≤ k) (h : k < L.length) : ddA (L.take (k + 1)) = if L[k - 1]'(by omega) = L[k] then ddA (L.take k) else ddA (L.take k) ++ [L[k]] := by
  have e : L.take (k + 1) = L.take k ++ [L[k]] := by rw [List.take_add_one, List.getElem?_eq_getElem h]; rfl
  rw [e, ddA_snoc]
  have : (L.take k).getLast? = some (L[k - 1]'(by omega)) := by
    rw [List.getLast?_eq_getElem?, List.length_take, Nat.min_eq_left (by omega), List.getElem?_take_of_lt (by omega), List.getElem?_eq_getElem (by omega)]
  rw [this]
  simp

theorem s33 {σ : Store} {g : Nat} {L : List Int} (hσ : σ g = some (.arr 1 (L.map cU))) (hl : L.length < 1000000000000) :
    ACalls Try.prog 33 [.os g 1 0 L.length] σ (fun r s => ∃ M : List Int, M.length = L.length ∧ M.take (ddA L).length = ddA L ∧ (ddA L).length ≤ L.length ∧ r = .os g 1 0 (ddA L).length ∧ s = σ.set g (.arr 1 (M.map cU))) := by
  refine calls_of Tst.F33 (by simp [Tst.F33, Fn.mkX]) ?_
  simp only [Tst.F33, Fn.mkX, Tst.b33]
  simp only [↓vcPre, ↓wit_get, ↓reduceIte, vcPost, vcStd, Nat.reduceEqDiff, reduceCtorEq, Nat.reduceAdd, Nat.reduceLeDiff, Int.reduceLT, Int.reduceLE, ↓u_setN]
  refine ⟨fun c0 => ?_, fun c0 => ?_⟩
  · have hd : ddA L = L := by
      match L, c0 with
      | [], _ => rfl
      | [a], _ => rfl
      | a :: b :: r, h => simp at h; omega
    refine EndQ.to σ _ rfl (Store.sub_refl _) ⟨L, rfl, by rw [hd]; simp, by rw [hd]; exact Nat.le_refl _, by rw [hd], (Store.set_self hσ).symm⟩
  · have eS : σ = σ.set g (.arr 1 (L.map cU)) := (Store.set_self hσ).symm
    refine LoopQ.inv (S := Nat) (fun k => [(0, .os g 1 0 L.length), (3, .int .i64 (k : Int))]) (fun _ => σ) (fun k => 1 ≤ k ∧ k ≤ L.length ∧ ddA (L.take k) = L.take k) (fun k => L.length + 1 - k) 1 rfl (Store.sub_refl _) ⟨by omega, by omega, by
      cases L with
      | nil => rfl
      | cons a r => simp [ddA]⟩ ?_
    rintro k ⟨h1, h2, h3⟩
    simp only [hσ, ↓vcPre, ↓wit_get, ↓reduceIte, vcPost, vcStd, Nat.reduceEqDiff, reduceCtorEq, Nat.reduceAdd, Nat.reduceLeDiff, Int.reduceLT, Int.reduceLE, ↓u_setN]
    have ek : IntKind.i64.wrap ((k : Int) + 1) = ((k + 1 : Nat) : Int) := by rw [wrap64 (by unfold I64; omega)]; omega
    have em : IntKind.i64.wrap ((k : Int) - 1) = ((k - 1 : Nat) : Int) := by rw [wrap64 (by unfold I64; omega)]; omega
    refine ⟨fun c1 => ?_, fun c1 => ?_⟩
    · simp only [em, Int.toNat_natCast]
      refine ⟨by omega, by omega, by omega, by simp [cU], ?_⟩
      simp only [cU, ek, em, Nat.zero_add, Option.getD_none, ↓vcPre, ↓wit_get, ↓reduceIte, vcPost, vcStd, Nat.reduceEqDiff, reduceCtorEq, Nat.reduceAdd, Nat.reduceLeDiff, Int.reduceLT, Int.reduceLE, ↓u_setN]
      refine ⟨by omega, fun c2 => ?_, fun c2 => ?_⟩
      · refine ⟨by omega, ?_⟩
        have hd0 : ddA (L.take (k + 1)) = L.take k := by
          rw [ddA_take h1 c1, if_pos c2.symm, h3]
        refine LoopQ.inv (S := Nat × Nat × List Int) (fun q => [(0, .os g 1 0 L.length), (3, .int .i64 (q.1 : Int)), (4, .os g 1 k (L.length - k)), (5, .int .i64 (q.2.1 : Int))]) (fun q => σ.set g (.arr 1 (q.2.2.map cU)))
          (fun q => 1 ≤ q.2.1 ∧ k + q.2.1 ≤ L.length ∧ 1 ≤ q.1 ∧ q.1 + 1 ≤ k + q.2.1 ∧ q.2.2.length = L.length ∧ q.2.2.take q.1 = ddA (L.take (k + q.2.1)) ∧ q.1 = (ddA (L.take (k + q.2.1))).length ∧ q.2.2.drop (k + q.2.1 - 1) = L.drop (k + q.2.1 - 1)) (fun q => L.length + 1 - q.2.1) (k, 1, L) rfl (by rw [← eS]; exact Store.sub_refl _)
          ⟨by simp only; omega, by simp only; omega, by simp only; omega, by simp only; omega, rfl, by simp only [hd0], by simp only [hd0, List.length_take]; omega, rfl⟩ ?_
        rintro ⟨p, m, M⟩ ⟨g1, g2, g3, g4, g5, g6, g7, g8⟩
        simp only at g1 g2 g3 g4 g5 g6 g7 g8
        simp only [Nat.zero_add, ↓vcPre, ↓wit_get, ↓reduceIte, vcPost, vcStd, Nat.reduceEqDiff, reduceCtorEq, Nat.reduceAdd, Nat.reduceLeDiff, Int.reduceLT, Int.reduceLE, ↓u_setN]
        have en : IntKind.i64.wrap ((m : Int) + 1) = ((m + 1 : Nat) : Int) := by rw [wrap64 (by unfold I64; omega)]; omega
        have ep : IntKind.i64.wrap ((p : Int) + 1) = ((p + 1 : Nat) : Int) := by rw [wrap64 (by unfold I64; omega)]; omega
        have eq : IntKind.i64.wrap ((m : Int) - 1) = ((m - 1 : Nat) : Int) := by rw [wrap64 (by unfold I64; omega)]; omega
        refine ⟨fun d1 => ?_, fun d1 => ?_⟩
        · have hM1 : M[k + m]'(by omega) = L[k + m]'(by omega) := by
            have := congrArg (fun l : List Int => l[1]?) g8
            simp only [List.getElem?_drop] at this
            rw [show k + m - 1 + 1 = k + m by omega, List.getElem?_eq_getElem (by omega), List.getElem?_eq_getElem (by omega)] at this
            exact Option.some.inj this
          have hM0 : M[k + (m - 1)]'(by omega) = L[k + m - 1]'(by omega) := by
            have := congrArg (fun l : List Int => l[0]?) g8
            simp only [List.getElem?_drop, Nat.add_zero] at this
            rw [List.getElem?_eq_getElem (by omega), List.getElem?_eq_getElem (by omega)] at this
            have h9 := Option.some.inj this
            have e9 : k + (m - 1) = k + m - 1 := by omega
            simp only [e9]; exact h9
          have hstep := ddA_take (L := L) (k := k + m) (by omega) (by omega)
          simp only [eq, Int.toNat_natCast]
          refine ⟨by omega, ⟨by omega, by omega⟩, by omega, by simp [cU], ?_⟩
          simp only [hM1, hM0]
          simp only [cU, en, ep, Nat.zero_add, hM1, hM0, ↓vcPre, ↓wit_get, ↓reduceIte, vcPost, vcStd, Nat.reduceEqDiff, reduceCtorEq, Nat.reduceAdd, Nat.reduceLeDiff, Int.reduceLT, Int.reduceLE, ↓u_setN]
          refine ⟨by omega, fun e1 => ⟨by omega, by omega, by omega, by omega, ?_⟩, fun e1 => ?_⟩
          · have eset : (List.map cU M).set p [AV.int IntKind.u32 (L[k + m]'(by omega))] = (M.set p (L[k + m]'(by omega))).map cU := by rw [List.map_set]; rfl
            rw [eset, Store.set_set]
            rw [if_neg (fun e => e1 e.symm)] at hstep
            have el : (ddA (L.take (k + m + 1))).length = p + 1 := by rw [hstep, List.length_append, ← g7]; rfl
            refine NextQ.to (p + 1, m + 1, M.set p (L[k + m]'(by omega))) rfl (Store.sub_refl _) (by simp only; omega)
              ⟨by simp only; omega, by simp only; omega, by simp only; omega, by simp only; omega, by simp [g5], ?_, ?_, ?_⟩
            · simp only
              rw [show k + (m + 1) = k + m + 1 by omega, hstep, List.take_add_one, List.take_set, List.getElem?_set_self (by omega), ← g6, List.set_eq_of_length_le (by simp; omega)]
              rfl
            · simp only
              rw [show k + (m + 1) = k + m + 1 by omega, el]
            · simp only
              rw [List.drop_set, if_pos (by omega), show k + (m + 1) - 1 = (k + m - 1) + 1 by omega, ← List.drop_drop, ← List.drop_drop (l := L), g8]
          · rw [if_pos e1.symm] at hstep
            refine NextQ.to (p, m + 1, M) rfl (Store.sub_refl _) (by simp only; omega)
              ⟨by simp only; omega, by simp only; omega, by simp only; omega, by simp only; omega, g5, ?_, ?_, ?_⟩
            · simp only
              rw [show k + (m + 1) = k + m + 1 by omega, hstep, g6]
            · simp only
              rw [show k + (m + 1) = k + m + 1 by omega, hstep, g7]
            · simp only
              rw [show k + (m + 1) - 1 = (k + m - 1) + 1 by omega, ← List.drop_drop, ← List.drop_drop (l := L), ← g8]
        · have hkm : L.take (k + m) = L := List.take_of_length_le (by omega)
          rw [hkm] at g6 g7
          simp only [Option.getD_none, Option.getD_some, Int.toNat_natCast]
          refine ⟨by omega, ?_⟩
          rw [u_clr]
          simp only [clrwp, Store.set_same]
          refine ⟨trivial, trivial, by simp; omega, by omega, ?_⟩
          have e1 : (List.map cU M).take p ++ (List.replicate (L.length - p) [AV.int IntKind.u32 0] ++ (List.map cU M).drop (p + (L.length - p))) = (M.take p ++ List.replicate (L.length - p) 0).map cU := by
            rw [List.drop_eq_nil_of_le (by simp; omega)]
            simp [cU, List.map_take]
          rw [e1, Store.set_set]
          refine EndQ.to (σ.set g (.arr 1 ((M.take p ++ List.replicate (L.length - p) 0).map cU))) _ rfl (Store.sub_refl _) ⟨_, by simp; omega, by rw [← g7, List.take_left' (by simp; omega)]; exact g6, by omega, by rw [← g7]; simp, rfl⟩
      · refine NextQ.to (k + 1) rfl (Store.sub_refl _) (by omega) ⟨by omega, by omega, ?_⟩
        rw [ddA_take h1 c1, if_neg (fun e => c2 e.symm), h3, List.take_add_one, List.getElem?_eq_getElem c1]
        rfl
    · have hk : L.take k = L := List.take_of_length_le (by omega)
      rw [hk] at h3
      refine EndQ.to σ _ rfl (Store.sub_refl _) ⟨L, rfl, by rw [h3]; simp, by rw [h3]; exact Nat.le_refl _, by rw [h3], (Store.set_self hσ).symm⟩
end Go.Am

/- A2 -/
namespace Go.Am
open Go.Proofs Go.Sort

/-- A part of a way. -/
structure Seg where
  kind : Int
  ls : List Int
def Seg.c (s : Seg) : List AV := [.int .i64 s.kind, .sl 1 (s.ls.map cU)]
/-- Attributes; whether an empty list is nil is not told. -/
structure At where
  org : Int
  path : List Seg
  nxt : Int
  hm : Bool
  med : Int
  hp : Bool
  prf : Int
  atm : Bool
  cms : List Int
def At.c (a : At) : List AV := [.int .i64 a.org, .sl 2 (a.path.map Seg.c), .int .u32 a.nxt, .bool a.hm, .int .u32 a.med, .bool a.hp, .int .u32 a.prf, .bool a.atm, .sl 1 (a.cms.map cU)]
def Seg.ok (s : Seg) : Prop := s.ls.length ≤ 1000000
def At.ok (a : At) : Prop := a.path.length ≤ 1000000 ∧ (∀ s ∈ a.path, s.ok) ∧ a.cms.length ≤ 1000000

theorem c59 (zs : List Int) (h : zs.length ≤ 1000000000) : Pur Try.prog 59 [.sl 1 (zs.map cU)] (.sl 1 (zs.map cU)) := by
  intro σ
  refine calls_of Tst.F59 (by simp [Tst.F59, Fn.mkX]) ?_
  simp only [Tst.F59, Fn.mkX, Tst.b59]
  simp only [↓vcPre, ↓wit_get, ↓reduceIte, vcPost, vcStd, Nat.reduceEqDiff, reduceCtorEq, Nat.reduceAdd, Nat.reduceLeDiff, Int.reduceLT, Int.reduceLE, ↓u_setN]
  show nilqwp false (.sl 1 (zs.map cU)) _
  refine u_nq_s fun b hb => ?_
  cases b with
  | true =>
    have hl : zs = [] := by
      cases zs with
      | nil => rfl
      | cons x r => have := hb (by simp); cases this
    subst hl
    simp only [↓vcPre, ↓wit_get, ↓reduceIte, vcPost, vcStd, Nat.reduceEqDiff, reduceCtorEq, Nat.reduceAdd, Nat.reduceLeDiff, Int.reduceLT, Int.reduceLE, ↓u_setN]
    exact EndQ.nil1 1 σ rfl (Store.sub_refl _) ⟨rfl, rfl⟩
  | false =>
    simp only [↓vcPre, ↓wit_get, ↓reduceIte, vcPost, vcStd, Nat.reduceEqDiff, reduceCtorEq, Nat.reduceAdd, Nat.reduceLeDiff, Int.reduceLT, Int.reduceLE, ↓u_setN]
    refine AllocQ.i0 fun i hi => ?_
    simp only [↓vcPre, ↓wit_get, ↓reduceIte, vcPost, vcStd, Nat.reduceEqDiff, reduceCtorEq, Nat.reduceAdd, Nat.reduceLeDiff, Int.reduceLT, Int.reduceLE, ↓u_setN]
    refine app_os (slc_os0 (Store.set_same _ _ _) rfl) (y := .sl 1 (zs.map cU)) slc_sl (by simp; omega) fun j hj => ?_
    simp only [List.nil_append, List.length_nil, Nat.zero_add]
    refine EndQ.frz j 1 0 _ (zs.map cU) σ rfl (Store.set_same _ _ _) (by simp) (sub_del_set hi hj) ⟨rfl, ?_⟩
    rw [List.drop_zero, List.take_of_length_le (by simp)]

theorem c32 (p : List Seg) (h : p.length ≤ 1000000) (ho : ∀ s ∈ p, s.ok) : Pur Try.prog 32 [.sl 2 (p.map Seg.c)] (.sl 2 (p.map Seg.c)) := by
  intro σ
  refine calls_of Tst.F32 (by simp [Tst.F32, Fn.mkX]) ?_
  simp only [Tst.F32, Fn.mkX, Tst.b32]
  simp only [↓vcPre, ↓wit_get, ↓reduceIte, vcPost, vcStd, Nat.reduceEqDiff, reduceCtorEq, Nat.reduceAdd, Nat.reduceLeDiff, Int.reduceLT, Int.reduceLE, ↓u_setN]
  refine LoopQ.inv (S := Nat × AV × Store) (fun q => [(3, q.2.1), (6, .sl 2 (p.map Seg.c)), (7, .int .i64 (p.length : Int)), (8, .int .i64 (q.1 : Int))]) (fun q => q.2.2)
    (fun q => q.1 ≤ p.length ∧ Store.sub σ q.2.2 ∧ Own 2 σ ((p.take q.1).map Seg.c) q.2.1 q.2.2) (fun q => p.length + 1 - q.1) (0, .nils, σ) rfl (Store.sub_refl _) ⟨by simp only; omega, Store.sub_refl _, .nil⟩ ?_
  rintro ⟨k, v, s⟩ ⟨hk, hs, ho'⟩
  simp only at hk hs ho'
  simp only [↓vcPre, ↓wit_get, ↓reduceIte, vcPost, vcStd, Nat.reduceEqDiff, reduceCtorEq, Nat.reduceAdd, Nat.reduceLeDiff, Int.reduceLT, Int.reduceLE, ↓u_setN]
  refine ⟨fun c1 => ?_, fun c1 => ?_⟩
  · have ek : IntKind.i64.wrap ((k : Int) + 1) = ((k + 1 : Nat) : Int) := by rw [wrap64 (by unfold I64; omega)]; omega
    refine ⟨c1, by simp [Seg.c], ?_⟩
    refine AllocQ.i0 fun i hi => ?_
    simp only [Seg.c, Store.set_set, ↓vcPre, ↓wit_get, ↓reduceIte, vcPost, vcStd, Nat.reduceEqDiff, reduceCtorEq, Nat.reduceAdd, Nat.reduceLeDiff, Int.reduceLT, Int.reduceLE, ↓u_setN]
    refine (c59 _ (by have := ho _ (List.getElem_mem c1); unfold Seg.ok at this; omega)).q' ?_
    simp only [Store.set_set, ↓vcPre, ↓wit_get, ↓reduceIte, vcPost, vcStd, Nat.reduceEqDiff, reduceCtorEq, Nat.reduceAdd, Nat.reduceLeDiff, Int.reduceLT, Int.reduceLE, ↓u_setN]
    refine AllocQ.i1 fun j hj1 hj2 hj => ?_
    simp only [↓vcPre, ↓wit_get, ↓reduceIte, vcPost, vcStd, Nat.reduceEqDiff, reduceCtorEq, Nat.reduceAdd, Nat.reduceLeDiff, Int.reduceLT, Int.reduceLE, ↓u_setN]
    refine Own.app (τ := σ) (L := (p.take k).map Seg.c) (Store.sub_trans hs (sub_set2 hi hj hj1)) (ho'.mono (sub_set2 hi hj hj1)) (slc_os0 (Store.set_same _ _ _) rfl) (by simp; omega) fun v' s' hs' ho'' => ?_
    rw [ek]
    refine NextQ.to (k + 1, v', s') rfl (Store.sub_refl _) (by simp only; omega) ⟨by simp only; omega, hs', ?_⟩
    simp only [List.take_add_one, List.getElem?_eq_getElem c1, Option.toList_some, List.map_append, List.map_cons, List.map_nil]
    exact ho''
  · have hkl : p.take k = p := List.take_of_length_le (by omega)
    rw [hkl] at ho'
    exact EndQ.own rfl ho' hs ⟨rfl, rfl⟩
end Go.Am

/- S90C -/
namespace Go.Am.Tsc
open Go.Proofs
/-- signpost/attr.Canon -/
def t17_15 : BC := .seq (.ops [⟨some 15, none, .pure (.fld 8), [.t 1]⟩, ⟨some 16, none, .load (.ld 1 false), [.t 15]⟩, ⟨some 17, none, .loud (.call 35), [.t 16]⟩, ⟨some 18, none, .loud (.call 34), [.t 17]⟩, ⟨some 19, none, .loud (.call 33), [.t 18]⟩, ⟨some 20, none, .pure (.fld 8), [.t 1]⟩, ⟨none, none, .loud (.st 1), [.t 20, .t 19]⟩] [1, 2]) (.seq (.ops [⟨some 21, none, .load (.ld 9 true), [.t 1]⟩, ⟨none, none, .loud (.st 9), [.t 2, .t 21]⟩] [2]) (.ret))
def b17 : BC := .seq (.ops [⟨some 1, none, .alloc (.box), [.t 0]⟩, ⟨some 2, none, .alloc (.alloc [(.int .i64 0), .nils, (.int .u32 0), (.bool false), (.int .u32 0), (.bool false), (.int .u32 0), (.bool false), .nils]), []⟩] [1, 2]) (.seq (.ops [⟨some 3, none, .pure (.fld 1), [.t 1]⟩, ⟨some 4, none, .load (.ld 1 false), [.t 3]⟩, ⟨some 5, none, .loud (.call 32), [.t 4]⟩, ⟨some 6, none, .pure (.fld 1), [.t 1]⟩, ⟨none, none, .loud (.st 1), [.t 6, .t 5]⟩] [1, 2]) (.seq (.seq (.ops [⟨some 7, none, .pure (.fld 3), [.t 1]⟩, ⟨some 8, none, .load (.ld 1 false), [.t 7]⟩, ⟨some 9, none, .pure (.not), [.t 8]⟩] [1, 2, 9]) (.cond (.t 9) (.ops [⟨some 10, none, .pure (.fld 4), [.t 1]⟩, ⟨none, none, .loud (.st 1), [.t 10, .c (.int .u32 0)]⟩] [1, 2]) (.skip))) (.seq (.seq (.ops [⟨some 11, none, .pure (.fld 5), [.t 1]⟩, ⟨some 12, none, .load (.ld 1 false), [.t 11]⟩, ⟨some 13, none, .pure (.not), [.t 12]⟩] [1, 2, 13]) (.cond (.t 13) (.ops [⟨some 14, none, .pure (.fld 6), [.t 1]⟩, ⟨none, none, .loud (.st 1), [.t 14, .c (.int .u32 0)]⟩] [1, 2]) (.skip))) t17_15)))
def F17 : Fn Try.prog 17 := Fn.mkX false b17 [.c 2 9 true] 22 Try.f17 _ Try.func17 (by decide) rfl Try.ntmps17 (by kernel_rfl) (by kernel_rfl)
end Go.Am.Tsc

/- A3 -/
namespace Go.Am
open Go.Proofs Go.Sort

def leI (a b : Int) : Bool := decide (a ≤ b)
/-- Numbers, rising, each once. -/
def canonC (l : List Int) : List Int := ddA (l.mergeSort leI)
theorem sort_one {L zs : List Int} (hp : L.Perm zs) (hs : L.Pairwise (· ≤ ·)) : L = zs.mergeSort leI := by
  have h1 : (zs.mergeSort leI).Pairwise (· ≤ ·) := by
    have := List.pairwise_mergeSort (le := leI) (fun a b c h1 h2 => by simp only [leI, decide_eq_true_eq] at *; omega) (fun a b => by simp only [leI, Bool.or_eq_true, decide_eq_true_eq]; omega) zs
    exact this.imp fun {a b} h => by simpa [leI] using h
  refine List.Perm.eq_of_pairwise (le := (· ≤ ·)) (fun a b _ _ h1 h2 => by omega) hs h1 (hp.trans (List.mergeSort_perm zs leI).symm)
theorem canonC_of {L zs : List Int} (hp : L.Perm zs) (hs : L.Pairwise (· ≤ ·)) : ddA L = canonC zs := by rw [canonC, ← sort_one hp hs]
theorem ddA_len : ∀ l : List Int, (ddA l).length ≤ l.length
  | [] => by simp [ddA]
  | [a] => by simp [ddA]
  | a :: b :: r => by
    have := ddA_len (b :: r)
    simp only [ddA]
    split <;> simp at * <;> omega
theorem canonC_len (l : List Int) : (canonC l).length ≤ l.length := by
  have := ddA_len (l.mergeSort leI)
  rw [List.length_mergeSort] at this
  exact this
def canonA (a : At) : At := { a with med := if a.hm then a.med else 0, prf := if a.hp then a.prf else 0, cms := canonC a.cms }
/-- The cells, with what is owned for the last. -/
def At.cO (a : At) (v : AV) : List AV := [.int .i64 a.org, .sl 2 (a.path.map Seg.c), .int .u32 a.nxt, .bool a.hm, .int .u32 a.med, .bool a.hp, .int .u32 a.prf, .bool a.atm, v]

theorem s33n (σ : Store) : ACalls Try.prog 33 [.nils] σ (fun r s => r = .nils ∧ s = σ) := by
  refine calls_of Tst.F33 (by simp [Tst.F33, Fn.mkX]) ?_
  simp only [Tst.F33, Fn.mkX, Tst.b33]
  simp only [↓vcPre, ↓wit_get, ↓reduceIte, vcPost, vcStd, Nat.reduceEqDiff, reduceCtorEq, Nat.reduceAdd, Nat.reduceLeDiff, Int.reduceLT, Int.reduceLE, ↓u_setN]
  exact EndQ.to _ _ rfl (Store.sub_refl _) ⟨rfl, rfl⟩

theorem sub_set_both {σ τ : Store} {g : Nat} {o : Obj} (h : Store.sub σ τ) : Store.sub (σ.set g o) (τ.set g o) := fun i q hi => by
  simp only [Store.set] at hi ⊢
  split at hi
  · rename_i e; rw [if_pos e]; exact hi
  · rename_i e; rw [if_neg e]; exact h i q hi
/-- The end of Canon, of whatever lies in its box. -/
theorem tail_canon (a : At) (hc : a.cms.length ≤ 1000000) {σ t : Store} {b r : Nat} {z : List AV} {n rr : Env → Store → Prop} {x : Nat → Env → Store → Prop} (hb : t b = some (.box a.c)) (hr : t r = some (.box z)) (hz : z.length = 9) (hbr : ¬ b = r) (hsub : Store.sub σ t) (hσb : σ b = none) (hσr : σ r = none)
    (h0 : ∀ s, canonC a.cms = [] → Store.sub σ s → s r = some (.box (({ a with cms := [] } : At).cO .nils)) → rr [(2, .ptr r 0)] s)
    (h1 : ∀ s g, ∀ M : List Int, σ g = none → (canonC a.cms).length ≤ M.length → M.take (canonC a.cms).length = canonC a.cms → Store.sub (σ.set g (.arr 1 (M.map cU))) s → s r = some (.box (({ a with cms := [] } : At).cO (.os g 1 0 (canonC a.cms).length))) → rr [(2, .ptr r 0)] s) :
    bwp Try.prog Tsc.t17_15 [(1, .ptr b 0), (2, .ptr r 0)] t n rr x := by
  simp only [Tsc.t17_15]
  have hrb : ¬ r = b := fun e => hbr e.symm
  simp only [hb, At.c, ↓vcPre, ↓wit_get, ↓reduceIte, vcPost, vcStd, Nat.reduceEqDiff, reduceCtorEq, Nat.reduceAdd, Nat.reduceLeDiff, Int.reduceLT, Int.reduceLE, ↓u_setN]
  refine (s35 _ ⟨rfl, rfl⟩ t).Q ?_
  rintro f s ⟨i, hi, rfl, rfl⟩
  have hib : ¬ b = i := fun e => by subst e; rw [hb] at hi; cases hi
  have hir : ¬ r = i := fun e => by subst e; rw [hr] at hi; cases hi
  simp only [hib, hir, ↓vcPre, ↓wit_get, ↓reduceIte, vcPost, vcStd, Nat.reduceEqDiff, reduceCtorEq, Nat.reduceAdd, Nat.reduceLeDiff, Int.reduceLT, Int.reduceLE, ↓u_setN]
  refine (s34 (Store.set_same _ _ _) (zs := a.cms) (by simp [slc]) (by omega)).Q ?_
  rintro f s (⟨hz0, rfl, rfl⟩ | ⟨hz0, g, L, hg, hp, hl, rfl, rfl⟩)
  · simp only [hib, hir, ↓vcPre, ↓wit_get, ↓reduceIte, vcPost, vcStd, Nat.reduceEqDiff, reduceCtorEq, Nat.reduceAdd, Nat.reduceLeDiff, Int.reduceLT, Int.reduceLE, ↓u_setN]
    refine (s33n _).Q ?_
    rintro f s ⟨rfl, rfl⟩
    simp only [hib, hir, hb, hr, hbr, hrb, At.c, hz, ↓vcPre, ↓wit_get, ↓reduceIte, vcPost, vcStd, Nat.reduceEqDiff, reduceCtorEq, Nat.reduceAdd, Nat.reduceLeDiff, Int.reduceLT, Int.reduceLE, ↓u_setN]
    rw [splice_all _ _ (by simp [hz]), wit_some]
    refine h0 _ (by rw [hz0]; simp [canonC, ddA]) (sub_upd' (sub_upd' (sub_upd' hsub (sub_none hsub hi)) hσb) hσr) (Store.set_same _ _ _)
  · have hgb : ¬ b = g := fun e => by subst e; rw [Store.set_ne _ _ hib, hb] at hg; cases hg
    have hgr : ¬ r = g := fun e => by subst e; rw [Store.set_ne _ _ hir, hr] at hg; cases hg
    simp only [hib, hir, ↓vcPre, ↓wit_get, ↓reduceIte, vcPost, vcStd, Nat.reduceEqDiff, reduceCtorEq, Nat.reduceAdd, Nat.reduceLeDiff, Int.reduceLT, Int.reduceLE, ↓u_setN]
    refine (s33 (Store.set_same _ _ _) (by rw [hp.length_eq]; omega)).Q ?_
    rintro f s ⟨M, m1, m2, m3, rfl, rfl⟩
    simp only [hib, hir, hb, hr, hbr, hrb, hgb, hgr, At.c, hz, ↓vcPre, ↓wit_get, ↓reduceIte, vcPost, vcStd, Nat.reduceEqDiff, reduceCtorEq, Nat.reduceAdd, Nat.reduceLeDiff, Int.reduceLT, Int.reduceLE, ↓u_setN]
    rw [splice_all _ _ (by simp [hz]), wit_some]
    have hcn := canonC_of hp hl
    have hσi := sub_none hsub hi
    have hσg : σ g = none := by
      cases h : σ g with
      | none => rfl
      | some o => rw [sub_upd' hsub hσi g o h] at hg; cases hg
    rw [hcn] at m2 m3 ⊢
    refine h1 _ g M hσg (by omega) m2 ?_ (Store.set_same _ _ _)
    rw [Store.set_set]
    exact sub_upd' (sub_upd' (sub_set_both (sub_upd' hsub hσi)) (by rw [Store.set_ne _ _ hgb]; exact hσb)) (by rw [Store.set_ne _ _ hgr]; exact hσr)

/-- Canon, with a list of its own for the communities. -/
theorem s17 (a : At) (h : a.ok) (σ : Store) : ACalls Try.prog 17 [.agg a.c] σ (fun r s => (canonC a.cms = [] ∧ r = .agg ((canonA a).cO .nils) ∧ s = σ) ∨
    ∃ g, ∃ M : List Int, σ g = none ∧ (canonC a.cms).length ≤ M.length ∧ M.take (canonC a.cms).length = canonC a.cms ∧ r = .agg ((canonA a).cO (.os g 1 0 (canonC a.cms).length)) ∧ s = σ.set g (.arr 1 (M.map cU))) := by
  refine calls_of Tsc.F17 (by simp [Tsc.F17, Fn.mkX]) ?_
  simp only [Tsc.F17, Fn.mkX, Tsc.b17]
  simp only [At.c, ↓vcPre, ↓wit_get, ↓reduceIte, vcPost, vcStd, Nat.reduceEqDiff, reduceCtorEq, Nat.reduceAdd, Nat.reduceLeDiff, Int.reduceLT, Int.reduceLE, ↓u_setN]
  refine AllocQ.i0 fun b hb => ?_
  simp only [At.c, ↓vcPre, ↓wit_get, ↓reduceIte, vcPost, vcStd, Nat.reduceEqDiff, reduceCtorEq, Nat.reduceAdd, Nat.reduceLeDiff, Int.reduceLT, Int.reduceLE, ↓u_setN]
  refine AllocQ.i1 fun r hr1 hr2 hr => ?_
  simp only [hr1, hr2, ↓vcPre, ↓wit_get, ↓reduceIte, vcPost, vcStd, Nat.reduceEqDiff, reduceCtorEq, Nat.reduceAdd, Nat.reduceLeDiff, Int.reduceLT, Int.reduceLE, ↓u_setN]
  refine (c32 a.path h.1 h.2.1).Q ?_
  have hsb : ∀ X Y Z : Obj, Store.sub σ (((σ.set b X).set r Y).set b Z) := fun X Y Z => sub_upd' (sub_set2 hb hr hr1) hb
  cases hm : a.hm <;> cases hp : a.hp
  all_goals
    simp only [hr1, hr2, Store.set_set, hm, hp, ↓vcPre, ↓wit_get, ↓reduceIte, vcPost, vcStd, Nat.reduceEqDiff, reduceCtorEq, Nat.reduceAdd, Nat.reduceLeDiff, Int.reduceLT, Int.reduceLE, ↓u_setN]
    refine tail_canon { a with med := if a.hm then a.med else 0, prf := if a.hp then a.prf else 0 } h.2.2 (by simp [At.c, hm, hp]) (by rw [Store.set_ne _ _ hr1, Store.set_same]) rfl hr2 (hsb _ _ _) hb hr ?_ ?_
    · intro s hcz hss hsr
      refine EndQ.to σ (.agg ((canonA a).cO .nils)) ?_ hss (.inl ⟨hcz, rfl, rfl⟩)
      show Env.res [(2, AV.ptr r 0)] s [RS.c 2 9 true] = _
      simp only [hsr, At.cO, canonA, hm, hp, ↓vcPre, ↓wit_get, ↓reduceIte, vcPost, vcStd, Nat.reduceEqDiff, reduceCtorEq, Nat.reduceAdd, Nat.reduceLeDiff, Int.reduceLT, Int.reduceLE, ↓u_setN]
    · intro s g M m1 m2 m3 m4 hsr
      refine EndQ.to (σ.set g (.arr 1 (M.map cU))) (.agg ((canonA a).cO (.os g 1 0 (canonC a.cms).length))) ?_ m4 (.inr ⟨g, M, m1, m2, m3, rfl, rfl⟩)
      show Env.res [(2, AV.ptr r 0)] s [RS.c 2 9 true] = _
      simp only [hsr, At.cO, canonA, hm, hp, ↓vcPre, ↓wit_get, ↓reduceIte, vcPost, vcStd, Nat.reduceEqDiff, reduceCtorEq, Nat.reduceAdd, Nat.reduceLeDiff, Int.reduceLT, Int.reduceLE, ↓u_setN]
/-- Canon, as a value. -/
theorem c17 (a : At) (h : a.ok) : Pur Try.prog 17 [.agg a.c] (.agg (canonA a).c) := by
  intro σ
  refine (s17 a h σ).weakRes ?_
  rintro r s (⟨hz, rfl, rfl⟩ | ⟨g, M, m1, m2, m3, rfl, rfl⟩)
  · refine Weak.agg (WeakL.nil 8 1 rfl (WeakL.pure ⟨?_, rfl, ?_⟩))
    · intro c hc
      simp [At.cO] at hc
      rcases hc with rfl | rfl | rfl | rfl | rfl | rfl | rfl | rfl | rfl <;> rfl
    · simp [At.cO, At.c, canonA, hz]
  · refine Weak.agg (WeakL.freeze 8 rfl (Store.set_same _ _ _) (by simpa using m2) (WeakL.forget (fun i o hi => ?_) (WeakL.pure ⟨?_, rfl, ?_⟩)))
    · have : i ≠ g := fun e => by subst e; rw [m1] at hi; cases hi
      rw [Store.del_ne _ this, Store.set_ne _ _ this]; exact hi
    · intro c hc
      simp [At.cO] at hc
      rcases hc with rfl | rfl | rfl | rfl | rfl | rfl | rfl | rfl | rfl <;> rfl
    · simp only [At.cO, At.c, canonA, List.set_cons_succ, List.set_cons_zero, List.drop_zero, ← List.map_take, m3]
end Go.Am

/- A4 -/
namespace Go.Am
open Go.Proofs Go.Sort

theorem c78 (x : Int) : Pur Try.prog 78 [.int .i64 x] (.bool false) := by
  refine pur_of Tst.F78 (by simp [Tst.F78, Fn.mkX]) fun σ => ?_
  simp only [Tst.F78, Fn.mkX, Tst.b78]
  simp only [↓vcPre, ↓wit_get, ↓reduceIte, vcPost, vcStd, Nat.reduceEqDiff, reduceCtorEq, Nat.reduceAdd, Nat.reduceLeDiff, Int.reduceLT, Int.reduceLE, ↓u_setN]
theorem c54 (x y : Int) : Pur Try.prog 54 [.int .i64 x, .int .i64 y] (.int .i64 (cmpI x y)) := by
  refine pur_of Tst.F54 (by simp [Tst.F54, Fn.mkX]) fun σ => ?_
  simp only [Tst.F54, Fn.mkX, Tst.b54]
  simp only [↓vcPre, ↓wit_get, ↓reduceIte, vcPost, vcStd, Nat.reduceEqDiff, reduceCtorEq, Nat.reduceAdd, Nat.reduceLeDiff, Int.reduceLT, Int.reduceLE, ↓u_setN]
  refine (c78 x).Q ?_
  simp only [↓vcPre, ↓wit_get, ↓reduceIte, vcPost, vcStd, Nat.reduceEqDiff, reduceCtorEq, Nat.reduceAdd, Nat.reduceLeDiff, Int.reduceLT, Int.reduceLE, ↓u_setN]
  refine (c78 y).Q ?_
  simp only [↓vcPre, ↓wit_get, ↓reduceIte, vcPost, vcStd, Nat.reduceEqDiff, reduceCtorEq, Nat.reduceAdd, Nat.reduceLeDiff, Int.reduceLT, Int.reduceLE, ↓u_setN]
  refine ⟨fun h1 => by simp [cmpI, h1], fun h1 => ⟨fun h2 => by simp [cmpI, h1, h2], fun h2 => by simp [cmpI, h1, h2]⟩⟩
theorem c56 (x y : Int) : Pur Try.prog 56 [.int .u32 x, .int .u32 y] (.int .i64 (cmpI x y)) := by
  refine pur_of Tst.F56 (by simp [Tst.F56, Fn.mkX]) fun σ => ?_
  simp only [Tst.F56, Fn.mkX, Tst.b56]
  simp only [↓vcPre, ↓wit_get, ↓reduceIte, vcPost, vcStd, Nat.reduceEqDiff, reduceCtorEq, Nat.reduceAdd, Nat.reduceLeDiff, Int.reduceLT, Int.reduceLE, ↓u_setN]
  refine (c81 x).Q ?_
  simp only [↓vcPre, ↓wit_get, ↓reduceIte, vcPost, vcStd, Nat.reduceEqDiff, reduceCtorEq, Nat.reduceAdd, Nat.reduceLeDiff, Int.reduceLT, Int.reduceLE, ↓u_setN]
  refine (c81 y).Q ?_
  simp only [↓vcPre, ↓wit_get, ↓reduceIte, vcPost, vcStd, Nat.reduceEqDiff, reduceCtorEq, Nat.reduceAdd, Nat.reduceLeDiff, Int.reduceLT, Int.reduceLE, ↓u_setN]
  refine ⟨fun h1 => by simp [cmpI, h1], fun h1 => ⟨fun h2 => by simp [cmpI, h1, h2], fun h2 => by simp [cmpI, h1, h2]⟩⟩
def truthF (b : Bool) : Int := if b then 1 else 0
theorem c57 (b : Bool) : Pur Try.prog 57 [.bool b] (.int .i64 (truthF b)) := by
  refine pur_of Tst.F57 (by simp [Tst.F57, Fn.mkX]) fun σ => ?_
  simp only [Tst.F57, Fn.mkX, Tst.b57]
  cases b <;> simp only [↓vcPre, ↓wit_get, ↓reduceIte, vcPost, vcStd, Nat.reduceEqDiff, reduceCtorEq, Nat.reduceAdd, Nat.reduceLeDiff, Int.reduceLT, Int.reduceLE, ↓u_setN] <;> rfl
/-- The first that is not 0. -/
def orL : List Int → Int
  | [] => 0
  | x :: r => if x = 0 then orL r else x
def cI (x : Int) : List AV := [.int .i64 x]
theorem s53 (xs : List Int) (hx : xs.length < 1000) {σ : Store} {i : Nat} (hi : σ i = some (.arr 1 (xs.map cI))) : ACalls Try.prog 53 [.os i 1 0 xs.length] σ (fun r s => s = σ ∧ r = .int .i64 (orL xs)) := by
  refine calls_of Tst.F53 (by simp [Tst.F53, Fn.mkX]) ?_
  simp only [Tst.F53, Fn.mkX, Tst.b53]
  simp only [hi, ↓vcPre, ↓wit_get, ↓reduceIte, vcPost, vcStd, Nat.reduceEqDiff, reduceCtorEq, Nat.reduceAdd, Nat.reduceLeDiff, Int.reduceLT, Int.reduceLE, ↓u_setN]
  refine LoopQ.inv (S := Nat) (fun k => [(3, .int .i64 0), (6, .os i 1 0 xs.length), (7, .int .i64 (xs.length : Int)), (8, .int .i64 (k : Int))]) (fun _ => σ) (fun k => k ≤ xs.length ∧ orL (xs.drop k) = orL xs) (fun k => xs.length + 1 - k) 0 rfl (Store.sub_refl _) ⟨by omega, rfl⟩ ?_
  rintro k ⟨hk, ho⟩
  simp only [hi, ↓vcPre, ↓wit_get, ↓reduceIte, vcPost, vcStd, Nat.reduceEqDiff, reduceCtorEq, Nat.reduceAdd, Nat.reduceLeDiff, Int.reduceLT, Int.reduceLE, ↓u_setN]
  refine ⟨fun c1 => ?_, fun c1 => ?_⟩
  · have ek : IntKind.i64.wrap ((k : Int) + 1) = ((k + 1 : Nat) : Int) := by rw [wrap64 (by unfold I64; omega)]; omega
    rw [List.drop_eq_getElem_cons c1] at ho
    simp only [orL] at ho
    simp only [Nat.zero_add]
    refine ⟨c1, c1, by simp [cI], ?_⟩
    simp only [cI, Nat.zero_add, ↓vcPre, ↓wit_get, ↓reduceIte, vcPost, vcStd, Nat.reduceEqDiff, reduceCtorEq, Nat.reduceAdd, Nat.reduceLeDiff, Int.reduceLT, Int.reduceLE, ↓u_setN]
    refine ⟨fun g1 => ?_, fun g1 => ?_⟩
    · rw [if_neg g1] at ho
      exact EndQ.to _ _ rfl (Store.sub_refl _) ⟨rfl, by rw [ho]⟩
    · rw [if_pos g1] at ho
      rw [ek]
      exact NextQ.to (k + 1) rfl (Store.sub_refl _) (by omega) ⟨by omega, ho⟩
  · rw [List.drop_eq_nil_of_le (by omega)] at ho
    exact EndQ.to _ _ rfl (Store.sub_refl _) ⟨rfl, by rw [← ho]; rfl⟩
/-- Lists held against one another. -/
def cmpG {α : Type} (f : α → α → Int) : List α → List α → Int
  | [], [] => 0
  | [], _ :: _ => -1
  | _ :: _, [] => 1
  | a :: r, b :: s => if f a b = 0 then cmpG f r s else f a b
theorem c58 (l m : List Int) (hl : l.length ≤ 1000000) (hm : m.length ≤ 1000000) : Pur Try.prog 58 [.sl 1 (l.map cU), .sl 1 (m.map cU)] (.int .i64 (cmpG cmpI l m)) := by
  refine pur_of Tst.F58 (by simp [Tst.F58, Fn.mkX]) fun σ => ?_
  simp only [Tst.F58, Fn.mkX, Tst.b58]
  simp only [↓vcPre, ↓wit_get, ↓reduceIte, vcPost, vcStd, Nat.reduceEqDiff, reduceCtorEq, Nat.reduceAdd, Nat.reduceLeDiff, Int.reduceLT, Int.reduceLE, ↓u_setN]
  refine LoopQ.inv (S := Nat) (fun k => [(0, .sl 1 (l.map cU)), (1, .sl 1 (m.map cU)), (9, .sl 1 (l.map cU)), (10, .int .i64 (l.length : Int)), (11, .int .i64 (k : Int))]) (fun _ => σ) (fun k => k ≤ l.length ∧ k ≤ m.length ∧ cmpG cmpI (l.drop k) (m.drop k) = cmpG cmpI l m) (fun k => l.length + 1 - k) 0 rfl (Store.sub_refl _) ⟨by omega, by omega, rfl⟩ ?_
  rintro k ⟨hk, hk2, ho⟩
  simp only [↓vcPre, ↓wit_get, ↓reduceIte, vcPost, vcStd, Nat.reduceEqDiff, reduceCtorEq, Nat.reduceAdd, Nat.reduceLeDiff, Int.reduceLT, Int.reduceLE, ↓u_setN]
  refine ⟨fun c1 => ?_, fun c1 => ?_⟩
  · have ek : IntKind.i64.wrap ((k : Int) + 1) = ((k + 1 : Nat) : Int) := by rw [wrap64 (by unfold I64; omega)]; omega
    rw [List.drop_eq_getElem_cons c1] at ho
    refine ⟨c1, by simp [cU], ?_⟩
    simp only [cU, ↓vcPre, ↓wit_get, ↓reduceIte, vcPost, vcStd, Nat.reduceEqDiff, reduceCtorEq, Nat.reduceAdd, Nat.reduceLeDiff, Int.reduceLT, Int.reduceLE, ↓u_setN]
    refine ⟨fun g1 => ?_, fun g1 => ?_⟩
    · rw [show List.drop k m = [] from List.drop_eq_nil_of_le (by omega)] at ho
      rw [← ho]; rfl
    · rw [List.drop_eq_getElem_cons (l := m) (by omega)] at ho
      simp only [cmpG] at ho
      refine ⟨by omega, ?_⟩
      refine (c56 _ _).Q ?_
      simp only [↓vcPre, ↓wit_get, ↓reduceIte, vcPost, vcStd, Nat.reduceEqDiff, reduceCtorEq, Nat.reduceAdd, Nat.reduceLeDiff, Int.reduceLT, Int.reduceLE, ↓u_setN]
      refine ⟨fun g2 => ?_, fun g2 => ?_⟩
      · rw [if_neg g2] at ho
        rw [ho]
      · rw [if_pos g2] at ho
        rw [ek]
        exact NextQ.to (k + 1) rfl (Store.sub_refl _) (by omega) ⟨by omega, by omega, ho⟩
  · rw [show List.drop k l = [] from List.drop_eq_nil_of_le (by omega)] at ho
    refine ⟨fun g1 => ?_, fun g1 => ?_⟩
    · rw [List.drop_eq_getElem_cons (l := m) (by omega)] at ho
      rw [← ho]; rfl
    · rw [show List.drop k m = [] from List.drop_eq_nil_of_le (by omega)] at ho
      rw [← ho]; rfl
theorem u_mks3 {k : IntKind} {a b c : Int} : alv (.mksl 1 3) [.int k a, .int k b, .int k c] = some (.arr 1 [[.int k a], [.int k b], [.int k c]], fun id => .os id 1 0 3) := by rfl
theorem u_mks9 {k : IntKind} {a b c d e f g h i : Int} : alv (.mksl 1 9) [.int k a, .int k b, .int k c, .int k d, .int k e, .int k f, .int k g, .int k h, .int k i] = some (.arr 1 [[.int k a], [.int k b], [.int k c], [.int k d], [.int k e], [.int k f], [.int k g], [.int k h], [.int k i]], fun id => .os id 1 0 9) := by rfl
def cmpSeg (a b : Seg) : Int := orL [cmpI a.kind b.kind, cmpI a.ls.length b.ls.length, cmpG cmpI a.ls b.ls]
theorem c80 (a b : Seg) (ha : a.ok) (hb : b.ok) : Pur Try.prog 80 [.agg a.c, .agg b.c] (.int .i64 (cmpSeg a b)) := by
  refine pur_of Tst.F80 (by simp [Tst.F80, Fn.mkX]) fun σ => ?_
  simp only [Tst.F80, Fn.mkX, Tst.b80, Seg.c]
  simp only [↓vcPre, ↓wit_get, ↓reduceIte, vcPost, vcStd, Nat.reduceEqDiff, reduceCtorEq, Nat.reduceAdd, Nat.reduceLeDiff, Int.reduceLT, Int.reduceLE, ↓u_setN]
  refine AllocQ.i0 fun i hi => ?_
  simp only [↓vcPre, ↓wit_get, ↓reduceIte, vcPost, vcStd, Nat.reduceEqDiff, reduceCtorEq, Nat.reduceAdd, Nat.reduceLeDiff, Int.reduceLT, Int.reduceLE, ↓u_setN]
  refine AllocQ.i1 fun j hj1 hj2 hj => ?_
  simp only [*, ↓vcPre, ↓wit_get, ↓reduceIte, vcPost, vcStd, Nat.reduceEqDiff, reduceCtorEq, Nat.reduceAdd, Nat.reduceLeDiff, Int.reduceLT, Int.reduceLE, ↓u_setN]
  have hz : ∀ n : Nat, n ≤ 1000000 → IntKind.i64.wrap (n : Int) = n := fun n hn => wrap64 (by unfold I64; omega)
  refine (c54 _ _).Q ?_
  simp only [*, ↓vcPre, ↓wit_get, ↓reduceIte, vcPost, vcStd, Nat.reduceEqDiff, reduceCtorEq, Nat.reduceAdd, Nat.reduceLeDiff, Int.reduceLT, Int.reduceLE, ↓u_setN]
  refine (c54 _ _).Q ?_
  simp only [*, ↓vcPre, ↓wit_get, ↓reduceIte, vcPost, vcStd, Nat.reduceEqDiff, reduceCtorEq, Nat.reduceAdd, Nat.reduceLeDiff, Int.reduceLT, Int.reduceLE, ↓u_setN]
  refine (c58 _ _ ha hb).Q ?_
  simp only [u_mks3, ↓vcPre, ↓wit_get, ↓reduceIte, vcPost, vcStd, Nat.reduceEqDiff, reduceCtorEq, Nat.reduceAdd, Nat.reduceLeDiff, Int.reduceLT, Int.reduceLE, ↓u_setN]
  refine AllocQ.i2 fun g hg1 hg2 hg3 hg4 hg => ?_
  simp only [↓vcPre, ↓wit_get, ↓reduceIte, vcPost, vcStd, Nat.reduceEqDiff, reduceCtorEq, Nat.reduceAdd, Nat.reduceLeDiff, Int.reduceLT, Int.reduceLE, ↓u_setN]
  refine (s53 [cmpI a.kind b.kind, cmpI a.ls.length b.ls.length, cmpG cmpI a.ls b.ls] (by simp) (Store.set_same _ _ _)).Q ?_
  rintro r s ⟨h1, rfl⟩
  subst h1
  refine ⟨Store.sub_refl _, ?_⟩
  simp only [↓vcPre, ↓wit_get, ↓reduceIte, vcPost, vcStd, Nat.reduceEqDiff, reduceCtorEq, Nat.reduceAdd, Nat.reduceLeDiff, Int.reduceLT, Int.reduceLE, ↓u_setN]
  exact ⟨rfl, sub_upd' (sub_set2 hi hj hj1) hg⟩
def cmpPath (a b : List Seg) : Int := cmpG cmpSeg a b
theorem s79 (l m : List Seg) (hl : l.length ≤ 1000000) (hm : m.length ≤ 1000000) (hlo : ∀ s ∈ l, s.ok) (hmo : ∀ s ∈ m, s.ok) : Pur Try.prog 79 [.sl 2 (l.map Seg.c), .sl 2 (m.map Seg.c), .fn 80 []] (.int .i64 (cmpPath l m)) := by
  refine pur_of Tst.F79 (by simp [Tst.F79, Fn.mkX]) fun σ => ?_
  simp only [Tst.F79, Fn.mkX, Tst.b79]
  simp only [↓vcPre, ↓wit_get, ↓reduceIte, vcPost, vcStd, Nat.reduceEqDiff, reduceCtorEq, Nat.reduceAdd, Nat.reduceLeDiff, Int.reduceLT, Int.reduceLE, ↓u_setN]
  refine LoopQ.inv (S := Nat) (fun k => [(0, .sl 2 (l.map Seg.c)), (1, .sl 2 (m.map Seg.c)), (2, .fn 80 []), (11, .sl 2 (l.map Seg.c)), (12, .int .i64 (l.length : Int)), (13, .int .i64 (k : Int))]) (fun _ => σ) (fun k => k ≤ l.length ∧ k ≤ m.length ∧ cmpG cmpSeg (l.drop k) (m.drop k) = cmpG cmpSeg l m) (fun k => l.length + 1 - k) 0 rfl (Store.sub_refl _) ⟨by omega, by omega, rfl⟩ ?_
  rintro k ⟨hk, hk2, ho⟩
  simp only [↓vcPre, ↓wit_get, ↓reduceIte, vcPost, vcStd, Nat.reduceEqDiff, reduceCtorEq, Nat.reduceAdd, Nat.reduceLeDiff, Int.reduceLT, Int.reduceLE, ↓u_setN]
  refine ⟨fun c1 => ?_, fun c1 => ?_⟩
  · have ek : IntKind.i64.wrap ((k : Int) + 1) = ((k + 1 : Nat) : Int) := by rw [wrap64 (by unfold I64; omega)]; omega
    rw [List.drop_eq_getElem_cons c1] at ho
    refine ⟨c1, by simp [Seg.c], ?_⟩
    refine AllocQ.i0 fun i hi => ?_
    simp only [Seg.c, ↓vcPre, ↓wit_get, ↓reduceIte, vcPost, vcStd, Nat.reduceEqDiff, reduceCtorEq, Nat.reduceAdd, Nat.reduceLeDiff, Int.reduceLT, Int.reduceLE, ↓u_setN]
    refine ⟨fun g1 => ?_, fun g1 => ?_⟩
    · rw [show List.drop k m = [] from List.drop_eq_nil_of_le (by omega)] at ho
      exact ⟨by rw [cmpPath, ← ho]; rfl, by rw [Store.set_set]; exact Store.sub_set _ _ _ hi⟩
    · rw [List.drop_eq_getElem_cons (l := m) (by omega)] at ho
      simp only [cmpG] at ho
      rw [Store.set_set]
      refine ⟨by omega, ?_⟩
      refine AllocQ.i1 fun j hj1 hj2 hj => ?_
      simp only [Seg.c, Store.set_set, hj1, hj2, ↓vcPre, ↓wit_get, ↓reduceIte, vcPost, vcStd, Nat.reduceEqDiff, reduceCtorEq, Nat.reduceAdd, Nat.reduceLeDiff, Int.reduceLT, Int.reduceLE, ↓u_setN]
      refine (c80 _ _ (hlo _ (List.getElem_mem c1)) (hmo _ (List.getElem_mem (by omega)))).Q ?_
      simp only [↓vcPre, ↓wit_get, ↓reduceIte, vcPost, vcStd, Nat.reduceEqDiff, reduceCtorEq, Nat.reduceAdd, Nat.reduceLeDiff, Int.reduceLT, Int.reduceLE, ↓u_setN]
      refine ⟨fun g2 => ?_, fun g2 => ?_⟩
      · rw [if_neg g2] at ho
        exact ⟨by rw [cmpPath, ← ho], sub_set2 hi hj hj1⟩
      · rw [if_pos g2] at ho
        rw [ek]
        exact NextQ.to (k + 1) rfl (sub_set2 hi hj hj1) (by omega) ⟨by omega, by omega, ho⟩
  · rw [show List.drop k l = [] from List.drop_eq_nil_of_le (by omega)] at ho
    refine ⟨fun g1 => ?_, fun g1 => ?_⟩
    · rw [List.drop_eq_getElem_cons (l := m) (by omega)] at ho
      rw [cmpPath, ← ho]; rfl
    · rw [show List.drop k m = [] from List.drop_eq_nil_of_le (by omega)] at ho
      rw [cmpPath, ← ho]; rfl
theorem c55 (l m : List Seg) (hl : l.length ≤ 1000000) (hm : m.length ≤ 1000000) (hlo : ∀ s ∈ l, s.ok) (hmo : ∀ s ∈ m, s.ok) : Pur Try.prog 55 [.sl 2 (l.map Seg.c), .sl 2 (m.map Seg.c)] (.int .i64 (cmpPath l m)) := by
  refine pur_of Tst.F55 (by simp [Tst.F55, Fn.mkX]) fun σ => ?_
  simp only [Tst.F55, Fn.mkX, Tst.b55]
  simp only [↓vcPre, ↓wit_get, ↓reduceIte, vcPost, vcStd, Nat.reduceEqDiff, reduceCtorEq, Nat.reduceAdd, Nat.reduceLeDiff, Int.reduceLT, Int.reduceLE, ↓u_setN]
  refine (s79 l m hl hm hlo hmo).Q ?_
  simp only [↓vcPre, ↓wit_get, ↓reduceIte, vcPost, vcStd, Nat.reduceEqDiff, reduceCtorEq, Nat.reduceAdd, Nat.reduceLeDiff, Int.reduceLT, Int.reduceLE, ↓u_setN]

/-- Attributes held against others, as they stand. -/
def cmpAs (a b : At) : Int := orL [cmpI a.org b.org, cmpPath a.path b.path, cmpI a.nxt b.nxt, IntKind.i64.wrap (truthF a.hm - truthF b.hm), cmpI a.med b.med, IntKind.i64.wrap (truthF a.hp - truthF b.hp), cmpI a.prf b.prf, IntKind.i64.wrap (truthF a.atm - truthF b.atm), cmpG cmpI a.cms b.cms]
theorem canonA_ok {a : At} (h : a.ok) : (canonA a).ok := ⟨h.1, h.2.1, Nat.le_trans (canonC_len _) h.2.2⟩
set_option maxRecDepth 20000 in
theorem c30 (a b : At) (ha : a.ok) (hb : b.ok) : Pur Try.prog 30 [.agg a.c, .agg b.c] (.int .i64 (cmpAs (canonA a) (canonA b))) := by
  refine pur_of Tst.F30 (by simp [Tst.F30, Fn.mkX]) fun σ => ?_
  simp only [Tst.F30, Fn.mkX, Tst.b30]
  simp only [↓vcPre, ↓wit_get, ↓reduceIte, vcPost, vcStd, Nat.reduceEqDiff, reduceCtorEq, Nat.reduceAdd, Nat.reduceLeDiff, Int.reduceLT, Int.reduceLE, ↓u_setN]
  have e9 : ∀ x : At, x.c.length = 9 := fun _ => rfl
  have t9 : ∀ x : At, List.take 9 x.c = x.c := fun _ => rfl
  have p9 : ∀ x y : At, splice 0 x.c y.c = some x.c := fun x y => splice_all _ _ rfl
  refine AllocQ.i0 fun i hi => ?_
  simp only [↓vcPre, ↓wit_get, ↓reduceIte, vcPost, vcStd, Nat.reduceEqDiff, reduceCtorEq, Nat.reduceAdd, Nat.reduceLeDiff, Int.reduceLT, Int.reduceLE, ↓u_setN]
  refine AllocQ.i1 fun j hj1 hj2 hj => ?_
  simp only [hj1, hj2, e9, t9, p9, Nat.le_refl, ↓vcPre, ↓wit_get, ↓reduceIte, vcPost, vcStd, Nat.reduceEqDiff, reduceCtorEq, Nat.reduceAdd, Nat.reduceLeDiff, Int.reduceLT, Int.reduceLE, ↓u_setN]
  refine (c17 a ha).Q ?_
  simp only [hj1, hj2, e9, t9, p9, Nat.le_refl, ↓vcPre, ↓wit_get, ↓reduceIte, vcPost, vcStd, Nat.reduceEqDiff, reduceCtorEq, Nat.reduceAdd, Nat.reduceLeDiff, Int.reduceLT, Int.reduceLE, ↓u_setN]
  refine (c17 b hb).Q ?_
  simp only [hj1, hj2, e9, t9, p9, Nat.le_refl, Store.set_set, ↓vcPre, ↓wit_get, ↓reduceIte, vcPost, vcStd, Nat.reduceEqDiff, reduceCtorEq, Nat.reduceAdd, Nat.reduceLeDiff, Int.reduceLT, Int.reduceLE, ↓u_setN]
  have hsub : Store.sub σ ((((σ.set i (Obj.box a.c)).set j (Obj.box b.c)).set i (Obj.box (canonA a).c)).set j (Obj.box (canonA b).c)) := sub_upd' (sub_upd' (sub_set2 hi hj hj1) hi) hj
  generalize ((((σ.set i (Obj.box a.c)).set j (Obj.box b.c)).set i (Obj.box (canonA a).c)).set j (Obj.box (canonA b).c)) = T at hsub ⊢
  have ha1 := canonA_ok ha
  have hb1 := canonA_ok hb
  generalize canonA a = a1 at ha1 ⊢
  generalize canonA b = b1 at hb1 ⊢
  clear e9 t9 p9
  simp only [At.c, ↓vcPre, ↓wit_get, ↓reduceIte, vcPost, vcStd, Nat.reduceEqDiff, reduceCtorEq, Nat.reduceAdd, Nat.reduceLeDiff, Int.reduceLT, Int.reduceLE, ↓u_setN]
  refine (c54 _ _).Q ?_
  simp only [↓vcPre, ↓wit_get, ↓reduceIte, vcPost, vcStd, Nat.reduceEqDiff, reduceCtorEq, Nat.reduceAdd, Nat.reduceLeDiff, Int.reduceLT, Int.reduceLE, ↓u_setN]
  refine (c55 _ _ ha1.1 hb1.1 ha1.2.1 hb1.2.1).Q ?_
  simp only [↓vcPre, ↓wit_get, ↓reduceIte, vcPost, vcStd, Nat.reduceEqDiff, reduceCtorEq, Nat.reduceAdd, Nat.reduceLeDiff, Int.reduceLT, Int.reduceLE, ↓u_setN]
  refine (c56 _ _).Q ?_
  simp only [↓vcPre, ↓wit_get, ↓reduceIte, vcPost, vcStd, Nat.reduceEqDiff, reduceCtorEq, Nat.reduceAdd, Nat.reduceLeDiff, Int.reduceLT, Int.reduceLE, ↓u_setN]
  refine (c57 _).Q ?_
  simp only [↓vcPre, ↓wit_get, ↓reduceIte, vcPost, vcStd, Nat.reduceEqDiff, reduceCtorEq, Nat.reduceAdd, Nat.reduceLeDiff, Int.reduceLT, Int.reduceLE, ↓u_setN]
  refine (c57 _).Q ?_
  simp only [↓vcPre, ↓wit_get, ↓reduceIte, vcPost, vcStd, Nat.reduceEqDiff, reduceCtorEq, Nat.reduceAdd, Nat.reduceLeDiff, Int.reduceLT, Int.reduceLE, ↓u_setN]
  refine (c56 _ _).Q ?_
  simp only [↓vcPre, ↓wit_get, ↓reduceIte, vcPost, vcStd, Nat.reduceEqDiff, reduceCtorEq, Nat.reduceAdd, Nat.reduceLeDiff, Int.reduceLT, Int.reduceLE, ↓u_setN]
  refine (c57 _).Q ?_
  simp only [↓vcPre, ↓wit_get, ↓reduceIte, vcPost, vcStd, Nat.reduceEqDiff, reduceCtorEq, Nat.reduceAdd, Nat.reduceLeDiff, Int.reduceLT, Int.reduceLE, ↓u_setN]
  refine (c57 _).Q ?_
  simp only [↓vcPre, ↓wit_get, ↓reduceIte, vcPost, vcStd, Nat.reduceEqDiff, reduceCtorEq, Nat.reduceAdd, Nat.reduceLeDiff, Int.reduceLT, Int.reduceLE, ↓u_setN]
  refine (c56 _ _).Q ?_
  simp only [↓vcPre, ↓wit_get, ↓reduceIte, vcPost, vcStd, Nat.reduceEqDiff, reduceCtorEq, Nat.reduceAdd, Nat.reduceLeDiff, Int.reduceLT, Int.reduceLE, ↓u_setN]
  refine (c57 _).Q ?_
  simp only [↓vcPre, ↓wit_get, ↓reduceIte, vcPost, vcStd, Nat.reduceEqDiff, reduceCtorEq, Nat.reduceAdd, Nat.reduceLeDiff, Int.reduceLT, Int.reduceLE, ↓u_setN]
  refine (c57 _).Q ?_
  simp only [↓vcPre, ↓wit_get, ↓reduceIte, vcPost, vcStd, Nat.reduceEqDiff, reduceCtorEq, Nat.reduceAdd, Nat.reduceLeDiff, Int.reduceLT, Int.reduceLE, ↓u_setN]
  refine (c58 _ _ ha1.2.2 hb1.2.2).Q ?_
  simp only [u_mks9, ↓vcPre, ↓wit_get, ↓reduceIte, vcPost, vcStd, Nat.reduceEqDiff, reduceCtorEq, Nat.reduceAdd, Nat.reduceLeDiff, Int.reduceLT, Int.reduceLE, ↓u_setN]
  refine AllocQ.i0 fun g hg => ?_
  simp only [↓vcPre, ↓wit_get, ↓reduceIte, vcPost, vcStd, Nat.reduceEqDiff, reduceCtorEq, Nat.reduceAdd, Nat.reduceLeDiff, Int.reduceLT, Int.reduceLE, ↓u_setN]
  refine (s53 [cmpI a1.org b1.org, cmpPath a1.path b1.path, cmpI a1.nxt b1.nxt, IntKind.i64.wrap (truthF a1.hm - truthF b1.hm), cmpI a1.med b1.med, IntKind.i64.wrap (truthF a1.hp - truthF b1.hp), cmpI a1.prf b1.prf, IntKind.i64.wrap (truthF a1.atm - truthF b1.atm), cmpG cmpI a1.cms b1.cms] (by simp) (Store.set_same _ _ _)).Q ?_
  rintro r s ⟨h1, rfl⟩
  subst h1
  refine ⟨Store.sub_refl _, ?_⟩
  simp only [↓vcPre, ↓wit_get, ↓reduceIte, vcPost, vcStd, Nat.reduceEqDiff, reduceCtorEq, Nat.reduceAdd, Nat.reduceLeDiff, Int.reduceLT, Int.reduceLE, ↓u_setN]
  exact ⟨rfl, sub_upd' hsub (sub_none hsub hg)⟩
theorem c13 (a b : At) (ha : a.ok) (hb : b.ok) : Pur Try.prog 13 [.agg a.c, .agg b.c] (.bool (decide (cmpAs (canonA a) (canonA b) = 0))) := by
  refine pur_of Tst.F13 (by simp [Tst.F13, Fn.mkX]) fun σ => ?_
  simp only [Tst.F13, Fn.mkX, Tst.b13]
  simp only [↓vcPre, ↓wit_get, ↓reduceIte, vcPost, vcStd, Nat.reduceEqDiff, reduceCtorEq, Nat.reduceAdd, Nat.reduceLeDiff, Int.reduceLT, Int.reduceLE, ↓u_setN]
  have t9 : ∀ x : At, List.take 9 x.c = x.c := fun _ => rfl
  have e9 : ∀ x : At, x.c.length = 9 := fun _ => rfl
  refine AllocQ.i0 fun i hi => ?_
  simp only [↓vcPre, ↓wit_get, ↓reduceIte, vcPost, vcStd, Nat.reduceEqDiff, reduceCtorEq, Nat.reduceAdd, Nat.reduceLeDiff, Int.reduceLT, Int.reduceLE, ↓u_setN]
  refine AllocQ.i1 fun j hj1 hj2 hj => ?_
  simp only [hj1, hj2, e9, t9, Nat.le_refl, ↓vcPre, ↓wit_get, ↓reduceIte, vcPost, vcStd, Nat.reduceEqDiff, reduceCtorEq, Nat.reduceAdd, Nat.reduceLeDiff, Int.reduceLT, Int.reduceLE, ↓u_setN]
  refine (c30 a b ha hb).Q ?_
  simp only [↓vcPre, ↓wit_get, ↓reduceIte, vcPost, vcStd, Nat.reduceEqDiff, reduceCtorEq, Nat.reduceAdd, Nat.reduceLeDiff, Int.reduceLT, Int.reduceLE, ↓u_setN]
  exact sub_set2 hi hj hj1
end Go.Am

/- A5 -/
namespace Go.Am
open Go.Proofs Go.Sort

theorem cmpI_z {x y : Int} : cmpI x y = 0 ↔ x = y := cmpI_zero x y
theorem cmpG_z {α : Type} {f : α → α → Int} : ∀ (l m : List α), (∀ a ∈ l, ∀ b ∈ m, f a b = 0 ↔ a = b) → (cmpG f l m = 0 ↔ l = m)
  | [], [], _ => by simp [cmpG]
  | [], _ :: _, _ => by simp [cmpG]
  | _ :: _, [], _ => by simp [cmpG]
  | a :: r, b :: s, h => by
    have h1 := h a (by simp) b (by simp)
    have h2 := cmpG_z r s (fun x hx y hy => h x (by simp [hx]) y (by simp [hy]))
    simp only [cmpG]
    split
    · rename_i h0
      rw [h2, h1.1 h0]; simp
    · rename_i h0
      constructor
      · intro h3; exact absurd h3 h0
      · intro h3; exact absurd (h1.2 (List.cons.inj h3).1) h0
theorem orL_z : ∀ (l : List Int), orL l = 0 ↔ ∀ x ∈ l, x = 0
  | [] => by simp [orL]
  | x :: r => by
    have := orL_z r
    simp only [orL]
    split
    · rename_i h; rw [this]; simp [h]
    · rename_i h; simp [h]
theorem cmpSeg_z {a b : Seg} : cmpSeg a b = 0 ↔ a = b := by
  unfold cmpSeg
  rw [orL_z]
  simp only [List.mem_cons, List.not_mem_nil, or_false, forall_eq_or_imp, forall_eq]
  rw [cmpI_z, cmpI_z, cmpG_z _ _ (fun _ _ _ _ => cmpI_z)]
  constructor
  · rintro ⟨h1, _, h3⟩
    cases a; cases b; simp_all
  · rintro rfl; exact ⟨rfl, rfl, rfl⟩
theorem cmpPath_z {a b : List Seg} : cmpPath a b = 0 ↔ a = b := cmpG_z _ _ fun _ _ _ _ => cmpSeg_z
theorem truth_z {a b : Bool} : IntKind.i64.wrap (truthF a - truthF b) = 0 ↔ a = b := by
  cases a <;> cases b <;> decide
theorem cmpAs_z {a b : At} : cmpAs a b = 0 ↔ a = b := by
  unfold cmpAs
  rw [orL_z]
  simp only [List.mem_cons, List.not_mem_nil, or_false, forall_eq_or_imp, forall_eq]
  rw [cmpI_z, cmpPath_z, cmpI_z, truth_z, cmpI_z, truth_z, cmpI_z, truth_z, cmpG_z _ _ (fun _ _ _ _ => cmpI_z)]
  constructor
  · rintro ⟨h1, h2, h3, h4, h5, h6, h7, h8, h9⟩
    cases a; cases b; simp_all
  · rintro rfl; exact ⟨rfl, rfl, rfl, rfl, rfl, rfl, rfl, rfl, rfl⟩
instance : DecidableEq Seg := fun a b => decidable_of_iff (cmpSeg a b = 0) cmpSeg_z
instance : DecidableEq At := fun a b => decidable_of_iff (cmpAs a b = 0) cmpAs_z
/-! ## Rising lists -/
def Inc (l : List Int) : Prop := l.Pairwise (· < ·)
theorem ddA_mem (x : Int) : ∀ l : List Int, x ∈ ddA l ↔ x ∈ l
  | [] => by simp [ddA]
  | [a] => by simp [ddA]
  | a :: b :: r => by
    have := ddA_mem x (b :: r)
    simp only [ddA]
    split
    · rename_i h; subst h; rw [this]; simp
    · simp only [List.mem_cons] at *; rw [this]
theorem ddA_inc : ∀ l : List Int, l.Pairwise (· ≤ ·) → Inc (ddA l)
  | [], _ => .nil
  | [a], _ => by simp [ddA, Inc]
  | a :: b :: r, h => by
    obtain ⟨h1, h2⟩ := List.pairwise_cons.1 h
    have ih := ddA_inc (b :: r) h2
    simp only [ddA]
    split
    · exact ih
    · rename_i hab
      refine List.pairwise_cons.2 ⟨fun x hx => ?_, ih⟩
      have hx' := (ddA_mem x (b :: r)).1 hx
      have h3 := h1 b (by simp)
      rcases List.mem_cons.1 hx' with rfl | hx''
      · omega
      · have h4 := (List.pairwise_cons.1 h2).1 x hx''
        omega
theorem canonC_mem {l : List Int} {x : Int} : x ∈ canonC l ↔ x ∈ l := by
  rw [canonC, ddA_mem, (List.mergeSort_perm l leI).mem_iff]
theorem canonC_inc (l : List Int) : Inc (canonC l) := ddA_inc _ (by
  have := List.pairwise_mergeSort (le := leI) (fun a b c h1 h2 => by simp only [leI, decide_eq_true_eq] at *; omega) (fun a b => by simp only [leI, Bool.or_eq_true, decide_eq_true_eq]; omega) l
  exact this.imp fun {a b} h => by simpa [leI] using h)
theorem inc_ext {l m : List Int} (hl : Inc l) (hm : Inc m) (h : ∀ x, x ∈ l ↔ x ∈ m) : l = m := by
  have nd : ∀ l : List Int, Inc l → l.Nodup := fun l h => h.imp fun {a b} h e => by omega
  refine List.Perm.eq_of_pairwise (le := (· < ·)) (fun a b _ _ h1 h2 => by omega) hl hm ((List.perm_ext_iff_of_nodup (nd l hl) (nd m hm)).2 h)
theorem canonC_self {l : List Int} (h : Inc l) : canonC l = l := inc_ext (canonC_inc l) h fun x => canonC_mem
theorem canonC_idem (l : List Int) : canonC (canonC l) = canonC l := canonC_self (canonC_inc l)
theorem canonA_idem (a : At) : canonA (canonA a) = canonA a := by
  obtain ⟨o, p, n, hm, m, hp, q, t, c⟩ := a
  cases hm <;> cases hp <;> simp [canonA, canonC_idem]
end Go.Am

/- U3 -/
namespace Go.Am
theorem sub_delr (s : Store) (i : Nat) : Store.sub (s.del i) s := fun j o hj => by
  by_cases e : j = i
  · subst e; simp at hj
  · rw [Store.del_ne _ e] at hj; exact hj
end Go.Am

/- A5z -/
namespace Go.Am
open Go.Proofs Go.Sort
end Go.Am

/- S91C -/
namespace Go.Am.Tsd
open Go.Proofs
/-- signpost/signpostkeep.Short -/
def t8_34 : BC := .ops [⟨some 34, none, .pure (.mov), [.t 3]⟩, ⟨some 35, none, .load (.ld 2 true), [.t 5]⟩, ⟨some 36, none, .alloc (.mksl 2 1), [.t 35]⟩, ⟨some 37, none, .loud (.app 2 32), [.t 34, .t 36]⟩, ⟨some 3, none, .pure (.mov), [.t 37]⟩] [1, 2, 3, 4]
def t8_3 : BC := .seq (.ops [⟨some 3, none, .pure (.mov), [.c .nils]⟩] [1, 2, 3]) (.seq (.seq (.ops [⟨some 4, none, .pure (.mov), [.c (.int .i64 0)]⟩] [1, 2, 3, 4]) (.block 0 (.loop [1, 2, 3, 4] (.seq (.seq (.ops [⟨some 14, none, .pure (.mov), [.t 4]⟩, ⟨some 15, none, .pure (.fld 1), [.t 1]⟩, ⟨some 16, none, .load (.ld 1 false), [.t 15]⟩, ⟨some 17, none, .pure (.len), [.t 16]⟩, ⟨some 18, none, .pure (.bin .lss), [.t 14, .t 17]⟩] [1, 2, 3, 4, 18]) (.cond (.t 18) (.skip) (.exit 0))) (.seq (.block 1 (.seq (.ops [⟨some 21, none, .pure (.fld 1), [.t 1]⟩, ⟨some 22, none, .load (.ld 1 false), [.t 21]⟩, ⟨some 23, none, .pure (.mov), [.t 4]⟩, ⟨some 24, none, .pure (.idx 2), [.t 22, .t 23]⟩, ⟨some 25, none, .load (.ld 2 true), [.t 24]⟩, ⟨some 5, none, .alloc (.alloc [(.int .i64 0), .nils]), []⟩, ⟨none, none, .loud (.st 2), [.t 5, .t 25]⟩] [1, 2, 3, 4, 5]) (.seq (.seq (.ops [⟨some 26, none, .pure (.fld 1), [.t 5]⟩, ⟨some 27, none, .load (.ld 1 false), [.t 26]⟩, ⟨some 28, none, .pure (.len), [.t 27]⟩, ⟨some 29, none, .pure (.bin .gtr), [.t 28, .c (.int .i64 6)]⟩] [1, 2, 3, 4, 5, 29]) (.cond (.t 29) (.ops [⟨some 30, none, .pure (.fld 1), [.t 5]⟩, ⟨some 31, none, .load (.ld 1 false), [.t 30]⟩, ⟨some 32, none, .pure (.slice 1 false true), [.t 31, .c (.int .i64 6)]⟩, ⟨some 33, none, .pure (.fld 1), [.t 5]⟩, ⟨none, none, .loud (.st 1), [.t 33, .t 32]⟩] [1, 2, 3, 4, 5]) (.skip))) t8_34))) (.ops [⟨some 19, none, .pure (.mov), [.t 4]⟩, ⟨some 20, none, .pure (.bin .add), [.t 19, .c (.int .i64 1)]⟩, ⟨some 4, none, .pure (.mov), [.t 20]⟩] [1, 2, 3, 4])))))) (.seq (.ops [⟨some 38, none, .pure (.mov), [.t 3]⟩, ⟨some 39, none, .pure (.fld 1), [.t 1]⟩, ⟨none, none, .loud (.st 1), [.t 39, .t 38]⟩] [1, 2]) (.seq (.seq (.ops [⟨some 40, none, .pure (.fld 8), [.t 1]⟩, ⟨some 41, none, .load (.ld 1 false), [.t 40]⟩, ⟨some 42, none, .pure (.len), [.t 41]⟩, ⟨some 43, none, .pure (.bin .gtr), [.t 42, .c (.int .i64 34)]⟩] [1, 2, 43]) (.cond (.t 43) (.ops [⟨some 44, none, .pure (.fld 8), [.t 1]⟩, ⟨some 45, none, .load (.ld 1 false), [.t 44]⟩, ⟨some 46, none, .pure (.slice 1 false true), [.t 45, .c (.int .i64 34)]⟩, ⟨some 47, none, .pure (.fld 8), [.t 1]⟩, ⟨none, none, .loud (.st 1), [.t 47, .t 46]⟩] [1, 2]) (.skip))) (.seq (.ops [⟨some 48, none, .load (.ld 9 true), [.t 1]⟩, ⟨none, none, .loud (.st 9), [.t 2, .t 48]⟩] [2]) (.ret)))))
def b8 : BC := .seq (.ops [⟨some 1, none, .alloc (.box), [.t 0]⟩, ⟨some 2, none, .alloc (.alloc [(.int .i64 0), .nils, (.int .u32 0), (.bool false), (.int .u32 0), (.bool false), (.int .u32 0), (.bool false), .nils]), []⟩] [1, 2]) (.seq (.seq (.ops [⟨some 6, none, .pure (.fld 1), [.t 1]⟩, ⟨some 7, none, .load (.ld 1 false), [.t 6]⟩, ⟨some 8, none, .pure (.len), [.t 7]⟩, ⟨some 9, none, .pure (.bin .gtr), [.t 8, .c (.int .i64 18)]⟩] [1, 2, 9]) (.cond (.t 9) (.ops [⟨some 10, none, .pure (.fld 1), [.t 1]⟩, ⟨some 11, none, .load (.ld 1 false), [.t 10]⟩, ⟨some 12, none, .pure (.slice 2 false true), [.t 11, .c (.int .i64 18)]⟩, ⟨some 13, none, .pure (.fld 1), [.t 1]⟩, ⟨none, none, .loud (.st 1), [.t 13, .t 12]⟩] [1, 2]) (.skip))) t8_3)
def F8 : Fn Try.prog 8 := Fn.mkX false b8 [.c 2 9 true] 49 Try.f8 _ Try.func8 (by decide) rfl Try.ntmps8 (by kernel_rfl) (by kernel_rfl)
end Go.Am.Tsd
