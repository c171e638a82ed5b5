/- A part of the proof: a logic for calls over plain values, and the functions that the law reaches, each walked once. -/
import Derived.Test.YtfnoblcmfmdeaaaPC23
import Derived.RangeFuncBox
import Derived.RangeFuncLeaves
import Derived.Shelf.Abstract
import Derived.WalkKit
import Derived.OwnWalkIn
import Derived.TacticsInMore
import Derived.LoopNIn
import Derived.LoopIn
import Derived.Maps.AppendAt
import Derived.Test.YtfnoblcmfmdeaaaProg
set_option linter.unusedVariables false
set_option linter.unusedSimpArgs false
set_option linter.unusedSectionVars false

namespace Go.Am.Tst
open Go.Proofs
/-- signpost/signpostlaw11.InternRooms -/
def b5 : BC := .seq (.ops [⟨some 4, none, .pure (.mov), [.c (.bool false)]⟩] [0, 1]) (.seq (.ops [⟨some 20, none, .pure (.mov), [.t 0]⟩, ⟨some 21, none, .loud (.call 14), [.t 20, .c (.int .i64 0), .c (.int .i64 20)]⟩, ⟨some 22, none, .pure (.bin .add), [.c (.int .i64 1), .t 21]⟩, ⟨some 0, none, .pure (.mov), [.t 22]⟩] [0, 1]) (.seq (.ops [⟨some 24, none, .pure (.mov), [.t 0]⟩, ⟨some 25, none, .loud (.call 15), [.t 24]⟩, ⟨some 23, none, .pure (.mov), [.t 25]⟩, ⟨some 26, none, .pure (.ext 0), [.t 23]⟩, ⟨some 27, none, .pure (.ext 1), [.t 23]⟩, ⟨some 5, none, .pure (.mov), [.t 26]⟩, ⟨some 6, none, .pure (.mov), [.t 27]⟩] [0, 1, 5, 6]) (.seq (.seq (.ops [⟨some 28, none, .pure (.mov), [.t 5]⟩, ⟨some 29, none, .pure (.eqnil false true), [.t 28]⟩, ⟨some 30, none, .pure (.mov), [.t 29]⟩, ⟨some 31, some (30, false), .pure (.mov), [.t 6]⟩, ⟨some 32, some (30, false), .pure (.bin .neq), [.t 31, .c (.int .i64 0)]⟩, ⟨some 33, none, .pick, [.t 30, .c (.bool true), .t 32]⟩] [0, 1, 5, 33]) (.cond (.t 33) (.seq (.ops [⟨some 4, none, .pure (.mov), [.c (.bool false)]⟩] [4]) (.ret)) (.skip))) (.seq (.seq (.ops [⟨some 7, none, .pure (.mov), [.c (.int .i64 0)]⟩] [0, 1, 5, 7]) (.block 0 (.loop [0, 1, 5, 7] (.seq (.seq (.ops [⟨some 34, none, .pure (.mov), [.t 7]⟩, ⟨some 35, none, .pure (.mov), [.t 0]⟩, ⟨some 36, none, .pure (.bin .lss), [.t 34, .t 35]⟩] [0, 1, 5, 7, 36]) (.cond (.t 36) (.skip) (.exit 0))) (.seq (.block 1 (.seq (.ops [⟨some 40, none, .pure (.mov), [.t 5]⟩, ⟨some 41, none, .pure (.mov), [.t 7]⟩, ⟨some 42, none, .pure (.conv .u32), [.t 41]⟩, ⟨some 43, none, .pure (.build [(.int .i64 0), .nils, (.int .u32 0), (.bool false), (.int .u32 0), (.bool false), (.int .u32 0), (.bool false), .nils] [(2, 1)]), [.t 42]⟩, ⟨some 44, none, .loud (.call 22), [.t 40, .t 43]⟩, ⟨some 39, none, .pure (.mov), [.t 44]⟩, ⟨some 45, none, .pure (.ext 0), [.t 39]⟩, ⟨some 46, none, .pure (.ext 1), [.t 39]⟩, ⟨some 8, none, .pure (.mov), [.t 45]⟩, ⟨some 9, none, .pure (.mov), [.t 46]⟩] [0, 1, 5, 7, 8, 9]) (.seq (.ops [⟨some 47, none, .pure (.mov), [.t 8]⟩, ⟨some 48, none, .pure (.mov), [.t 7]⟩, ⟨some 49, none, .pure (.bin .neq), [.t 47, .t 48]⟩, ⟨some 50, none, .pure (.mov), [.t 49]⟩, ⟨some 51, some (50, false), .pure (.mov), [.t 9]⟩, ⟨some 52, some (50, false), .pure (.bin .neq), [.t 51, .c (.int .i64 0)]⟩, ⟨some 53, none, .pick, [.t 50, .c (.bool true), .t 52]⟩] [0, 1, 5, 7, 53]) (.cond (.t 53) (.seq (.ops [⟨some 4, none, .pure (.mov), [.c (.bool false)]⟩] [4]) (.ret)) (.skip))))) (.ops [⟨some 37, none, .pure (.mov), [.t 7]⟩, ⟨some 38, none, .pure (.bin .add), [.t 37, .c (.int .i64 1)]⟩, ⟨some 7, none, .pure (.mov), [.t 38]⟩] [0, 1, 5, 7])))))) (.seq (.ops [⟨some 55, none, .pure (.mov), [.t 5]⟩, ⟨some 56, none, .pure (.build [(.int .i64 0), .nils, (.int .u32 0), (.bool false), (.int .u32 0), (.bool false), (.int .u32 0), (.bool false), .nils] [(2, 1)]), [.c (.int .u32 500)]⟩, ⟨some 57, none, .loud (.call 22), [.t 55, .t 56]⟩, ⟨some 54, none, .pure (.mov), [.t 57]⟩, ⟨some 58, none, .pure (.ext 0), [.t 54]⟩, ⟨some 59, none, .pure (.ext 1), [.t 54]⟩, ⟨some 10, none, .pure (.mov), [.t 58]⟩, ⟨some 11, none, .pure (.mov), [.t 59]⟩] [0, 1, 5, 10, 11]) (.seq (.ops [⟨some 61, none, .pure (.mov), [.t 5]⟩, ⟨some 62, none, .pure (.mov), [.t 0]⟩, ⟨some 63, none, .pure (.bin .sub), [.t 62, .c (.int .i64 1)]⟩, ⟨some 64, none, .pure (.conv .u32), [.t 63]⟩, ⟨some 65, none, .pure (.build [(.int .i64 0), .nils, (.int .u32 0), (.bool false), (.int .u32 0), (.bool false), (.int .u32 0), (.bool false), .nils] [(2, 1)]), [.t 64]⟩, ⟨some 66, none, .loud (.call 22), [.t 61, .t 65]⟩, ⟨some 60, none, .pure (.mov), [.t 66]⟩, ⟨some 67, none, .pure (.ext 0), [.t 60]⟩, ⟨some 68, none, .pure (.ext 1), [.t 60]⟩, ⟨some 12, none, .pure (.mov), [.t 67]⟩, ⟨some 13, none, .pure (.mov), [.t 68]⟩] [0, 1, 5, 10, 11, 12, 13]) (.seq (.seq (.ops [⟨some 69, none, .pure (.mov), [.t 10]⟩, ⟨some 70, none, .pure (.bin .neq), [.t 69, .c (.int .i64 0)]⟩, ⟨some 71, none, .pure (.mov), [.t 70]⟩, ⟨some 72, some (71, false), .pure (.mov), [.t 11]⟩, ⟨some 73, some (71, false), .pure (.bin .neq), [.t 72, .c (.int .i64 13)]⟩, ⟨some 74, none, .pick, [.t 71, .c (.bool true), .t 73]⟩, ⟨some 75, none, .pure (.mov), [.t 74]⟩, ⟨some 76, some (75, false), .pure (.mov), [.t 12]⟩, ⟨some 77, some (75, false), .pure (.mov), [.t 0]⟩, ⟨some 78, some (75, false), .pure (.bin .sub), [.t 77, .c (.int .i64 1)]⟩, ⟨some 79, some (75, false), .pure (.bin .neq), [.t 76, .t 78]⟩, ⟨some 80, none, .pick, [.t 75, .c (.bool true), .t 79]⟩, ⟨some 81, none, .pure (.mov), [.t 80]⟩, ⟨some 82, some (81, false), .pure (.mov), [.t 13]⟩, ⟨some 83, some (81, false), .pure (.bin .neq), [.t 82, .c (.int .i64 0)]⟩, ⟨some 84, none, .pick, [.t 81, .c (.bool true), .t 83]⟩, ⟨some 85, none, .pure (.mov), [.t 84]⟩, ⟨some 86, some (85, false), .pure (.mov), [.t 5]⟩, ⟨some 87, some (85, false), .loud (.call 28), [.t 86]⟩, ⟨some 88, some (85, false), .pure (.mov), [.t 0]⟩, ⟨some 89, some (85, false), .pure (.bin .neq), [.t 87, .t 88]⟩, ⟨some 90, none, .pick, [.t 85, .c (.bool true), .t 89]⟩] [0, 1, 5, 90]) (.cond (.t 90) (.seq (.ops [⟨some 4, none, .pure (.mov), [.c (.bool false)]⟩] [4]) (.ret)) (.skip))) (.seq (.ops [⟨some 91, none, .pure (.mov), [.t 1]⟩, ⟨some 92, none, .pure (.mov), [.t 0]⟩, ⟨some 93, none, .pure (.bin .sub), [.t 92, .c (.int .i64 1)]⟩, ⟨some 94, none, .loud (.call 14), [.t 91, .c (.int .i64 0), .t 93]⟩, ⟨some 14, none, .pure (.mov), [.t 94]⟩] [0, 5, 14]) (.seq (.block 2 (.loop [0, 5, 14] (.seq (.seq (.ops [⟨some 95, none, .pure (.mov), [.t 5]⟩, ⟨some 96, none, .pure (.mov), [.t 14]⟩, ⟨some 97, none, .loud (.call 26), [.t 95, .t 96]⟩, ⟨some 98, none, .pure (.bin .gtr), [.t 97, .c (.int .i64 0)]⟩] [0, 5, 14, 98]) (.cond (.t 98) (.skip) (.exit 2))) (.block 3 (.seq (.ops [⟨some 99, none, .pure (.mov), [.t 5]⟩, ⟨some 100, none, .pure (.mov), [.t 14]⟩, ⟨some 101, none, .loud (.call 26), [.t 99, .t 100]⟩, ⟨some 15, none, .pure (.mov), [.t 101]⟩] [0, 5, 14, 15]) (.seq (.ops [⟨some 102, none, .pure (.mov), [.t 5]⟩, ⟨some 103, none, .pure (.mov), [.t 14]⟩, ⟨some 104, none, .loud (.call 27), [.t 102, .t 103]⟩, ⟨some 105, none, .pure (.bin .neq), [.t 104, .c (.int .i64 0)]⟩, ⟨some 106, none, .pure (.mov), [.t 105]⟩, ⟨some 107, some (106, false), .pure (.mov), [.t 5]⟩, ⟨some 108, some (106, false), .pure (.mov), [.t 14]⟩, ⟨some 109, some (106, false), .loud (.call 26), [.t 107, .t 108]⟩, ⟨some 110, some (106, false), .pure (.mov), [.t 15]⟩, ⟨some 111, some (106, false), .pure (.bin .sub), [.t 110, .c (.int .i64 1)]⟩, ⟨some 112, some (106, false), .pure (.bin .neq), [.t 109, .t 111]⟩, ⟨some 113, none, .pick, [.t 106, .c (.bool true), .t 112]⟩] [0, 5, 14, 113]) (.cond (.t 113) (.seq (.ops [⟨some 4, none, .pure (.mov), [.c (.bool false)]⟩] [4]) (.ret)) (.skip)))))))) (.seq (.ops [⟨some 115, none, .pure (.mov), [.t 5]⟩, ⟨some 116, none, .pure (.build [(.int .i64 0), .nils, (.int .u32 0), (.bool false), (.int .u32 0), (.bool false), (.int .u32 0), (.bool false), .nils] [(2, 1)]), [.c (.int .u32 500)]⟩, ⟨some 117, none, .loud (.call 22), [.t 115, .t 116]⟩, ⟨some 114, none, .pure (.mov), [.t 117]⟩, ⟨some 118, none, .pure (.ext 0), [.t 114]⟩, ⟨some 119, none, .pure (.ext 1), [.t 114]⟩, ⟨some 16, none, .pure (.mov), [.t 118]⟩, ⟨some 17, none, .pure (.mov), [.t 119]⟩] [0, 5, 14, 16, 17]) (.seq (.ops [⟨some 121, none, .pure (.mov), [.t 5]⟩, ⟨some 122, none, .pure (.mov), [.t 16]⟩, ⟨some 123, none, .loud (.call 23), [.t 121, .t 122]⟩, ⟨some 120, none, .pure (.mov), [.t 123]⟩, ⟨some 124, none, .pure (.ext 0), [.t 120]⟩, ⟨some 125, none, .pure (.ext 1), [.t 120]⟩, ⟨some 18, none, .alloc (.alloc [(.int .i64 0), .nils, (.int .u32 0), (.bool false), (.int .u32 0), (.bool false), (.int .u32 0), (.bool false), .nils]), []⟩, ⟨none, none, .loud (.st 9), [.t 18, .t 124]⟩, ⟨some 19, none, .pure (.mov), [.t 125]⟩] [0, 5, 14, 16, 17, 18, 19]) (.seq (.ops [⟨some 126, none, .pure (.mov), [.t 16]⟩, ⟨some 127, none, .pure (.mov), [.t 14]⟩, ⟨some 128, none, .pure (.bin .eql), [.t 126, .t 127]⟩, ⟨some 129, none, .pure (.mov), [.t 128]⟩, ⟨some 130, some (129, true), .pure (.mov), [.t 17]⟩, ⟨some 131, some (129, true), .pure (.bin .eql), [.t 130, .c (.int .i64 0)]⟩, ⟨some 132, none, .pick, [.t 129, .t 131, .c (.bool false)]⟩, ⟨some 133, none, .pure (.mov), [.t 132]⟩, ⟨some 134, some (133, true), .pure (.mov), [.t 19]⟩, ⟨some 135, none, .pick, [.t 133, .t 134, .c (.bool false)]⟩, ⟨some 136, none, .pure (.mov), [.t 135]⟩, ⟨some 137, some (136, true), .pure (.fld 2), [.t 18]⟩, ⟨some 138, some (136, true), .load (.ld 1 false), [.t 137]⟩, ⟨some 139, some (136, true), .pure (.bin .eql), [.t 138, .c (.int .u32 500)]⟩, ⟨some 140, none, .pick, [.t 136, .t 139, .c (.bool false)]⟩, ⟨some 141, none, .pure (.mov), [.t 140]⟩, ⟨some 142, some (141, true), .pure (.mov), [.t 5]⟩, ⟨some 143, some (141, true), .loud (.call 28), [.t 142]⟩, ⟨some 144, some (141, true), .pure (.mov), [.t 0]⟩, ⟨some 145, some (141, true), .pure (.bin .eql), [.t 143, .t 144]⟩, ⟨some 146, none, .pick, [.t 141, .t 145, .c (.bool false)]⟩, ⟨some 147, none, .pure (.mov), [.t 146]⟩, ⟨some 148, some (147, true), .loud (.call 19), []⟩, ⟨some 149, none, .pick, [.t 147, .t 148, .c (.bool false)]⟩, ⟨some 4, none, .pure (.mov), [.t 149]⟩] [4]) (.ret)))))))))))))
def F5 : Fn Try.prog 5 := Fn.mkX false b5 [.t 4] 150 Try.f5 _ Try.func5 (by decide) rfl Try.ntmps5 (by kernel_rfl) (by kernel_rfl)
/-- signpost/signpostbook.Within -/
def b14 : BC := .seq (.ops [⟨some 6, none, .pure (.mov), [.c (.int .i64 0)]⟩] [0, 1, 2]) (.seq (.ops [⟨some 7, none, .pure (.mov), [.t 0]⟩, ⟨some 8, none, .pure (.mov), [.t 2]⟩, ⟨some 9, none, .pure (.mov), [.t 1]⟩, ⟨some 10, none, .pure (.bin .sub), [.t 8, .t 9]⟩, ⟨some 11, none, .pure (.bin .add), [.t 10, .c (.int .i64 1)]⟩, ⟨some 12, none, .pure (.bin .rem), [.t 7, .t 11]⟩, ⟨some 0, none, .pure (.mov), [.t 12]⟩] [0, 1, 2]) (.seq (.seq (.ops [⟨some 13, none, .pure (.mov), [.t 0]⟩, ⟨some 14, none, .pure (.bin .lss), [.t 13, .c (.int .i64 0)]⟩] [0, 1, 2, 14]) (.cond (.t 14) (.ops [⟨some 15, none, .pure (.mov), [.t 0]⟩, ⟨some 16, none, .pure (.mov), [.t 2]⟩, ⟨some 17, none, .pure (.bin .add), [.t 15, .t 16]⟩, ⟨some 18, none, .pure (.mov), [.t 1]⟩, ⟨some 19, none, .pure (.bin .sub), [.t 17, .t 18]⟩, ⟨some 20, none, .pure (.bin .add), [.t 19, .c (.int .i64 1)]⟩, ⟨some 0, none, .pure (.mov), [.t 20]⟩] [0, 1]) (.skip))) (.seq (.ops [⟨some 21, none, .pure (.mov), [.t 1]⟩, ⟨some 22, none, .pure (.mov), [.t 0]⟩, ⟨some 23, none, .pure (.bin .add), [.t 21, .t 22]⟩, ⟨some 6, none, .pure (.mov), [.t 23]⟩] [6]) (.ret))))
def F14 : Fn Try.prog 14 := Fn.mkX false b14 [.t 6] 24 Try.f14 _ Try.func14 (by decide) rfl Try.ntmps14 (by kernel_rfl) (by kernel_rfl)
/-- signpost/intern.New -/
def b15 : BC := .seq (.ops [⟨some 2, none, .pure (.mov), [.c .nil]⟩, ⟨some 3, none, .pure (.mov), [.c (.int .i64 0)]⟩] [0]) (.seq (.seq (.ops [⟨some 4, none, .pure (.mov), [.t 0]⟩, ⟨some 5, none, .pure (.bin .lss), [.t 4, .c (.int .i64 1)]⟩, ⟨some 6, none, .pure (.mov), [.t 5]⟩, ⟨some 7, some (6, false), .pure (.mov), [.t 0]⟩, ⟨some 8, some (6, false), .pure (.bin .gtr), [.t 7, .c (.int .i64 4096)]⟩, ⟨some 9, none, .pick, [.t 6, .c (.bool true), .t 8]⟩] [0, 9]) (.cond (.t 9) (.seq (.ops [⟨some 2, none, .pure (.mov), [.c .nil]⟩, ⟨some 3, none, .pure (.mov), [.c (.int .i64 1)]⟩] [2, 3]) (.ret)) (.skip))) (.seq (.ops [⟨some 10, none, .pure (.mov), [.t 0]⟩, ⟨some 11, none, .pure (.build [(.int .i64 0), .nils] [(0, 1)]), [.t 10]⟩, ⟨some 12, none, .alloc (.box), [.t 11]⟩, ⟨some 2, none, .pure (.mov), [.t 12]⟩, ⟨some 3, none, .pure (.mov), [.c (.int .i64 0)]⟩] [2, 3]) (.ret)))
def F15 : Fn Try.prog 15 := Fn.mkX false b15 [.t 2, .t 3] 13 Try.f15 _ Try.func15 (by decide) rfl Try.ntmps15 (by kernel_rfl) (by kernel_rfl)
/-- signpost/signpostlaw11.known -/
def b19 : BC := .seq (.ops [⟨some 0, none, .pure (.mov), [.c (.bool false)]⟩] []) (.seq (.ops [⟨some 9, none, .loud (.call 15), [.c (.int .i64 4)]⟩, ⟨some 8, none, .pure (.mov), [.t 9]⟩, ⟨some 10, none, .pure (.ext 0), [.t 8]⟩, ⟨some 11, none, .pure (.ext 1), [.t 8]⟩, ⟨some 1, none, .pure (.mov), [.t 10]⟩, ⟨some 2, none, .pure (.mov), [.t 11]⟩] [1, 2]) (.seq (.seq (.ops [⟨some 12, none, .pure (.mov), [.t 1]⟩, ⟨some 13, none, .pure (.eqnil false true), [.t 12]⟩, ⟨some 14, none, .pure (.mov), [.t 13]⟩, ⟨some 15, some (14, false), .pure (.mov), [.t 2]⟩, ⟨some 16, some (14, false), .pure (.bin .neq), [.t 15, .c (.int .i64 0)]⟩, ⟨some 17, none, .pick, [.t 14, .c (.bool true), .t 16]⟩] [1, 17]) (.cond (.t 17) (.seq (.ops [⟨some 0, none, .pure (.mov), [.c (.bool false)]⟩] [0]) (.ret)) (.skip))) (.seq (.ops [⟨some 19, none, .pure (.mov), [.t 1]⟩, ⟨some 20, none, .pure (.build [(.int .i64 0), .nils, (.int .u32 0), (.bool false), (.int .u32 0), (.bool false), (.int .u32 0), (.bool false), .nils] [(2, 1)]), [.c (.int .u32 5)]⟩, ⟨some 21, none, .loud (.call 22), [.t 19, .t 20]⟩, ⟨some 18, none, .pure (.mov), [.t 21]⟩, ⟨some 22, none, .pure (.ext 0), [.t 18]⟩, ⟨some 23, none, .pure (.ext 1), [.t 18]⟩, ⟨some 3, none, .pure (.mov), [.t 22]⟩, ⟨some 4, none, .pure (.mov), [.t 23]⟩] [1, 3]) (.seq (.ops [⟨some 25, none, .pure (.mov), [.t 1]⟩, ⟨some 26, none, .pure (.build [(.int .i64 0), .nils, (.int .u32 0), (.bool false), (.int .u32 0), (.bool false), (.int .u32 0), (.bool false), .nils] [(2, 1)]), [.c (.int .u32 5)]⟩, ⟨some 27, none, .loud (.call 22), [.t 25, .t 26]⟩, ⟨some 24, none, .pure (.mov), [.t 27]⟩, ⟨some 28, none, .pure (.ext 0), [.t 24]⟩, ⟨some 29, none, .pure (.ext 1), [.t 24]⟩, ⟨some 5, none, .pure (.mov), [.t 28]⟩, ⟨some 6, none, .pure (.mov), [.t 29]⟩] [1, 3, 5]) (.seq (.ops [⟨some 30, none, .pure (.mov), [.t 1]⟩, ⟨some 31, none, .loud (.call 27), [.t 30, .c (.int .i64 0)]⟩, ⟨some 7, none, .pure (.mov), [.t 31]⟩] [1, 3, 5, 7]) (.seq (.ops [⟨some 32, none, .pure (.mov), [.t 3]⟩, ⟨some 33, none, .pure (.bin .eql), [.t 32, .c (.int .i64 0)]⟩, ⟨some 34, none, .pure (.mov), [.t 33]⟩, ⟨some 35, some (34, true), .pure (.mov), [.t 5]⟩, ⟨some 36, some (34, true), .pure (.bin .eql), [.t 35, .c (.int .i64 0)]⟩, ⟨some 37, none, .pick, [.t 34, .t 36, .c (.bool false)]⟩, ⟨some 38, none, .pure (.mov), [.t 37]⟩, ⟨some 39, some (38, true), .pure (.mov), [.t 7]⟩, ⟨some 40, some (38, true), .pure (.bin .eql), [.t 39, .c (.int .i64 0)]⟩, ⟨some 41, none, .pick, [.t 38, .t 40, .c (.bool false)]⟩, ⟨some 42, none, .pure (.mov), [.t 41]⟩, ⟨some 43, some (42, true), .pure (.mov), [.t 1]⟩, ⟨some 44, some (42, true), .loud (.call 26), [.t 43, .c (.int .i64 0)]⟩, ⟨some 45, some (42, true), .pure (.bin .eql), [.t 44, .c (.int .i64 1)]⟩, ⟨some 46, none, .pick, [.t 42, .t 45, .c (.bool false)]⟩, ⟨some 47, none, .pure (.mov), [.t 46]⟩, ⟨some 48, some (47, true), .pure (.mov), [.t 1]⟩, ⟨some 49, some (47, true), .loud (.call 28), [.t 48]⟩, ⟨some 50, some (47, true), .pure (.bin .eql), [.t 49, .c (.int .i64 1)]⟩, ⟨some 51, none, .pick, [.t 47, .t 50, .c (.bool false)]⟩, ⟨some 0, none, .pure (.mov), [.t 51]⟩] [0]) (.ret)))))))
def F19 : Fn Try.prog 19 := Fn.mkX false b19 [.t 0] 52 Try.f19 _ Try.func19 (by decide) rfl Try.ntmps19 (by kernel_rfl) (by kernel_rfl)
/-- (*signpost/intern.Table).Add -/
def b22 : BC := .seq (.ops [⟨some 3, none, .alloc (.box), [.t 1]⟩, ⟨some 4, none, .pure (.mov), [.c (.int .i64 0)]⟩, ⟨some 5, none, .pure (.mov), [.c (.int .i64 0)]⟩] [0, 3]) (.seq (.ops [⟨some 9, none, .load (.ld 9 true), [.t 3]⟩, ⟨some 10, none, .loud (.call 52), [.t 9]⟩, ⟨none, none, .loud (.st 9), [.t 3, .t 10]⟩] [0, 3]) (.seq (.ops [⟨some 11, none, .pure (.mov), [.t 0]⟩, ⟨some 12, none, .pure (.nilchk), [.t 11]⟩, ⟨some 13, none, .pure (.fld 1), [.t 12]⟩, ⟨some 14, none, .load (.ld 1 false), [.t 13]⟩, ⟨some 15, none, .pure (.len), [.t 14]⟩, ⟨some 6, none, .pure (.mov), [.t 15]⟩] [0, 3, 6]) (.seq (.seq (.ops [⟨some 16, none, .pure (.mov), [.t 0]⟩, ⟨some 17, none, .pure (.nilchk), [.t 16]⟩, ⟨some 18, none, .pure (.fld 1), [.t 17]⟩, ⟨some 19, none, .load (.ld 1 false), [.t 18]⟩, ⟨some 20, none, .pure (.len), [.t 19]⟩, ⟨some 21, none, .pure (.bin .sub), [.t 20, .c (.int .i64 1)]⟩, ⟨some 7, none, .pure (.mov), [.t 21]⟩] [0, 3, 6, 7]) (.block 0 (.loop [0, 3, 6, 7] (.seq (.seq (.ops [⟨some 22, none, .pure (.mov), [.t 7]⟩, ⟨some 23, none, .pure (.bin .geq), [.t 22, .c (.int .i64 0)]⟩] [0, 3, 6, 7, 23]) (.cond (.t 23) (.skip) (.exit 0))) (.seq (.block 1 (.seq (.ops [⟨some 26, none, .pure (.mov), [.t 0]⟩, ⟨some 27, none, .pure (.nilchk), [.t 26]⟩, ⟨some 28, none, .pure (.fld 1), [.t 27]⟩, ⟨some 29, none, .load (.ld 1 false), [.t 28]⟩, ⟨some 30, none, .pure (.mov), [.t 7]⟩, ⟨some 31, none, .pure (.idx 10), [.t 29, .t 30]⟩, ⟨some 8, none, .pure (.mov), [.t 31]⟩] [0, 3, 6, 7, 8]) (.block 2 (.seq (.ops [⟨some 33, none, .pure (.mov), [.t 8]⟩, ⟨some 34, none, .pure (.nilchk), [.t 33]⟩, ⟨some 35, none, .pure (.fld 9), [.t 34]⟩, ⟨some 36, none, .load (.ld 1 false), [.t 35]⟩, ⟨some 37, none, .pure (.bin .eql), [.t 36, .c (.int .i64 0)]⟩, ⟨some 32, none, .pure (.mov), [.t 37]⟩] [0, 3, 6, 7, 8, 32]) (.cond (.t 32) (.ops [⟨some 38, none, .pure (.mov), [.t 7]⟩, ⟨some 6, none, .pure (.mov), [.t 38]⟩] [0, 3, 6, 7]) (.seq (.ops [⟨some 40, none, .pure (.mov), [.t 8]⟩, ⟨some 41, none, .pure (.nilchk), [.t 40]⟩, ⟨some 42, none, .pure (.fld 0), [.t 41]⟩, ⟨some 43, none, .load (.ld 9 true), [.t 42]⟩, ⟨some 44, none, .load (.ld 9 true), [.t 3]⟩, ⟨some 45, none, .loud (.call 53), [.t 43, .t 44]⟩, ⟨some 39, none, .pure (.mov), [.t 45]⟩] [0, 3, 6, 7, 8, 39]) (.cond (.t 39) (.seq (.ops [⟨some 46, none, .pure (.mov), [.t 8]⟩, ⟨some 47, none, .pure (.nilchk), [.t 46]⟩, ⟨some 48, none, .pure (.fld 9), [.t 47]⟩, ⟨some 49, none, .load (.ld 1 false), [.t 48]⟩, ⟨some 50, none, .pure (.bin .add), [.t 49, .c (.int .i64 1)]⟩, ⟨some 51, none, .pure (.nilchk), [.t 46]⟩, ⟨some 52, none, .pure (.fld 9), [.t 51]⟩, ⟨none, none, .loud (.st 1), [.t 52, .t 50]⟩] [7]) (.seq (.ops [⟨some 53, none, .pure (.mov), [.t 7]⟩, ⟨some 4, none, .pure (.mov), [.t 53]⟩, ⟨some 5, none, .pure (.mov), [.c (.int .i64 0)]⟩] [4, 5]) (.ret))) (.skip)))))))) (.ops [⟨some 24, none, .pure (.mov), [.t 7]⟩, ⟨some 25, none, .pure (.bin .sub), [.t 24, .c (.int .i64 1)]⟩, ⟨some 7, none, .pure (.mov), [.t 25]⟩] [0, 3, 6, 7])))))) (.seq (.seq (.ops [⟨some 54, none, .pure (.mov), [.t 0]⟩, ⟨some 56, none, .pure (.mov), [.t 0]⟩, ⟨some 57, none, .pure (.nilchk), [.t 56]⟩, ⟨some 58, none, .pure (.fld 0), [.t 57]⟩, ⟨some 59, none, .load (.ld 1 false), [.t 58]⟩, ⟨some 55, none, .qcall 28, [.t 54]⟩, ⟨some 60, none, .pure (.bin .geq), [.t 55, .t 59]⟩] [0, 3, 6, 60]) (.cond (.t 60) (.seq (.ops [⟨some 4, none, .pure (.mov), [.c (.int .i64 0)]⟩, ⟨some 5, none, .pure (.mov), [.c (.int .i64 13)]⟩] [4, 5]) (.ret)) (.skip))) (.seq (.seq (.ops [⟨some 61, none, .pure (.mov), [.t 6]⟩, ⟨some 62, none, .pure (.mov), [.t 0]⟩, ⟨some 63, none, .pure (.nilchk), [.t 62]⟩, ⟨some 64, none, .pure (.fld 1), [.t 63]⟩, ⟨some 65, none, .load (.ld 1 false), [.t 64]⟩, ⟨some 66, none, .pure (.len), [.t 65]⟩, ⟨some 67, none, .pure (.bin .eql), [.t 61, .t 66]⟩] [0, 3, 6, 67]) (.cond (.t 67) (.ops [⟨some 68, none, .pure (.mov), [.t 0]⟩, ⟨some 69, none, .pure (.mov), [.t 0]⟩, ⟨some 70, none, .pure (.nilchk), [.t 69]⟩, ⟨some 71, none, .pure (.fld 1), [.t 70]⟩, ⟨some 72, none, .load (.ld 1 false), [.t 71]⟩, ⟨some 73, none, .pure (.build [(.int .i64 0), .nils, (.int .u32 0), (.bool false), (.int .u32 0), (.bool false), (.int .u32 0), (.bool false), .nils, (.int .i64 0)] []), []⟩, ⟨some 74, none, .alloc (.mksl 10 1), [.t 73]⟩, ⟨some 75, none, .loud (.app 10 88), [.t 72, .t 74]⟩, ⟨some 76, none, .pure (.nilchk), [.t 68]⟩, ⟨some 77, none, .pure (.fld 1), [.t 76]⟩, ⟨none, none, .loud (.st 1), [.t 77, .t 75]⟩] [0, 3, 6]) (.skip))) (.seq (.ops [⟨some 78, none, .pure (.mov), [.t 0]⟩, ⟨some 79, none, .pure (.nilchk), [.t 78]⟩, ⟨some 80, none, .pure (.fld 1), [.t 79]⟩, ⟨some 82, none, .pure (.mov), [.t 6]⟩, ⟨some 81, none, .load (.ld 1 false), [.t 80]⟩, ⟨some 83, none, .load (.ld 9 true), [.t 3]⟩, ⟨some 84, none, .pure (.build [(.int .i64 0), .nils, (.int .u32 0), (.bool false), (.int .u32 0), (.bool false), (.int .u32 0), (.bool false), .nils, (.int .i64 0)] [(0, 9), (9, 1)]), [.t 83, .c (.int .i64 1)]⟩, ⟨some 85, none, .pure (.idx 10), [.t 81, .t 82]⟩, ⟨none, none, .loud (.st 10), [.t 85, .t 84]⟩] [6]) (.seq (.ops [⟨some 86, none, .pure (.mov), [.t 6]⟩, ⟨some 4, none, .pure (.mov), [.t 86]⟩, ⟨some 5, none, .pure (.mov), [.c (.int .i64 0)]⟩] [4, 5]) (.ret))))))))
def F22 : Fn Try.prog 22 := Fn.mkX false b22 [.t 4, .t 5] 87 Try.f22 _ Try.func22 (by decide) rfl Try.ntmps22 (by kernel_rfl) (by kernel_rfl)
/-- (*signpost/intern.Table).Get -/
def b23 : BC := .seq (.ops [⟨some 4, none, .alloc (.alloc [(.int .i64 0), .nils, (.int .u32 0), (.bool false), (.int .u32 0), (.bool false), (.int .u32 0), (.bool false), .nils]), []⟩, ⟨some 5, none, .pure (.mov), [.c (.bool false)]⟩] [0, 1, 4]) (.seq (.seq (.ops [⟨some 6, none, .pure (.mov), [.t 0]⟩, ⟨some 7, none, .pure (.mov), [.t 1]⟩, ⟨some 8, none, .loud (.call 54), [.t 6, .t 7]⟩, ⟨some 9, none, .pure (.not), [.t 8]⟩] [0, 1, 4, 9]) (.cond (.t 9) (.seq (.ops [⟨some 10, none, .pure (.build [(.int .i64 0), .nils, (.int .u32 0), (.bool false), (.int .u32 0), (.bool false), (.int .u32 0), (.bool false), .nils] []), []⟩, ⟨none, none, .loud (.st 9), [.t 4, .t 10]⟩, ⟨some 5, none, .pure (.mov), [.c (.bool false)]⟩] [4, 5]) (.ret)) (.skip))) (.seq (.ops [⟨some 11, none, .pure (.mov), [.t 0]⟩, ⟨some 12, none, .pure (.nilchk), [.t 11]⟩, ⟨some 13, none, .pure (.fld 1), [.t 12]⟩, ⟨some 14, none, .load (.ld 1 false), [.t 13]⟩, ⟨some 15, none, .pure (.mov), [.t 1]⟩, ⟨some 16, none, .pure (.idx 10), [.t 14, .t 15]⟩, ⟨some 17, none, .pure (.fld 0), [.t 16]⟩, ⟨some 18, none, .load (.ld 9 true), [.t 17]⟩, ⟨some 19, none, .loud (.call 52), [.t 18]⟩, ⟨none, none, .loud (.st 9), [.t 4, .t 19]⟩, ⟨some 5, none, .pure (.mov), [.c (.bool true)]⟩] [4, 5]) (.ret)))
def F23 : Fn Try.prog 23 := Fn.mkX false b23 [.c 4 9 true, .t 5] 20 Try.f23 _ Try.func23 (by decide) rfl Try.ntmps23 (by kernel_rfl) (by kernel_rfl)
/-- (*signpost/intern.Table).Uses -/
def b26 : BC := .seq (.ops [⟨some 4, none, .pure (.mov), [.c (.int .i64 0)]⟩] [0, 1]) (.seq (.seq (.ops [⟨some 5, none, .pure (.mov), [.t 0]⟩, ⟨some 6, none, .pure (.mov), [.t 1]⟩, ⟨some 7, none, .loud (.call 54), [.t 5, .t 6]⟩, ⟨some 8, none, .pure (.not), [.t 7]⟩] [0, 1, 8]) (.cond (.t 8) (.seq (.ops [⟨some 4, none, .pure (.mov), [.c (.int .i64 0)]⟩] [4]) (.ret)) (.skip))) (.seq (.ops [⟨some 9, none, .pure (.mov), [.t 0]⟩, ⟨some 10, none, .pure (.nilchk), [.t 9]⟩, ⟨some 11, none, .pure (.fld 1), [.t 10]⟩, ⟨some 12, none, .load (.ld 1 false), [.t 11]⟩, ⟨some 13, none, .pure (.mov), [.t 1]⟩, ⟨some 14, none, .pure (.idx 10), [.t 12, .t 13]⟩, ⟨some 15, none, .pure (.fld 9), [.t 14]⟩, ⟨some 16, none, .load (.ld 1 false), [.t 15]⟩, ⟨some 4, none, .pure (.mov), [.t 16]⟩] [4]) (.ret)))
def F26 : Fn Try.prog 26 := Fn.mkX false b26 [.t 4] 17 Try.f26 _ Try.func26 (by decide) rfl Try.ntmps26 (by kernel_rfl) (by kernel_rfl)
/-- (*signpost/intern.Table).Drop -/
def b27 : BC := .seq (.ops [⟨some 4, none, .pure (.mov), [.c (.int .i64 0)]⟩] [0, 1]) (.seq (.seq (.ops [⟨some 5, none, .pure (.mov), [.t 0]⟩, ⟨some 6, none, .pure (.mov), [.t 1]⟩, ⟨some 7, none, .loud (.call 54), [.t 5, .t 6]⟩, ⟨some 8, none, .pure (.not), [.t 7]⟩] [0, 1, 8]) (.cond (.t 8) (.seq (.ops [⟨some 4, none, .pure (.mov), [.c (.int .i64 22)]⟩] [4]) (.ret)) (.skip))) (.seq (.ops [⟨some 9, none, .pure (.mov), [.t 0]⟩, ⟨some 10, none, .pure (.nilchk), [.t 9]⟩, ⟨some 11, none, .pure (.fld 1), [.t 10]⟩, ⟨some 12, none, .load (.ld 1 false), [.t 11]⟩, ⟨some 13, none, .pure (.mov), [.t 1]⟩, ⟨some 14, none, .pure (.idx 10), [.t 12, .t 13]⟩, ⟨some 15, none, .pure (.fld 9), [.t 14]⟩, ⟨some 16, none, .load (.ld 1 false), [.t 15]⟩, ⟨some 17, none, .pure (.bin .sub), [.t 16, .c (.int .i64 1)]⟩, ⟨some 18, none, .pure (.idx 10), [.t 12, .t 13]⟩, ⟨some 19, none, .pure (.fld 9), [.t 18]⟩, ⟨none, none, .loud (.st 1), [.t 19, .t 17]⟩] [0, 1]) (.seq (.seq (.ops [⟨some 20, none, .pure (.mov), [.t 0]⟩, ⟨some 21, none, .pure (.nilchk), [.t 20]⟩, ⟨some 22, none, .pure (.fld 1), [.t 21]⟩, ⟨some 23, none, .load (.ld 1 false), [.t 22]⟩, ⟨some 24, none, .pure (.mov), [.t 1]⟩, ⟨some 25, none, .pure (.idx 10), [.t 23, .t 24]⟩, ⟨some 26, none, .pure (.fld 9), [.t 25]⟩, ⟨some 27, none, .load (.ld 1 false), [.t 26]⟩, ⟨some 28, none, .pure (.bin .eql), [.t 27, .c (.int .i64 0)]⟩] [0, 1, 28]) (.cond (.t 28) (.ops [⟨some 29, none, .pure (.mov), [.t 0]⟩, ⟨some 30, none, .pure (.nilchk), [.t 29]⟩, ⟨some 31, none, .pure (.fld 1), [.t 30]⟩, ⟨some 32, none, .load (.ld 1 false), [.t 31]⟩, ⟨some 33, none, .pure (.mov), [.t 1]⟩, ⟨some 34, none, .pure (.build [(.int .i64 0), .nils, (.int .u32 0), (.bool false), (.int .u32 0), (.bool false), (.int .u32 0), (.bool false), .nils, (.int .i64 0)] []), []⟩, ⟨some 35, none, .pure (.idx 10), [.t 32, .t 33]⟩, ⟨none, none, .loud (.st 10), [.t 35, .t 34]⟩] []) (.skip))) (.seq (.ops [⟨some 4, none, .pure (.mov), [.c (.int .i64 0)]⟩] [4]) (.ret)))))
def F27 : Fn Try.prog 27 := Fn.mkX false b27 [.t 4] 36 Try.f27 _ Try.func27 (by decide) rfl Try.ntmps27 (by kernel_rfl) (by kernel_rfl)
/-- (*signpost/intern.Table).Len -/
def b28 : BC := .seq (.ops [⟨some 2, none, .pure (.mov), [.c (.int .i64 0)]⟩] [0]) (.seq (.ops [⟨some 6, none, .pure (.mov), [.t 0]⟩, ⟨some 7, none, .pure (.nilchk), [.t 6]⟩, ⟨some 8, none, .pure (.fld 1), [.t 7]⟩, ⟨some 9, none, .load (.ld 1 false), [.t 8]⟩, ⟨some 10, none, .pure (.len), [.t 9]⟩, ⟨some 3, none, .pure (.mov), [.t 10]⟩] [0, 3]) (.seq (.seq (.ops [⟨some 11, none, .pure (.mov), [.t 0]⟩, ⟨some 12, none, .pure (.nilchk), [.t 11]⟩, ⟨some 13, none, .pure (.fld 1), [.t 12]⟩, ⟨some 14, none, .load (.ld 1 false), [.t 13]⟩, ⟨some 15, none, .pure (.len), [.t 14]⟩, ⟨some 16, none, .pure (.mov), [.c (.int .i64 0)]⟩] [3, 14, 15, 16]) (.block 0 (.loop [3, 14, 15, 16] (.seq (.ops [⟨some 17, none, .pure (.bin .lss), [.t 16, .t 15]⟩] [3, 14, 15, 16, 17]) (.seq (.cond (.t 17) (.skip) (.exit 0)) (.seq (.block 1 (.seq (.ops [⟨some 18, none, .pure (.idx 10), [.t 14, .t 16]⟩, ⟨some 19, none, .load (.ld 10 true), [.t 18]⟩, ⟨some 5, none, .alloc (.alloc [(.int .i64 0), .nils, (.int .u32 0), (.bool false), (.int .u32 0), (.bool false), (.int .u32 0), (.bool false), .nils, (.int .i64 0)]), []⟩, ⟨none, none, .loud (.st 10), [.t 5, .t 19]⟩] [3, 5, 14, 15, 16]) (.seq (.ops [⟨some 20, none, .pure (.fld 9), [.t 5]⟩, ⟨some 21, none, .load (.ld 1 false), [.t 20]⟩, ⟨some 22, none, .pure (.bin .eql), [.t 21, .c (.int .i64 0)]⟩] [3, 14, 15, 16, 22]) (.cond (.t 22) (.ops [⟨some 23, none, .pure (.mov), [.t 3]⟩, ⟨some 24, none, .pure (.bin .sub), [.t 23, .c (.int .i64 1)]⟩, ⟨some 3, none, .pure (.mov), [.t 24]⟩] [3, 14, 15, 16]) (.skip))))) (.ops [⟨some 25, none, .pure (.bin .add), [.t 16, .c (.int .i64 1)]⟩, ⟨some 16, none, .pure (.mov), [.t 25]⟩] [3, 14, 15, 16]))))))) (.seq (.ops [⟨some 26, none, .pure (.mov), [.t 3]⟩, ⟨some 2, none, .pure (.mov), [.t 26]⟩] [2]) (.ret))))
def F28 : Fn Try.prog 28 := Fn.mkX false b28 [.t 2] 27 Try.f28 _ Try.func28 (by decide) rfl Try.ntmps28 (by kernel_rfl) (by kernel_rfl)
/-- signpost/attr.Canon -/
def b52 : BC := .seq (.ops [⟨some 1, none, .alloc (.box), [.t 0]⟩, ⟨some 2, none, .alloc (.alloc [(.int .i64 0), .nils, (.int .u32 0), (.bool false), (.int .u32 0), (.bool false), (.int .u32 0), (.bool false), .nils]), []⟩] [1, 2]) (.seq (.ops [⟨some 3, none, .pure (.fld 1), [.t 1]⟩, ⟨some 4, none, .load (.ld 1 false), [.t 3]⟩, ⟨some 5, none, .loud (.call 78), [.t 4]⟩, ⟨some 6, none, .pure (.fld 1), [.t 1]⟩, ⟨none, none, .loud (.st 1), [.t 6, .t 5]⟩] [1, 2]) (.seq (.seq (.ops [⟨some 7, none, .pure (.fld 3), [.t 1]⟩, ⟨some 8, none, .load (.ld 1 false), [.t 7]⟩, ⟨some 9, none, .pure (.not), [.t 8]⟩] [1, 2, 9]) (.cond (.t 9) (.ops [⟨some 10, none, .pure (.fld 4), [.t 1]⟩, ⟨none, none, .loud (.st 1), [.t 10, .c (.int .u32 0)]⟩] [1, 2]) (.skip))) (.seq (.seq (.ops [⟨some 11, none, .pure (.fld 5), [.t 1]⟩, ⟨some 12, none, .load (.ld 1 false), [.t 11]⟩, ⟨some 13, none, .pure (.not), [.t 12]⟩] [1, 2, 13]) (.cond (.t 13) (.ops [⟨some 14, none, .pure (.fld 6), [.t 1]⟩, ⟨none, none, .loud (.st 1), [.t 14, .c (.int .u32 0)]⟩] [1, 2]) (.skip))) (.seq (.ops [⟨some 15, none, .pure (.fld 8), [.t 1]⟩, ⟨some 16, none, .load (.ld 1 false), [.t 15]⟩, ⟨some 17, none, .loud (.call 81), [.t 16]⟩, ⟨some 18, none, .loud (.call 80), [.t 17]⟩, ⟨some 19, none, .loud (.call 79), [.t 18]⟩, ⟨some 20, none, .pure (.fld 8), [.t 1]⟩, ⟨none, none, .loud (.st 1), [.t 20, .t 19]⟩] [1, 2]) (.seq (.ops [⟨some 21, none, .load (.ld 9 true), [.t 1]⟩, ⟨none, none, .loud (.st 9), [.t 2, .t 21]⟩] [2]) (.ret))))))
def F52 : Fn Try.prog 52 := Fn.mkX false b52 [.c 2 9 true] 22 Try.f52 _ Try.func52 (by decide) rfl Try.ntmps52 (by kernel_rfl) (by kernel_rfl)
/-- signpost/attr.Same -/
def b53 : BC := .seq (.ops [⟨some 2, none, .alloc (.box), [.t 0]⟩, ⟨some 3, none, .alloc (.box), [.t 1]⟩, ⟨some 4, none, .pure (.mov), [.c (.bool false)]⟩] [2, 3]) (.seq (.ops [⟨some 5, none, .load (.ld 9 true), [.t 2]⟩, ⟨some 6, none, .load (.ld 9 true), [.t 3]⟩, ⟨some 7, none, .loud (.call 82), [.t 5, .t 6]⟩, ⟨some 8, none, .pure (.bin .eql), [.t 7, .c (.int .i64 0)]⟩, ⟨some 4, none, .pure (.mov), [.t 8]⟩] [4]) (.ret))
def F53 : Fn Try.prog 53 := Fn.mkX false b53 [.t 4] 9 Try.f53 _ Try.func53 (by decide) rfl Try.ntmps53 (by kernel_rfl) (by kernel_rfl)
/-- (*signpost/intern.Table).is -/
def b54 : BC := .seq (.ops [⟨some 4, none, .pure (.mov), [.c (.bool false)]⟩] [0, 1]) (.seq (.ops [⟨some 5, none, .pure (.mov), [.t 1]⟩, ⟨some 6, none, .pure (.bin .geq), [.t 5, .c (.int .i64 0)]⟩, ⟨some 7, none, .pure (.mov), [.t 6]⟩, ⟨some 8, some (7, true), .pure (.mov), [.t 1]⟩, ⟨some 9, some (7, true), .pure (.mov), [.t 0]⟩, ⟨some 10, some (7, true), .pure (.nilchk), [.t 9]⟩, ⟨some 11, some (7, true), .pure (.fld 1), [.t 10]⟩, ⟨some 12, some (7, true), .load (.ld 1 false), [.t 11]⟩, ⟨some 13, some (7, true), .pure (.len), [.t 12]⟩, ⟨some 14, some (7, true), .pure (.bin .lss), [.t 8, .t 13]⟩, ⟨some 15, none, .pick, [.t 7, .t 14, .c (.bool false)]⟩, ⟨some 16, none, .pure (.mov), [.t 15]⟩, ⟨some 17, some (16, true), .pure (.mov), [.t 0]⟩, ⟨some 18, some (16, true), .pure (.nilchk), [.t 17]⟩, ⟨some 19, some (16, true), .pure (.fld 1), [.t 18]⟩, ⟨some 20, some (16, true), .load (.ld 1 false), [.t 19]⟩, ⟨some 21, some (16, true), .pure (.mov), [.t 1]⟩, ⟨some 22, some (16, true), .pure (.idx 10), [.t 20, .t 21]⟩, ⟨some 23, some (16, true), .pure (.fld 9), [.t 22]⟩, ⟨some 24, some (16, true), .load (.ld 1 false), [.t 23]⟩, ⟨some 25, some (16, true), .pure (.bin .gtr), [.t 24, .c (.int .i64 0)]⟩, ⟨some 26, none, .pick, [.t 16, .t 25, .c (.bool false)]⟩, ⟨some 4, none, .pure (.mov), [.t 26]⟩] [4]) (.ret))
def F54 : Fn Try.prog 54 := Fn.mkX false b54 [.t 4] 27 Try.f54 _ Try.func54 (by decide) rfl Try.ntmps54 (by kernel_rfl) (by kernel_rfl)
/-- signpost/aspath.Copy -/
def b78 : BC := .seq (.ops [⟨some 2, none, .pure (.mov), [.c .nils]⟩] [0]) (.seq (.ops [⟨some 3, none, .pure (.mov), [.c .nils]⟩] [0, 3]) (.seq (.seq (.ops [⟨some 6, none, .pure (.mov), [.t 0]⟩, ⟨some 7, none, .pure (.len), [.t 6]⟩, ⟨some 8, none, .pure (.mov), [.c (.int .i64 0)]⟩] [3, 6, 7, 8]) (.block 0 (.loop [3, 6, 7, 8] (.seq (.ops [⟨some 9, none, .pure (.bin .lss), [.t 8, .t 7]⟩] [3, 6, 7, 8, 9]) (.seq (.cond (.t 9) (.skip) (.exit 0)) (.seq (.block 1 (.seq (.ops [⟨some 10, none, .pure (.idx 2), [.t 6, .t 8]⟩, ⟨some 11, none, .load (.ld 2 true), [.t 10]⟩, ⟨some 5, none, .alloc (.alloc [(.int .i64 0), .nils]), []⟩, ⟨none, none, .loud (.st 2), [.t 5, .t 11]⟩] [3, 5, 6, 7, 8]) (.ops [⟨some 12, none, .pure (.mov), [.t 3]⟩, ⟨some 13, none, .pure (.fld 0), [.t 5]⟩, ⟨some 15, none, .pure (.fld 1), [.t 5]⟩, ⟨some 14, none, .load (.ld 1 false), [.t 13]⟩, ⟨some 16, none, .load (.ld 1 false), [.t 15]⟩, ⟨some 17, none, .qcall 105, [.t 16]⟩, ⟨some 18, none, .pure (.build [(.int .i64 0), .nils] [(0, 1), (1, 1)]), [.t 14, .t 17]⟩, ⟨some 19, none, .alloc (.mksl 2 1), [.t 18]⟩, ⟨some 20, none, .loud (.app 2 32), [.t 12, .t 19]⟩, ⟨some 3, none, .pure (.mov), [.t 20]⟩] [3, 6, 7, 8]))) (.ops [⟨some 21, none, .pure (.bin .add), [.t 8, .c (.int .i64 1)]⟩, ⟨some 8, none, .pure (.mov), [.t 21]⟩] [3, 6, 7, 8]))))))) (.seq (.ops [⟨some 22, none, .pure (.mov), [.t 3]⟩, ⟨some 2, none, .pure (.mov), [.t 22]⟩] [2]) (.ret))))
def F78 : Fn Try.prog 78 := Fn.mkX false b78 [.t 2] 23 Try.f78 _ Try.func78 (by decide) rfl Try.ntmps78 (by kernel_rfl) (by kernel_rfl)
/-- slices.Compact[[]uint32,uint32] -/
def b79 : BC := .seq (.ops [⟨some 2, none, .pure (.mov), [.c .nils]⟩] [0]) (.seq (.seq (.ops [⟨some 6, none, .pure (.mov), [.t 0]⟩, ⟨some 7, none, .pure (.len), [.t 6]⟩, ⟨some 8, none, .pure (.bin .lss), [.t 7, .c (.int .i64 2)]⟩] [0, 8]) (.cond (.t 8) (.seq (.ops [⟨some 9, none, .pure (.mov), [.t 0]⟩, ⟨some 2, none, .pure (.mov), [.t 9]⟩] [2]) (.ret)) (.skip))) (.seq (.seq (.ops [⟨some 3, none, .pure (.mov), [.c (.int .i64 1)]⟩] [0, 3]) (.block 0 (.loop [0, 3] (.seq (.seq (.ops [⟨some 10, none, .pure (.mov), [.t 3]⟩, ⟨some 11, none, .pure (.mov), [.t 0]⟩, ⟨some 12, none, .pure (.len), [.t 11]⟩, ⟨some 13, none, .pure (.bin .lss), [.t 10, .t 12]⟩] [0, 3, 13]) (.cond (.t 13) (.skip) (.exit 0))) (.seq (.block 1 (.seq (.ops [⟨some 16, none, .pure (.mov), [.t 0]⟩, ⟨some 17, none, .pure (.mov), [.t 3]⟩, ⟨some 18, none, .pure (.idx 1), [.t 16, .t 17]⟩, ⟨some 20, none, .pure (.mov), [.t 0]⟩, ⟨some 21, none, .pure (.mov), [.t 3]⟩, ⟨some 22, none, .pure (.bin .sub), [.t 21, .c (.int .i64 1)]⟩, ⟨some 23, none, .pure (.idx 1), [.t 20, .t 22]⟩, ⟨some 19, none, .load (.ld 1 false), [.t 18]⟩, ⟨some 24, none, .load (.ld 1 false), [.t 23]⟩, ⟨some 25, none, .pure (.bin .eql), [.t 19, .t 24]⟩] [0, 3, 25]) (.cond (.t 25) (.seq (.ops [⟨some 26, none, .pure (.mov), [.t 0]⟩, ⟨some 27, none, .pure (.mov), [.t 3]⟩, ⟨some 28, none, .pure (.slice 1 true false), [.t 26, .t 27]⟩, ⟨some 4, none, .pure (.mov), [.t 28]⟩] [0, 3, 4]) (.seq (.seq (.ops [⟨some 5, none, .pure (.mov), [.c (.int .i64 1)]⟩] [0, 3, 4, 5]) (.block 2 (.loop [0, 3, 4, 5] (.seq (.seq (.ops [⟨some 29, none, .pure (.mov), [.t 5]⟩, ⟨some 30, none, .pure (.mov), [.t 4]⟩, ⟨some 31, none, .pure (.len), [.t 30]⟩, ⟨some 32, none, .pure (.bin .lss), [.t 29, .t 31]⟩] [0, 3, 4, 5, 32]) (.cond (.t 32) (.skip) (.exit 2))) (.seq (.block 3 (.seq (.ops [⟨some 35, none, .pure (.mov), [.t 4]⟩, ⟨some 36, none, .pure (.mov), [.t 5]⟩, ⟨some 37, none, .pure (.idx 1), [.t 35, .t 36]⟩, ⟨some 39, none, .pure (.mov), [.t 4]⟩, ⟨some 40, none, .pure (.mov), [.t 5]⟩, ⟨some 41, none, .pure (.bin .sub), [.t 40, .c (.int .i64 1)]⟩, ⟨some 42, none, .pure (.idx 1), [.t 39, .t 41]⟩, ⟨some 38, none, .load (.ld 1 false), [.t 37]⟩, ⟨some 43, none, .load (.ld 1 false), [.t 42]⟩, ⟨some 44, none, .pure (.bin .neq), [.t 38, .t 43]⟩] [0, 3, 4, 5, 44]) (.cond (.t 44) (.seq (.ops [⟨some 45, none, .pure (.mov), [.t 0]⟩, ⟨some 46, none, .pure (.mov), [.t 3]⟩, ⟨some 47, none, .pure (.mov), [.t 4]⟩, ⟨some 48, none, .pure (.mov), [.t 5]⟩, ⟨some 49, none, .pure (.idx 1), [.t 47, .t 48]⟩, ⟨some 50, none, .load (.ld 1 false), [.t 49]⟩, ⟨some 51, none, .pure (.idx 1), [.t 45, .t 46]⟩, ⟨none, none, .loud (.st 1), [.t 51, .t 50]⟩] [0, 3, 4, 5]) (.ops [⟨some 52, none, .pure (.mov), [.t 3]⟩, ⟨some 53, none, .pure (.bin .add), [.t 52, .c (.int .i64 1)]⟩, ⟨some 3, none, .pure (.mov), [.t 53]⟩] [0, 3, 4, 5])) (.skip)))) (.ops [⟨some 33, none, .pure (.mov), [.t 5]⟩, ⟨some 34, none, .pure (.bin .add), [.t 33, .c (.int .i64 1)]⟩, ⟨some 5, none, .pure (.mov), [.t 34]⟩] [0, 3, 4, 5])))))) (.seq (.ops [⟨some 54, none, .pure (.mov), [.t 0]⟩, ⟨some 55, none, .pure (.mov), [.t 3]⟩, ⟨some 56, none, .pure (.slice 1 true false), [.t 54, .t 55]⟩, ⟨none, none, .loud (.clr 1 [(.int .u32 0)]), [.t 56]⟩] [0, 3]) (.seq (.ops [⟨some 57, none, .pure (.mov), [.t 0]⟩, ⟨some 58, none, .pure (.mov), [.t 3]⟩, ⟨some 59, none, .pure (.slice 1 false true), [.t 57, .t 58]⟩, ⟨some 2, none, .pure (.mov), [.t 59]⟩] [2]) (.ret))))) (.skip)))) (.ops [⟨some 14, none, .pure (.mov), [.t 3]⟩, ⟨some 15, none, .pure (.bin .add), [.t 14, .c (.int .i64 1)]⟩, ⟨some 3, none, .pure (.mov), [.t 15]⟩] [0, 3])))))) (.seq (.ops [⟨some 60, none, .pure (.mov), [.t 0]⟩, ⟨some 2, none, .pure (.mov), [.t 60]⟩] [2]) (.ret))))
def F79 : Fn Try.prog 79 := Fn.mkX false b79 [.t 2] 61 Try.f79 _ Try.func79 (by decide) rfl Try.ntmps79 (by kernel_rfl) (by kernel_rfl)
/-- slices.Sorted[uint32] -/
def b80 : BC := .seq (.ops [⟨some 2, none, .pure (.mov), [.c .nils]⟩] [0]) (.seq (.ops [⟨some 4, none, .pure (.mov), [.t 0]⟩, ⟨some 5, none, .loud (.call 106), [.t 4]⟩, ⟨some 3, none, .pure (.mov), [.t 5]⟩] [3]) (.seq (.ops [⟨some 6, none, .pure (.mov), [.t 3]⟩, ⟨some 7, none, .loud (.call 107), [.t 6]⟩] [3]) (.seq (.ops [⟨some 8, none, .pure (.mov), [.t 3]⟩, ⟨some 2, none, .pure (.mov), [.t 8]⟩] [2]) (.ret))))
def F80 : Fn Try.prog 80 := Fn.mkX false b80 [.t 2] 9 Try.f80 _ Try.func80 (by decide) rfl Try.ntmps80 (by kernel_rfl) (by kernel_rfl)
/-- slices.Values[[]uint32,uint32] -/
def b81 : BC := .seq (.ops [⟨some 1, none, .alloc (.box), [.t 0]⟩, ⟨some 2, none, .pure (.mov), [.c .nilfn]⟩] [1]) (.seq (.ops [⟨some 3, none, .pure (.mkfn 108), [.t 1]⟩, ⟨some 2, none, .pure (.mov), [.t 3]⟩] [2]) (.ret))
def F81 : Fn Try.prog 81 := Fn.mkX false b81 [.t 2] 4 Try.f81 _ Try.func81 (by decide) rfl Try.ntmps81 (by kernel_rfl) (by kernel_rfl)
/-- signpost/attr.Cmp -/
def b82 : BC := .seq (.ops [⟨some 2, none, .alloc (.box), [.t 0]⟩, ⟨some 3, none, .alloc (.box), [.t 1]⟩, ⟨some 4, none, .pure (.mov), [.c (.int .i64 0)]⟩] [2, 3]) (.seq (.ops [⟨some 5, none, .load (.ld 9 true), [.t 2]⟩, ⟨some 7, none, .load (.ld 9 true), [.t 3]⟩, ⟨some 6, none, .qcall 52, [.t 5]⟩, ⟨some 8, none, .qcall 52, [.t 7]⟩, ⟨none, none, .loud (.st 9), [.t 2, .t 6]⟩, ⟨none, none, .loud (.st 9), [.t 3, .t 8]⟩] [2, 3]) (.seq (.ops [⟨some 9, none, .pure (.fld 0), [.t 2]⟩, ⟨some 11, none, .pure (.fld 0), [.t 3]⟩, ⟨some 14, none, .pure (.fld 1), [.t 2]⟩, ⟨some 16, none, .pure (.fld 1), [.t 3]⟩, ⟨some 19, none, .pure (.fld 2), [.t 2]⟩, ⟨some 21, none, .pure (.fld 2), [.t 3]⟩, ⟨some 24, none, .pure (.fld 3), [.t 2]⟩, ⟨some 27, none, .pure (.fld 3), [.t 3]⟩, ⟨some 31, none, .pure (.fld 4), [.t 2]⟩, ⟨some 33, none, .pure (.fld 4), [.t 3]⟩, ⟨some 36, none, .pure (.fld 5), [.t 2]⟩, ⟨some 39, none, .pure (.fld 5), [.t 3]⟩, ⟨some 43, none, .pure (.fld 6), [.t 2]⟩, ⟨some 45, none, .pure (.fld 6), [.t 3]⟩, ⟨some 48, none, .pure (.fld 7), [.t 2]⟩, ⟨some 51, none, .pure (.fld 7), [.t 3]⟩, ⟨some 55, none, .pure (.fld 8), [.t 2]⟩, ⟨some 57, none, .pure (.fld 8), [.t 3]⟩, ⟨some 10, none, .load (.ld 1 false), [.t 9]⟩, ⟨some 12, none, .load (.ld 1 false), [.t 11]⟩, ⟨some 15, none, .load (.ld 1 false), [.t 14]⟩, ⟨some 17, none, .load (.ld 1 false), [.t 16]⟩, ⟨some 20, none, .load (.ld 1 false), [.t 19]⟩, ⟨some 22, none, .load (.ld 1 false), [.t 21]⟩, ⟨some 25, none, .load (.ld 1 false), [.t 24]⟩, ⟨some 28, none, .load (.ld 1 false), [.t 27]⟩, ⟨some 32, none, .load (.ld 1 false), [.t 31]⟩, ⟨some 34, none, .load (.ld 1 false), [.t 33]⟩, ⟨some 37, none, .load (.ld 1 false), [.t 36]⟩, ⟨some 40, none, .load (.ld 1 false), [.t 39]⟩, ⟨some 44, none, .load (.ld 1 false), [.t 43]⟩, ⟨some 46, none, .load (.ld 1 false), [.t 45]⟩, ⟨some 49, none, .load (.ld 1 false), [.t 48]⟩, ⟨some 52, none, .load (.ld 1 false), [.t 51]⟩, ⟨some 56, none, .load (.ld 1 false), [.t 55]⟩, ⟨some 58, none, .load (.ld 1 false), [.t 57]⟩, ⟨some 13, none, .qcall 110, [.t 10, .t 12]⟩, ⟨some 18, none, .qcall 111, [.t 15, .t 17]⟩, ⟨some 23, none, .qcall 112, [.t 20, .t 22]⟩, ⟨some 26, none, .qcall 113, [.t 25]⟩, ⟨some 29, none, .qcall 113, [.t 28]⟩, ⟨some 30, none, .pure (.bin .sub), [.t 26, .t 29]⟩, ⟨some 35, none, .qcall 112, [.t 32, .t 34]⟩, ⟨some 38, none, .qcall 113, [.t 37]⟩, ⟨some 41, none, .qcall 113, [.t 40]⟩, ⟨some 42, none, .pure (.bin .sub), [.t 38, .t 41]⟩, ⟨some 47, none, .qcall 112, [.t 44, .t 46]⟩, ⟨some 50, none, .qcall 113, [.t 49]⟩, ⟨some 53, none, .qcall 113, [.t 52]⟩, ⟨some 54, none, .pure (.bin .sub), [.t 50, .t 53]⟩, ⟨some 59, none, .qcall 114, [.t 56, .t 58]⟩, ⟨some 60, none, .alloc (.mksl 1 9), [.t 13, .t 18, .t 23, .t 30, .t 35, .t 42, .t 47, .t 54, .t 59]⟩, ⟨some 61, none, .qcall 109, [.t 60]⟩, ⟨some 4, none, .pure (.mov), [.t 61]⟩] [4]) (.ret)))
def F82 : Fn Try.prog 82 := Fn.mkX false b82 [.t 4] 62 Try.f82 _ Try.func82 (by decide) rfl Try.ntmps82 (by kernel_rfl) (by kernel_rfl)
/-- slices.Clone[[]uint32,uint32] -/
def b105 : BC := .seq (.ops [⟨some 2, none, .pure (.mov), [.c .nils]⟩] [0]) (.seq (.seq (.ops [⟨some 3, none, .pure (.mov), [.t 0]⟩, ⟨some 4, none, .loud (.nilq false), [.t 3]⟩] [0, 4]) (.cond (.t 4) (.seq (.ops [⟨some 2, none, .pure (.mov), [.c .nils]⟩] [2]) (.ret)) (.skip))) (.seq (.ops [⟨some 5, none, .alloc (.mksl 1 0), []⟩, ⟨some 6, none, .pure (.mov), [.t 0]⟩, ⟨some 7, none, .loud (.app 1 4), [.t 5, .t 6]⟩, ⟨some 2, none, .pure (.mov), [.t 7]⟩] [2]) (.ret)))
def F105 : Fn Try.prog 105 := Fn.mkX false b105 [.t 2] 8 Try.f105 _ Try.func105 (by decide) rfl Try.ntmps105 (by kernel_rfl) (by kernel_rfl)
/-- slices.Collect[uint32] -/
def b106 : BC := .seq (.ops [⟨some 2, none, .pure (.mov), [.c .nils]⟩] [0]) (.seq (.ops [⟨some 3, none, .pure (.mov), [.t 0]⟩, ⟨some 4, none, .loud (.call 128), [.c .nils, .t 3]⟩, ⟨some 2, none, .pure (.mov), [.t 4]⟩] [2]) (.ret))
def F106 : Fn Try.prog 106 := Fn.mkX false b106 [.t 2] 5 Try.f106 _ Try.func106 (by decide) rfl Try.ntmps106 (by kernel_rfl) (by kernel_rfl)
/-- slices.Values[[]uint32,uint32]$1 -/
def b108 : BC := .seq (.ops [⟨some 5, none, .load (.ld 1 false), [.t 1]⟩, ⟨some 6, none, .pure (.len), [.t 5]⟩, ⟨some 7, none, .pure (.mov), [.c (.int .i64 0)]⟩] [0, 5, 6, 7]) (.block 0 (.loop [0, 5, 6, 7] (.seq (.ops [⟨some 8, none, .pure (.bin .lss), [.t 7, .t 6]⟩] [0, 5, 6, 7, 8]) (.seq (.cond (.t 8) (.skip) (.exit 0)) (.seq (.block 1 (.seq (.ops [⟨some 9, none, .pure (.idx 1), [.t 5, .t 7]⟩, ⟨some 10, none, .load (.ld 1 false), [.t 9]⟩, ⟨some 4, none, .pure (.mov), [.t 10]⟩] [0, 4, 5, 6, 7]) (.seq (.ops [⟨some 11, none, .pure (.mov), [.t 0]⟩, ⟨some 12, none, .pure (.mov), [.t 4]⟩, ⟨some 13, none, .loud (.callv), [.t 11, .t 12]⟩, ⟨some 14, none, .pure (.not), [.t 13]⟩] [0, 5, 6, 7, 14]) (.cond (.t 14) (.ret) (.skip))))) (.ops [⟨some 15, none, .pure (.bin .add), [.t 7, .c (.int .i64 1)]⟩, ⟨some 7, none, .pure (.mov), [.t 15]⟩] [0, 5, 6, 7]))))))
def F108 : Fn Try.prog 108 := Fn.mkX false b108 [] 16 Try.f108 _ Try.func108 (by decide) rfl Try.ntmps108 (by kernel_rfl) (by kernel_rfl)
/-- cmp.Or[int] -/
def b109 : BC := .seq (.ops [⟨some 2, none, .pure (.mov), [.c (.int .i64 0)]⟩] [0]) (.seq (.ops [⟨some 3, none, .pure (.mov), [.c (.int .i64 0)]⟩] [0, 3]) (.seq (.seq (.ops [⟨some 6, none, .pure (.mov), [.t 0]⟩, ⟨some 7, none, .pure (.len), [.t 6]⟩, ⟨some 8, none, .pure (.mov), [.c (.int .i64 0)]⟩] [3, 6, 7, 8]) (.block 0 (.loop [3, 6, 7, 8] (.seq (.ops [⟨some 9, none, .pure (.bin .lss), [.t 8, .t 7]⟩] [3, 6, 7, 8, 9]) (.seq (.cond (.t 9) (.skip) (.exit 0)) (.seq (.block 1 (.seq (.ops [⟨some 10, none, .pure (.idx 1), [.t 6, .t 8]⟩, ⟨some 11, none, .load (.ld 1 false), [.t 10]⟩, ⟨some 5, none, .pure (.mov), [.t 11]⟩] [3, 5, 6, 7, 8]) (.seq (.ops [⟨some 12, none, .pure (.mov), [.t 5]⟩, ⟨some 13, none, .pure (.mov), [.t 3]⟩, ⟨some 14, none, .pure (.bin .neq), [.t 12, .t 13]⟩] [3, 5, 6, 7, 8, 14]) (.cond (.t 14) (.seq (.ops [⟨some 15, none, .pure (.mov), [.t 5]⟩, ⟨some 2, none, .pure (.mov), [.t 15]⟩] [2]) (.ret)) (.skip))))) (.ops [⟨some 16, none, .pure (.bin .add), [.t 8, .c (.int .i64 1)]⟩, ⟨some 8, none, .pure (.mov), [.t 16]⟩] [3, 6, 7, 8]))))))) (.seq (.ops [⟨some 17, none, .pure (.mov), [.t 3]⟩, ⟨some 2, none, .pure (.mov), [.t 17]⟩] [2]) (.ret))))
def F109 : Fn Try.prog 109 := Fn.mkX false b109 [.t 2] 18 Try.f109 _ Try.func109 (by decide) rfl Try.ntmps109 (by kernel_rfl) (by kernel_rfl)
/-- cmp.Compare[int] -/
def b110 : BC := .seq (.ops [⟨some 4, none, .pure (.mov), [.c (.int .i64 0)]⟩] [0, 1]) (.seq (.ops [⟨some 7, none, .pure (.mov), [.t 0]⟩, ⟨some 8, none, .loud (.call 131), [.t 7]⟩, ⟨some 5, none, .pure (.mov), [.t 8]⟩] [0, 1, 5]) (.seq (.ops [⟨some 9, none, .pure (.mov), [.t 1]⟩, ⟨some 10, none, .loud (.call 131), [.t 9]⟩, ⟨some 6, none, .pure (.mov), [.t 10]⟩] [0, 1, 5, 6]) (.seq (.seq (.ops [⟨some 11, none, .pure (.mov), [.t 5]⟩] [0, 1, 6, 11]) (.cond (.t 11) (.seq (.seq (.ops [⟨some 12, none, .pure (.mov), [.t 6]⟩] [12]) (.cond (.t 12) (.seq (.ops [⟨some 4, none, .pure (.mov), [.c (.int .i64 0)]⟩] [4]) (.ret)) (.skip))) (.seq (.ops [⟨some 4, none, .pure (.mov), [.c (.int .i64 (-1))]⟩] [4]) (.ret))) (.skip))) (.seq (.seq (.ops [⟨some 13, none, .pure (.mov), [.t 6]⟩] [0, 1, 13]) (.cond (.t 13) (.seq (.ops [⟨some 4, none, .pure (.mov), [.c (.int .i64 1)]⟩] [4]) (.ret)) (.skip))) (.seq (.seq (.ops [⟨some 14, none, .pure (.mov), [.t 0]⟩, ⟨some 15, none, .pure (.mov), [.t 1]⟩, ⟨some 16, none, .pure (.bin .lss), [.t 14, .t 15]⟩] [0, 1, 16]) (.cond (.t 16) (.seq (.ops [⟨some 4, none, .pure (.mov), [.c (.int .i64 (-1))]⟩] [4]) (.ret)) (.skip))) (.seq (.seq (.ops [⟨some 17, none, .pure (.mov), [.t 0]⟩, ⟨some 18, none, .pure (.mov), [.t 1]⟩, ⟨some 19, none, .pure (.bin .gtr), [.t 17, .t 18]⟩] [19]) (.cond (.t 19) (.seq (.ops [⟨some 4, none, .pure (.mov), [.c (.int .i64 1)]⟩] [4]) (.ret)) (.skip))) (.seq (.ops [⟨some 4, none, .pure (.mov), [.c (.int .i64 0)]⟩] [4]) (.ret))))))))
def F110 : Fn Try.prog 110 := Fn.mkX false b110 [.t 4] 20 Try.f110 _ Try.func110 (by decide) rfl Try.ntmps110 (by kernel_rfl) (by kernel_rfl)
/-- signpost/aspath.Cmp -/
def b111 : BC := .seq (.ops [⟨some 4, none, .pure (.mov), [.c (.int .i64 0)]⟩] [0, 1]) (.seq (.ops [⟨some 5, none, .pure (.mov), [.t 0]⟩, ⟨some 6, none, .pure (.mov), [.t 1]⟩, ⟨some 7, none, .loud (.call 132), [.t 5, .t 6, .c (.fn 133 [])]⟩, ⟨some 4, none, .pure (.mov), [.t 7]⟩] [4]) (.ret))
def F111 : Fn Try.prog 111 := Fn.mkX false b111 [.t 4] 8 Try.f111 _ Try.func111 (by decide) rfl Try.ntmps111 (by kernel_rfl) (by kernel_rfl)
/-- cmp.Compare[uint32] -/
def b112 : BC := .seq (.ops [⟨some 4, none, .pure (.mov), [.c (.int .i64 0)]⟩] [0, 1]) (.seq (.ops [⟨some 7, none, .pure (.mov), [.t 0]⟩, ⟨some 8, none, .loud (.call 134), [.t 7]⟩, ⟨some 5, none, .pure (.mov), [.t 8]⟩] [0, 1, 5]) (.seq (.ops [⟨some 9, none, .pure (.mov), [.t 1]⟩, ⟨some 10, none, .loud (.call 134), [.t 9]⟩, ⟨some 6, none, .pure (.mov), [.t 10]⟩] [0, 1, 5, 6]) (.seq (.seq (.ops [⟨some 11, none, .pure (.mov), [.t 5]⟩] [0, 1, 6, 11]) (.cond (.t 11) (.seq (.seq (.ops [⟨some 12, none, .pure (.mov), [.t 6]⟩] [12]) (.cond (.t 12) (.seq (.ops [⟨some 4, none, .pure (.mov), [.c (.int .i64 0)]⟩] [4]) (.ret)) (.skip))) (.seq (.ops [⟨some 4, none, .pure (.mov), [.c (.int .i64 (-1))]⟩] [4]) (.ret))) (.skip))) (.seq (.seq (.ops [⟨some 13, none, .pure (.mov), [.t 6]⟩] [0, 1, 13]) (.cond (.t 13) (.seq (.ops [⟨some 4, none, .pure (.mov), [.c (.int .i64 1)]⟩] [4]) (.ret)) (.skip))) (.seq (.seq (.ops [⟨some 14, none, .pure (.mov), [.t 0]⟩, ⟨some 15, none, .pure (.mov), [.t 1]⟩, ⟨some 16, none, .pure (.bin .lss), [.t 14, .t 15]⟩] [0, 1, 16]) (.cond (.t 16) (.seq (.ops [⟨some 4, none, .pure (.mov), [.c (.int .i64 (-1))]⟩] [4]) (.ret)) (.skip))) (.seq (.seq (.ops [⟨some 17, none, .pure (.mov), [.t 0]⟩, ⟨some 18, none, .pure (.mov), [.t 1]⟩, ⟨some 19, none, .pure (.bin .gtr), [.t 17, .t 18]⟩] [19]) (.cond (.t 19) (.seq (.ops [⟨some 4, none, .pure (.mov), [.c (.int .i64 1)]⟩] [4]) (.ret)) (.skip))) (.seq (.ops [⟨some 4, none, .pure (.mov), [.c (.int .i64 0)]⟩] [4]) (.ret))))))))
def F112 : Fn Try.prog 112 := Fn.mkX false b112 [.t 4] 20 Try.f112 _ Try.func112 (by decide) rfl Try.ntmps112 (by kernel_rfl) (by kernel_rfl)
/-- signpost/attr.truth -/
def b113 : BC := .seq (.ops [⟨some 2, none, .pure (.mov), [.c (.int .i64 0)]⟩] [0]) (.seq (.seq (.ops [⟨some 3, none, .pure (.mov), [.t 0]⟩] [3]) (.cond (.t 3) (.seq (.ops [⟨some 2, none, .pure (.mov), [.c (.int .i64 1)]⟩] [2]) (.ret)) (.skip))) (.seq (.ops [⟨some 2, none, .pure (.mov), [.c (.int .i64 0)]⟩] [2]) (.ret)))
def F113 : Fn Try.prog 113 := Fn.mkX false b113 [.t 2] 4 Try.f113 _ Try.func113 (by decide) rfl Try.ntmps113 (by kernel_rfl) (by kernel_rfl)
/-- slices.Compare[[]uint32,uint32] -/
def b114 : BC := .seq (.ops [⟨some 4, none, .pure (.mov), [.c (.int .i64 0)]⟩] [0, 1]) (.seq (.seq (.ops [⟨some 9, none, .pure (.mov), [.t 0]⟩, ⟨some 10, none, .pure (.len), [.t 9]⟩, ⟨some 11, none, .pure (.mov), [.c (.int .i64 0)]⟩] [0, 1, 9, 10, 11]) (.block 0 (.loop [0, 1, 9, 10, 11] (.seq (.ops [⟨some 12, none, .pure (.bin .lss), [.t 11, .t 10]⟩] [0, 1, 9, 10, 11, 12]) (.seq (.cond (.t 12) (.skip) (.exit 0)) (.seq (.block 1 (.seq (.ops [⟨some 13, none, .pure (.mov), [.t 11]⟩, ⟨some 14, none, .pure (.idx 1), [.t 9, .t 11]⟩, ⟨some 15, none, .load (.ld 1 false), [.t 14]⟩, ⟨some 5, none, .pure (.mov), [.t 13]⟩, ⟨some 6, none, .pure (.mov), [.t 15]⟩] [0, 1, 5, 6, 9, 10, 11]) (.seq (.seq (.ops [⟨some 16, none, .pure (.mov), [.t 5]⟩, ⟨some 17, none, .pure (.mov), [.t 1]⟩, ⟨some 18, none, .pure (.len), [.t 17]⟩, ⟨some 19, none, .pure (.bin .geq), [.t 16, .t 18]⟩] [0, 1, 5, 6, 9, 10, 11, 19]) (.cond (.t 19) (.seq (.ops [⟨some 4, none, .pure (.mov), [.c (.int .i64 1)]⟩] [4]) (.ret)) (.skip))) (.seq (.ops [⟨some 20, none, .pure (.mov), [.t 1]⟩, ⟨some 21, none, .pure (.mov), [.t 5]⟩, ⟨some 22, none, .pure (.idx 1), [.t 20, .t 21]⟩, ⟨some 23, none, .load (.ld 1 false), [.t 22]⟩, ⟨some 7, none, .pure (.mov), [.t 23]⟩] [0, 1, 6, 7, 9, 10, 11]) (.seq (.ops [⟨some 24, none, .pure (.mov), [.t 6]⟩, ⟨some 25, none, .pure (.mov), [.t 7]⟩, ⟨some 26, none, .loud (.call 112), [.t 24, .t 25]⟩, ⟨some 8, none, .pure (.mov), [.t 26]⟩] [0, 1, 8, 9, 10, 11]) (.seq (.ops [⟨some 27, none, .pure (.mov), [.t 8]⟩, ⟨some 28, none, .pure (.bin .neq), [.t 27, .c (.int .i64 0)]⟩] [0, 1, 8, 9, 10, 11, 28]) (.cond (.t 28) (.seq (.ops [⟨some 29, none, .pure (.mov), [.t 8]⟩, ⟨some 4, none, .pure (.mov), [.t 29]⟩] [4]) (.ret)) (.skip)))))))) (.ops [⟨some 30, none, .pure (.bin .add), [.t 11, .c (.int .i64 1)]⟩, ⟨some 11, none, .pure (.mov), [.t 30]⟩] [0, 1, 9, 10, 11]))))))) (.seq (.seq (.ops [⟨some 31, none, .pure (.mov), [.t 0]⟩, ⟨some 32, none, .pure (.len), [.t 31]⟩, ⟨some 33, none, .pure (.mov), [.t 1]⟩, ⟨some 34, none, .pure (.len), [.t 33]⟩, ⟨some 35, none, .pure (.bin .lss), [.t 32, .t 34]⟩] [35]) (.cond (.t 35) (.seq (.ops [⟨some 4, none, .pure (.mov), [.c (.int .i64 (-1))]⟩] [4]) (.ret)) (.skip))) (.seq (.ops [⟨some 4, none, .pure (.mov), [.c (.int .i64 0)]⟩] [4]) (.ret))))
def F114 : Fn Try.prog 114 := Fn.mkX false b114 [.t 4] 36 Try.f114 _ Try.func114 (by decide) rfl Try.ntmps114 (by kernel_rfl) (by kernel_rfl)
/-- cmp.isNaN[int] -/
def b131 : BC := .seq (.ops [⟨some 2, none, .pure (.mov), [.c (.bool false)]⟩] [0]) (.seq (.ops [⟨some 3, none, .pure (.mov), [.t 0]⟩, ⟨some 4, none, .pure (.mov), [.t 0]⟩, ⟨some 5, none, .pure (.bin .neq), [.t 3, .t 4]⟩, ⟨some 2, none, .pure (.mov), [.t 5]⟩] [2]) (.ret))
def F131 : Fn Try.prog 131 := Fn.mkX false b131 [.t 2] 6 Try.f131 _ Try.func131 (by decide) rfl Try.ntmps131 (by kernel_rfl) (by kernel_rfl)
/-- slices.CompareFunc[[]signpost/api.Seg,[]signpost/api.Seg,signpost/api.Seg,signpost/api.Seg] -/
def b132 : BC := .seq (.ops [⟨some 6, none, .pure (.mov), [.c (.int .i64 0)]⟩] [0, 1, 2]) (.seq (.seq (.ops [⟨some 11, none, .pure (.mov), [.t 0]⟩, ⟨some 12, none, .pure (.len), [.t 11]⟩, ⟨some 13, none, .pure (.mov), [.c (.int .i64 0)]⟩] [0, 1, 2, 11, 12, 13]) (.block 0 (.loop [0, 1, 2, 11, 12, 13] (.seq (.ops [⟨some 14, none, .pure (.bin .lss), [.t 13, .t 12]⟩] [0, 1, 2, 11, 12, 13, 14]) (.seq (.cond (.t 14) (.skip) (.exit 0)) (.seq (.block 1 (.seq (.ops [⟨some 15, none, .pure (.mov), [.t 13]⟩, ⟨some 16, none, .pure (.idx 2), [.t 11, .t 13]⟩, ⟨some 17, none, .load (.ld 2 true), [.t 16]⟩, ⟨some 8, none, .alloc (.alloc [(.int .i64 0), .nils]), []⟩, ⟨some 7, none, .pure (.mov), [.t 15]⟩, ⟨none, none, .loud (.st 2), [.t 8, .t 17]⟩] [0, 1, 2, 7, 8, 11, 12, 13]) (.seq (.seq (.ops [⟨some 18, none, .pure (.mov), [.t 7]⟩, ⟨some 19, none, .pure (.mov), [.t 1]⟩, ⟨some 20, none, .pure (.len), [.t 19]⟩, ⟨some 21, none, .pure (.bin .geq), [.t 18, .t 20]⟩] [0, 1, 2, 7, 8, 11, 12, 13, 21]) (.cond (.t 21) (.seq (.ops [⟨some 6, none, .pure (.mov), [.c (.int .i64 1)]⟩] [6]) (.ret)) (.skip))) (.seq (.ops [⟨some 22, none, .pure (.mov), [.t 1]⟩, ⟨some 23, none, .pure (.mov), [.t 7]⟩, ⟨some 24, none, .pure (.idx 2), [.t 22, .t 23]⟩, ⟨some 25, none, .load (.ld 2 true), [.t 24]⟩, ⟨some 9, none, .alloc (.alloc [(.int .i64 0), .nils]), []⟩, ⟨none, none, .loud (.st 2), [.t 9, .t 25]⟩] [0, 1, 2, 8, 9, 11, 12, 13]) (.seq (.ops [⟨some 26, none, .pure (.mov), [.t 2]⟩, ⟨some 27, none, .load (.ld 2 true), [.t 8]⟩, ⟨some 28, none, .load (.ld 2 true), [.t 9]⟩, ⟨some 29, none, .loud (.callv), [.t 26, .t 27, .t 28]⟩, ⟨some 10, none, .pure (.mov), [.t 29]⟩] [0, 1, 2, 10, 11, 12, 13]) (.seq (.ops [⟨some 30, none, .pure (.mov), [.t 10]⟩, ⟨some 31, none, .pure (.bin .neq), [.t 30, .c (.int .i64 0)]⟩] [0, 1, 2, 10, 11, 12, 13, 31]) (.cond (.t 31) (.seq (.ops [⟨some 32, none, .pure (.mov), [.t 10]⟩, ⟨some 6, none, .pure (.mov), [.t 32]⟩] [6]) (.ret)) (.skip)))))))) (.ops [⟨some 33, none, .pure (.bin .add), [.t 13, .c (.int .i64 1)]⟩, ⟨some 13, none, .pure (.mov), [.t 33]⟩] [0, 1, 2, 11, 12, 13]))))))) (.seq (.seq (.ops [⟨some 34, none, .pure (.mov), [.t 0]⟩, ⟨some 35, none, .pure (.len), [.t 34]⟩, ⟨some 36, none, .pure (.mov), [.t 1]⟩, ⟨some 37, none, .pure (.len), [.t 36]⟩, ⟨some 38, none, .pure (.bin .lss), [.t 35, .t 37]⟩] [38]) (.cond (.t 38) (.seq (.ops [⟨some 6, none, .pure (.mov), [.c (.int .i64 (-1))]⟩] [6]) (.ret)) (.skip))) (.seq (.ops [⟨some 6, none, .pure (.mov), [.c (.int .i64 0)]⟩] [6]) (.ret))))
def F132 : Fn Try.prog 132 := Fn.mkX false b132 [.t 6] 39 Try.f132 _ Try.func132 (by decide) rfl Try.ntmps132 (by kernel_rfl) (by kernel_rfl)
/-- signpost/aspath.compare -/
def b133 : BC := .seq (.ops [⟨some 2, none, .alloc (.box), [.t 0]⟩, ⟨some 3, none, .alloc (.box), [.t 1]⟩, ⟨some 4, none, .pure (.mov), [.c (.int .i64 0)]⟩] [2, 3]) (.seq (.ops [⟨some 5, none, .pure (.fld 0), [.t 2]⟩, ⟨some 7, none, .pure (.fld 0), [.t 3]⟩, ⟨some 10, none, .pure (.fld 1), [.t 2]⟩, ⟨some 13, none, .pure (.fld 1), [.t 3]⟩, ⟨some 17, none, .pure (.fld 1), [.t 2]⟩, ⟨some 19, none, .pure (.fld 1), [.t 3]⟩, ⟨some 6, none, .load (.ld 1 false), [.t 5]⟩, ⟨some 8, none, .load (.ld 1 false), [.t 7]⟩, ⟨some 11, none, .load (.ld 1 false), [.t 10]⟩, ⟨some 12, none, .pure (.len), [.t 11]⟩, ⟨some 14, none, .load (.ld 1 false), [.t 13]⟩, ⟨some 15, none, .pure (.len), [.t 14]⟩, ⟨some 18, none, .load (.ld 1 false), [.t 17]⟩, ⟨some 20, none, .load (.ld 1 false), [.t 19]⟩, ⟨some 9, none, .qcall 110, [.t 6, .t 8]⟩, ⟨some 16, none, .qcall 110, [.t 12, .t 15]⟩, ⟨some 21, none, .qcall 114, [.t 18, .t 20]⟩, ⟨some 22, none, .alloc (.mksl 1 3), [.t 9, .t 16, .t 21]⟩, ⟨some 23, none, .qcall 109, [.t 22]⟩, ⟨some 4, none, .pure (.mov), [.t 23]⟩] [4]) (.ret))
def F133 : Fn Try.prog 133 := Fn.mkX false b133 [.t 4] 24 Try.f133 _ Try.func133 (by decide) rfl Try.ntmps133 (by kernel_rfl) (by kernel_rfl)
/-- math/bits.Len32 -/
def b147 : BC := .seq (.ops [⟨some 2, none, .pure (.mov), [.c (.int .i64 0)]⟩] [0, 2]) (.seq (.seq (.ops [⟨some 3, none, .pure (.mov), [.t 0]⟩, ⟨some 4, none, .pure (.bin .geq), [.t 3, .c (.int .u32 65536)]⟩] [0, 2, 4]) (.cond (.t 4) (.seq (.ops [⟨some 5, none, .pure (.mov), [.t 0]⟩, ⟨some 6, none, .pure (.bin .shr), [.t 5, .c (.int .u64 16)]⟩, ⟨some 0, none, .pure (.mov), [.t 6]⟩] [0]) (.ops [⟨some 2, none, .pure (.mov), [.c (.int .i64 16)]⟩] [0, 2])) (.skip))) (.seq (.seq (.ops [⟨some 7, none, .pure (.mov), [.t 0]⟩, ⟨some 8, none, .pure (.bin .geq), [.t 7, .c (.int .u32 256)]⟩] [0, 2, 8]) (.cond (.t 8) (.seq (.ops [⟨some 9, none, .pure (.mov), [.t 0]⟩, ⟨some 10, none, .pure (.bin .shr), [.t 9, .c (.int .u64 8)]⟩, ⟨some 0, none, .pure (.mov), [.t 10]⟩] [0, 2]) (.ops [⟨some 11, none, .pure (.mov), [.t 2]⟩, ⟨some 12, none, .pure (.bin .add), [.t 11, .c (.int .i64 8)]⟩, ⟨some 2, none, .pure (.mov), [.t 12]⟩] [0, 2])) (.skip))) (.seq (.ops [⟨some 13, none, .pure (.mov), [.t 2]⟩, ⟨some 14, none, .pure (.mov), [.t 0]⟩, ⟨some 15, none, .pure (.conv .u8), [.t 14]⟩, ⟨some 16, none, .pure (.idxs), [.c (.str str0), .t 15]⟩, ⟨some 17, none, .pure (.conv .i64), [.t 16]⟩, ⟨some 18, none, .pure (.bin .add), [.t 13, .t 17]⟩, ⟨some 2, none, .pure (.mov), [.t 18]⟩] [2]) (.ret))))
def F147 : Fn Try.prog 147 := Fn.mkX false b147 [.t 2] 19 Try.f147 _ Try.func147 (by decide) rfl Try.ntmps147 (by kernel_rfl) (by kernel_rfl)
end Go.Am.Tst

/- AS -/
/- A part of the proof: slices.AppendSeq over slices.Values gives what the slice holds, in its order. -/
namespace Go.Am.AS
open Go.RowKit Go.Shelf Go.Proofs
set_option linter.unusedVariables false
set_option linter.unusedSimpArgs false
attribute [local go_sem] Oper.semAt_some

def upto {α : Type} (f : Nat → α) (k : Nat) : List α := (List.range k).map f
theorem upto_succ {α : Type} (f : Nat → α) (k : Nat) : upto f (k + 1) = upto f k ++ [f k] := by simp [upto, List.range_succ]
theorem upto_length {α : Type} (f : Nat → α) (k : Nat) : (upto f k).length = k := by simp [upto]
theorem upto_all (zs : List Int) : upto (fun j => zs[j]?.getD 0) zs.length = zs := by
  apply List.ext_getElem
  · simp [upto]
  · intro i h1 h2
    simp [upto, h2]

set_option maxRecDepth 100000 in
set_option maxHeartbeats 2000000 in
/-- The closure of slices.Values. -/
theorem values1_in (F : Fence) (n : Nat) (h7 : F.fn 108) (hro : F.round = none) (hn : 1 ≤ n) (l Bs oB n₀ b off len cap : Nat) (pa : Option Addr) (zs : List Int) (hreach : len ≤ 9223372036854775806) (hpa : 0 < len → pa = some ⟨b, off, none⟩ ∧ b < n₀) (J Jx : List Int → World → Prop)
    (hY : ∀ pre x W, J pre W → pre.length < len → YieldAt F (n - 1) Try.prog l #[.int .u32 x] W fun e W' =>
      (e = .returned (.bool true) ∧ J (pre ++ [x]) W' ∧ Below n₀ W W') ∨ (e = .returned (.bool false) ∧ Jx (pre ++ [x]) W'))
    (W : World) (hBs : W.cell? ⟨Bs, oB, none⟩ = some (.slice pa len cap)) (hc : ∀ j, j < len → W.cell? ⟨b, off + j, none⟩ = some (.int .u32 (zs[j]?.getD 0))) (h0 : J [] W) :
    CallsIn F n Try.prog 108 #[.func (.yield l) #[] #[], .pointer (some ⟨Bs, oB, none⟩)] W fun e W' => (∃ v, e = .returned v) ∧
      ((∃ ys, ys = upto (fun j => zs[j]?.getD 0) len ∧ J ys W') ∨ (∃ pre, (∃ k, k ≤ len ∧ pre = upto (fun j => zs[j]?.getD 0) k) ∧ Jx pre W')) := by
  refine callsIn_of_wp Try.func108 rfl h7 ?_ hro
  simp only [Try.ntmps108, List.size_toArray, List.length_cons, List.length_nil, Nat.reduceAdd, Nat.reduceSub, Array.replicate_succ, Array.replicate_zero, List.push_toArray, List.append_toArray, List.nil_append, List.cons_append]
  gi_wp2
  gi_loopw [7] (fun i wr => ∃ k : Nat, k ≤ len ∧ i = .int .i64 k ∧ J (upto (fun j => zs[j]?.getD 0) k) wr ∧ Below n₀ W wr)
    (fun i _ => len - (intOf i).toNat)
  case atStart => exact ⟨0, Nat.zero_le _, rfl, h0, Below.refl _ _⟩
  case round =>
    obtain ⟨k, hk, rfl, hJs, hnx⟩ := hrel
    have hcx : b < n₀ → k < len → wr.cell? ⟨b, off + k, none⟩ = some (.int .u32 (zs[k]?.getD 0)) := fun hb h => (hnx.cell (p := ⟨b, off + k, none⟩) hb).trans (hc k h)
    by_cases hlt : k < len
    · obtain ⟨fn, tmps, assign, body, hy, hR⟩ := hY _ (zs[k]?.getD 0) wr hJs (by rw [upto_length]; exact hlt)
      obtain ⟨hpa1, hb⟩ := hpa (by omega)
      subst hpa1
      have hcx' := hcx hb hlt
      gi_wp2
      refine hR.mono ?_
      rintro e W3 (⟨rfl, hJ3, hk3⟩ | ⟨rfl, hJx3⟩)
      · gi_wp2
        go_roundw
        case rel => exact ⟨k + 1, by omega, by simp, by rw [upto_succ]; exact hJ3, hnx.trans hk3⟩
        case measure => simp [intOf]; omega
      · gi_wp2
        refine bodyPost_ret (results_none rfl _ _ _) rfl ?_
        exact ⟨⟨_, rfl⟩, .inr ⟨_, ⟨k + 1, by omega, (upto_succ _ _).symm⟩, hJx3⟩⟩
    · obtain rfl : k = len := by omega
      gi_wp2
      go_end0
      exact ⟨⟨_, rfl⟩, .inl ⟨_, rfl, hJs⟩⟩

/-- The same, as the contract that the caller's law asks for. -/
theorem values_stops (F : Fence) (n : Nat) (h7 : F.fn 108) (hro : F.round = none) (hn : 1 ≤ n) (Bs oB n₀ b off cap : Nat) (pa : Option Addr) (zs : List Int) (w : World) (hreach : zs.length ≤ 9223372036854775806) (hBs : Bs < w.heap.size) (hn₀ : n₀ ≤ w.heap.size) (hpa : 0 < zs.length → pa = some ⟨b, off, none⟩ ∧ b < n₀)
    (hc0 : w.cell? ⟨Bs, oB, none⟩ = some (.slice pa zs.length cap)) (hc : ∀ j, j < zs.length → w.cell? ⟨b, off + j, none⟩ = some (.int .u32 (zs[j]?.getD 0))) :
    SeqStopsK F n Try.prog 108 #[.pointer (some ⟨Bs, oB, none⟩)] (fun x : Int => #[Value.int .u32 x]) (Below n₀) (fun ys => ys = zs) (fun _ => True) zs.length w := fun l J Jx W hW _ _ hY h0 => by
  refine (values1_in F n h7 hro hn l Bs oB n₀ b off zs.length cap pa zs hreach hpa J Jx hY W ((hW.cell (p := ⟨Bs, oB, none⟩) hBs).trans hc0) (fun j hj => (hW.cell (p := ⟨b, off + j, none⟩) (Nat.lt_of_lt_of_le (hpa (by omega)).2 hn₀)).trans (hc j hj)) h0).mono ?_
  rintro e W' ⟨hv, ⟨ys, h1, h2⟩ | ⟨pre, _, h2⟩⟩
  · exact ⟨hv, .inl ⟨ys, by rw [h1, upto_all], h2⟩⟩
  · exact ⟨hv, .inr ⟨pre, trivial, h2⟩⟩

theorem infoE : (Try.prog.info? 32).map (fun i => (i.zero, i.size, i.bytes)) = some (some (.int .u32 0), 1, 4) := by kernel_rfl

set_option maxRecDepth 100000 in
set_option maxHeartbeats 2000000 in
/-- slices.AppendSeq onto nil. -/
theorem append_in (F : Fence) (n : Nat) (h3 : F.fn 128) (h5 : F.fn 108) (hro : F.round = none) (hn : 3 ≤ n) (Bs oB b off cap : Nat) (pa : Option Addr) (zs : List Int) (hlen : zs.length * 4 ≤ 140737488355328) (w : World) (hBs : Bs < w.heap.size) (hpa : 0 < zs.length → pa = some ⟨b, off, none⟩ ∧ b < w.heap.size)
    (hc0 : w.cell? ⟨Bs, oB, none⟩ = some (.slice pa zs.length cap)) (hcs : ∀ j, j < zs.length → w.cell? ⟨b, off + j, none⟩ = some (.int .u32 (zs[j]?.getD 0))) :
    CallsIn F n Try.prog 128 #[.slice none 0 0, .func (.func 108) #[] #[.pointer (some ⟨Bs, oB, none⟩)]] w fun e W' => ∃ v, e = .returned v ∧ W'.ownsRow w.heap.size 32 1 v zs.length (zs.map (Value.int .u32)) ∧ (v = .slice none 0 0 ↔ zs = []) ∧ Below w.heap.size w W' := by
  have h1 : 1 ≤ n := by omega
  have hml : zs.length ≤ maxLen := by unfold maxLen; omega
  obtain ⟨i0, hi, hz0, hz1, hz2⟩ := info_parts infoE
  refine callsIn_of_wp_marks Try.func128 rfl h3 ?_ hro
  simp only [Try.ntmps128, List.size_toArray, List.length_cons, List.length_nil, Nat.reduceAdd, Nat.reduceSub, Array.replicate_succ, Array.replicate_zero, List.push_toArray, List.append_toArray, List.nil_append, List.cons_append]
  gi_wp2
  have bO := Boxed.new w 33 (.slice none 0 0)
  have hB0 : Below w.heap.size w (w.alloc (.cells #[.slice none 0 0] 33)) := (Below.refl _ w).alloc (Nat.le_refl _) _
  refine wpIn_rangeFunc_ownG hro h1 (gf := 108) (lb := #[.pointer (some ⟨Bs, oB, none⟩)]) rfl h5 (enters_of Try.func108 (by kernel_rfl) rfl)
    (values_stops F (n - 1) h5 hro (by omega) Bs oB w.heap.size b off cap pa zs _ (by omega) (by simp; omega) (by simp) hpa ((hB0.cell (p := ⟨Bs, oB, none⟩) hBs).trans hc0) (fun j hj => (hB0.cell (p := ⟨b, off + j, none⟩) (hpa (by omega)).2).trans (hcs j hj))) belowK_t (belowK_b (by simp)) (Below.refl _ _) (fun _ => rfl)
    (fun pre W => (∃ v, Boxed W w.heap.size 33 v ∧ W.ownsRow w.heap.size 32 1 v pre.length (pre.map (Value.int .u32)) ∧ (v = .slice none 0 0 ↔ pre = [])) ∧ Below w.heap.size w W)
    (fun _ _ _ => False)
    (OwnFrom.and (Own.from (holdsRow_own w.heap.size w.heap.size 33 32 1 (fun pre : List Int => pre.length) (fun pre => pre.map (Value.int .u32)) (fun pre v => v = .slice none 0 0 ↔ pre = [])) _) (ownFrom_below (Nat.le_refl _) (by simp)))
    (fun _ _ _ _ _ hs _ _ => hs)
    ⟨⟨_, bO, World.ownsRow_nil _ _ _ _, by simp⟩, hB0⟩
    (fun x => { tmps := #[.slice none 0 0, .func (.func 108) #[] #[.pointer (some ⟨Bs, oB, none⟩)], .pointer (some ⟨w.heap.size, 0, none⟩), undef, .slice none 0 0, .int .u32 x, .func (.func 108) #[] #[.pointer (some ⟨Bs, oB, none⟩)], .int .u32 x, undef, undef, undef, undef, undef], defers := [] }) ?assign ?body ?done ?stop
  case assign =>
    intro l x W K hK
    gi_wp2
    exact hK
  case body =>
    rintro l pre x W ⟨⟨v, hv, hrow, hnil⟩, hB⟩ hlt
    have hc := hv.cell
    gi_wp2_with (gi_at_builtin; refine wpListIn_append_own _ rfl _ _ 33 rfl w.heap.size 32 i0 (.int .u32 0) 1 4 Try.underlying33 hi hz0 hz1 hz2 rfl (by decide) _ _ _ rfl (hrow.alloc _) ⟨W.heap.size, 0, none⟩ 1 1 [.int .u32 x] rfl rfl (cell_one_new _ _ _) (by simp [Value.oneCell']) (by omega) (by omega) (by have := hB.size; simp; omega) ?_; intro v' w1 hown' hgrow _; obtain ⟨g', cap', rfl⟩ := ownsRow_succ hown'; obtain ⟨hv1, hv2, hr2, hk2, hb2⟩ := hv.appended (by decide) hrow hB.size (Nat.le_refl _) hown' hgrow; have hc1 := hv1.cell; have hf1 := hv1.frozen)
    exact ⟨hk2.from _, hb2, ⟨_, hv2, by simpa using hr2, by simp⟩, hB.trans hb2⟩
  case done =>
    rintro D ys W hD rfl ⟨⟨v, hv, hrow, hnil⟩, hB⟩ hK
    have hc := hv.cell
    gi_wp2
    refine ⟨by simp, .inl ⟨_, _, rfl, run_takeDeferred hK, ?_⟩⟩
    exact ⟨_, results_tmp rfl _ _ _, v, rfl, ownsRow_putObj hrow _ hK rfl, hnil, hB.trans (belowK_b (w := w) (Nat.le_refl _) W D _ _ (by simp at hD; omega) hK rfl rfl)⟩
  case stop =>
    rintro D c pre W _ _ h _
    exact h.elim

/-- As a call, with no fence. -/
theorem append_calls : Go.Am.SeqHolds Try.prog 128 108 .u32 32 4 := fun Bs oB b off cap pa zs w hlen hBs hpa hc0 hcs =>
  (callsIn_wide (n := 3)).1 (append_in _ 3 trivial trivial rfl (Nat.le_refl _) Bs oB b off cap pa zs hlen w hBs hpa hc0 hcs)

theorem ent : Go.Am.Ent Try.prog 128 := ⟨_, Try.func128, by decide, rfl⟩

theorem rule_ok : Go.Am.RuleOk Try.prog 128 (Go.Am.seqRule 108 .u32 4) := Go.Am.seqRule_ok ent append_calls

end Go.Am.AS

/- O12 -/
namespace Go.Am
open Go.Proofs Go.Sort

theorem s138n (σ : Store) : ACalls Try.prog 138 [.nils, .int .i64 0, .int .i64 0] σ (fun r s => r = .tup [] ∧ s = σ) := by
  refine calls_of Tst.F138 (by simp [Tst.F138, Fn.mkX]) ?_
  simp only [Tst.F138, Fn.mkX, Tst.b138]
  have e1 : IntKind.i64.wrap (0 + 1) = 1 := by decide
  simp only [e1, ↓vcPre, ↓wit_get, ↓reduceIte, vcPost, vcStd, Nat.reduceEqDiff, reduceCtorEq, Nat.reduceAdd, Nat.reduceLeDiff, Int.reduceLT, Int.reduceLE, ↓u_setN]
  refine LoopQ.inv (S := Unit) (fun _ => [(0, .nils), (1, .int .i64 0), (2, .int .i64 0), (6, .int .i64 1)]) (fun _ => σ) (fun _ => True) (fun _ => 0) () rfl (Store.sub_refl _) trivial ?_
  intro _ _
  simp only [↓vcPre, ↓wit_get, ↓reduceIte, vcPost, vcStd, Nat.reduceEqDiff, reduceCtorEq, Nat.reduceAdd, Nat.reduceLeDiff, Int.reduceLT, Int.reduceLE, ↓u_setN]
  exact EndQ.to _ _ rfl (Store.sub_refl _) ⟨rfl, rfl⟩

theorem s129n (m : Int) (σ : Store) : ACalls Try.prog 129 [.nils, .int .i64 0, .int .i64 0, .int .i64 m] σ (fun r s => r = .tup [] ∧ s = σ) := by
  refine calls_of Tst.F129 (by simp [Tst.F129, Fn.mkX]) ?_
  simp only [Tst.F129, Fn.mkX, Tst.b129]
  simp only [↓vcPre, ↓wit_get, ↓reduceIte, vcPost, vcStd, Nat.reduceEqDiff, reduceCtorEq, Nat.reduceAdd, Nat.reduceLeDiff, Int.reduceLT, Int.reduceLE, ↓u_setN]
  refine LoopQ.inv (S := Unit) (fun _ => [(0, .nils), (1, .int .i64 0), (2, .int .i64 0), (3, .int .i64 m), (8, .bool true), (9, .bool true)]) (fun _ => σ) (fun _ => True) (fun _ => 0) () rfl (Store.sub_refl _) trivial ?_
  intro _ _
  have e1 : IntKind.i64.wrap (0 - 0) = 0 := by decide
  simp only [e1, ↓vcPre, ↓wit_get, ↓reduceIte, vcPost, vcStd, Nat.reduceEqDiff, reduceCtorEq, Nat.reduceAdd, Nat.reduceLeDiff, Int.reduceLT, Int.reduceLE, ↓u_setN]
  refine (s138n σ).Q ?_
  rintro r s ⟨rfl, rfl⟩
  simp only [↓vcPre, ↓wit_get, ↓reduceIte, vcPost, vcStd, Nat.reduceEqDiff, reduceCtorEq, Nat.reduceAdd, Nat.reduceLeDiff, Int.reduceLT, Int.reduceLE, ↓u_setN]
  exact EndQ.to _ _ rfl (Store.sub_refl _) ⟨rfl, rfl⟩

theorem s107n (σ : Store) : ACalls Try.prog 107 [.nils] σ (fun r s => r = .tup [] ∧ s = σ) := by
  refine calls_of Tst.F107 (by simp [Tst.F107, Fn.mkX]) ?_
  simp only [Tst.F107, Fn.mkX, Tst.b107]
  have e1 : IntKind.u64.wrap 0 = ((0 : Nat) : Int) := by decide
  simp only [e1, ↓vcPre, ↓wit_get, ↓reduceIte, vcPost, vcStd, Nat.reduceEqDiff, reduceCtorEq, Nat.reduceAdd, Nat.reduceLeDiff, Int.reduceLT, Int.reduceLE, ↓u_setN]
  refine (c130 0 (by omega)).Q ?_
  simp only [↓vcPre, ↓wit_get, ↓reduceIte, vcPost, vcStd, Nat.reduceEqDiff, reduceCtorEq, Nat.reduceAdd, Nat.reduceLeDiff, Int.reduceLT, Int.reduceLE, ↓u_setN]
  refine (s129n _ σ).Q ?_
  rintro r s ⟨rfl, rfl⟩
  simp only [↓vcPre, ↓wit_get, ↓reduceIte, vcPost, vcStd, Nat.reduceEqDiff, reduceCtorEq, Nat.reduceAdd, Nat.reduceLeDiff, Int.reduceLT, Int.reduceLE, ↓u_setN]
  exact EndQ.to _ _ rfl (Store.sub_refl _) ⟨rfl, rfl⟩

theorem swoU : SWO ltU := by
  have h : ∀ x y, ltU x y = true ↔ x < y := fun x y => by unfold ltU cfU; rw [decide_eq_true_eq]; omega
  refine ⟨fun x => ?_, fun x y z h1 h2 => ?_, fun x y z h1 h2 => ?_⟩
  · rw [Bool.eq_false_iff, Ne, h]; omega
  · rw [h] at *; omega
  · rw [Bool.eq_false_iff, Ne, h] at *; omega

/-- A sort of numbers that a function owns. -/
theorem sort_u {s : Store} {i : Nat} {L : List Int} (hs : s i = some (.arr 1 (L.map cU))) (hsz : L.length < 1000000000000) :
    ACalls Try.prog 107 [.os i 1 0 L.length] s (fun r s' => r = .tup [] ∧ ∃ L' : List Int, L'.Perm L ∧ L'.Pairwise (· ≤ ·) ∧ s' = s.set i (.arr 1 (L'.map cU))) := by
  have hs' : s = s.set i (arrA 1 cU L.toArray) := (Store.set_self (by simpa [arrA] using hs)).symm
  have h := s107 lessU swoU L.toArray (by simp; omega) s i
  rw [← hs'] at h
  have hz : L.toArray.size = L.length := by simp
  rw [hz] at h
  refine h.mono ?_
  rintro r s' ⟨rfl, rfl⟩
  generalize hd : pdq ltU L.toArray 0 L.length (bitsLen L.length) true true = d
  have hp := pdq_sorts ltU swoU L.toArray 0 L.length (bitsLen L.length) true true (by omega) (by simp) (.inl rfl)
  rw [hd] at hp
  obtain ⟨⟨h1, h2, h3⟩, h4⟩ := hp
  have hx : ∀ (a : Array Int), a.size = L.length → a.extract 0 L.length = a := fun a ha => by rw [← ha]; simp
  rw [hx _ (by simpa using h1), hx _ (by simp)] at h3
  refine ⟨rfl, d.toList, by simpa using h3, ?_, rfl⟩
  rw [List.pairwise_iff_getElem]
  intro a b ha hb hab
  have := h4 a b (Nat.zero_le _) hab (by simpa [h1] using hb)
  rw [getElem!_pos d a (by simpa using ha), getElem!_pos d b (by simpa using hb)] at this
  simp only [ltU, cfU, decide_eq_false_iff_not] at this
  have := of_decide_eq_false this
  simp only [Array.getElem_toList]
  omega

/-- slices.Sorted over slices.Values. -/
theorem s80 {σ : Store} {b : Nat} {S : AV} {zs : List Int} (hbox : σ b = some (.box [S])) (hS : slc σ 1 S = some (zs.map cU)) (hle : zs.length ≤ 1000000000) :
    ACalls Try.prog 80 [.fn 108 [.ptr b 0]] σ (fun r s => (zs = [] ∧ r = .nils ∧ s = σ) ∨ (zs ≠ [] ∧ ∃ g, ∃ L : List Int, σ g = none ∧ L.Perm zs ∧ L.Pairwise (· ≤ ·) ∧ r = .os g 1 0 L.length ∧ s = σ.set g (.arr 1 (L.map cU)))) := by
  refine calls_of Tst.F80 (by simp [Tst.F80, Fn.mkX]) ?_
  simp only [Tst.F80, Fn.mkX, Tst.b80]
  simp only [↓vcPre, ↓wit_get, ↓reduceIte, vcPost, vcStd, Nat.reduceEqDiff, reduceCtorEq, Nat.reduceAdd, Nat.reduceLeDiff, Int.reduceLT, Int.reduceLE, ↓u_setN]
  have hcol : ACalls Try.prog 106 [.fn 108 [.ptr b 0]] σ (fun a s => (zs = [] ∧ a = .nils ∧ s = σ) ∨ (zs ≠ [] ∧ ∃ g, σ g = none ∧ a = .os g 1 0 zs.length ∧ s = σ.set g (.arr 1 (zs.map cU)))) := by
    refine calls_of Tst.F106 (by simp [Tst.F106, Fn.mkX]) ?_
    simp only [Tst.F106, Fn.mkX, Tst.b106]
    simp only [↓vcPre, ↓wit_get, ↓reduceIte, vcPost, vcStd, Nat.reduceEqDiff, reduceCtorEq, Nat.reduceAdd, Nat.reduceLeDiff, Int.reduceLT, Int.reduceLE, ↓u_setN]
    refine (seq_call AS.ent AS.append_calls hbox hS (by omega)).Q ?_
    rintro r s (⟨hz, rfl, rfl⟩ | ⟨hz, g, hg, rfl, rfl⟩)
    · simp only [↓vcPre, ↓wit_get, ↓reduceIte, vcPost, vcStd, Nat.reduceEqDiff, reduceCtorEq, Nat.reduceAdd, Nat.reduceLeDiff, Int.reduceLT, Int.reduceLE, ↓u_setN]
      exact EndQ.to _ _ rfl (Store.sub_refl _) (.inl ⟨hz, rfl, rfl⟩)
    · simp only [↓vcPre, ↓wit_get, ↓reduceIte, vcPost, vcStd, Nat.reduceEqDiff, reduceCtorEq, Nat.reduceAdd, Nat.reduceLeDiff, Int.reduceLT, Int.reduceLE, ↓u_setN]
      exact EndQ.to _ _ rfl (Store.sub_refl _) (.inr ⟨hz, g, hg, rfl, rfl⟩)
  refine hcol.Q ?_
  rintro r s (⟨hz, rfl, rfl⟩ | ⟨hz, g, hg, rfl, rfl⟩)
  · simp only [↓vcPre, ↓wit_get, ↓reduceIte, vcPost, vcStd, Nat.reduceEqDiff, reduceCtorEq, Nat.reduceAdd, Nat.reduceLeDiff, Int.reduceLT, Int.reduceLE, ↓u_setN]
    refine (s107n _).Q ?_
    rintro r s ⟨rfl, rfl⟩
    simp only [↓vcPre, ↓wit_get, ↓reduceIte, vcPost, vcStd, Nat.reduceEqDiff, reduceCtorEq, Nat.reduceAdd, Nat.reduceLeDiff, Int.reduceLT, Int.reduceLE, ↓u_setN]
    exact EndQ.to _ _ rfl (Store.sub_refl _) (.inl ⟨hz, rfl, rfl⟩)
  · simp only [↓vcPre, ↓wit_get, ↓reduceIte, vcPost, vcStd, Nat.reduceEqDiff, reduceCtorEq, Nat.reduceAdd, Nat.reduceLeDiff, Int.reduceLT, Int.reduceLE, ↓u_setN]
    refine (sort_u (Store.set_same _ _ _) (by omega)).Q ?_
    rintro r s ⟨rfl, L, hp, hl, rfl⟩
    simp only [↓vcPre, ↓wit_get, ↓reduceIte, vcPost, vcStd, Nat.reduceEqDiff, reduceCtorEq, Nat.reduceAdd, Nat.reduceLeDiff, Int.reduceLT, Int.reduceLE, ↓u_setN]
    exact EndQ.to _ _ rfl (Store.sub_refl _) (.inr ⟨hz, g, L, hg, hp, hl, by rw [hp.length_eq], by rw [Store.set_set]⟩)
theorem s81 (S : AV) (hS : S.isTup = false ∧ S.cells = [S]) (σ : Store) : ACalls Try.prog 81 [S] σ (fun r s => ∃ b, σ b = none ∧ r = .fn 108 [.ptr b 0] ∧ s = σ.set b (.box [S])) := by
  refine calls_of Tst.F81 (by simp [Tst.F81, Fn.mkX]) ?_
  simp only [Tst.F81, Fn.mkX, Tst.b81]
  simp only [hS.1, hS.2, ↓vcPre, ↓wit_get, ↓reduceIte, vcPost, vcStd, Nat.reduceEqDiff, reduceCtorEq, Nat.reduceAdd, Nat.reduceLeDiff, Int.reduceLT, Int.reduceLE, ↓u_setN]
  refine AllocQ.i0 fun b hb => ?_
  simp only [↓vcPre, ↓wit_get, ↓reduceIte, vcPost, vcStd, Nat.reduceEqDiff, reduceCtorEq, Nat.reduceAdd, Nat.reduceLeDiff, Int.reduceLT, Int.reduceLE, ↓u_setN]
  exact EndQ.to _ _ rfl (Store.sub_refl _) ⟨b, hb, rfl, rfl⟩
end Go.Am

/- A1 -/
namespace Go.Am
open Go.Proofs Go.Sort

theorem u_clr {P : Program} {n : Nat} {z : List AV} {a : AV} {σ : Store} {K : AV → Store → Prop} : lwp P (.clr n z) [a] σ K ↔ clrwp n z a σ (K (.tup [])) := by simp only [lwp]

/-- Neighbours that are the same, once. -/
def ddA : List Int → List Int
  | [] => []
  | [a] => [a]
  | a :: b :: r => if a = b then ddA (b :: r) else a :: ddA (b :: r)
theorem ddA_snoc (x : Int) : ∀ l : List Int, ddA (l ++ [x]) = if l.getLast? = some x then ddA l else ddA l ++ [x]
  | [] => by simp [ddA]
  | [a] => by
    by_cases h : a = x
    · simp [ddA, h]
    · simp [ddA, h]
  | a :: b :: r => by
    have ih := ddA_snoc x (b :: r)
    simp only [List.cons_append] at ih ⊢
    simp only [ddA, List.getLast?_cons_cons]
    rw [ih]
    by_cases hab : a = b
    · simp only [hab, if_true]
    · simp only [hab, if_false]
      split <;> simp
theorem ddA_take {L : List Int} {k : Nat} (h1 : 1 ≤ k) (h : k < L.length) : ddA (L.take (k + 1)) = if L[k - 1]'(by omega) = L[k] then ddA (L.take k) else ddA (L.take k) ++ [L[k]] := by
  have e : L.take (k + 1) = L.take k ++ [L[k]] := by rw [List.take_add_one, List.getElem?_eq_getElem h]; rfl
  rw [e, ddA_snoc]
  have : (L.take k).getLast? = some (L[k - 1]'(by omega)) := by
    rw [List.getLast?_eq_getElem?, List.length_take, Nat.min_eq_left (by omega), List.getElem?_take_of_lt (by omega), List.getElem?_eq_getElem (by omega)]
  rw [this]
  simp

theorem s79 {σ : Store} {g : Nat} {L : List Int} (hσ : σ g = some (.arr 1 (L.map cU))) (hl : L.length < 1000000000000) :
    ACalls Try.prog 79 [.os g 1 0 L.length] σ (fun r s => ∃ M : List Int, M.length = L.length ∧ M.take (ddA L).length = ddA L ∧ (ddA L).length ≤ L.length ∧ r = .os g 1 0 (ddA L).length ∧ s = σ.set g (.arr 1 (M.map cU))) := by
  refine calls_of Tst.F79 (by simp [Tst.F79, Fn.mkX]) ?_
  simp only [Tst.F79, Fn.mkX, Tst.b79]
  simp only [↓vcPre, ↓wit_get, ↓reduceIte, vcPost, vcStd, Nat.reduceEqDiff, reduceCtorEq, Nat.reduceAdd, Nat.reduceLeDiff, Int.reduceLT, Int.reduceLE, ↓u_setN]
  refine ⟨fun c0 => ?_, fun c0 => ?_⟩
  · have hd : ddA L = L := by
      match L, c0 with
      | [], _ => rfl
      | [a], _ => rfl
      | a :: b :: r, h => simp at h; omega
    refine EndQ.to σ _ rfl (Store.sub_refl _) ⟨L, rfl, by rw [hd]; simp, by rw [hd]; exact Nat.le_refl _, by rw [hd], (Store.set_self hσ).symm⟩
  · have eS : σ = σ.set g (.arr 1 (L.map cU)) := (Store.set_self hσ).symm
    refine LoopQ.inv (S := Nat) (fun k => [(0, .os g 1 0 L.length), (3, .int .i64 (k : Int))]) (fun _ => σ) (fun k => 1 ≤ k ∧ k ≤ L.length ∧ ddA (L.take k) = L.take k) (fun k => L.length + 1 - k) 1 rfl (Store.sub_refl _) ⟨by omega, by omega, by
      cases L with
      | nil => rfl
      | cons a r => simp [ddA]⟩ ?_
    rintro k ⟨h1, h2, h3⟩
    simp only [hσ, ↓vcPre, ↓wit_get, ↓reduceIte, vcPost, vcStd, Nat.reduceEqDiff, reduceCtorEq, Nat.reduceAdd, Nat.reduceLeDiff, Int.reduceLT, Int.reduceLE, ↓u_setN]
    have ek : IntKind.i64.wrap ((k : Int) + 1) = ((k + 1 : Nat) : Int) := by rw [wrap64 (by unfold I64; omega)]; omega
    have em : IntKind.i64.wrap ((k : Int) - 1) = ((k - 1 : Nat) : Int) := by rw [wrap64 (by unfold I64; omega)]; omega
    refine ⟨fun c1 => ?_, fun c1 => ?_⟩
    · simp only [em, Int.toNat_natCast]
      refine ⟨by omega, by omega, by omega, by simp [cU], ?_⟩
      simp only [cU, ek, em, Nat.zero_add, Option.getD_none, ↓vcPre, ↓wit_get, ↓reduceIte, vcPost, vcStd, Nat.reduceEqDiff, reduceCtorEq, Nat.reduceAdd, Nat.reduceLeDiff, Int.reduceLT, Int.reduceLE, ↓u_setN]
      refine ⟨by omega, fun c2 => ?_, fun c2 => ?_⟩
      · refine ⟨by omega, ?_⟩
        have hd0 : ddA (L.take (k + 1)) = L.take k := by
          rw [ddA_take h1 c1, if_pos c2.symm, h3]
        refine LoopQ.inv (S := Nat × Nat × List Int) (fun q => [(0, .os g 1 0 L.length), (3, .int .i64 (q.1 : Int)), (4, .os g 1 k (L.length - k)), (5, .int .i64 (q.2.1 : Int))]) (fun q => σ.set g (.arr 1 (q.2.2.map cU)))
          (fun q => 1 ≤ q.2.1 ∧ k + q.2.1 ≤ L.length ∧ 1 ≤ q.1 ∧ q.1 + 1 ≤ k + q.2.1 ∧ q.2.2.length = L.length ∧ q.2.2.take q.1 = ddA (L.take (k + q.2.1)) ∧ q.1 = (ddA (L.take (k + q.2.1))).length ∧ q.2.2.drop (k + q.2.1 - 1) = L.drop (k + q.2.1 - 1)) (fun q => L.length + 1 - q.2.1) (k, 1, L) rfl (by rw [← eS]; exact Store.sub_refl _)
          ⟨by simp only; omega, by simp only; omega, by simp only; omega, by simp only; omega, rfl, by simp only [hd0], by simp only [hd0, List.length_take]; omega, rfl⟩ ?_
        rintro ⟨p, m, M⟩ ⟨g1, g2, g3, g4, g5, g6, g7, g8⟩
        simp only at g1 g2 g3 g4 g5 g6 g7 g8
        simp only [Nat.zero_add, ↓vcPre, ↓wit_get, ↓reduceIte, vcPost, vcStd, Nat.reduceEqDiff, reduceCtorEq, Nat.reduceAdd, Nat.reduceLeDiff, Int.reduceLT, Int.reduceLE, ↓u_setN]
        have en : IntKind.i64.wrap ((m : Int) + 1) = ((m + 1 : Nat) : Int) := by rw [wrap64 (by unfold I64; omega)]; omega
        have ep : IntKind.i64.wrap ((p : Int) + 1) = ((p + 1 : Nat) : Int) := by rw [wrap64 (by unfold I64; omega)]; omega
        have eq : IntKind.i64.wrap ((m : Int) - 1) = ((m - 1 : Nat) : Int) := by rw [wrap64 (by unfold I64; omega)]; omega
        refine ⟨fun d1 => ?_, fun d1 => ?_⟩
        · have hM1 : M[k + m]'(by omega) = L[k + m]'(by omega) := by
            have := congrArg (fun l : List Int => l[1]?) g8
            simp only [List.getElem?_drop] at this
            rw [show k + m - 1 + 1 = k + m by omega, List.getElem?_eq_getElem (by omega), List.getElem?_eq_getElem (by omega)] at this
            exact Option.some.inj this
          have hM0 : M[k + (m - 1)]'(by omega) = L[k + m - 1]'(by omega) := by
            have := congrArg (fun l : List Int => l[0]?) g8
            simp only [List.getElem?_drop, Nat.add_zero] at this
            rw [List.getElem?_eq_getElem (by omega), List.getElem?_eq_getElem (by omega)] at this
            have h9 := Option.some.inj this
            have e9 : k + (m - 1) = k + m - 1 := by omega
            simp only [e9]; exact h9
          have hstep := ddA_take (L := L) (k := k + m) (by omega) (by omega)
          simp only [eq, Int.toNat_natCast]
          refine ⟨by omega, ⟨by omega, by omega⟩, by omega, by simp [cU], ?_⟩
          simp only [hM1, hM0]
          simp only [cU, en, ep, Nat.zero_add, hM1, hM0, ↓vcPre, ↓wit_get, ↓reduceIte, vcPost, vcStd, Nat.reduceEqDiff, reduceCtorEq, Nat.reduceAdd, Nat.reduceLeDiff, Int.reduceLT, Int.reduceLE, ↓u_setN]
          refine ⟨by omega, fun e1 => ⟨by omega, by omega, by omega, by omega, ?_⟩, fun e1 => ?_⟩
          · have eset : (List.map cU M).set p [AV.int IntKind.u32 (L[k + m]'(by omega))] = (M.set p (L[k + m]'(by omega))).map cU := by rw [List.map_set]; rfl
            rw [eset, Store.set_set]
            rw [if_neg (fun e => e1 e.symm)] at hstep
            have el : (ddA (L.take (k + m + 1))).length = p + 1 := by rw [hstep, List.length_append, ← g7]; rfl
            refine NextQ.to (p + 1, m + 1, M.set p (L[k + m]'(by omega))) rfl (Store.sub_refl _) (by simp only; omega)
              ⟨by simp only; omega, by simp only; omega, by simp only; omega, by simp only; omega, by simp [g5], ?_, ?_, ?_⟩
            · simp only
              rw [show k + (m + 1) = k + m + 1 by omega, hstep, List.take_add_one, List.take_set, List.getElem?_set_self (by omega), ← g6, List.set_eq_of_length_le (by simp; omega)]
              rfl
            · simp only
              rw [show k + (m + 1) = k + m + 1 by omega, el]
            · simp only
              rw [List.drop_set, if_pos (by omega), show k + (m + 1) - 1 = (k + m - 1) + 1 by omega, ← List.drop_drop, ← List.drop_drop (l := L), g8]
          · rw [if_pos e1.symm] at hstep
            refine NextQ.to (p, m + 1, M) rfl (Store.sub_refl _) (by simp only; omega)
              ⟨by simp only; omega, by simp only; omega, by simp only; omega, by simp only; omega, g5, ?_, ?_, ?_⟩
            · simp only
              rw [show k + (m + 1) = k + m + 1 by omega, hstep, g6]
            · simp only
              rw [show k + (m + 1) = k + m + 1 by omega, hstep, g7]
            · simp only
              rw [show k + (m + 1) - 1 = (k + m - 1) + 1 by omega, ← List.drop_drop, ← List.drop_drop (l := L), ← g8]
        · have hkm : L.take (k + m) = L := List.take_of_length_le (by omega)
          rw [hkm] at g6 g7
          simp only [Option.getD_none, Option.getD_some, Int.toNat_natCast]
          refine ⟨by omega, ?_⟩
          rw [u_clr]
          simp only [clrwp, Store.set_same]
          refine ⟨trivial, trivial, by simp; omega, by omega, ?_⟩
          have e1 : (List.map cU M).take p ++ (List.replicate (L.length - p) [AV.int IntKind.u32 0] ++ (List.map cU M).drop (p + (L.length - p))) = (M.take p ++ List.replicate (L.length - p) 0).map cU := by
            rw [List.drop_eq_nil_of_le (by simp; omega)]
            simp [cU, List.map_take]
          rw [e1, Store.set_set]
          refine EndQ.to (σ.set g (.arr 1 ((M.take p ++ List.replicate (L.length - p) 0).map cU))) _ rfl (Store.sub_refl _) ⟨_, by simp; omega, by rw [← g7, List.take_left' (by simp; omega)]; exact g6, by omega, by rw [← g7]; simp, rfl⟩
      · refine NextQ.to (k + 1) rfl (Store.sub_refl _) (by omega) ⟨by omega, by omega, ?_⟩
        rw [ddA_take h1 c1, if_neg (fun e => c2 e.symm), h3, List.take_add_one, List.getElem?_eq_getElem c1]
        rfl
    · have hk : L.take k = L := List.take_of_length_le (by omega)
      rw [hk] at h3
      refine EndQ.to σ _ rfl (Store.sub_refl _) ⟨L, rfl, by rw [h3]; simp, by rw [h3]; exact Nat.le_refl _, by rw [h3], (Store.set_self hσ).symm⟩
end Go.Am

/- A2 -/
namespace Go.Am
open Go.Proofs Go.Sort

/-- A part of a way. -/
structure Seg where
  kind : Int
  ls : List Int
def Seg.c (s : Seg) : List AV := [.int .i64 s.kind, .sl 1 (s.ls.map cU)]
/-- Attributes; whether an empty list is nil is not told. -/
structure At where
  org : Int
  path : List Seg
  nxt : Int
  hm : Bool
  med : Int
  hp : Bool
  prf : Int
  atm : Bool
  cms : List Int
def At.c (a : At) : List AV := [.int .i64 a.org, .sl 2 (a.path.map Seg.c), .int .u32 a.nxt, .bool a.hm, .int .u32 a.med, .bool a.hp, .int .u32 a.prf, .bool a.atm, .sl 1 (a.cms.map cU)]
def Seg.ok (s : Seg) : Prop := s.ls.length ≤ 1000000
def At.ok (a : At) : Prop := a.path.length ≤ 1000000 ∧ (∀ s ∈ a.path, s.ok) ∧ a.cms.length ≤ 1000000

theorem c105 (zs : List Int) (h : zs.length ≤ 1000000000) : Pur Try.prog 105 [.sl 1 (zs.map cU)] (.sl 1 (zs.map cU)) := by
  intro σ
  refine calls_of Tst.F105 (by simp [Tst.F105, Fn.mkX]) ?_
  simp only [Tst.F105, Fn.mkX, Tst.b105]
  simp only [↓vcPre, ↓wit_get, ↓reduceIte, vcPost, vcStd, Nat.reduceEqDiff, reduceCtorEq, Nat.reduceAdd, Nat.reduceLeDiff, Int.reduceLT, Int.reduceLE, ↓u_setN]
  show nilqwp false (.sl 1 (zs.map cU)) _
  refine u_nq_s fun b hb => ?_
  cases b with
  | true =>
    have hl : zs = [] := by
      cases zs with
      | nil => rfl
      | cons x r => have := hb (by simp); cases this
    subst hl
    simp only [↓vcPre, ↓wit_get, ↓reduceIte, vcPost, vcStd, Nat.reduceEqDiff, reduceCtorEq, Nat.reduceAdd, Nat.reduceLeDiff, Int.reduceLT, Int.reduceLE, ↓u_setN]
    exact EndQ.nil1 1 σ rfl (Store.sub_refl _) ⟨rfl, rfl⟩
  | false =>
    simp only [↓vcPre, ↓wit_get, ↓reduceIte, vcPost, vcStd, Nat.reduceEqDiff, reduceCtorEq, Nat.reduceAdd, Nat.reduceLeDiff, Int.reduceLT, Int.reduceLE, ↓u_setN]
    refine AllocQ.i0 fun i hi => ?_
    simp only [↓vcPre, ↓wit_get, ↓reduceIte, vcPost, vcStd, Nat.reduceEqDiff, reduceCtorEq, Nat.reduceAdd, Nat.reduceLeDiff, Int.reduceLT, Int.reduceLE, ↓u_setN]
    refine app_os (slc_os0 (Store.set_same _ _ _) rfl) (y := .sl 1 (zs.map cU)) slc_sl (by simp; omega) fun j hj => ?_
    simp only [List.nil_append, List.length_nil, Nat.zero_add]
    refine EndQ.frz j 1 0 _ (zs.map cU) σ rfl (Store.set_same _ _ _) (by simp) (sub_del_set hi hj) ⟨rfl, ?_⟩
    rw [List.drop_zero, List.take_of_length_le (by simp)]

theorem c78 (p : List Seg) (h : p.length ≤ 1000000) (ho : ∀ s ∈ p, s.ok) : Pur Try.prog 78 [.sl 2 (p.map Seg.c)] (.sl 2 (p.map Seg.c)) := by
  intro σ
  refine calls_of Tst.F78 (by simp [Tst.F78, Fn.mkX]) ?_
  simp only [Tst.F78, Fn.mkX, Tst.b78]
  simp only [↓vcPre, ↓wit_get, ↓reduceIte, vcPost, vcStd, Nat.reduceEqDiff, reduceCtorEq, Nat.reduceAdd, Nat.reduceLeDiff, Int.reduceLT, Int.reduceLE, ↓u_setN]
  refine LoopQ.inv (S := Nat × AV × Store) (fun q => [(3, q.2.1), (6, .sl 2 (p.map Seg.c)), (7, .int .i64 (p.length : Int)), (8, .int .i64 (q.1 : Int))]) (fun q => q.2.2)
    (fun q => q.1 ≤ p.length ∧ Store.sub σ q.2.2 ∧ Own 2 σ ((p.take q.1).map Seg.c) q.2.1 q.2.2) (fun q => p.length + 1 - q.1) (0, .nils, σ) rfl (Store.sub_refl _) ⟨by simp only; omega, Store.sub_refl _, .nil⟩ ?_
  rintro ⟨k, v, s⟩ ⟨hk, hs, ho'⟩
  simp only at hk hs ho'
  simp only [↓vcPre, ↓wit_get, ↓reduceIte, vcPost, vcStd, Nat.reduceEqDiff, reduceCtorEq, Nat.reduceAdd, Nat.reduceLeDiff, Int.reduceLT, Int.reduceLE, ↓u_setN]
  refine ⟨fun c1 => ?_, fun c1 => ?_⟩
  · have ek : IntKind.i64.wrap ((k : Int) + 1) = ((k + 1 : Nat) : Int) := by rw [wrap64 (by unfold I64; omega)]; omega
    refine ⟨c1, by simp [Seg.c], ?_⟩
    refine AllocQ.i0 fun i hi => ?_
    simp only [Seg.c, Store.set_set, ↓vcPre, ↓wit_get, ↓reduceIte, vcPost, vcStd, Nat.reduceEqDiff, reduceCtorEq, Nat.reduceAdd, Nat.reduceLeDiff, Int.reduceLT, Int.reduceLE, ↓u_setN]
    refine (c105 _ (by have := ho _ (List.getElem_mem c1); unfold Seg.ok at this; omega)).q' ?_
    simp only [Store.set_set, ↓vcPre, ↓wit_get, ↓reduceIte, vcPost, vcStd, Nat.reduceEqDiff, reduceCtorEq, Nat.reduceAdd, Nat.reduceLeDiff, Int.reduceLT, Int.reduceLE, ↓u_setN]
    refine AllocQ.i1 fun j hj1 hj2 hj => ?_
    simp only [↓vcPre, ↓wit_get, ↓reduceIte, vcPost, vcStd, Nat.reduceEqDiff, reduceCtorEq, Nat.reduceAdd, Nat.reduceLeDiff, Int.reduceLT, Int.reduceLE, ↓u_setN]
    refine Own.app (τ := σ) (L := (p.take k).map Seg.c) (Store.sub_trans hs (sub_set2 hi hj hj1)) (ho'.mono (sub_set2 hi hj hj1)) (slc_os0 (Store.set_same _ _ _) rfl) (by simp; omega) fun v' s' hs' ho'' => ?_
    rw [ek]
    refine NextQ.to (k + 1, v', s') rfl (Store.sub_refl _) (by simp only; omega) ⟨by simp only; omega, hs', ?_⟩
    simp only [List.take_add_one, List.getElem?_eq_getElem c1, Option.toList_some, List.map_append, List.map_cons, List.map_nil]
    exact ho''
  · have hkl : p.take k = p := List.take_of_length_le (by omega)
    rw [hkl] at ho'
    exact EndQ.own rfl ho' hs ⟨rfl, rfl⟩
end Go.Am

/- S90C -/
namespace Go.Am.Tsc
open Go.Proofs
/-- (*signpost/intern.Table).Add -/
def t22_54 : BC := .seq (.seq (.ops [⟨some 54, none, .pure (.mov), [.t 0]⟩, ⟨some 56, none, .pure (.mov), [.t 0]⟩, ⟨some 57, none, .pure (.nilchk), [.t 56]⟩, ⟨some 58, none, .pure (.fld 0), [.t 57]⟩, ⟨some 59, none, .load (.ld 1 false), [.t 58]⟩, ⟨some 55, none, .qcall 28, [.t 54]⟩, ⟨some 60, none, .pure (.bin .geq), [.t 55, .t 59]⟩] [0, 3, 6, 60]) (.cond (.t 60) (.seq (.ops [⟨some 4, none, .pure (.mov), [.c (.int .i64 0)]⟩, ⟨some 5, none, .pure (.mov), [.c (.int .i64 13)]⟩] [4, 5]) (.ret)) (.skip))) (.seq (.seq (.ops [⟨some 61, none, .pure (.mov), [.t 6]⟩, ⟨some 62, none, .pure (.mov), [.t 0]⟩, ⟨some 63, none, .pure (.nilchk), [.t 62]⟩, ⟨some 64, none, .pure (.fld 1), [.t 63]⟩, ⟨some 65, none, .load (.ld 1 false), [.t 64]⟩, ⟨some 66, none, .pure (.len), [.t 65]⟩, ⟨some 67, none, .pure (.bin .eql), [.t 61, .t 66]⟩] [0, 3, 6, 67]) (.cond (.t 67) (.ops [⟨some 68, none, .pure (.mov), [.t 0]⟩, ⟨some 69, none, .pure (.mov), [.t 0]⟩, ⟨some 70, none, .pure (.nilchk), [.t 69]⟩, ⟨some 71, none, .pure (.fld 1), [.t 70]⟩, ⟨some 72, none, .load (.ld 1 false), [.t 71]⟩, ⟨some 73, none, .pure (.build [(.int .i64 0), .nils, (.int .u32 0), (.bool false), (.int .u32 0), (.bool false), (.int .u32 0), (.bool false), .nils, (.int .i64 0)] []), []⟩, ⟨some 74, none, .alloc (.mksl 10 1), [.t 73]⟩, ⟨some 75, none, .loud (.app 10 88), [.t 72, .t 74]⟩, ⟨some 76, none, .pure (.nilchk), [.t 68]⟩, ⟨some 77, none, .pure (.fld 1), [.t 76]⟩, ⟨none, none, .loud (.st 1), [.t 77, .t 75]⟩] [0, 3, 6]) (.skip))) (.seq (.ops [⟨some 78, none, .pure (.mov), [.t 0]⟩, ⟨some 79, none, .pure (.nilchk), [.t 78]⟩, ⟨some 80, none, .pure (.fld 1), [.t 79]⟩, ⟨some 82, none, .pure (.mov), [.t 6]⟩, ⟨some 81, none, .load (.ld 1 false), [.t 80]⟩, ⟨some 83, none, .load (.ld 9 true), [.t 3]⟩, ⟨some 84, none, .pure (.build [(.int .i64 0), .nils, (.int .u32 0), (.bool false), (.int .u32 0), (.bool false), (.int .u32 0), (.bool false), .nils, (.int .i64 0)] [(0, 9), (9, 1)]), [.t 83, .c (.int .i64 1)]⟩, ⟨some 85, none, .pure (.idx 10), [.t 81, .t 82]⟩, ⟨none, none, .loud (.st 10), [.t 85, .t 84]⟩] [6]) (.seq (.ops [⟨some 86, none, .pure (.mov), [.t 6]⟩, ⟨some 4, none, .pure (.mov), [.t 86]⟩, ⟨some 5, none, .pure (.mov), [.c (.int .i64 0)]⟩] [4, 5]) (.ret))))
def b22 : BC := .seq (.ops [⟨some 3, none, .alloc (.box), [.t 1]⟩, ⟨some 4, none, .pure (.mov), [.c (.int .i64 0)]⟩, ⟨some 5, none, .pure (.mov), [.c (.int .i64 0)]⟩] [0, 3]) (.seq (.ops [⟨some 9, none, .load (.ld 9 true), [.t 3]⟩, ⟨some 10, none, .loud (.call 52), [.t 9]⟩, ⟨none, none, .loud (.st 9), [.t 3, .t 10]⟩] [0, 3]) (.seq (.ops [⟨some 11, none, .pure (.mov), [.t 0]⟩, ⟨some 12, none, .pure (.nilchk), [.t 11]⟩, ⟨some 13, none, .pure (.fld 1), [.t 12]⟩, ⟨some 14, none, .load (.ld 1 false), [.t 13]⟩, ⟨some 15, none, .pure (.len), [.t 14]⟩, ⟨some 6, none, .pure (.mov), [.t 15]⟩] [0, 3, 6]) (.seq (.seq (.ops [⟨some 16, none, .pure (.mov), [.t 0]⟩, ⟨some 17, none, .pure (.nilchk), [.t 16]⟩, ⟨some 18, none, .pure (.fld 1), [.t 17]⟩, ⟨some 19, none, .load (.ld 1 false), [.t 18]⟩, ⟨some 20, none, .pure (.len), [.t 19]⟩, ⟨some 21, none, .pure (.bin .sub), [.t 20, .c (.int .i64 1)]⟩, ⟨some 7, none, .pure (.mov), [.t 21]⟩] [0, 3, 6, 7]) (.block 0 (.loop [0, 3, 6, 7] (.seq (.seq (.ops [⟨some 22, none, .pure (.mov), [.t 7]⟩, ⟨some 23, none, .pure (.bin .geq), [.t 22, .c (.int .i64 0)]⟩] [0, 3, 6, 7, 23]) (.cond (.t 23) (.skip) (.exit 0))) (.seq (.block 1 (.seq (.ops [⟨some 26, none, .pure (.mov), [.t 0]⟩, ⟨some 27, none, .pure (.nilchk), [.t 26]⟩, ⟨some 28, none, .pure (.fld 1), [.t 27]⟩, ⟨some 29, none, .load (.ld 1 false), [.t 28]⟩, ⟨some 30, none, .pure (.mov), [.t 7]⟩, ⟨some 31, none, .pure (.idx 10), [.t 29, .t 30]⟩, ⟨some 8, none, .pure (.mov), [.t 31]⟩] [0, 3, 6, 7, 8]) (.block 2 (.seq (.ops [⟨some 33, none, .pure (.mov), [.t 8]⟩, ⟨some 34, none, .pure (.nilchk), [.t 33]⟩, ⟨some 35, none, .pure (.fld 9), [.t 34]⟩, ⟨some 36, none, .load (.ld 1 false), [.t 35]⟩, ⟨some 37, none, .pure (.bin .eql), [.t 36, .c (.int .i64 0)]⟩, ⟨some 32, none, .pure (.mov), [.t 37]⟩] [0, 3, 6, 7, 8, 32]) (.cond (.t 32) (.ops [⟨some 38, none, .pure (.mov), [.t 7]⟩, ⟨some 6, none, .pure (.mov), [.t 38]⟩] [0, 3, 6, 7]) (.seq (.ops [⟨some 40, none, .pure (.mov), [.t 8]⟩, ⟨some 41, none, .pure (.nilchk), [.t 40]⟩, ⟨some 42, none, .pure (.fld 0), [.t 41]⟩, ⟨some 43, none, .load (.ld 9 true), [.t 42]⟩, ⟨some 44, none, .load (.ld 9 true), [.t 3]⟩, ⟨some 45, none, .loud (.call 53), [.t 43, .t 44]⟩, ⟨some 39, none, .pure (.mov), [.t 45]⟩] [0, 3, 6, 7, 8, 39]) (.cond (.t 39) (.seq (.ops [⟨some 46, none, .pure (.mov), [.t 8]⟩, ⟨some 47, none, .pure (.nilchk), [.t 46]⟩, ⟨some 48, none, .pure (.fld 9), [.t 47]⟩, ⟨some 49, none, .load (.ld 1 false), [.t 48]⟩, ⟨some 50, none, .pure (.bin .add), [.t 49, .c (.int .i64 1)]⟩, ⟨some 51, none, .pure (.nilchk), [.t 46]⟩, ⟨some 52, none, .pure (.fld 9), [.t 51]⟩, ⟨none, none, .loud (.st 1), [.t 52, .t 50]⟩] [7]) (.seq (.ops [⟨some 53, none, .pure (.mov), [.t 7]⟩, ⟨some 4, none, .pure (.mov), [.t 53]⟩, ⟨some 5, none, .pure (.mov), [.c (.int .i64 0)]⟩] [4, 5]) (.ret))) (.skip)))))))) (.ops [⟨some 24, none, .pure (.mov), [.t 7]⟩, ⟨some 25, none, .pure (.bin .sub), [.t 24, .c (.int .i64 1)]⟩, ⟨some 7, none, .pure (.mov), [.t 25]⟩] [0, 3, 6, 7])))))) t22_54)))
def F22 : Fn Try.prog 22 := Fn.mkX false b22 [.t 4, .t 5] 87 Try.f22 _ Try.func22 (by decide) rfl Try.ntmps22 (by kernel_rfl) (by kernel_rfl)
/-- signpost/attr.Canon -/
def t52_15 : BC := .seq (.ops [⟨some 15, none, .pure (.fld 8), [.t 1]⟩, ⟨some 16, none, .load (.ld 1 false), [.t 15]⟩, ⟨some 17, none, .loud (.call 81), [.t 16]⟩, ⟨some 18, none, .loud (.call 80), [.t 17]⟩, ⟨some 19, none, .loud (.call 79), [.t 18]⟩, ⟨some 20, none, .pure (.fld 8), [.t 1]⟩, ⟨none, none, .loud (.st 1), [.t 20, .t 19]⟩] [1, 2]) (.seq (.ops [⟨some 21, none, .load (.ld 9 true), [.t 1]⟩, ⟨none, none, .loud (.st 9), [.t 2, .t 21]⟩] [2]) (.ret))
def b52 : BC := .seq (.ops [⟨some 1, none, .alloc (.box), [.t 0]⟩, ⟨some 2, none, .alloc (.alloc [(.int .i64 0), .nils, (.int .u32 0), (.bool false), (.int .u32 0), (.bool false), (.int .u32 0), (.bool false), .nils]), []⟩] [1, 2]) (.seq (.ops [⟨some 3, none, .pure (.fld 1), [.t 1]⟩, ⟨some 4, none, .load (.ld 1 false), [.t 3]⟩, ⟨some 5, none, .loud (.call 78), [.t 4]⟩, ⟨some 6, none, .pure (.fld 1), [.t 1]⟩, ⟨none, none, .loud (.st 1), [.t 6, .t 5]⟩] [1, 2]) (.seq (.seq (.ops [⟨some 7, none, .pure (.fld 3), [.t 1]⟩, ⟨some 8, none, .load (.ld 1 false), [.t 7]⟩, ⟨some 9, none, .pure (.not), [.t 8]⟩] [1, 2, 9]) (.cond (.t 9) (.ops [⟨some 10, none, .pure (.fld 4), [.t 1]⟩, ⟨none, none, .loud (.st 1), [.t 10, .c (.int .u32 0)]⟩] [1, 2]) (.skip))) (.seq (.seq (.ops [⟨some 11, none, .pure (.fld 5), [.t 1]⟩, ⟨some 12, none, .load (.ld 1 false), [.t 11]⟩, ⟨some 13, none, .pure (.not), [.t 12]⟩] [1, 2, 13]) (.cond (.t 13) (.ops [⟨some 14, none, .pure (.fld 6), [.t 1]⟩, ⟨none, none, .loud (.st 1), [.t 14, .c (.int .u32 0)]⟩] [1, 2]) (.skip))) t52_15)))
def F52 : Fn Try.prog 52 := Fn.mkX false b52 [.c 2 9 true] 22 Try.f52 _ Try.func52 (by decide) rfl Try.ntmps52 (by kernel_rfl) (by kernel_rfl)
end Go.Am.Tsc

/- A3 -/
namespace Go.Am
open Go.Proofs Go.Sort

def leI (a b : Int) : Bool := decide (a ≤ b)
/-- Numbers, rising, each once. -/
def canonC (l : List Int) : List Int := ddA (l.mergeSort leI)
theorem sort_one {L zs : List Int} (hp : L.Perm zs) (hs : L.Pairwise (· ≤ ·)) : L = zs.mergeSort leI := by
  have h1 : (zs.mergeSort leI).Pairwise (· ≤ ·) := by
    have := List.pairwise_mergeSort (le := leI) (fun a b c h1 h2 => by simp only [leI, decide_eq_true_eq] at *; omega) (fun a b => by simp only [leI, Bool.or_eq_true, decide_eq_true_eq]; omega) zs
    exact this.imp fun {a b} h => by simpa [leI] using h
  refine List.Perm.eq_of_pairwise (le := (· ≤ ·)) (fun a b _ _ h1 h2 => by omega) hs h1 (hp.trans (List.mergeSort_perm zs leI).symm)
theorem canonC_of {L zs : List Int} (hp : L.Perm zs) (hs : L.Pairwise (· ≤ ·)) : ddA L = canonC zs := by rw [canonC, ← sort_one hp hs]
theorem ddA_len : ∀ l : List Int, (ddA l).length ≤ l.length
  | [] => by simp [ddA]
  | [a] => by simp [ddA]
  | a :: b :: r => by
    have := ddA_len (b :: r)
    simp only [ddA]
    split <;> simp at * <;> omega
theorem canonC_len (l : List Int) : (canonC l).length ≤ l.length := by
  have := ddA_len (l.mergeSort leI)
  rw [List.length_mergeSort] at this
  exact this
def canonA (a : At) : At := { a with med := if a.hm then a.med else 0, prf := if a.hp then a.prf else 0, cms := canonC a.cms }
/-- The cells, with what is owned for the last. -/
def At.cO (a : At) (v : AV) : List AV := [.int .i64 a.org, .sl 2 (a.path.map Seg.c), .int .u32 a.nxt, .bool a.hm, .int .u32 a.med, .bool a.hp, .int .u32 a.prf, .bool a.atm, v]

theorem s79n (σ : Store) : ACalls Try.prog 79 [.nils] σ (fun r s => r = .nils ∧ s = σ) := by
  refine calls_of Tst.F79 (by simp [Tst.F79, Fn.mkX]) ?_
  simp only [Tst.F79, Fn.mkX, Tst.b79]
  simp only [↓vcPre, ↓wit_get, ↓reduceIte, vcPost, vcStd, Nat.reduceEqDiff, reduceCtorEq, Nat.reduceAdd, Nat.reduceLeDiff, Int.reduceLT, Int.reduceLE, ↓u_setN]
  exact EndQ.to _ _ rfl (Store.sub_refl _) ⟨rfl, rfl⟩

theorem sub_set_both {σ τ : Store} {g : Nat} {o : Obj} (h : Store.sub σ τ) : Store.sub (σ.set g o) (τ.set g o) := fun i q hi => by
  simp only [Store.set] at hi ⊢
  split at hi
  · rename_i e; rw [if_pos e]; exact hi
  · rename_i e; rw [if_neg e]; exact h i q hi
/-- The end of Canon, of whatever lies in its box. -/
theorem tail_canon (a : At) (hc : a.cms.length ≤ 1000000) {σ t : Store} {b r : Nat} {z : List AV} {n rr : Env → Store → Prop} {x : Nat → Env → Store → Prop} (hb : t b = some (.box a.c)) (hr : t r = some (.box z)) (hz : z.length = 9) (hbr : ¬ b = r) (hsub : Store.sub σ t) (hσb : σ b = none) (hσr : σ r = none)
    (h0 : ∀ s, canonC a.cms = [] → Store.sub σ s → s r = some (.box (({ a with cms := [] } : At).cO .nils)) → rr [(2, .ptr r 0)] s)
    (h1 : ∀ s g, ∀ M : List Int, σ g = none → (canonC a.cms).length ≤ M.length → M.take (canonC a.cms).length = canonC a.cms → Store.sub (σ.set g (.arr 1 (M.map cU))) s → s r = some (.box (({ a with cms := [] } : At).cO (.os g 1 0 (canonC a.cms).length))) → rr [(2, .ptr r 0)] s) :
    bwp Try.prog Tsc.t52_15 [(1, .ptr b 0), (2, .ptr r 0)] t n rr x := by
  simp only [Tsc.t52_15]
  have hrb : ¬ r = b := fun e => hbr e.symm
  simp only [hb, At.c, ↓vcPre, ↓wit_get, ↓reduceIte, vcPost, vcStd, Nat.reduceEqDiff, reduceCtorEq, Nat.reduceAdd, Nat.reduceLeDiff, Int.reduceLT, Int.reduceLE, ↓u_setN]
  refine (s81 _ ⟨rfl, rfl⟩ t).Q ?_
  rintro f s ⟨i, hi, rfl, rfl⟩
  have hib : ¬ b = i := fun e => by subst e; rw [hb] at hi; cases hi
  have hir : ¬ r = i := fun e => by subst e; rw [hr] at hi; cases hi
  simp only [hib, hir, ↓vcPre, ↓wit_get, ↓reduceIte, vcPost, vcStd, Nat.reduceEqDiff, reduceCtorEq, Nat.reduceAdd, Nat.reduceLeDiff, Int.reduceLT, Int.reduceLE, ↓u_setN]
  refine (s80 (Store.set_same _ _ _) (zs := a.cms) (by simp [slc]) (by omega)).Q ?_
  rintro f s (⟨hz0, rfl, rfl⟩ | ⟨hz0, g, L, hg, hp, hl, rfl, rfl⟩)
  · simp only [hib, hir, ↓vcPre, ↓wit_get, ↓reduceIte, vcPost, vcStd, Nat.reduceEqDiff, reduceCtorEq, Nat.reduceAdd, Nat.reduceLeDiff, Int.reduceLT, Int.reduceLE, ↓u_setN]
    refine (s79n _).Q ?_
    rintro f s ⟨rfl, rfl⟩
    simp only [hib, hir, hb, hr, hbr, hrb, At.c, hz, ↓vcPre, ↓wit_get, ↓reduceIte, vcPost, vcStd, Nat.reduceEqDiff, reduceCtorEq, Nat.reduceAdd, Nat.reduceLeDiff, Int.reduceLT, Int.reduceLE, ↓u_setN]
    rw [splice_all _ _ (by simp [hz]), wit_some]
    refine h0 _ (by rw [hz0]; simp [canonC, ddA]) (sub_upd' (sub_upd' (sub_upd' hsub (sub_none hsub hi)) hσb) hσr) (Store.set_same _ _ _)
  · have hgb : ¬ b = g := fun e => by subst e; rw [Store.set_ne _ _ hib, hb] at hg; cases hg
    have hgr : ¬ r = g := fun e => by subst e; rw [Store.set_ne _ _ hir, hr] at hg; cases hg
    simp only [hib, hir, ↓vcPre, ↓wit_get, ↓reduceIte, vcPost, vcStd, Nat.reduceEqDiff, reduceCtorEq, Nat.reduceAdd, Nat.reduceLeDiff, Int.reduceLT, Int.reduceLE, ↓u_setN]
    refine (s79 (Store.set_same _ _ _) (by rw [hp.length_eq]; omega)).Q ?_
    rintro f s ⟨M, m1, m2, m3, rfl, rfl⟩
    simp only [hib, hir, hb, hr, hbr, hrb, hgb, hgr, At.c, hz, ↓vcPre, ↓wit_get, ↓reduceIte, vcPost, vcStd, Nat.reduceEqDiff, reduceCtorEq, Nat.reduceAdd, Nat.reduceLeDiff, Int.reduceLT, Int.reduceLE, ↓u_setN]
    rw [splice_all _ _ (by simp [hz]), wit_some]
    have hcn := canonC_of hp hl
    have hσi := sub_none hsub hi
    have hσg : σ g = none := by
      cases h : σ g with
      | none => rfl
      | some o => rw [sub_upd' hsub hσi g o h] at hg; cases hg
    rw [hcn] at m2 m3 ⊢
    refine h1 _ g M hσg (by omega) m2 ?_ (Store.set_same _ _ _)
    rw [Store.set_set]
    exact sub_upd' (sub_upd' (sub_set_both (sub_upd' hsub hσi)) (by rw [Store.set_ne _ _ hgb]; exact hσb)) (by rw [Store.set_ne _ _ hgr]; exact hσr)

/-- Canon, with a list of its own for the communities. -/
theorem s52 (a : At) (h : a.ok) (σ : Store) : ACalls Try.prog 52 [.agg a.c] σ (fun r s => (canonC a.cms = [] ∧ r = .agg ((canonA a).cO .nils) ∧ s = σ) ∨
    ∃ g, ∃ M : List Int, σ g = none ∧ (canonC a.cms).length ≤ M.length ∧ M.take (canonC a.cms).length = canonC a.cms ∧ r = .agg ((canonA a).cO (.os g 1 0 (canonC a.cms).length)) ∧ s = σ.set g (.arr 1 (M.map cU))) := by
  refine calls_of Tsc.F52 (by simp [Tsc.F52, Fn.mkX]) ?_
  simp only [Tsc.F52, Fn.mkX, Tsc.b52]
  simp only [At.c, ↓vcPre, ↓wit_get, ↓reduceIte, vcPost, vcStd, Nat.reduceEqDiff, reduceCtorEq, Nat.reduceAdd, Nat.reduceLeDiff, Int.reduceLT, Int.reduceLE, ↓u_setN]
  refine AllocQ.i0 fun b hb => ?_
  simp only [At.c, ↓vcPre, ↓wit_get, ↓reduceIte, vcPost, vcStd, Nat.reduceEqDiff, reduceCtorEq, Nat.reduceAdd, Nat.reduceLeDiff, Int.reduceLT, Int.reduceLE, ↓u_setN]
  refine AllocQ.i1 fun r hr1 hr2 hr => ?_
  simp only [hr1, hr2, ↓vcPre, ↓wit_get, ↓reduceIte, vcPost, vcStd, Nat.reduceEqDiff, reduceCtorEq, Nat.reduceAdd, Nat.reduceLeDiff, Int.reduceLT, Int.reduceLE, ↓u_setN]
  refine (c78 a.path h.1 h.2.1).Q ?_
  have hsb : ∀ X Y Z : Obj, Store.sub σ (((σ.set b X).set r Y).set b Z) := fun X Y Z => sub_upd' (sub_set2 hb hr hr1) hb
  cases hm : a.hm <;> cases hp : a.hp
  all_goals
    simp only [hr1, hr2, Store.set_set, hm, hp, ↓vcPre, ↓wit_get, ↓reduceIte, vcPost, vcStd, Nat.reduceEqDiff, reduceCtorEq, Nat.reduceAdd, Nat.reduceLeDiff, Int.reduceLT, Int.reduceLE, ↓u_setN]
    refine tail_canon { a with med := if a.hm then a.med else 0, prf := if a.hp then a.prf else 0 } h.2.2 (by simp [At.c, hm, hp]) (by rw [Store.set_ne _ _ hr1, Store.set_same]) rfl hr2 (hsb _ _ _) hb hr ?_ ?_
    · intro s hcz hss hsr
      refine EndQ.to σ (.agg ((canonA a).cO .nils)) ?_ hss (.inl ⟨hcz, rfl, rfl⟩)
      show Env.res [(2, AV.ptr r 0)] s [RS.c 2 9 true] = _
      simp only [hsr, At.cO, canonA, hm, hp, ↓vcPre, ↓wit_get, ↓reduceIte, vcPost, vcStd, Nat.reduceEqDiff, reduceCtorEq, Nat.reduceAdd, Nat.reduceLeDiff, Int.reduceLT, Int.reduceLE, ↓u_setN]
    · intro s g M m1 m2 m3 m4 hsr
      refine EndQ.to (σ.set g (.arr 1 (M.map cU))) (.agg ((canonA a).cO (.os g 1 0 (canonC a.cms).length))) ?_ m4 (.inr ⟨g, M, m1, m2, m3, rfl, rfl⟩)
      show Env.res [(2, AV.ptr r 0)] s [RS.c 2 9 true] = _
      simp only [hsr, At.cO, canonA, hm, hp, ↓vcPre, ↓wit_get, ↓reduceIte, vcPost, vcStd, Nat.reduceEqDiff, reduceCtorEq, Nat.reduceAdd, Nat.reduceLeDiff, Int.reduceLT, Int.reduceLE, ↓u_setN]
/-- Canon, as a value. -/
theorem c52 (a : At) (h : a.ok) : Pur Try.prog 52 [.agg a.c] (.agg (canonA a).c) := by
  intro σ
  refine (s52 a h σ).weakRes ?_
  rintro r s (⟨hz, rfl, rfl⟩ | ⟨g, M, m1, m2, m3, rfl, rfl⟩)
  · refine Weak.agg (WeakL.nil 8 1 rfl (WeakL.pure ⟨?_, rfl, ?_⟩))
    · intro c hc
      simp [At.cO] at hc
      rcases hc with rfl | rfl | rfl | rfl | rfl | rfl | rfl | rfl | rfl <;> rfl
    · simp [At.cO, At.c, canonA, hz]
  · refine Weak.agg (WeakL.freeze 8 rfl (Store.set_same _ _ _) (by simpa using m2) (WeakL.forget (fun i o hi => ?_) (WeakL.pure ⟨?_, rfl, ?_⟩)))
    · have : i ≠ g := fun e => by subst e; rw [m1] at hi; cases hi
      rw [Store.del_ne _ this, Store.set_ne _ _ this]; exact hi
    · intro c hc
      simp [At.cO] at hc
      rcases hc with rfl | rfl | rfl | rfl | rfl | rfl | rfl | rfl | rfl <;> rfl
    · simp only [At.cO, At.c, canonA, List.set_cons_succ, List.set_cons_zero, List.drop_zero, ← List.map_take, m3]
end Go.Am

/- A4 -/
namespace Go.Am
open Go.Proofs Go.Sort

theorem c131 (x : Int) : Pur Try.prog 131 [.int .i64 x] (.bool false) := by
  refine pur_of Tst.F131 (by simp [Tst.F131, Fn.mkX]) fun σ => ?_
  simp only [Tst.F131, Fn.mkX, Tst.b131]
  simp only [↓vcPre, ↓wit_get, ↓reduceIte, vcPost, vcStd, Nat.reduceEqDiff, reduceCtorEq, Nat.reduceAdd, Nat.reduceLeDiff, Int.reduceLT, Int.reduceLE, ↓u_setN]
theorem c110 (x y : Int) : Pur Try.prog 110 [.int .i64 x, .int .i64 y] (.int .i64 (cmpI x y)) := by
  refine pur_of Tst.F110 (by simp [Tst.F110, Fn.mkX]) fun σ => ?_
  simp only [Tst.F110, Fn.mkX, Tst.b110]
  simp only [↓vcPre, ↓wit_get, ↓reduceIte, vcPost, vcStd, Nat.reduceEqDiff, reduceCtorEq, Nat.reduceAdd, Nat.reduceLeDiff, Int.reduceLT, Int.reduceLE, ↓u_setN]
  refine (c131 x).Q ?_
  simp only [↓vcPre, ↓wit_get, ↓reduceIte, vcPost, vcStd, Nat.reduceEqDiff, reduceCtorEq, Nat.reduceAdd, Nat.reduceLeDiff, Int.reduceLT, Int.reduceLE, ↓u_setN]
  refine (c131 y).Q ?_
  simp only [↓vcPre, ↓wit_get, ↓reduceIte, vcPost, vcStd, Nat.reduceEqDiff, reduceCtorEq, Nat.reduceAdd, Nat.reduceLeDiff, Int.reduceLT, Int.reduceLE, ↓u_setN]
  refine ⟨fun h1 => by simp [cmpI, h1], fun h1 => ⟨fun h2 => by simp [cmpI, h1, h2], fun h2 => by simp [cmpI, h1, h2]⟩⟩
theorem c112 (x y : Int) : Pur Try.prog 112 [.int .u32 x, .int .u32 y] (.int .i64 (cmpI x y)) := by
  refine pur_of Tst.F112 (by simp [Tst.F112, Fn.mkX]) fun σ => ?_
  simp only [Tst.F112, Fn.mkX, Tst.b112]
  simp only [↓vcPre, ↓wit_get, ↓reduceIte, vcPost, vcStd, Nat.reduceEqDiff, reduceCtorEq, Nat.reduceAdd, Nat.reduceLeDiff, Int.reduceLT, Int.reduceLE, ↓u_setN]
  refine (c134 x).Q ?_
  simp only [↓vcPre, ↓wit_get, ↓reduceIte, vcPost, vcStd, Nat.reduceEqDiff, reduceCtorEq, Nat.reduceAdd, Nat.reduceLeDiff, Int.reduceLT, Int.reduceLE, ↓u_setN]
  refine (c134 y).Q ?_
  simp only [↓vcPre, ↓wit_get, ↓reduceIte, vcPost, vcStd, Nat.reduceEqDiff, reduceCtorEq, Nat.reduceAdd, Nat.reduceLeDiff, Int.reduceLT, Int.reduceLE, ↓u_setN]
  refine ⟨fun h1 => by simp [cmpI, h1], fun h1 => ⟨fun h2 => by simp [cmpI, h1, h2], fun h2 => by simp [cmpI, h1, h2]⟩⟩
def truthF (b : Bool) : Int := if b then 1 else 0
theorem c113 (b : Bool) : Pur Try.prog 113 [.bool b] (.int .i64 (truthF b)) := by
  refine pur_of Tst.F113 (by simp [Tst.F113, Fn.mkX]) fun σ => ?_
  simp only [Tst.F113, Fn.mkX, Tst.b113]
  cases b <;> simp only [↓vcPre, ↓wit_get, ↓reduceIte, vcPost, vcStd, Nat.reduceEqDiff, reduceCtorEq, Nat.reduceAdd, Nat.reduceLeDiff, Int.reduceLT, Int.reduceLE, ↓u_setN] <;> rfl
/-- The first that is not 0. -/
def orL : List Int → Int
  | [] => 0
  | x :: r => if x = 0 then orL r else x
def cI (x : Int) : List AV := [.int .i64 x]
theorem s109 (xs : List Int) (hx : xs.length < 1000) {σ : Store} {i : Nat} (hi : σ i = some (.arr 1 (xs.map cI))) : ACalls Try.prog 109 [.os i 1 0 xs.length] σ (fun r s => s = σ ∧ r = .int .i64 (orL xs)) := by
  refine calls_of Tst.F109 (by simp [Tst.F109, Fn.mkX]) ?_
  simp only [Tst.F109, Fn.mkX, Tst.b109]
  simp only [hi, ↓vcPre, ↓wit_get, ↓reduceIte, vcPost, vcStd, Nat.reduceEqDiff, reduceCtorEq, Nat.reduceAdd, Nat.reduceLeDiff, Int.reduceLT, Int.reduceLE, ↓u_setN]
  refine LoopQ.inv (S := Nat) (fun k => [(3, .int .i64 0), (6, .os i 1 0 xs.length), (7, .int .i64 (xs.length : Int)), (8, .int .i64 (k : Int))]) (fun _ => σ) (fun k => k ≤ xs.length ∧ orL (xs.drop k) = orL xs) (fun k => xs.length + 1 - k) 0 rfl (Store.sub_refl _) ⟨by omega, rfl⟩ ?_
  rintro k ⟨hk, ho⟩
  simp only [hi, ↓vcPre, ↓wit_get, ↓reduceIte, vcPost, vcStd, Nat.reduceEqDiff, reduceCtorEq, Nat.reduceAdd, Nat.reduceLeDiff, Int.reduceLT, Int.reduceLE, ↓u_setN]
  refine ⟨fun c1 => ?_, fun c1 => ?_⟩
  · have ek : IntKind.i64.wrap ((k : Int) + 1) = ((k + 1 : Nat) : Int) := by rw [wrap64 (by unfold I64; omega)]; omega
    rw [List.drop_eq_getElem_cons c1] at ho
    simp only [orL] at ho
    simp only [Nat.zero_add]
    refine ⟨c1, c1, by simp [cI], ?_⟩
    simp only [cI, Nat.zero_add, ↓vcPre, ↓wit_get, ↓reduceIte, vcPost, vcStd, Nat.reduceEqDiff, reduceCtorEq, Nat.reduceAdd, Nat.reduceLeDiff, Int.reduceLT, Int.reduceLE, ↓u_setN]
    refine ⟨fun g1 => ?_, fun g1 => ?_⟩
    · rw [if_neg g1] at ho
      exact EndQ.to _ _ rfl (Store.sub_refl _) ⟨rfl, by rw [ho]⟩
    · rw [if_pos g1] at ho
      rw [ek]
      exact NextQ.to (k + 1) rfl (Store.sub_refl _) (by omega) ⟨by omega, ho⟩
  · rw [List.drop_eq_nil_of_le (by omega)] at ho
    exact EndQ.to _ _ rfl (Store.sub_refl _) ⟨rfl, by rw [← ho]; rfl⟩
/-- Lists held against one another. -/
def cmpG {α : Type} (f : α → α → Int) : List α → List α → Int
  | [], [] => 0
  | [], _ :: _ => -1
  | _ :: _, [] => 1
  | a :: r, b :: s => if f a b = 0 then cmpG f r s else f a b
theorem c114 (l m : List Int) (hl : l.length ≤ 1000000) (hm : m.length ≤ 1000000) : Pur Try.prog 114 [.sl 1 (l.map cU), .sl 1 (m.map cU)] (.int .i64 (cmpG cmpI l m)) := by
  refine pur_of Tst.F114 (by simp [Tst.F114, Fn.mkX]) fun σ => ?_
  simp only [Tst.F114, Fn.mkX, Tst.b114]
  simp only [↓vcPre, ↓wit_get, ↓reduceIte, vcPost, vcStd, Nat.reduceEqDiff, reduceCtorEq, Nat.reduceAdd, Nat.reduceLeDiff, Int.reduceLT, Int.reduceLE, ↓u_setN]
  refine LoopQ.inv (S := Nat) (fun k => [(0, .sl 1 (l.map cU)), (1, .sl 1 (m.map cU)), (9, .sl 1 (l.map cU)), (10, .int .i64 (l.length : Int)), (11, .int .i64 (k : Int))]) (fun _ => σ) (fun k => k ≤ l.length ∧ k ≤ m.length ∧ cmpG cmpI (l.drop k) (m.drop k) = cmpG cmpI l m) (fun k => l.length + 1 - k) 0 rfl (Store.sub_refl _) ⟨by omega, by omega, rfl⟩ ?_
  rintro k ⟨hk, hk2, ho⟩
  simp only [↓vcPre, ↓wit_get, ↓reduceIte, vcPost, vcStd, Nat.reduceEqDiff, reduceCtorEq, Nat.reduceAdd, Nat.reduceLeDiff, Int.reduceLT, Int.reduceLE, ↓u_setN]
  refine ⟨fun c1 => ?_, fun c1 => ?_⟩
  · have ek : IntKind.i64.wrap ((k : Int) + 1) = ((k + 1 : Nat) : Int) := by rw [wrap64 (by unfold I64; omega)]; omega
    rw [List.drop_eq_getElem_cons c1] at ho
    refine ⟨c1, by simp [cU], ?_⟩
    simp only [cU, ↓vcPre, ↓wit_get, ↓reduceIte, vcPost, vcStd, Nat.reduceEqDiff, reduceCtorEq, Nat.reduceAdd, Nat.reduceLeDiff, Int.reduceLT, Int.reduceLE, ↓u_setN]
    refine ⟨fun g1 => ?_, fun g1 => ?_⟩
    · rw [show List.drop k m = [] from List.drop_eq_nil_of_le (by omega)] at ho
      rw [← ho]; rfl
    · rw [List.drop_eq_getElem_cons (l := m) (by omega)] at ho
      simp only [cmpG] at ho
      refine ⟨by omega, ?_⟩
      refine (c112 _ _).Q ?_
      simp only [↓vcPre, ↓wit_get, ↓reduceIte, vcPost, vcStd, Nat.reduceEqDiff, reduceCtorEq, Nat.reduceAdd, Nat.reduceLeDiff, Int.reduceLT, Int.reduceLE, ↓u_setN]
      refine ⟨fun g2 => ?_, fun g2 => ?_⟩
      · rw [if_neg g2] at ho
        rw [ho]
      · rw [if_pos g2] at ho
        rw [ek]
        exact NextQ.to (k + 1) rfl (Store.sub_refl _) (by omega) ⟨by omega, by omega, ho⟩
  · rw [show List.drop k l = [] from List.drop_eq_nil_of_le (by omega)] at ho
    refine ⟨fun g1 => ?_, fun g1 => ?_⟩
    · rw [List.drop_eq_getElem_cons (l := m) (by omega)] at ho
      rw [← ho]; rfl
    · rw [show List.drop k m = [] from List.drop_eq_nil_of_le (by omega)] at ho
      rw [← ho]; rfl
theorem u_mks3 {k : IntKind} {a b c : Int} : alv (.mksl 1 3) [.int k a, .int k b, .int k c] = some (.arr 1 [[.int k a], [.int k b], [.int k c]], fun id => .os id 1 0 3) := by rfl
theorem u_mks9 {k : IntKind} {a b c d e f g h i : Int} : alv (.mksl 1 9) [.int k a, .int k b, .int k c, .int k d, .int k e, .int k f, .int k g, .int k h, .int k i] = some (.arr 1 [[.int k a], [.int k b], [.int k c], [.int k d], [.int k e], [.int k f], [.int k g], [.int k h], [.int k i]], fun id => .os id 1 0 9) := by rfl
def cmpSeg (a b : Seg) : Int := orL [cmpI a.kind b.kind, cmpI a.ls.length b.ls.length, cmpG cmpI a.ls b.ls]
theorem c133 (a b : Seg) (ha : a.ok) (hb : b.ok) : Pur Try.prog 133 [.agg a.c, .agg b.c] (.int .i64 (cmpSeg a b)) := by
  refine pur_of Tst.F133 (by simp [Tst.F133, Fn.mkX]) fun σ => ?_
  simp only [Tst.F133, Fn.mkX, Tst.b133, Seg.c]
  simp only [↓vcPre, ↓wit_get, ↓reduceIte, vcPost, vcStd, Nat.reduceEqDiff, reduceCtorEq, Nat.reduceAdd, Nat.reduceLeDiff, Int.reduceLT, Int.reduceLE, ↓u_setN]
  refine AllocQ.i0 fun i hi => ?_
  simp only [↓vcPre, ↓wit_get, ↓reduceIte, vcPost, vcStd, Nat.reduceEqDiff, reduceCtorEq, Nat.reduceAdd, Nat.reduceLeDiff, Int.reduceLT, Int.reduceLE, ↓u_setN]
  refine AllocQ.i1 fun j hj1 hj2 hj => ?_
  simp only [*, ↓vcPre, ↓wit_get, ↓reduceIte, vcPost, vcStd, Nat.reduceEqDiff, reduceCtorEq, Nat.reduceAdd, Nat.reduceLeDiff, Int.reduceLT, Int.reduceLE, ↓u_setN]
  have hz : ∀ n : Nat, n ≤ 1000000 → IntKind.i64.wrap (n : Int) = n := fun n hn => wrap64 (by unfold I64; omega)
  refine (c110 _ _).Q ?_
  simp only [*, ↓vcPre, ↓wit_get, ↓reduceIte, vcPost, vcStd, Nat.reduceEqDiff, reduceCtorEq, Nat.reduceAdd, Nat.reduceLeDiff, Int.reduceLT, Int.reduceLE, ↓u_setN]
  refine (c110 _ _).Q ?_
  simp only [*, ↓vcPre, ↓wit_get, ↓reduceIte, vcPost, vcStd, Nat.reduceEqDiff, reduceCtorEq, Nat.reduceAdd, Nat.reduceLeDiff, Int.reduceLT, Int.reduceLE, ↓u_setN]
  refine (c114 _ _ ha hb).Q ?_
  simp only [u_mks3, ↓vcPre, ↓wit_get, ↓reduceIte, vcPost, vcStd, Nat.reduceEqDiff, reduceCtorEq, Nat.reduceAdd, Nat.reduceLeDiff, Int.reduceLT, Int.reduceLE, ↓u_setN]
  refine AllocQ.i2 fun g hg1 hg2 hg3 hg4 hg => ?_
  simp only [↓vcPre, ↓wit_get, ↓reduceIte, vcPost, vcStd, Nat.reduceEqDiff, reduceCtorEq, Nat.reduceAdd, Nat.reduceLeDiff, Int.reduceLT, Int.reduceLE, ↓u_setN]
  refine (s109 [cmpI a.kind b.kind, cmpI a.ls.length b.ls.length, cmpG cmpI a.ls b.ls] (by simp) (Store.set_same _ _ _)).Q ?_
  rintro r s ⟨h1, rfl⟩
  subst h1
  refine ⟨Store.sub_refl _, ?_⟩
  simp only [↓vcPre, ↓wit_get, ↓reduceIte, vcPost, vcStd, Nat.reduceEqDiff, reduceCtorEq, Nat.reduceAdd, Nat.reduceLeDiff, Int.reduceLT, Int.reduceLE, ↓u_setN]
  exact ⟨rfl, sub_upd' (sub_set2 hi hj hj1) hg⟩
def cmpPath (a b : List Seg) : Int := cmpG cmpSeg a b
theorem s132 (l m : List Seg) (hl : l.length ≤ 1000000) (hm : m.length ≤ 1000000) (hlo : ∀ s ∈ l, s.ok) (hmo : ∀ s ∈ m, s.ok) : Pur Try.prog 132 [.sl 2 (l.map Seg.c), .sl 2 (m.map Seg.c), .fn 133 []] (.int .i64 (cmpPath l m)) := by
  refine pur_of Tst.F132 (by simp [Tst.F132, Fn.mkX]) fun σ => ?_
  simp only [Tst.F132, Fn.mkX, Tst.b132]
  simp only [↓vcPre, ↓wit_get, ↓reduceIte, vcPost, vcStd, Nat.reduceEqDiff, reduceCtorEq, Nat.reduceAdd, Nat.reduceLeDiff, Int.reduceLT, Int.reduceLE, ↓u_setN]
  refine LoopQ.inv (S := Nat) (fun k => [(0, .sl 2 (l.map Seg.c)), (1, .sl 2 (m.map Seg.c)), (2, .fn 133 []), (11, .sl 2 (l.map Seg.c)), (12, .int .i64 (l.length : Int)), (13, .int .i64 (k : Int))]) (fun _ => σ) (fun k => k ≤ l.length ∧ k ≤ m.length ∧ cmpG cmpSeg (l.drop k) (m.drop k) = cmpG cmpSeg l m) (fun k => l.length + 1 - k) 0 rfl (Store.sub_refl _) ⟨by omega, by omega, rfl⟩ ?_
  rintro k ⟨hk, hk2, ho⟩
  simp only [↓vcPre, ↓wit_get, ↓reduceIte, vcPost, vcStd, Nat.reduceEqDiff, reduceCtorEq, Nat.reduceAdd, Nat.reduceLeDiff, Int.reduceLT, Int.reduceLE, ↓u_setN]
  refine ⟨fun c1 => ?_, fun c1 => ?_⟩
  · have ek : IntKind.i64.wrap ((k : Int) + 1) = ((k + 1 : Nat) : Int) := by rw [wrap64 (by unfold I64; omega)]; omega
    rw [List.drop_eq_getElem_cons c1] at ho
    refine ⟨c1, by simp [Seg.c], ?_⟩
    refine AllocQ.i0 fun i hi => ?_
    simp only [Seg.c, ↓vcPre, ↓wit_get, ↓reduceIte, vcPost, vcStd, Nat.reduceEqDiff, reduceCtorEq, Nat.reduceAdd, Nat.reduceLeDiff, Int.reduceLT, Int.reduceLE, ↓u_setN]
    refine ⟨fun g1 => ?_, fun g1 => ?_⟩
    · rw [show List.drop k m = [] from List.drop_eq_nil_of_le (by omega)] at ho
      exact ⟨by rw [cmpPath, ← ho]; rfl, by rw [Store.set_set]; exact Store.sub_set _ _ _ hi⟩
    · rw [List.drop_eq_getElem_cons (l := m) (by omega)] at ho
      simp only [cmpG] at ho
      rw [Store.set_set]
      refine ⟨by omega, ?_⟩
      refine AllocQ.i1 fun j hj1 hj2 hj => ?_
      simp only [Seg.c, Store.set_set, hj1, hj2, ↓vcPre, ↓wit_get, ↓reduceIte, vcPost, vcStd, Nat.reduceEqDiff, reduceCtorEq, Nat.reduceAdd, Nat.reduceLeDiff, Int.reduceLT, Int.reduceLE, ↓u_setN]
      refine (c133 _ _ (hlo _ (List.getElem_mem c1)) (hmo _ (List.getElem_mem (by omega)))).Q ?_
      simp only [↓vcPre, ↓wit_get, ↓reduceIte, vcPost, vcStd, Nat.reduceEqDiff, reduceCtorEq, Nat.reduceAdd, Nat.reduceLeDiff, Int.reduceLT, Int.reduceLE, ↓u_setN]
      refine ⟨fun g2 => ?_, fun g2 => ?_⟩
      · rw [if_neg g2] at ho
        exact ⟨by rw [cmpPath, ← ho], sub_set2 hi hj hj1⟩
      · rw [if_pos g2] at ho
        rw [ek]
        exact NextQ.to (k + 1) rfl (sub_set2 hi hj hj1) (by omega) ⟨by omega, by omega, ho⟩
  · rw [show List.drop k l = [] from List.drop_eq_nil_of_le (by omega)] at ho
    refine ⟨fun g1 => ?_, fun g1 => ?_⟩
    · rw [List.drop_eq_getElem_cons (l := m) (by omega)] at ho
      rw [cmpPath, ← ho]; rfl
    · rw [show List.drop k m = [] from List.drop_eq_nil_of_le (by omega)] at ho
      rw [cmpPath, ← ho]; rfl
theorem c111 (l m : List Seg) (hl : l.length ≤ 1000000) (hm : m.length ≤ 1000000) (hlo : ∀ s ∈ l, s.ok) (hmo : ∀ s ∈ m, s.ok) : Pur Try.prog 111 [.sl 2 (l.map Seg.c), .sl 2 (m.map Seg.c)] (.int .i64 (cmpPath l m)) := by
  refine pur_of Tst.F111 (by simp [Tst.F111, Fn.mkX]) fun σ => ?_
  simp only [Tst.F111, Fn.mkX, Tst.b111]
  simp only [↓vcPre, ↓wit_get, ↓reduceIte, vcPost, vcStd, Nat.reduceEqDiff, reduceCtorEq, Nat.reduceAdd, Nat.reduceLeDiff, Int.reduceLT, Int.reduceLE, ↓u_setN]
  refine (s132 l m hl hm hlo hmo).Q ?_
  simp only [↓vcPre, ↓wit_get, ↓reduceIte, vcPost, vcStd, Nat.reduceEqDiff, reduceCtorEq, Nat.reduceAdd, Nat.reduceLeDiff, Int.reduceLT, Int.reduceLE, ↓u_setN]

/-- Attributes held against others, as they stand. -/
def cmpAs (a b : At) : Int := orL [cmpI a.org b.org, cmpPath a.path b.path, cmpI a.nxt b.nxt, IntKind.i64.wrap (truthF a.hm - truthF b.hm), cmpI a.med b.med, IntKind.i64.wrap (truthF a.hp - truthF b.hp), cmpI a.prf b.prf, IntKind.i64.wrap (truthF a.atm - truthF b.atm), cmpG cmpI a.cms b.cms]
theorem canonA_ok {a : At} (h : a.ok) : (canonA a).ok := ⟨h.1, h.2.1, Nat.le_trans (canonC_len _) h.2.2⟩
set_option maxRecDepth 20000 in
theorem c82 (a b : At) (ha : a.ok) (hb : b.ok) : Pur Try.prog 82 [.agg a.c, .agg b.c] (.int .i64 (cmpAs (canonA a) (canonA b))) := by
  refine pur_of Tst.F82 (by simp [Tst.F82, Fn.mkX]) fun σ => ?_
  simp only [Tst.F82, Fn.mkX, Tst.b82]
  simp only [↓vcPre, ↓wit_get, ↓reduceIte, vcPost, vcStd, Nat.reduceEqDiff, reduceCtorEq, Nat.reduceAdd, Nat.reduceLeDiff, Int.reduceLT, Int.reduceLE, ↓u_setN]
  have e9 : ∀ x : At, x.c.length = 9 := fun _ => rfl
  have t9 : ∀ x : At, List.take 9 x.c = x.c := fun _ => rfl
  have p9 : ∀ x y : At, splice 0 x.c y.c = some x.c := fun x y => splice_all _ _ rfl
  refine AllocQ.i0 fun i hi => ?_
  simp only [↓vcPre, ↓wit_get, ↓reduceIte, vcPost, vcStd, Nat.reduceEqDiff, reduceCtorEq, Nat.reduceAdd, Nat.reduceLeDiff, Int.reduceLT, Int.reduceLE, ↓u_setN]
  refine AllocQ.i1 fun j hj1 hj2 hj => ?_
  simp only [hj1, hj2, e9, t9, p9, Nat.le_refl, ↓vcPre, ↓wit_get, ↓reduceIte, vcPost, vcStd, Nat.reduceEqDiff, reduceCtorEq, Nat.reduceAdd, Nat.reduceLeDiff, Int.reduceLT, Int.reduceLE, ↓u_setN]
  refine (c52 a ha).Q ?_
  simp only [hj1, hj2, e9, t9, p9, Nat.le_refl, ↓vcPre, ↓wit_get, ↓reduceIte, vcPost, vcStd, Nat.reduceEqDiff, reduceCtorEq, Nat.reduceAdd, Nat.reduceLeDiff, Int.reduceLT, Int.reduceLE, ↓u_setN]
  refine (c52 b hb).Q ?_
  simp only [hj1, hj2, e9, t9, p9, Nat.le_refl, Store.set_set, ↓vcPre, ↓wit_get, ↓reduceIte, vcPost, vcStd, Nat.reduceEqDiff, reduceCtorEq, Nat.reduceAdd, Nat.reduceLeDiff, Int.reduceLT, Int.reduceLE, ↓u_setN]
  have hsub : Store.sub σ ((((σ.set i (Obj.box a.c)).set j (Obj.box b.c)).set i (Obj.box (canonA a).c)).set j (Obj.box (canonA b).c)) := sub_upd' (sub_upd' (sub_set2 hi hj hj1) hi) hj
  generalize ((((σ.set i (Obj.box a.c)).set j (Obj.box b.c)).set i (Obj.box (canonA a).c)).set j (Obj.box (canonA b).c)) = T at hsub ⊢
  have ha1 := canonA_ok ha
  have hb1 := canonA_ok hb
  generalize canonA a = a1 at ha1 ⊢
  generalize canonA b = b1 at hb1 ⊢
  clear e9 t9 p9
  simp only [At.c, ↓vcPre, ↓wit_get, ↓reduceIte, vcPost, vcStd, Nat.reduceEqDiff, reduceCtorEq, Nat.reduceAdd, Nat.reduceLeDiff, Int.reduceLT, Int.reduceLE, ↓u_setN]
  refine (c110 _ _).Q ?_
  simp only [↓vcPre, ↓wit_get, ↓reduceIte, vcPost, vcStd, Nat.reduceEqDiff, reduceCtorEq, Nat.reduceAdd, Nat.reduceLeDiff, Int.reduceLT, Int.reduceLE, ↓u_setN]
  refine (c111 _ _ ha1.1 hb1.1 ha1.2.1 hb1.2.1).Q ?_
  simp only [↓vcPre, ↓wit_get, ↓reduceIte, vcPost, vcStd, Nat.reduceEqDiff, reduceCtorEq, Nat.reduceAdd, Nat.reduceLeDiff, Int.reduceLT, Int.reduceLE, ↓u_setN]
  refine (c112 _ _).Q ?_
  simp only [↓vcPre, ↓wit_get, ↓reduceIte, vcPost, vcStd, Nat.reduceEqDiff, reduceCtorEq, Nat.reduceAdd, Nat.reduceLeDiff, Int.reduceLT, Int.reduceLE, ↓u_setN]
  refine (c113 _).Q ?_
  simp only [↓vcPre, ↓wit_get, ↓reduceIte, vcPost, vcStd, Nat.reduceEqDiff, reduceCtorEq, Nat.reduceAdd, Nat.reduceLeDiff, Int.reduceLT, Int.reduceLE, ↓u_setN]
  refine (c113 _).Q ?_
  simp only [↓vcPre, ↓wit_get, ↓reduceIte, vcPost, vcStd, Nat.reduceEqDiff, reduceCtorEq, Nat.reduceAdd, Nat.reduceLeDiff, Int.reduceLT, Int.reduceLE, ↓u_setN]
  refine (c112 _ _).Q ?_
  simp only [↓vcPre, ↓wit_get, ↓reduceIte, vcPost, vcStd, Nat.reduceEqDiff, reduceCtorEq, Nat.reduceAdd, Nat.reduceLeDiff, Int.reduceLT, Int.reduceLE, ↓u_setN]
  refine (c113 _).Q ?_
  simp only [↓vcPre, ↓wit_get, ↓reduceIte, vcPost, vcStd, Nat.reduceEqDiff, reduceCtorEq, Nat.reduceAdd, Nat.reduceLeDiff, Int.reduceLT, Int.reduceLE, ↓u_setN]
  refine (c113 _).Q ?_
  simp only [↓vcPre, ↓wit_get, ↓reduceIte, vcPost, vcStd, Nat.reduceEqDiff, reduceCtorEq, Nat.reduceAdd, Nat.reduceLeDiff, Int.reduceLT, Int.reduceLE, ↓u_setN]
  refine (c112 _ _).Q ?_
  simp only [↓vcPre, ↓wit_get, ↓reduceIte, vcPost, vcStd, Nat.reduceEqDiff, reduceCtorEq, Nat.reduceAdd, Nat.reduceLeDiff, Int.reduceLT, Int.reduceLE, ↓u_setN]
  refine (c113 _).Q ?_
  simp only [↓vcPre, ↓wit_get, ↓reduceIte, vcPost, vcStd, Nat.reduceEqDiff, reduceCtorEq, Nat.reduceAdd, Nat.reduceLeDiff, Int.reduceLT, Int.reduceLE, ↓u_setN]
  refine (c113 _).Q ?_
  simp only [↓vcPre, ↓wit_get, ↓reduceIte, vcPost, vcStd, Nat.reduceEqDiff, reduceCtorEq, Nat.reduceAdd, Nat.reduceLeDiff, Int.reduceLT, Int.reduceLE, ↓u_setN]
  refine (c114 _ _ ha1.2.2 hb1.2.2).Q ?_
  simp only [u_mks9, ↓vcPre, ↓wit_get, ↓reduceIte, vcPost, vcStd, Nat.reduceEqDiff, reduceCtorEq, Nat.reduceAdd, Nat.reduceLeDiff, Int.reduceLT, Int.reduceLE, ↓u_setN]
  refine AllocQ.i0 fun g hg => ?_
  simp only [↓vcPre, ↓wit_get, ↓reduceIte, vcPost, vcStd, Nat.reduceEqDiff, reduceCtorEq, Nat.reduceAdd, Nat.reduceLeDiff, Int.reduceLT, Int.reduceLE, ↓u_setN]
  refine (s109 [cmpI a1.org b1.org, cmpPath a1.path b1.path, cmpI a1.nxt b1.nxt, IntKind.i64.wrap (truthF a1.hm - truthF b1.hm), cmpI a1.med b1.med, IntKind.i64.wrap (truthF a1.hp - truthF b1.hp), cmpI a1.prf b1.prf, IntKind.i64.wrap (truthF a1.atm - truthF b1.atm), cmpG cmpI a1.cms b1.cms] (by simp) (Store.set_same _ _ _)).Q ?_
  rintro r s ⟨h1, rfl⟩
  subst h1
  refine ⟨Store.sub_refl _, ?_⟩
  simp only [↓vcPre, ↓wit_get, ↓reduceIte, vcPost, vcStd, Nat.reduceEqDiff, reduceCtorEq, Nat.reduceAdd, Nat.reduceLeDiff, Int.reduceLT, Int.reduceLE, ↓u_setN]
  exact ⟨rfl, sub_upd' hsub (sub_none hsub hg)⟩
theorem c53 (a b : At) (ha : a.ok) (hb : b.ok) : Pur Try.prog 53 [.agg a.c, .agg b.c] (.bool (decide (cmpAs (canonA a) (canonA b) = 0))) := by
  refine pur_of Tst.F53 (by simp [Tst.F53, Fn.mkX]) fun σ => ?_
  simp only [Tst.F53, Fn.mkX, Tst.b53]
  simp only [↓vcPre, ↓wit_get, ↓reduceIte, vcPost, vcStd, Nat.reduceEqDiff, reduceCtorEq, Nat.reduceAdd, Nat.reduceLeDiff, Int.reduceLT, Int.reduceLE, ↓u_setN]
  have t9 : ∀ x : At, List.take 9 x.c = x.c := fun _ => rfl
  have e9 : ∀ x : At, x.c.length = 9 := fun _ => rfl
  refine AllocQ.i0 fun i hi => ?_
  simp only [↓vcPre, ↓wit_get, ↓reduceIte, vcPost, vcStd, Nat.reduceEqDiff, reduceCtorEq, Nat.reduceAdd, Nat.reduceLeDiff, Int.reduceLT, Int.reduceLE, ↓u_setN]
  refine AllocQ.i1 fun j hj1 hj2 hj => ?_
  simp only [hj1, hj2, e9, t9, Nat.le_refl, ↓vcPre, ↓wit_get, ↓reduceIte, vcPost, vcStd, Nat.reduceEqDiff, reduceCtorEq, Nat.reduceAdd, Nat.reduceLeDiff, Int.reduceLT, Int.reduceLE, ↓u_setN]
  refine (c82 a b ha hb).Q ?_
  simp only [↓vcPre, ↓wit_get, ↓reduceIte, vcPost, vcStd, Nat.reduceEqDiff, reduceCtorEq, Nat.reduceAdd, Nat.reduceLeDiff, Int.reduceLT, Int.reduceLE, ↓u_setN]
  exact sub_set2 hi hj hj1
end Go.Am

/- A5 -/
namespace Go.Am
open Go.Proofs Go.Sort

theorem cmpI_z {x y : Int} : cmpI x y = 0 ↔ x = y := cmpI_zero x y
theorem cmpG_z {α : Type} {f : α → α → Int} : ∀ (l m : List α), (∀ a ∈ l, ∀ b ∈ m, f a b = 0 ↔ a = b) → (cmpG f l m = 0 ↔ l = m)
  | [], [], _ => by simp [cmpG]
  | [], _ :: _, _ => by simp [cmpG]
  | _ :: _, [], _ => by simp [cmpG]
  | a :: r, b :: s, h => by
    have h1 := h a (by simp) b (by simp)
    have h2 := cmpG_z r s (fun x hx y hy => h x (by simp [hx]) y (by simp [hy]))
    simp only [cmpG]
    split
    · rename_i h0
      rw [h2, h1.1 h0]; simp
    · rename_i h0
      constructor
      · intro h3; exact absurd h3 h0
      · intro h3; exact absurd (h1.2 (List.cons.inj h3).1) h0
theorem orL_z : ∀ (l : List Int), orL l = 0 ↔ ∀ x ∈ l, x = 0
  | [] => by simp [orL]
  | x :: r => by
    have := orL_z r
    simp only [orL]
    split
    · rename_i h; rw [this]; simp [h]
    · rename_i h; simp [h]
theorem cmpSeg_z {a b : Seg} : cmpSeg a b = 0 ↔ a = b := by
  unfold cmpSeg
  rw [orL_z]
  simp only [List.mem_cons, List.not_mem_nil, or_false, forall_eq_or_imp, forall_eq]
  rw [cmpI_z, cmpI_z, cmpG_z _ _ (fun _ _ _ _ => cmpI_z)]
  constructor
  · rintro ⟨h1, _, h3⟩
    cases a; cases b; simp_all
  · rintro rfl; exact ⟨rfl, rfl, rfl⟩
theorem cmpPath_z {a b : List Seg} : cmpPath a b = 0 ↔ a = b := cmpG_z _ _ fun _ _ _ _ => cmpSeg_z
theorem truth_z {a b : Bool} : IntKind.i64.wrap (truthF a - truthF b) = 0 ↔ a = b := by
  cases a <;> cases b <;> decide
theorem cmpAs_z {a b : At} : cmpAs a b = 0 ↔ a = b := by
  unfold cmpAs
  rw [orL_z]
  simp only [List.mem_cons, List.not_mem_nil, or_false, forall_eq_or_imp, forall_eq]
  rw [cmpI_z, cmpPath_z, cmpI_z, truth_z, cmpI_z, truth_z, cmpI_z, truth_z, cmpG_z _ _ (fun _ _ _ _ => cmpI_z)]
  constructor
  · rintro ⟨h1, h2, h3, h4, h5, h6, h7, h8, h9⟩
    cases a; cases b; simp_all
  · rintro rfl; exact ⟨rfl, rfl, rfl, rfl, rfl, rfl, rfl, rfl, rfl⟩
instance : DecidableEq Seg := fun a b => decidable_of_iff (cmpSeg a b = 0) cmpSeg_z
instance : DecidableEq At := fun a b => decidable_of_iff (cmpAs a b = 0) cmpAs_z
/-- Same, as a question. -/
theorem same_c (a b : At) (ha : a.ok) (hb : b.ok) : Pur Try.prog 53 [.agg a.c, .agg b.c] (.bool (decide (canonA a = canonA b))) := by
  have h := c53 a b ha hb
  have e : decide (cmpAs (canonA a) (canonA b) = 0) = decide (canonA a = canonA b) := by
    rw [Bool.eq_iff_iff, decide_eq_true_eq, decide_eq_true_eq]; exact cmpAs_z
  rw [e] at h
  exact h

/-! ## Rising lists -/
def Inc (l : List Int) : Prop := l.Pairwise (· < ·)
theorem ddA_mem (x : Int) : ∀ l : List Int, x ∈ ddA l ↔ x ∈ l
  | [] => by simp [ddA]
  | [a] => by simp [ddA]
  | a :: b :: r => by
    have := ddA_mem x (b :: r)
    simp only [ddA]
    split
    · rename_i h; subst h; rw [this]; simp
    · simp only [List.mem_cons] at *; rw [this]
theorem ddA_inc : ∀ l : List Int, l.Pairwise (· ≤ ·) → Inc (ddA l)
  | [], _ => .nil
  | [a], _ => by simp [ddA, Inc]
  | a :: b :: r, h => by
    obtain ⟨h1, h2⟩ := List.pairwise_cons.1 h
    have ih := ddA_inc (b :: r) h2
    simp only [ddA]
    split
    · exact ih
    · rename_i hab
      refine List.pairwise_cons.2 ⟨fun x hx => ?_, ih⟩
      have hx' := (ddA_mem x (b :: r)).1 hx
      have h3 := h1 b (by simp)
      rcases List.mem_cons.1 hx' with rfl | hx''
      · omega
      · have h4 := (List.pairwise_cons.1 h2).1 x hx''
        omega
theorem canonC_mem {l : List Int} {x : Int} : x ∈ canonC l ↔ x ∈ l := by
  rw [canonC, ddA_mem, (List.mergeSort_perm l leI).mem_iff]
theorem canonC_inc (l : List Int) : Inc (canonC l) := ddA_inc _ (by
  have := List.pairwise_mergeSort (le := leI) (fun a b c h1 h2 => by simp only [leI, decide_eq_true_eq] at *; omega) (fun a b => by simp only [leI, Bool.or_eq_true, decide_eq_true_eq]; omega) l
  exact this.imp fun {a b} h => by simpa [leI] using h)
theorem inc_ext {l m : List Int} (hl : Inc l) (hm : Inc m) (h : ∀ x, x ∈ l ↔ x ∈ m) : l = m := by
  have nd : ∀ l : List Int, Inc l → l.Nodup := fun l h => h.imp fun {a b} h e => by omega
  refine List.Perm.eq_of_pairwise (le := (· < ·)) (fun a b _ _ h1 h2 => by omega) hl hm ((List.perm_ext_iff_of_nodup (nd l hl) (nd m hm)).2 h)
theorem canonC_self {l : List Int} (h : Inc l) : canonC l = l := inc_ext (canonC_inc l) h fun x => canonC_mem
theorem canonC_idem (l : List Int) : canonC (canonC l) = canonC l := canonC_self (canonC_inc l)
theorem canonA_idem (a : At) : canonA (canonA a) = canonA a := by
  obtain ⟨o, p, n, hm, m, hp, q, t, c⟩ := a
  cases hm <;> cases hp <;> simp [canonA, canonC_idem]
end Go.Am

/- A6 -/
namespace Go.Am
open Go.Proofs Go.Sort

/-- A place of the table: free, or with attributes and how many uses they have. -/
inductive KS where
  | free (z : List AV)
  | used (a : At) (u : Int)
def KS.row : KS → List AV
  | .free z => z ++ [.int .i64 0]
  | .used a u => a.c ++ [.int .i64 u]
def KS.n : KS → Int
  | .free _ => 0
  | .used _ u => u
def KS.ok (B : Int) : KS → Prop
  | .free z => z.length = 9
  | .used a u => a.ok ∧ 0 < u ∧ u ≤ B
theorem KS.len {B : Int} {k : KS} (h : k.ok B) : k.row.length = 10 := by
  cases k with
  | free z => simp only [KS.ok] at h; simp [KS.row, h]
  | used a u => rfl
theorem KS.at9 {B : Int} {k : KS} (h : k.ok B) : List.take 1 (List.drop 9 k.row) = [.int .i64 k.n] := by
  cases k with
  | free z =>
    simp only [KS.ok] at h
    simp only [KS.row, KS.n]
    rw [List.drop_left' h]; rfl
  | used a u => rfl
theorem KS.take9 (a : At) (u : Int) : List.take 9 (KS.used a u).row = a.c := rfl
theorem KS.nn {B : Int} {k : KS} (h : k.ok B) : 0 ≤ k.n := by
  cases k with
  | free z => exact Int.le_refl _
  | used a u => exact Int.le_of_lt h.2.1
/-- A table that lies at a place, on what else there is. -/
def TI (B : Int) (τ : Store) (id : Nat) (room : Int) (ks : List KS) (s : Store) : Prop :=
  τ id = none ∧ Store.sub τ s ∧ (∀ k ∈ ks, k.ok B) ∧ ks.length ≤ 1000000 ∧ ∃ v, s id = some (.box [.int .i64 room, v]) ∧ Own 10 τ (ks.map KS.row) v s
def usesAt (ks : List KS) (k : Int) : Int := if 0 ≤ k then ((ks[k.toNat]?).map KS.n).getD 0 else 0
theorem usesAt_of {ks : List KS} {k : Int} (h0 : 0 ≤ k) (h : k.toNat < ks.length) : usesAt ks k = ks[k.toNat].n := by
  simp [usesAt, h0, h]
theorem usesAt_out {ks : List KS} {k : Int} (h : ¬ (0 ≤ k ∧ k.toNat < ks.length)) : usesAt ks k = 0 := by
  unfold usesAt
  split
  · rename_i h0
    rw [List.getElem?_eq_none (by omega)]; rfl
  · rfl

theorem s54 {B : Int} {τ s : Store} {id : Nat} {room : Int} {ks : List KS} (h : TI B τ id room ks s) (k : Int) :
    ACalls Try.prog 54 [.ptr id 0, .int .i64 k] s (fun r s' => s' = s ∧ r = .bool (decide (0 < usesAt ks k))) := by
  obtain ⟨h1, h2, h3, h4, v, h5, h6⟩ := h
  refine calls_of Tst.F54 (by simp [Tst.F54, Fn.mkX]) ?_
  simp only [Tst.F54, Fn.mkX, Tst.b54]
  rcases h6 with ⟨hk, rfl⟩ | ⟨g, rfl, hg, hs⟩
  · have hk0 : ks = [] := by simpa using hk
    subst hk0
    have hu : usesAt [] k = 0 := usesAt_out (by simp)
    simp only [h5, hu, ↓vcPre, ↓wit_get, ↓reduceIte, vcPost, vcStd, Nat.reduceEqDiff, reduceCtorEq, Nat.reduceAdd, Nat.reduceLeDiff, Int.reduceLT, Int.reduceLE, ↓u_setN]
    refine ⟨fun c1 => ⟨fun c2 => by omega, fun c2 => EndQ.to _ _ rfl (Store.sub_refl _) ⟨rfl, by rw [hu]; rfl⟩⟩, fun c1 => EndQ.to _ _ rfl (Store.sub_refl _) ⟨rfl, by rw [hu]; rfl⟩⟩
  · simp only [h5, hs, ↓vcPre, ↓wit_get, ↓reduceIte, vcPost, vcStd, Nat.reduceEqDiff, reduceCtorEq, Nat.reduceAdd, Nat.reduceLeDiff, Int.reduceLT, Int.reduceLE, ↓u_setN]
    refine ⟨fun c1 => ⟨fun c2 => ?_, fun c2 => ?_⟩, fun c1 => ?_⟩
    · have hkl : k.toNat < ks.length := by omega
      have hok := h3 _ (List.getElem_mem hkl)
      have hl := KS.len hok
      have h9 := KS.at9 hok
      simp only [Nat.zero_add]
      refine ⟨by omega, hkl, by omega, ?_⟩
      simp only [h9, ↓vcPre, ↓wit_get, ↓reduceIte, vcPost, vcStd, Nat.reduceEqDiff, reduceCtorEq, Nat.reduceAdd, Nat.reduceLeDiff, Int.reduceLT, Int.reduceLE, ↓u_setN]
      exact EndQ.to _ _ rfl (Store.sub_refl _) ⟨rfl, by rw [usesAt_of c1 hkl]⟩
    · have hu : usesAt ks k = 0 := usesAt_out (by omega)
      exact EndQ.to _ _ rfl (Store.sub_refl _) ⟨rfl, by rw [hu]; rfl⟩
    · have hu : usesAt ks k = 0 := usesAt_out (by omega)
      exact EndQ.to _ _ rfl (Store.sub_refl _) ⟨rfl, by rw [hu]; rfl⟩

theorem s26 {B : Int} {τ s : Store} {id : Nat} {room : Int} {ks : List KS} (h : TI B τ id room ks s) (k : Int) :
    ACalls Try.prog 26 [.ptr id 0, .int .i64 k] s (fun r s' => s' = s ∧ r = .int .i64 (usesAt ks k)) := by
  refine calls_of Tst.F26 (by simp [Tst.F26, Fn.mkX]) ?_
  simp only [Tst.F26, Fn.mkX, Tst.b26]
  simp only [↓vcPre, ↓wit_get, ↓reduceIte, vcPost, vcStd, Nat.reduceEqDiff, reduceCtorEq, Nat.reduceAdd, Nat.reduceLeDiff, Int.reduceLT, Int.reduceLE, ↓u_setN]
  refine (s54 h k).Q ?_
  rintro r s' ⟨rfl, rfl⟩
  obtain ⟨h1, h2, h3, h4, v, h5, h6⟩ := h
  simp only [h5, ↓vcPre, ↓wit_get, ↓reduceIte, vcPost, vcStd, Nat.reduceEqDiff, reduceCtorEq, Nat.reduceAdd, Nat.reduceLeDiff, Int.reduceLT, Int.reduceLE, ↓u_setN]
  refine ⟨fun c1 => ?_, fun c1 => ?_⟩
  · have h0 : usesAt ks k = 0 := by
      by_cases hin : 0 ≤ k ∧ k.toNat < ks.length
      · have := KS.nn (h3 _ (List.getElem_mem hin.2))
        rw [usesAt_of hin.1 hin.2] at c1 ⊢
        omega
      · exact usesAt_out hin
    exact EndQ.to _ _ rfl (Store.sub_refl _) ⟨rfl, by rw [h0]⟩
  · obtain ⟨k0, hkl⟩ : 0 ≤ k ∧ k.toNat < ks.length := by
      by_cases hin : 0 ≤ k ∧ k.toNat < ks.length
      · exact hin
      · rw [usesAt_out hin] at c1; omega
    have hok := h3 _ (List.getElem_mem hkl)
    have hl := KS.len hok
    have h9 := KS.at9 hok
    rcases h6 with ⟨hk, rfl⟩ | ⟨g, rfl, hg, hs⟩
    · have hk0 : ks = [] := by simpa using hk
      subst hk0; simp at hkl
    · simp only [hs, Nat.zero_add, ↓vcPre, ↓wit_get, ↓reduceIte, vcPost, vcStd, Nat.reduceEqDiff, reduceCtorEq, Nat.reduceAdd, Nat.reduceLeDiff, Int.reduceLT, Int.reduceLE, ↓u_setN]
      refine ⟨by omega, hkl, by omega, ?_⟩
      simp only [h9, ↓vcPre, ↓wit_get, ↓reduceIte, vcPost, vcStd, Nat.reduceEqDiff, reduceCtorEq, Nat.reduceAdd, Nat.reduceLeDiff, Int.reduceLT, Int.reduceLE, ↓u_setN]
      exact EndQ.to _ _ rfl (Store.sub_refl _) ⟨rfl, by rw [usesAt_of k0 hkl]⟩
theorem s28 {B : Int} {τ s : Store} {id : Nat} {room : Int} {ks : List KS} (h : TI B τ id room ks s) :
    ACalls Try.prog 28 [.ptr id 0] s (fun r s' => s' = s ∧ r = .int .i64 ((ks.filter fun k => decide (k.n ≠ 0)).length : Int)) := by
  obtain ⟨h1, h2, h3, h4, v, h5, h6⟩ := h
  refine calls_of Tst.F28 (by simp [Tst.F28, Fn.mkX]) ?_
  simp only [Tst.F28, Fn.mkX, Tst.b28]
  rcases h6 with ⟨hk, rfl⟩ | ⟨g, rfl, hg, hs⟩
  · have hk0 : ks = [] := by simpa using hk
    subst hk0
    simp only [h5, ↓vcPre, ↓wit_get, ↓reduceIte, vcPost, vcStd, Nat.reduceEqDiff, reduceCtorEq, Nat.reduceAdd, Nat.reduceLeDiff, Int.reduceLT, Int.reduceLE, ↓u_setN]
    refine LoopQ.inv (S := Unit) (fun _ => [(3, .int .i64 0), (14, .nils), (15, .int .i64 0), (16, .int .i64 0)]) (fun _ => s) (fun _ => True) (fun _ => 0) () rfl (Store.sub_refl _) trivial ?_
    intro _ _
    simp only [↓vcPre, ↓wit_get, ↓reduceIte, vcPost, vcStd, Nat.reduceEqDiff, reduceCtorEq, Nat.reduceAdd, Nat.reduceLeDiff, Int.reduceLT, Int.reduceLE, ↓u_setN]
    exact EndQ.to _ _ rfl (Store.sub_refl _) ⟨rfl, rfl⟩
  · simp only [h5, hs, ↓vcPre, ↓wit_get, ↓reduceIte, vcPost, vcStd, Nat.reduceEqDiff, reduceCtorEq, Nat.reduceAdd, Nat.reduceLeDiff, Int.reduceLT, Int.reduceLE, ↓u_setN]
    refine LoopQ.inv (S := Nat) (fun k => [(3, .int .i64 ((((ks.take k).filter fun k => decide (k.n ≠ 0)).length + (ks.length - k) : Nat) : Int)), (14, .os g 10 0 ks.length), (15, .int .i64 (ks.length : Int)), (16, .int .i64 (k : Int))]) (fun _ => s) (fun k => k ≤ ks.length) (fun k => ks.length + 1 - k) 0 (by simp) (Store.sub_refl _) (by omega) ?_
    intro k hk
    simp only [hs, ↓vcPre, ↓wit_get, ↓reduceIte, vcPost, vcStd, Nat.reduceEqDiff, reduceCtorEq, Nat.reduceAdd, Nat.reduceLeDiff, Int.reduceLT, Int.reduceLE, ↓u_setN]
    refine ⟨fun c1 => ?_, fun c1 => ?_⟩
    · have hok := h3 _ (List.getElem_mem c1)
      have hl := KS.len hok
      have h9 := KS.at9 hok
      have ek : IntKind.i64.wrap ((k : Int) + 1) = ((k + 1 : Nat) : Int) := by rw [wrap64 (by unfold I64; omega)]; omega
      have t10 : List.take 10 ks[k].row = ks[k].row := List.take_of_length_le (by omega)
      have hf := List.length_filter_le (fun k : KS => decide (k.n ≠ 0)) (ks.take k)
      rw [List.length_take] at hf
      simp only [Nat.zero_add]
      refine ⟨c1, c1, by omega, ?_⟩
      refine AllocQ.i0 fun i hi => ?_
      simp only [Nat.zero_add, t10, hl, ↓vcPre, ↓wit_get, ↓reduceIte, vcPost, vcStd, Nat.reduceEqDiff, reduceCtorEq, Nat.reduceAdd, Nat.reduceLeDiff, Int.reduceLT, Int.reduceLE, ↓u_setN]
      rw [splice_all _ _ (by rw [hl]; rfl), wit_some]
      simp only [h9, hl, ↓vcPre, ↓wit_get, ↓reduceIte, vcPost, vcStd, Nat.reduceEqDiff, reduceCtorEq, Nat.reduceAdd, Nat.reduceLeDiff, Int.reduceLT, Int.reduceLE, ↓u_setN]
      have hst : ∀ X Y : Obj, Store.sub s ((s.set i X).set i Y) := fun X Y => by rw [Store.set_set]; exact Store.sub_set _ _ _ hi
      have hnx : (ks.take (k + 1)).filter (fun k => decide (k.n ≠ 0)) = (ks.take k).filter (fun k => decide (k.n ≠ 0)) ++ (if ks[k].n ≠ 0 then [ks[k]] else []) := by
        rw [List.take_add_one, List.getElem?_eq_getElem c1, List.filter_append]
        simp only [Option.toList_some, List.filter_cons, List.filter_nil, decide_eq_true_eq]
      rw [ek]
      refine ⟨fun g1 => ?_, fun g1 => ?_⟩
      · rw [wrap64 (by unfold I64; omega)]
        refine NextQ.to (k + 1) ?_ (hst _ _) (by omega) (by omega)
        rw [hnx, if_neg (by simpa using g1), List.append_nil]
        congr 4
        omega
      · refine NextQ.to (k + 1) ?_ (hst _ _) (by omega) (by omega)
        rw [hnx, if_pos g1, List.length_append, List.length_singleton]
        congr 4
        omega
    · have e : ks.take k = ks := List.take_of_length_le (by omega)
      exact EndQ.to _ _ rfl (Store.sub_refl _) ⟨rfl, by rw [e, show ks.length - k = 0 by omega]; rfl⟩
end Go.Am

/- A7 -/
namespace Go.Am
open Go.Proofs Go.Sort

def zCells : List AV := [.int .i64 0, .nils, .int .u32 0, .bool false, .int .u32 0, .bool false, .int .u32 0, .bool false, .nils]
def zeroAt : At := ⟨0, [], 0, false, 0, false, 0, false, []⟩
def getA (ks : List KS) (k : Int) : At := if 0 ≤ k then (match ks[k.toNat]? with | some (.used a _) => canonA a | _ => zeroAt) else zeroAt
theorem z_weak {σ : Store} {Q : AV → Store → Prop} (h : Q (.agg zeroAt.c) σ) : Weak (.agg zCells) σ Q := by
  refine Weak.agg (WeakL.nil 1 2 rfl (WeakL.nil 8 1 rfl (WeakL.pure ⟨?_, h⟩)))
  intro c hc
  simp [zCells] at hc
  rcases hc with rfl | rfl | rfl | rfl | rfl | rfl | rfl | rfl | rfl <;> rfl

theorem s15 (room : Int) (σ : Store) (B : Int) : ACalls Try.prog 15 [.int .i64 room] σ (fun r s => if 1 ≤ room ∧ room ≤ 4096 then ∃ id, r = .tup [.ptr id 0, .int .i64 0] ∧ TI B σ id room [] s else r = .tup [.nil, .int .i64 1] ∧ s = σ) := by
  refine calls_of Tst.F15 (by simp [Tst.F15, Fn.mkX]) ?_
  simp only [Tst.F15, Fn.mkX, Tst.b15]
  simp only [↓vcPre, ↓wit_get, ↓reduceIte, vcPost, vcStd, Nat.reduceEqDiff, reduceCtorEq, Nat.reduceAdd, Nat.reduceLeDiff, Int.reduceLT, Int.reduceLE, ↓u_setN]
  have bad : ¬ (1 ≤ room ∧ room ≤ 4096) → @EndQ [(2, .nil), (3, .int .i64 1)] σ ⟨Tst.F15.slots, fun r s => if 1 ≤ room ∧ room ≤ 4096 then ∃ id, r = .tup [.ptr id 0, .int .i64 0] ∧ TI B σ id room [] s else r = .tup [.nil, .int .i64 1] ∧ s = σ⟩ := fun h =>
    EndQ.to _ _ rfl (Store.sub_refl _) (by rw [if_neg h]; exact ⟨rfl, rfl⟩)
  refine ⟨fun c1 => ⟨fun c2 => bad (by omega), fun c2 => ?_⟩, fun c1 => bad (by omega)⟩
  refine AllocQ.i0 fun id hid => ?_
  simp only [↓vcPre, ↓wit_get, ↓reduceIte, vcPost, vcStd, Nat.reduceEqDiff, reduceCtorEq, Nat.reduceAdd, Nat.reduceLeDiff, Int.reduceLT, Int.reduceLE, ↓u_setN]
  refine EndQ.to _ _ rfl (Store.sub_refl _) ?_
  rw [if_pos (by omega)]
  exact ⟨id, rfl, hid, Store.sub_set _ _ _ hid, by simp, by simp, .nils, Store.set_same _ _ _, .nil⟩

theorem s23 {B : Int} {τ s : Store} {id : Nat} {room : Int} {ks : List KS} (h : TI B τ id room ks s) (k : Int) :
    ACalls Try.prog 23 [.ptr id 0, .int .i64 k] s (fun r s' => s' = s ∧ r = .tup [.agg (getA ks k).c, .bool (decide (0 < usesAt ks k))]) := by
  refine calls_of Tst.F23 (by simp [Tst.F23, Fn.mkX]) ?_
  simp only [Tst.F23, Fn.mkX, Tst.b23]
  simp only [↓vcPre, ↓wit_get, ↓reduceIte, vcPost, vcStd, Nat.reduceEqDiff, reduceCtorEq, Nat.reduceAdd, Nat.reduceLeDiff, Int.reduceLT, Int.reduceLE, ↓u_setN]
  refine AllocQ.i0 fun b hb => ?_
  simp only [↓vcPre, ↓wit_get, ↓reduceIte, vcPost, vcStd, Nat.reduceEqDiff, reduceCtorEq, Nat.reduceAdd, Nat.reduceLeDiff, Int.reduceLT, Int.reduceLE, ↓u_setN]
  have hsb := Store.sub_set s b (.box zCells) hb
  have h' : TI B τ id room ks (s.set b (.box zCells)) := by
    obtain ⟨h1, h2, h3, h4, v, h5, h6⟩ := h
    exact ⟨h1, Store.sub_trans h2 hsb, h3, h4, v, hsb _ _ h5, h6.mono hsb⟩
  refine (s54 h' k).Q ?_
  rintro r s' ⟨rfl, rfl⟩
  simp only [↓vcPre, ↓wit_get, ↓reduceIte, vcPost, vcStd, Nat.reduceEqDiff, reduceCtorEq, Nat.reduceAdd, Nat.reduceLeDiff, Int.reduceLT, Int.reduceLE, ↓u_setN]
  refine ⟨fun c1 => ?_, fun c1 => ?_⟩
  · have h0 : usesAt ks k = 0 := by
      obtain ⟨h1, h2, h3, h4, _⟩ := h
      by_cases hin : 0 ≤ k ∧ k.toNat < ks.length
      · have := KS.nn (h3 _ (List.getElem_mem hin.2))
        rw [usesAt_of hin.1 hin.2] at c1 ⊢
        omega
      · exact usesAt_out hin
    have hg : getA ks k = zeroAt := by
      unfold getA
      split
      · rename_i k0
        split
        · rename_i a u hh
          obtain ⟨hlt, hh⟩ := List.getElem?_eq_some_iff.1 hh
          obtain ⟨h1, h2, h3, h4, _⟩ := h
          have hk := h3 _ (List.getElem_mem hlt)
          rw [usesAt_of k0 hlt] at h0
          rw [hh] at h0 hk
          simp only [KS.n, KS.ok] at h0 hk
          omega
        · rfl
      · rfl
    show wit (splice 0 zCells zCells) _
    rw [splice_all zCells zCells rfl, wit_some, Store.set_set, h0, hg]
    refine EndQ.two (.agg zCells) (.bool false) s ?_ (WeakL.pos 0 rfl (z_weak (WeakL.forget hsb (WeakL.pure ⟨rfl, rfl⟩))))
    show Env.res [(4, AV.ptr b 0), (5, AV.bool false)] _ [RS.c 4 9 true, RS.t 5] = _
    simp only [zCells, ↓vcPre, ↓wit_get, ↓reduceIte, vcPost, vcStd, Nat.reduceEqDiff, reduceCtorEq, Nat.reduceAdd, Nat.reduceLeDiff, Int.reduceLT, Int.reduceLE, ↓u_setN]
  · obtain ⟨h1, h2, h3, h4, v, h5, h6⟩ := h'
    simp only [h5, ↓vcPre, ↓wit_get, ↓reduceIte, vcPost, vcStd, Nat.reduceEqDiff, reduceCtorEq, Nat.reduceAdd, Nat.reduceLeDiff, Int.reduceLT, Int.reduceLE, ↓u_setN]
    obtain ⟨k0, hkl⟩ : 0 ≤ k ∧ k.toNat < ks.length := by
      by_cases hin : 0 ≤ k ∧ k.toNat < ks.length
      · exact hin
      · rw [usesAt_out hin] at c1; omega
    have hok := h3 _ (List.getElem_mem hkl)
    have hl := KS.len hok
    obtain ⟨a, u, hau⟩ : ∃ a u, ks[k.toNat] = .used a u := by
      cases hc : ks[k.toNat] with
      | free z => rw [usesAt_of k0 hkl, hc] at c1; simp [KS.n] at c1
      | used a u => exact ⟨a, u, rfl⟩
    rcases h6 with ⟨hk, rfl⟩ | ⟨g, rfl, hg, hs⟩
    · have hk0 : ks = [] := by simpa using hk
      subst hk0; simp at hkl
    · simp only [hs, Nat.zero_add, ↓vcPre, ↓wit_get, ↓reduceIte, vcPost, vcStd, Nat.reduceEqDiff, reduceCtorEq, Nat.reduceAdd, Nat.reduceLeDiff, Int.reduceLT, Int.reduceLE, ↓u_setN]
      refine ⟨by omega, hkl, by omega, ?_⟩
      rw [hau] at hok ⊢
      simp only [KS.take9, ↓vcPre, ↓wit_get, ↓reduceIte, vcPost, vcStd, Nat.reduceEqDiff, reduceCtorEq, Nat.reduceAdd, Nat.reduceLeDiff, Int.reduceLT, Int.reduceLE, ↓u_setN]
      refine (c52 a hok.1).Q ?_
      simp only [↓vcPre, ↓wit_get, ↓reduceIte, vcPost, vcStd, Nat.reduceEqDiff, reduceCtorEq, Nat.reduceAdd, Nat.reduceLeDiff, Int.reduceLT, Int.reduceLE, ↓u_setN]
      have e9 : ∀ x : At, x.c.length = 9 := fun _ => rfl
      refine ⟨rfl, ?_⟩
      rw [splice_all (canonA a).c zCells rfl, wit_some, Store.set_set]
      have hg : getA ks k = canonA a := by
        unfold getA
        rw [if_pos k0, List.getElem?_eq_getElem hkl, hau]
      refine EndQ.to s (.tup [.agg (canonA a).c, .bool true]) ?_ (Store.sub_set _ _ _ hb) ⟨rfl, by rw [hg, decide_eq_true c1]⟩
      show Env.res [(4, AV.ptr b 0), (5, AV.bool true)] _ [RS.c 4 9 true, RS.t 5] = _
      simp only [e9, Nat.le_refl, ↓vcPre, ↓wit_get, ↓reduceIte, vcPost, vcStd, Nat.reduceEqDiff, reduceCtorEq, Nat.reduceAdd, Nat.reduceLeDiff, Int.reduceLT, Int.reduceLE, ↓u_setN]
      rfl

/-- What is left behind a Drop. -/
def dropK (ks : List KS) (k : Int) : List KS := if 0 ≤ k then (match ks[k.toNat]? with | some (.used a u) => ks.set k.toNat (if u = 1 then .free zCells else .used a (u - 1)) | _ => ks) else ks
theorem s27 {B : Int} (hB : B ≤ 1000000000) {τ s : Store} {id : Nat} {room : Int} {ks : List KS} (h : TI B τ id room ks s) (k : Int) :
    ACalls Try.prog 27 [.ptr id 0, .int .i64 k] s (fun r s' => r = .int .i64 (if 0 < usesAt ks k then 0 else 22) ∧ TI B τ id room (dropK ks k) s') := by
  refine calls_of Tst.F27 (by simp [Tst.F27, Fn.mkX]) ?_
  simp only [Tst.F27, Fn.mkX, Tst.b27]
  simp only [↓vcPre, ↓wit_get, ↓reduceIte, vcPost, vcStd, Nat.reduceEqDiff, reduceCtorEq, Nat.reduceAdd, Nat.reduceLeDiff, Int.reduceLT, Int.reduceLE, ↓u_setN]
  refine (s54 h k).Q ?_
  rintro r s' ⟨rfl, rfl⟩
  have hh := h
  obtain ⟨h1, h2, h3, h4, v, h5, h6⟩ := h
  simp only [h5, ↓vcPre, ↓wit_get, ↓reduceIte, vcPost, vcStd, Nat.reduceEqDiff, reduceCtorEq, Nat.reduceAdd, Nat.reduceLeDiff, Int.reduceLT, Int.reduceLE, ↓u_setN]
  refine ⟨fun c1 => ?_, fun c1 => ?_⟩
  · have hd : dropK ks k = ks := by
      unfold dropK
      split
      · rename_i k0
        split
        · rename_i a u hc
          obtain ⟨hlt, hc⟩ := List.getElem?_eq_some_iff.1 hc
          have hk := h3 _ (List.getElem_mem hlt)
          rw [usesAt_of k0 hlt, hc] at c1
          rw [hc] at hk
          simp only [KS.n, KS.ok] at c1 hk
          omega
        · rfl
      · rfl
    exact EndQ.to _ _ rfl (Store.sub_refl _) ⟨by rw [if_neg c1], by rw [hd]; exact hh⟩
  · obtain ⟨k0, hkl⟩ : 0 ≤ k ∧ k.toNat < ks.length := by
      by_cases hin : 0 ≤ k ∧ k.toNat < ks.length
      · exact hin
      · rw [usesAt_out hin] at c1; omega
    have hok := h3 _ (List.getElem_mem hkl)
    have hl := KS.len hok
    obtain ⟨a, u, hau⟩ : ∃ a u, ks[k.toNat] = .used a u := by
      cases hc : ks[k.toNat] with
      | free z => rw [usesAt_of k0 hkl, hc] at c1; simp [KS.n] at c1
      | used a u => exact ⟨a, u, rfl⟩
    rcases h6 with ⟨hk, rfl⟩ | ⟨g, rfl, hg, hs⟩
    · have hk0 : ks = [] := by simpa using hk
      subst hk0; simp at hkl
    · have hgi : ¬ id = g := fun e => by subst e; rw [hs] at h5; cases h5
      rw [hau] at hok
      have hwu : IntKind.i64.wrap (u - 1) = u - 1 := by
        have := hok.2
        exact wrap64 (by unfold I64; omega)
      simp only [hs, Nat.zero_add, hgi, h5, ↓vcPre, ↓wit_get, ↓reduceIte, vcPost, vcStd, Nat.reduceEqDiff, reduceCtorEq, Nat.reduceAdd, Nat.reduceLeDiff, Int.reduceLT, Int.reduceLE, ↓u_setN]
      have hr9 : ∀ x, List.take 1 (List.drop 9 (KS.used a x).row) = [.int .i64 x] := fun _ => rfl
      have hs9 : ∀ x, splice 9 [AV.int .i64 x] (KS.used a u).row = some (KS.used a x).row := fun _ => rfl
      have hrl : ∀ x, (KS.used a x).row.length = 10 := fun _ => rfl
      have hsz : ∀ x, splice 0 (KS.free zCells).row (KS.used a x).row = some (KS.free zCells).row := fun _ => splice_all _ _ rfl
      have hzz : (KS.free zCells).row = [AV.int IntKind.i64 0, AV.nils, AV.int IntKind.u32 0, AV.bool false, AV.int IntKind.u32 0, AV.bool false, AV.int IntKind.u32 0, AV.bool false, AV.nils, AV.int IntKind.i64 0] := rfl
      have hb2 : 0 ≤ k ∧ k < (ks.length : Int) := by omega
      have hset : ∀ x : KS, (List.map KS.row ks).set k.toNat x.row = (ks.set k.toNat x).map KS.row := fun x => by rw [List.map_set]
      rw [← hzz]
      simp only [hau]
      refine ⟨hb2, hkl, by rw [hrl]; exact Nat.le_refl _, ?_⟩
      simp only [hr9, hwu, hs9, hrl, hb2, hkl, List.getElem_set_self, Nat.le_refl, hsz, ↓vcPre, ↓wit_get, ↓reduceIte, vcPost, vcStd, Nat.reduceEqDiff, reduceCtorEq, Nat.reduceAdd, Nat.reduceLeDiff, Int.reduceLT, Int.reduceLE, ↓u_setN]
      have fin : ∀ x : KS, x.ok B → dropK ks k = ks.set k.toNat x → ∀ τ', τ' = s'.set g (Obj.arr 10 ((List.map KS.row ks).set k.toNat x.row)) → @EndQ [(4, AV.int IntKind.i64 0)] τ' ⟨Tst.F27.slots, fun r s' => r = .int .i64 (if 0 < usesAt ks k then 0 else 22) ∧ TI B τ id room (dropK ks k) s'⟩ := by
        rintro x hx hd τ' rfl
        refine EndQ.to _ _ rfl (Store.sub_refl _) ⟨by rw [if_pos c1], ?_⟩
        rw [hd, hset]
        refine ⟨h1, sub_upd' h2 hg, fun y hy => ?_, by simpa using h4, _, by rw [Store.set_ne _ _ hgi]; exact h5, .inr ⟨g, by simp, hg, Store.set_same _ _ _⟩⟩
        rcases List.mem_or_eq_of_mem_set hy with hy | rfl
        · exact h3 y hy
        · exact hx
      have hdk : dropK ks k = ks.set k.toNat (if u = 1 then .free zCells else .used a (u - 1)) := by
        unfold dropK
        rw [if_pos k0, List.getElem?_eq_getElem hkl, hau]
      refine ⟨by simpa using hkl, fun g1 => ⟨by simpa using hkl, ?_⟩, fun g1 => ?_⟩
      · refine fin (.free zCells) rfl (by rw [hdk, if_pos (by omega)]) _ ?_
        rw [Store.set_set, List.set_set]
      · have hu := hok.2
        exact fin (.used a (u - 1)) ⟨hok.1, by omega, by omega⟩ (by rw [hdk, if_neg (by omega)]) _ rfl

/-! ## Add -/
/-- The place that is taken for what is new: the first that is free. -/
def freeIx (ks : List KS) : Nat := (ks.findIdx? fun k => decide (k.n = 0)).getD ks.length
/-- What Add gives and leaves. -/
def AddR (room : Int) (ks : List KS) (a : At) (n e : Int) (ks' : List KS) : Prop :=
  (∃ i, ∃ h : i < ks.length, ∃ b u, ks[i] = .used b u ∧ canonA b = canonA a ∧ n = i ∧ e = 0 ∧ ks' = ks.set i (.used b (u + 1))) ∨
  ((∀ b u, KS.used b u ∈ ks → canonA b ≠ canonA a) ∧
    ((room ≤ ((ks.filter fun k => decide (k.n ≠ 0)).length : Int) ∧ n = 0 ∧ e = 13 ∧ ks' = ks) ∨
     (((ks.filter fun k => decide (k.n ≠ 0)).length : Int) < room ∧ n = (freeIx ks : Int) ∧ e = 0 ∧ ks' = if freeIx ks = ks.length then ks ++ [.used (canonA a) 1] else ks.set (freeIx ks) (.used (canonA a) 1))))
set_option maxRecDepth 20000 in
theorem s22 {B : Int} (hB0 : 1 ≤ B) (hB : B ≤ 100000000) {τ s : Store} {id : Nat} {room : Int} {ks : List KS} (h : TI B τ id room ks s) (hks : ks.length < 1000000) (a : At) (ha : a.ok) :
    ACalls Try.prog 22 [.ptr id 0, .agg a.c] s (fun r s' => ∃ n e ks', r = .tup [.int .i64 n, .int .i64 e] ∧ AddR room ks a n e ks' ∧ TI (B + 1) τ id room ks' s') := by
  refine calls_of Tsc.F22 (by simp [Tsc.F22, Fn.mkX]) ?_
  simp only [Tsc.F22, Fn.mkX, Tsc.b22]
  have e9 : ∀ x : At, x.c.length = 9 := fun _ => rfl
  have t9 : ∀ x : At, List.take 9 x.c = x.c := fun _ => rfl
  have p9 : ∀ x y : At, splice 0 x.c y.c = some x.c := fun x y => splice_all _ _ rfl
  have hc9 : ∀ x : At, (AV.agg x.c).isTup = false ∧ (AV.agg x.c).cells = x.c := fun _ => ⟨rfl, rfl⟩
  simp only [↓vcPre, ↓wit_get, ↓reduceIte, vcPost, vcStd, Nat.reduceEqDiff, reduceCtorEq, Nat.reduceAdd, Nat.reduceLeDiff, Int.reduceLT, Int.reduceLE, ↓u_setN]
  refine AllocQ.i0 fun b hb => ?_
  simp only [e9, t9, Nat.le_refl, ↓vcPre, ↓wit_get, ↓reduceIte, vcPost, vcStd, Nat.reduceEqDiff, reduceCtorEq, Nat.reduceAdd, Nat.reduceLeDiff, Int.reduceLT, Int.reduceLE, ↓u_setN]
  refine (c52 a ha).Q ?_
  simp only [e9, p9, Store.set_set, ↓vcPre, ↓wit_get, ↓reduceIte, vcPost, vcStd, Nat.reduceEqDiff, reduceCtorEq, Nat.reduceAdd, Nat.reduceLeDiff, Int.reduceLT, Int.reduceLE, ↓u_setN]
  obtain ⟨h1, h2, h3, h4, v, h5, h6⟩ := h
  have hib : ¬ id = b := fun e => by subst e; rw [h5] at hb; cases hb
  simp only [h5, hib, ↓vcPre, ↓wit_get, ↓reduceIte, vcPost, vcStd, Nat.reduceEqDiff, reduceCtorEq, Nat.reduceAdd, Nat.reduceLeDiff, Int.reduceLT, Int.reduceLE, ↓u_setN]
  have hlen : pv .len [v] = some (.int .i64 (ks.length : Int)) := by
    rcases h6 with ⟨hk, rfl⟩ | ⟨g, rfl, hg, hs⟩
    · have hk0 : ks = [] := by simpa using hk
      subst hk0; rfl
    · simp [pv, pLen]
  simp only [hlen, ↓vcPre, ↓wit_get, ↓reduceIte, vcPost, vcStd, Nat.reduceEqDiff, reduceCtorEq, Nat.reduceAdd, Nat.reduceLeDiff, Int.reduceLT, Int.reduceLE, ↓u_setN]
  have hsT := Store.sub_set s b (.box (canonA a).c) hb
  generalize hT : s.set b (Obj.box (canonA a).c) = T at hsT
  have hTb : T b = some (.box (canonA a).c) := by rw [← hT, Store.set_same]
  clear hT
  have hτb : τ b = none := sub_none h2 hb
  have tail : ∀ (n : Env → Store → Prop) (x : Nat → Env → Store → Prop), (∀ b u, KS.used b u ∈ ks → canonA b ≠ canonA a) →
      bwp Try.prog Tsc.t22_54 [(0, .ptr id 0), (3, .ptr b 0), (6, .int .i64 (freeIx ks : Int))] T n (fun e s => @EndQ e s ⟨Tsc.F22.slots, fun r s' => ∃ n e ks', r = .tup [.int .i64 n, .int .i64 e] ∧ AddR room ks a n e ks' ∧ TI (B + 1) τ id room ks' s'⟩) x := by
    intro n x hno
    simp only [Tsc.t22_54]
    have hTI : TI B τ id room ks T := ⟨h1, Store.sub_trans h2 hsT, h3, h4, v, hsT _ _ h5, h6.mono hsT⟩
    have h5' := hsT _ _ h5
    simp only [h5', ↓vcPre, ↓wit_get, ↓reduceIte, vcPost, vcStd, Nat.reduceEqDiff, reduceCtorEq, Nat.reduceAdd, Nat.reduceLeDiff, Int.reduceLT, Int.reduceLE, ↓u_setN]
    refine (s28 hTI).Q ?_
    rintro r s' ⟨rfl, rfl⟩
    refine ⟨Store.sub_refl _, ?_⟩
    simp only [h5', ↓vcPre, ↓wit_get, ↓reduceIte, vcPost, vcStd, Nat.reduceEqDiff, reduceCtorEq, Nat.reduceAdd, Nat.reduceLeDiff, Int.reduceLT, Int.reduceLE, ↓u_setN]
    have hup : ∀ y ∈ ks, y.ok (B + 1) := fun y hy => by
      have := h3 y hy
      cases y with
      | free z => exact this
      | used a' u' => exact ⟨this.1, this.2.1, by have := this.2.2; omega⟩
    refine ⟨fun g1 => ?_, fun g1 => ?_⟩
    · refine EndQ.to _ _ rfl (Store.sub_refl _) ⟨0, 13, ks, rfl, .inr ⟨hno, .inl ⟨g1, rfl, rfl, rfl⟩⟩, h1, Store.sub_trans h2 hsT, hup, h4, v, h5', h6.mono hsT⟩
    · have hrow : ∀ z : List AV, z.length = 10 → splice 0 (canonA a).c z = some ((canonA a).c ++ z.drop 9) := fun z hz => by
        match z, hz with
        | [_, _, _, _, _, _, _, _, _, _], _ => rfl
      have hnew : ((canonA a).c ++ [AV.int IntKind.i64 0]).length = 10 := rfl
      have hsp : ∀ x, splice 9 [AV.int IntKind.i64 1] ((canonA a).c ++ [x]) = some (KS.used (canonA a) 1).row := fun _ => rfl
      have hrl : (KS.used (canonA a) 1).row.length = 10 := rfl
      have hnk : (KS.used (canonA a) 1).ok (B + 1) := ⟨canonA_ok ha, by omega, by omega⟩
      have hfl : freeIx ks ≤ ks.length := by
        unfold freeIx
        cases hf : List.findIdx? (fun k : KS => decide (k.n = 0)) ks with
        | none => exact Nat.le_refl _
        | some i => have := (List.findIdx?_eq_some_iff_getElem.1 hf).1; exact Nat.le_of_lt this
      simp only [hlen, ↓vcPre, ↓wit_get, ↓reduceIte, vcPost, vcStd, Nat.reduceEqDiff, reduceCtorEq, Nat.reduceAdd, Nat.reduceLeDiff, Int.reduceLT, Int.reduceLE, ↓u_setN]
      have hset : ∀ i x, (List.map KS.row ks).set i (KS.row x) = (ks.set i x).map KS.row := fun i x => by rw [List.map_set]
      refine ⟨fun g2 => ?_, fun g2 => ?_⟩
      · have g2' : freeIx ks = ks.length := by omega
        obtain ⟨τ0, q1, q2, q3⟩ : ∃ τ0, Store.sub τ τ0 ∧ Store.sub τ0 s' ∧ (Own 10 τ0 (ks.map KS.row) v s' ∧ τ0 id = some (.box [.int .i64 room, v]) ∧ τ0 b = some (.box (canonA a).c)) := by
          rcases h6.mono hsT with ⟨hk, hv⟩ | ⟨g, hv, hg, hs⟩
          · exact ⟨s', Store.sub_trans h2 hsT, Store.sub_refl _, .inl ⟨hk, hv⟩, h5', hTb⟩
          · have hgi : ¬ id = g := fun e => by subst e; rw [hs] at h5'; cases h5'
            have hgb : ¬ b = g := fun e => by subst e; rw [hs] at hTb; cases hTb
            refine ⟨s'.del g, sub_del (Store.sub_trans h2 hsT) hg, fun i o hi => ?_, .inr ⟨g, hv, by simp, hs⟩, by rw [Store.del_ne _ hgi]; exact h5', by rw [Store.del_ne _ hgb]; exact hTb⟩
            by_cases hig : i = g
            · subst hig; simp at hi
            · rw [Store.del_ne _ hig] at hi; exact hi
        refine AllocQ.i0 fun i hi => ?_
        simp only [↓vcPre, ↓wit_get, ↓reduceIte, vcPost, vcStd, Nat.reduceEqDiff, reduceCtorEq, Nat.reduceAdd, Nat.reduceLeDiff, Int.reduceLT, Int.reduceLE, ↓u_setN]
        have hsi := Store.sub_set s' i (.arr 10 [[.int .i64 0, .nils, .int .u32 0, .bool false, .int .u32 0, .bool false, .int .u32 0, .bool false, .nils, .int .i64 0]]) hi
        refine Own.app (τ := τ0) (Store.sub_trans q2 hsi) (q3.1.mono hsi) (slc_os0 (Store.set_same _ _ _) rfl) (by simp; omega) fun v' s2 hs2 ho2 => ?_
        have hs2id := hs2 _ _ q3.2.1
        have hs2b := hs2 _ _ q3.2.2
        rcases ho2 with ⟨hk, _⟩ | ⟨g, rfl, hg, hs⟩
        · simp at hk
        · have hgi : ¬ id = g := fun e => by subst e; rw [hs2id] at hs; cases hs
          have hgi' : ¬ g = id := fun e => hgi e.symm
          have hib' : ¬ b = id := fun e => hib e.symm
          simp only [hs2id, hs2b, hib', e9, t9, Nat.le_refl, ↓vcPre, ↓wit_get, ↓reduceIte, vcPost, vcStd, Nat.reduceEqDiff, reduceCtorEq, Nat.reduceAdd, Nat.reduceLeDiff, Int.reduceLT, Int.reduceLE, ↓u_setN]
          rw [hrow _ rfl, wit_some]
          show wit (splice 9 [AV.int IntKind.i64 1] ((canonA a).c ++ [AV.int IntKind.i64 0])) _
          rw [hsp, wit_some]
          simp only [hgi', hs, hrl, Nat.zero_add, ↓vcPre, ↓wit_get, ↓reduceIte, vcPost, vcStd, Nat.reduceEqDiff, reduceCtorEq, Nat.reduceAdd, Nat.reduceLeDiff, Int.reduceLT, Int.reduceLE, ↓u_setN]
          refine ⟨by simp; omega, by simp; omega, ?_⟩
          have hget : ∀ (z : List AV) (h : freeIx ks < (List.map KS.row ks ++ [z]).length), (List.map KS.row ks ++ [z])[freeIx ks] = z := fun z h => by
            rw [List.getElem_append_right (by simp; omega)]; simp
          have hst2 : ∀ z : List AV, (List.map KS.row ks ++ [z]).set (freeIx ks) (KS.used (canonA a) 1).row = (ks ++ [KS.used (canonA a) 1]).map KS.row := fun z => by
            rw [List.set_append_right _ _ (by simp; omega)]
            simp [g2']
          have hsall : ∀ z : List AV, z.length = 10 → splice 0 (KS.used (canonA a) 1).row z = some (KS.used (canonA a) 1).row := fun z hz => splice_all _ _ (by rw [hz]; rfl)
          rw [hget, hsall _ rfl, wit_some, hst2]
          have hτ2 : Store.sub τ s2 := Store.sub_trans q1 hs2
          refine EndQ.to _ _ rfl (Store.sub_refl _) ⟨(freeIx ks : Int), 0, ks ++ [.used (canonA a) 1], rfl, .inr ⟨hno, .inr ⟨by omega, rfl, rfl, by rw [if_pos g2']⟩⟩, h1, sub_upd' (sub_upd' hτ2 h1) (sub_none q1 hg), fun y hy => ?_, by simp; omega, _, by rw [Store.set_ne _ _ hgi, Store.set_same], .inr ⟨g, by simp, sub_none q1 hg, Store.set_same _ _ _⟩⟩
          rcases List.mem_append.1 hy with hy | hy
          · exact hup y hy
          · simp only [List.mem_singleton] at hy; subst hy; exact hnk
      · simp only [hTb, e9, t9, Nat.le_refl, ↓vcPre, ↓wit_get, ↓reduceIte, vcPost, vcStd, Nat.reduceEqDiff, reduceCtorEq, Nat.reduceAdd, Nat.reduceLeDiff, Int.reduceLT, Int.reduceLE, ↓u_setN]
        rw [hrow _ rfl, wit_some]
        show wit (splice 9 [AV.int IntKind.i64 1] ((canonA a).c ++ [AV.int IntKind.i64 0])) _
        rw [hsp, wit_some]
        rcases h6.mono hsT with ⟨hk, hv⟩ | ⟨g, hv, hg, hs⟩
        · have hk0 : ks = [] := by simpa using hk
          subst hk0; simp [freeIx] at g2
        · have hgi : ¬ id = g := fun e => by subst e; rw [hs] at h5'; cases h5'
          have hf2 : freeIx ks < ks.length := by omega
          subst hv
          simp only [hs, Nat.zero_add, hrl, ↓vcPre, ↓wit_get, ↓reduceIte, vcPost, vcStd, Nat.reduceEqDiff, reduceCtorEq, Nat.reduceAdd, Nat.reduceLeDiff, Int.reduceLT, Int.reduceLE, ↓u_setN]
          have hrl2 := KS.len (h3 _ (List.getElem_mem hf2))
          refine ⟨by omega, by omega, ?_⟩
          rw [splice_all _ _ (by rw [hrl, hrl2]), wit_some, hset]
          refine EndQ.to _ _ rfl (Store.sub_refl _) ⟨(freeIx ks : Int), 0, ks.set (freeIx ks) (.used (canonA a) 1), rfl, .inr ⟨hno, .inr ⟨by omega, rfl, rfl, by rw [if_neg (by omega)]⟩⟩, h1, sub_upd' (Store.sub_trans h2 hsT) hg, fun y hy => ?_, by simpa using h4, _, by rw [Store.set_ne _ _ hgi]; exact h5', .inr ⟨g, by simp, hg, Store.set_same _ _ _⟩⟩
          rcases List.mem_or_eq_of_mem_set hy with hy | rfl
          · exact hup y hy
          · exact hnk
  have em : IntKind.i64.wrap ((ks.length : Int) - 1) = (ks.length : Int) - 1 := wrap64 (by unfold I64; omega)
  rw [em]
  refine LoopQ.inv (S := Nat) (fun j => [(0, .ptr id 0), (3, .ptr b 0), (6, .int .i64 ((j + freeIx (ks.drop j) : Nat) : Int)), (7, .int .i64 ((j : Int) - 1))]) (fun _ => T) (fun j => j ≤ ks.length ∧ ∀ i, (hi : i < ks.length) → j ≤ i → ∀ c u, ks[i] = .used c u → canonA c ≠ canonA a) (fun j => j) ks.length (by simp [freeIx]) (Store.sub_refl _) ⟨Nat.le_refl _, fun i hi h => by omega⟩ ?_
  rintro j ⟨hj, hno⟩
  simp only [hsT _ _ h5, ↓vcPre, ↓wit_get, ↓reduceIte, vcPost, vcStd, Nat.reduceEqDiff, reduceCtorEq, Nat.reduceAdd, Nat.reduceLeDiff, Int.reduceLT, Int.reduceLE, ↓u_setN]
  refine ⟨fun c1 => ?_, fun c1 => ?_⟩
  · obtain ⟨m, rfl⟩ : ∃ m, j = m + 1 := ⟨j - 1, by omega⟩
    have e1 : ((m + 1 : Nat) : Int) - 1 = m := by omega
    have e2 : IntKind.i64.wrap ((m : Int) - 1) = (m : Int) - 1 := wrap64 (by unfold I64; omega)
    have hml : m < ks.length := by omega
    have hok := h3 _ (List.getElem_mem hml)
    have hl := KS.len hok
    have h9 := KS.at9 hok
    rcases h6 with ⟨hk, rfl⟩ | ⟨g, rfl, hg, hs⟩
    · have hk0 : ks = [] := by simpa using hk
      subst hk0; simp at hml
    · have hTg := hsT _ _ hs
      have hgi : ¬ id = g := fun e => by subst e; rw [hs] at h5; cases h5
      have hb2 : 0 ≤ (m : Int) ∧ (m : Int) < (ks.length : Int) := by omega
      have hfr : freeIx (ks.drop m) = if ks[m].n = 0 then 0 else freeIx (ks.drop (m + 1)) + 1 := by
        unfold freeIx
        rw [List.drop_eq_getElem_cons hml, List.findIdx?_cons]
        by_cases hz : ks[m].n = 0
        · simp [hz]
        · simp only [hz, decide_false, Bool.false_eq_true, if_false]
          cases hf : List.findIdx? (fun k : KS => decide (k.n = 0)) (ks.drop (m + 1)) with
          | none => simp; omega
          | some i => simp
      simp only [e1]
      simp only [hTg, Nat.zero_add, hb2, hl, h9, e2, hml, ↓vcPre, ↓wit_get, ↓reduceIte, vcPost, vcStd, Nat.reduceEqDiff, reduceCtorEq, Nat.reduceAdd, Nat.reduceLeDiff, Int.reduceLT, Int.reduceLE, ↓u_setN]
      refine ⟨fun g1 => ?_, fun g1 => ?_⟩
      · refine NextQ.to m ?_ (Store.sub_refl _) (by omega) ⟨by omega, fun i hi hmi c u hc => ?_⟩
        · rw [hfr, if_pos g1]; rfl
        · by_cases him : i = m
          · subst him
            have := hok
            rw [hc] at this g1
            simp only [KS.n] at g1
            have := this.2.1
            omega
          · exact hno i hi (by omega) c u hc
      · obtain ⟨c, u, hcu⟩ : ∃ c u, ks[m] = .used c u := by
          cases hc : ks[m] with
          | free z => rw [hc] at g1; simp [KS.n] at g1
          | used c u => exact ⟨c, u, rfl⟩
        rw [hcu] at hok hfr
        rw [if_neg (by have := hok.2.1; simp only [KS.n]; omega)] at hfr
        have hT9 : List.take 9 ks[m].row = c.c := by rw [hcu]; rfl
        simp only [hTb, hT9, e9, t9, Nat.le_refl, ↓vcPre, ↓wit_get, ↓reduceIte, vcPost, vcStd, Nat.reduceEqDiff, reduceCtorEq, Nat.reduceAdd, Nat.reduceLeDiff, Int.reduceLT, Int.reduceLE, ↓u_setN]
        refine (same_c c (canonA a) hok.1 (canonA_ok ha)).Q ?_
        rw [canonA_idem]
        by_cases hsame : canonA c = canonA a
        · rw [decide_eq_true hsame]
          simp only [hTg, Nat.zero_add, hb2, hl, h9, e2, hml, ↓vcPre, ↓wit_get, ↓reduceIte, vcPost, vcStd, Nat.reduceEqDiff, reduceCtorEq, Nat.reduceAdd, Nat.reduceLeDiff, Int.reduceLT, Int.reduceLE, ↓u_setN]
          have hun : ks[m].n = u := by rw [hcu]; rfl
          have hu1 : IntKind.i64.wrap (u + 1) = u + 1 := by
            have := hok.2
            exact wrap64 (by unfold I64; omega)
          rw [hun, hu1, hcu, e1, show splice 9 [AV.int IntKind.i64 (u + 1)] (KS.used c u).row = some (KS.used c (u + 1)).row from rfl, wit_some,
            show (List.map KS.row ks).set m (KS.used c (u + 1)).row = (ks.set m (.used c (u + 1))).map KS.row by rw [List.map_set]]
          refine EndQ.to _ _ rfl (Store.sub_refl _) ⟨m, 0, ks.set m (.used c (u + 1)), rfl, .inl ⟨m, hml, c, u, hcu, hsame, rfl, rfl, rfl⟩, h1, sub_upd' (Store.sub_trans h2 hsT) hg, fun y hy => ?_, by simpa using h4, _, by rw [Store.set_ne _ _ hgi]; exact hsT _ _ h5, .inr ⟨g, by simp, hg, Store.set_same _ _ _⟩⟩
          rcases List.mem_or_eq_of_mem_set hy with hy | rfl
          · have := h3 y hy
            cases y with
            | free z => exact this
            | used a' u' => exact ⟨this.1, this.2.1, by have := this.2.2; omega⟩
          · exact ⟨hok.1, by have := hok.2; omega, by have := hok.2; omega⟩
        · rw [decide_eq_false hsame]
          simp only [e1, e2, ↓vcPre, ↓wit_get, ↓reduceIte, vcPost, vcStd, Nat.reduceEqDiff, reduceCtorEq, Nat.reduceAdd, Nat.reduceLeDiff, Int.reduceLT, Int.reduceLE, ↓u_setN]
          refine NextQ.to m ?_ (Store.sub_refl _) (by omega) ⟨by omega, fun i hi hmi c' u' hc' => ?_⟩
          · rw [hfr, show m + (freeIx (ks.drop (m + 1)) + 1) = m + 1 + freeIx (ks.drop (m + 1)) by omega]
          · by_cases him : i = m
            · subst him
              rw [hcu] at hc'
              cases hc'
              exact hsame
            · exact hno i hi (by omega) c' u' hc'
  · have hj0 : j = 0 := by omega
    subst hj0
    simp only [List.drop_zero, Nat.zero_add]
    refine tail _ _ fun c u hc => ?_
    obtain ⟨i, hi, hh⟩ := List.getElem_of_mem hc
    exact hno i hi (by omega) c u hh
end Go.Am

/- K11 -/
namespace Go.Am.TstRun19
open Go.Am Go.Proofs
def table : T ((f : Nat) × Held Try.prog f) := (.node (.node (.node (.node (.node .leaf (some ⟨15, .fn Tst.F15⟩) (.node (.node (.node .leaf (some ⟨143, .fn Tst.F143⟩) .leaf) (some ⟨79, .fn Tst.F79⟩) .leaf) none (.node .leaf (some ⟨111, .fn Tst.F111⟩) .leaf))) none (.node .leaf none (.node (.node (.node .leaf (some ⟨151, .fn Tst.F151⟩) .leaf) none .leaf) none .leaf))) none (.node (.node (.node (.node (.node .leaf (some ⟨131, .fn Tst.F131⟩) .leaf) none .leaf) none .leaf) (some ⟨19, .fn Tst.F19⟩) (.node (.node (.node .leaf (some ⟨147, .fn Tst.F147⟩) .leaf) none .leaf) none .leaf)) none (.node (.node (.node (.node .leaf (some ⟨139, .fn Tst.F139⟩) .leaf) none .leaf) none (.node .leaf (some ⟨107, .fn Tst.F107⟩) .leaf)) (some ⟨27, .fn Tst.F27⟩) (.node (.node (.node .leaf (some ⟨155, .fn Tst.F155⟩) .leaf) none .leaf) none .leaf)))) none (.node (.node (.node (.node (.node (.node .leaf (some ⟨129, .fn Tst.F129⟩) .leaf) none .leaf) none .leaf) none (.node (.node (.node .leaf (some ⟨145, .fn Tst.F145⟩) .leaf) (some ⟨81, .fn Tst.F81⟩) .leaf) none (.node .leaf (some ⟨113, .fn Tst.F113⟩) .leaf))) none (.node (.node .leaf none (.node .leaf (some ⟨105, .fn Tst.F105⟩) .leaf)) none (.node (.node (.node .leaf (some ⟨153, .fn Tst.F153⟩) .leaf) none .leaf) none .leaf))) none (.node (.node (.node (.node (.node .leaf (some ⟨133, .fn Tst.F133⟩) .leaf) none .leaf) none .leaf) none (.node .leaf (some ⟨53, .fn Tst.F53⟩) .leaf)) none (.node (.node (.node (.node .leaf (some ⟨141, .fn Tst.F141⟩) .leaf) none .leaf) none (.node .leaf (some ⟨109, .fn Tst.F109⟩) .leaf)) none .leaf)))) none (.node (.node (.node (.node (.node (.node (.node .leaf (some ⟨128, .rule (seqRule 108 .u32 4) AS.rule_ok⟩) .leaf) none .leaf) none .leaf) none (.node (.node (.node .leaf (some ⟨144, .fn Tst.F144⟩) .leaf) (some ⟨80, .fn Tst.F80⟩) .leaf) none (.node .leaf (some ⟨112, .fn Tst.F112⟩) .leaf))) none (.node .leaf none (.node (.node (.node .leaf (some ⟨152, .fn Tst.F152⟩) .leaf) none .leaf) none .leaf))) none (.node (.node (.node (.node (.node .leaf (some ⟨132, .fn Tst.F132⟩) .leaf) none .leaf) none .leaf) none (.node (.node (.node .leaf (some ⟨148, .fn Tst.F148⟩) .leaf) none .leaf) (some ⟨52, .fn Tst.F52⟩) .leaf)) none (.node (.node (.node (.node .leaf (some ⟨140, .fn Tst.F140⟩) .leaf) none .leaf) none (.node .leaf (some ⟨108, .fn Tst.F108⟩) .leaf)) (some ⟨28, .fn Tst.F28⟩) (.node (.node (.node .leaf (some ⟨156, .fn Tst.F156⟩) .leaf) none .leaf) none .leaf)))) none (.node (.node (.node (.node (.node (.node .leaf (some ⟨130, .fn Tst.F130⟩) .leaf) none .leaf) none .leaf) none (.node (.node (.node .leaf (some ⟨146, .fn Tst.F146⟩) .leaf) (some ⟨82, .fn Tst.F82⟩) .leaf) none (.node .leaf (some ⟨114, .fn Tst.F114⟩) .leaf))) none (.node (.node (.node (.node .leaf (some ⟨138, .fn Tst.F138⟩) .leaf) none .leaf) none (.node .leaf (some ⟨106, .fn Tst.F106⟩) .leaf)) (some ⟨26, .fn Tst.F26⟩) (.node (.node (.node .leaf (some ⟨154, .fn Tst.F154⟩) .leaf) none .leaf) none .leaf))) none (.node (.node (.node (.node (.node .leaf (some ⟨134, .fn Tst.F134⟩) .leaf) none .leaf) none .leaf) (some ⟨22, .fn Tst.F22⟩) (.node .leaf (some ⟨54, .fn Tst.F54⟩) .leaf)) none (.node (.node (.node (.node .leaf (some ⟨142, .fn Tst.F142⟩) .leaf) (some ⟨78, .fn Tst.F78⟩) .leaf) none (.node .leaf (some ⟨110, .fn Tst.F110⟩) .leaf)) none .leaf)))))
theorem ran : isTrue (runF (tabOf table) 100000 19 []) = true := by kernel_rfl
theorem says : ACalls Try.prog 19 [] (fun _ => none) (fun b _ => b = .bool true) := says_true ran
theorem c19 : Pur Try.prog 19 [] (.bool true) := pur_true says
end Go.Am.TstRun19

/- A8 -/
namespace Go.Am
open Go.Proofs Go.Sort

theorem c14 (n lo hi : Int) (h1 : I64 n) (h2 : 0 ≤ lo) (h3 : lo ≤ hi) (h4 : hi < 4294967296) : Pur Try.prog 14 [.int .i64 n, .int .i64 lo, .int .i64 hi] (.int .i64 (lo + (n % (hi - lo + 1)))) := by
  refine pur_of Tst.F14 (by simp [Tst.F14, Fn.mkX]) fun σ => ?_
  simp only [Tst.F14, Fn.mkX, Tst.b14]
  simp only [↓vcPre, ↓wit_get, ↓reduceIte, vcPost, vcStd, Nat.reduceEqDiff, reduceCtorEq, Nat.reduceAdd, Nat.reduceLeDiff, Int.reduceLT, Int.reduceLE, ↓u_setN]
  have w : ∀ {x : Int}, -9223372036854775808 ≤ x → x ≤ 9223372036854775807 → IntKind.i64.wrap x = x := fun a b => wrap64 ⟨a, b⟩
  rw [w (x := hi - lo) (by omega) (by omega), w (x := hi - lo + 1) (by omega) (by omega)]
  have hm : 0 < hi - lo + 1 := by omega
  generalize hd : hi - lo + 1 = d at *
  have he : n % d = if n.tmod d < 0 then n.tmod d + d else n.tmod d := by
    rw [Int.tmod_eq_emod]
    have := Int.emod_nonneg n (b := d) (by omega)
    have := Int.emod_lt_of_pos n (b := d) (by omega)
    split <;> split <;> omega
  have b1 := Int.emod_nonneg n (b := d) (by omega)
  have b2 := Int.emod_lt_of_pos n (b := d) (by omega)
  refine ⟨by omega, fun hn => ?_, fun hn => ?_⟩
  · rw [if_pos hn] at he
    rw [w (x := n.tmod d + hi) (by omega) (by omega), w (x := n.tmod d + hi - lo) (by omega) (by omega), w (x := n.tmod d + hi - lo + 1) (by omega) (by omega), w (by omega) (by omega)]; omega
  · rw [if_neg hn] at he
    rw [w (by omega) (by omega)]; omega

/-- Attributes with a next hop alone. -/
def nA (n : Int) : At := { zeroAt with nxt := n }
def nC (n : Int) : List AV := [.int .i64 0, .nils, .int .u32 n, .bool false, .int .u32 0, .bool false, .int .u32 0, .bool false, .nils]
theorem nA_ok (n : Int) : (nA n).ok := ⟨by simp [nA, zeroAt], by simp [nA, zeroAt], by simp [nA, zeroAt]⟩
theorem canonC_nil : canonC [] = [] := by simp [canonC, ddA]
theorem canon_nA (n : Int) : canonA (nA n) = nA n := by
  simp [canonA, nA, zeroAt, canonC_nil]
theorem nA_inj {m n : Int} : nA m = nA n ↔ m = n := by simp [nA]
theorem n_weak {n : Int} {σ : Store} {Q : AV → Store → Prop} (h : Q (.agg (nA n).c) σ) : Weak (.agg (nC n)) σ Q := by
  refine Weak.agg (WeakL.nil 1 2 rfl (WeakL.nil 8 1 rfl (WeakL.pure ⟨?_, h⟩)))
  intro c hc
  simp [nC] at hc
  rcases hc with rfl | rfl | rfl | rfl | rfl | rfl | rfl | rfl | rfl <;> rfl
/-- Add, of a next hop alone. -/
theorem add_n {B : Int} (hB0 : 1 ≤ B) (hB : B ≤ 100000000) {τ s : Store} {id : Nat} {room : Int} {ks : List KS} (h : TI B τ id room ks s) (hks : ks.length < 1000000) (n : Int) :
    ACalls Try.prog 22 [.ptr id 0, .agg (nC n)] s (fun r s' => ∃ m e ks', r = .tup [.int .i64 m, .int .i64 e] ∧ AddR room ks (nA n) m e ks' ∧ TI (B + 1) τ id room ks' s') := by
  have h1 := s22 hB0 hB h hks (nA n) (nA_ok n)
  exact ACalls.weakArgs h1.1 (WeakL.pos 1 rfl (n_weak (WeakL.pure h1)))

theorem new_ok {room : Int} (h : 1 ≤ room ∧ room ≤ 4096) (σ : Store) (B : Int) : ACalls Try.prog 15 [.int .i64 room] σ (fun r s => ∃ id, r = .tup [.ptr id 0, .int .i64 0] ∧ TI B σ id room [] s) :=
  (s15 room σ B).mono fun r s h1 => by rw [if_pos h] at h1; exact h1
theorem TI.up {B B' : Int} {τ s : Store} {id : Nat} {room : Int} {ks : List KS} (hB : B ≤ B') (h : TI B τ id room ks s) : TI B' τ id room ks s := by
  obtain ⟨h1, h2, h3, h4, h5⟩ := h
  refine ⟨h1, h2, fun k hk => ?_, h4, h5⟩
  have := h3 k hk
  cases k with
  | free z => exact this
  | used a u => exact ⟨this.1, this.2.1, by have := this.2.2; omega⟩
/-- The first so many. -/
def firstK (i : Nat) : List KS := (List.range i).map fun j : Nat => KS.used (nA (j : Int)) 1
theorem firstK_len (i : Nat) : (firstK i).length = i := by simp [firstK]
theorem firstK_mem {i : Nat} {b : At} {u : Int} : KS.used b u ∈ firstK i ↔ ∃ j : Nat, j < i ∧ b = nA j ∧ u = 1 := by
  simp only [firstK, List.mem_map, List.mem_range, KS.used.injEq]
  constructor
  · rintro ⟨j, hj, rfl, rfl⟩; exact ⟨j, hj, rfl, rfl⟩
  · rintro ⟨j, hj, rfl, rfl⟩; exact ⟨j, hj, rfl, rfl⟩
theorem firstK_n {i : Nat} {k : KS} (h : k ∈ firstK i) : k.n = 1 := by
  simp only [firstK, List.mem_map] at h
  obtain ⟨j, _, rfl⟩ := h; rfl
theorem firstK_filter (i : Nat) : (firstK i).filter (fun k => decide (k.n ≠ 0)) = firstK i := List.filter_eq_self.2 fun k hk => by rw [firstK_n hk]; rfl
theorem firstK_free (i : Nat) : freeIx (firstK i) = i := by
  unfold freeIx
  rw [List.findIdx?_eq_none_iff.2 (fun k hk => by rw [firstK_n hk]; rfl)]
  exact firstK_len i
theorem firstK_succ (i : Nat) : firstK (i + 1) = firstK i ++ [.used (nA i) 1] := by simp [firstK, List.range_succ]
theorem u32_nat {n : Nat} (h : n < 1000000) : IntKind.u32.wrap (n : Int) = n := by
  simp [IntKind.wrap, IntKind.bits, IntKind.signed]; omega

/-- The table of the law, full, the last twice used; one place with other uses. -/
def L0 (p : Nat) : List KS := (firstK (p + 1)).set p (.used (nA p) 2)
def cellK (k u : Nat) : KS := if u = 0 then .free zCells else .used (nA k) u
theorem L0_len (p : Nat) : (L0 p).length = p + 1 := by simp [L0, firstK_len]
theorem L0_get {p j : Nat} (h : j < (L0 p).length) : (L0 p)[j] = .used (nA j) (if j = p then 2 else 1) := by
  have hj : j < p + 1 := by rw [L0_len] at h; exact h
  simp only [L0, List.getElem_set]
  split
  · rename_i e; subst e; simp
  · rename_i e
    rw [if_neg (fun h : j = p => e h.symm)]
    simp [firstK]
theorem L0_n {p : Nat} {k : KS} (h : k ∈ L0 p) : k.n ≠ 0 := by
  obtain ⟨j, hj, rfl⟩ := List.getElem_of_mem h
  rw [L0_get hj]
  simp only [KS.n]; split <;> omega
theorem L0_used {p k u : Nat} {b : At} {v : Int} (h : KS.used b v ∈ (L0 p).set k (cellK k u)) (hk : k ≤ p) : ∃ j : Nat, j ≤ p ∧ b = nA j := by
  rcases List.mem_or_eq_of_mem_set h with h | h
  · obtain ⟨j, hj, he⟩ := List.getElem_of_mem h
    rw [L0_get hj] at he
    cases he
    exact ⟨j, by rw [L0_len] at hj; omega, rfl⟩
  · unfold cellK at h
    split at h
    · cases h
    · cases h; exact ⟨k, hk, rfl⟩
theorem uses_K {p k u : Nat} (hk : k ≤ p) : usesAt ((L0 p).set k (cellK k u)) k = u := by
  rw [usesAt_of (by omega) (by simp [L0_len]; omega)]
  simp only [Int.toNat_natCast, List.getElem_set_self]
  unfold cellK
  split
  · rename_i h; subst h; rfl
  · rfl
theorem drop_K {p k u : Nat} (hk : k ≤ p) (hu : u ≠ 0) : dropK ((L0 p).set k (cellK k u)) k = (L0 p).set k (cellK k (u - 1)) := by
  unfold dropK
  rw [if_pos (by omega), Int.toNat_natCast, List.getElem?_eq_getElem (by simp [L0_len]; omega), List.getElem_set_self]
  have e : cellK k u = .used (nA k) u := by unfold cellK; rw [if_neg hu]
  simp only [e, List.set_set]
  congr 1
  unfold cellK
  by_cases h1 : u = 1
  · subst h1; rfl
  · rw [if_neg (by omega), if_neg (by omega)]
    congr 1; omega
theorem len_K {p k : Nat} (hk : k ≤ p) : (((L0 p).set k (.free zCells)).filter fun k => decide (k.n ≠ 0)).length = p := by
  have hl := L0_len p
  have hn : ∀ l : List KS, (∀ x ∈ l, x ∈ L0 p) → l.filter (fun k => decide (k.n ≠ 0)) = l := fun l h => List.filter_eq_self.2 fun x hx => decide_eq_true (L0_n (h x hx))
  rw [List.set_eq_take_append_cons_drop, if_pos (by omega), List.filter_append, List.filter_cons, hn _ (fun x hx => List.mem_of_mem_take hx), hn _ (fun x hx => List.mem_of_mem_drop hx)]
  simp [KS.n, hl]; omega
theorem free_K {p k : Nat} (hk : k ≤ p) : freeIx ((L0 p).set k (.free zCells)) = k := by
  have hl := L0_len p
  unfold freeIx
  have : List.findIdx? (fun k : KS => decide (k.n = 0)) ((L0 p).set k (.free zCells)) = some k := by
    rw [List.findIdx?_eq_some_iff_getElem]
    refine ⟨by simp; omega, by simp [KS.n], fun j hj => ?_⟩
    rw [List.getElem_set_ne (by omega)]
    simp only [decide_eq_true_eq]
    exact L0_n (List.getElem_mem _)
  rw [this]; rfl

set_option maxRecDepth 20000 in
theorem law5 (room drop : Int) (hr : I64 room) (hd : I64 drop) : Pur Try.prog 5 [.int .i64 room, .int .i64 drop] (.bool true) := by
  refine pur_of Tst.F5 (by simp [Tst.F5, Fn.mkX]) fun σ => ?_
  simp only [Tst.F5, Fn.mkX, Tst.b5]
  simp only [↓vcPre, ↓wit_get, ↓reduceIte, vcPost, vcStd, Nat.reduceEqDiff, reduceCtorEq, Nat.reduceAdd, Nat.reduceLeDiff, Int.reduceLT, Int.reduceLE, ↓u_setN]
  refine (c14 room 0 20 hr (by omega) (by omega) (by omega)).Q ?_
  obtain ⟨R, hR, hR1, hR2⟩ : ∃ R : Nat, IntKind.i64.wrap (1 + (0 + room % (20 - 0 + 1))) = (R : Int) ∧ 1 ≤ R ∧ R ≤ 21 := by
    refine ⟨(1 + room % 21).toNat, ?_, by omega, by omega⟩
    rw [show (20 - 0 + 1 : Int) = 21 by omega, wrap64 (by unfold I64; omega)]; omega
  simp only [hR, ↓vcPre, ↓wit_get, ↓reduceIte, vcPost, vcStd, Nat.reduceEqDiff, reduceCtorEq, Nat.reduceAdd, Nat.reduceLeDiff, Int.reduceLT, Int.reduceLE, ↓u_setN]
  refine (new_ok (room := (R : Int)) (by omega) σ 1).Q ?_
  rintro r s ⟨id, rfl, hT⟩
  simp only [↓vcPre, ↓wit_get, ↓reduceIte, vcPost, vcStd, Nat.reduceEqDiff, reduceCtorEq, Nat.reduceAdd, Nat.reduceLeDiff, Int.reduceLT, Int.reduceLE, ↓u_setN]
  refine LoopQ.inv (S := Nat × Store) (fun q => [(0, .int .i64 (R : Int)), (1, .int .i64 drop), (5, .ptr id 0), (7, .int .i64 (q.1 : Int))]) (fun q => q.2) (fun q => q.1 ≤ R ∧ TI (1 + q.1) σ id R (firstK q.1) q.2) (fun q => R + 1 - q.1) (0, s) rfl (Store.sub_refl _) ⟨by simp only; omega, hT⟩ ?_
  rintro ⟨i, s⟩ ⟨hi, hTi⟩
  simp only at hi hTi
  simp only [↓vcPre, ↓wit_get, ↓reduceIte, vcPost, vcStd, Nat.reduceEqDiff, reduceCtorEq, Nat.reduceAdd, Nat.reduceLeDiff, Int.reduceLT, Int.reduceLE, ↓u_setN]
  refine ⟨fun c1 => ?_, fun c1 => ?_⟩
  · rw [u32_nat (by omega)]
    refine (add_n (by omega) (by omega) hTi (by rw [firstK_len]; omega) i).Q ?_
    rintro r s' ⟨m, e, ks', rfl, hA, hT'⟩
    have hAA : m = i ∧ e = 0 ∧ ks' = firstK (i + 1) := by
      rcases hA with ⟨j, hj, b, u, hb, hc, _⟩ | ⟨_, ⟨h1, _⟩ | ⟨_, rfl, rfl, rfl⟩⟩
      · have hm := List.getElem_mem hj
        rw [hb] at hm
        obtain ⟨q, hq, rfl, rfl⟩ := firstK_mem.1 hm
        rw [canon_nA, canon_nA, nA_inj] at hc
        omega
      · rw [firstK_filter, firstK_len] at h1; omega
      · rw [firstK_free, firstK_len, if_pos rfl, canon_nA, firstK_succ]
        exact ⟨rfl, rfl, rfl⟩
    obtain ⟨rfl, rfl, rfl⟩ := hAA
    simp only [↓vcPre, ↓wit_get, ↓reduceIte, vcPost, vcStd, Nat.reduceEqDiff, reduceCtorEq, Nat.reduceAdd, Nat.reduceLeDiff, Int.reduceLT, Int.reduceLE, ↓u_setN]
    have ei : IntKind.i64.wrap ((i : Int) + 1) = ((i + 1 : Nat) : Int) := by rw [wrap64 (by unfold I64; omega)]; omega
    rw [ei]
    exact NextQ.to (i + 1, s') rfl (Store.sub_refl _) (by simp only; omega) ⟨by simp only; omega, by have := hT'.up (B' := 1 + ((i + 1 : Nat) : Int)) (by omega); exact this⟩
  · have hiR : i = R := by omega
    subst hiR
    refine (add_n (by omega) (by omega) hTi (by rw [firstK_len]; omega) 500).Q ?_
    rintro r s' ⟨m, e, ks', rfl, hA, hT'⟩
    have hAA : m = 0 ∧ e = 13 ∧ ks' = firstK i := by
      rcases hA with ⟨j, hj, b, u, hb, hc, _⟩ | ⟨_, ⟨_, rfl, rfl, rfl⟩ | ⟨h1, _⟩⟩
      · have hm := List.getElem_mem hj
        rw [hb] at hm
        obtain ⟨q, hq, rfl, rfl⟩ := firstK_mem.1 hm
        rw [canon_nA, canon_nA, nA_inj] at hc
        omega
      · exact ⟨rfl, rfl, rfl⟩
      · rw [firstK_filter, firstK_len] at h1; omega
    obtain ⟨rfl, rfl, rfl⟩ := hAA
    simp only [↓vcPre, ↓wit_get, ↓reduceIte, vcPost, vcStd, Nat.reduceEqDiff, reduceCtorEq, Nat.reduceAdd, Nat.reduceLeDiff, Int.reduceLT, Int.reduceLE, ↓u_setN]
    obtain ⟨p, rfl⟩ : ∃ p, i = p + 1 := ⟨i - 1, by omega⟩
    have ep : IntKind.u32.wrap (IntKind.i64.wrap (((p + 1 : Nat) : Int) - 1)) = (p : Int) := by
      rw [wrap64 (by unfold I64; omega), show ((p + 1 : Nat) : Int) - 1 = (p : Int) by omega, u32_nat (by omega)]
    have ep' : IntKind.i64.wrap (((p + 1 : Nat) : Int) - 1) = (p : Int) := by rw [wrap64 (by unfold I64; omega)]; omega
    rw [ep]
    refine (add_n (by omega) (by omega) hT' (by rw [firstK_len]; omega) p).Q ?_
    rintro r s2 ⟨m, e, ks', rfl, hA2, hT2⟩
    have hAA : m = p ∧ e = 0 ∧ ks' = (firstK (p + 1)).set p (.used (nA p) 2) := by
      rcases hA2 with ⟨j, hj, b, u, hb, hc, rfl, rfl, rfl⟩ | ⟨hno, _⟩
      · have hjl : j < p + 1 := by rw [firstK_len] at hj; exact hj
        have hb' : KS.used (nA (j : Int)) 1 = .used b u := by
          rw [← hb]; simp [firstK]
        cases hb'
        rw [canon_nA, canon_nA, nA_inj] at hc
        have : j = p := by omega
        subst this
        exact ⟨rfl, rfl, rfl⟩
      · exact absurd rfl (hno (nA p) 1 (firstK_mem.2 ⟨p, by omega, rfl, rfl⟩))
    obtain ⟨rfl, rfl, rfl⟩ := hAA
    have hlen2 : (((firstK (p + 1)).set p (.used (nA p) 2)).filter fun k => decide (k.n ≠ 0)).length = p + 1 := by
      rw [List.filter_eq_self.2]
      · simp [firstK_len]
      · intro k hk
        rcases List.mem_or_eq_of_mem_set hk with hk | rfl
        · rw [firstK_n hk]; rfl
        · rfl
    simp only [ep', not_true_eq_false, ↓vcPre, ↓wit_get, ↓reduceIte, vcPost, vcStd, Nat.reduceEqDiff, reduceCtorEq, Nat.reduceAdd, Nat.reduceLeDiff, Int.reduceLT, Int.reduceLE, ↓u_setN]
    refine (s28 hT2).Q ?_
    rintro r s3 ⟨rfl, rfl⟩
    rw [hlen2]
    simp only [ep', ↓vcPre, ↓wit_get, ↓reduceIte, vcPost, vcStd, Nat.reduceEqDiff, reduceCtorEq, Nat.reduceAdd, Nat.reduceLeDiff, Int.reduceLT, Int.reduceLE, ↓u_setN]
    refine (c14 drop 0 p hd (by omega) (by omega) (by omega)).Q ?_
    obtain ⟨k, hk, hkp⟩ : ∃ k : Nat, (0 : Int) + drop % ((p : Int) - 0 + 1) = k ∧ k ≤ p := by
      have h1 := Int.emod_nonneg drop (b := (p : Int) - 0 + 1) (by omega)
      have h2 := Int.emod_lt_of_pos drop (b := (p : Int) - 0 + 1) (by omega)
      exact ⟨(drop % ((p : Int) - 0 + 1)).toNat, by omega, by omega⟩
    rw [hk]
    obtain ⟨u0, hu0, hu2⟩ : ∃ u0 : Nat, (L0 p).set k (cellK k u0) = L0 p ∧ u0 ≤ 2 := by
      refine ⟨if k = p then 2 else 1, ?_, by split <;> omega⟩
      have hkl : k < (L0 p).length := by rw [L0_len]; omega
      have : cellK k (if k = p then 2 else 1) = (L0 p)[k] := by
        rw [L0_get hkl]
        unfold cellK
        split <;> simp_all
      rw [this, List.set_getElem_self]
    have hT3 : TI (1 + ((p + 1 : Nat) : Int) + 1 + 1) σ id ((p + 1 : Nat) : Int) ((L0 p).set k (cellK k u0)) s3 := by rw [hu0]; exact hT2
    simp only [↓vcPre, ↓wit_get, ↓reduceIte, vcPost, vcStd, Nat.reduceEqDiff, reduceCtorEq, Nat.reduceAdd, Nat.reduceLeDiff, Int.reduceLT, Int.reduceLE, ↓u_setN]
    refine LoopQ.inv (S := Nat × Store) (fun q => [(0, .int .i64 ((p + 1 : Nat) : Int)), (5, .ptr id 0), (14, .int .i64 (k : Int))]) (fun q => q.2) (fun q => q.1 ≤ 2 ∧ TI (1 + ((p + 1 : Nat) : Int) + 1 + 1) σ id ((p + 1 : Nat) : Int) ((L0 p).set k (cellK k q.1)) q.2) (fun q => q.1) (u0, s3) rfl (Store.sub_refl _) ⟨hu2, hT3⟩ ?_
    rintro ⟨u, s⟩ ⟨hu, hTu⟩
    simp only at hu hTu
    simp only [↓vcPre, ↓wit_get, ↓reduceIte, vcPost, vcStd, Nat.reduceEqDiff, reduceCtorEq, Nat.reduceAdd, Nat.reduceLeDiff, Int.reduceLT, Int.reduceLE, ↓u_setN]
    refine (s26 hTu k).Q ?_
    rintro r s4 ⟨rfl, rfl⟩
    rw [uses_K hkp]
    simp only [↓vcPre, ↓wit_get, ↓reduceIte, vcPost, vcStd, Nat.reduceEqDiff, reduceCtorEq, Nat.reduceAdd, Nat.reduceLeDiff, Int.reduceLT, Int.reduceLE, ↓u_setN]
    refine ⟨fun g1 => ?_, fun g1 => ?_⟩
    · refine (s26 hTu k).Q ?_
      rintro r s5 ⟨rfl, rfl⟩
      rw [uses_K hkp]
      simp only [↓vcPre, ↓wit_get, ↓reduceIte, vcPost, vcStd, Nat.reduceEqDiff, reduceCtorEq, Nat.reduceAdd, Nat.reduceLeDiff, Int.reduceLT, Int.reduceLE, ↓u_setN]
      refine (s27 (by omega) hTu k).Q ?_
      rintro r s6 ⟨rfl, hT6⟩
      rw [drop_K hkp (by omega)] at hT6
      rw [uses_K hkp, if_pos (by omega)]
      simp only [↓vcPre, ↓wit_get, ↓reduceIte, vcPost, vcStd, Nat.reduceEqDiff, reduceCtorEq, Nat.reduceAdd, Nat.reduceLeDiff, Int.reduceLT, Int.reduceLE, ↓u_setN]
      refine (s26 hT6 k).Q ?_
      rintro r s7 ⟨rfl, rfl⟩
      rw [uses_K hkp]
      have eu : IntKind.i64.wrap ((u : Int) - 1) = ((u - 1 : Nat) : Int) := by rw [wrap64 (by unfold I64; omega)]; omega
      simp only [eu, ↓vcPre, ↓wit_get, ↓reduceIte, vcPost, vcStd, Nat.reduceEqDiff, reduceCtorEq, Nat.reduceAdd, Nat.reduceLeDiff, Int.reduceLT, Int.reduceLE, ↓u_setN]
      exact NextQ.to (u - 1, s7) rfl (Store.sub_refl _) (by simp only; omega) ⟨by simp only; omega, hT6⟩
    · have hu00 : u = 0 := by omega
      subst hu00
      have hc0 : cellK k 0 = .free zCells := rfl
      rw [hc0] at hTu
      refine (add_n (by omega) (by omega) hTu (by simp [L0_len]; omega) 500).Q ?_
      rintro r s5 ⟨m, e, ks', rfl, hA5, hT5⟩
      have hAA : m = k ∧ e = 0 ∧ ks' = ((L0 p).set k (.free zCells)).set k (.used (nA 500) 1) := by
        rcases hA5 with ⟨j, hj, b, u, hb, hc, _⟩ | ⟨_, ⟨h1, _⟩ | ⟨_, rfl, rfl, rfl⟩⟩
        · have hm := List.getElem_mem hj
          rw [hb, ← hc0] at hm
          obtain ⟨q, hq, rfl⟩ := L0_used hm hkp
          rw [canon_nA, canon_nA, nA_inj] at hc
          omega
        · rw [len_K hkp] at h1; omega
        · rw [free_K hkp, if_neg (by simp [L0_len]; omega), canon_nA]
          exact ⟨rfl, rfl, rfl⟩
      obtain ⟨rfl, rfl, rfl⟩ := hAA
      rw [List.set_set] at hT5
      simp only [↓vcPre, ↓wit_get, ↓reduceIte, vcPost, vcStd, Nat.reduceEqDiff, reduceCtorEq, Nat.reduceAdd, Nat.reduceLeDiff, Int.reduceLT, Int.reduceLE, ↓u_setN]
      refine (s23 hT5 k).Q ?_
      rintro r s6 ⟨rfl, rfl⟩
      have hkl : k < (L0 p).length := by rw [L0_len]; omega
      have hg : getA ((L0 p).set k (.used (nA 500) 1)) k = nA 500 := by
        unfold getA
        rw [if_pos (by omega), Int.toNat_natCast, List.getElem?_eq_getElem (by simpa using hkl), List.getElem_set_self]
        exact canon_nA 500
      have hu : usesAt ((L0 p).set k (.used (nA 500) 1)) k = 1 := by
        rw [usesAt_of (by omega) (by simpa using hkl)]
        simp [KS.n]
      rw [hg, hu]
      simp only [At.c, nA, zeroAt, ↓vcPre, ↓wit_get, ↓reduceIte, vcPost, vcStd, Nat.reduceEqDiff, reduceCtorEq, Nat.reduceAdd, Nat.reduceLeDiff, Int.reduceLT, Int.reduceLE, ↓u_setN]
      refine AllocQ.i0 fun q hq => ?_
      simp only [At.c, nA, zeroAt, ↓vcPre, ↓wit_get, ↓reduceIte, vcPost, vcStd, Nat.reduceEqDiff, reduceCtorEq, Nat.reduceAdd, Nat.reduceLeDiff, Int.reduceLT, Int.reduceLE, ↓u_setN]
      have hT7 : ∀ X Y : Obj, TI (1 + ((p + 1 : Nat) : Int) + 1 + 1 + 1) σ id ((p + 1 : Nat) : Int) ((L0 p).set k (.used (nA 500) 1)) ((s6.set q X).set q Y) := fun X Y => by
        obtain ⟨h1, h2, h3, h4, v, h5, h6⟩ := hT5
        have hsx : Store.sub s6 ((s6.set q X).set q Y) := by rw [Store.set_set]; exact Store.sub_set _ _ _ hq
        exact ⟨h1, Store.sub_trans h2 hsx, h3, h4, v, hsx _ _ h5, h6.mono hsx⟩
      refine (s28 (hT7 _ _)).Q ?_
      rintro r s8 ⟨rfl, rfl⟩
      have hlen3 : (((L0 p).set k (.used (nA 500) 1)).filter fun k => decide (k.n ≠ 0)).length = p + 1 := by
        rw [List.filter_eq_self.2]
        · simp [L0_len]
        · intro y hy
          rcases List.mem_or_eq_of_mem_set hy with hy | rfl
          · exact decide_eq_true (L0_n hy)
          · rfl
      rw [hlen3]
      simp only [↓vcPre, ↓wit_get, ↓reduceIte, vcPost, vcStd, Nat.reduceEqDiff, reduceCtorEq, Nat.reduceAdd, Nat.reduceLeDiff, Int.reduceLT, Int.reduceLE, ↓u_setN]
      refine TstRun19.c19.Q ?_
      simp only [↓vcPre, ↓wit_get, ↓reduceIte, vcPost, vcStd, Nat.reduceEqDiff, reduceCtorEq, Nat.reduceAdd, Nat.reduceLeDiff, Int.reduceLT, Int.reduceLE, ↓u_setN]
      exact (hT7 _ _).2.1
end Go.Am

/- Gl4 -/
namespace Go.Am
open Go.RowKit
/-- Whatever the one stands for, the other stands for, too. -/
def Imp (x y : AV) : Prop := y.flat = true ∧ ∀ G w v, VRel G w x v → VRel G w y v
theorem Imp.refl {x : AV} (h : x.flat = true) : Imp x x := ⟨h, fun _ _ _ h => h⟩
theorem Imp.nils {esz : Nat} : Imp .nils (.sl esz []) := ⟨rfl, fun _ _ _ h => by have := h.of_nils; subst this; exact .sl0⟩
abbrev ImpL (xs ys : List AV) : Prop := Rels Imp xs ys
theorem ImpL.refl : ∀ (l : List AV), (∀ x ∈ l, x.flat = true) → ImpL l l
  | [], _ => .nil
  | x :: l, h => .cons (.refl (h x (by simp))) (ImpL.refl l fun y hy => h y (by simp [hy]))
theorem ImpL.flat {a b : List AV} (h : ImpL a b) : ∀ x ∈ b, x.flat = true := by
  induction h with
  | nil => simp
  | cons h1 _ ih => intro x hx; exact (List.mem_cons.1 hx).elim (fun e => e ▸ h1.1) (ih x)
theorem Imp.sl {esz : Nat} {es es' : List (List AV)} (h : Rels ImpL es es') : Imp (.sl esz es) (.sl esz es') := by
  refine ⟨rfl, fun G w v hv => ?_⟩
  by_cases he : es = []
  · subst he
    cases h
    exact hv
  · have hl := h.length
    have hne : es' ≠ [] := fun e => he (List.length_eq_zero_iff.1 (by rw [hl, e]; rfl))
    have hget : ∀ i (hi : i < es.length) (hi' : i < es'.length), ImpL es[i] es'[i] := fun i hi hi' => by
      obtain ⟨b, hb, hr⟩ := h.get i _ (List.getElem?_eq_getElem hi)
      rw [List.getElem?_eq_getElem hi'] at hb; cases hb; exact hr
    cases hv with
    | sl0 => exact (he rfl).elim
    | sl vs hb hne' hcap hlen hf hc hvv =>
      have hlen' : ∀ cs ∈ es', cs.length = esz := fun cs hcs => by
        obtain ⟨i, hi, rfl⟩ := List.getElem_of_mem hcs
        rw [← (hget i (by omega) hi).length]; exact hlen _ (List.getElem_mem _)
      have := VRel.sl (G := G) (w := w) (esz := esz) (es := es') vs hb hne (by rw [← hl]; exact hcap) hlen'
        (fun cs hcs => by
          obtain ⟨i, hi, rfl⟩ := List.getElem_of_mem hcs
          exact (hget i (by omega) hi).flat)
        (fun i j hi hj => hc i j (by omega) hj)
        (fun i j hi hj => by
          have h1 := hget i (by omega) hi
          obtain ⟨b, hb', hr⟩ := h1.get j _ (List.getElem?_eq_getElem (by rw [h1.length]; exact hj))
          rw [List.getElem?_eq_getElem hj] at hb'; cases hb'
          exact hr.2 _ _ _ (hvv i j (by omega) (by rw [h1.length]; exact hj)))
      rw [hl]; exact this
theorem sl_imp {P : Program} {n : Nat} {e : TypeId} {α : Type} (c : α → List AV) (ok : α → Prop) (hd : ∀ x, TOk P n e x → ∃ r, ImpL x (c r) ∧ ok r) : ∀ (es : List (List AV)), (∀ x ∈ es, TOk P n e x) → ∃ rs : List α, Rels ImpL es (rs.map c) ∧ ∀ r ∈ rs, ok r
  | [], _ => ⟨[], .nil, by simp⟩
  | x :: es, h => by
    obtain ⟨r, hr, ho⟩ := hd x (h x (by simp))
    obtain ⟨rs, hrs, hos⟩ := sl_imp c ok hd es (fun y hy => h y (by simp [hy]))
    exact ⟨r :: rs, .cons hr hrs, fun q hq => (List.mem_cons.1 hq).elim (fun e => e ▸ ho) (hos q)⟩
/-- A slice, nil or not, with its elements told anew. -/
theorem TOk.slI {P : Program} {n sz by_ : Nat} {t e : TypeId} {xs : List AV} (ht : P.underlying t = some (.slice e)) (hs : P.cellsOf e = sz) (hb : P.bytesOf e = by_) {α : Type} (c : α → List AV) (ok : α → Prop) (hd : ∀ x, TOk P n e x → ∃ r, ImpL x (c r) ∧ ok r)
    (h : TOk P (n + 1) t xs) : ∃ rs : List α, ImpL xs [.sl sz (rs.map c)] ∧ (rs.length * by_ ≤ reachBytes) ∧ ∀ r ∈ rs, ok r := by
  unfold TOk at h
  simp only [ht] at h
  rcases h with h | ⟨es, rfl, hz, hx⟩
  · subst h; exact ⟨[], .cons .nils .nil, by simp, by simp⟩
  · obtain ⟨rs, hr, ho⟩ := sl_imp c ok hd es hx
    have hl := hr.length
    rw [List.length_map] at hl
    exact ⟨rs, .cons (by rw [hs]; exact .sl hr) .nil, by rw [← hl, ← hb]; exact hz, ho⟩
theorem ImpL.append {a b c d : List AV} (h : ImpL a b) (h' : ImpL c d) : ImpL (a ++ c) (b ++ d) := Rels.append h h'
theorem ImpL.one {x : AV} (h : x.flat = true) : ImpL [x] [x] := .cons (.refl h) .nil
theorem imp_arg {G : Gh} {w : World} {x y : AV} {v : Value} (h : ImpL [x] [y]) (hv : VRel G w x v) : VRel G w y v := by
  cases h with
  | cons h1 _ => exact h1.2 _ _ _ hv
end Go.Am

/- S91C -/
namespace Go.Am.Tsd
open Go.Proofs
/-- signpost/signpostkeep.Short -/
def t40_34 : BC := .ops [⟨some 34, none, .pure (.mov), [.t 3]⟩, ⟨some 35, none, .load (.ld 2 true), [.t 5]⟩, ⟨some 36, none, .alloc (.mksl 2 1), [.t 35]⟩, ⟨some 37, none, .loud (.app 2 32), [.t 34, .t 36]⟩, ⟨some 3, none, .pure (.mov), [.t 37]⟩] [1, 2, 3, 4]
def t40_3 : BC := .seq (.ops [⟨some 3, none, .pure (.mov), [.c .nils]⟩] [1, 2, 3]) (.seq (.seq (.ops [⟨some 4, none, .pure (.mov), [.c (.int .i64 0)]⟩] [1, 2, 3, 4]) (.block 0 (.loop [1, 2, 3, 4] (.seq (.seq (.ops [⟨some 14, none, .pure (.mov), [.t 4]⟩, ⟨some 15, none, .pure (.fld 1), [.t 1]⟩, ⟨some 16, none, .load (.ld 1 false), [.t 15]⟩, ⟨some 17, none, .pure (.len), [.t 16]⟩, ⟨some 18, none, .pure (.bin .lss), [.t 14, .t 17]⟩] [1, 2, 3, 4, 18]) (.cond (.t 18) (.skip) (.exit 0))) (.seq (.block 1 (.seq (.ops [⟨some 21, none, .pure (.fld 1), [.t 1]⟩, ⟨some 22, none, .load (.ld 1 false), [.t 21]⟩, ⟨some 23, none, .pure (.mov), [.t 4]⟩, ⟨some 24, none, .pure (.idx 2), [.t 22, .t 23]⟩, ⟨some 25, none, .load (.ld 2 true), [.t 24]⟩, ⟨some 5, none, .alloc (.alloc [(.int .i64 0), .nils]), []⟩, ⟨none, none, .loud (.st 2), [.t 5, .t 25]⟩] [1, 2, 3, 4, 5]) (.seq (.seq (.ops [⟨some 26, none, .pure (.fld 1), [.t 5]⟩, ⟨some 27, none, .load (.ld 1 false), [.t 26]⟩, ⟨some 28, none, .pure (.len), [.t 27]⟩, ⟨some 29, none, .pure (.bin .gtr), [.t 28, .c (.int .i64 6)]⟩] [1, 2, 3, 4, 5, 29]) (.cond (.t 29) (.ops [⟨some 30, none, .pure (.fld 1), [.t 5]⟩, ⟨some 31, none, .load (.ld 1 false), [.t 30]⟩, ⟨some 32, none, .pure (.slice 1 false true), [.t 31, .c (.int .i64 6)]⟩, ⟨some 33, none, .pure (.fld 1), [.t 5]⟩, ⟨none, none, .loud (.st 1), [.t 33, .t 32]⟩] [1, 2, 3, 4, 5]) (.skip))) t40_34))) (.ops [⟨some 19, none, .pure (.mov), [.t 4]⟩, ⟨some 20, none, .pure (.bin .add), [.t 19, .c (.int .i64 1)]⟩, ⟨some 4, none, .pure (.mov), [.t 20]⟩] [1, 2, 3, 4])))))) (.seq (.ops [⟨some 38, none, .pure (.mov), [.t 3]⟩, ⟨some 39, none, .pure (.fld 1), [.t 1]⟩, ⟨none, none, .loud (.st 1), [.t 39, .t 38]⟩] [1, 2]) (.seq (.seq (.ops [⟨some 40, none, .pure (.fld 8), [.t 1]⟩, ⟨some 41, none, .load (.ld 1 false), [.t 40]⟩, ⟨some 42, none, .pure (.len), [.t 41]⟩, ⟨some 43, none, .pure (.bin .gtr), [.t 42, .c (.int .i64 34)]⟩] [1, 2, 43]) (.cond (.t 43) (.ops [⟨some 44, none, .pure (.fld 8), [.t 1]⟩, ⟨some 45, none, .load (.ld 1 false), [.t 44]⟩, ⟨some 46, none, .pure (.slice 1 false true), [.t 45, .c (.int .i64 34)]⟩, ⟨some 47, none, .pure (.fld 8), [.t 1]⟩, ⟨none, none, .loud (.st 1), [.t 47, .t 46]⟩] [1, 2]) (.skip))) (.seq (.ops [⟨some 48, none, .load (.ld 9 true), [.t 1]⟩, ⟨none, none, .loud (.st 9), [.t 2, .t 48]⟩] [2]) (.ret)))))
def b40 : BC := .seq (.ops [⟨some 1, none, .alloc (.box), [.t 0]⟩, ⟨some 2, none, .alloc (.alloc [(.int .i64 0), .nils, (.int .u32 0), (.bool false), (.int .u32 0), (.bool false), (.int .u32 0), (.bool false), .nils]), []⟩] [1, 2]) (.seq (.seq (.ops [⟨some 6, none, .pure (.fld 1), [.t 1]⟩, ⟨some 7, none, .load (.ld 1 false), [.t 6]⟩, ⟨some 8, none, .pure (.len), [.t 7]⟩, ⟨some 9, none, .pure (.bin .gtr), [.t 8, .c (.int .i64 18)]⟩] [1, 2, 9]) (.cond (.t 9) (.ops [⟨some 10, none, .pure (.fld 1), [.t 1]⟩, ⟨some 11, none, .load (.ld 1 false), [.t 10]⟩, ⟨some 12, none, .pure (.slice 2 false true), [.t 11, .c (.int .i64 18)]⟩, ⟨some 13, none, .pure (.fld 1), [.t 1]⟩, ⟨none, none, .loud (.st 1), [.t 13, .t 12]⟩] [1, 2]) (.skip))) t40_3)
def F40 : Fn Try.prog 40 := Fn.mkX false b40 [.c 2 9 true] 49 Try.f40 _ Try.func40 (by decide) rfl Try.ntmps40 (by kernel_rfl) (by kernel_rfl)
end Go.Am.Tsd
