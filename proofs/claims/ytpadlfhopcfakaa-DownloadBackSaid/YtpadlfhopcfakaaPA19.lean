/- A part of the proof: a logic for calls over plain values, and the functions that the law reaches, each walked once. -/
import Derived.Test.YtpadlfhopcfakaaPA18
import Derived.Test.YtpadlfhopcfakaaProg
import Derived.Sort.AssemblyPlain
set_option linter.unusedVariables false
set_option linter.unusedSimpArgs false
set_option linter.unusedSectionVars false

/- S26B -/
namespace Go.Am.Tst
open Go.Proofs
def str0 : ByteArray := ⟨[0, 1, 2, 2, 3, 3, 3, 3, 4, 4, 4, 4, 4, 4, 4, 4, 5, 5, 5, 5, 5, 5, 5, 5, 5, 5, 5, 5, 5, 5, 5, 5, 6, 6, 6, 6, 6, 6, 6, 6, 6, 6, 6, 6, 6, 6, 6, 6, 6, 6, 6, 6, 6, 6, 6, 6, 6, 6, 6, 6, 6, 6, 6, 6, 7, 7, 7, 7, 7, 7, 7, 7, 7, 7, 7, 7, 7, 7, 7, 7, 7, 7, 7, 7, 7, 7, 7, 7, 7, 7, 7, 7, 7, 7, 7, 7, 7, 7, 7, 7, 7, 7, 7, 7, 7, 7, 7, 7, 7, 7, 7, 7, 7, 7, 7, 7, 7, 7, 7, 7, 7, 7, 7, 7, 7, 7, 7, 7, 8, 8, 8, 8, 8, 8, 8, 8, 8, 8, 8, 8, 8, 8, 8, 8, 8, 8, 8, 8, 8, 8, 8, 8, 8, 8, 8, 8, 8, 8, 8, 8, 8, 8, 8, 8, 8, 8, 8, 8, 8, 8, 8, 8, 8, 8, 8, 8, 8, 8, 8, 8, 8, 8, 8, 8, 8, 8, 8, 8, 8, 8, 8, 8, 8, 8, 8, 8, 8, 8, 8, 8, 8, 8, 8, 8, 8, 8, 8, 8, 8, 8, 8, 8, 8, 8, 8, 8, 8, 8, 8, 8, 8, 8, 8, 8, 8, 8, 8, 8, 8, 8, 8, 8, 8, 8, 8, 8, 8, 8, 8, 8, 8, 8, 8, 8, 8, 8, 8, 8, 8, 8, 8, 8, 8, 8, 8, 8].toArray⟩
/-- signpost/signpostlaw26.DownloadPlans -/
def b3 : BC := .seq (.ops [⟨some 6, none, .pure (.mov), [.c (.bool false)]⟩] [0, 1, 2]) (.seq (.seq (.ops [⟨some 9, none, .pure (.mov), [.t 2]⟩, ⟨some 10, none, .pure (.len), [.t 9]⟩, ⟨some 11, none, .pure (.bin .gtr), [.t 10, .c (.int .i64 10)]⟩] [0, 1, 2, 11]) (.cond (.t 11) (.ops [⟨some 12, none, .pure (.mov), [.t 2]⟩, ⟨some 13, none, .pure (.slice 3 false true), [.t 12, .c (.int .i64 10)]⟩, ⟨some 2, none, .pure (.mov), [.t 13]⟩] [0, 1, 2]) (.skip))) (.seq (.ops [⟨some 14, none, .pure (.mov), [.t 0]⟩, ⟨some 15, none, .loud (.call 10), [.t 14]⟩, ⟨some 16, none, .pure (.mov), [.t 1]⟩, ⟨some 17, none, .loud (.call 10), [.t 16]⟩, ⟨some 7, none, .pure (.mov), [.t 15]⟩, ⟨some 8, none, .pure (.mov), [.t 17]⟩] [2, 7, 8]) (.seq (.ops [⟨some 18, none, .pure (.mov), [.t 7]⟩, ⟨some 19, none, .pure (.mov), [.t 8]⟩, ⟨some 20, none, .loud (.call 11), [.t 18, .t 19]⟩, ⟨some 21, none, .pure (.mov), [.t 20]⟩, ⟨some 22, some (21, true), .pure (.mov), [.t 7]⟩, ⟨some 23, some (21, true), .pure (.mov), [.t 2]⟩, ⟨some 24, some (21, true), .loud (.call 11), [.t 22, .t 23]⟩, ⟨some 25, none, .pick, [.t 21, .t 24, .c (.bool false)]⟩, ⟨some 26, none, .pure (.mov), [.t 25]⟩, ⟨some 27, some (26, true), .pure (.mov), [.t 2]⟩, ⟨some 28, some (26, true), .pure (.mov), [.t 8]⟩, ⟨some 29, some (26, true), .loud (.call 11), [.t 27, .t 28]⟩, ⟨some 30, none, .pick, [.t 26, .t 29, .c (.bool false)]⟩, ⟨some 31, none, .pure (.mov), [.t 30]⟩, ⟨some 32, some (31, true), .pure (.mov), [.t 8]⟩, ⟨some 33, some (31, true), .pure (.mov), [.t 7]⟩, ⟨some 34, some (31, true), .loud (.call 11), [.t 32, .t 33]⟩, ⟨some 35, none, .pick, [.t 31, .t 34, .c (.bool false)]⟩, ⟨some 36, none, .pure (.mov), [.t 35]⟩, ⟨some 37, some (36, true), .loud (.call 12), []⟩, ⟨some 38, none, .pick, [.t 36, .t 37, .c (.bool false)]⟩, ⟨some 6, none, .pure (.mov), [.t 38]⟩] [6]) (.ret))))
def F3 : Fn Try.prog 3 := Fn.mk' b3 [.t 6] 39 Try.f3 _ Try.func3 (by decide) rfl Try.ntmps3 (by kernel_rfl) (by kernel_rfl)
/-- signpost/signpostlaw26.DownloadBack -/
def b4 : BC := .seq (.ops [⟨some 4, none, .pure (.mov), [.c (.bool false)]⟩] [0, 1]) (.seq (.ops [⟨some 13, none, .pure (.mov), [.t 0]⟩, ⟨some 14, none, .loud (.call 10), [.t 13]⟩, ⟨some 15, none, .pure (.mov), [.t 1]⟩, ⟨some 16, none, .loud (.call 10), [.t 15]⟩, ⟨some 5, none, .pure (.mov), [.t 14]⟩, ⟨some 6, none, .pure (.mov), [.t 16]⟩] [5, 6]) (.seq (.seq (.ops [⟨some 7, none, .pure (.mov), [.c (.int .i64 0)]⟩] [5, 6, 7]) (.block 0 (.loop [5, 6, 7] (.seq (.seq (.ops [⟨some 17, none, .pure (.mov), [.t 7]⟩, ⟨some 18, none, .pure (.bin .lss), [.t 17, .c (.int .i64 2)]⟩] [5, 6, 7, 18]) (.cond (.t 18) (.skip) (.exit 0))) (.seq (.block 1 (.seq (.ops [⟨some 22, none, .pure (.mov), [.t 5]⟩, ⟨some 23, none, .pure (.mov), [.t 6]⟩, ⟨some 24, none, .loud (.call 13), [.t 22, .t 23]⟩, ⟨some 21, none, .pure (.mov), [.t 24]⟩, ⟨some 25, none, .pure (.ext 0), [.t 21]⟩, ⟨some 26, none, .pure (.ext 1), [.t 21]⟩, ⟨some 8, none, .pure (.mov), [.t 25]⟩, ⟨some 9, none, .pure (.mov), [.t 26]⟩] [5, 6, 7, 8, 9]) (.seq (.seq (.ops [⟨some 27, none, .pure (.mov), [.t 9]⟩, ⟨some 28, none, .pure (.bin .neq), [.t 27, .c (.int .i64 0)]⟩, ⟨some 29, none, .pure (.mov), [.t 28]⟩, ⟨some 30, some (29, false), .pure (.mov), [.t 8]⟩, ⟨some 31, some (29, false), .pure (.len), [.t 30]⟩, ⟨some 32, some (29, false), .pure (.mov), [.t 5]⟩, ⟨some 33, some (29, false), .pure (.len), [.t 32]⟩, ⟨some 34, some (29, false), .pure (.mov), [.t 6]⟩, ⟨some 35, some (29, false), .pure (.len), [.t 34]⟩, ⟨some 36, some (29, false), .pure (.bin .add), [.t 33, .t 35]⟩, ⟨some 37, some (29, false), .pure (.bin .gtr), [.t 31, .t 36]⟩, ⟨some 38, none, .pick, [.t 29, .c (.bool true), .t 37]⟩] [5, 6, 7, 8, 38]) (.cond (.t 38) (.seq (.ops [⟨some 4, none, .pure (.mov), [.c (.bool false)]⟩] [4]) (.ret)) (.skip))) (.seq (.ops [⟨some 39, none, .pure (.mov), [.t 5]⟩, ⟨some 10, none, .pure (.mov), [.t 39]⟩] [5, 6, 7, 8, 10]) (.seq (.seq (.ops [⟨some 11, none, .pure (.mov), [.c (.int .i64 0)]⟩] [5, 6, 7, 8, 10, 11]) (.block 2 (.loop [5, 6, 7, 8, 10, 11] (.seq (.seq (.ops [⟨some 40, none, .pure (.mov), [.t 11]⟩, ⟨some 41, none, .pure (.mov), [.t 8]⟩, ⟨some 42, none, .pure (.len), [.t 41]⟩, ⟨some 43, none, .pure (.bin .lss), [.t 40, .t 42]⟩] [5, 6, 7, 8, 10, 11, 43]) (.cond (.t 43) (.skip) (.exit 2))) (.seq (.block 3 (.seq (.seq (.ops [⟨some 12, none, .pure (.mov), [.c (.int .i64 0)]⟩] [5, 6, 7, 8, 10, 11, 12]) (.block 4 (.loop [5, 6, 7, 8, 10, 11, 12] (.seq (.seq (.ops [⟨some 46, none, .pure (.mov), [.t 12]⟩, ⟨some 47, none, .pure (.mov), [.t 11]⟩, ⟨some 48, none, .pure (.bin .lss), [.t 46, .t 47]⟩] [5, 6, 7, 8, 10, 11, 12, 48]) (.cond (.t 48) (.skip) (.exit 4))) (.seq (.block 5 (.seq (.ops [⟨some 51, none, .pure (.mov), [.t 8]⟩, ⟨some 52, none, .pure (.mov), [.t 12]⟩, ⟨some 53, none, .pure (.idx 4), [.t 51, .t 52]⟩, ⟨some 54, none, .pure (.fld 1), [.t 53]⟩, ⟨some 55, none, .pure (.fld 0), [.t 54]⟩, ⟨some 57, none, .pure (.mov), [.t 8]⟩, ⟨some 58, none, .pure (.mov), [.t 11]⟩, ⟨some 59, none, .pure (.idx 4), [.t 57, .t 58]⟩, ⟨some 60, none, .pure (.fld 1), [.t 59]⟩, ⟨some 61, none, .pure (.fld 0), [.t 60]⟩, ⟨some 56, none, .load (.ld 2 true), [.t 55]⟩, ⟨some 62, none, .load (.ld 2 true), [.t 61]⟩, ⟨some 63, none, .pure (.eq2 false .u32 .i64), [.t 56, .t 62]⟩] [5, 6, 7, 8, 10, 11, 12, 63]) (.cond (.t 63) (.seq (.ops [⟨some 4, none, .pure (.mov), [.c (.bool false)]⟩] [4]) (.ret)) (.skip)))) (.ops [⟨some 49, none, .pure (.mov), [.t 12]⟩, ⟨some 50, none, .pure (.bin .add), [.t 49, .c (.int .i64 1)]⟩, ⟨some 12, none, .pure (.mov), [.t 50]⟩] [5, 6, 7, 8, 10, 11, 12])))))) (.seq (.seq (.ops [⟨some 64, none, .pure (.mov), [.t 8]⟩, ⟨some 65, none, .pure (.mov), [.t 11]⟩, ⟨some 66, none, .pure (.idx 4), [.t 64, .t 65]⟩, ⟨some 67, none, .pure (.fld 0), [.t 66]⟩, ⟨some 68, none, .load (.ld 1 false), [.t 67]⟩, ⟨some 69, none, .pure (.mov), [.t 68]⟩, ⟨some 70, some (69, true), .pure (.mov), [.t 8]⟩, ⟨some 71, some (69, true), .pure (.mov), [.t 11]⟩, ⟨some 72, some (69, true), .pure (.idx 4), [.t 70, .t 71]⟩, ⟨some 73, some (69, true), .pure (.fld 1), [.t 72]⟩, ⟨some 74, some (69, true), .pure (.fld 2), [.t 73]⟩, ⟨some 75, some (69, true), .load (.ld 1 false), [.t 74]⟩, ⟨some 76, some (69, true), .pure (.len), [.t 75]⟩, ⟨some 77, some (69, true), .pure (.bin .gtr), [.t 76, .c (.int .i64 0)]⟩, ⟨some 78, none, .pick, [.t 69, .t 77, .c (.bool false)]⟩] [5, 6, 7, 8, 10, 11, 78]) (.cond (.t 78) (.seq (.ops [⟨some 4, none, .pure (.mov), [.c (.bool false)]⟩] [4]) (.ret)) (.skip))) (.ops [⟨some 79, none, .pure (.mov), [.t 10]⟩, ⟨some 80, none, .pure (.mov), [.t 8]⟩, ⟨some 81, none, .pure (.mov), [.t 11]⟩, ⟨some 82, none, .pure (.idx 4), [.t 80, .t 81]⟩, ⟨some 83, none, .pure (.fld 0), [.t 82]⟩, ⟨some 85, none, .pure (.mov), [.t 8]⟩, ⟨some 86, none, .pure (.mov), [.t 11]⟩, ⟨some 87, none, .pure (.idx 4), [.t 85, .t 86]⟩, ⟨some 88, none, .pure (.fld 1), [.t 87]⟩, ⟨some 84, none, .load (.ld 1 false), [.t 83]⟩, ⟨some 89, none, .load (.ld 3 true), [.t 88]⟩, ⟨some 90, none, .pure (.build [(.bool false), (.int .u32 0), (.int .i64 0), .nils] [(0, 1), (1, 3)]), [.t 84, .t 89]⟩, ⟨some 91, none, .qcall 14, [.t 79, .t 90]⟩, ⟨some 10, none, .pure (.mov), [.t 91]⟩] [5, 6, 7, 8, 10, 11])))) (.ops [⟨some 44, none, .pure (.mov), [.t 11]⟩, ⟨some 45, none, .pure (.bin .add), [.t 44, .c (.int .i64 1)]⟩, ⟨some 11, none, .pure (.mov), [.t 45]⟩] [5, 6, 7, 8, 10, 11])))))) (.seq (.seq (.ops [⟨some 92, none, .pure (.mov), [.t 10]⟩, ⟨some 93, none, .pure (.mov), [.t 6]⟩, ⟨some 94, none, .loud (.call 15), [.t 92, .t 93]⟩, ⟨some 95, none, .pure (.not), [.t 94]⟩] [5, 6, 7, 95]) (.cond (.t 95) (.seq (.ops [⟨some 4, none, .pure (.mov), [.c (.bool false)]⟩] [4]) (.ret)) (.skip))) (.ops [⟨some 96, none, .pure (.mov), [.t 6]⟩, ⟨some 97, none, .pure (.mov), [.t 5]⟩, ⟨some 5, none, .pure (.mov), [.t 96]⟩, ⟨some 6, none, .pure (.mov), [.t 97]⟩] [5, 6, 7]))))))) (.ops [⟨some 19, none, .pure (.mov), [.t 7]⟩, ⟨some 20, none, .pure (.bin .add), [.t 19, .c (.int .i64 1)]⟩, ⟨some 7, none, .pure (.mov), [.t 20]⟩] [5, 6, 7])))))) (.seq (.ops [⟨some 98, none, .loud (.call 12), []⟩, ⟨some 4, none, .pure (.mov), [.t 98]⟩] [4]) (.ret))))
def F4 : Fn Try.prog 4 := Fn.mk' b4 [.t 4] 99 Try.f4 _ Try.func4 (by decide) rfl Try.ntmps4 (by kernel_rfl) (by kernel_rfl)
/-- signpost/signpostlaw26.entries -/
def b10 : BC := .seq (.ops [⟨some 2, none, .pure (.mov), [.c .nils]⟩] [0]) (.seq (.ops [⟨some 3, none, .pure (.mov), [.c .nils]⟩] [0, 3]) (.seq (.seq (.ops [⟨some 4, none, .pure (.mov), [.c (.int .i64 0)]⟩] [0, 3, 4]) (.block 0 (.loop [0, 3, 4] (.seq (.seq (.ops [⟨some 8, none, .pure (.mov), [.t 4]⟩, ⟨some 9, none, .pure (.mov), [.t 0]⟩, ⟨some 10, none, .pure (.len), [.t 9]⟩, ⟨some 11, none, .pure (.bin .lss), [.t 8, .t 10]⟩, ⟨some 12, none, .pure (.mov), [.t 11]⟩, ⟨some 13, some (12, true), .pure (.mov), [.t 4]⟩, ⟨some 14, some (12, true), .pure (.bin .lss), [.t 13, .c (.int .i64 30)]⟩, ⟨some 15, none, .pick, [.t 12, .t 14, .c (.bool false)]⟩] [0, 3, 4, 15]) (.cond (.t 15) (.skip) (.exit 0))) (.seq (.block 1 (.seq (.ops [⟨some 18, none, .pure (.mov), [.t 0]⟩, ⟨some 19, none, .pure (.mov), [.t 4]⟩, ⟨some 20, none, .pure (.idx 3), [.t 18, .t 19]⟩, ⟨some 21, none, .pure (.fld 0), [.t 20]⟩, ⟨some 23, none, .pure (.mov), [.t 0]⟩, ⟨some 24, none, .pure (.mov), [.t 4]⟩, ⟨some 25, none, .pure (.idx 3), [.t 23, .t 24]⟩, ⟨some 26, none, .pure (.fld 1), [.t 25]⟩, ⟨some 22, none, .load (.ld 1 false), [.t 21]⟩, ⟨some 27, none, .load (.ld 1 false), [.t 26]⟩, ⟨some 28, none, .qcall 31, [.t 22, .t 27]⟩, ⟨some 29, none, .pure (.build [(.int .u32 0), (.int .i64 0), .nils] [(0, 2)]), [.t 28]⟩, ⟨some 5, none, .alloc (.alloc [(.int .u32 0), (.int .i64 0), .nils]), []⟩, ⟨none, none, .loud (.st 3), [.t 5, .t 29]⟩] [0, 3, 4, 5]) (.seq (.seq (.ops [⟨some 30, none, .pure (.mov), [.t 0]⟩, ⟨some 31, none, .pure (.mov), [.t 4]⟩, ⟨some 32, none, .pure (.idx 3), [.t 30, .t 31]⟩, ⟨some 33, none, .pure (.fld 2), [.t 32]⟩, ⟨some 34, none, .load (.ld 1 false), [.t 33]⟩, ⟨some 35, none, .loud (.call 28), [.t 34, .c (.int .i64 0), .c (.int .i64 3)]⟩, ⟨some 6, none, .pure (.mov), [.t 35]⟩] [0, 3, 4, 5, 6]) (.seq (.ops [⟨some 36, none, .pure (.mov), [.t 6]⟩, ⟨some 37, none, .pure (.bin .gtr), [.t 36, .c (.int .i64 0)]⟩] [0, 3, 4, 5, 6, 37]) (.cond (.t 37) (.ops [⟨some 38, none, .pure (.mov), [.t 6]⟩, ⟨some 39, none, .pure (.build [(.int .i64 0), (.int .i64 0)] [(0, 1), (1, 1)]), [.t 38, .c (.int .i64 16)]⟩, ⟨some 40, none, .alloc (.mksl 2 1), [.t 39]⟩, ⟨some 41, none, .pure (.fld 2), [.t 5]⟩, ⟨none, none, .loud (.st 1), [.t 41, .t 40]⟩] [0, 3, 4, 5]) (.skip)))) (.seq (.ops [⟨some 7, none, .pure (.mov), [.c (.int .i64 0)]⟩] [0, 3, 4, 5, 7]) (.seq (.block 2 (.loop [0, 3, 4, 5, 7] (.seq (.seq (.ops [⟨some 42, none, .pure (.mov), [.t 7]⟩, ⟨some 43, none, .pure (.mov), [.t 3]⟩, ⟨some 44, none, .pure (.len), [.t 43]⟩, ⟨some 45, none, .pure (.bin .lss), [.t 42, .t 44]⟩, ⟨some 46, none, .pure (.mov), [.t 45]⟩, ⟨some 47, some (46, true), .pure (.mov), [.t 3]⟩, ⟨some 48, some (46, true), .pure (.mov), [.t 7]⟩, ⟨some 49, some (46, true), .pure (.idx 3), [.t 47, .t 48]⟩, ⟨some 50, some (46, true), .pure (.fld 0), [.t 49]⟩, ⟨some 52, some (46, true), .pure (.fld 0), [.t 5]⟩, ⟨some 51, some (46, true), .load (.ld 2 true), [.t 50]⟩, ⟨some 53, some (46, true), .load (.ld 2 true), [.t 52]⟩, ⟨some 54, some (46, true), .pure (.eq2 true .u32 .i64), [.t 51, .t 53]⟩, ⟨some 55, none, .pick, [.t 46, .t 54, .c (.bool false)]⟩] [0, 3, 4, 5, 7, 55]) (.cond (.t 55) (.skip) (.exit 2))) (.block 3 (.ops [⟨some 56, none, .pure (.mov), [.t 7]⟩, ⟨some 57, none, .pure (.bin .add), [.t 56, .c (.int .i64 1)]⟩, ⟨some 7, none, .pure (.mov), [.t 57]⟩] [0, 3, 4, 5, 7]))))) (.seq (.ops [⟨some 58, none, .pure (.mov), [.t 7]⟩, ⟨some 59, none, .pure (.mov), [.t 3]⟩, ⟨some 60, none, .pure (.len), [.t 59]⟩, ⟨some 61, none, .pure (.bin .eql), [.t 58, .t 60]⟩] [0, 3, 4, 5, 61]) (.cond (.t 61) (.ops [⟨some 62, none, .pure (.mov), [.t 3]⟩, ⟨some 63, none, .load (.ld 3 true), [.t 5]⟩, ⟨some 64, none, .pure (.build [(.bool false), (.int .u32 0), (.int .i64 0), .nils] [(1, 3)]), [.t 63]⟩, ⟨some 65, none, .loud (.call 14), [.t 62, .t 64]⟩, ⟨some 3, none, .pure (.mov), [.t 65]⟩] [0, 3, 4]) (.skip)))))))) (.ops [⟨some 16, none, .pure (.mov), [.t 4]⟩, ⟨some 17, none, .pure (.bin .add), [.t 16, .c (.int .i64 1)]⟩, ⟨some 4, none, .pure (.mov), [.t 17]⟩] [0, 3, 4])))))) (.seq (.ops [⟨some 66, none, .pure (.mov), [.t 3]⟩, ⟨some 2, none, .pure (.mov), [.t 66]⟩] [2]) (.ret))))
def F10 : Fn Try.prog 10 := Fn.mk' b10 [.t 2] 67 Try.f10 _ Try.func10 (by decide) rfl Try.ntmps10 (by kernel_rfl) (by kernel_rfl)
/-- signpost/signpostlaw26.same -/
def b11 : BC := .seq (.ops [⟨some 4, none, .pure (.mov), [.c (.bool false)]⟩] [0, 1]) (.seq (.ops [⟨some 11, none, .pure (.mov), [.t 0]⟩, ⟨some 12, none, .pure (.mov), [.t 1]⟩, ⟨some 13, none, .loud (.call 13), [.t 11, .t 12]⟩, ⟨some 10, none, .pure (.mov), [.t 13]⟩, ⟨some 14, none, .pure (.ext 0), [.t 10]⟩, ⟨some 15, none, .pure (.ext 1), [.t 10]⟩, ⟨some 5, none, .pure (.mov), [.t 14]⟩, ⟨some 6, none, .pure (.mov), [.t 15]⟩] [0, 1, 5, 6]) (.seq (.ops [⟨some 17, none, .pure (.mov), [.t 0]⟩, ⟨some 18, none, .pure (.mov), [.t 1]⟩, ⟨some 19, none, .loud (.call 32), [.t 17, .t 18]⟩, ⟨some 16, none, .pure (.mov), [.t 19]⟩, ⟨some 20, none, .pure (.ext 0), [.t 16]⟩, ⟨some 21, none, .pure (.ext 1), [.t 16]⟩, ⟨some 7, none, .pure (.mov), [.t 20]⟩, ⟨some 8, none, .pure (.mov), [.t 21]⟩] [5, 6, 7, 8]) (.seq (.seq (.ops [⟨some 22, none, .pure (.mov), [.t 5]⟩, ⟨some 23, none, .pure (.len), [.t 22]⟩, ⟨some 24, none, .pure (.mov), [.t 7]⟩, ⟨some 25, none, .pure (.len), [.t 24]⟩, ⟨some 26, none, .pure (.bin .neq), [.t 23, .t 25]⟩, ⟨some 27, none, .pure (.mov), [.t 26]⟩, ⟨some 28, some (27, false), .pure (.mov), [.t 6]⟩, ⟨some 29, some (27, false), .pure (.mov), [.t 8]⟩, ⟨some 30, some (27, false), .pure (.bin .neq), [.t 28, .t 29]⟩, ⟨some 31, none, .pick, [.t 27, .c (.bool true), .t 30]⟩] [5, 7, 31]) (.cond (.t 31) (.seq (.ops [⟨some 4, none, .pure (.mov), [.c (.bool false)]⟩] [4]) (.ret)) (.skip))) (.seq (.seq (.ops [⟨some 9, none, .pure (.mov), [.c (.int .i64 0)]⟩] [5, 7, 9]) (.block 0 (.loop [5, 7, 9] (.seq (.seq (.ops [⟨some 32, none, .pure (.mov), [.t 9]⟩, ⟨some 33, none, .pure (.mov), [.t 5]⟩, ⟨some 34, none, .pure (.len), [.t 33]⟩, ⟨some 35, none, .pure (.bin .lss), [.t 32, .t 34]⟩] [5, 7, 9, 35]) (.cond (.t 35) (.skip) (.exit 0))) (.seq (.block 1 (.seq (.ops [⟨some 38, none, .pure (.mov), [.t 5]⟩, ⟨some 39, none, .pure (.mov), [.t 9]⟩, ⟨some 40, none, .pure (.idx 4), [.t 38, .t 39]⟩, ⟨some 42, none, .pure (.mov), [.t 7]⟩, ⟨some 43, none, .pure (.mov), [.t 9]⟩, ⟨some 44, none, .pure (.idx 4), [.t 42, .t 43]⟩, ⟨some 41, none, .load (.ld 4 true), [.t 40]⟩, ⟨some 45, none, .load (.ld 4 true), [.t 44]⟩, ⟨some 46, none, .qcall 33, [.t 41, .t 45]⟩, ⟨some 47, none, .pure (.not), [.t 46]⟩] [5, 7, 9, 47]) (.cond (.t 47) (.seq (.ops [⟨some 4, none, .pure (.mov), [.c (.bool false)]⟩] [4]) (.ret)) (.skip)))) (.ops [⟨some 36, none, .pure (.mov), [.t 9]⟩, ⟨some 37, none, .pure (.bin .add), [.t 36, .c (.int .i64 1)]⟩, ⟨some 9, none, .pure (.mov), [.t 37]⟩] [5, 7, 9])))))) (.seq (.ops [⟨some 4, none, .pure (.mov), [.c (.bool true)]⟩] [4]) (.ret))))))
def F11 : Fn Try.prog 11 := Fn.mk' b11 [.t 4] 48 Try.f11 _ Try.func11 (by decide) rfl Try.ntmps11 (by kernel_rfl) (by kernel_rfl)
/-- signpost/signpostlaw26.known -/
def b12 : BC := .seq (.ops [⟨some 0, none, .pure (.mov), [.c (.bool false)]⟩] []) (.seq (.ops [⟨some 5, none, .pure (.build [(.int .i64 0), (.int .i64 0)] [(0, 1), (1, 1)]), [.c (.int .i64 1), .c (.int .i64 16)]⟩, ⟨some 6, none, .alloc (.mksl 2 1), [.t 5]⟩, ⟨some 7, none, .pure (.build [(.int .i64 0), (.int .i64 0)] [(0, 1), (1, 1)]), [.c (.int .i64 2), .c (.int .i64 16)]⟩, ⟨some 8, none, .alloc (.mksl 2 1), [.t 7]⟩, ⟨some 1, none, .pure (.mov), [.t 6]⟩, ⟨some 2, none, .pure (.mov), [.t 8]⟩] [1, 2]) (.seq (.ops [⟨some 10, none, .loud (.call 34), [.c (.int .u32 167772160), .c (.int .i64 8)]⟩, ⟨some 11, none, .pure (.mov), [.t 1]⟩, ⟨some 12, none, .pure (.build [(.int .u32 0), (.int .i64 0), .nils] [(0, 2), (2, 1)]), [.t 10, .t 11]⟩, ⟨some 13, none, .alloc (.mksl 3 1), [.t 12]⟩, ⟨some 14, none, .loud (.call 34), [.c (.int .u32 167772160), .c (.int .i64 9)]⟩, ⟨some 15, none, .pure (.mov), [.t 1]⟩, ⟨some 16, none, .pure (.build [(.int .u32 0), (.int .i64 0), .nils] [(0, 2), (2, 1)]), [.t 14, .t 15]⟩, ⟨some 17, none, .loud (.call 34), [.c (.int .u32 176160768), .c (.int .i64 9)]⟩, ⟨some 18, none, .pure (.mov), [.t 2]⟩, ⟨some 19, none, .pure (.build [(.int .u32 0), (.int .i64 0), .nils] [(0, 2), (2, 1)]), [.t 17, .t 18]⟩, ⟨some 20, none, .alloc (.mksl 3 2), [.t 16, .t 19]⟩, ⟨some 21, none, .loud (.call 13), [.t 13, .t 20]⟩, ⟨some 9, none, .pure (.mov), [.t 21]⟩, ⟨some 22, none, .pure (.ext 0), [.t 9]⟩, ⟨some 23, none, .pure (.ext 1), [.t 9]⟩, ⟨some 3, none, .pure (.mov), [.t 22]⟩, ⟨some 4, none, .pure (.mov), [.t 23]⟩] [3, 4]) (.seq (.ops [⟨some 24, none, .pure (.mov), [.t 4]⟩, ⟨some 25, none, .pure (.bin .eql), [.t 24, .c (.int .i64 0)]⟩, ⟨some 26, none, .pure (.mov), [.t 25]⟩, ⟨some 27, some (26, true), .pure (.mov), [.t 3]⟩, ⟨some 28, some (26, true), .pure (.len), [.t 27]⟩, ⟨some 29, some (26, true), .pure (.bin .eql), [.t 28, .c (.int .i64 3)]⟩, ⟨some 30, none, .pick, [.t 26, .t 29, .c (.bool false)]⟩, ⟨some 31, none, .pure (.mov), [.t 30]⟩, ⟨some 32, some (31, true), .pure (.mov), [.t 3]⟩, ⟨some 33, some (31, true), .pure (.idx 4), [.t 32, .c (.int .i64 0)]⟩, ⟨some 34, some (31, true), .pure (.fld 0), [.t 33]⟩, ⟨some 35, some (31, true), .load (.ld 1 false), [.t 34]⟩, ⟨some 36, some (31, true), .pure (.not), [.t 35]⟩, ⟨some 37, none, .pick, [.t 31, .t 36, .c (.bool false)]⟩, ⟨some 38, none, .pure (.mov), [.t 37]⟩, ⟨some 39, some (38, true), .pure (.mov), [.t 3]⟩, ⟨some 40, some (38, true), .pure (.idx 4), [.t 39, .c (.int .i64 0)]⟩, ⟨some 41, some (38, true), .pure (.fld 1), [.t 40]⟩, ⟨some 42, some (38, true), .pure (.fld 0), [.t 41]⟩, ⟨some 43, some (38, true), .load (.ld 2 true), [.t 42]⟩, ⟨some 44, some (38, true), .qcall 34, [.c (.int .u32 167772160), .c (.int .i64 9)]⟩, ⟨some 45, some (38, true), .pure (.eq2 false .u32 .i64), [.t 43, .t 44]⟩, ⟨some 46, none, .pick, [.t 38, .t 45, .c (.bool false)]⟩, ⟨some 47, none, .pure (.mov), [.t 46]⟩, ⟨some 48, some (47, true), .pure (.mov), [.t 3]⟩, ⟨some 49, some (47, true), .pure (.idx 4), [.t 48, .c (.int .i64 1)]⟩, ⟨some 50, some (47, true), .pure (.fld 0), [.t 49]⟩, ⟨some 51, some (47, true), .load (.ld 1 false), [.t 50]⟩, ⟨some 52, some (47, true), .pure (.not), [.t 51]⟩, ⟨some 53, none, .pick, [.t 47, .t 52, .c (.bool false)]⟩, ⟨some 54, none, .pure (.mov), [.t 53]⟩, ⟨some 55, some (54, true), .pure (.mov), [.t 3]⟩, ⟨some 56, some (54, true), .pure (.idx 4), [.t 55, .c (.int .i64 2)]⟩, ⟨some 57, some (54, true), .pure (.fld 0), [.t 56]⟩, ⟨some 58, some (54, true), .load (.ld 1 false), [.t 57]⟩, ⟨some 59, none, .pick, [.t 54, .t 58, .c (.bool false)]⟩, ⟨some 60, none, .pure (.mov), [.t 59]⟩, ⟨some 61, some (60, true), .pure (.mov), [.t 3]⟩, ⟨some 62, some (60, true), .pure (.idx 4), [.t 61, .c (.int .i64 2)]⟩, ⟨some 63, some (60, true), .pure (.fld 1), [.t 62]⟩, ⟨some 64, some (60, true), .pure (.fld 0), [.t 63]⟩, ⟨some 65, some (60, true), .load (.ld 2 true), [.t 64]⟩, ⟨some 66, some (60, true), .qcall 34, [.c (.int .u32 167772160), .c (.int .i64 8)]⟩, ⟨some 67, some (60, true), .pure (.eq2 false .u32 .i64), [.t 65, .t 66]⟩, ⟨some 68, none, .pick, [.t 60, .t 67, .c (.bool false)]⟩, ⟨some 0, none, .pure (.mov), [.t 68]⟩] [0]) (.ret))))
def F12 : Fn Try.prog 12 := Fn.mk' b12 [.t 0] 69 Try.f12 _ Try.func12 (by decide) rfl Try.ntmps12 (by kernel_rfl) (by kernel_rfl)
/-- signpost/download.Plan -/
def b13 : BC := .seq (.ops [⟨some 4, none, .pure (.mov), [.c .nils]⟩, ⟨some 5, none, .pure (.mov), [.c (.int .i64 0)]⟩] [0, 1]) (.seq (.seq (.ops [⟨some 18, none, .pure (.mov), [.t 0]⟩, ⟨some 19, none, .loud (.call 35), [.t 18]⟩, ⟨some 20, none, .pure (.not), [.t 19]⟩, ⟨some 21, none, .pure (.mov), [.t 20]⟩, ⟨some 22, some (21, false), .pure (.mov), [.t 1]⟩, ⟨some 23, some (21, false), .loud (.call 35), [.t 22]⟩, ⟨some 24, some (21, false), .pure (.not), [.t 23]⟩, ⟨some 25, none, .pick, [.t 21, .c (.bool true), .t 24]⟩] [0, 1, 25]) (.cond (.t 25) (.seq (.ops [⟨some 4, none, .pure (.mov), [.c .nils]⟩, ⟨some 5, none, .pure (.mov), [.c (.int .i64 12)]⟩] [4, 5]) (.ret)) (.skip))) (.seq (.ops [⟨some 26, none, .pure (.mov), [.t 0]⟩, ⟨some 27, none, .loud (.call 36), [.t 26]⟩, ⟨some 28, none, .pure (.mov), [.t 1]⟩, ⟨some 29, none, .loud (.call 36), [.t 28]⟩, ⟨some 6, none, .pure (.mov), [.t 27]⟩, ⟨some 7, none, .pure (.mov), [.t 29]⟩] [0, 1, 6, 7]) (.seq (.ops [⟨some 8, none, .pure (.mov), [.c .nils]⟩, ⟨some 9, none, .pure (.mov), [.c .nils]⟩] [0, 1, 6, 7, 8, 9]) (.seq (.seq (.ops [⟨some 30, none, .pure (.mov), [.t 1]⟩, ⟨some 31, none, .pure (.len), [.t 30]⟩, ⟨some 32, none, .pure (.mov), [.c (.int .i64 0)]⟩] [0, 6, 7, 8, 9, 30, 31, 32]) (.block 0 (.loop [0, 6, 7, 8, 9, 30, 31, 32] (.seq (.ops [⟨some 33, none, .pure (.bin .lss), [.t 32, .t 31]⟩] [0, 6, 7, 8, 9, 30, 31, 32, 33]) (.seq (.cond (.t 33) (.skip) (.exit 0)) (.seq (.block 1 (.seq (.ops [⟨some 34, none, .pure (.idx 3), [.t 30, .t 32]⟩, ⟨some 35, none, .load (.ld 3 true), [.t 34]⟩, ⟨some 11, none, .alloc (.alloc [(.int .u32 0), (.int .i64 0), .nils]), []⟩, ⟨none, none, .loud (.st 3), [.t 11, .t 35]⟩] [0, 6, 7, 8, 9, 11, 30, 31, 32]) (.seq (.ops [⟨some 37, none, .pure (.mov), [.t 6]⟩, ⟨some 38, none, .pure (.fld 0), [.t 11]⟩, ⟨some 39, none, .load (.ld 2 true), [.t 38]⟩, ⟨some 40, none, .load (.look true (.two .u32 .i64) .nils), [.t 37, .t 39]⟩, ⟨some 36, none, .pure (.mov), [.t 40]⟩, ⟨some 41, none, .pure (.ext 0), [.t 36]⟩, ⟨some 42, none, .pure (.ext 1), [.t 36]⟩, ⟨some 12, none, .pure (.mov), [.t 41]⟩, ⟨some 13, none, .pure (.mov), [.t 42]⟩] [0, 6, 7, 8, 9, 11, 12, 13, 30, 31, 32]) (.seq (.ops [⟨some 43, none, .pure (.mov), [.t 13]⟩, ⟨some 44, none, .pure (.not), [.t 43]⟩, ⟨some 45, none, .pure (.mov), [.t 44]⟩, ⟨some 46, some (45, false), .pure (.mov), [.t 12]⟩, ⟨some 47, some (45, false), .pure (.fld 2), [.t 11]⟩, ⟨some 48, some (45, false), .load (.ld 1 false), [.t 47]⟩, ⟨some 49, some (45, false), .loud (.call 37), [.t 46, .t 48]⟩, ⟨some 50, some (45, false), .pure (.not), [.t 49]⟩, ⟨some 51, none, .pick, [.t 45, .c (.bool true), .t 50]⟩] [0, 6, 7, 8, 9, 11, 30, 31, 32, 51]) (.cond (.t 51) (.ops [⟨some 52, none, .pure (.mov), [.t 8]⟩, ⟨some 53, none, .pure (.fld 0), [.t 11]⟩, ⟨some 55, none, .pure (.fld 2), [.t 11]⟩, ⟨some 54, none, .load (.ld 2 true), [.t 53]⟩, ⟨some 56, none, .load (.ld 1 false), [.t 55]⟩, ⟨some 57, none, .qcall 38, [.t 56]⟩, ⟨some 58, none, .pure (.build [(.int .u32 0), (.int .i64 0), .nils] [(0, 2), (2, 1)]), [.t 54, .t 57]⟩, ⟨some 59, none, .pure (.build [(.bool false), (.int .u32 0), (.int .i64 0), .nils] [(1, 3)]), [.t 58]⟩, ⟨some 60, none, .alloc (.mksl 4 1), [.t 59]⟩, ⟨some 61, none, .loud (.app 4 48), [.t 52, .t 60]⟩, ⟨some 8, none, .pure (.mov), [.t 61]⟩] [0, 6, 7, 8, 9, 30, 31, 32]) (.skip)))))) (.ops [⟨some 62, none, .pure (.bin .add), [.t 32, .c (.int .i64 1)]⟩, ⟨some 32, none, .pure (.mov), [.t 62]⟩] [0, 6, 7, 8, 9, 30, 31, 32]))))))) (.seq (.seq (.ops [⟨some 63, none, .pure (.mov), [.t 0]⟩, ⟨some 64, none, .pure (.len), [.t 63]⟩, ⟨some 65, none, .pure (.mov), [.c (.int .i64 0)]⟩] [7, 8, 9, 63, 64, 65]) (.block 2 (.loop [7, 8, 9, 63, 64, 65] (.seq (.ops [⟨some 66, none, .pure (.bin .lss), [.t 65, .t 64]⟩] [7, 8, 9, 63, 64, 65, 66]) (.seq (.cond (.t 66) (.skip) (.exit 2)) (.seq (.block 3 (.seq (.ops [⟨some 67, none, .pure (.idx 3), [.t 63, .t 65]⟩, ⟨some 68, none, .load (.ld 3 true), [.t 67]⟩, ⟨some 15, none, .alloc (.alloc [(.int .u32 0), (.int .i64 0), .nils]), []⟩, ⟨none, none, .loud (.st 3), [.t 15, .t 68]⟩] [7, 8, 9, 15, 63, 64, 65]) (.seq (.ops [⟨some 70, none, .pure (.mov), [.t 7]⟩, ⟨some 71, none, .pure (.fld 0), [.t 15]⟩, ⟨some 72, none, .load (.ld 2 true), [.t 71]⟩, ⟨some 73, none, .load (.look true (.two .u32 .i64) .nils), [.t 70, .t 72]⟩, ⟨some 69, none, .pure (.mov), [.t 73]⟩, ⟨some 74, none, .pure (.ext 0), [.t 69]⟩, ⟨some 75, none, .pure (.ext 1), [.t 69]⟩, ⟨some 16, none, .pure (.mov), [.t 74]⟩, ⟨some 17, none, .pure (.mov), [.t 75]⟩] [7, 8, 9, 15, 17, 63, 64, 65]) (.seq (.ops [⟨some 76, none, .pure (.mov), [.t 17]⟩, ⟨some 77, none, .pure (.not), [.t 76]⟩] [7, 8, 9, 15, 63, 64, 65, 77]) (.cond (.t 77) (.ops [⟨some 78, none, .pure (.mov), [.t 9]⟩, ⟨some 79, none, .pure (.fld 0), [.t 15]⟩, ⟨some 80, none, .load (.ld 2 true), [.t 79]⟩, ⟨some 81, none, .pure (.build [(.int .u32 0), (.int .i64 0), .nils] [(0, 2)]), [.t 80]⟩, ⟨some 82, none, .pure (.build [(.bool false), (.int .u32 0), (.int .i64 0), .nils] [(0, 1), (1, 3)]), [.c (.bool true), .t 81]⟩, ⟨some 83, none, .alloc (.mksl 4 1), [.t 82]⟩, ⟨some 84, none, .loud (.app 4 48), [.t 78, .t 83]⟩, ⟨some 9, none, .pure (.mov), [.t 84]⟩] [7, 8, 9, 63, 64, 65]) (.skip)))))) (.ops [⟨some 85, none, .pure (.bin .add), [.t 65, .c (.int .i64 1)]⟩, ⟨some 65, none, .pure (.mov), [.t 85]⟩] [7, 8, 9, 63, 64, 65]))))))) (.seq (.ops [⟨some 86, none, .pure (.mov), [.t 8]⟩, ⟨some 87, none, .loud (.call 39), [.t 86, .c (.fn 40 [])]⟩] [8, 9]) (.seq (.ops [⟨some 88, none, .pure (.mov), [.t 9]⟩, ⟨some 89, none, .loud (.call 39), [.t 88, .c (.fn 44 [])]⟩] [8, 9]) (.seq (.ops [⟨some 90, none, .pure (.mov), [.t 8]⟩, ⟨some 91, none, .pure (.mov), [.t 9]⟩, ⟨some 92, none, .alloc (.mksl 1 2), [.t 90, .t 91]⟩, ⟨some 93, none, .loud (.call 45), [.t 92]⟩, ⟨some 4, none, .pure (.mov), [.t 93]⟩, ⟨some 5, none, .pure (.mov), [.c (.int .i64 0)]⟩] [4, 5]) (.ret)))))))))
def F13 : Fn Try.prog 13 := Fn.mk' b13 [.t 4, .t 5] 94 Try.f13 _ Try.func13 (by decide) rfl Try.ntmps13 (by kernel_rfl) (by kernel_rfl)
/-- signpost/signpostref26.Do -/
def b14 : BC := .seq (.ops [⟨some 3, none, .alloc (.box), [.t 1]⟩, ⟨some 4, none, .pure (.mov), [.c .nils]⟩] [0, 3]) (.seq (.ops [⟨some 5, none, .pure (.mov), [.c .nils]⟩] [0, 3, 5]) (.seq (.ops [⟨some 8, none, .pure (.fld 0), [.t 3]⟩, ⟨some 9, none, .load (.ld 1 false), [.t 8]⟩, ⟨some 6, none, .pure (.mov), [.t 9]⟩] [0, 3, 5, 6]) (.seq (.seq (.ops [⟨some 7, none, .pure (.mov), [.c (.int .i64 0)]⟩] [0, 3, 5, 6, 7]) (.block 0 (.loop [0, 3, 5, 6, 7] (.seq (.seq (.ops [⟨some 10, none, .pure (.mov), [.t 7]⟩, ⟨some 11, none, .pure (.mov), [.t 0]⟩, ⟨some 12, none, .pure (.len), [.t 11]⟩, ⟨some 13, none, .pure (.bin .lss), [.t 10, .t 12]⟩] [0, 3, 5, 6, 7, 13]) (.cond (.t 13) (.skip) (.exit 0))) (.seq (.block 1 (.seq (.seq (.ops [⟨some 16, none, .pure (.mov), [.t 6]⟩, ⟨some 17, none, .pure (.not), [.t 16]⟩, ⟨some 18, none, .pure (.mov), [.t 17]⟩, ⟨some 19, some (18, true), .pure (.fld 1), [.t 3]⟩, ⟨some 20, some (18, true), .pure (.fld 0), [.t 19]⟩, ⟨some 22, some (18, true), .pure (.mov), [.t 0]⟩, ⟨some 23, some (18, true), .pure (.mov), [.t 7]⟩, ⟨some 24, some (18, true), .pure (.idx 3), [.t 22, .t 23]⟩, ⟨some 25, some (18, true), .pure (.fld 0), [.t 24]⟩, ⟨some 21, some (18, true), .load (.ld 2 true), [.t 20]⟩, ⟨some 26, some (18, true), .load (.ld 2 true), [.t 25]⟩, ⟨some 27, some (18, true), .qcall 16, [.t 21, .t 26]⟩, ⟨some 28, none, .pick, [.t 18, .t 27, .c (.bool false)]⟩] [0, 3, 5, 6, 7, 28]) (.cond (.t 28) (.seq (.ops [⟨some 29, none, .pure (.mov), [.t 5]⟩, ⟨some 30, none, .pure (.fld 1), [.t 3]⟩, ⟨some 31, none, .load (.ld 3 true), [.t 30]⟩, ⟨some 32, none, .alloc (.mksl 3 1), [.t 31]⟩, ⟨some 33, none, .loud (.app 3 40), [.t 29, .t 32]⟩, ⟨some 5, none, .pure (.mov), [.t 33]⟩] [0, 3, 5, 7]) (.ops [⟨some 6, none, .pure (.mov), [.c (.bool true)]⟩] [0, 3, 5, 6, 7])) (.skip))) (.seq (.ops [⟨some 34, none, .pure (.mov), [.t 0]⟩, ⟨some 35, none, .pure (.mov), [.t 7]⟩, ⟨some 36, none, .pure (.idx 3), [.t 34, .t 35]⟩, ⟨some 37, none, .pure (.fld 0), [.t 36]⟩, ⟨some 39, none, .pure (.fld 1), [.t 3]⟩, ⟨some 40, none, .pure (.fld 0), [.t 39]⟩, ⟨some 38, none, .load (.ld 2 true), [.t 37]⟩, ⟨some 41, none, .load (.ld 2 true), [.t 40]⟩, ⟨some 42, none, .pure (.eq2 true .u32 .i64), [.t 38, .t 41]⟩] [0, 3, 5, 6, 7, 42]) (.cond (.t 42) (.ops [⟨some 43, none, .pure (.mov), [.t 5]⟩, ⟨some 44, none, .pure (.mov), [.t 0]⟩, ⟨some 45, none, .pure (.mov), [.t 7]⟩, ⟨some 46, none, .pure (.idx 3), [.t 44, .t 45]⟩, ⟨some 47, none, .load (.ld 3 true), [.t 46]⟩, ⟨some 48, none, .alloc (.mksl 3 1), [.t 47]⟩, ⟨some 49, none, .loud (.app 3 40), [.t 43, .t 48]⟩, ⟨some 5, none, .pure (.mov), [.t 49]⟩] [0, 3, 5, 6, 7]) (.skip))))) (.ops [⟨some 14, none, .pure (.mov), [.t 7]⟩, ⟨some 15, none, .pure (.bin .add), [.t 14, .c (.int .i64 1)]⟩, ⟨some 7, none, .pure (.mov), [.t 15]⟩] [0, 3, 5, 6, 7])))))) (.seq (.seq (.ops [⟨some 50, none, .pure (.mov), [.t 6]⟩, ⟨some 51, none, .pure (.not), [.t 50]⟩] [3, 5, 51]) (.cond (.t 51) (.ops [⟨some 52, none, .pure (.mov), [.t 5]⟩, ⟨some 53, none, .pure (.fld 1), [.t 3]⟩, ⟨some 54, none, .load (.ld 3 true), [.t 53]⟩, ⟨some 55, none, .alloc (.mksl 3 1), [.t 54]⟩, ⟨some 56, none, .loud (.app 3 40), [.t 52, .t 55]⟩, ⟨some 5, none, .pure (.mov), [.t 56]⟩] [5]) (.skip))) (.seq (.ops [⟨some 57, none, .pure (.mov), [.t 5]⟩, ⟨some 4, none, .pure (.mov), [.t 57]⟩] [4]) (.ret))))))
def F14 : Fn Try.prog 14 := Fn.mk' b14 [.t 4] 58 Try.f14 _ Try.func14 (by decide) rfl Try.ntmps14 (by kernel_rfl) (by kernel_rfl)
/-- signpost/signpostkeep.Entries -/
def b15 : BC := .seq (.ops [⟨some 4, none, .pure (.mov), [.c (.bool false)]⟩] [0, 1]) (.seq (.seq (.ops [⟨some 6, none, .pure (.mov), [.t 0]⟩, ⟨some 7, none, .pure (.len), [.t 6]⟩, ⟨some 8, none, .pure (.mov), [.t 1]⟩, ⟨some 9, none, .pure (.len), [.t 8]⟩, ⟨some 10, none, .pure (.bin .neq), [.t 7, .t 9]⟩] [0, 1, 10]) (.cond (.t 10) (.seq (.ops [⟨some 4, none, .pure (.mov), [.c (.bool false)]⟩] [4]) (.ret)) (.skip))) (.seq (.seq (.ops [⟨some 5, none, .pure (.mov), [.c (.int .i64 0)]⟩] [0, 1, 5]) (.block 0 (.loop [0, 1, 5] (.seq (.seq (.ops [⟨some 11, none, .pure (.mov), [.t 5]⟩, ⟨some 12, none, .pure (.mov), [.t 0]⟩, ⟨some 13, none, .pure (.len), [.t 12]⟩, ⟨some 14, none, .pure (.bin .lss), [.t 11, .t 13]⟩] [0, 1, 5, 14]) (.cond (.t 14) (.skip) (.exit 0))) (.seq (.block 1 (.seq (.ops [⟨some 17, none, .pure (.mov), [.t 0]⟩, ⟨some 18, none, .pure (.mov), [.t 5]⟩, ⟨some 19, none, .pure (.idx 3), [.t 17, .t 18]⟩, ⟨some 20, none, .pure (.fld 0), [.t 19]⟩, ⟨some 22, none, .pure (.mov), [.t 1]⟩, ⟨some 23, none, .pure (.mov), [.t 5]⟩, ⟨some 24, none, .pure (.idx 3), [.t 22, .t 23]⟩, ⟨some 25, none, .pure (.fld 0), [.t 24]⟩, ⟨some 21, none, .load (.ld 2 true), [.t 20]⟩, ⟨some 26, none, .load (.ld 2 true), [.t 25]⟩, ⟨some 27, none, .pure (.eq2 true .u32 .i64), [.t 21, .t 26]⟩, ⟨some 28, none, .pure (.mov), [.t 27]⟩, ⟨some 29, some (28, false), .pure (.mov), [.t 0]⟩, ⟨some 30, some (28, false), .pure (.mov), [.t 5]⟩, ⟨some 31, some (28, false), .pure (.idx 3), [.t 29, .t 30]⟩, ⟨some 32, some (28, false), .pure (.fld 2), [.t 31]⟩, ⟨some 34, some (28, false), .pure (.mov), [.t 1]⟩, ⟨some 35, some (28, false), .pure (.mov), [.t 5]⟩, ⟨some 36, some (28, false), .pure (.idx 3), [.t 34, .t 35]⟩, ⟨some 37, some (28, false), .pure (.fld 2), [.t 36]⟩, ⟨some 33, some (28, false), .load (.ld 1 false), [.t 32]⟩, ⟨some 38, some (28, false), .load (.ld 1 false), [.t 37]⟩, ⟨some 39, some (28, false), .qcall 25, [.t 33, .t 38]⟩, ⟨some 40, some (28, false), .pure (.not), [.t 39]⟩, ⟨some 41, none, .pick, [.t 28, .c (.bool true), .t 40]⟩] [0, 1, 5, 41]) (.cond (.t 41) (.seq (.ops [⟨some 4, none, .pure (.mov), [.c (.bool false)]⟩] [4]) (.ret)) (.skip)))) (.ops [⟨some 15, none, .pure (.mov), [.t 5]⟩, ⟨some 16, none, .pure (.bin .add), [.t 15, .c (.int .i64 1)]⟩, ⟨some 5, none, .pure (.mov), [.t 16]⟩] [0, 1, 5])))))) (.seq (.ops [⟨some 4, none, .pure (.mov), [.c (.bool true)]⟩] [4]) (.ret))))
def F15 : Fn Try.prog 15 := Fn.mk' b15 [.t 4] 42 Try.f15 _ Try.func15 (by decide) rfl Try.ntmps15 (by kernel_rfl) (by kernel_rfl)
/-- signpost/signpostref1.Less -/
def b16 : BC := .seq (.ops [⟨some 2, none, .alloc (.box), [.t 0]⟩, ⟨some 3, none, .alloc (.box), [.t 1]⟩, ⟨some 4, none, .pure (.mov), [.c (.bool false)]⟩] [2, 3]) (.seq (.seq (.ops [⟨some 5, none, .load (.ld 2 true), [.t 2]⟩, ⟨some 6, none, .loud (.call 46), [.t 5]⟩, ⟨some 7, none, .pure (.not), [.t 6]⟩, ⟨some 8, none, .pure (.mov), [.t 7]⟩, ⟨some 9, some (8, false), .load (.ld 2 true), [.t 3]⟩, ⟨some 10, some (8, false), .loud (.call 46), [.t 9]⟩, ⟨some 11, some (8, false), .pure (.not), [.t 10]⟩, ⟨some 12, none, .pick, [.t 8, .c (.bool true), .t 11]⟩] [2, 3, 12]) (.cond (.t 12) (.seq (.ops [⟨some 4, none, .pure (.mov), [.c (.bool false)]⟩] [4]) (.ret)) (.skip))) (.seq (.ops [⟨some 13, none, .pure (.fld 0), [.t 2]⟩, ⟨some 14, none, .load (.ld 1 false), [.t 13]⟩, ⟨some 15, none, .pure (.fld 0), [.t 3]⟩, ⟨some 16, none, .load (.ld 1 false), [.t 15]⟩, ⟨some 17, none, .pure (.bin .lss), [.t 14, .t 16]⟩, ⟨some 18, none, .pure (.mov), [.t 17]⟩, ⟨some 19, some (18, false), .pure (.fld 0), [.t 2]⟩, ⟨some 20, some (18, false), .load (.ld 1 false), [.t 19]⟩, ⟨some 21, some (18, false), .pure (.fld 0), [.t 3]⟩, ⟨some 22, some (18, false), .load (.ld 1 false), [.t 21]⟩, ⟨some 23, some (18, false), .pure (.bin .eql), [.t 20, .t 22]⟩, ⟨some 24, some (18, false), .pure (.mov), [.t 23]⟩, ⟨some 25, some (24, true), .pure (.fld 1), [.t 2]⟩, ⟨some 26, some (24, true), .load (.ld 1 false), [.t 25]⟩, ⟨some 27, some (24, true), .pure (.fld 1), [.t 3]⟩, ⟨some 28, some (24, true), .load (.ld 1 false), [.t 27]⟩, ⟨some 29, some (24, true), .pure (.bin .lss), [.t 26, .t 28]⟩, ⟨some 30, some (18, false), .pick, [.t 24, .t 29, .c (.bool false)]⟩, ⟨some 31, none, .pick, [.t 18, .c (.bool true), .t 30]⟩, ⟨some 4, none, .pure (.mov), [.t 31]⟩] [4]) (.ret)))
def F16 : Fn Try.prog 16 := Fn.mk' b16 [.t 4] 32 Try.f16 _ Try.func16 (by decide) rfl Try.ntmps16 (by kernel_rfl) (by kernel_rfl)
/-- signpost/signpostref18.Same -/
def b25 : BC := .seq (.ops [⟨some 4, none, .pure (.mov), [.c (.bool false)]⟩] [0, 1]) (.seq (.seq (.ops [⟨some 6, none, .pure (.mov), [.t 0]⟩, ⟨some 7, none, .pure (.len), [.t 6]⟩, ⟨some 8, none, .pure (.mov), [.t 1]⟩, ⟨some 9, none, .pure (.len), [.t 8]⟩, ⟨some 10, none, .pure (.bin .neq), [.t 7, .t 9]⟩] [0, 1, 10]) (.cond (.t 10) (.seq (.ops [⟨some 4, none, .pure (.mov), [.c (.bool false)]⟩] [4]) (.ret)) (.skip))) (.seq (.seq (.ops [⟨some 5, none, .pure (.mov), [.c (.int .i64 0)]⟩] [0, 1, 5]) (.block 0 (.loop [0, 1, 5] (.seq (.seq (.ops [⟨some 11, none, .pure (.mov), [.t 5]⟩, ⟨some 12, none, .pure (.mov), [.t 0]⟩, ⟨some 13, none, .pure (.len), [.t 12]⟩, ⟨some 14, none, .pure (.bin .lss), [.t 11, .t 13]⟩] [0, 1, 5, 14]) (.cond (.t 14) (.skip) (.exit 0))) (.seq (.block 1 (.seq (.ops [⟨some 17, none, .pure (.mov), [.t 0]⟩, ⟨some 18, none, .pure (.mov), [.t 5]⟩, ⟨some 19, none, .pure (.idx 2), [.t 17, .t 18]⟩, ⟨some 21, none, .pure (.mov), [.t 1]⟩, ⟨some 22, none, .pure (.mov), [.t 5]⟩, ⟨some 23, none, .pure (.idx 2), [.t 21, .t 22]⟩, ⟨some 20, none, .load (.ld 2 true), [.t 19]⟩, ⟨some 24, none, .load (.ld 2 true), [.t 23]⟩, ⟨some 25, none, .pure (.eq2 true .i64 .i64), [.t 20, .t 24]⟩] [0, 1, 5, 25]) (.cond (.t 25) (.seq (.ops [⟨some 4, none, .pure (.mov), [.c (.bool false)]⟩] [4]) (.ret)) (.skip)))) (.ops [⟨some 15, none, .pure (.mov), [.t 5]⟩, ⟨some 16, none, .pure (.bin .add), [.t 15, .c (.int .i64 1)]⟩, ⟨some 5, none, .pure (.mov), [.t 16]⟩] [0, 1, 5])))))) (.seq (.ops [⟨some 4, none, .pure (.mov), [.c (.bool true)]⟩] [4]) (.ret))))
def F25 : Fn Try.prog 25 := Fn.mk' b25 [.t 4] 26 Try.f25 _ Try.func25 (by decide) rfl Try.ntmps25 (by kernel_rfl) (by kernel_rfl)
/-- signpost/signpostbook.Within -/
def b28 : BC := .seq (.ops [⟨some 6, none, .pure (.mov), [.c (.int .i64 0)]⟩] [0, 1, 2]) (.seq (.ops [⟨some 7, none, .pure (.mov), [.t 0]⟩, ⟨some 8, none, .pure (.mov), [.t 2]⟩, ⟨some 9, none, .pure (.mov), [.t 1]⟩, ⟨some 10, none, .pure (.bin .sub), [.t 8, .t 9]⟩, ⟨some 11, none, .pure (.bin .add), [.t 10, .c (.int .i64 1)]⟩, ⟨some 12, none, .pure (.bin .rem), [.t 7, .t 11]⟩, ⟨some 0, none, .pure (.mov), [.t 12]⟩] [0, 1, 2]) (.seq (.seq (.ops [⟨some 13, none, .pure (.mov), [.t 0]⟩, ⟨some 14, none, .pure (.bin .lss), [.t 13, .c (.int .i64 0)]⟩] [0, 1, 2, 14]) (.cond (.t 14) (.ops [⟨some 15, none, .pure (.mov), [.t 0]⟩, ⟨some 16, none, .pure (.mov), [.t 2]⟩, ⟨some 17, none, .pure (.bin .add), [.t 15, .t 16]⟩, ⟨some 18, none, .pure (.mov), [.t 1]⟩, ⟨some 19, none, .pure (.bin .sub), [.t 17, .t 18]⟩, ⟨some 20, none, .pure (.bin .add), [.t 19, .c (.int .i64 1)]⟩, ⟨some 0, none, .pure (.mov), [.t 20]⟩] [0, 1]) (.skip))) (.seq (.ops [⟨some 21, none, .pure (.mov), [.t 1]⟩, ⟨some 22, none, .pure (.mov), [.t 0]⟩, ⟨some 23, none, .pure (.bin .add), [.t 21, .t 22]⟩, ⟨some 6, none, .pure (.mov), [.t 23]⟩] [6]) (.ret))))
def F28 : Fn Try.prog 28 := Fn.mk' b28 [.t 6] 24 Try.f28 _ Try.func28 (by decide) rfl Try.ntmps28 (by kernel_rfl) (by kernel_rfl)
/-- signpost/signpostkeep.Prefix -/
def b31 : BC := .seq (.ops [⟨some 4, none, .alloc (.alloc [(.int .u32 0), (.int .i64 0)]), []⟩] [0, 1, 4]) (.seq (.ops [⟨some 5, none, .pure (.mov), [.t 0]⟩, ⟨some 6, none, .pure (.bin .rem), [.t 5, .c (.int .u32 64)]⟩, ⟨some 7, none, .pure (.bin .shl), [.t 6, .c (.int .u64 18)]⟩, ⟨some 8, none, .pure (.bin .or), [.c (.int .u32 167772160), .t 7]⟩, ⟨some 9, none, .pure (.mov), [.t 1]⟩, ⟨some 10, none, .loud (.call 28), [.t 9, .c (.int .i64 0), .c (.int .i64 6)]⟩, ⟨some 11, none, .pure (.bin .add), [.c (.int .i64 8), .t 10]⟩, ⟨some 12, none, .loud (.call 54), [.t 8, .t 11]⟩, ⟨none, none, .loud (.st 2), [.t 4, .t 12]⟩] [4]) (.ret))
def F31 : Fn Try.prog 31 := Fn.mk' b31 [.c 4 2 true] 13 Try.f31 _ Try.func31 (by decide) rfl Try.ntmps31 (by kernel_rfl) (by kernel_rfl)
/-- signpost/signpostref26.Plan -/
def b32 : BC := .seq (.ops [⟨some 4, none, .pure (.mov), [.c .nils]⟩, ⟨some 5, none, .pure (.mov), [.c (.int .i64 0)]⟩] [0, 1]) (.seq (.seq (.ops [⟨some 12, none, .pure (.mov), [.t 0]⟩, ⟨some 13, none, .loud (.call 52), [.t 12]⟩, ⟨some 14, none, .pure (.not), [.t 13]⟩, ⟨some 15, none, .pure (.mov), [.t 14]⟩, ⟨some 16, some (15, false), .pure (.mov), [.t 1]⟩, ⟨some 17, some (15, false), .loud (.call 52), [.t 16]⟩, ⟨some 18, some (15, false), .pure (.not), [.t 17]⟩, ⟨some 19, none, .pick, [.t 15, .c (.bool true), .t 18]⟩] [0, 1, 19]) (.cond (.t 19) (.seq (.ops [⟨some 4, none, .pure (.mov), [.c .nils]⟩, ⟨some 5, none, .pure (.mov), [.c (.int .i64 12)]⟩] [4, 5]) (.ret)) (.skip))) (.seq (.ops [⟨some 6, none, .pure (.mov), [.c .nils]⟩] [0, 1, 6]) (.seq (.seq (.ops [⟨some 7, none, .pure (.mov), [.c (.int .i64 32)]⟩] [0, 1, 6, 7]) (.block 0 (.loop [0, 1, 6, 7] (.seq (.seq (.ops [⟨some 20, none, .pure (.mov), [.t 7]⟩, ⟨some 21, none, .pure (.bin .geq), [.t 20, .c (.int .i64 0)]⟩] [0, 1, 6, 7, 21]) (.cond (.t 21) (.skip) (.exit 0))) (.seq (.block 1 (.seq (.ops [⟨some 8, none, .pure (.mov), [.c (.int .i64 0)]⟩] [0, 1, 6, 7, 8]) (.block 2 (.loop [0, 1, 6, 7, 8] (.seq (.seq (.ops [⟨some 24, none, .pure (.mov), [.t 8]⟩, ⟨some 25, none, .pure (.mov), [.t 1]⟩, ⟨some 26, none, .pure (.len), [.t 25]⟩, ⟨some 27, none, .pure (.bin .lss), [.t 24, .t 26]⟩] [0, 1, 6, 7, 8, 27]) (.cond (.t 27) (.skip) (.exit 2))) (.seq (.block 3 (.seq (.ops [⟨some 30, none, .pure (.mov), [.t 0]⟩, ⟨some 31, none, .pure (.mov), [.t 1]⟩, ⟨some 32, none, .pure (.mov), [.t 8]⟩, ⟨some 33, none, .pure (.idx 3), [.t 31, .t 32]⟩, ⟨some 34, none, .pure (.fld 0), [.t 33]⟩, ⟨some 35, none, .load (.ld 2 true), [.t 34]⟩, ⟨some 36, none, .loud (.call 55), [.t 30, .t 35]⟩, ⟨some 9, none, .pure (.mov), [.t 36]⟩] [0, 1, 6, 7, 8, 9]) (.seq (.ops [⟨some 37, none, .pure (.mov), [.t 1]⟩, ⟨some 38, none, .pure (.mov), [.t 8]⟩, ⟨some 39, none, .pure (.idx 3), [.t 37, .t 38]⟩, ⟨some 40, none, .pure (.fld 0), [.t 39]⟩, ⟨some 41, none, .pure (.fld 1), [.t 40]⟩, ⟨some 43, none, .pure (.mov), [.t 7]⟩, ⟨some 42, none, .load (.ld 1 false), [.t 41]⟩, ⟨some 44, none, .pure (.bin .eql), [.t 42, .t 43]⟩, ⟨some 45, none, .pure (.mov), [.t 44]⟩, ⟨some 46, some (45, true), .pure (.mov), [.t 9]⟩, ⟨some 47, some (45, true), .pure (.bin .lss), [.t 46, .c (.int .i64 0)]⟩, ⟨some 48, some (45, true), .pure (.mov), [.t 47]⟩, ⟨some 49, some (48, false), .pure (.mov), [.t 0]⟩, ⟨some 50, some (48, false), .pure (.mov), [.t 9]⟩, ⟨some 51, some (48, false), .pure (.idx 3), [.t 49, .t 50]⟩, ⟨some 52, some (48, false), .pure (.fld 2), [.t 51]⟩, ⟨some 54, some (48, false), .pure (.mov), [.t 1]⟩, ⟨some 55, some (48, false), .pure (.mov), [.t 8]⟩, ⟨some 56, some (48, false), .pure (.idx 3), [.t 54, .t 55]⟩, ⟨some 57, some (48, false), .pure (.fld 2), [.t 56]⟩, ⟨some 53, some (48, false), .load (.ld 1 false), [.t 52]⟩, ⟨some 58, some (48, false), .load (.ld 1 false), [.t 57]⟩, ⟨some 59, some (48, false), .qcall 25, [.t 53, .t 58]⟩, ⟨some 60, some (48, false), .pure (.not), [.t 59]⟩, ⟨some 61, some (45, true), .pick, [.t 48, .c (.bool true), .t 60]⟩, ⟨some 62, none, .pick, [.t 45, .t 61, .c (.bool false)]⟩] [0, 1, 6, 7, 8, 62]) (.cond (.t 62) (.ops [⟨some 63, none, .pure (.mov), [.t 6]⟩, ⟨some 64, none, .pure (.mov), [.t 1]⟩, ⟨some 65, none, .pure (.mov), [.t 8]⟩, ⟨some 66, none, .pure (.idx 3), [.t 64, .t 65]⟩, ⟨some 67, none, .load (.ld 3 true), [.t 66]⟩, ⟨some 68, none, .pure (.build [(.bool false), (.int .u32 0), (.int .i64 0), .nils] [(1, 3)]), [.t 67]⟩, ⟨some 69, none, .alloc (.mksl 4 1), [.t 68]⟩, ⟨some 70, none, .loud (.app 4 48), [.t 63, .t 69]⟩, ⟨some 6, none, .pure (.mov), [.t 70]⟩] [0, 1, 6, 7, 8]) (.skip))))) (.ops [⟨some 28, none, .pure (.mov), [.t 8]⟩, ⟨some 29, none, .pure (.bin .add), [.t 28, .c (.int .i64 1)]⟩, ⟨some 8, none, .pure (.mov), [.t 29]⟩] [0, 1, 6, 7, 8]))))))) (.ops [⟨some 22, none, .pure (.mov), [.t 7]⟩, ⟨some 23, none, .pure (.bin .sub), [.t 22, .c (.int .i64 1)]⟩, ⟨some 7, none, .pure (.mov), [.t 23]⟩] [0, 1, 6, 7])))))) (.seq (.seq (.ops [⟨some 10, none, .pure (.mov), [.c (.int .i64 0)]⟩] [0, 1, 6, 10]) (.block 4 (.loop [0, 1, 6, 10] (.seq (.seq (.ops [⟨some 71, none, .pure (.mov), [.t 10]⟩, ⟨some 72, none, .pure (.bin .leq), [.t 71, .c (.int .i64 32)]⟩] [0, 1, 6, 10, 72]) (.cond (.t 72) (.skip) (.exit 4))) (.seq (.block 5 (.seq (.ops [⟨some 11, none, .pure (.mov), [.c (.int .i64 0)]⟩] [0, 1, 6, 10, 11]) (.block 6 (.loop [0, 1, 6, 10, 11] (.seq (.seq (.ops [⟨some 75, none, .pure (.mov), [.t 11]⟩, ⟨some 76, none, .pure (.mov), [.t 0]⟩, ⟨some 77, none, .pure (.len), [.t 76]⟩, ⟨some 78, none, .pure (.bin .lss), [.t 75, .t 77]⟩] [0, 1, 6, 10, 11, 78]) (.cond (.t 78) (.skip) (.exit 6))) (.seq (.block 7 (.seq (.ops [⟨some 81, none, .pure (.mov), [.t 0]⟩, ⟨some 82, none, .pure (.mov), [.t 11]⟩, ⟨some 83, none, .pure (.idx 3), [.t 81, .t 82]⟩, ⟨some 84, none, .pure (.fld 0), [.t 83]⟩, ⟨some 85, none, .pure (.fld 1), [.t 84]⟩, ⟨some 86, none, .load (.ld 1 false), [.t 85]⟩, ⟨some 87, none, .pure (.mov), [.t 10]⟩, ⟨some 88, none, .pure (.bin .eql), [.t 86, .t 87]⟩, ⟨some 89, none, .pure (.mov), [.t 88]⟩, ⟨some 90, some (89, true), .pure (.mov), [.t 1]⟩, ⟨some 91, some (89, true), .pure (.mov), [.t 0]⟩, ⟨some 92, some (89, true), .pure (.mov), [.t 11]⟩, ⟨some 93, some (89, true), .pure (.idx 3), [.t 91, .t 92]⟩, ⟨some 94, some (89, true), .pure (.fld 0), [.t 93]⟩, ⟨some 95, some (89, true), .load (.ld 2 true), [.t 94]⟩, ⟨some 96, some (89, true), .loud (.call 55), [.t 90, .t 95]⟩, ⟨some 97, some (89, true), .pure (.bin .lss), [.t 96, .c (.int .i64 0)]⟩, ⟨some 98, none, .pick, [.t 89, .t 97, .c (.bool false)]⟩] [0, 1, 6, 10, 11, 98]) (.cond (.t 98) (.ops [⟨some 99, none, .pure (.mov), [.t 6]⟩, ⟨some 100, none, .pure (.mov), [.t 0]⟩, ⟨some 101, none, .pure (.mov), [.t 11]⟩, ⟨some 102, none, .pure (.idx 3), [.t 100, .t 101]⟩, ⟨some 103, none, .pure (.fld 0), [.t 102]⟩, ⟨some 104, none, .load (.ld 2 true), [.t 103]⟩, ⟨some 105, none, .pure (.build [(.int .u32 0), (.int .i64 0), .nils] [(0, 2)]), [.t 104]⟩, ⟨some 106, none, .pure (.build [(.bool false), (.int .u32 0), (.int .i64 0), .nils] [(0, 1), (1, 3)]), [.c (.bool true), .t 105]⟩, ⟨some 107, none, .alloc (.mksl 4 1), [.t 106]⟩, ⟨some 108, none, .loud (.app 4 48), [.t 99, .t 107]⟩, ⟨some 6, none, .pure (.mov), [.t 108]⟩] [0, 1, 6, 10, 11]) (.skip)))) (.ops [⟨some 79, none, .pure (.mov), [.t 11]⟩, ⟨some 80, none, .pure (.bin .add), [.t 79, .c (.int .i64 1)]⟩, ⟨some 11, none, .pure (.mov), [.t 80]⟩] [0, 1, 6, 10, 11]))))))) (.ops [⟨some 73, none, .pure (.mov), [.t 10]⟩, ⟨some 74, none, .pure (.bin .add), [.t 73, .c (.int .i64 1)]⟩, ⟨some 10, none, .pure (.mov), [.t 74]⟩] [0, 1, 6, 10])))))) (.seq (.ops [⟨some 109, none, .pure (.mov), [.t 6]⟩, ⟨some 4, none, .pure (.mov), [.t 109]⟩, ⟨some 5, none, .pure (.mov), [.c (.int .i64 0)]⟩] [4, 5]) (.ret))))))
def F32 : Fn Try.prog 32 := Fn.mk' b32 [.t 4, .t 5] 110 Try.f32 _ Try.func32 (by decide) rfl Try.ntmps32 (by kernel_rfl) (by kernel_rfl)
/-- signpost/signpostlaw26.op -/
def b33 : BC := .seq (.ops [⟨some 2, none, .alloc (.box), [.t 0]⟩, ⟨some 3, none, .alloc (.box), [.t 1]⟩, ⟨some 4, none, .pure (.mov), [.c (.bool false)]⟩] [2, 3]) (.seq (.ops [⟨some 5, none, .pure (.fld 0), [.t 2]⟩, ⟨some 6, none, .load (.ld 1 false), [.t 5]⟩, ⟨some 7, none, .pure (.fld 0), [.t 3]⟩, ⟨some 8, none, .load (.ld 1 false), [.t 7]⟩, ⟨some 9, none, .pure (.eqb false), [.t 6, .t 8]⟩, ⟨some 10, none, .pure (.mov), [.t 9]⟩, ⟨some 11, some (10, true), .pure (.fld 1), [.t 2]⟩, ⟨some 12, some (10, true), .pure (.fld 0), [.t 11]⟩, ⟨some 13, some (10, true), .load (.ld 2 true), [.t 12]⟩, ⟨some 14, some (10, true), .pure (.fld 1), [.t 3]⟩, ⟨some 15, some (10, true), .pure (.fld 0), [.t 14]⟩, ⟨some 16, some (10, true), .load (.ld 2 true), [.t 15]⟩, ⟨some 17, some (10, true), .pure (.eq2 false .u32 .i64), [.t 13, .t 16]⟩, ⟨some 18, none, .pick, [.t 10, .t 17, .c (.bool false)]⟩, ⟨some 19, none, .pure (.mov), [.t 18]⟩, ⟨some 20, some (19, true), .pure (.fld 1), [.t 2]⟩, ⟨some 21, some (19, true), .pure (.fld 2), [.t 20]⟩, ⟨some 22, some (19, true), .load (.ld 1 false), [.t 21]⟩, ⟨some 23, some (19, true), .pure (.fld 1), [.t 3]⟩, ⟨some 24, some (19, true), .pure (.fld 2), [.t 23]⟩, ⟨some 25, some (19, true), .load (.ld 1 false), [.t 24]⟩, ⟨some 26, some (19, true), .loud (.call 25), [.t 22, .t 25]⟩, ⟨some 27, none, .pick, [.t 19, .t 26, .c (.bool false)]⟩, ⟨some 4, none, .pure (.mov), [.t 27]⟩] [4]) (.ret))
def F33 : Fn Try.prog 33 := Fn.mk' b33 [.t 4] 28 Try.f33 _ Try.func33 (by decide) rfl Try.ntmps33 (by kernel_rfl) (by kernel_rfl)
/-- signpost/signpostlaw26.prefix -/
def b34 : BC := .seq (.ops [⟨some 4, none, .alloc (.alloc [(.int .u32 0), (.int .i64 0)]), []⟩] [0, 1, 4]) (.seq (.ops [⟨some 5, none, .pure (.mov), [.t 0]⟩, ⟨some 6, none, .pure (.mov), [.t 1]⟩, ⟨some 7, none, .loud (.call 54), [.t 5, .t 6]⟩, ⟨none, none, .loud (.st 2), [.t 4, .t 7]⟩] [4]) (.ret))
def F34 : Fn Try.prog 34 := Fn.mk' b34 [.c 4 2 true] 8 Try.f34 _ Try.func34 (by decide) rfl Try.ntmps34 (by kernel_rfl) (by kernel_rfl)
/-- signpost/ortc.Right -/
def b35 : BC := .seq (.ops [⟨some 2, none, .pure (.mov), [.c (.bool false)]⟩] [0]) (.seq (.seq (.ops [⟨some 5, none, .pure (.mov), [.t 0]⟩, ⟨some 6, none, .pure (.len), [.t 5]⟩, ⟨some 7, none, .pure (.mov), [.c (.int .i64 0)]⟩] [0, 5, 6, 7]) (.block 0 (.loop [0, 5, 6, 7] (.seq (.ops [⟨some 8, none, .pure (.bin .lss), [.t 7, .t 6]⟩] [0, 5, 6, 7, 8]) (.seq (.cond (.t 8) (.skip) (.exit 0)) (.seq (.block 1 (.seq (.ops [⟨some 9, none, .pure (.mov), [.t 7]⟩, ⟨some 10, none, .pure (.idx 3), [.t 5, .t 7]⟩, ⟨some 11, none, .load (.ld 3 true), [.t 10]⟩, ⟨some 4, none, .alloc (.alloc [(.int .u32 0), (.int .i64 0), .nils]), []⟩, ⟨some 3, none, .pure (.mov), [.t 9]⟩, ⟨none, none, .loud (.st 3), [.t 4, .t 11]⟩] [0, 3, 4, 5, 6, 7]) (.seq (.ops [⟨some 12, none, .pure (.fld 0), [.t 4]⟩, ⟨some 13, none, .load (.ld 2 true), [.t 12]⟩, ⟨some 14, none, .qcall 56, [.t 13]⟩, ⟨some 15, none, .pure (.not), [.t 14]⟩, ⟨some 16, none, .pure (.mov), [.t 15]⟩, ⟨some 17, some (16, false), .pure (.fld 2), [.t 4]⟩, ⟨some 18, some (16, false), .load (.ld 1 false), [.t 17]⟩, ⟨some 19, some (16, false), .qcall 57, [.t 18]⟩, ⟨some 20, some (16, false), .pure (.not), [.t 19]⟩, ⟨some 21, none, .pick, [.t 16, .c (.bool true), .t 20]⟩, ⟨some 22, none, .pure (.mov), [.t 21]⟩, ⟨some 23, some (22, false), .pure (.mov), [.t 3]⟩, ⟨some 24, some (22, false), .pure (.bin .gtr), [.t 23, .c (.int .i64 0)]⟩, ⟨some 25, some (22, false), .pure (.mov), [.t 24]⟩, ⟨some 26, some (25, true), .pure (.mov), [.t 0]⟩, ⟨some 27, some (25, true), .pure (.mov), [.t 3]⟩, ⟨some 28, some (25, true), .pure (.bin .sub), [.t 27, .c (.int .i64 1)]⟩, ⟨some 29, some (25, true), .pure (.idx 3), [.t 26, .t 28]⟩, ⟨some 30, some (25, true), .pure (.fld 0), [.t 29]⟩, ⟨some 32, some (25, true), .pure (.fld 0), [.t 4]⟩, ⟨some 31, some (25, true), .load (.ld 2 true), [.t 30]⟩, ⟨some 33, some (25, true), .load (.ld 2 true), [.t 32]⟩, ⟨some 34, some (25, true), .qcall 58, [.t 31, .t 33]⟩, ⟨some 35, some (25, true), .pure (.not), [.t 34]⟩, ⟨some 36, some (22, false), .pick, [.t 25, .t 35, .c (.bool false)]⟩, ⟨some 37, none, .pick, [.t 22, .c (.bool true), .t 36]⟩] [0, 5, 6, 7, 37]) (.cond (.t 37) (.seq (.ops [⟨some 2, none, .pure (.mov), [.c (.bool false)]⟩] [2]) (.ret)) (.skip))))) (.ops [⟨some 38, none, .pure (.bin .add), [.t 7, .c (.int .i64 1)]⟩, ⟨some 7, none, .pure (.mov), [.t 38]⟩] [0, 5, 6, 7]))))))) (.seq (.ops [⟨some 39, none, .pure (.mov), [.t 0]⟩, ⟨some 40, none, .pure (.len), [.t 39]⟩, ⟨some 41, none, .pure (.bin .leq), [.t 40, .c (.int .i64 4096)]⟩, ⟨some 2, none, .pure (.mov), [.t 41]⟩] [2]) (.ret)))
def F35 : Fn Try.prog 35 := Fn.mk' b35 [.t 2] 42 Try.f35 _ Try.func35 (by decide) rfl Try.ntmps35 (by kernel_rfl) (by kernel_rfl)
/-- signpost/download.by -/
def b36 : BC := .seq (.ops [⟨some 2, none, .pure (.mov), [.c .nilmap]⟩] [0]) (.seq (.ops [⟨some 6, none, .alloc (.mkmap), []⟩, ⟨some 3, none, .pure (.mov), [.t 6]⟩] [0, 3]) (.seq (.seq (.ops [⟨some 7, none, .pure (.mov), [.t 0]⟩, ⟨some 8, none, .pure (.len), [.t 7]⟩, ⟨some 9, none, .pure (.mov), [.c (.int .i64 0)]⟩] [3, 7, 8, 9]) (.block 0 (.loop [3, 7, 8, 9] (.seq (.ops [⟨some 10, none, .pure (.bin .lss), [.t 9, .t 8]⟩] [3, 7, 8, 9, 10]) (.seq (.cond (.t 10) (.skip) (.exit 0)) (.seq (.block 1 (.seq (.ops [⟨some 11, none, .pure (.idx 3), [.t 7, .t 9]⟩, ⟨some 12, none, .load (.ld 3 true), [.t 11]⟩, ⟨some 5, none, .alloc (.alloc [(.int .u32 0), (.int .i64 0), .nils]), []⟩, ⟨none, none, .loud (.st 3), [.t 5, .t 12]⟩] [3, 5, 7, 8, 9]) (.ops [⟨some 13, none, .pure (.mov), [.t 3]⟩, ⟨some 14, none, .pure (.fld 0), [.t 5]⟩, ⟨some 15, none, .load (.ld 2 true), [.t 14]⟩, ⟨some 16, none, .pure (.fld 2), [.t 5]⟩, ⟨some 17, none, .load (.ld 1 false), [.t 16]⟩, ⟨none, none, .loud (.mupd (.two .u32 .i64)), [.t 13, .t 15, .t 17]⟩] [3, 7, 8, 9]))) (.ops [⟨some 18, none, .pure (.bin .add), [.t 9, .c (.int .i64 1)]⟩, ⟨some 9, none, .pure (.mov), [.t 18]⟩] [3, 7, 8, 9]))))))) (.seq (.ops [⟨some 19, none, .pure (.mov), [.t 3]⟩, ⟨some 2, none, .pure (.mov), [.t 19]⟩] [2]) (.ret))))
def F36 : Fn Try.prog 36 := Fn.mk' b36 [.t 2] 20 Try.f36 _ Try.func36 (by decide) rfl Try.ntmps36 (by kernel_rfl) (by kernel_rfl)
/-- signpost/ecmp.Same -/
def b37 : BC := .seq (.ops [⟨some 4, none, .pure (.mov), [.c (.bool false)]⟩] [0, 1]) (.seq (.ops [⟨some 5, none, .pure (.mov), [.t 0]⟩, ⟨some 6, none, .pure (.mov), [.t 1]⟩, ⟨some 7, none, .loud (.call 59), [.t 5, .t 6]⟩, ⟨some 4, none, .pure (.mov), [.t 7]⟩] [4]) (.ret))
def F37 : Fn Try.prog 37 := Fn.mk' b37 [.t 4] 8 Try.f37 _ Try.func37 (by decide) rfl Try.ntmps37 (by kernel_rfl) (by kernel_rfl)
/-- slices.Clone[[]signpost/api.Hop,signpost/api.Hop] -/
def b38 : BC := .seq (.ops [⟨some 2, none, .pure (.mov), [.c .nils]⟩] [0]) (.seq (.seq (.ops [⟨some 3, none, .pure (.mov), [.t 0]⟩, ⟨some 4, none, .loud (.nilq false), [.t 3]⟩] [0, 4]) (.cond (.t 4) (.seq (.ops [⟨some 2, none, .pure (.mov), [.c .nils]⟩] [2]) (.ret)) (.skip))) (.seq (.ops [⟨some 5, none, .alloc (.mksl 2 0), []⟩, ⟨some 6, none, .pure (.mov), [.t 0]⟩, ⟨some 7, none, .loud (.app 2 16), [.t 5, .t 6]⟩, ⟨some 2, none, .pure (.mov), [.t 7]⟩] [2]) (.ret)))
def F38 : Fn Try.prog 38 := Fn.mk' b38 [.t 2] 8 Try.f38 _ Try.func38 (by decide) rfl Try.ntmps38 (by kernel_rfl) (by kernel_rfl)
/-- slices.SortFunc[[]signpost/download.Op,signpost/download.Op] -/
def b39 : BC := .seq (.ops [⟨some 5, none, .pure (.mov), [.t 0]⟩, ⟨some 6, none, .pure (.len), [.t 5]⟩, ⟨some 4, none, .pure (.mov), [.t 6]⟩] [0, 1, 4]) (.ops [⟨some 7, none, .pure (.mov), [.t 0]⟩, ⟨some 8, none, .pure (.mov), [.t 4]⟩, ⟨some 9, none, .pure (.mov), [.t 4]⟩, ⟨some 10, none, .pure (.conv .u64), [.t 9]⟩, ⟨some 11, none, .loud (.call 61), [.t 10]⟩, ⟨some 12, none, .pure (.mov), [.t 1]⟩, ⟨some 13, none, .loud (.call 60), [.t 7, .c (.int .i64 0), .t 8, .t 11, .t 12]⟩] [])
def F39 : Fn Try.prog 39 := Fn.mk' b39 [] 14 Try.f39 _ Try.func39 (by decide) rfl Try.ntmps39 (by kernel_rfl) (by kernel_rfl)
/-- signpost/download.Plan$1 -/
def b40 : BC := .seq (.ops [⟨some 2, none, .alloc (.box), [.t 0]⟩, ⟨some 3, none, .alloc (.box), [.t 1]⟩, ⟨some 4, none, .pure (.mov), [.c (.int .i64 0)]⟩] [2, 3]) (.seq (.ops [⟨some 5, none, .pure (.fld 1), [.t 3]⟩, ⟨some 6, none, .pure (.fld 0), [.t 5]⟩, ⟨some 7, none, .pure (.fld 1), [.t 6]⟩, ⟨some 9, none, .pure (.fld 1), [.t 2]⟩, ⟨some 10, none, .pure (.fld 0), [.t 9]⟩, ⟨some 11, none, .pure (.fld 1), [.t 10]⟩, ⟨some 14, none, .pure (.fld 1), [.t 2]⟩, ⟨some 15, none, .pure (.fld 0), [.t 14]⟩, ⟨some 17, none, .pure (.fld 1), [.t 3]⟩, ⟨some 18, none, .pure (.fld 0), [.t 17]⟩, ⟨some 8, none, .load (.ld 1 false), [.t 7]⟩, ⟨some 12, none, .load (.ld 1 false), [.t 11]⟩, ⟨some 16, none, .load (.ld 2 true), [.t 15]⟩, ⟨some 19, none, .load (.ld 2 true), [.t 18]⟩, ⟨some 13, none, .qcall 42, [.t 8, .t 12]⟩, ⟨some 20, none, .qcall 43, [.t 16, .t 19]⟩, ⟨some 21, none, .alloc (.mksl 1 2), [.t 13, .t 20]⟩, ⟨some 22, none, .qcall 41, [.t 21]⟩, ⟨some 4, none, .pure (.mov), [.t 22]⟩] [4]) (.ret))
def F40 : Fn Try.prog 40 := Fn.mk' b40 [.t 4] 23 Try.f40 _ Try.func40 (by decide) rfl Try.ntmps40 (by kernel_rfl) (by kernel_rfl)
/-- cmp.Or[int] -/
def b41 : BC := .seq (.ops [⟨some 2, none, .pure (.mov), [.c (.int .i64 0)]⟩] [0]) (.seq (.ops [⟨some 3, none, .pure (.mov), [.c (.int .i64 0)]⟩] [0, 3]) (.seq (.seq (.ops [⟨some 6, none, .pure (.mov), [.t 0]⟩, ⟨some 7, none, .pure (.len), [.t 6]⟩, ⟨some 8, none, .pure (.mov), [.c (.int .i64 0)]⟩] [3, 6, 7, 8]) (.block 0 (.loop [3, 6, 7, 8] (.seq (.ops [⟨some 9, none, .pure (.bin .lss), [.t 8, .t 7]⟩] [3, 6, 7, 8, 9]) (.seq (.cond (.t 9) (.skip) (.exit 0)) (.seq (.block 1 (.seq (.ops [⟨some 10, none, .pure (.idx 1), [.t 6, .t 8]⟩, ⟨some 11, none, .load (.ld 1 false), [.t 10]⟩, ⟨some 5, none, .pure (.mov), [.t 11]⟩] [3, 5, 6, 7, 8]) (.seq (.ops [⟨some 12, none, .pure (.mov), [.t 5]⟩, ⟨some 13, none, .pure (.mov), [.t 3]⟩, ⟨some 14, none, .pure (.bin .neq), [.t 12, .t 13]⟩] [3, 5, 6, 7, 8, 14]) (.cond (.t 14) (.seq (.ops [⟨some 15, none, .pure (.mov), [.t 5]⟩, ⟨some 2, none, .pure (.mov), [.t 15]⟩] [2]) (.ret)) (.skip))))) (.ops [⟨some 16, none, .pure (.bin .add), [.t 8, .c (.int .i64 1)]⟩, ⟨some 8, none, .pure (.mov), [.t 16]⟩] [3, 6, 7, 8]))))))) (.seq (.ops [⟨some 17, none, .pure (.mov), [.t 3]⟩, ⟨some 2, none, .pure (.mov), [.t 17]⟩] [2]) (.ret))))
def F41 : Fn Try.prog 41 := Fn.mk' b41 [.t 2] 18 Try.f41 _ Try.func41 (by decide) rfl Try.ntmps41 (by kernel_rfl) (by kernel_rfl)
/-- cmp.Compare[int] -/
def b42 : BC := .seq (.ops [⟨some 4, none, .pure (.mov), [.c (.int .i64 0)]⟩] [0, 1]) (.seq (.ops [⟨some 7, none, .pure (.mov), [.t 0]⟩, ⟨some 8, none, .loud (.call 62), [.t 7]⟩, ⟨some 5, none, .pure (.mov), [.t 8]⟩] [0, 1, 5]) (.seq (.ops [⟨some 9, none, .pure (.mov), [.t 1]⟩, ⟨some 10, none, .loud (.call 62), [.t 9]⟩, ⟨some 6, none, .pure (.mov), [.t 10]⟩] [0, 1, 5, 6]) (.seq (.seq (.ops [⟨some 11, none, .pure (.mov), [.t 5]⟩] [0, 1, 6, 11]) (.cond (.t 11) (.seq (.seq (.ops [⟨some 12, none, .pure (.mov), [.t 6]⟩] [12]) (.cond (.t 12) (.seq (.ops [⟨some 4, none, .pure (.mov), [.c (.int .i64 0)]⟩] [4]) (.ret)) (.skip))) (.seq (.ops [⟨some 4, none, .pure (.mov), [.c (.int .i64 (-1))]⟩] [4]) (.ret))) (.skip))) (.seq (.seq (.ops [⟨some 13, none, .pure (.mov), [.t 6]⟩] [0, 1, 13]) (.cond (.t 13) (.seq (.ops [⟨some 4, none, .pure (.mov), [.c (.int .i64 1)]⟩] [4]) (.ret)) (.skip))) (.seq (.seq (.ops [⟨some 14, none, .pure (.mov), [.t 0]⟩, ⟨some 15, none, .pure (.mov), [.t 1]⟩, ⟨some 16, none, .pure (.bin .lss), [.t 14, .t 15]⟩] [0, 1, 16]) (.cond (.t 16) (.seq (.ops [⟨some 4, none, .pure (.mov), [.c (.int .i64 (-1))]⟩] [4]) (.ret)) (.skip))) (.seq (.seq (.ops [⟨some 17, none, .pure (.mov), [.t 0]⟩, ⟨some 18, none, .pure (.mov), [.t 1]⟩, ⟨some 19, none, .pure (.bin .gtr), [.t 17, .t 18]⟩] [19]) (.cond (.t 19) (.seq (.ops [⟨some 4, none, .pure (.mov), [.c (.int .i64 1)]⟩] [4]) (.ret)) (.skip))) (.seq (.ops [⟨some 4, none, .pure (.mov), [.c (.int .i64 0)]⟩] [4]) (.ret))))))))
def F42 : Fn Try.prog 42 := Fn.mk' b42 [.t 4] 20 Try.f42 _ Try.func42 (by decide) rfl Try.ntmps42 (by kernel_rfl) (by kernel_rfl)
/-- signpost/addr.Cmp -/
def b43 : BC := .seq (.ops [⟨some 2, none, .alloc (.box), [.t 0]⟩, ⟨some 3, none, .alloc (.box), [.t 1]⟩, ⟨some 4, none, .pure (.mov), [.c (.int .i64 0)]⟩] [2, 3]) (.seq (.block 0 (.seq (.ops [⟨some 6, none, .load (.ld 2 true), [.t 2]⟩, ⟨some 7, none, .load (.ld 2 true), [.t 3]⟩, ⟨some 8, none, .loud (.call 58), [.t 6, .t 7]⟩, ⟨some 5, none, .pure (.mov), [.t 8]⟩] [2, 3, 5]) (.cond (.t 5) (.seq (.ops [⟨some 4, none, .pure (.mov), [.c (.int .i64 (-1))]⟩] [4]) (.ret)) (.seq (.ops [⟨some 10, none, .load (.ld 2 true), [.t 3]⟩, ⟨some 11, none, .load (.ld 2 true), [.t 2]⟩, ⟨some 12, none, .loud (.call 58), [.t 10, .t 11]⟩, ⟨some 9, none, .pure (.mov), [.t 12]⟩] [9]) (.cond (.t 9) (.seq (.ops [⟨some 4, none, .pure (.mov), [.c (.int .i64 1)]⟩] [4]) (.ret)) (.skip)))))) (.seq (.ops [⟨some 4, none, .pure (.mov), [.c (.int .i64 0)]⟩] [4]) (.ret)))
def F43 : Fn Try.prog 43 := Fn.mk' b43 [.t 4] 13 Try.f43 _ Try.func43 (by decide) rfl Try.ntmps43 (by kernel_rfl) (by kernel_rfl)
/-- signpost/download.Plan$2 -/
def b44 : BC := .seq (.ops [⟨some 2, none, .alloc (.box), [.t 0]⟩, ⟨some 3, none, .alloc (.box), [.t 1]⟩, ⟨some 4, none, .pure (.mov), [.c (.int .i64 0)]⟩] [2, 3]) (.seq (.ops [⟨some 5, none, .pure (.fld 1), [.t 2]⟩, ⟨some 6, none, .pure (.fld 0), [.t 5]⟩, ⟨some 7, none, .pure (.fld 1), [.t 6]⟩, ⟨some 9, none, .pure (.fld 1), [.t 3]⟩, ⟨some 10, none, .pure (.fld 0), [.t 9]⟩, ⟨some 11, none, .pure (.fld 1), [.t 10]⟩, ⟨some 14, none, .pure (.fld 1), [.t 2]⟩, ⟨some 15, none, .pure (.fld 0), [.t 14]⟩, ⟨some 17, none, .pure (.fld 1), [.t 3]⟩, ⟨some 18, none, .pure (.fld 0), [.t 17]⟩, ⟨some 8, none, .load (.ld 1 false), [.t 7]⟩, ⟨some 12, none, .load (.ld 1 false), [.t 11]⟩, ⟨some 16, none, .load (.ld 2 true), [.t 15]⟩, ⟨some 19, none, .load (.ld 2 true), [.t 18]⟩, ⟨some 13, none, .qcall 42, [.t 8, .t 12]⟩, ⟨some 20, none, .qcall 43, [.t 16, .t 19]⟩, ⟨some 21, none, .alloc (.mksl 1 2), [.t 13, .t 20]⟩, ⟨some 22, none, .qcall 41, [.t 21]⟩, ⟨some 4, none, .pure (.mov), [.t 22]⟩] [4]) (.ret))
def F44 : Fn Try.prog 44 := Fn.mk' b44 [.t 4] 23 Try.f44 _ Try.func44 (by decide) rfl Try.ntmps44 (by kernel_rfl) (by kernel_rfl)
/-- slices.Concat[[]signpost/download.Op,signpost/download.Op] -/
def b45 : BC := .seq (.ops [⟨some 2, none, .pure (.mov), [.c .nils]⟩] [0]) (.seq (.ops [⟨some 3, none, .pure (.mov), [.c (.int .i64 0)]⟩] [0, 3]) (.seq (.seq (.ops [⟨some 9, none, .pure (.mov), [.t 0]⟩, ⟨some 10, none, .pure (.len), [.t 9]⟩, ⟨some 11, none, .pure (.mov), [.c (.int .i64 0)]⟩] [0, 3, 9, 10, 11]) (.block 0 (.loop [0, 3, 9, 10, 11] (.seq (.ops [⟨some 12, none, .pure (.bin .lss), [.t 11, .t 10]⟩] [0, 3, 9, 10, 11, 12]) (.seq (.cond (.t 12) (.skip) (.exit 0)) (.seq (.block 1 (.seq (.ops [⟨some 13, none, .pure (.idx 1), [.t 9, .t 11]⟩, ⟨some 14, none, .load (.ld 1 false), [.t 13]⟩, ⟨some 5, none, .pure (.mov), [.t 14]⟩] [0, 3, 5, 9, 10, 11]) (.seq (.ops [⟨some 15, none, .pure (.mov), [.t 3]⟩, ⟨some 16, none, .pure (.mov), [.t 5]⟩, ⟨some 17, none, .pure (.len), [.t 16]⟩, ⟨some 18, none, .pure (.bin .add), [.t 15, .t 17]⟩, ⟨some 3, none, .pure (.mov), [.t 18]⟩] [0, 3, 9, 10, 11]) (.seq (.ops [⟨some 19, none, .pure (.mov), [.t 3]⟩, ⟨some 20, none, .pure (.bin .lss), [.t 19, .c (.int .i64 0)]⟩] [0, 3, 9, 10, 11, 20]) (.cond (.t 20) (.ops [⟨some 21, none, .pure (.mkif 9), [.c (.str ⟨[108, 101, 110, 32, 111, 117, 116, 32, 111, 102, 32, 114, 97, 110, 103, 101].toArray⟩)]⟩, ⟨none, none, .bad, []⟩] [0, 3, 9, 10, 11]) (.skip)))))) (.ops [⟨some 22, none, .pure (.bin .add), [.t 11, .c (.int .i64 1)]⟩, ⟨some 11, none, .pure (.mov), [.t 22]⟩] [0, 3, 9, 10, 11]))))))) (.seq (.ops [⟨some 23, none, .pure (.mov), [.t 3]⟩, ⟨some 24, none, .loud (.call 63), [.c .nils, .t 23]⟩, ⟨some 6, none, .pure (.mov), [.t 24]⟩] [0, 6]) (.seq (.seq (.ops [⟨some 25, none, .pure (.mov), [.t 0]⟩, ⟨some 26, none, .pure (.len), [.t 25]⟩, ⟨some 27, none, .pure (.mov), [.c (.int .i64 0)]⟩] [6, 25, 26, 27]) (.block 2 (.loop [6, 25, 26, 27] (.seq (.ops [⟨some 28, none, .pure (.bin .lss), [.t 27, .t 26]⟩] [6, 25, 26, 27, 28]) (.seq (.cond (.t 28) (.skip) (.exit 2)) (.seq (.block 3 (.seq (.ops [⟨some 29, none, .pure (.idx 1), [.t 25, .t 27]⟩, ⟨some 30, none, .load (.ld 1 false), [.t 29]⟩, ⟨some 8, none, .pure (.mov), [.t 30]⟩] [6, 8, 25, 26, 27]) (.ops [⟨some 31, none, .pure (.mov), [.t 6]⟩, ⟨some 32, none, .pure (.mov), [.t 8]⟩, ⟨some 33, none, .loud (.app 4 48), [.t 31, .t 32]⟩, ⟨some 6, none, .pure (.mov), [.t 33]⟩] [6, 25, 26, 27]))) (.ops [⟨some 34, none, .pure (.bin .add), [.t 27, .c (.int .i64 1)]⟩, ⟨some 27, none, .pure (.mov), [.t 34]⟩] [6, 25, 26, 27]))))))) (.seq (.ops [⟨some 35, none, .pure (.mov), [.t 6]⟩, ⟨some 2, none, .pure (.mov), [.t 35]⟩] [2]) (.ret))))))
def F45 : Fn Try.prog 45 := Fn.mk' b45 [.t 2] 36 Try.f45 _ Try.func45 (by decide) rfl Try.ntmps45 (by kernel_rfl) (by kernel_rfl)
/-- signpost/signpostref1.Right -/
def b46 : BC := .seq (.ops [⟨some 1, none, .alloc (.box), [.t 0]⟩, ⟨some 2, none, .pure (.mov), [.c (.bool false)]⟩] [1]) (.seq (.ops [⟨some 3, none, .pure (.fld 1), [.t 1]⟩, ⟨some 4, none, .load (.ld 1 false), [.t 3]⟩, ⟨some 5, none, .pure (.bin .geq), [.t 4, .c (.int .i64 0)]⟩, ⟨some 6, none, .pure (.mov), [.t 5]⟩, ⟨some 7, some (6, true), .pure (.fld 1), [.t 1]⟩, ⟨some 8, some (6, true), .load (.ld 1 false), [.t 7]⟩, ⟨some 9, some (6, true), .pure (.bin .leq), [.t 8, .c (.int .i64 32)]⟩, ⟨some 10, none, .pick, [.t 6, .t 9, .c (.bool false)]⟩, ⟨some 11, none, .pure (.mov), [.t 10]⟩, ⟨some 12, some (11, true), .pure (.fld 0), [.t 1]⟩, ⟨some 14, some (11, true), .pure (.fld 1), [.t 1]⟩, ⟨some 13, some (11, true), .load (.ld 1 false), [.t 12]⟩, ⟨some 15, some (11, true), .load (.ld 1 false), [.t 14]⟩, ⟨some 16, some (11, true), .qcall 49, [.t 15]⟩, ⟨some 17, some (11, true), .pure (.bin .andNot), [.t 13, .t 16]⟩, ⟨some 18, some (11, true), .pure (.bin .eql), [.t 17, .c (.int .u32 0)]⟩, ⟨some 19, none, .pick, [.t 11, .t 18, .c (.bool false)]⟩, ⟨some 2, none, .pure (.mov), [.t 19]⟩] [2]) (.ret))
def F46 : Fn Try.prog 46 := Fn.mk' b46 [.t 2] 20 Try.f46 _ Try.func46 (by decide) rfl Try.ntmps46 (by kernel_rfl) (by kernel_rfl)
/-- signpost/signpostref1.Mask -/
def b49 : BC := .seq (.ops [⟨some 2, none, .pure (.mov), [.c (.int .u32 0)]⟩] [0]) (.seq (.ops [⟨some 3, none, .pure (.mov), [.c (.int .u32 0)]⟩] [0, 3]) (.seq (.seq (.ops [⟨some 4, none, .pure (.mov), [.c (.int .i64 0)]⟩] [0, 3, 4]) (.block 0 (.loop [0, 3, 4] (.seq (.seq (.ops [⟨some 5, none, .pure (.mov), [.t 4]⟩, ⟨some 6, none, .pure (.mov), [.t 0]⟩, ⟨some 7, none, .pure (.bin .lss), [.t 5, .t 6]⟩, ⟨some 8, none, .pure (.mov), [.t 7]⟩, ⟨some 9, some (8, true), .pure (.mov), [.t 4]⟩, ⟨some 10, some (8, true), .pure (.bin .lss), [.t 9, .c (.int .i64 32)]⟩, ⟨some 11, none, .pick, [.t 8, .t 10, .c (.bool false)]⟩] [0, 3, 4, 11]) (.cond (.t 11) (.skip) (.exit 0))) (.seq (.block 1 (.ops [⟨some 14, none, .pure (.mov), [.t 3]⟩, ⟨some 15, none, .pure (.mov), [.t 4]⟩, ⟨some 16, none, .pure (.bin .sub), [.c (.int .i64 31), .t 15]⟩, ⟨some 17, none, .pure (.conv .u64), [.t 16]⟩, ⟨some 18, none, .pure (.bin .shl), [.c (.int .u32 1), .t 17]⟩, ⟨some 19, none, .pure (.bin .or), [.t 14, .t 18]⟩, ⟨some 3, none, .pure (.mov), [.t 19]⟩] [0, 3, 4])) (.ops [⟨some 12, none, .pure (.mov), [.t 4]⟩, ⟨some 13, none, .pure (.bin .add), [.t 12, .c (.int .i64 1)]⟩, ⟨some 4, none, .pure (.mov), [.t 13]⟩] [0, 3, 4])))))) (.seq (.ops [⟨some 20, none, .pure (.mov), [.t 3]⟩, ⟨some 2, none, .pure (.mov), [.t 20]⟩] [2]) (.ret))))
def F49 : Fn Try.prog 49 := Fn.mk' b49 [.t 2] 21 Try.f49 _ Try.func49 (by decide) rfl Try.ntmps49 (by kernel_rfl) (by kernel_rfl)
/-- signpost/signpostref24.Right -/
def b52 : BC := .seq (.ops [⟨some 2, none, .pure (.mov), [.c (.bool false)]⟩] [0]) (.seq (.seq (.ops [⟨some 6, none, .pure (.mov), [.t 0]⟩, ⟨some 7, none, .pure (.len), [.t 6]⟩, ⟨some 8, none, .pure (.bin .gtr), [.t 7, .c (.int .i64 4096)]⟩] [0, 8]) (.cond (.t 8) (.seq (.ops [⟨some 2, none, .pure (.mov), [.c (.bool false)]⟩] [2]) (.ret)) (.skip))) (.seq (.seq (.ops [⟨some 3, none, .pure (.mov), [.c (.int .i64 0)]⟩] [0, 3]) (.block 0 (.loop [0, 3] (.seq (.seq (.ops [⟨some 9, none, .pure (.mov), [.t 3]⟩, ⟨some 10, none, .pure (.mov), [.t 0]⟩, ⟨some 11, none, .pure (.len), [.t 10]⟩, ⟨some 12, none, .pure (.bin .lss), [.t 9, .t 11]⟩] [0, 3, 12]) (.cond (.t 12) (.skip) (.exit 0))) (.seq (.block 1 (.seq (.ops [⟨some 15, none, .pure (.mov), [.t 0]⟩, ⟨some 16, none, .pure (.mov), [.t 3]⟩, ⟨some 17, none, .pure (.idx 3), [.t 15, .t 16]⟩, ⟨some 18, none, .pure (.fld 2), [.t 17]⟩, ⟨some 19, none, .load (.ld 1 false), [.t 18]⟩, ⟨some 4, none, .pure (.mov), [.t 19]⟩] [0, 3, 4]) (.seq (.seq (.ops [⟨some 20, none, .pure (.mov), [.t 0]⟩, ⟨some 21, none, .pure (.mov), [.t 3]⟩, ⟨some 22, none, .pure (.idx 3), [.t 20, .t 21]⟩, ⟨some 23, none, .pure (.fld 0), [.t 22]⟩, ⟨some 24, none, .load (.ld 2 true), [.t 23]⟩, ⟨some 25, none, .qcall 46, [.t 24]⟩, ⟨some 26, none, .pure (.not), [.t 25]⟩, ⟨some 27, none, .pure (.mov), [.t 26]⟩, ⟨some 28, some (27, false), .pure (.mov), [.t 3]⟩, ⟨some 29, some (27, false), .pure (.bin .gtr), [.t 28, .c (.int .i64 0)]⟩, ⟨some 30, some (27, false), .pure (.mov), [.t 29]⟩, ⟨some 31, some (30, true), .pure (.mov), [.t 0]⟩, ⟨some 32, some (30, true), .pure (.mov), [.t 3]⟩, ⟨some 33, some (30, true), .pure (.bin .sub), [.t 32, .c (.int .i64 1)]⟩, ⟨some 34, some (30, true), .pure (.idx 3), [.t 31, .t 33]⟩, ⟨some 35, some (30, true), .pure (.fld 0), [.t 34]⟩, ⟨some 37, some (30, true), .pure (.mov), [.t 0]⟩, ⟨some 38, some (30, true), .pure (.mov), [.t 3]⟩, ⟨some 39, some (30, true), .pure (.idx 3), [.t 37, .t 38]⟩, ⟨some 40, some (30, true), .pure (.fld 0), [.t 39]⟩, ⟨some 36, some (30, true), .load (.ld 2 true), [.t 35]⟩, ⟨some 41, some (30, true), .load (.ld 2 true), [.t 40]⟩, ⟨some 42, some (30, true), .qcall 16, [.t 36, .t 41]⟩, ⟨some 43, some (30, true), .pure (.not), [.t 42]⟩, ⟨some 44, some (27, false), .pick, [.t 30, .t 43, .c (.bool false)]⟩, ⟨some 45, none, .pick, [.t 27, .c (.bool true), .t 44]⟩, ⟨some 46, none, .pure (.mov), [.t 45]⟩, ⟨some 47, some (46, false), .pure (.mov), [.t 4]⟩, ⟨some 48, some (46, false), .pure (.len), [.t 47]⟩, ⟨some 49, some (46, false), .pure (.bin .gtr), [.t 48, .c (.int .i64 16)]⟩, ⟨some 50, none, .pick, [.t 46, .c (.bool true), .t 49]⟩] [0, 3, 4, 50]) (.cond (.t 50) (.seq (.ops [⟨some 2, none, .pure (.mov), [.c (.bool false)]⟩] [2]) (.ret)) (.skip))) (.seq (.ops [⟨some 5, none, .pure (.mov), [.c (.int .i64 0)]⟩] [0, 3, 4, 5]) (.block 2 (.loop [0, 3, 4, 5] (.seq (.seq (.ops [⟨some 51, none, .pure (.mov), [.t 5]⟩, ⟨some 52, none, .pure (.mov), [.t 4]⟩, ⟨some 53, none, .pure (.len), [.t 52]⟩, ⟨some 54, none, .pure (.bin .lss), [.t 51, .t 53]⟩] [0, 3, 4, 5, 54]) (.cond (.t 54) (.skip) (.exit 2))) (.seq (.block 3 (.seq (.ops [⟨some 57, none, .pure (.mov), [.t 4]⟩, ⟨some 58, none, .pure (.mov), [.t 5]⟩, ⟨some 59, none, .pure (.idx 2), [.t 57, .t 58]⟩, ⟨some 60, none, .pure (.fld 0), [.t 59]⟩, ⟨some 61, none, .load (.ld 1 false), [.t 60]⟩, ⟨some 62, none, .pure (.bin .lss), [.t 61, .c (.int .i64 0)]⟩, ⟨some 63, none, .pure (.mov), [.t 62]⟩, ⟨some 64, some (63, false), .pure (.mov), [.t 4]⟩, ⟨some 65, some (63, false), .pure (.mov), [.t 5]⟩, ⟨some 66, some (63, false), .pure (.idx 2), [.t 64, .t 65]⟩, ⟨some 67, some (63, false), .pure (.fld 0), [.t 66]⟩, ⟨some 68, some (63, false), .load (.ld 1 false), [.t 67]⟩, ⟨some 69, some (63, false), .pure (.bin .gtr), [.t 68, .c (.int .i64 255)]⟩, ⟨some 70, none, .pick, [.t 63, .c (.bool true), .t 69]⟩, ⟨some 71, none, .pure (.mov), [.t 70]⟩, ⟨some 72, some (71, false), .pure (.mov), [.t 4]⟩, ⟨some 73, some (71, false), .pure (.mov), [.t 5]⟩, ⟨some 74, some (71, false), .pure (.idx 2), [.t 72, .t 73]⟩, ⟨some 75, some (71, false), .pure (.fld 1), [.t 74]⟩, ⟨some 76, some (71, false), .load (.ld 1 false), [.t 75]⟩, ⟨some 77, some (71, false), .pure (.bin .lss), [.t 76, .c (.int .i64 1)]⟩, ⟨some 78, none, .pick, [.t 71, .c (.bool true), .t 77]⟩, ⟨some 79, none, .pure (.mov), [.t 78]⟩, ⟨some 80, some (79, false), .pure (.mov), [.t 4]⟩, ⟨some 81, some (79, false), .pure (.mov), [.t 5]⟩, ⟨some 82, some (79, false), .pure (.idx 2), [.t 80, .t 81]⟩, ⟨some 83, some (79, false), .pure (.fld 1), [.t 82]⟩, ⟨some 84, some (79, false), .load (.ld 1 false), [.t 83]⟩, ⟨some 85, some (79, false), .pure (.bin .gtr), [.t 84, .c (.int .i64 16)]⟩, ⟨some 86, none, .pick, [.t 79, .c (.bool true), .t 85]⟩, ⟨some 87, none, .pure (.mov), [.t 86]⟩, ⟨some 88, some (87, false), .pure (.mov), [.t 5]⟩, ⟨some 89, some (87, false), .pure (.bin .gtr), [.t 88, .c (.int .i64 0)]⟩, ⟨some 90, some (87, false), .pure (.mov), [.t 89]⟩, ⟨some 91, some (90, true), .pure (.mov), [.t 4]⟩, ⟨some 92, some (90, true), .pure (.mov), [.t 5]⟩, ⟨some 93, some (90, true), .pure (.bin .sub), [.t 92, .c (.int .i64 1)]⟩, ⟨some 94, some (90, true), .pure (.idx 2), [.t 91, .t 93]⟩, ⟨some 95, some (90, true), .pure (.fld 0), [.t 94]⟩, ⟨some 97, some (90, true), .pure (.mov), [.t 4]⟩, ⟨some 98, some (90, true), .pure (.mov), [.t 5]⟩, ⟨some 99, some (90, true), .pure (.idx 2), [.t 97, .t 98]⟩, ⟨some 100, some (90, true), .pure (.fld 0), [.t 99]⟩, ⟨some 96, some (90, true), .load (.ld 1 false), [.t 95]⟩, ⟨some 101, some (90, true), .load (.ld 1 false), [.t 100]⟩, ⟨some 102, some (90, true), .pure (.bin .geq), [.t 96, .t 101]⟩, ⟨some 103, some (87, false), .pick, [.t 90, .t 102, .c (.bool false)]⟩, ⟨some 104, none, .pick, [.t 87, .c (.bool true), .t 103]⟩] [0, 3, 4, 5, 104]) (.cond (.t 104) (.seq (.ops [⟨some 2, none, .pure (.mov), [.c (.bool false)]⟩] [2]) (.ret)) (.skip)))) (.ops [⟨some 55, none, .pure (.mov), [.t 5]⟩, ⟨some 56, none, .pure (.bin .add), [.t 55, .c (.int .i64 1)]⟩, ⟨some 5, none, .pure (.mov), [.t 56]⟩] [0, 3, 4, 5]))))))))) (.ops [⟨some 13, none, .pure (.mov), [.t 3]⟩, ⟨some 14, none, .pure (.bin .add), [.t 13, .c (.int .i64 1)]⟩, ⟨some 3, none, .pure (.mov), [.t 14]⟩] [0, 3])))))) (.seq (.ops [⟨some 2, none, .pure (.mov), [.c (.bool true)]⟩] [2]) (.ret))))
def F52 : Fn Try.prog 52 := Fn.mk' b52 [.t 2] 105 Try.f52 _ Try.func52 (by decide) rfl Try.ntmps52 (by kernel_rfl) (by kernel_rfl)
/-- signpost/signpostref1.Of -/
def b54 : BC := .seq (.ops [⟨some 4, none, .alloc (.alloc [(.int .u32 0), (.int .i64 0)]), []⟩] [0, 1, 4]) (.seq (.seq (.ops [⟨some 5, none, .pure (.mov), [.t 1]⟩, ⟨some 6, none, .pure (.bin .lss), [.t 5, .c (.int .i64 0)]⟩] [0, 1, 4, 6]) (.cond (.t 6) (.ops [⟨some 1, none, .pure (.mov), [.c (.int .i64 0)]⟩] [0, 1, 4]) (.skip))) (.seq (.seq (.ops [⟨some 7, none, .pure (.mov), [.t 1]⟩, ⟨some 8, none, .pure (.bin .gtr), [.t 7, .c (.int .i64 32)]⟩] [0, 1, 4, 8]) (.cond (.t 8) (.ops [⟨some 1, none, .pure (.mov), [.c (.int .i64 32)]⟩] [0, 1, 4]) (.skip))) (.seq (.ops [⟨some 9, none, .pure (.mov), [.t 0]⟩, ⟨some 10, none, .pure (.mov), [.t 1]⟩, ⟨some 11, none, .loud (.call 49), [.t 10]⟩, ⟨some 12, none, .pure (.bin .and), [.t 9, .t 11]⟩, ⟨some 13, none, .pure (.mov), [.t 1]⟩, ⟨some 14, none, .pure (.build [(.int .u32 0), (.int .i64 0)] [(0, 1), (1, 1)]), [.t 12, .t 13]⟩, ⟨none, none, .loud (.st 2), [.t 4, .t 14]⟩] [4]) (.ret))))
def F54 : Fn Try.prog 54 := Fn.mk' b54 [.c 4 2 true] 15 Try.f54 _ Try.func54 (by decide) rfl Try.ntmps54 (by kernel_rfl) (by kernel_rfl)
/-- signpost/signpostref26.find -/
def b55 : BC := .seq (.ops [⟨some 3, none, .alloc (.box), [.t 1]⟩, ⟨some 4, none, .pure (.mov), [.c (.int .i64 0)]⟩] [0, 3]) (.seq (.seq (.ops [⟨some 5, none, .pure (.mov), [.c (.int .i64 0)]⟩] [0, 3, 5]) (.block 0 (.loop [0, 3, 5] (.seq (.seq (.ops [⟨some 6, none, .pure (.mov), [.t 5]⟩, ⟨some 7, none, .pure (.mov), [.t 0]⟩, ⟨some 8, none, .pure (.len), [.t 7]⟩, ⟨some 9, none, .pure (.bin .lss), [.t 6, .t 8]⟩] [0, 3, 5, 9]) (.cond (.t 9) (.skip) (.exit 0))) (.seq (.block 1 (.seq (.ops [⟨some 12, none, .pure (.mov), [.t 0]⟩, ⟨some 13, none, .pure (.mov), [.t 5]⟩, ⟨some 14, none, .pure (.idx 3), [.t 12, .t 13]⟩, ⟨some 15, none, .pure (.fld 0), [.t 14]⟩, ⟨some 16, none, .load (.ld 2 true), [.t 15]⟩, ⟨some 17, none, .load (.ld 2 true), [.t 3]⟩, ⟨some 18, none, .pure (.eq2 false .u32 .i64), [.t 16, .t 17]⟩] [0, 3, 5, 18]) (.cond (.t 18) (.seq (.ops [⟨some 19, none, .pure (.mov), [.t 5]⟩, ⟨some 4, none, .pure (.mov), [.t 19]⟩] [4]) (.ret)) (.skip)))) (.ops [⟨some 10, none, .pure (.mov), [.t 5]⟩, ⟨some 11, none, .pure (.bin .add), [.t 10, .c (.int .i64 1)]⟩, ⟨some 5, none, .pure (.mov), [.t 11]⟩] [0, 3, 5])))))) (.seq (.ops [⟨some 4, none, .pure (.mov), [.c (.int .i64 (-1))]⟩] [4]) (.ret)))
def F55 : Fn Try.prog 55 := Fn.mk' b55 [.t 4] 20 Try.f55 _ Try.func55 (by decide) rfl Try.ntmps55 (by kernel_rfl) (by kernel_rfl)
/-- signpost/addr.Right -/
def b56 : BC := .seq (.ops [⟨some 1, none, .alloc (.box), [.t 0]⟩, ⟨some 2, none, .pure (.mov), [.c (.bool false)]⟩] [1]) (.seq (.ops [⟨some 3, none, .pure (.fld 1), [.t 1]⟩, ⟨some 4, none, .load (.ld 1 false), [.t 3]⟩, ⟨some 5, none, .pure (.bin .geq), [.t 4, .c (.int .i64 0)]⟩, ⟨some 6, none, .pure (.mov), [.t 5]⟩, ⟨some 7, some (6, true), .pure (.fld 1), [.t 1]⟩, ⟨some 8, some (6, true), .load (.ld 1 false), [.t 7]⟩, ⟨some 9, some (6, true), .pure (.bin .leq), [.t 8, .c (.int .i64 32)]⟩, ⟨some 10, none, .pick, [.t 6, .t 9, .c (.bool false)]⟩, ⟨some 11, none, .pure (.mov), [.t 10]⟩, ⟨some 12, some (11, true), .pure (.fld 0), [.t 1]⟩, ⟨some 14, some (11, true), .pure (.fld 1), [.t 1]⟩, ⟨some 13, some (11, true), .load (.ld 1 false), [.t 12]⟩, ⟨some 15, some (11, true), .load (.ld 1 false), [.t 14]⟩, ⟨some 16, some (11, true), .qcall 69, [.t 15]⟩, ⟨some 17, some (11, true), .pure (.bin .andNot), [.t 13, .t 16]⟩, ⟨some 18, some (11, true), .pure (.bin .eql), [.t 17, .c (.int .u32 0)]⟩, ⟨some 19, none, .pick, [.t 11, .t 18, .c (.bool false)]⟩, ⟨some 2, none, .pure (.mov), [.t 19]⟩] [2]) (.ret))
def F56 : Fn Try.prog 56 := Fn.mk' b56 [.t 2] 20 Try.f56 _ Try.func56 (by decide) rfl Try.ntmps56 (by kernel_rfl) (by kernel_rfl)
/-- signpost/ortc.hops -/
def b57 : BC := .seq (.ops [⟨some 2, none, .pure (.mov), [.c (.bool false)]⟩] [0]) (.seq (.seq (.ops [⟨some 5, none, .pure (.mov), [.t 0]⟩, ⟨some 6, none, .pure (.len), [.t 5]⟩, ⟨some 7, none, .pure (.mov), [.c (.int .i64 0)]⟩] [0, 5, 6, 7]) (.block 0 (.loop [0, 5, 6, 7] (.seq (.ops [⟨some 8, none, .pure (.bin .lss), [.t 7, .t 6]⟩] [0, 5, 6, 7, 8]) (.seq (.cond (.t 8) (.skip) (.exit 0)) (.seq (.block 1 (.seq (.ops [⟨some 9, none, .pure (.mov), [.t 7]⟩, ⟨some 10, none, .pure (.idx 2), [.t 5, .t 7]⟩, ⟨some 11, none, .load (.ld 2 true), [.t 10]⟩, ⟨some 4, none, .alloc (.alloc [(.int .i64 0), (.int .i64 0)]), []⟩, ⟨some 3, none, .pure (.mov), [.t 9]⟩, ⟨none, none, .loud (.st 2), [.t 4, .t 11]⟩] [0, 3, 4, 5, 6, 7]) (.seq (.ops [⟨some 12, none, .pure (.fld 0), [.t 4]⟩, ⟨some 13, none, .load (.ld 1 false), [.t 12]⟩, ⟨some 14, none, .pure (.bin .lss), [.t 13, .c (.int .i64 0)]⟩, ⟨some 15, none, .pure (.mov), [.t 14]⟩, ⟨some 16, some (15, false), .pure (.fld 0), [.t 4]⟩, ⟨some 17, some (15, false), .load (.ld 1 false), [.t 16]⟩, ⟨some 18, some (15, false), .pure (.bin .gtr), [.t 17, .c (.int .i64 255)]⟩, ⟨some 19, none, .pick, [.t 15, .c (.bool true), .t 18]⟩, ⟨some 20, none, .pure (.mov), [.t 19]⟩, ⟨some 21, some (20, false), .pure (.fld 1), [.t 4]⟩, ⟨some 22, some (20, false), .load (.ld 1 false), [.t 21]⟩, ⟨some 23, some (20, false), .pure (.bin .lss), [.t 22, .c (.int .i64 1)]⟩, ⟨some 24, none, .pick, [.t 20, .c (.bool true), .t 23]⟩, ⟨some 25, none, .pure (.mov), [.t 24]⟩, ⟨some 26, some (25, false), .pure (.fld 1), [.t 4]⟩, ⟨some 27, some (25, false), .load (.ld 1 false), [.t 26]⟩, ⟨some 28, some (25, false), .pure (.bin .gtr), [.t 27, .c (.int .i64 16)]⟩, ⟨some 29, none, .pick, [.t 25, .c (.bool true), .t 28]⟩, ⟨some 30, none, .pure (.mov), [.t 29]⟩, ⟨some 31, some (30, false), .pure (.mov), [.t 3]⟩, ⟨some 32, some (30, false), .pure (.bin .gtr), [.t 31, .c (.int .i64 0)]⟩, ⟨some 33, some (30, false), .pure (.mov), [.t 32]⟩, ⟨some 34, some (33, true), .pure (.mov), [.t 0]⟩, ⟨some 35, some (33, true), .pure (.mov), [.t 3]⟩, ⟨some 36, some (33, true), .pure (.bin .sub), [.t 35, .c (.int .i64 1)]⟩, ⟨some 37, some (33, true), .pure (.idx 2), [.t 34, .t 36]⟩, ⟨some 38, some (33, true), .pure (.fld 0), [.t 37]⟩, ⟨some 40, some (33, true), .pure (.fld 0), [.t 4]⟩, ⟨some 39, some (33, true), .load (.ld 1 false), [.t 38]⟩, ⟨some 41, some (33, true), .load (.ld 1 false), [.t 40]⟩, ⟨some 42, some (33, true), .pure (.bin .geq), [.t 39, .t 41]⟩, ⟨some 43, some (30, false), .pick, [.t 33, .t 42, .c (.bool false)]⟩, ⟨some 44, none, .pick, [.t 30, .c (.bool true), .t 43]⟩] [0, 5, 6, 7, 44]) (.cond (.t 44) (.seq (.ops [⟨some 2, none, .pure (.mov), [.c (.bool false)]⟩] [2]) (.ret)) (.skip))))) (.ops [⟨some 45, none, .pure (.bin .add), [.t 7, .c (.int .i64 1)]⟩, ⟨some 7, none, .pure (.mov), [.t 45]⟩] [0, 5, 6, 7]))))))) (.seq (.ops [⟨some 46, none, .pure (.mov), [.t 0]⟩, ⟨some 47, none, .pure (.len), [.t 46]⟩, ⟨some 48, none, .pure (.bin .leq), [.t 47, .c (.int .i64 16)]⟩, ⟨some 2, none, .pure (.mov), [.t 48]⟩] [2]) (.ret)))
def F57 : Fn Try.prog 57 := Fn.mk' b57 [.t 2] 49 Try.f57 _ Try.func57 (by decide) rfl Try.ntmps57 (by kernel_rfl) (by kernel_rfl)
/-- signpost/addr.Less -/
def b58 : BC := .seq (.ops [⟨some 2, none, .alloc (.box), [.t 0]⟩, ⟨some 3, none, .alloc (.box), [.t 1]⟩, ⟨some 4, none, .pure (.mov), [.c (.bool false)]⟩] [2, 3]) (.seq (.seq (.ops [⟨some 5, none, .load (.ld 2 true), [.t 2]⟩, ⟨some 6, none, .loud (.call 56), [.t 5]⟩, ⟨some 7, none, .pure (.not), [.t 6]⟩, ⟨some 8, none, .pure (.mov), [.t 7]⟩, ⟨some 9, some (8, false), .load (.ld 2 true), [.t 3]⟩, ⟨some 10, some (8, false), .loud (.call 56), [.t 9]⟩, ⟨some 11, some (8, false), .pure (.not), [.t 10]⟩, ⟨some 12, none, .pick, [.t 8, .c (.bool true), .t 11]⟩] [2, 3, 12]) (.cond (.t 12) (.seq (.ops [⟨some 4, none, .pure (.mov), [.c (.bool false)]⟩] [4]) (.ret)) (.skip))) (.seq (.ops [⟨some 13, none, .pure (.fld 0), [.t 2]⟩, ⟨some 14, none, .load (.ld 1 false), [.t 13]⟩, ⟨some 15, none, .pure (.fld 0), [.t 3]⟩, ⟨some 16, none, .load (.ld 1 false), [.t 15]⟩, ⟨some 17, none, .pure (.bin .lss), [.t 14, .t 16]⟩, ⟨some 18, none, .pure (.mov), [.t 17]⟩, ⟨some 19, some (18, false), .pure (.fld 0), [.t 2]⟩, ⟨some 20, some (18, false), .load (.ld 1 false), [.t 19]⟩, ⟨some 21, some (18, false), .pure (.fld 0), [.t 3]⟩, ⟨some 22, some (18, false), .load (.ld 1 false), [.t 21]⟩, ⟨some 23, some (18, false), .pure (.bin .eql), [.t 20, .t 22]⟩, ⟨some 24, some (18, false), .pure (.mov), [.t 23]⟩, ⟨some 25, some (24, true), .pure (.fld 1), [.t 2]⟩, ⟨some 26, some (24, true), .load (.ld 1 false), [.t 25]⟩, ⟨some 27, some (24, true), .pure (.fld 1), [.t 3]⟩, ⟨some 28, some (24, true), .load (.ld 1 false), [.t 27]⟩, ⟨some 29, some (24, true), .pure (.bin .lss), [.t 26, .t 28]⟩, ⟨some 30, some (18, false), .pick, [.t 24, .t 29, .c (.bool false)]⟩, ⟨some 31, none, .pick, [.t 18, .c (.bool true), .t 30]⟩, ⟨some 4, none, .pure (.mov), [.t 31]⟩] [4]) (.ret)))
def F58 : Fn Try.prog 58 := Fn.mk' b58 [.t 4] 32 Try.f58 _ Try.func58 (by decide) rfl Try.ntmps58 (by kernel_rfl) (by kernel_rfl)
/-- slices.Equal[[]signpost/api.Hop,signpost/api.Hop] -/
def b59 : BC := .seq (.ops [⟨some 4, none, .pure (.mov), [.c (.bool false)]⟩] [0, 1]) (.seq (.seq (.ops [⟨some 6, none, .pure (.mov), [.t 0]⟩, ⟨some 7, none, .pure (.len), [.t 6]⟩, ⟨some 8, none, .pure (.mov), [.t 1]⟩, ⟨some 9, none, .pure (.len), [.t 8]⟩, ⟨some 10, none, .pure (.bin .neq), [.t 7, .t 9]⟩] [0, 1, 10]) (.cond (.t 10) (.seq (.ops [⟨some 4, none, .pure (.mov), [.c (.bool false)]⟩] [4]) (.ret)) (.skip))) (.seq (.seq (.ops [⟨some 11, none, .pure (.mov), [.t 0]⟩, ⟨some 12, none, .pure (.len), [.t 11]⟩, ⟨some 13, none, .pure (.mov), [.c (.int .i64 0)]⟩] [0, 1, 12, 13]) (.block 0 (.loop [0, 1, 12, 13] (.seq (.ops [⟨some 14, none, .pure (.bin .lss), [.t 13, .t 12]⟩] [0, 1, 12, 13, 14]) (.seq (.cond (.t 14) (.skip) (.exit 0)) (.seq (.block 1 (.seq (.ops [⟨some 15, none, .pure (.mov), [.t 13]⟩, ⟨some 5, none, .pure (.mov), [.t 15]⟩] [0, 1, 5, 12, 13]) (.seq (.ops [⟨some 16, none, .pure (.mov), [.t 0]⟩, ⟨some 17, none, .pure (.mov), [.t 5]⟩, ⟨some 18, none, .pure (.idx 2), [.t 16, .t 17]⟩, ⟨some 20, none, .pure (.mov), [.t 1]⟩, ⟨some 21, none, .pure (.mov), [.t 5]⟩, ⟨some 22, none, .pure (.idx 2), [.t 20, .t 21]⟩, ⟨some 19, none, .load (.ld 2 true), [.t 18]⟩, ⟨some 23, none, .load (.ld 2 true), [.t 22]⟩, ⟨some 24, none, .pure (.eq2 true .i64 .i64), [.t 19, .t 23]⟩] [0, 1, 12, 13, 24]) (.cond (.t 24) (.seq (.ops [⟨some 4, none, .pure (.mov), [.c (.bool false)]⟩] [4]) (.ret)) (.skip))))) (.ops [⟨some 25, none, .pure (.bin .add), [.t 13, .c (.int .i64 1)]⟩, ⟨some 13, none, .pure (.mov), [.t 25]⟩] [0, 1, 12, 13]))))))) (.seq (.ops [⟨some 4, none, .pure (.mov), [.c (.bool true)]⟩] [4]) (.ret))))
def F59 : Fn Try.prog 59 := Fn.mk' b59 [.t 4] 26 Try.f59 _ Try.func59 (by decide) rfl Try.ntmps59 (by kernel_rfl) (by kernel_rfl)
/-- slices.pdqsortCmpFunc[signpost/download.Op] -/
def b60 : BC := .seq (.ops [⟨some 10, none, .pure (.mov), [.c (.bool true)]⟩] [0, 1, 2, 3, 4, 10]) (.seq (.ops [⟨some 11, none, .pure (.mov), [.c (.bool true)]⟩] [0, 1, 2, 3, 4, 10, 11]) (.block 0 (.loop [0, 1, 2, 3, 4, 10, 11] (.block 1 (.seq (.ops [⟨some 21, none, .pure (.mov), [.t 2]⟩, ⟨some 22, none, .pure (.mov), [.t 1]⟩, ⟨some 23, none, .pure (.bin .sub), [.t 21, .t 22]⟩, ⟨some 12, none, .pure (.mov), [.t 23]⟩] [0, 1, 2, 3, 4, 10, 11, 12]) (.seq (.seq (.ops [⟨some 24, none, .pure (.mov), [.t 12]⟩, ⟨some 25, none, .pure (.bin .leq), [.t 24, .c (.int .i64 12)]⟩] [0, 1, 2, 3, 4, 10, 11, 12, 25]) (.cond (.t 25) (.seq (.ops [⟨some 26, none, .pure (.mov), [.t 0]⟩, ⟨some 27, none, .pure (.mov), [.t 1]⟩, ⟨some 28, none, .pure (.mov), [.t 2]⟩, ⟨some 29, none, .pure (.mov), [.t 4]⟩, ⟨some 30, none, .loud (.call 70), [.t 26, .t 27, .t 28, .t 29]⟩] []) (.ret)) (.skip))) (.seq (.seq (.ops [⟨some 31, none, .pure (.mov), [.t 3]⟩, ⟨some 32, none, .pure (.bin .eql), [.t 31, .c (.int .i64 0)]⟩] [0, 1, 2, 3, 4, 10, 11, 12, 32]) (.cond (.t 32) (.seq (.ops [⟨some 33, none, .pure (.mov), [.t 0]⟩, ⟨some 34, none, .pure (.mov), [.t 1]⟩, ⟨some 35, none, .pure (.mov), [.t 2]⟩, ⟨some 36, none, .pure (.mov), [.t 4]⟩, ⟨some 37, none, .loud (.call 71), [.t 33, .t 34, .t 35, .t 36]⟩] []) (.ret)) (.skip))) (.seq (.seq (.ops [⟨some 38, none, .pure (.mov), [.t 10]⟩, ⟨some 39, none, .pure (.not), [.t 38]⟩] [0, 1, 2, 3, 4, 10, 11, 12, 39]) (.cond (.t 39) (.seq (.ops [⟨some 40, none, .pure (.mov), [.t 0]⟩, ⟨some 41, none, .pure (.mov), [.t 1]⟩, ⟨some 42, none, .pure (.mov), [.t 2]⟩, ⟨some 43, none, .pure (.mov), [.t 4]⟩, ⟨some 44, none, .loud (.call 72), [.t 40, .t 41, .t 42, .t 43]⟩] [0, 1, 2, 3, 4, 10, 11, 12]) (.ops [⟨some 45, none, .pure (.mov), [.t 3]⟩, ⟨some 46, none, .pure (.bin .sub), [.t 45, .c (.int .i64 1)]⟩, ⟨some 3, none, .pure (.mov), [.t 46]⟩] [0, 1, 2, 3, 4, 10, 11, 12])) (.skip))) (.seq (.ops [⟨some 48, none, .pure (.mov), [.t 0]⟩, ⟨some 49, none, .pure (.mov), [.t 1]⟩, ⟨some 50, none, .pure (.mov), [.t 2]⟩, ⟨some 51, none, .pure (.mov), [.t 4]⟩, ⟨some 52, none, .loud (.call 73), [.t 48, .t 49, .t 50, .t 51]⟩, ⟨some 47, none, .pure (.mov), [.t 52]⟩, ⟨some 53, none, .pure (.ext 0), [.t 47]⟩, ⟨some 54, none, .pure (.ext 1), [.t 47]⟩, ⟨some 13, none, .pure (.mov), [.t 53]⟩, ⟨some 14, none, .pure (.mov), [.t 54]⟩] [0, 1, 2, 3, 4, 10, 11, 12, 13, 14]) (.seq (.seq (.ops [⟨some 55, none, .pure (.mov), [.t 14]⟩, ⟨some 56, none, .pure (.bin .eql), [.t 55, .c (.int .i64 2)]⟩] [0, 1, 2, 3, 4, 10, 11, 12, 13, 14, 56]) (.cond (.t 56) (.seq (.ops [⟨some 57, none, .pure (.mov), [.t 0]⟩, ⟨some 58, none, .pure (.mov), [.t 1]⟩, ⟨some 59, none, .pure (.mov), [.t 2]⟩, ⟨some 60, none, .pure (.mov), [.t 4]⟩, ⟨some 61, none, .loud (.call 74), [.t 57, .t 58, .t 59, .t 60]⟩] [0, 1, 2, 3, 4, 10, 11, 12, 13]) (.seq (.ops [⟨some 62, none, .pure (.mov), [.t 2]⟩, ⟨some 63, none, .pure (.bin .sub), [.t 62, .c (.int .i64 1)]⟩, ⟨some 64, none, .pure (.mov), [.t 13]⟩, ⟨some 65, none, .pure (.mov), [.t 1]⟩, ⟨some 66, none, .pure (.bin .sub), [.t 64, .t 65]⟩, ⟨some 67, none, .pure (.bin .sub), [.t 63, .t 66]⟩, ⟨some 13, none, .pure (.mov), [.t 67]⟩] [0, 1, 2, 3, 4, 10, 11, 12, 13]) (.ops [⟨some 14, none, .pure (.mov), [.c (.int .i64 1)]⟩] [0, 1, 2, 3, 4, 10, 11, 12, 13, 14]))) (.skip))) (.seq (.seq (.ops [⟨some 68, none, .pure (.mov), [.t 10]⟩, ⟨some 69, none, .pure (.mov), [.t 68]⟩, ⟨some 70, some (69, true), .pure (.mov), [.t 11]⟩, ⟨some 71, none, .pick, [.t 69, .t 70, .c (.bool false)]⟩, ⟨some 72, none, .pure (.mov), [.t 71]⟩, ⟨some 73, some (72, true), .pure (.mov), [.t 14]⟩, ⟨some 74, some (72, true), .pure (.bin .eql), [.t 73, .c (.int .i64 1)]⟩, ⟨some 75, none, .pick, [.t 72, .t 74, .c (.bool false)]⟩] [0, 1, 2, 3, 4, 10, 11, 12, 13, 75]) (.cond (.t 75) (.seq (.ops [⟨some 76, none, .pure (.mov), [.t 0]⟩, ⟨some 77, none, .pure (.mov), [.t 1]⟩, ⟨some 78, none, .pure (.mov), [.t 2]⟩, ⟨some 79, none, .pure (.mov), [.t 4]⟩, ⟨some 80, none, .loud (.call 75), [.t 76, .t 77, .t 78, .t 79]⟩] [0, 1, 2, 3, 4, 10, 11, 12, 13, 80]) (.cond (.t 80) (.ret) (.skip))) (.skip))) (.seq (.seq (.ops [⟨some 81, none, .pure (.mov), [.t 1]⟩, ⟨some 82, none, .pure (.bin .gtr), [.t 81, .c (.int .i64 0)]⟩, ⟨some 83, none, .pure (.mov), [.t 82]⟩, ⟨some 84, some (83, true), .pure (.mov), [.t 4]⟩, ⟨some 85, some (83, true), .pure (.mov), [.t 0]⟩, ⟨some 86, some (83, true), .pure (.mov), [.t 1]⟩, ⟨some 87, some (83, true), .pure (.bin .sub), [.t 86, .c (.int .i64 1)]⟩, ⟨some 88, some (83, true), .pure (.idx 4), [.t 85, .t 87]⟩, ⟨some 90, some (83, true), .pure (.mov), [.t 0]⟩, ⟨some 91, some (83, true), .pure (.mov), [.t 13]⟩, ⟨some 92, some (83, true), .pure (.idx 4), [.t 90, .t 91]⟩, ⟨some 89, some (83, true), .load (.ld 4 true), [.t 88]⟩, ⟨some 93, some (83, true), .load (.ld 4 true), [.t 92]⟩, ⟨some 94, some (83, true), .loud (.callv), [.t 84, .t 89, .t 93]⟩, ⟨some 95, some (83, true), .pure (.bin .lss), [.t 94, .c (.int .i64 0)]⟩, ⟨some 96, some (83, true), .pure (.not), [.t 95]⟩, ⟨some 97, none, .pick, [.t 83, .t 96, .c (.bool false)]⟩] [0, 1, 2, 3, 4, 10, 11, 12, 13, 97]) (.cond (.t 97) (.seq (.ops [⟨some 98, none, .pure (.mov), [.t 0]⟩, ⟨some 99, none, .pure (.mov), [.t 1]⟩, ⟨some 100, none, .pure (.mov), [.t 2]⟩, ⟨some 101, none, .pure (.mov), [.t 13]⟩, ⟨some 102, none, .pure (.mov), [.t 4]⟩, ⟨some 103, none, .loud (.call 76), [.t 98, .t 99, .t 100, .t 101, .t 102]⟩, ⟨some 15, none, .pure (.mov), [.t 103]⟩] [0, 2, 3, 4, 10, 11, 15]) (.seq (.ops [⟨some 104, none, .pure (.mov), [.t 15]⟩, ⟨some 1, none, .pure (.mov), [.t 104]⟩] [0, 1, 2, 3, 4, 10, 11]) (.exit 1))) (.skip))) (.seq (.ops [⟨some 106, none, .pure (.mov), [.t 0]⟩, ⟨some 107, none, .pure (.mov), [.t 1]⟩, ⟨some 108, none, .pure (.mov), [.t 2]⟩, ⟨some 109, none, .pure (.mov), [.t 13]⟩, ⟨some 110, none, .pure (.mov), [.t 4]⟩, ⟨some 111, none, .loud (.call 77), [.t 106, .t 107, .t 108, .t 109, .t 110]⟩, ⟨some 105, none, .pure (.mov), [.t 111]⟩, ⟨some 112, none, .pure (.ext 0), [.t 105]⟩, ⟨some 113, none, .pure (.ext 1), [.t 105]⟩, ⟨some 16, none, .pure (.mov), [.t 112]⟩, ⟨some 17, none, .pure (.mov), [.t 113]⟩] [0, 1, 2, 3, 4, 12, 16, 17]) (.seq (.ops [⟨some 114, none, .pure (.mov), [.t 17]⟩, ⟨some 11, none, .pure (.mov), [.t 114]⟩] [0, 1, 2, 3, 4, 11, 12, 16]) (.seq (.ops [⟨some 115, none, .pure (.mov), [.t 16]⟩, ⟨some 116, none, .pure (.mov), [.t 1]⟩, ⟨some 117, none, .pure (.bin .sub), [.t 115, .t 116]⟩, ⟨some 118, none, .pure (.mov), [.t 2]⟩, ⟨some 119, none, .pure (.mov), [.t 16]⟩, ⟨some 120, none, .pure (.bin .sub), [.t 118, .t 119]⟩, ⟨some 18, none, .pure (.mov), [.t 117]⟩, ⟨some 19, none, .pure (.mov), [.t 120]⟩] [0, 1, 2, 3, 4, 11, 12, 16, 18, 19]) (.seq (.ops [⟨some 121, none, .pure (.mov), [.t 12]⟩, ⟨some 122, none, .pure (.bin .quo), [.t 121, .c (.int .i64 8)]⟩, ⟨some 20, none, .pure (.mov), [.t 122]⟩] [0, 1, 2, 3, 4, 11, 16, 18, 19, 20]) (.seq (.ops [⟨some 123, none, .pure (.mov), [.t 18]⟩, ⟨some 124, none, .pure (.mov), [.t 19]⟩, ⟨some 125, none, .pure (.bin .lss), [.t 123, .t 124]⟩] [0, 1, 2, 3, 4, 11, 16, 18, 19, 20, 125]) (.cond (.t 125) (.seq (.ops [⟨some 126, none, .pure (.mov), [.t 18]⟩, ⟨some 127, none, .pure (.mov), [.t 20]⟩, ⟨some 128, none, .pure (.bin .geq), [.t 126, .t 127]⟩, ⟨some 10, none, .pure (.mov), [.t 128]⟩] [0, 1, 2, 3, 4, 10, 11, 16]) (.seq (.ops [⟨some 129, none, .pure (.mov), [.t 0]⟩, ⟨some 130, none, .pure (.mov), [.t 1]⟩, ⟨some 131, none, .pure (.mov), [.t 16]⟩, ⟨some 132, none, .pure (.mov), [.t 3]⟩, ⟨some 133, none, .pure (.mov), [.t 4]⟩, ⟨some 134, none, .loud (.call 60), [.t 129, .t 130, .t 131, .t 132, .t 133]⟩] [0, 2, 3, 4, 10, 11, 16]) (.ops [⟨some 135, none, .pure (.mov), [.t 16]⟩, ⟨some 136, none, .pure (.bin .add), [.t 135, .c (.int .i64 1)]⟩, ⟨some 1, none, .pure (.mov), [.t 136]⟩] [0, 1, 2, 3, 4, 10, 11]))) (.seq (.ops [⟨some 137, none, .pure (.mov), [.t 19]⟩, ⟨some 138, none, .pure (.mov), [.t 20]⟩, ⟨some 139, none, .pure (.bin .geq), [.t 137, .t 138]⟩, ⟨some 10, none, .pure (.mov), [.t 139]⟩] [0, 1, 2, 3, 4, 10, 11, 16]) (.seq (.ops [⟨some 140, none, .pure (.mov), [.t 0]⟩, ⟨some 141, none, .pure (.mov), [.t 16]⟩, ⟨some 142, none, .pure (.bin .add), [.t 141, .c (.int .i64 1)]⟩, ⟨some 143, none, .pure (.mov), [.t 2]⟩, ⟨some 144, none, .pure (.mov), [.t 3]⟩, ⟨some 145, none, .pure (.mov), [.t 4]⟩, ⟨some 146, none, .loud (.call 60), [.t 140, .t 142, .t 143, .t 144, .t 145]⟩] [0, 1, 3, 4, 10, 11, 16]) (.ops [⟨some 147, none, .pure (.mov), [.t 16]⟩, ⟨some 2, none, .pure (.mov), [.t 147]⟩] [0, 1, 2, 3, 4, 10, 11])))))))))))))))))))))
def F60 : Fn Try.prog 60 := Fn.mk' b60 [] 148 Try.f60 _ Try.func60 (by decide) rfl Try.ntmps60 (by kernel_rfl) (by kernel_rfl)
/-- math/bits.Len -/
def b61 : BC := .seq (.ops [⟨some 2, none, .pure (.mov), [.c (.int .i64 0)]⟩] [0]) (.seq (.cond (.c (.bool false)) (.seq (.ops [⟨some 3, none, .pure (.mov), [.t 0]⟩, ⟨some 4, none, .pure (.conv .u32), [.t 3]⟩, ⟨some 5, none, .loud (.call 78), [.t 4]⟩, ⟨some 2, none, .pure (.mov), [.t 5]⟩] [2]) (.ret)) (.skip)) (.seq (.ops [⟨some 6, none, .pure (.mov), [.t 0]⟩, ⟨some 7, none, .loud (.call 79), [.t 6]⟩, ⟨some 2, none, .pure (.mov), [.t 7]⟩] [2]) (.ret)))
def F61 : Fn Try.prog 61 := Fn.mk' b61 [.t 2] 8 Try.f61 _ Try.func61 (by decide) rfl Try.ntmps61 (by kernel_rfl) (by kernel_rfl)
/-- cmp.isNaN[int] -/
def b62 : BC := .seq (.ops [⟨some 2, none, .pure (.mov), [.c (.bool false)]⟩] [0]) (.seq (.ops [⟨some 3, none, .pure (.mov), [.t 0]⟩, ⟨some 4, none, .pure (.mov), [.t 0]⟩, ⟨some 5, none, .pure (.bin .neq), [.t 3, .t 4]⟩, ⟨some 2, none, .pure (.mov), [.t 5]⟩] [2]) (.ret))
def F62 : Fn Try.prog 62 := Fn.mk' b62 [.t 2] 6 Try.f62 _ Try.func62 (by decide) rfl Try.ntmps62 (by kernel_rfl) (by kernel_rfl)
/-- slices.Grow[[]signpost/download.Op,signpost/download.Op] -/
def b63 : BC := .seq (.ops [⟨some 4, none, .pure (.mov), [.c .nils]⟩] [0, 1]) (.seq (.seq (.ops [⟨some 5, none, .pure (.mov), [.t 1]⟩, ⟨some 6, none, .pure (.bin .lss), [.t 5, .c (.int .i64 0)]⟩] [0, 1, 6]) (.cond (.t 6) (.ops [⟨some 7, none, .pure (.mkif 9), [.c (.str ⟨[99, 97, 110, 110, 111, 116, 32, 98, 101, 32, 110, 101, 103, 97, 116, 105, 118, 101].toArray⟩)]⟩, ⟨none, none, .bad, []⟩] [0, 1]) (.skip))) (.seq (.seq (.ops [⟨some 8, none, .pure (.mov), [.t 1]⟩, ⟨some 9, none, .pure (.mov), [.t 0]⟩, ⟨some 10, none, .pure (.cap), [.t 9]⟩, ⟨some 11, none, .pure (.mov), [.t 0]⟩, ⟨some 12, none, .pure (.len), [.t 11]⟩, ⟨some 13, none, .pure (.bin .sub), [.t 10, .t 12]⟩, ⟨some 14, none, .pure (.bin .sub), [.t 8, .t 13]⟩, ⟨some 1, none, .pure (.mov), [.t 14]⟩] [0, 1]) (.seq (.ops [⟨some 15, none, .pure (.mov), [.t 1]⟩, ⟨some 16, none, .pure (.bin .gtr), [.t 15, .c (.int .i64 0)]⟩] [0, 1, 16]) (.cond (.t 16) (.ops [⟨some 17, none, .pure (.mov), [.t 0]⟩, ⟨some 18, none, .pure (.mov), [.t 0]⟩, ⟨some 19, none, .pure (.cap), [.t 18]⟩, ⟨some 20, none, .pure (.slice 4 false true), [.t 17, .t 19]⟩, ⟨some 21, none, .pure (.mov), [.t 1]⟩, ⟨some 22, none, .loud (.appz 4 48 [(.bool false), (.int .u32 0), (.int .i64 0), .nils]), [.t 20, .t 21]⟩, ⟨some 23, none, .pure (.mov), [.t 0]⟩, ⟨some 24, none, .pure (.len), [.t 23]⟩, ⟨some 25, none, .pure (.slice 4 false true), [.t 22, .t 24]⟩, ⟨some 0, none, .pure (.mov), [.t 25]⟩] [0]) (.skip)))) (.seq (.ops [⟨some 26, none, .pure (.mov), [.t 0]⟩, ⟨some 4, none, .pure (.mov), [.t 26]⟩] [4]) (.ret))))
def F63 : Fn Try.prog 63 := Fn.mk' b63 [.t 4] 27 Try.f63 _ Try.func63 (by decide) rfl Try.ntmps63 (by kernel_rfl) (by kernel_rfl)
/-- signpost/addr.Mask -/
def b69 : BC := .seq (.ops [⟨some 2, none, .pure (.mov), [.c (.int .u32 0)]⟩] [0]) (.seq (.seq (.ops [⟨some 3, none, .pure (.mov), [.t 0]⟩, ⟨some 4, none, .pure (.bin .lss), [.t 3, .c (.int .i64 1)]⟩] [0, 4]) (.cond (.t 4) (.seq (.ops [⟨some 2, none, .pure (.mov), [.c (.int .u32 0)]⟩] [2]) (.ret)) (.skip))) (.seq (.ops [⟨some 5, none, .pure (.mov), [.t 0]⟩, ⟨some 6, none, .pure (.minmax false), [.t 5, .c (.int .i64 32)]⟩, ⟨some 7, none, .pure (.bin .sub), [.c (.int .i64 32), .t 6]⟩, ⟨some 8, none, .pure (.bin .shl), [.c (.int .u32 4294967295), .t 7]⟩, ⟨some 2, none, .pure (.mov), [.t 8]⟩] [2]) (.ret)))
def F69 : Fn Try.prog 69 := Fn.mk' b69 [.t 2] 9 Try.f69 _ Try.func69 (by decide) rfl Try.ntmps69 (by kernel_rfl) (by kernel_rfl)
/-- slices.insertionSortCmpFunc[signpost/download.Op] -/
def b70 : BC := .seq (.ops [⟨some 10, none, .pure (.mov), [.t 1]⟩, ⟨some 11, none, .pure (.bin .add), [.t 10, .c (.int .i64 1)]⟩, ⟨some 8, none, .pure (.mov), [.t 11]⟩] [0, 1, 2, 3, 8]) (.block 0 (.loop [0, 1, 2, 3, 8] (.seq (.seq (.ops [⟨some 12, none, .pure (.mov), [.t 8]⟩, ⟨some 13, none, .pure (.mov), [.t 2]⟩, ⟨some 14, none, .pure (.bin .lss), [.t 12, .t 13]⟩] [0, 1, 2, 3, 8, 14]) (.cond (.t 14) (.skip) (.exit 0))) (.seq (.block 1 (.seq (.ops [⟨some 17, none, .pure (.mov), [.t 8]⟩, ⟨some 9, none, .pure (.mov), [.t 17]⟩] [0, 1, 2, 3, 8, 9]) (.block 2 (.loop [0, 1, 2, 3, 8, 9] (.seq (.seq (.ops [⟨some 18, none, .pure (.mov), [.t 9]⟩, ⟨some 19, none, .pure (.mov), [.t 1]⟩, ⟨some 20, none, .pure (.bin .gtr), [.t 18, .t 19]⟩, ⟨some 21, none, .pure (.mov), [.t 20]⟩, ⟨some 22, some (21, true), .pure (.mov), [.t 3]⟩, ⟨some 23, some (21, true), .pure (.mov), [.t 0]⟩, ⟨some 24, some (21, true), .pure (.mov), [.t 9]⟩, ⟨some 25, some (21, true), .pure (.idx 4), [.t 23, .t 24]⟩, ⟨some 27, some (21, true), .pure (.mov), [.t 0]⟩, ⟨some 28, some (21, true), .pure (.mov), [.t 9]⟩, ⟨some 29, some (21, true), .pure (.bin .sub), [.t 28, .c (.int .i64 1)]⟩, ⟨some 30, some (21, true), .pure (.idx 4), [.t 27, .t 29]⟩, ⟨some 26, some (21, true), .load (.ld 4 true), [.t 25]⟩, ⟨some 31, some (21, true), .load (.ld 4 true), [.t 30]⟩, ⟨some 32, some (21, true), .loud (.callv), [.t 22, .t 26, .t 31]⟩, ⟨some 33, some (21, true), .pure (.bin .lss), [.t 32, .c (.int .i64 0)]⟩, ⟨some 34, none, .pick, [.t 21, .t 33, .c (.bool false)]⟩] [0, 1, 2, 3, 8, 9, 34]) (.cond (.t 34) (.skip) (.exit 2))) (.seq (.block 3 (.ops [⟨some 37, none, .pure (.mov), [.t 0]⟩, ⟨some 38, none, .pure (.mov), [.t 9]⟩, ⟨some 39, none, .pure (.mov), [.t 0]⟩, ⟨some 40, none, .pure (.mov), [.t 9]⟩, ⟨some 41, none, .pure (.bin .sub), [.t 40, .c (.int .i64 1)]⟩, ⟨some 42, none, .pure (.mov), [.t 0]⟩, ⟨some 43, none, .pure (.mov), [.t 9]⟩, ⟨some 44, none, .pure (.bin .sub), [.t 43, .c (.int .i64 1)]⟩, ⟨some 45, none, .pure (.idx 4), [.t 42, .t 44]⟩, ⟨some 47, none, .pure (.mov), [.t 0]⟩, ⟨some 48, none, .pure (.mov), [.t 9]⟩, ⟨some 49, none, .pure (.idx 4), [.t 47, .t 48]⟩, ⟨some 46, none, .load (.ld 4 true), [.t 45]⟩, ⟨some 50, none, .load (.ld 4 true), [.t 49]⟩, ⟨some 51, none, .pure (.idx 4), [.t 37, .t 38]⟩, ⟨none, none, .loud (.st 4), [.t 51, .t 46]⟩, ⟨some 52, none, .pure (.idx 4), [.t 39, .t 41]⟩, ⟨none, none, .loud (.st 4), [.t 52, .t 50]⟩] [0, 1, 2, 3, 8, 9])) (.ops [⟨some 35, none, .pure (.mov), [.t 9]⟩, ⟨some 36, none, .pure (.bin .sub), [.t 35, .c (.int .i64 1)]⟩, ⟨some 9, none, .pure (.mov), [.t 36]⟩] [0, 1, 2, 3, 8, 9]))))))) (.ops [⟨some 15, none, .pure (.mov), [.t 8]⟩, ⟨some 16, none, .pure (.bin .add), [.t 15, .c (.int .i64 1)]⟩, ⟨some 8, none, .pure (.mov), [.t 16]⟩] [0, 1, 2, 3, 8])))))
def F70 : Fn Try.prog 70 := Fn.mk' b70 [] 53 Try.f70 _ Try.func70 (by decide) rfl Try.ntmps70 (by kernel_rfl) (by kernel_rfl)
/-- slices.heapSortCmpFunc[signpost/download.Op] -/
def b71 : BC := .seq (.ops [⟨some 13, none, .pure (.mov), [.t 1]⟩, ⟨some 8, none, .pure (.mov), [.t 13]⟩] [0, 1, 2, 3, 8]) (.seq (.ops [⟨some 9, none, .pure (.mov), [.c (.int .i64 0)]⟩] [0, 1, 2, 3, 8, 9]) (.seq (.ops [⟨some 14, none, .pure (.mov), [.t 2]⟩, ⟨some 15, none, .pure (.mov), [.t 1]⟩, ⟨some 16, none, .pure (.bin .sub), [.t 14, .t 15]⟩, ⟨some 10, none, .pure (.mov), [.t 16]⟩] [0, 3, 8, 9, 10]) (.seq (.seq (.ops [⟨some 17, none, .pure (.mov), [.t 10]⟩, ⟨some 18, none, .pure (.bin .sub), [.t 17, .c (.int .i64 1)]⟩, ⟨some 19, none, .pure (.bin .quo), [.t 18, .c (.int .i64 2)]⟩, ⟨some 11, none, .pure (.mov), [.t 19]⟩] [0, 3, 8, 9, 10, 11]) (.block 0 (.loop [0, 3, 8, 9, 10, 11] (.seq (.seq (.ops [⟨some 20, none, .pure (.mov), [.t 11]⟩, ⟨some 21, none, .pure (.bin .geq), [.t 20, .c (.int .i64 0)]⟩] [0, 3, 8, 9, 10, 11, 21]) (.cond (.t 21) (.skip) (.exit 0))) (.seq (.block 1 (.ops [⟨some 24, none, .pure (.mov), [.t 0]⟩, ⟨some 25, none, .pure (.mov), [.t 11]⟩, ⟨some 26, none, .pure (.mov), [.t 10]⟩, ⟨some 27, none, .pure (.mov), [.t 8]⟩, ⟨some 28, none, .pure (.mov), [.t 3]⟩, ⟨some 29, none, .loud (.call 85), [.t 24, .t 25, .t 26, .t 27, .t 28]⟩] [0, 3, 8, 9, 10, 11])) (.ops [⟨some 22, none, .pure (.mov), [.t 11]⟩, ⟨some 23, none, .pure (.bin .sub), [.t 22, .c (.int .i64 1)]⟩, ⟨some 11, none, .pure (.mov), [.t 23]⟩] [0, 3, 8, 9, 10, 11])))))) (.seq (.ops [⟨some 30, none, .pure (.mov), [.t 10]⟩, ⟨some 31, none, .pure (.bin .sub), [.t 30, .c (.int .i64 1)]⟩, ⟨some 12, none, .pure (.mov), [.t 31]⟩] [0, 3, 8, 9, 12]) (.block 2 (.loop [0, 3, 8, 9, 12] (.seq (.seq (.ops [⟨some 32, none, .pure (.mov), [.t 12]⟩, ⟨some 33, none, .pure (.bin .geq), [.t 32, .c (.int .i64 0)]⟩] [0, 3, 8, 9, 12, 33]) (.cond (.t 33) (.skip) (.exit 2))) (.seq (.block 3 (.seq (.ops [⟨some 36, none, .pure (.mov), [.t 0]⟩, ⟨some 37, none, .pure (.mov), [.t 8]⟩, ⟨some 38, none, .pure (.mov), [.t 0]⟩, ⟨some 39, none, .pure (.mov), [.t 8]⟩, ⟨some 40, none, .pure (.mov), [.t 12]⟩, ⟨some 41, none, .pure (.bin .add), [.t 39, .t 40]⟩, ⟨some 42, none, .pure (.mov), [.t 0]⟩, ⟨some 43, none, .pure (.mov), [.t 8]⟩, ⟨some 44, none, .pure (.mov), [.t 12]⟩, ⟨some 45, none, .pure (.bin .add), [.t 43, .t 44]⟩, ⟨some 46, none, .pure (.idx 4), [.t 42, .t 45]⟩, ⟨some 48, none, .pure (.mov), [.t 0]⟩, ⟨some 49, none, .pure (.mov), [.t 8]⟩, ⟨some 50, none, .pure (.idx 4), [.t 48, .t 49]⟩, ⟨some 47, none, .load (.ld 4 true), [.t 46]⟩, ⟨some 51, none, .load (.ld 4 true), [.t 50]⟩, ⟨some 52, none, .pure (.idx 4), [.t 36, .t 37]⟩, ⟨none, none, .loud (.st 4), [.t 52, .t 47]⟩, ⟨some 53, none, .pure (.idx 4), [.t 38, .t 41]⟩, ⟨none, none, .loud (.st 4), [.t 53, .t 51]⟩] [0, 3, 8, 9, 12]) (.ops [⟨some 54, none, .pure (.mov), [.t 0]⟩, ⟨some 55, none, .pure (.mov), [.t 9]⟩, ⟨some 56, none, .pure (.mov), [.t 12]⟩, ⟨some 57, none, .pure (.mov), [.t 8]⟩, ⟨some 58, none, .pure (.mov), [.t 3]⟩, ⟨some 59, none, .loud (.call 85), [.t 54, .t 55, .t 56, .t 57, .t 58]⟩] [0, 3, 8, 9, 12]))) (.ops [⟨some 34, none, .pure (.mov), [.t 12]⟩, ⟨some 35, none, .pure (.bin .sub), [.t 34, .c (.int .i64 1)]⟩, ⟨some 12, none, .pure (.mov), [.t 35]⟩] [0, 3, 8, 9, 12])))))))))
def F71 : Fn Try.prog 71 := Fn.mk' b71 [] 60 Try.f71 _ Try.func71 (by decide) rfl Try.ntmps71 (by kernel_rfl) (by kernel_rfl)
/-- slices.breakPatternsCmpFunc[signpost/download.Op] -/
def b72 : BC := .seq (.ops [⟨some 13, none, .pure (.mov), [.t 2]⟩, ⟨some 14, none, .pure (.mov), [.t 1]⟩, ⟨some 15, none, .pure (.bin .sub), [.t 13, .t 14]⟩, ⟨some 8, none, .pure (.mov), [.t 15]⟩] [0, 1, 8]) (.seq (.ops [⟨some 16, none, .pure (.mov), [.t 8]⟩, ⟨some 17, none, .pure (.bin .geq), [.t 16, .c (.int .i64 8)]⟩] [0, 1, 8, 17]) (.cond (.t 17) (.seq (.ops [⟨some 18, none, .pure (.mov), [.t 8]⟩, ⟨some 19, none, .pure (.conv .u64), [.t 18]⟩, ⟨some 9, none, .alloc (.alloc [(.int .u64 0)]), []⟩, ⟨none, none, .loud (.st 1), [.t 9, .t 19]⟩] [0, 1, 8, 9]) (.seq (.ops [⟨some 20, none, .pure (.mov), [.t 8]⟩, ⟨some 21, none, .loud (.call 86), [.t 20]⟩, ⟨some 10, none, .pure (.mov), [.t 21]⟩] [0, 1, 8, 9, 10]) (.seq (.ops [⟨some 22, none, .pure (.mov), [.t 1]⟩, ⟨some 23, none, .pure (.mov), [.t 8]⟩, ⟨some 24, none, .pure (.bin .quo), [.t 23, .c (.int .i64 4)]⟩, ⟨some 25, none, .pure (.bin .mul), [.t 24, .c (.int .i64 2)]⟩, ⟨some 26, none, .pure (.bin .add), [.t 22, .t 25]⟩, ⟨some 27, none, .pure (.bin .sub), [.t 26, .c (.int .i64 1)]⟩, ⟨some 11, none, .pure (.mov), [.t 27]⟩] [0, 1, 8, 9, 10, 11]) (.block 0 (.loop [0, 1, 8, 9, 10, 11] (.seq (.seq (.ops [⟨some 28, none, .pure (.mov), [.t 11]⟩, ⟨some 29, none, .pure (.mov), [.t 1]⟩, ⟨some 30, none, .pure (.mov), [.t 8]⟩, ⟨some 31, none, .pure (.bin .quo), [.t 30, .c (.int .i64 4)]⟩, ⟨some 32, none, .pure (.bin .mul), [.t 31, .c (.int .i64 2)]⟩, ⟨some 33, none, .pure (.bin .add), [.t 29, .t 32]⟩, ⟨some 34, none, .pure (.bin .add), [.t 33, .c (.int .i64 1)]⟩, ⟨some 35, none, .pure (.bin .leq), [.t 28, .t 34]⟩] [0, 1, 8, 9, 10, 11, 35]) (.cond (.t 35) (.skip) (.exit 0))) (.seq (.block 1 (.seq (.ops [⟨some 38, none, .loud (.call 87), [.t 9]⟩, ⟨some 39, none, .pure (.mov), [.t 10]⟩, ⟨some 40, none, .pure (.bin .sub), [.t 39, .c (.int .u64 1)]⟩, ⟨some 41, none, .pure (.bin .and), [.t 38, .t 40]⟩, ⟨some 42, none, .pure (.conv .i64), [.t 41]⟩, ⟨some 12, none, .pure (.mov), [.t 42]⟩] [0, 1, 8, 9, 10, 11, 12]) (.seq (.seq (.ops [⟨some 43, none, .pure (.mov), [.t 12]⟩, ⟨some 44, none, .pure (.mov), [.t 8]⟩, ⟨some 45, none, .pure (.bin .geq), [.t 43, .t 44]⟩] [0, 1, 8, 9, 10, 11, 12, 45]) (.cond (.t 45) (.ops [⟨some 46, none, .pure (.mov), [.t 12]⟩, ⟨some 47, none, .pure (.mov), [.t 8]⟩, ⟨some 48, none, .pure (.bin .sub), [.t 46, .t 47]⟩, ⟨some 12, none, .pure (.mov), [.t 48]⟩] [0, 1, 8, 9, 10, 11, 12]) (.skip))) (.ops [⟨some 49, none, .pure (.mov), [.t 0]⟩, ⟨some 50, none, .pure (.mov), [.t 11]⟩, ⟨some 51, none, .pure (.mov), [.t 0]⟩, ⟨some 52, none, .pure (.mov), [.t 1]⟩, ⟨some 53, none, .pure (.mov), [.t 12]⟩, ⟨some 54, none, .pure (.bin .add), [.t 52, .t 53]⟩, ⟨some 55, none, .pure (.mov), [.t 0]⟩, ⟨some 56, none, .pure (.mov), [.t 1]⟩, ⟨some 57, none, .pure (.mov), [.t 12]⟩, ⟨some 58, none, .pure (.bin .add), [.t 56, .t 57]⟩, ⟨some 59, none, .pure (.idx 4), [.t 55, .t 58]⟩, ⟨some 61, none, .pure (.mov), [.t 0]⟩, ⟨some 62, none, .pure (.mov), [.t 11]⟩, ⟨some 63, none, .pure (.idx 4), [.t 61, .t 62]⟩, ⟨some 60, none, .load (.ld 4 true), [.t 59]⟩, ⟨some 64, none, .load (.ld 4 true), [.t 63]⟩, ⟨some 65, none, .pure (.idx 4), [.t 49, .t 50]⟩, ⟨none, none, .loud (.st 4), [.t 65, .t 60]⟩, ⟨some 66, none, .pure (.idx 4), [.t 51, .t 54]⟩, ⟨none, none, .loud (.st 4), [.t 66, .t 64]⟩] [0, 1, 8, 9, 10, 11])))) (.ops [⟨some 36, none, .pure (.mov), [.t 11]⟩, ⟨some 37, none, .pure (.bin .add), [.t 36, .c (.int .i64 1)]⟩, ⟨some 11, none, .pure (.mov), [.t 37]⟩] [0, 1, 8, 9, 10, 11])))))))) (.skip)))
def F72 : Fn Try.prog 72 := Fn.mk' b72 [] 67 Try.f72 _ Try.func72 (by decide) rfl Try.ntmps72 (by kernel_rfl) (by kernel_rfl)
/-- slices.choosePivotCmpFunc[signpost/download.Op] -/
def b73 : BC := .seq (.ops [⟨some 8, none, .pure (.mov), [.c (.int .i64 0)]⟩, ⟨some 9, none, .pure (.mov), [.c (.int .i64 0)]⟩] [0, 1, 2, 3]) (.seq (.ops [⟨some 15, none, .pure (.mov), [.t 2]⟩, ⟨some 16, none, .pure (.mov), [.t 1]⟩, ⟨some 17, none, .pure (.bin .sub), [.t 15, .t 16]⟩, ⟨some 10, none, .pure (.mov), [.t 17]⟩] [0, 1, 3, 10]) (.seq (.ops [⟨some 11, none, .alloc (.alloc [(.int .i64 0)]), []⟩] [0, 1, 3, 10, 11]) (.seq (.ops [⟨some 18, none, .pure (.mov), [.t 1]⟩, ⟨some 19, none, .pure (.mov), [.t 10]⟩, ⟨some 20, none, .pure (.bin .quo), [.t 19, .c (.int .i64 4)]⟩, ⟨some 21, none, .pure (.bin .mul), [.t 20, .c (.int .i64 1)]⟩, ⟨some 22, none, .pure (.bin .add), [.t 18, .t 21]⟩, ⟨some 12, none, .pure (.mov), [.t 22]⟩] [0, 1, 3, 10, 11, 12]) (.seq (.ops [⟨some 23, none, .pure (.mov), [.t 1]⟩, ⟨some 24, none, .pure (.mov), [.t 10]⟩, ⟨some 25, none, .pure (.bin .quo), [.t 24, .c (.int .i64 4)]⟩, ⟨some 26, none, .pure (.bin .mul), [.t 25, .c (.int .i64 2)]⟩, ⟨some 27, none, .pure (.bin .add), [.t 23, .t 26]⟩, ⟨some 13, none, .pure (.mov), [.t 27]⟩] [0, 1, 3, 10, 11, 12, 13]) (.seq (.ops [⟨some 28, none, .pure (.mov), [.t 1]⟩, ⟨some 29, none, .pure (.mov), [.t 10]⟩, ⟨some 30, none, .pure (.bin .quo), [.t 29, .c (.int .i64 4)]⟩, ⟨some 31, none, .pure (.bin .mul), [.t 30, .c (.int .i64 3)]⟩, ⟨some 32, none, .pure (.bin .add), [.t 28, .t 31]⟩, ⟨some 14, none, .pure (.mov), [.t 32]⟩] [0, 3, 10, 11, 12, 13, 14]) (.seq (.seq (.ops [⟨some 33, none, .pure (.mov), [.t 10]⟩, ⟨some 34, none, .pure (.bin .geq), [.t 33, .c (.int .i64 8)]⟩] [0, 3, 10, 11, 12, 13, 14, 34]) (.cond (.t 34) (.seq (.seq (.ops [⟨some 35, none, .pure (.mov), [.t 10]⟩, ⟨some 36, none, .pure (.bin .geq), [.t 35, .c (.int .i64 50)]⟩] [0, 3, 11, 12, 13, 14, 36]) (.cond (.t 36) (.seq (.ops [⟨some 37, none, .pure (.mov), [.t 0]⟩, ⟨some 38, none, .pure (.mov), [.t 12]⟩, ⟨some 39, none, .pure (.mov), [.t 3]⟩, ⟨some 40, none, .loud (.call 88), [.t 37, .t 38, .t 11, .t 39]⟩, ⟨some 12, none, .pure (.mov), [.t 40]⟩] [0, 3, 11, 12, 13, 14]) (.seq (.ops [⟨some 41, none, .pure (.mov), [.t 0]⟩, ⟨some 42, none, .pure (.mov), [.t 13]⟩, ⟨some 43, none, .pure (.mov), [.t 3]⟩, ⟨some 44, none, .loud (.call 88), [.t 41, .t 42, .t 11, .t 43]⟩, ⟨some 13, none, .pure (.mov), [.t 44]⟩] [0, 3, 11, 12, 13, 14]) (.ops [⟨some 45, none, .pure (.mov), [.t 0]⟩, ⟨some 46, none, .pure (.mov), [.t 14]⟩, ⟨some 47, none, .pure (.mov), [.t 3]⟩, ⟨some 48, none, .loud (.call 88), [.t 45, .t 46, .t 11, .t 47]⟩, ⟨some 14, none, .pure (.mov), [.t 48]⟩] [0, 3, 11, 12, 13, 14]))) (.skip))) (.ops [⟨some 49, none, .pure (.mov), [.t 0]⟩, ⟨some 50, none, .pure (.mov), [.t 12]⟩, ⟨some 51, none, .pure (.mov), [.t 13]⟩, ⟨some 52, none, .pure (.mov), [.t 14]⟩, ⟨some 53, none, .pure (.mov), [.t 3]⟩, ⟨some 54, none, .loud (.call 89), [.t 49, .t 50, .t 51, .t 52, .t 11, .t 53]⟩, ⟨some 13, none, .pure (.mov), [.t 54]⟩] [11, 13])) (.skip))) (.seq (.ops [⟨some 55, none, .load (.ld 1 false), [.t 11]⟩] [13, 55]) (.block 0 (.seq (.ops [⟨some 58, none, .pure (.bin .eql), [.t 55, .c (.int .i64 0)]⟩, ⟨some 57, none, .pure (.mov), [.t 58]⟩] [13, 55, 57]) (.cond (.t 57) (.seq (.ops [⟨some 59, none, .pure (.mov), [.t 13]⟩, ⟨some 8, none, .pure (.mov), [.t 59]⟩, ⟨some 9, none, .pure (.mov), [.c (.int .i64 1)]⟩] [8, 9]) (.ret)) (.seq (.ops [⟨some 61, none, .pure (.bin .eql), [.t 55, .c (.int .i64 12)]⟩, ⟨some 60, none, .pure (.mov), [.t 61]⟩] [13, 60]) (.cond (.t 60) (.seq (.ops [⟨some 62, none, .pure (.mov), [.t 13]⟩, ⟨some 8, none, .pure (.mov), [.t 62]⟩, ⟨some 9, none, .pure (.mov), [.c (.int .i64 2)]⟩] [8, 9]) (.ret)) (.seq (.ops [⟨some 56, none, .pure (.mov), [.t 13]⟩, ⟨some 8, none, .pure (.mov), [.t 56]⟩, ⟨some 9, none, .pure (.mov), [.c (.int .i64 0)]⟩] [8, 9]) (.ret))))))))))))))
def F73 : Fn Try.prog 73 := Fn.mk' b73 [.t 8, .t 9] 63 Try.f73 _ Try.func73 (by decide) rfl Try.ntmps73 (by kernel_rfl) (by kernel_rfl)
/-- slices.reverseRangeCmpFunc[signpost/download.Op] -/
def b74 : BC := .seq (.ops [⟨some 10, none, .pure (.mov), [.t 1]⟩, ⟨some 8, none, .pure (.mov), [.t 10]⟩] [0, 2, 8]) (.seq (.ops [⟨some 11, none, .pure (.mov), [.t 2]⟩, ⟨some 12, none, .pure (.bin .sub), [.t 11, .c (.int .i64 1)]⟩, ⟨some 9, none, .pure (.mov), [.t 12]⟩] [0, 8, 9]) (.block 0 (.loop [0, 8, 9] (.seq (.seq (.ops [⟨some 13, none, .pure (.mov), [.t 8]⟩, ⟨some 14, none, .pure (.mov), [.t 9]⟩, ⟨some 15, none, .pure (.bin .lss), [.t 13, .t 14]⟩] [0, 8, 9, 15]) (.cond (.t 15) (.skip) (.exit 0))) (.block 1 (.seq (.ops [⟨some 16, none, .pure (.mov), [.t 0]⟩, ⟨some 17, none, .pure (.mov), [.t 8]⟩, ⟨some 18, none, .pure (.mov), [.t 0]⟩, ⟨some 19, none, .pure (.mov), [.t 9]⟩, ⟨some 20, none, .pure (.mov), [.t 0]⟩, ⟨some 21, none, .pure (.mov), [.t 9]⟩, ⟨some 22, none, .pure (.idx 4), [.t 20, .t 21]⟩, ⟨some 24, none, .pure (.mov), [.t 0]⟩, ⟨some 25, none, .pure (.mov), [.t 8]⟩, ⟨some 26, none, .pure (.idx 4), [.t 24, .t 25]⟩, ⟨some 23, none, .load (.ld 4 true), [.t 22]⟩, ⟨some 27, none, .load (.ld 4 true), [.t 26]⟩, ⟨some 28, none, .pure (.idx 4), [.t 16, .t 17]⟩, ⟨none, none, .loud (.st 4), [.t 28, .t 23]⟩, ⟨some 29, none, .pure (.idx 4), [.t 18, .t 19]⟩, ⟨none, none, .loud (.st 4), [.t 29, .t 27]⟩] [0, 8, 9]) (.seq (.ops [⟨some 30, none, .pure (.mov), [.t 8]⟩, ⟨some 31, none, .pure (.bin .add), [.t 30, .c (.int .i64 1)]⟩, ⟨some 8, none, .pure (.mov), [.t 31]⟩] [0, 8, 9]) (.ops [⟨some 32, none, .pure (.mov), [.t 9]⟩, ⟨some 33, none, .pure (.bin .sub), [.t 32, .c (.int .i64 1)]⟩, ⟨some 9, none, .pure (.mov), [.t 33]⟩] [0, 8, 9]))))))))
def F74 : Fn Try.prog 74 := Fn.mk' b74 [] 34 Try.f74 _ Try.func74 (by decide) rfl Try.ntmps74 (by kernel_rfl) (by kernel_rfl)
/-- slices.partialInsertionSortCmpFunc[signpost/download.Op] -/
def b75 : BC := .seq (.ops [⟨some 8, none, .pure (.mov), [.c (.bool false)]⟩] [0, 1, 2, 3]) (.seq (.ops [⟨some 13, none, .pure (.mov), [.t 1]⟩, ⟨some 14, none, .pure (.bin .add), [.t 13, .c (.int .i64 1)]⟩, ⟨some 9, none, .pure (.mov), [.t 14]⟩] [0, 1, 2, 3, 9]) (.seq (.seq (.ops [⟨some 10, none, .pure (.mov), [.c (.int .i64 0)]⟩] [0, 1, 2, 3, 9, 10]) (.block 0 (.loop [0, 1, 2, 3, 9, 10] (.seq (.seq (.ops [⟨some 15, none, .pure (.mov), [.t 10]⟩, ⟨some 16, none, .pure (.bin .lss), [.t 15, .c (.int .i64 5)]⟩] [0, 1, 2, 3, 9, 10, 16]) (.cond (.t 16) (.skip) (.exit 0))) (.seq (.block 1 (.seq (.block 2 (.loop [0, 1, 2, 3, 9, 10] (.seq (.seq (.ops [⟨some 19, none, .pure (.mov), [.t 9]⟩, ⟨some 20, none, .pure (.mov), [.t 2]⟩, ⟨some 21, none, .pure (.bin .lss), [.t 19, .t 20]⟩, ⟨some 22, none, .pure (.mov), [.t 21]⟩, ⟨some 23, some (22, true), .pure (.mov), [.t 3]⟩, ⟨some 24, some (22, true), .pure (.mov), [.t 0]⟩, ⟨some 25, some (22, true), .pure (.mov), [.t 9]⟩, ⟨some 26, some (22, true), .pure (.idx 4), [.t 24, .t 25]⟩, ⟨some 28, some (22, true), .pure (.mov), [.t 0]⟩, ⟨some 29, some (22, true), .pure (.mov), [.t 9]⟩, ⟨some 30, some (22, true), .pure (.bin .sub), [.t 29, .c (.int .i64 1)]⟩, ⟨some 31, some (22, true), .pure (.idx 4), [.t 28, .t 30]⟩, ⟨some 27, some (22, true), .load (.ld 4 true), [.t 26]⟩, ⟨some 32, some (22, true), .load (.ld 4 true), [.t 31]⟩, ⟨some 33, some (22, true), .loud (.callv), [.t 23, .t 27, .t 32]⟩, ⟨some 34, some (22, true), .pure (.bin .lss), [.t 33, .c (.int .i64 0)]⟩, ⟨some 35, some (22, true), .pure (.not), [.t 34]⟩, ⟨some 36, none, .pick, [.t 22, .t 35, .c (.bool false)]⟩] [0, 1, 2, 3, 9, 10, 36]) (.cond (.t 36) (.skip) (.exit 2))) (.block 3 (.ops [⟨some 37, none, .pure (.mov), [.t 9]⟩, ⟨some 38, none, .pure (.bin .add), [.t 37, .c (.int .i64 1)]⟩, ⟨some 9, none, .pure (.mov), [.t 38]⟩] [0, 1, 2, 3, 9, 10]))))) (.seq (.seq (.ops [⟨some 39, none, .pure (.mov), [.t 9]⟩, ⟨some 40, none, .pure (.mov), [.t 2]⟩, ⟨some 41, none, .pure (.bin .eql), [.t 39, .t 40]⟩] [0, 1, 2, 3, 9, 10, 41]) (.cond (.t 41) (.seq (.ops [⟨some 8, none, .pure (.mov), [.c (.bool true)]⟩] [8]) (.ret)) (.skip))) (.seq (.seq (.ops [⟨some 42, none, .pure (.mov), [.t 2]⟩, ⟨some 43, none, .pure (.mov), [.t 1]⟩, ⟨some 44, none, .pure (.bin .sub), [.t 42, .t 43]⟩, ⟨some 45, none, .pure (.bin .lss), [.t 44, .c (.int .i64 50)]⟩] [0, 1, 2, 3, 9, 10, 45]) (.cond (.t 45) (.seq (.ops [⟨some 8, none, .pure (.mov), [.c (.bool false)]⟩] [8]) (.ret)) (.skip))) (.seq (.ops [⟨some 46, none, .pure (.mov), [.t 0]⟩, ⟨some 47, none, .pure (.mov), [.t 9]⟩, ⟨some 48, none, .pure (.mov), [.t 0]⟩, ⟨some 49, none, .pure (.mov), [.t 9]⟩, ⟨some 50, none, .pure (.bin .sub), [.t 49, .c (.int .i64 1)]⟩, ⟨some 51, none, .pure (.mov), [.t 0]⟩, ⟨some 52, none, .pure (.mov), [.t 9]⟩, ⟨some 53, none, .pure (.bin .sub), [.t 52, .c (.int .i64 1)]⟩, ⟨some 54, none, .pure (.idx 4), [.t 51, .t 53]⟩, ⟨some 56, none, .pure (.mov), [.t 0]⟩, ⟨some 57, none, .pure (.mov), [.t 9]⟩, ⟨some 58, none, .pure (.idx 4), [.t 56, .t 57]⟩, ⟨some 55, none, .load (.ld 4 true), [.t 54]⟩, ⟨some 59, none, .load (.ld 4 true), [.t 58]⟩, ⟨some 60, none, .pure (.idx 4), [.t 46, .t 47]⟩, ⟨none, none, .loud (.st 4), [.t 60, .t 55]⟩, ⟨some 61, none, .pure (.idx 4), [.t 48, .t 50]⟩, ⟨none, none, .loud (.st 4), [.t 61, .t 59]⟩] [0, 1, 2, 3, 9, 10]) (.seq (.seq (.ops [⟨some 62, none, .pure (.mov), [.t 9]⟩, ⟨some 63, none, .pure (.mov), [.t 1]⟩, ⟨some 64, none, .pure (.bin .sub), [.t 62, .t 63]⟩, ⟨some 65, none, .pure (.bin .geq), [.t 64, .c (.int .i64 2)]⟩] [0, 1, 2, 3, 9, 10, 65]) (.cond (.t 65) (.seq (.ops [⟨some 66, none, .pure (.mov), [.t 9]⟩, ⟨some 67, none, .pure (.bin .sub), [.t 66, .c (.int .i64 1)]⟩, ⟨some 11, none, .pure (.mov), [.t 67]⟩] [0, 1, 2, 3, 9, 10, 11]) (.block 4 (.loop [0, 1, 2, 3, 9, 10, 11] (.seq (.seq (.ops [⟨some 68, none, .pure (.mov), [.t 11]⟩, ⟨some 69, none, .pure (.bin .geq), [.t 68, .c (.int .i64 1)]⟩] [0, 1, 2, 3, 9, 10, 11, 69]) (.cond (.t 69) (.skip) (.exit 4))) (.seq (.block 5 (.seq (.seq (.ops [⟨some 72, none, .pure (.mov), [.t 3]⟩, ⟨some 73, none, .pure (.mov), [.t 0]⟩, ⟨some 74, none, .pure (.mov), [.t 11]⟩, ⟨some 75, none, .pure (.idx 4), [.t 73, .t 74]⟩, ⟨some 77, none, .pure (.mov), [.t 0]⟩, ⟨some 78, none, .pure (.mov), [.t 11]⟩, ⟨some 79, none, .pure (.bin .sub), [.t 78, .c (.int .i64 1)]⟩, ⟨some 80, none, .pure (.idx 4), [.t 77, .t 79]⟩, ⟨some 76, none, .load (.ld 4 true), [.t 75]⟩, ⟨some 81, none, .load (.ld 4 true), [.t 80]⟩, ⟨some 82, none, .loud (.callv), [.t 72, .t 76, .t 81]⟩, ⟨some 83, none, .pure (.bin .lss), [.t 82, .c (.int .i64 0)]⟩, ⟨some 84, none, .pure (.not), [.t 83]⟩] [0, 1, 2, 3, 9, 10, 11, 84]) (.cond (.t 84) (.exit 4) (.skip))) (.ops [⟨some 85, none, .pure (.mov), [.t 0]⟩, ⟨some 86, none, .pure (.mov), [.t 11]⟩, ⟨some 87, none, .pure (.mov), [.t 0]⟩, ⟨some 88, none, .pure (.mov), [.t 11]⟩, ⟨some 89, none, .pure (.bin .sub), [.t 88, .c (.int .i64 1)]⟩, ⟨some 90, none, .pure (.mov), [.t 0]⟩, ⟨some 91, none, .pure (.mov), [.t 11]⟩, ⟨some 92, none, .pure (.bin .sub), [.t 91, .c (.int .i64 1)]⟩, ⟨some 93, none, .pure (.idx 4), [.t 90, .t 92]⟩, ⟨some 95, none, .pure (.mov), [.t 0]⟩, ⟨some 96, none, .pure (.mov), [.t 11]⟩, ⟨some 97, none, .pure (.idx 4), [.t 95, .t 96]⟩, ⟨some 94, none, .load (.ld 4 true), [.t 93]⟩, ⟨some 98, none, .load (.ld 4 true), [.t 97]⟩, ⟨some 99, none, .pure (.idx 4), [.t 85, .t 86]⟩, ⟨none, none, .loud (.st 4), [.t 99, .t 94]⟩, ⟨some 100, none, .pure (.idx 4), [.t 87, .t 89]⟩, ⟨none, none, .loud (.st 4), [.t 100, .t 98]⟩] [0, 1, 2, 3, 9, 10, 11]))) (.ops [⟨some 70, none, .pure (.mov), [.t 11]⟩, ⟨some 71, none, .pure (.bin .sub), [.t 70, .c (.int .i64 1)]⟩, ⟨some 11, none, .pure (.mov), [.t 71]⟩] [0, 1, 2, 3, 9, 10, 11])))))) (.skip))) (.seq (.ops [⟨some 101, none, .pure (.mov), [.t 2]⟩, ⟨some 102, none, .pure (.mov), [.t 9]⟩, ⟨some 103, none, .pure (.bin .sub), [.t 101, .t 102]⟩, ⟨some 104, none, .pure (.bin .geq), [.t 103, .c (.int .i64 2)]⟩] [0, 1, 2, 3, 9, 10, 104]) (.cond (.t 104) (.seq (.ops [⟨some 105, none, .pure (.mov), [.t 9]⟩, ⟨some 106, none, .pure (.bin .add), [.t 105, .c (.int .i64 1)]⟩, ⟨some 12, none, .pure (.mov), [.t 106]⟩] [0, 1, 2, 3, 9, 10, 12]) (.block 6 (.loop [0, 1, 2, 3, 9, 10, 12] (.seq (.seq (.ops [⟨some 107, none, .pure (.mov), [.t 12]⟩, ⟨some 108, none, .pure (.mov), [.t 2]⟩, ⟨some 109, none, .pure (.bin .lss), [.t 107, .t 108]⟩] [0, 1, 2, 3, 9, 10, 12, 109]) (.cond (.t 109) (.skip) (.exit 6))) (.seq (.block 7 (.seq (.seq (.ops [⟨some 112, none, .pure (.mov), [.t 3]⟩, ⟨some 113, none, .pure (.mov), [.t 0]⟩, ⟨some 114, none, .pure (.mov), [.t 12]⟩, ⟨some 115, none, .pure (.idx 4), [.t 113, .t 114]⟩, ⟨some 117, none, .pure (.mov), [.t 0]⟩, ⟨some 118, none, .pure (.mov), [.t 12]⟩, ⟨some 119, none, .pure (.bin .sub), [.t 118, .c (.int .i64 1)]⟩, ⟨some 120, none, .pure (.idx 4), [.t 117, .t 119]⟩, ⟨some 116, none, .load (.ld 4 true), [.t 115]⟩, ⟨some 121, none, .load (.ld 4 true), [.t 120]⟩, ⟨some 122, none, .loud (.callv), [.t 112, .t 116, .t 121]⟩, ⟨some 123, none, .pure (.bin .lss), [.t 122, .c (.int .i64 0)]⟩, ⟨some 124, none, .pure (.not), [.t 123]⟩] [0, 1, 2, 3, 9, 10, 12, 124]) (.cond (.t 124) (.exit 6) (.skip))) (.ops [⟨some 125, none, .pure (.mov), [.t 0]⟩, ⟨some 126, none, .pure (.mov), [.t 12]⟩, ⟨some 127, none, .pure (.mov), [.t 0]⟩, ⟨some 128, none, .pure (.mov), [.t 12]⟩, ⟨some 129, none, .pure (.bin .sub), [.t 128, .c (.int .i64 1)]⟩, ⟨some 130, none, .pure (.mov), [.t 0]⟩, ⟨some 131, none, .pure (.mov), [.t 12]⟩, ⟨some 132, none, .pure (.bin .sub), [.t 131, .c (.int .i64 1)]⟩, ⟨some 133, none, .pure (.idx 4), [.t 130, .t 132]⟩, ⟨some 135, none, .pure (.mov), [.t 0]⟩, ⟨some 136, none, .pure (.mov), [.t 12]⟩, ⟨some 137, none, .pure (.idx 4), [.t 135, .t 136]⟩, ⟨some 134, none, .load (.ld 4 true), [.t 133]⟩, ⟨some 138, none, .load (.ld 4 true), [.t 137]⟩, ⟨some 139, none, .pure (.idx 4), [.t 125, .t 126]⟩, ⟨none, none, .loud (.st 4), [.t 139, .t 134]⟩, ⟨some 140, none, .pure (.idx 4), [.t 127, .t 129]⟩, ⟨none, none, .loud (.st 4), [.t 140, .t 138]⟩] [0, 1, 2, 3, 9, 10, 12]))) (.ops [⟨some 110, none, .pure (.mov), [.t 12]⟩, ⟨some 111, none, .pure (.bin .add), [.t 110, .c (.int .i64 1)]⟩, ⟨some 12, none, .pure (.mov), [.t 111]⟩] [0, 1, 2, 3, 9, 10, 12])))))) (.skip))))))))) (.ops [⟨some 17, none, .pure (.mov), [.t 10]⟩, ⟨some 18, none, .pure (.bin .add), [.t 17, .c (.int .i64 1)]⟩, ⟨some 10, none, .pure (.mov), [.t 18]⟩] [0, 1, 2, 3, 9, 10])))))) (.seq (.ops [⟨some 8, none, .pure (.mov), [.c (.bool false)]⟩] [8]) (.ret))))
def F75 : Fn Try.prog 75 := Fn.mk' b75 [.t 8] 141 Try.f75 _ Try.func75 (by decide) rfl Try.ntmps75 (by kernel_rfl) (by kernel_rfl)
/-- slices.partitionEqualCmpFunc[signpost/download.Op] -/
def b76 : BC := .seq (.ops [⟨some 10, none, .pure (.mov), [.c (.int .i64 0)]⟩] [0, 1, 2, 3, 4]) (.seq (.ops [⟨some 13, none, .pure (.mov), [.t 0]⟩, ⟨some 14, none, .pure (.mov), [.t 1]⟩, ⟨some 15, none, .pure (.mov), [.t 0]⟩, ⟨some 16, none, .pure (.mov), [.t 3]⟩, ⟨some 17, none, .pure (.mov), [.t 0]⟩, ⟨some 18, none, .pure (.mov), [.t 3]⟩, ⟨some 19, none, .pure (.idx 4), [.t 17, .t 18]⟩, ⟨some 21, none, .pure (.mov), [.t 0]⟩, ⟨some 22, none, .pure (.mov), [.t 1]⟩, ⟨some 23, none, .pure (.idx 4), [.t 21, .t 22]⟩, ⟨some 20, none, .load (.ld 4 true), [.t 19]⟩, ⟨some 24, none, .load (.ld 4 true), [.t 23]⟩, ⟨some 25, none, .pure (.idx 4), [.t 13, .t 14]⟩, ⟨none, none, .loud (.st 4), [.t 25, .t 20]⟩, ⟨some 26, none, .pure (.idx 4), [.t 15, .t 16]⟩, ⟨none, none, .loud (.st 4), [.t 26, .t 24]⟩] [0, 1, 2, 4]) (.seq (.ops [⟨some 27, none, .pure (.mov), [.t 1]⟩, ⟨some 28, none, .pure (.bin .add), [.t 27, .c (.int .i64 1)]⟩, ⟨some 29, none, .pure (.mov), [.t 2]⟩, ⟨some 30, none, .pure (.bin .sub), [.t 29, .c (.int .i64 1)]⟩, ⟨some 11, none, .pure (.mov), [.t 28]⟩, ⟨some 12, none, .pure (.mov), [.t 30]⟩] [0, 1, 4, 11, 12]) (.seq (.block 0 (.loop [0, 1, 4, 11, 12] (.block 1 (.seq (.block 2 (.loop [0, 1, 4, 11, 12] (.seq (.seq (.ops [⟨some 31, none, .pure (.mov), [.t 11]⟩, ⟨some 32, none, .pure (.mov), [.t 12]⟩, ⟨some 33, none, .pure (.bin .leq), [.t 31, .t 32]⟩, ⟨some 34, none, .pure (.mov), [.t 33]⟩, ⟨some 35, some (34, true), .pure (.mov), [.t 4]⟩, ⟨some 36, some (34, true), .pure (.mov), [.t 0]⟩, ⟨some 37, some (34, true), .pure (.mov), [.t 1]⟩, ⟨some 38, some (34, true), .pure (.idx 4), [.t 36, .t 37]⟩, ⟨some 40, some (34, true), .pure (.mov), [.t 0]⟩, ⟨some 41, some (34, true), .pure (.mov), [.t 11]⟩, ⟨some 42, some (34, true), .pure (.idx 4), [.t 40, .t 41]⟩, ⟨some 39, some (34, true), .load (.ld 4 true), [.t 38]⟩, ⟨some 43, some (34, true), .load (.ld 4 true), [.t 42]⟩, ⟨some 44, some (34, true), .loud (.callv), [.t 35, .t 39, .t 43]⟩, ⟨some 45, some (34, true), .pure (.bin .lss), [.t 44, .c (.int .i64 0)]⟩, ⟨some 46, some (34, true), .pure (.not), [.t 45]⟩, ⟨some 47, none, .pick, [.t 34, .t 46, .c (.bool false)]⟩] [0, 1, 4, 11, 12, 47]) (.cond (.t 47) (.skip) (.exit 2))) (.block 3 (.ops [⟨some 48, none, .pure (.mov), [.t 11]⟩, ⟨some 49, none, .pure (.bin .add), [.t 48, .c (.int .i64 1)]⟩, ⟨some 11, none, .pure (.mov), [.t 49]⟩] [0, 1, 4, 11, 12]))))) (.seq (.block 4 (.loop [0, 1, 4, 11, 12] (.seq (.seq (.ops [⟨some 50, none, .pure (.mov), [.t 11]⟩, ⟨some 51, none, .pure (.mov), [.t 12]⟩, ⟨some 52, none, .pure (.bin .leq), [.t 50, .t 51]⟩, ⟨some 53, none, .pure (.mov), [.t 52]⟩, ⟨some 54, some (53, true), .pure (.mov), [.t 4]⟩, ⟨some 55, some (53, true), .pure (.mov), [.t 0]⟩, ⟨some 56, some (53, true), .pure (.mov), [.t 1]⟩, ⟨some 57, some (53, true), .pure (.idx 4), [.t 55, .t 56]⟩, ⟨some 59, some (53, true), .pure (.mov), [.t 0]⟩, ⟨some 60, some (53, true), .pure (.mov), [.t 12]⟩, ⟨some 61, some (53, true), .pure (.idx 4), [.t 59, .t 60]⟩, ⟨some 58, some (53, true), .load (.ld 4 true), [.t 57]⟩, ⟨some 62, some (53, true), .load (.ld 4 true), [.t 61]⟩, ⟨some 63, some (53, true), .loud (.callv), [.t 54, .t 58, .t 62]⟩, ⟨some 64, some (53, true), .pure (.bin .lss), [.t 63, .c (.int .i64 0)]⟩, ⟨some 65, none, .pick, [.t 53, .t 64, .c (.bool false)]⟩] [0, 1, 4, 11, 12, 65]) (.cond (.t 65) (.skip) (.exit 4))) (.block 5 (.ops [⟨some 66, none, .pure (.mov), [.t 12]⟩, ⟨some 67, none, .pure (.bin .sub), [.t 66, .c (.int .i64 1)]⟩, ⟨some 12, none, .pure (.mov), [.t 67]⟩] [0, 1, 4, 11, 12]))))) (.seq (.seq (.ops [⟨some 68, none, .pure (.mov), [.t 11]⟩, ⟨some 69, none, .pure (.mov), [.t 12]⟩, ⟨some 70, none, .pure (.bin .gtr), [.t 68, .t 69]⟩] [0, 1, 4, 11, 12, 70]) (.cond (.t 70) (.exit 0) (.skip))) (.seq (.ops [⟨some 71, none, .pure (.mov), [.t 0]⟩, ⟨some 72, none, .pure (.mov), [.t 11]⟩, ⟨some 73, none, .pure (.mov), [.t 0]⟩, ⟨some 74, none, .pure (.mov), [.t 12]⟩, ⟨some 75, none, .pure (.mov), [.t 0]⟩, ⟨some 76, none, .pure (.mov), [.t 12]⟩, ⟨some 77, none, .pure (.idx 4), [.t 75, .t 76]⟩, ⟨some 79, none, .pure (.mov), [.t 0]⟩, ⟨some 80, none, .pure (.mov), [.t 11]⟩, ⟨some 81, none, .pure (.idx 4), [.t 79, .t 80]⟩, ⟨some 78, none, .load (.ld 4 true), [.t 77]⟩, ⟨some 82, none, .load (.ld 4 true), [.t 81]⟩, ⟨some 83, none, .pure (.idx 4), [.t 71, .t 72]⟩, ⟨none, none, .loud (.st 4), [.t 83, .t 78]⟩, ⟨some 84, none, .pure (.idx 4), [.t 73, .t 74]⟩, ⟨none, none, .loud (.st 4), [.t 84, .t 82]⟩] [0, 1, 4, 11, 12]) (.seq (.ops [⟨some 85, none, .pure (.mov), [.t 11]⟩, ⟨some 86, none, .pure (.bin .add), [.t 85, .c (.int .i64 1)]⟩, ⟨some 11, none, .pure (.mov), [.t 86]⟩] [0, 1, 4, 11, 12]) (.ops [⟨some 87, none, .pure (.mov), [.t 12]⟩, ⟨some 88, none, .pure (.bin .sub), [.t 87, .c (.int .i64 1)]⟩, ⟨some 12, none, .pure (.mov), [.t 88]⟩] [0, 1, 4, 11, 12]))))))))) (.seq (.ops [⟨some 89, none, .pure (.mov), [.t 11]⟩, ⟨some 10, none, .pure (.mov), [.t 89]⟩] [10]) (.ret)))))
def F76 : Fn Try.prog 76 := Fn.mk' b76 [.t 10] 90 Try.f76 _ Try.func76 (by decide) rfl Try.ntmps76 (by kernel_rfl) (by kernel_rfl)
/-- slices.partitionCmpFunc[signpost/download.Op] -/
def b77 : BC := .seq (.ops [⟨some 10, none, .pure (.mov), [.c (.int .i64 0)]⟩, ⟨some 11, none, .pure (.mov), [.c (.bool false)]⟩] [0, 1, 2, 3, 4]) (.seq (.ops [⟨some 14, none, .pure (.mov), [.t 0]⟩, ⟨some 15, none, .pure (.mov), [.t 1]⟩, ⟨some 16, none, .pure (.mov), [.t 0]⟩, ⟨some 17, none, .pure (.mov), [.t 3]⟩, ⟨some 18, none, .pure (.mov), [.t 0]⟩, ⟨some 19, none, .pure (.mov), [.t 3]⟩, ⟨some 20, none, .pure (.idx 4), [.t 18, .t 19]⟩, ⟨some 22, none, .pure (.mov), [.t 0]⟩, ⟨some 23, none, .pure (.mov), [.t 1]⟩, ⟨some 24, none, .pure (.idx 4), [.t 22, .t 23]⟩, ⟨some 21, none, .load (.ld 4 true), [.t 20]⟩, ⟨some 25, none, .load (.ld 4 true), [.t 24]⟩, ⟨some 26, none, .pure (.idx 4), [.t 14, .t 15]⟩, ⟨none, none, .loud (.st 4), [.t 26, .t 21]⟩, ⟨some 27, none, .pure (.idx 4), [.t 16, .t 17]⟩, ⟨none, none, .loud (.st 4), [.t 27, .t 25]⟩] [0, 1, 2, 4]) (.seq (.ops [⟨some 28, none, .pure (.mov), [.t 1]⟩, ⟨some 29, none, .pure (.bin .add), [.t 28, .c (.int .i64 1)]⟩, ⟨some 30, none, .pure (.mov), [.t 2]⟩, ⟨some 31, none, .pure (.bin .sub), [.t 30, .c (.int .i64 1)]⟩, ⟨some 12, none, .pure (.mov), [.t 29]⟩, ⟨some 13, none, .pure (.mov), [.t 31]⟩] [0, 1, 4, 12, 13]) (.seq (.block 0 (.loop [0, 1, 4, 12, 13] (.seq (.seq (.ops [⟨some 32, none, .pure (.mov), [.t 12]⟩, ⟨some 33, none, .pure (.mov), [.t 13]⟩, ⟨some 34, none, .pure (.bin .leq), [.t 32, .t 33]⟩, ⟨some 35, none, .pure (.mov), [.t 34]⟩, ⟨some 36, some (35, true), .pure (.mov), [.t 4]⟩, ⟨some 37, some (35, true), .pure (.mov), [.t 0]⟩, ⟨some 38, some (35, true), .pure (.mov), [.t 12]⟩, ⟨some 39, some (35, true), .pure (.idx 4), [.t 37, .t 38]⟩, ⟨some 41, some (35, true), .pure (.mov), [.t 0]⟩, ⟨some 42, some (35, true), .pure (.mov), [.t 1]⟩, ⟨some 43, some (35, true), .pure (.idx 4), [.t 41, .t 42]⟩, ⟨some 40, some (35, true), .load (.ld 4 true), [.t 39]⟩, ⟨some 44, some (35, true), .load (.ld 4 true), [.t 43]⟩, ⟨some 45, some (35, true), .loud (.callv), [.t 36, .t 40, .t 44]⟩, ⟨some 46, some (35, true), .pure (.bin .lss), [.t 45, .c (.int .i64 0)]⟩, ⟨some 47, none, .pick, [.t 35, .t 46, .c (.bool false)]⟩] [0, 1, 4, 12, 13, 47]) (.cond (.t 47) (.skip) (.exit 0))) (.block 1 (.ops [⟨some 48, none, .pure (.mov), [.t 12]⟩, ⟨some 49, none, .pure (.bin .add), [.t 48, .c (.int .i64 1)]⟩, ⟨some 12, none, .pure (.mov), [.t 49]⟩] [0, 1, 4, 12, 13]))))) (.seq (.block 2 (.loop [0, 1, 4, 12, 13] (.seq (.seq (.ops [⟨some 50, none, .pure (.mov), [.t 12]⟩, ⟨some 51, none, .pure (.mov), [.t 13]⟩, ⟨some 52, none, .pure (.bin .leq), [.t 50, .t 51]⟩, ⟨some 53, none, .pure (.mov), [.t 52]⟩, ⟨some 54, some (53, true), .pure (.mov), [.t 4]⟩, ⟨some 55, some (53, true), .pure (.mov), [.t 0]⟩, ⟨some 56, some (53, true), .pure (.mov), [.t 13]⟩, ⟨some 57, some (53, true), .pure (.idx 4), [.t 55, .t 56]⟩, ⟨some 59, some (53, true), .pure (.mov), [.t 0]⟩, ⟨some 60, some (53, true), .pure (.mov), [.t 1]⟩, ⟨some 61, some (53, true), .pure (.idx 4), [.t 59, .t 60]⟩, ⟨some 58, some (53, true), .load (.ld 4 true), [.t 57]⟩, ⟨some 62, some (53, true), .load (.ld 4 true), [.t 61]⟩, ⟨some 63, some (53, true), .loud (.callv), [.t 54, .t 58, .t 62]⟩, ⟨some 64, some (53, true), .pure (.bin .lss), [.t 63, .c (.int .i64 0)]⟩, ⟨some 65, some (53, true), .pure (.not), [.t 64]⟩, ⟨some 66, none, .pick, [.t 53, .t 65, .c (.bool false)]⟩] [0, 1, 4, 12, 13, 66]) (.cond (.t 66) (.skip) (.exit 2))) (.block 3 (.ops [⟨some 67, none, .pure (.mov), [.t 13]⟩, ⟨some 68, none, .pure (.bin .sub), [.t 67, .c (.int .i64 1)]⟩, ⟨some 13, none, .pure (.mov), [.t 68]⟩] [0, 1, 4, 12, 13]))))) (.seq (.seq (.ops [⟨some 69, none, .pure (.mov), [.t 12]⟩, ⟨some 70, none, .pure (.mov), [.t 13]⟩, ⟨some 71, none, .pure (.bin .gtr), [.t 69, .t 70]⟩] [0, 1, 4, 12, 13, 71]) (.cond (.t 71) (.seq (.ops [⟨some 72, none, .pure (.mov), [.t 0]⟩, ⟨some 73, none, .pure (.mov), [.t 13]⟩, ⟨some 74, none, .pure (.mov), [.t 0]⟩, ⟨some 75, none, .pure (.mov), [.t 1]⟩, ⟨some 76, none, .pure (.mov), [.t 0]⟩, ⟨some 77, none, .pure (.mov), [.t 1]⟩, ⟨some 78, none, .pure (.idx 4), [.t 76, .t 77]⟩, ⟨some 80, none, .pure (.mov), [.t 0]⟩, ⟨some 81, none, .pure (.mov), [.t 13]⟩, ⟨some 82, none, .pure (.idx 4), [.t 80, .t 81]⟩, ⟨some 79, none, .load (.ld 4 true), [.t 78]⟩, ⟨some 83, none, .load (.ld 4 true), [.t 82]⟩, ⟨some 84, none, .pure (.idx 4), [.t 72, .t 73]⟩, ⟨none, none, .loud (.st 4), [.t 84, .t 79]⟩, ⟨some 85, none, .pure (.idx 4), [.t 74, .t 75]⟩, ⟨none, none, .loud (.st 4), [.t 85, .t 83]⟩] [13]) (.seq (.ops [⟨some 86, none, .pure (.mov), [.t 13]⟩, ⟨some 10, none, .pure (.mov), [.t 86]⟩, ⟨some 11, none, .pure (.mov), [.c (.bool true)]⟩] [10, 11]) (.ret))) (.skip))) (.seq (.ops [⟨some 87, none, .pure (.mov), [.t 0]⟩, ⟨some 88, none, .pure (.mov), [.t 12]⟩, ⟨some 89, none, .pure (.mov), [.t 0]⟩, ⟨some 90, none, .pure (.mov), [.t 13]⟩, ⟨some 91, none, .pure (.mov), [.t 0]⟩, ⟨some 92, none, .pure (.mov), [.t 13]⟩, ⟨some 93, none, .pure (.idx 4), [.t 91, .t 92]⟩, ⟨some 95, none, .pure (.mov), [.t 0]⟩, ⟨some 96, none, .pure (.mov), [.t 12]⟩, ⟨some 97, none, .pure (.idx 4), [.t 95, .t 96]⟩, ⟨some 94, none, .load (.ld 4 true), [.t 93]⟩, ⟨some 98, none, .load (.ld 4 true), [.t 97]⟩, ⟨some 99, none, .pure (.idx 4), [.t 87, .t 88]⟩, ⟨none, none, .loud (.st 4), [.t 99, .t 94]⟩, ⟨some 100, none, .pure (.idx 4), [.t 89, .t 90]⟩, ⟨none, none, .loud (.st 4), [.t 100, .t 98]⟩] [0, 1, 4, 12, 13]) (.seq (.ops [⟨some 101, none, .pure (.mov), [.t 12]⟩, ⟨some 102, none, .pure (.bin .add), [.t 101, .c (.int .i64 1)]⟩, ⟨some 12, none, .pure (.mov), [.t 102]⟩] [0, 1, 4, 12, 13]) (.seq (.ops [⟨some 103, none, .pure (.mov), [.t 13]⟩, ⟨some 104, none, .pure (.bin .sub), [.t 103, .c (.int .i64 1)]⟩, ⟨some 13, none, .pure (.mov), [.t 104]⟩] [0, 1, 4, 12, 13]) (.seq (.block 4 (.loop [0, 1, 4, 12, 13] (.block 5 (.seq (.block 6 (.loop [0, 1, 4, 12, 13] (.seq (.seq (.ops [⟨some 105, none, .pure (.mov), [.t 12]⟩, ⟨some 106, none, .pure (.mov), [.t 13]⟩, ⟨some 107, none, .pure (.bin .leq), [.t 105, .t 106]⟩, ⟨some 108, none, .pure (.mov), [.t 107]⟩, ⟨some 109, some (108, true), .pure (.mov), [.t 4]⟩, ⟨some 110, some (108, true), .pure (.mov), [.t 0]⟩, ⟨some 111, some (108, true), .pure (.mov), [.t 12]⟩, ⟨some 112, some (108, true), .pure (.idx 4), [.t 110, .t 111]⟩, ⟨some 114, some (108, true), .pure (.mov), [.t 0]⟩, ⟨some 115, some (108, true), .pure (.mov), [.t 1]⟩, ⟨some 116, some (108, true), .pure (.idx 4), [.t 114, .t 115]⟩, ⟨some 113, some (108, true), .load (.ld 4 true), [.t 112]⟩, ⟨some 117, some (108, true), .load (.ld 4 true), [.t 116]⟩, ⟨some 118, some (108, true), .loud (.callv), [.t 109, .t 113, .t 117]⟩, ⟨some 119, some (108, true), .pure (.bin .lss), [.t 118, .c (.int .i64 0)]⟩, ⟨some 120, none, .pick, [.t 108, .t 119, .c (.bool false)]⟩] [0, 1, 4, 12, 13, 120]) (.cond (.t 120) (.skip) (.exit 6))) (.block 7 (.ops [⟨some 121, none, .pure (.mov), [.t 12]⟩, ⟨some 122, none, .pure (.bin .add), [.t 121, .c (.int .i64 1)]⟩, ⟨some 12, none, .pure (.mov), [.t 122]⟩] [0, 1, 4, 12, 13]))))) (.seq (.block 8 (.loop [0, 1, 4, 12, 13] (.seq (.seq (.ops [⟨some 123, none, .pure (.mov), [.t 12]⟩, ⟨some 124, none, .pure (.mov), [.t 13]⟩, ⟨some 125, none, .pure (.bin .leq), [.t 123, .t 124]⟩, ⟨some 126, none, .pure (.mov), [.t 125]⟩, ⟨some 127, some (126, true), .pure (.mov), [.t 4]⟩, ⟨some 128, some (126, true), .pure (.mov), [.t 0]⟩, ⟨some 129, some (126, true), .pure (.mov), [.t 13]⟩, ⟨some 130, some (126, true), .pure (.idx 4), [.t 128, .t 129]⟩, ⟨some 132, some (126, true), .pure (.mov), [.t 0]⟩, ⟨some 133, some (126, true), .pure (.mov), [.t 1]⟩, ⟨some 134, some (126, true), .pure (.idx 4), [.t 132, .t 133]⟩, ⟨some 131, some (126, true), .load (.ld 4 true), [.t 130]⟩, ⟨some 135, some (126, true), .load (.ld 4 true), [.t 134]⟩, ⟨some 136, some (126, true), .loud (.callv), [.t 127, .t 131, .t 135]⟩, ⟨some 137, some (126, true), .pure (.bin .lss), [.t 136, .c (.int .i64 0)]⟩, ⟨some 138, some (126, true), .pure (.not), [.t 137]⟩, ⟨some 139, none, .pick, [.t 126, .t 138, .c (.bool false)]⟩] [0, 1, 4, 12, 13, 139]) (.cond (.t 139) (.skip) (.exit 8))) (.block 9 (.ops [⟨some 140, none, .pure (.mov), [.t 13]⟩, ⟨some 141, none, .pure (.bin .sub), [.t 140, .c (.int .i64 1)]⟩, ⟨some 13, none, .pure (.mov), [.t 141]⟩] [0, 1, 4, 12, 13]))))) (.seq (.seq (.ops [⟨some 142, none, .pure (.mov), [.t 12]⟩, ⟨some 143, none, .pure (.mov), [.t 13]⟩, ⟨some 144, none, .pure (.bin .gtr), [.t 142, .t 143]⟩] [0, 1, 4, 12, 13, 144]) (.cond (.t 144) (.exit 4) (.skip))) (.seq (.ops [⟨some 145, none, .pure (.mov), [.t 0]⟩, ⟨some 146, none, .pure (.mov), [.t 12]⟩, ⟨some 147, none, .pure (.mov), [.t 0]⟩, ⟨some 148, none, .pure (.mov), [.t 13]⟩, ⟨some 149, none, .pure (.mov), [.t 0]⟩, ⟨some 150, none, .pure (.mov), [.t 13]⟩, ⟨some 151, none, .pure (.idx 4), [.t 149, .t 150]⟩, ⟨some 153, none, .pure (.mov), [.t 0]⟩, ⟨some 154, none, .pure (.mov), [.t 12]⟩, ⟨some 155, none, .pure (.idx 4), [.t 153, .t 154]⟩, ⟨some 152, none, .load (.ld 4 true), [.t 151]⟩, ⟨some 156, none, .load (.ld 4 true), [.t 155]⟩, ⟨some 157, none, .pure (.idx 4), [.t 145, .t 146]⟩, ⟨none, none, .loud (.st 4), [.t 157, .t 152]⟩, ⟨some 158, none, .pure (.idx 4), [.t 147, .t 148]⟩, ⟨none, none, .loud (.st 4), [.t 158, .t 156]⟩] [0, 1, 4, 12, 13]) (.seq (.ops [⟨some 159, none, .pure (.mov), [.t 12]⟩, ⟨some 160, none, .pure (.bin .add), [.t 159, .c (.int .i64 1)]⟩, ⟨some 12, none, .pure (.mov), [.t 160]⟩] [0, 1, 4, 12, 13]) (.ops [⟨some 161, none, .pure (.mov), [.t 13]⟩, ⟨some 162, none, .pure (.bin .sub), [.t 161, .c (.int .i64 1)]⟩, ⟨some 13, none, .pure (.mov), [.t 162]⟩] [0, 1, 4, 12, 13]))))))))) (.seq (.ops [⟨some 163, none, .pure (.mov), [.t 0]⟩, ⟨some 164, none, .pure (.mov), [.t 13]⟩, ⟨some 165, none, .pure (.mov), [.t 0]⟩, ⟨some 166, none, .pure (.mov), [.t 1]⟩, ⟨some 167, none, .pure (.mov), [.t 0]⟩, ⟨some 168, none, .pure (.mov), [.t 1]⟩, ⟨some 169, none, .pure (.idx 4), [.t 167, .t 168]⟩, ⟨some 171, none, .pure (.mov), [.t 0]⟩, ⟨some 172, none, .pure (.mov), [.t 13]⟩, ⟨some 173, none, .pure (.idx 4), [.t 171, .t 172]⟩, ⟨some 170, none, .load (.ld 4 true), [.t 169]⟩, ⟨some 174, none, .load (.ld 4 true), [.t 173]⟩, ⟨some 175, none, .pure (.idx 4), [.t 163, .t 164]⟩, ⟨none, none, .loud (.st 4), [.t 175, .t 170]⟩, ⟨some 176, none, .pure (.idx 4), [.t 165, .t 166]⟩, ⟨none, none, .loud (.st 4), [.t 176, .t 174]⟩] [13]) (.seq (.ops [⟨some 177, none, .pure (.mov), [.t 13]⟩, ⟨some 10, none, .pure (.mov), [.t 177]⟩, ⟨some 11, none, .pure (.mov), [.c (.bool false)]⟩] [10, 11]) (.ret))))))))))))
def F77 : Fn Try.prog 77 := Fn.mk' b77 [.t 10, .t 11] 178 Try.f77 _ Try.func77 (by decide) rfl Try.ntmps77 (by kernel_rfl) (by kernel_rfl)
/-- math/bits.Len32 -/
def b78 : BC := .seq (.ops [⟨some 2, none, .pure (.mov), [.c (.int .i64 0)]⟩] [0, 2]) (.seq (.seq (.ops [⟨some 3, none, .pure (.mov), [.t 0]⟩, ⟨some 4, none, .pure (.bin .geq), [.t 3, .c (.int .u32 65536)]⟩] [0, 2, 4]) (.cond (.t 4) (.seq (.ops [⟨some 5, none, .pure (.mov), [.t 0]⟩, ⟨some 6, none, .pure (.bin .shr), [.t 5, .c (.int .u64 16)]⟩, ⟨some 0, none, .pure (.mov), [.t 6]⟩] [0]) (.ops [⟨some 2, none, .pure (.mov), [.c (.int .i64 16)]⟩] [0, 2])) (.skip))) (.seq (.seq (.ops [⟨some 7, none, .pure (.mov), [.t 0]⟩, ⟨some 8, none, .pure (.bin .geq), [.t 7, .c (.int .u32 256)]⟩] [0, 2, 8]) (.cond (.t 8) (.seq (.ops [⟨some 9, none, .pure (.mov), [.t 0]⟩, ⟨some 10, none, .pure (.bin .shr), [.t 9, .c (.int .u64 8)]⟩, ⟨some 0, none, .pure (.mov), [.t 10]⟩] [0, 2]) (.ops [⟨some 11, none, .pure (.mov), [.t 2]⟩, ⟨some 12, none, .pure (.bin .add), [.t 11, .c (.int .i64 8)]⟩, ⟨some 2, none, .pure (.mov), [.t 12]⟩] [0, 2])) (.skip))) (.seq (.ops [⟨some 13, none, .pure (.mov), [.t 2]⟩, ⟨some 14, none, .pure (.mov), [.t 0]⟩, ⟨some 15, none, .pure (.conv .u8), [.t 14]⟩, ⟨some 16, none, .pure (.idxs), [.c (.str str0), .t 15]⟩, ⟨some 17, none, .pure (.conv .i64), [.t 16]⟩, ⟨some 18, none, .pure (.bin .add), [.t 13, .t 17]⟩, ⟨some 2, none, .pure (.mov), [.t 18]⟩] [2]) (.ret))))
def F78 : Fn Try.prog 78 := Fn.mk' b78 [.t 2] 19 Try.f78 _ Try.func78 (by decide) rfl Try.ntmps78 (by kernel_rfl) (by kernel_rfl)
/-- math/bits.Len64 -/
def b79 : BC := .seq (.ops [⟨some 2, none, .pure (.mov), [.c (.int .i64 0)]⟩] [0, 2]) (.seq (.seq (.ops [⟨some 3, none, .pure (.mov), [.t 0]⟩, ⟨some 4, none, .pure (.bin .geq), [.t 3, .c (.int .u64 4294967296)]⟩] [0, 2, 4]) (.cond (.t 4) (.seq (.ops [⟨some 5, none, .pure (.mov), [.t 0]⟩, ⟨some 6, none, .pure (.bin .shr), [.t 5, .c (.int .u64 32)]⟩, ⟨some 0, none, .pure (.mov), [.t 6]⟩] [0]) (.ops [⟨some 2, none, .pure (.mov), [.c (.int .i64 32)]⟩] [0, 2])) (.skip))) (.seq (.seq (.ops [⟨some 7, none, .pure (.mov), [.t 0]⟩, ⟨some 8, none, .pure (.bin .geq), [.t 7, .c (.int .u64 65536)]⟩] [0, 2, 8]) (.cond (.t 8) (.seq (.ops [⟨some 9, none, .pure (.mov), [.t 0]⟩, ⟨some 10, none, .pure (.bin .shr), [.t 9, .c (.int .u64 16)]⟩, ⟨some 0, none, .pure (.mov), [.t 10]⟩] [0, 2]) (.ops [⟨some 11, none, .pure (.mov), [.t 2]⟩, ⟨some 12, none, .pure (.bin .add), [.t 11, .c (.int .i64 16)]⟩, ⟨some 2, none, .pure (.mov), [.t 12]⟩] [0, 2])) (.skip))) (.seq (.seq (.ops [⟨some 13, none, .pure (.mov), [.t 0]⟩, ⟨some 14, none, .pure (.bin .geq), [.t 13, .c (.int .u64 256)]⟩] [0, 2, 14]) (.cond (.t 14) (.seq (.ops [⟨some 15, none, .pure (.mov), [.t 0]⟩, ⟨some 16, none, .pure (.bin .shr), [.t 15, .c (.int .u64 8)]⟩, ⟨some 0, none, .pure (.mov), [.t 16]⟩] [0, 2]) (.ops [⟨some 17, none, .pure (.mov), [.t 2]⟩, ⟨some 18, none, .pure (.bin .add), [.t 17, .c (.int .i64 8)]⟩, ⟨some 2, none, .pure (.mov), [.t 18]⟩] [0, 2])) (.skip))) (.seq (.ops [⟨some 19, none, .pure (.mov), [.t 2]⟩, ⟨some 20, none, .pure (.mov), [.t 0]⟩, ⟨some 21, none, .pure (.conv .u8), [.t 20]⟩, ⟨some 22, none, .pure (.idxs), [.c (.str str0), .t 21]⟩, ⟨some 23, none, .pure (.conv .i64), [.t 22]⟩, ⟨some 24, none, .pure (.bin .add), [.t 19, .t 23]⟩, ⟨some 2, none, .pure (.mov), [.t 24]⟩] [2]) (.ret)))))
def F79 : Fn Try.prog 79 := Fn.mk' b79 [.t 2] 25 Try.f79 _ Try.func79 (by decide) rfl Try.ntmps79 (by kernel_rfl) (by kernel_rfl)
/-- slices.siftDownCmpFunc[signpost/download.Op] -/
def b85 : BC := .seq (.ops [⟨some 12, none, .pure (.mov), [.t 1]⟩, ⟨some 10, none, .pure (.mov), [.t 12]⟩] [0, 2, 3, 4, 10]) (.block 0 (.loop [0, 2, 3, 4, 10] (.block 1 (.seq (.ops [⟨some 13, none, .pure (.mov), [.t 10]⟩, ⟨some 14, none, .pure (.bin .mul), [.c (.int .i64 2), .t 13]⟩, ⟨some 15, none, .pure (.bin .add), [.t 14, .c (.int .i64 1)]⟩, ⟨some 11, none, .pure (.mov), [.t 15]⟩] [0, 2, 3, 4, 10, 11]) (.seq (.seq (.ops [⟨some 16, none, .pure (.mov), [.t 11]⟩, ⟨some 17, none, .pure (.mov), [.t 2]⟩, ⟨some 18, none, .pure (.bin .geq), [.t 16, .t 17]⟩] [0, 2, 3, 4, 10, 11, 18]) (.cond (.t 18) (.exit 0) (.skip))) (.seq (.seq (.ops [⟨some 19, none, .pure (.mov), [.t 11]⟩, ⟨some 20, none, .pure (.bin .add), [.t 19, .c (.int .i64 1)]⟩, ⟨some 21, none, .pure (.mov), [.t 2]⟩, ⟨some 22, none, .pure (.bin .lss), [.t 20, .t 21]⟩, ⟨some 23, none, .pure (.mov), [.t 22]⟩, ⟨some 24, some (23, true), .pure (.mov), [.t 4]⟩, ⟨some 25, some (23, true), .pure (.mov), [.t 0]⟩, ⟨some 26, some (23, true), .pure (.mov), [.t 3]⟩, ⟨some 27, some (23, true), .pure (.mov), [.t 11]⟩, ⟨some 28, some (23, true), .pure (.bin .add), [.t 26, .t 27]⟩, ⟨some 29, some (23, true), .pure (.idx 4), [.t 25, .t 28]⟩, ⟨some 31, some (23, true), .pure (.mov), [.t 0]⟩, ⟨some 32, some (23, true), .pure (.mov), [.t 3]⟩, ⟨some 33, some (23, true), .pure (.mov), [.t 11]⟩, ⟨some 34, some (23, true), .pure (.bin .add), [.t 32, .t 33]⟩, ⟨some 35, some (23, true), .pure (.bin .add), [.t 34, .c (.int .i64 1)]⟩, ⟨some 36, some (23, true), .pure (.idx 4), [.t 31, .t 35]⟩, ⟨some 30, some (23, true), .load (.ld 4 true), [.t 29]⟩, ⟨some 37, some (23, true), .load (.ld 4 true), [.t 36]⟩, ⟨some 38, some (23, true), .loud (.callv), [.t 24, .t 30, .t 37]⟩, ⟨some 39, some (23, true), .pure (.bin .lss), [.t 38, .c (.int .i64 0)]⟩, ⟨some 40, none, .pick, [.t 23, .t 39, .c (.bool false)]⟩] [0, 2, 3, 4, 10, 11, 40]) (.cond (.t 40) (.ops [⟨some 41, none, .pure (.mov), [.t 11]⟩, ⟨some 42, none, .pure (.bin .add), [.t 41, .c (.int .i64 1)]⟩, ⟨some 11, none, .pure (.mov), [.t 42]⟩] [0, 2, 3, 4, 10, 11]) (.skip))) (.seq (.seq (.ops [⟨some 43, none, .pure (.mov), [.t 4]⟩, ⟨some 44, none, .pure (.mov), [.t 0]⟩, ⟨some 45, none, .pure (.mov), [.t 3]⟩, ⟨some 46, none, .pure (.mov), [.t 10]⟩, ⟨some 47, none, .pure (.bin .add), [.t 45, .t 46]⟩, ⟨some 48, none, .pure (.idx 4), [.t 44, .t 47]⟩, ⟨some 50, none, .pure (.mov), [.t 0]⟩, ⟨some 51, none, .pure (.mov), [.t 3]⟩, ⟨some 52, none, .pure (.mov), [.t 11]⟩, ⟨some 53, none, .pure (.bin .add), [.t 51, .t 52]⟩, ⟨some 54, none, .pure (.idx 4), [.t 50, .t 53]⟩, ⟨some 49, none, .load (.ld 4 true), [.t 48]⟩, ⟨some 55, none, .load (.ld 4 true), [.t 54]⟩, ⟨some 56, none, .loud (.callv), [.t 43, .t 49, .t 55]⟩, ⟨some 57, none, .pure (.bin .lss), [.t 56, .c (.int .i64 0)]⟩, ⟨some 58, none, .pure (.not), [.t 57]⟩] [0, 2, 3, 4, 10, 11, 58]) (.cond (.t 58) (.ret) (.skip))) (.seq (.ops [⟨some 59, none, .pure (.mov), [.t 0]⟩, ⟨some 60, none, .pure (.mov), [.t 3]⟩, ⟨some 61, none, .pure (.mov), [.t 10]⟩, ⟨some 62, none, .pure (.bin .add), [.t 60, .t 61]⟩, ⟨some 63, none, .pure (.mov), [.t 0]⟩, ⟨some 64, none, .pure (.mov), [.t 3]⟩, ⟨some 65, none, .pure (.mov), [.t 11]⟩, ⟨some 66, none, .pure (.bin .add), [.t 64, .t 65]⟩, ⟨some 67, none, .pure (.mov), [.t 0]⟩, ⟨some 68, none, .pure (.mov), [.t 3]⟩, ⟨some 69, none, .pure (.mov), [.t 11]⟩, ⟨some 70, none, .pure (.bin .add), [.t 68, .t 69]⟩, ⟨some 71, none, .pure (.idx 4), [.t 67, .t 70]⟩, ⟨some 73, none, .pure (.mov), [.t 0]⟩, ⟨some 74, none, .pure (.mov), [.t 3]⟩, ⟨some 75, none, .pure (.mov), [.t 10]⟩, ⟨some 76, none, .pure (.bin .add), [.t 74, .t 75]⟩, ⟨some 77, none, .pure (.idx 4), [.t 73, .t 76]⟩, ⟨some 72, none, .load (.ld 4 true), [.t 71]⟩, ⟨some 78, none, .load (.ld 4 true), [.t 77]⟩, ⟨some 79, none, .pure (.idx 4), [.t 59, .t 62]⟩, ⟨none, none, .loud (.st 4), [.t 79, .t 72]⟩, ⟨some 80, none, .pure (.idx 4), [.t 63, .t 66]⟩, ⟨none, none, .loud (.st 4), [.t 80, .t 78]⟩] [0, 2, 3, 4, 11]) (.ops [⟨some 81, none, .pure (.mov), [.t 11]⟩, ⟨some 10, none, .pure (.mov), [.t 81]⟩] [0, 2, 3, 4, 10])))))))))
def F85 : Fn Try.prog 85 := Fn.mk' b85 [] 82 Try.f85 _ Try.func85 (by decide) rfl Try.ntmps85 (by kernel_rfl) (by kernel_rfl)
/-- slices.nextPowerOfTwo -/
def b86 : BC := .seq (.ops [⟨some 2, none, .pure (.mov), [.c (.int .u64 0)]⟩] [0]) (.seq (.ops [⟨some 3, none, .pure (.mov), [.t 0]⟩, ⟨some 4, none, .pure (.conv .u64), [.t 3]⟩, ⟨some 5, none, .loud (.call 61), [.t 4]⟩, ⟨some 6, none, .pure (.bin .shl), [.c (.int .u64 1), .t 5]⟩, ⟨some 2, none, .pure (.mov), [.t 6]⟩] [2]) (.ret))
def F86 : Fn Try.prog 86 := Fn.mk' b86 [.t 2] 7 Try.f86 _ Try.func86 (by decide) rfl Try.ntmps86 (by kernel_rfl) (by kernel_rfl)
/-- (*slices.xorshift).Next -/
def b87 : BC := .seq (.ops [⟨some 2, none, .pure (.mov), [.c (.int .u64 0)]⟩] [0]) (.seq (.ops [⟨some 3, none, .pure (.mov), [.t 0]⟩, ⟨some 4, none, .pure (.nilchk), [.t 3]⟩, ⟨some 6, none, .pure (.mov), [.t 0]⟩, ⟨some 7, none, .pure (.nilchk), [.t 6]⟩, ⟨some 5, none, .load (.ld 1 false), [.t 4]⟩, ⟨some 8, none, .load (.ld 1 false), [.t 7]⟩, ⟨some 9, none, .pure (.bin .shl), [.t 8, .c (.int .u64 13)]⟩, ⟨some 10, none, .pure (.bin .xor), [.t 5, .t 9]⟩, ⟨some 11, none, .pure (.nilchk), [.t 3]⟩, ⟨none, none, .loud (.st 1), [.t 11, .t 10]⟩] [0]) (.seq (.ops [⟨some 12, none, .pure (.mov), [.t 0]⟩, ⟨some 13, none, .pure (.nilchk), [.t 12]⟩, ⟨some 15, none, .pure (.mov), [.t 0]⟩, ⟨some 16, none, .pure (.nilchk), [.t 15]⟩, ⟨some 14, none, .load (.ld 1 false), [.t 13]⟩, ⟨some 17, none, .load (.ld 1 false), [.t 16]⟩, ⟨some 18, none, .pure (.bin .shr), [.t 17, .c (.int .u64 7)]⟩, ⟨some 19, none, .pure (.bin .xor), [.t 14, .t 18]⟩, ⟨some 20, none, .pure (.nilchk), [.t 12]⟩, ⟨none, none, .loud (.st 1), [.t 20, .t 19]⟩] [0]) (.seq (.ops [⟨some 21, none, .pure (.mov), [.t 0]⟩, ⟨some 22, none, .pure (.nilchk), [.t 21]⟩, ⟨some 24, none, .pure (.mov), [.t 0]⟩, ⟨some 25, none, .pure (.nilchk), [.t 24]⟩, ⟨some 23, none, .load (.ld 1 false), [.t 22]⟩, ⟨some 26, none, .load (.ld 1 false), [.t 25]⟩, ⟨some 27, none, .pure (.bin .shl), [.t 26, .c (.int .u64 17)]⟩, ⟨some 28, none, .pure (.bin .xor), [.t 23, .t 27]⟩, ⟨some 29, none, .pure (.nilchk), [.t 21]⟩, ⟨none, none, .loud (.st 1), [.t 29, .t 28]⟩] [0]) (.seq (.ops [⟨some 30, none, .pure (.mov), [.t 0]⟩, ⟨some 31, none, .pure (.nilchk), [.t 30]⟩, ⟨some 32, none, .load (.ld 1 false), [.t 31]⟩, ⟨some 2, none, .pure (.mov), [.t 32]⟩] [2]) (.ret)))))
def F87 : Fn Try.prog 87 := Fn.mk' b87 [.t 2] 33 Try.f87 _ Try.func87 (by decide) rfl Try.ntmps87 (by kernel_rfl) (by kernel_rfl)
/-- slices.medianAdjacentCmpFunc[signpost/download.Op] -/
def b88 : BC := .seq (.ops [⟨some 8, none, .pure (.mov), [.c (.int .i64 0)]⟩] [0, 1, 2, 3]) (.seq (.ops [⟨some 9, none, .pure (.mov), [.t 0]⟩, ⟨some 10, none, .pure (.mov), [.t 1]⟩, ⟨some 11, none, .pure (.bin .sub), [.t 10, .c (.int .i64 1)]⟩, ⟨some 12, none, .pure (.mov), [.t 1]⟩, ⟨some 13, none, .pure (.mov), [.t 1]⟩, ⟨some 14, none, .pure (.bin .add), [.t 13, .c (.int .i64 1)]⟩, ⟨some 15, none, .pure (.mov), [.t 2]⟩, ⟨some 16, none, .pure (.mov), [.t 3]⟩, ⟨some 17, none, .loud (.call 89), [.t 9, .t 11, .t 12, .t 14, .t 15, .t 16]⟩, ⟨some 8, none, .pure (.mov), [.t 17]⟩] [8]) (.ret))
def F88 : Fn Try.prog 88 := Fn.mk' b88 [.t 8] 18 Try.f88 _ Try.func88 (by decide) rfl Try.ntmps88 (by kernel_rfl) (by kernel_rfl)
/-- slices.medianCmpFunc[signpost/download.Op] -/
def b89 : BC := .seq (.ops [⟨some 12, none, .pure (.mov), [.c (.int .i64 0)]⟩] [0, 1, 2, 3, 4, 5]) (.seq (.ops [⟨some 14, none, .pure (.mov), [.t 0]⟩, ⟨some 15, none, .pure (.mov), [.t 1]⟩, ⟨some 16, none, .pure (.mov), [.t 2]⟩, ⟨some 17, none, .pure (.mov), [.t 4]⟩, ⟨some 18, none, .pure (.mov), [.t 5]⟩, ⟨some 19, none, .loud (.call 91), [.t 14, .t 15, .t 16, .t 17, .t 18]⟩, ⟨some 13, none, .pure (.mov), [.t 19]⟩, ⟨some 20, none, .pure (.ext 0), [.t 13]⟩, ⟨some 21, none, .pure (.ext 1), [.t 13]⟩, ⟨some 1, none, .pure (.mov), [.t 20]⟩, ⟨some 2, none, .pure (.mov), [.t 21]⟩] [0, 1, 2, 3, 4, 5]) (.seq (.ops [⟨some 23, none, .pure (.mov), [.t 0]⟩, ⟨some 24, none, .pure (.mov), [.t 2]⟩, ⟨some 25, none, .pure (.mov), [.t 3]⟩, ⟨some 26, none, .pure (.mov), [.t 4]⟩, ⟨some 27, none, .pure (.mov), [.t 5]⟩, ⟨some 28, none, .loud (.call 91), [.t 23, .t 24, .t 25, .t 26, .t 27]⟩, ⟨some 22, none, .pure (.mov), [.t 28]⟩, ⟨some 29, none, .pure (.ext 0), [.t 22]⟩, ⟨some 30, none, .pure (.ext 1), [.t 22]⟩, ⟨some 2, none, .pure (.mov), [.t 29]⟩, ⟨some 3, none, .pure (.mov), [.t 30]⟩] [0, 1, 2, 4, 5]) (.seq (.ops [⟨some 32, none, .pure (.mov), [.t 0]⟩, ⟨some 33, none, .pure (.mov), [.t 1]⟩, ⟨some 34, none, .pure (.mov), [.t 2]⟩, ⟨some 35, none, .pure (.mov), [.t 4]⟩, ⟨some 36, none, .pure (.mov), [.t 5]⟩, ⟨some 37, none, .loud (.call 91), [.t 32, .t 33, .t 34, .t 35, .t 36]⟩, ⟨some 31, none, .pure (.mov), [.t 37]⟩, ⟨some 38, none, .pure (.ext 0), [.t 31]⟩, ⟨some 39, none, .pure (.ext 1), [.t 31]⟩, ⟨some 1, none, .pure (.mov), [.t 38]⟩, ⟨some 2, none, .pure (.mov), [.t 39]⟩] [2]) (.seq (.ops [⟨some 40, none, .pure (.mov), [.t 2]⟩, ⟨some 12, none, .pure (.mov), [.t 40]⟩] [12]) (.ret)))))
def F89 : Fn Try.prog 89 := Fn.mk' b89 [.t 12] 41 Try.f89 _ Try.func89 (by decide) rfl Try.ntmps89 (by kernel_rfl) (by kernel_rfl)
/-- slices.order2CmpFunc[signpost/download.Op] -/
def b91 : BC := .seq (.ops [⟨some 10, none, .pure (.mov), [.c (.int .i64 0)]⟩, ⟨some 11, none, .pure (.mov), [.c (.int .i64 0)]⟩] [0, 1, 2, 3, 4]) (.seq (.seq (.ops [⟨some 12, none, .pure (.mov), [.t 4]⟩, ⟨some 13, none, .pure (.mov), [.t 0]⟩, ⟨some 14, none, .pure (.mov), [.t 2]⟩, ⟨some 15, none, .pure (.idx 4), [.t 13, .t 14]⟩, ⟨some 17, none, .pure (.mov), [.t 0]⟩, ⟨some 18, none, .pure (.mov), [.t 1]⟩, ⟨some 19, none, .pure (.idx 4), [.t 17, .t 18]⟩, ⟨some 16, none, .load (.ld 4 true), [.t 15]⟩, ⟨some 20, none, .load (.ld 4 true), [.t 19]⟩, ⟨some 21, none, .loud (.callv), [.t 12, .t 16, .t 20]⟩, ⟨some 22, none, .pure (.bin .lss), [.t 21, .c (.int .i64 0)]⟩] [1, 2, 3, 22]) (.cond (.t 22) (.seq (.ops [⟨some 23, none, .pure (.mov), [.t 3]⟩, ⟨some 24, none, .pure (.nilchk), [.t 23]⟩, ⟨some 25, none, .load (.ld 1 false), [.t 24]⟩, ⟨some 26, none, .pure (.bin .add), [.t 25, .c (.int .i64 1)]⟩, ⟨some 27, none, .pure (.nilchk), [.t 23]⟩, ⟨none, none, .loud (.st 1), [.t 27, .t 26]⟩] [1, 2]) (.seq (.ops [⟨some 28, none, .pure (.mov), [.t 2]⟩, ⟨some 29, none, .pure (.mov), [.t 1]⟩, ⟨some 10, none, .pure (.mov), [.t 28]⟩, ⟨some 11, none, .pure (.mov), [.t 29]⟩] [10, 11]) (.ret))) (.skip))) (.seq (.ops [⟨some 30, none, .pure (.mov), [.t 1]⟩, ⟨some 31, none, .pure (.mov), [.t 2]⟩, ⟨some 10, none, .pure (.mov), [.t 30]⟩, ⟨some 11, none, .pure (.mov), [.t 31]⟩] [10, 11]) (.ret)))
def F91 : Fn Try.prog 91 := Fn.mk' b91 [.t 10, .t 11] 32 Try.f91 _ Try.func91 (by decide) rfl Try.ntmps91 (by kernel_rfl) (by kernel_rfl)
end Go.Am.Tst

/- W1 -/
namespace Go.Am
open Go.Proofs
def maskF (n : Int) : Int := if n < 1 then 0 else shlInt .u32 4294967295 (32 - min n 32)
def I64 (n : Int) : Prop := -9223372036854775808 ≤ n ∧ n ≤ 9223372036854775807
theorem wrap64 {n : Int} (h : I64 n) : IntKind.i64.wrap n = n := by
  unfold I64 at h; simp [IntKind.wrap, IntKind.bits, IntKind.signed]; omega

theorem c69 (n : Int) (h : I64 n) : Pur Try.prog 69 [.int .i64 n] (.int .u32 (maskF n)) := by
  refine pur_of Tst.F69 (by simp [Tst.F69, Fn.mk']) fun σ => ?_
  simp only [Tst.F69, Fn.mk', Tst.b69]
  simp only [↓vcPre, ↓wit_get, ↓reduceIte, vcPost, vcStd, Nat.reduceEqDiff, reduceCtorEq, Nat.reduceAdd, Nat.reduceLeDiff, Int.reduceLT, Int.reduceLE, ↓u_setN]
  refine ⟨fun h1 => by simp [maskF, h1], fun h1 => ?_⟩
  have e : IntKind.i64.wrap (32 - if 32 < n then 32 else n) = 32 - min n 32 := by
    rw [wrap64 (by unfold I64; split <;> omega)]; split <;> omega
  rw [e]
  exact ⟨by omega, by simp [maskF, h1]⟩

def rightF (a n : Int) : Bool := decide (0 ≤ n) && decide (n ≤ 32) && decide (bitInt .andNot .u32 a (maskF n) = 0)

theorem c56 (a n : Int) : Pur Try.prog 56 [.agg [.int .u32 a, .int .i64 n]] (.bool (rightF a n)) := by
  refine pur_of Tst.F56 (by simp [Tst.F56, Fn.mk']) fun σ => ?_
  simp only [Tst.F56, Fn.mk', Tst.b56]
  simp only [↓vcPre, ↓wit_get, ↓reduceIte, vcPost, vcStd, Nat.reduceEqDiff, reduceCtorEq, Nat.reduceAdd, Nat.reduceLeDiff, Int.reduceLT, Int.reduceLE, ↓u_setN]
  refine AllocQ.i0 fun i hi => ?_
  simp only [*, ↓vcPre, ↓wit_get, ↓reduceIte, vcPost, vcStd, Nat.reduceEqDiff, reduceCtorEq, Nat.reduceAdd, Nat.reduceLeDiff, Int.reduceLT, Int.reduceLE, ↓u_setN]
  refine ⟨fun h1 => ⟨fun h2 => (c69 n (by unfold I64; omega)).Q ?_, fun h2 => by simp [rightF, h2]⟩, fun h2 => by simp [rightF, h2]⟩
  simp only [*, ↓vcPre, ↓wit_get, ↓reduceIte, vcPost, vcStd, Nat.reduceEqDiff, reduceCtorEq, Nat.reduceAdd, Nat.reduceLeDiff, Int.reduceLT, Int.reduceLE, ↓u_setN]
  simp [rightF, h1, h2]

def lessF (a n b m : Int) : Bool := rightF a n && rightF b m && (decide (a < b) || decide (a = b) && decide (n < m))
theorem c58 (a n b m : Int) : Pur Try.prog 58 [.agg [.int .u32 a, .int .i64 n], .agg [.int .u32 b, .int .i64 m]] (.bool (lessF a n b m)) := by
  refine pur_of Tst.F58 (by simp [Tst.F58, Fn.mk']) fun σ => ?_
  simp only [Tst.F58, Fn.mk', Tst.b58]
  simp only [↓vcPre, ↓wit_get, ↓reduceIte, vcPost, vcStd, Nat.reduceEqDiff, reduceCtorEq, Nat.reduceAdd, Nat.reduceLeDiff, Int.reduceLT, Int.reduceLE, ↓u_setN]
  refine AllocQ.i0 fun i hi => ?_
  simp only [↓vcPre, ↓wit_get, ↓reduceIte, vcPost, vcStd, Nat.reduceEqDiff, reduceCtorEq, Nat.reduceAdd, Nat.reduceLeDiff, Int.reduceLT, Int.reduceLE, ↓u_setN]
  refine AllocQ.i1 fun j hj1 hj2 hj => ?_
  simp only [*, ↓vcPre, ↓wit_get, ↓reduceIte, vcPost, vcStd, Nat.reduceEqDiff, reduceCtorEq, Nat.reduceAdd, Nat.reduceLeDiff, Int.reduceLT, Int.reduceLE, ↓u_setN]
  refine (c56 a n).Q ?_
  cases h1 : rightF a n
  · simp only [*, ↓vcPre, ↓wit_get, ↓reduceIte, vcPost, vcStd, Nat.reduceEqDiff, reduceCtorEq, Nat.reduceAdd, Nat.reduceLeDiff, Int.reduceLT, Int.reduceLE, ↓u_setN]; simp [lessF, h1]
  · simp only [*, ↓vcPre, ↓wit_get, ↓reduceIte, vcPost, vcStd, Nat.reduceEqDiff, reduceCtorEq, Nat.reduceAdd, Nat.reduceLeDiff, Int.reduceLT, Int.reduceLE, ↓u_setN]
    refine (c56 b m).Q ?_
    cases h2 : rightF b m
    · simp only [*, ↓vcPre, ↓wit_get, ↓reduceIte, vcPost, vcStd, Nat.reduceEqDiff, reduceCtorEq, Nat.reduceAdd, Nat.reduceLeDiff, Int.reduceLT, Int.reduceLE, ↓u_setN]; simp [lessF, h2]
    · simp only [*, ↓vcPre, ↓wit_get, ↓reduceIte, vcPost, vcStd, Nat.reduceEqDiff, reduceCtorEq, Nat.reduceAdd, Nat.reduceLeDiff, Int.reduceLT, Int.reduceLE, ↓u_setN]
      simp [lessF, h1, h2]
      grind

def cmpF (a n b m : Int) : Int := if lessF a n b m then -1 else if lessF b m a n then 1 else 0
theorem c43 (a n b m : Int) : Pur Try.prog 43 [.agg [.int .u32 a, .int .i64 n], .agg [.int .u32 b, .int .i64 m]] (.int .i64 (cmpF a n b m)) := by
  refine pur_of Tst.F43 (by simp [Tst.F43, Fn.mk']) fun σ => ?_
  simp only [Tst.F43, Fn.mk', Tst.b43]
  simp only [↓vcPre, ↓wit_get, ↓reduceIte, vcPost, vcStd, Nat.reduceEqDiff, reduceCtorEq, Nat.reduceAdd, Nat.reduceLeDiff, Int.reduceLT, Int.reduceLE, ↓u_setN]
  refine AllocQ.i0 fun i hi => ?_
  simp only [↓vcPre, ↓wit_get, ↓reduceIte, vcPost, vcStd, Nat.reduceEqDiff, reduceCtorEq, Nat.reduceAdd, Nat.reduceLeDiff, Int.reduceLT, Int.reduceLE, ↓u_setN]
  refine AllocQ.i1 fun j hj1 hj2 hj => ?_
  simp only [*, ↓vcPre, ↓wit_get, ↓reduceIte, vcPost, vcStd, Nat.reduceEqDiff, reduceCtorEq, Nat.reduceAdd, Nat.reduceLeDiff, Int.reduceLT, Int.reduceLE, ↓u_setN]
  refine (c58 a n b m).Q ?_
  cases h1 : lessF a n b m
  · simp only [*, ↓vcPre, ↓wit_get, ↓reduceIte, vcPost, vcStd, Nat.reduceEqDiff, reduceCtorEq, Nat.reduceAdd, Nat.reduceLeDiff, Int.reduceLT, Int.reduceLE, ↓u_setN]
    refine (c58 b m a n).Q ?_
    cases h2 : lessF b m a n
    · simp only [*, ↓vcPre, ↓wit_get, ↓reduceIte, vcPost, vcStd, Nat.reduceEqDiff, reduceCtorEq, Nat.reduceAdd, Nat.reduceLeDiff, Int.reduceLT, Int.reduceLE, ↓u_setN]; simp [cmpF, h1, h2]
    · simp only [*, ↓vcPre, ↓wit_get, ↓reduceIte, vcPost, vcStd, Nat.reduceEqDiff, reduceCtorEq, Nat.reduceAdd, Nat.reduceLeDiff, Int.reduceLT, Int.reduceLE, ↓u_setN]; simp [cmpF, h1, h2]
  · simp only [*, ↓vcPre, ↓wit_get, ↓reduceIte, vcPost, vcStd, Nat.reduceEqDiff, reduceCtorEq, Nat.reduceAdd, Nat.reduceLeDiff, Int.reduceLT, Int.reduceLE, ↓u_setN]; simp [cmpF, h1]
end Go.Am

/- W2 -/
namespace Go.Am
open Go.Proofs
theorem c28 (n lo hi : Int) (h1 : I64 n) (h2 : 0 ≤ lo) (h3 : lo ≤ hi) (h4 : hi < 4294967296) : Pur Try.prog 28 [.int .i64 n, .int .i64 lo, .int .i64 hi] (.int .i64 (lo + (n % (hi - lo + 1)))) := by
  refine pur_of Tst.F28 (by simp [Tst.F28, Fn.mk']) fun σ => ?_
  simp only [Tst.F28, Fn.mk', Tst.b28]
  simp only [↓vcPre, ↓wit_get, ↓reduceIte, vcPost, vcStd, Nat.reduceEqDiff, reduceCtorEq, Nat.reduceAdd, Nat.reduceLeDiff, Int.reduceLT, Int.reduceLE, ↓u_setN]
  have w : ∀ {x : Int}, -9223372036854775808 ≤ x → x ≤ 9223372036854775807 → IntKind.i64.wrap x = x := fun a b => wrap64 ⟨a, b⟩
  rw [w (x := hi - lo) (by omega) (by omega), w (x := hi - lo + 1) (by omega) (by omega)]
  have hm : 0 < hi - lo + 1 := by omega
  generalize hd : hi - lo + 1 = d at *
  have he : n % d = if n.tmod d < 0 then n.tmod d + d else n.tmod d := by
    rw [Int.tmod_eq_emod]
    have := Int.emod_nonneg n (b := d) (by omega)
    have := Int.emod_lt_of_pos n (b := d) (by omega)
    split <;> split <;> omega
  have b1 := Int.emod_nonneg n (b := d) (by omega)
  have b2 := Int.emod_lt_of_pos n (b := d) (by omega)
  refine ⟨by omega, fun hn => ?_, fun hn => ?_⟩
  · rw [if_pos hn] at he
    rw [w (x := n.tmod d + hi) (by omega) (by omega), w (x := n.tmod d + hi - lo) (by omega) (by omega), w (x := n.tmod d + hi - lo + 1) (by omega) (by omega), w (by omega) (by omega)]; omega
  · rw [if_neg hn] at he
    rw [w (by omega) (by omega)]; omega

theorem mask_step : ∀ i : Fin 32, bitInt BinOp.or .u32 (maskF (i.val : Int)) (shlInt .u32 1 (31 - (i.val : Int))) = maskF ((i.val : Int) + 1) := by decide
theorem mask_big {n : Int} (h : 32 ≤ n) : maskF n = maskF 32 := by
  unfold maskF; rw [if_neg (by omega), if_neg (by omega), show min n 32 = 32 by omega, show min (32 : Int) 32 = 32 by omega]
theorem mask_low {n : Int} (h : n ≤ 0) : maskF n = maskF 0 := by
  unfold maskF; rw [if_pos (by omega), if_pos (by omega)]

theorem c49 (n : Int) (h : I64 n) : Pur Try.prog 49 [.int .i64 n] (.int .u32 (maskF n)) := by
  refine pur_of Tst.F49 (by simp [Tst.F49, Fn.mk']) fun σ => ?_
  simp only [Tst.F49, Fn.mk', Tst.b49]
  simp only [↓vcPre, ↓wit_get, ↓reduceIte, vcPost, vcStd, Nat.reduceEqDiff, reduceCtorEq, Nat.reduceAdd, Nat.reduceLeDiff, Int.reduceLT, Int.reduceLE, ↓u_setN]
  refine LoopQ.inv (S := Nat) (fun i => [(0, .int .i64 n), (3, .int .u32 (maskF i)), (4, .int .i64 i)]) (fun _ => σ) (fun i => (i : Int) ≤ max n 0 ∧ i ≤ 32) (fun i => 33 - i) 0 rfl (Store.sub_refl _) ⟨by omega, by omega⟩ ?_
  intro i hi
  simp only [↓vcPre, ↓wit_get, ↓reduceIte, vcPost, vcStd, Nat.reduceEqDiff, reduceCtorEq, Nat.reduceAdd, Nat.reduceLeDiff, Int.reduceLT, Int.reduceLE, ↓u_setN]
  have w : IntKind.i64.wrap (31 - ↑i) = 31 - (i : Int) := wrap64 ⟨by omega, by omega⟩
  have w1 : IntKind.i64.wrap (↑i + 1) = (i : Int) + 1 := wrap64 ⟨by omega, by omega⟩
  refine ⟨fun h1 => ⟨fun h2 => ?_, fun h2 => ?_⟩, fun h1 => ?_⟩
  · have w2 : IntKind.u64.wrap (31 - ↑i) = 31 - (i : Int) := by simp [IntKind.wrap, IntKind.bits, IntKind.signed]; omega
    rw [w, w1, w2]
    refine ⟨by omega, NextQ.to (i + 1) ?_ (Store.sub_refl _) (by omega) ⟨by omega, by omega⟩⟩
    have := mask_step ⟨i, by omega⟩
    simp only at this
    simp only [this, Int.natCast_add, Int.cast_ofNat_Int]
  · rw [mask_big (n := i) (by omega), mask_big (n := n) (by omega)]
  · by_cases h0 : n ≤ 0
    · rw [mask_low (n := i) (by omega), mask_low h0]
    · rw [show (i : Int) = n by omega]

theorem c46 (a n : Int) : Pur Try.prog 46 [.agg [.int .u32 a, .int .i64 n]] (.bool (rightF a n)) := by
  refine pur_of Tst.F46 (by simp [Tst.F46, Fn.mk']) fun σ => ?_
  simp only [Tst.F46, Fn.mk', Tst.b46]
  simp only [↓vcPre, ↓wit_get, ↓reduceIte, vcPost, vcStd, Nat.reduceEqDiff, reduceCtorEq, Nat.reduceAdd, Nat.reduceLeDiff, Int.reduceLT, Int.reduceLE, ↓u_setN]
  refine AllocQ.i0 fun i hi => ?_
  simp only [*, ↓vcPre, ↓wit_get, ↓reduceIte, vcPost, vcStd, Nat.reduceEqDiff, reduceCtorEq, Nat.reduceAdd, Nat.reduceLeDiff, Int.reduceLT, Int.reduceLE, ↓u_setN]
  refine ⟨fun h1 => ⟨fun h2 => (c49 n (by unfold I64; omega)).Q ?_, fun h2 => by simp [rightF, h2]⟩, fun h2 => by simp [rightF, h2]⟩
  simp only [*, ↓vcPre, ↓wit_get, ↓reduceIte, vcPost, vcStd, Nat.reduceEqDiff, reduceCtorEq, Nat.reduceAdd, Nat.reduceLeDiff, Int.reduceLT, Int.reduceLE, ↓u_setN]
  simp [rightF, h1, h2]

theorem c16 (a n b m : Int) : Pur Try.prog 16 [.agg [.int .u32 a, .int .i64 n], .agg [.int .u32 b, .int .i64 m]] (.bool (lessF a n b m)) := by
  refine pur_of Tst.F16 (by simp [Tst.F16, Fn.mk']) fun σ => ?_
  simp only [Tst.F16, Fn.mk', Tst.b16]
  simp only [↓vcPre, ↓wit_get, ↓reduceIte, vcPost, vcStd, Nat.reduceEqDiff, reduceCtorEq, Nat.reduceAdd, Nat.reduceLeDiff, Int.reduceLT, Int.reduceLE, ↓u_setN]
  refine AllocQ.i0 fun i hi => ?_
  simp only [↓vcPre, ↓wit_get, ↓reduceIte, vcPost, vcStd, Nat.reduceEqDiff, reduceCtorEq, Nat.reduceAdd, Nat.reduceLeDiff, Int.reduceLT, Int.reduceLE, ↓u_setN]
  refine AllocQ.i1 fun j hj1 hj2 hj => ?_
  simp only [*, ↓vcPre, ↓wit_get, ↓reduceIte, vcPost, vcStd, Nat.reduceEqDiff, reduceCtorEq, Nat.reduceAdd, Nat.reduceLeDiff, Int.reduceLT, Int.reduceLE, ↓u_setN]
  refine (c46 a n).Q ?_
  cases h1 : rightF a n
  · simp only [*, ↓vcPre, ↓wit_get, ↓reduceIte, vcPost, vcStd, Nat.reduceEqDiff, reduceCtorEq, Nat.reduceAdd, Nat.reduceLeDiff, Int.reduceLT, Int.reduceLE, ↓u_setN]; simp [lessF, h1]
  · simp only [*, ↓vcPre, ↓wit_get, ↓reduceIte, vcPost, vcStd, Nat.reduceEqDiff, reduceCtorEq, Nat.reduceAdd, Nat.reduceLeDiff, Int.reduceLT, Int.reduceLE, ↓u_setN]
    refine (c46 b m).Q ?_
    cases h2 : rightF b m
    · simp only [*, ↓vcPre, ↓wit_get, ↓reduceIte, vcPost, vcStd, Nat.reduceEqDiff, reduceCtorEq, Nat.reduceAdd, Nat.reduceLeDiff, Int.reduceLT, Int.reduceLE, ↓u_setN]; simp [lessF, h2]
    · simp only [*, ↓vcPre, ↓wit_get, ↓reduceIte, vcPost, vcStd, Nat.reduceEqDiff, reduceCtorEq, Nat.reduceAdd, Nat.reduceLeDiff, Int.reduceLT, Int.reduceLE, ↓u_setN]
      simp [lessF, h1, h2]
      grind

def ofF (a n : Int) : Int × Int := (bitInt .and .u32 a (maskF (max (min n 32) 0)), max (min n 32) 0)
theorem c54 (a n : Int) (h : I64 n) : Pur Try.prog 54 [.int .u32 a, .int .i64 n] (.agg [.int .u32 (ofF a n).1, .int .i64 (ofF a n).2]) := by
  refine pur_of Tst.F54 (by simp [Tst.F54, Fn.mk']) fun σ => ?_
  simp only [Tst.F54, Fn.mk', Tst.b54]
  simp only [↓vcPre, ↓wit_get, ↓reduceIte, vcPost, vcStd, Nat.reduceEqDiff, reduceCtorEq, Nat.reduceAdd, Nat.reduceLeDiff, Int.reduceLT, Int.reduceLE, ↓u_setN]
  refine AllocQ.i0 fun i hi => ?_
  simp only [*, ↓vcPre, ↓wit_get, ↓reduceIte, vcPost, vcStd, Nat.reduceEqDiff, reduceCtorEq, Nat.reduceAdd, Nat.reduceLeDiff, Int.reduceLT, Int.reduceLE, ↓u_setN]
  have e0 : max (min n 32) 0 = if n < 0 then 0 else if 32 < n then 32 else n := by split <;> (try split) <;> omega
  refine ⟨fun h1 => (c49 0 (by unfold I64; omega)).Q ?_, fun h1 => ⟨fun h2 => (c49 32 (by unfold I64; omega)).Q ?_, fun h2 => (c49 n h).Q ?_⟩⟩
  · simp only [*, ↓vcPre, ↓wit_get, ↓reduceIte, vcPost, vcStd, Nat.reduceEqDiff, reduceCtorEq, Nat.reduceAdd, Nat.reduceLeDiff, Int.reduceLT, Int.reduceLE, ↓u_setN]
    simp [ofF, e0, h1]
  · simp only [*, ↓vcPre, ↓wit_get, ↓reduceIte, vcPost, vcStd, Nat.reduceEqDiff, reduceCtorEq, Nat.reduceAdd, Nat.reduceLeDiff, Int.reduceLT, Int.reduceLE, ↓u_setN]
    simp [ofF, e0, h1, h2]
  · simp only [*, ↓vcPre, ↓wit_get, ↓reduceIte, vcPost, vcStd, Nat.reduceEqDiff, reduceCtorEq, Nat.reduceAdd, Nat.reduceLeDiff, Int.reduceLT, Int.reduceLE, ↓u_setN]
    simp [ofF, e0, h1, h2]

end Go.Am

/- W3 -/
namespace Go.Am
open Go.Proofs
abbrev HL := List (Int × Int)
def hopC (x : Int × Int) : List AV := [.int .i64 x.1, .int .i64 x.2]
def hopsS (l : HL) : AV := .sl 2 (l.map hopC)
theorem take_succ_eq {α : Type} {l m : List α} {i : Nat} (h : l.take i = m.take i) (h1 : i < l.length) (h2 : i < m.length) (he : l[i] = m[i]) : l.take (i + 1) = m.take (i + 1) := by
  rw [List.take_add_one, List.take_add_one, h, List.getElem?_eq_getElem h1, List.getElem?_eq_getElem h2, he]
def Small {α : Type} (l : List α) : Prop := (l.length : Int) < 4611686018427387904
theorem c59 (l m : HL) (h : Small l) : Pur Try.prog 59 [hopsS l, hopsS m] (.bool (decide (l = m))) := by
  refine pur_of Tst.F59 (by simp [Tst.F59, Fn.mk']) fun σ => ?_
  simp only [Tst.F59, Fn.mk', Tst.b59, hopsS]
  simp only [↓vcPre, ↓wit_get, ↓reduceIte, vcPost, vcStd, Nat.reduceEqDiff, reduceCtorEq, Nat.reduceAdd, Nat.reduceLeDiff, Int.reduceLT, Int.reduceLE, ↓u_setN]
  unfold Small at h
  refine ⟨fun h1 => by simp; intro h2; subst h2; exact h1 rfl, fun h1 => ?_⟩
  have hl : l.length = m.length := by omega
  refine LoopQ.inv (S := Nat) (fun i => [(0, hopsS l), (1, hopsS m), (12, .int .i64 l.length), (13, .int .i64 i)]) (fun _ => σ) (fun i => i ≤ l.length ∧ l.take i = m.take i) (fun i => l.length + 1 - i) 0 (by rw [h1]; rfl) (Store.sub_refl _) ⟨by omega, by simp⟩ ?_
  intro i hi
  simp only [hopsS]
  simp only [hopC, ↓vcPre, ↓wit_get, ↓reduceIte, vcPost, vcStd, Nat.reduceEqDiff, reduceCtorEq, Nat.reduceAdd, Nat.reduceLeDiff, Int.reduceLT, Int.reduceLE, ↓u_setN]
  refine ⟨fun h2 => ?_, fun h2 => ?_⟩
  · have i1 : i < l.length := by omega
    have i2 : i < m.length := by omega
    refine ⟨i1, i2, fun h3 => ?_, fun h3 h4 => ?_⟩
    · simp; intro e; subst e; exact h3 ⟨rfl, rfl⟩
    · rw [wrap64 (by unfold I64; omega)]
      refine NextQ.to (i + 1) ?_ (Store.sub_refl _) ?_ ?_
      · rfl
      · omega
      · exact ⟨by omega, take_succ_eq hi.2 i1 i2 (Prod.ext h3 h4)⟩
  · have : i = l.length := by omega
    have h3 := hi.2
    rw [this, List.take_length, hl, List.take_length] at h3
    simp [h3]
end Go.Am

/- W4 -/
namespace Go.Am
open Go.Proofs
theorem c25 (l m : HL) (h : Small l) : Pur Try.prog 25 [hopsS l, hopsS m] (.bool (decide (l = m))) := by
  refine pur_of Tst.F25 (by simp [Tst.F25, Fn.mk']) fun σ => ?_
  simp only [Tst.F25, Fn.mk', Tst.b25, hopsS]
  simp only [↓vcPre, ↓wit_get, ↓reduceIte, vcPost, vcStd, Nat.reduceEqDiff, reduceCtorEq, Nat.reduceAdd, Nat.reduceLeDiff, Int.reduceLT, Int.reduceLE, ↓u_setN]
  unfold Small at h
  refine ⟨fun h1 => by simp; intro h2; subst h2; exact h1 rfl, fun h1 => ?_⟩
  have hl : l.length = m.length := by omega
  refine LoopQ.inv (S := Nat) (fun i => [(0, hopsS l), (1, hopsS m), (5, .int .i64 i)]) (fun _ => σ) (fun i => i ≤ l.length ∧ l.take i = m.take i) (fun i => l.length + 1 - i) 0 rfl (Store.sub_refl _) ⟨by omega, by simp⟩ ?_
  intro i hi
  simp only [hopsS]
  simp only [hopC, ↓vcPre, ↓wit_get, ↓reduceIte, vcPost, vcStd, Nat.reduceEqDiff, reduceCtorEq, Nat.reduceAdd, Nat.reduceLeDiff, Int.reduceLT, Int.reduceLE, ↓u_setN]
  refine ⟨fun h2 => ?_, fun h2 => ?_⟩
  · have i1 : i < l.length := by omega
    have i2 : i < m.length := by omega
    refine ⟨i1, i2, fun h3 => ?_, fun h3 h4 => ?_⟩
    · simp; intro e; subst e; exact h3 ⟨rfl, rfl⟩
    · rw [wrap64 (by unfold I64; omega)]
      refine NextQ.to (i + 1) ?_ (Store.sub_refl _) ?_ ?_
      · rfl
      · omega
      · exact ⟨by omega, take_succ_eq hi.2 i1 i2 (Prod.ext h3 h4)⟩
  · have : i = l.length := by omega
    have h3 := hi.2
    rw [this, List.take_length, hl, List.take_length] at h3
    simp [h3]

theorem c37 (l m : HL) (h : Small l) : Pur Try.prog 37 [hopsS l, hopsS m] (.bool (decide (l = m))) := by
  refine pur_of Tst.F37 (by simp [Tst.F37, Fn.mk']) fun σ => ?_
  simp only [Tst.F37, Fn.mk', Tst.b37, hopsS]
  simp only [↓vcPre, ↓wit_get, ↓reduceIte, vcPost, vcStd, Nat.reduceEqDiff, reduceCtorEq, Nat.reduceAdd, Nat.reduceLeDiff, Int.reduceLT, Int.reduceLE, ↓u_setN]
  refine (c59 l m h).Q ?_
  simp only [↓vcPre, ↓wit_get, ↓reduceIte, vcPost, vcStd, Nat.reduceEqDiff, reduceCtorEq, Nat.reduceAdd, Nat.reduceLeDiff, Int.reduceLT, Int.reduceLE, ↓u_setN]

abbrev hopsO : Option HL → AV := slO 2 hopC
/-- Are hops right, behind a link? -/
def hopsB : Int → HL → Bool
  | _, [] => true
  | p, x :: r => decide (0 ≤ x.1) && decide (x.1 ≤ 255) && decide (1 ≤ x.2) && decide (x.2 ≤ 16) && decide (p < x.1) && hopsB x.1 r
def prevL (l : HL) (i : Nat) : Int := if i = 0 then -1 else (l.getD (i - 1) (0, 0)).1
set_option maxRecDepth 20000 in
theorem c57 (l : HL) (h : Small l) : Pur Try.prog 57 [hopsS l] (.bool (hopsB (-1) l && decide (l.length ≤ 16))) := by
  refine pur_of Tst.F57 (by simp [Tst.F57, Fn.mk']) fun σ => ?_
  simp only [Tst.F57, Fn.mk', Tst.b57, hopsS]
  simp only [↓vcPre, ↓wit_get, ↓reduceIte, vcPost, vcStd, Nat.reduceEqDiff, reduceCtorEq, Nat.reduceAdd, Nat.reduceLeDiff, Int.reduceLT, Int.reduceLE, ↓u_setN]
  unfold Small at h
  refine LoopQ.inv (S := Nat) (fun i => [(0, hopsS l), (5, hopsS l), (6, .int .i64 l.length), (7, .int .i64 i)]) (fun _ => σ) (fun i => i ≤ l.length ∧ hopsB (prevL l i) (l.drop i) = hopsB (-1) l) (fun i => l.length + 1 - i) 0 rfl (Store.sub_refl _) ⟨by omega, by simp [prevL]⟩ ?_
  intro i hi
  simp only [hopsS]
  simp only [hopC, ↓vcPre, ↓wit_get, ↓reduceIte, vcPost, vcStd, Nat.reduceEqDiff, reduceCtorEq, Nat.reduceAdd, Nat.reduceLeDiff, Int.reduceLT, Int.reduceLE, ↓u_setN]
  refine ⟨fun h2 => ⟨h2, AllocQ.i0 fun j hj => ?_⟩, fun h2 => ?_⟩
  · simp only [hj, hopC, ↓vcPre, ↓wit_get, ↓reduceIte, vcPost, vcStd, Nat.reduceEqDiff, reduceCtorEq, Nat.reduceAdd, Nat.reduceLeDiff, Int.reduceLT, Int.reduceLE, ↓u_setN]
    have hb : hopsB (-1) l = (decide (0 ≤ l[i].1) && decide (l[i].1 ≤ 255) && decide (1 ≤ l[i].2) && decide (l[i].2 ≤ 16) && decide (prevL l i < l[i].1) && hopsB l[i].1 (l.drop (i + 1))) := by
      rw [← hi.2, List.drop_eq_getElem_cons h2]; rfl
    have hp : prevL l (i + 1) = l[i].1 := by simp [prevL, h2]
    have hn : prevL l i < l[i].1 → 0 ≤ l[i].1 → l[i].1 ≤ 255 → 1 ≤ l[i].2 → l[i].2 ≤ 16 → hopsB (prevL l (i + 1)) (l.drop (i + 1)) = hopsB (-1) l := fun a1 a2 a3 a4 a5 => by
      rw [hb, hp]; simp [a1, a2, a3, a4, a5]
    rw [wrap64 (n := (i : Int) + 1) (by unfold I64; omega)]
    refine ⟨fun a1 => ⟨fun a2 => ⟨fun a3 => ⟨fun a4 => ⟨fun a5 => ?_, fun a5 => ?_⟩, fun a4 => ?_⟩, fun a3 => ?_⟩, fun a2 => ?_⟩, fun a1 => ?_⟩
    · have e : IntKind.i64.wrap (↑i - 1) = ((i - 1 : Nat) : Int) := by rw [wrap64 (by unfold I64; omega)]; omega
      simp only [e, Int.toNat_natCast]
      have hq : prevL l i = (l[i - 1]'(by omega)).1 := by
        have : ¬ i = 0 := by omega
        simp [prevL, this, List.getElem?_eq_getElem (show i - 1 < l.length by omega)]
      refine ⟨by omega, by omega, fun a6 => ?_, fun a6 => ?_⟩
      · rw [hb, hq, decide_eq_false (p := (l[i - 1]'(by omega)).1 < l[i].1) (by omega)]; simp
      · refine NextQ.to (i + 1) ?_ ?_ ?_ ?_
        · rfl
        · exact Store.sub_upd (Store.sub_set _ _ _ hj) hj
        · omega
        · exact ⟨by omega, hn (by rw [hq]; omega) (by omega) (by omega) (by omega) (by omega)⟩
    · refine NextQ.to (i + 1) ?_ ?_ ?_ ?_
      · rfl
      · exact Store.sub_upd (Store.sub_set _ _ _ hj) hj
      · omega
      · have : i = 0 := by omega
        subst this
        exact ⟨by omega, hn (by simp [prevL]; omega) (by omega) (by omega) (by omega) (by omega)⟩
    · rw [hb, decide_eq_false (p := l[i].2 ≤ 16) (by omega)]; simp
    · rw [hb, decide_eq_false (p := 1 ≤ l[i].2) (by omega)]; simp
    · rw [hb, decide_eq_false (p := l[i].1 ≤ 255) (by omega)]; simp
    · rw [hb, decide_eq_false (p := 0 ≤ l[i].1) (by omega)]; simp
  · have e : i = l.length := by omega
    have := hi.2
    rw [e, List.drop_length] at this
    simp [← this, hopsB]; omega

theorem c25O (l m : Option HL) (h : Small (l.getD [])) : Pur Try.prog 25 [hopsO l, hopsO m] (.bool (decide (l.getD [] = m.getD []))) := by
  have h1 : ∀ m', Pur Try.prog 25 [hopsO l, .sl 2 (m'.map hopC)] (.bool (decide (l.getD [] = m'))) := fun m' => by
    cases l with
    | none => exact Pur.nil 0 2 rfl (c25 [] m' h)
    | some l => exact c25 l m' h
  exact Pur.O (v := fun x => .bool (decide (l.getD [] = x))) 1 rfl h1
theorem c37O (l m : Option HL) (h : Small (l.getD [])) : Pur Try.prog 37 [hopsO l, hopsO m] (.bool (decide (l.getD [] = m.getD []))) := by
  have h1 : ∀ m', Pur Try.prog 37 [hopsO l, .sl 2 (m'.map hopC)] (.bool (decide (l.getD [] = m'))) := fun m' => by
    cases l with
    | none => exact Pur.nil 0 2 rfl (c37 [] m' h)
    | some l => exact c37 l m' h
  exact Pur.O (v := fun x => .bool (decide (l.getD [] = x))) 1 rfl h1
def hopsR (l : HL) : Bool := hopsB (-1) l && decide (l.length ≤ 16)
theorem c57O (l : Option HL) (h : Small (l.getD [])) : Pur Try.prog 57 [hopsO l] (.bool (hopsR (l.getD []))) := by
  cases l with
  | none => exact Pur.nil 0 2 rfl (c57 [] h)
  | some l => exact c57 l h
structure En where
  a : Int
  n : Int
  h : Option HL
def En.c (e : En) : List AV := [.int .u32 e.a, .int .i64 e.n, hopsO e.h]
def En.ok (e : En) : Prop := Small (e.h.getD [])
def enLess (p e : En) : Bool := lessF p.a p.n e.a e.n
def ensB : Option En → List En → Bool
  | _, [] => true
  | p, e :: r => rightF e.a e.n && hopsR (e.h.getD []) && (match p with | some p => enLess p e | none => true) && ensB (some e) r
def ensR (l : List En) : Bool := ensB none l && decide (l.length ≤ 4096)
def prevE (l : List En) (i : Nat) : Option En := if i = 0 then none else l[i - 1]?
theorem c35 (l : List En) (h : Small l) (ho : ∀ e ∈ l, e.ok) : Pur Try.prog 35 [.sl 3 (l.map En.c)] (.bool (ensR l)) := by
  refine pur_of Tst.F35 (by simp [Tst.F35, Fn.mk']) fun σ => ?_
  simp only [Tst.F35, Fn.mk', Tst.b35]
  simp only [↓vcPre, ↓wit_get, ↓reduceIte, vcPost, vcStd, Nat.reduceEqDiff, reduceCtorEq, Nat.reduceAdd, Nat.reduceLeDiff, Int.reduceLT, Int.reduceLE, ↓u_setN]
  unfold Small at h
  refine LoopQ.inv (S := Nat) (fun i => [(0, .sl 3 (l.map En.c)), (5, .sl 3 (l.map En.c)), (6, .int .i64 l.length), (7, .int .i64 i)]) (fun _ => σ) (fun i => i ≤ l.length ∧ ensB (prevE l i) (l.drop i) = ensB none l) (fun i => l.length + 1 - i) 0 rfl (Store.sub_refl _) ⟨by omega, by simp [prevE]⟩ ?_
  intro i hi
  simp only [En.c, ↓vcPre, ↓wit_get, ↓reduceIte, vcPost, vcStd, Nat.reduceEqDiff, reduceCtorEq, Nat.reduceAdd, Nat.reduceLeDiff, Int.reduceLT, Int.reduceLE, ↓u_setN]
  refine ⟨fun h2 => ⟨h2, AllocQ.i0 fun j hj => ?_⟩, fun h2 => ?_⟩
  · simp only [hj, En.c, ↓vcPre, ↓wit_get, ↓reduceIte, vcPost, vcStd, Nat.reduceEqDiff, reduceCtorEq, Nat.reduceAdd, Nat.reduceLeDiff, Int.reduceLT, Int.reduceLE, ↓u_setN]
    have hb : ensB none l = (rightF l[i].a l[i].n && hopsR (l[i].h.getD []) && (match prevE l i with | some p => enLess p l[i] | none => true) && ensB (some l[i]) (l.drop (i + 1))) := by
      rw [← hi.2, List.drop_eq_getElem_cons h2]; rfl
    have hp : prevE l (i + 1) = some l[i] := by simp [prevE, h2]
    refine (c56 _ _).Q ?_
    cases h3 : rightF l[i].a l[i].n
    · simp only [hj, En.c, ↓vcPre, ↓wit_get, ↓reduceIte, vcPost, vcStd, Nat.reduceEqDiff, reduceCtorEq, Nat.reduceAdd, Nat.reduceLeDiff, Int.reduceLT, Int.reduceLE, ↓u_setN]
      simp [ensR, hb, h3]
    · simp only [hj, En.c, ↓vcPre, ↓wit_get, ↓reduceIte, vcPost, vcStd, Nat.reduceEqDiff, reduceCtorEq, Nat.reduceAdd, Nat.reduceLeDiff, Int.reduceLT, Int.reduceLE, ↓u_setN]
      refine (c57O _ (ho _ (List.getElem_mem h2))).Q ?_
      cases h4 : hopsR (l[i].h.getD [])
      · simp only [hj, En.c, ↓vcPre, ↓wit_get, ↓reduceIte, vcPost, vcStd, Nat.reduceEqDiff, reduceCtorEq, Nat.reduceAdd, Nat.reduceLeDiff, Int.reduceLT, Int.reduceLE, ↓u_setN]
        simp [ensR, hb, h4]
      · simp only [hj, En.c, ↓vcPre, ↓wit_get, ↓reduceIte, vcPost, vcStd, Nat.reduceEqDiff, reduceCtorEq, Nat.reduceAdd, Nat.reduceLeDiff, Int.reduceLT, Int.reduceLE, ↓u_setN]
        rw [wrap64 (n := (i : Int) + 1) (by unfold I64; omega)]
        refine ⟨fun a1 => ?_, fun a1 => ?_⟩
        · have e : IntKind.i64.wrap (↑i - 1) = ((i - 1 : Nat) : Int) := by rw [wrap64 (by unfold I64; omega)]; omega
          have hq : prevE l i = some (l[i - 1]'(by omega)) := by
            have : ¬ i = 0 := by omega
            simp [prevE, this, List.getElem?_eq_getElem (show i - 1 < l.length by omega)]
          simp only [e, Int.toNat_natCast]
          refine ⟨by omega, by omega, (c58 _ _ _ _).Q ?_⟩
          rw [hq] at hb
          cases h5 : enLess (l[i - 1]'(by omega)) l[i]
          · rw [show lessF (l[i - 1]'(by omega)).a (l[i - 1]'(by omega)).n l[i].a l[i].n = false from h5]
            simp only [hj, En.c, ↓vcPre, ↓wit_get, ↓reduceIte, vcPost, vcStd, Nat.reduceEqDiff, reduceCtorEq, Nat.reduceAdd, Nat.reduceLeDiff, Int.reduceLT, Int.reduceLE, ↓u_setN]
            simp [ensR, hb, h5]
          · rw [show lessF (l[i - 1]'(by omega)).a (l[i - 1]'(by omega)).n l[i].a l[i].n = true from h5]
            simp only [hj, En.c, ↓vcPre, ↓wit_get, ↓reduceIte, vcPost, vcStd, Nat.reduceEqDiff, reduceCtorEq, Nat.reduceAdd, Nat.reduceLeDiff, Int.reduceLT, Int.reduceLE, ↓u_setN]
            rw [wrap64 (n := (i : Int) + 1) (by unfold I64; omega)]
            refine NextQ.to (i + 1) ?_ ?_ ?_ ?_
            · rfl
            · exact Store.sub_upd (Store.sub_set _ _ _ hj) hj
            · omega
            · exact ⟨by omega, by rw [hb, hp]; simp [h3, h4, h5]⟩
        · refine NextQ.to (i + 1) ?_ ?_ ?_ ?_
          · rfl
          · exact Store.sub_upd (Store.sub_set _ _ _ hj) hj
          · omega
          · have : i = 0 := by omega
            subst this
            exact ⟨by omega, by rw [hb, hp]; simp [h3, h4, prevE]⟩
  · have e : i = l.length := by omega
    have := hi.2
    rw [e, List.drop_length] at this
    simp [ensR, ← this, ensB]; omega
end Go.Am

/- W5 -/
namespace Go.Am
open Go.Proofs
set_option maxRecDepth 20000 in
theorem c52 (l : List En) (h : Small l) (ho : ∀ e ∈ l, e.ok) : Pur Try.prog 52 [.sl 3 (l.map En.c)] (.bool (ensR l)) := by
  refine pur_of Tst.F52 (by simp [Tst.F52, Fn.mk']) fun σ => ?_
  simp only [Tst.F52, Fn.mk', Tst.b52]
  simp only [↓vcPre, ↓wit_get, ↓reduceIte, vcPost, vcStd, Nat.reduceEqDiff, reduceCtorEq, Nat.reduceAdd, Nat.reduceLeDiff, Int.reduceLT, Int.reduceLE, ↓u_setN]
  unfold Small at h
  refine ⟨fun h0 => by simp [ensR]; intro _; omega, fun h0 => ?_⟩
  refine LoopQ.inv (S := Nat) (fun i => [(0, .sl 3 (l.map En.c)), (3, .int .i64 i)]) (fun _ => σ) (fun i => i ≤ l.length ∧ ensB (prevE l i) (l.drop i) = ensB none l) (fun i => l.length + 1 - i) 0 rfl (Store.sub_refl _) ⟨by omega, by simp [prevE]⟩ ?_
  intro i hi
  simp only [En.c, ↓vcPre, ↓wit_get, ↓reduceIte, vcPost, vcStd, Nat.reduceEqDiff, reduceCtorEq, Nat.reduceAdd, Nat.reduceLeDiff, Int.reduceLT, Int.reduceLE, ↓u_setN]
  refine ⟨fun h2 => ⟨h2, h2, (c46 _ _).Q ?_⟩, fun h2 => ?_⟩
  · have hb : ensB none l = (rightF l[i].a l[i].n && hopsR (l[i].h.getD []) && (match prevE l i with | some p => enLess p l[i] | none => true) && ensB (some l[i]) (l.drop (i + 1))) := by
      rw [← hi.2, List.drop_eq_getElem_cons h2]; rfl
    have hp : prevE l (i + 1) = some l[i] := by simp [prevE, h2]
    have hm : Small (l[i].h.getD []) := ho _ (List.getElem_mem h2)
    cases h3 : rightF l[i].a l[i].n
    · simp only [En.c, ↓vcPre, ↓wit_get, ↓reduceIte, vcPost, vcStd, Nat.reduceEqDiff, reduceCtorEq, Nat.reduceAdd, Nat.reduceLeDiff, Int.reduceLT, Int.reduceLE, ↓u_setN]
      simp [ensR, hb, h3]
    · simp only [En.c, ↓vcPre, ↓wit_get, ↓reduceIte, vcPost, vcStd, Nat.reduceEqDiff, reduceCtorEq, Nat.reduceAdd, Nat.reduceLeDiff, Int.reduceLT, Int.reduceLE, ↓u_setN]
      refine ⟨fun a1 => ?_, fun a1 => ?_⟩
      · have e : IntKind.i64.wrap (↑i - 1) = ((i - 1 : Nat) : Int) := by rw [wrap64 (by unfold I64; omega)]; omega
        have hq0 : prevE l i = some (l[i - 1]'(by omega)) := by
          have : ¬ i = 0 := by omega
          simp [prevE, this, List.getElem?_eq_getElem (show i - 1 < l.length by omega)]
        simp only [e, Int.toNat_natCast]
        refine ⟨by omega, by omega, h2, (c16 _ _ _ _).Q ?_⟩
        cases h5 : enLess (l[i - 1]'(by omega)) l[i]
        · rw [show lessF (l[i - 1]'(by omega)).a (l[i - 1]'(by omega)).n l[i].a l[i].n = false from h5]
          simp only [En.c, ↓vcPre, ↓wit_get, ↓reduceIte, vcPost, vcStd, Nat.reduceEqDiff, reduceCtorEq, Nat.reduceAdd, Nat.reduceLeDiff, Int.reduceLT, Int.reduceLE, ↓u_setN]
          simp [ensR, hb, hq0, h5]
        · rw [show lessF (l[i - 1]'(by omega)).a (l[i - 1]'(by omega)).n l[i].a l[i].n = true from h5]
          simp only [En.c, ↓vcPre, ↓wit_get, ↓reduceIte, vcPost, vcStd, Nat.reduceEqDiff, reduceCtorEq, Nat.reduceAdd, Nat.reduceLeDiff, Int.reduceLT, Int.reduceLE, ↓u_setN]
          have hq : (match prevE l i with | some p => enLess p l[i] | none => true) = true := by rw [hq0]; exact h5
          refine ⟨fun a2 => by
            have : hopsR (l[i].h.getD []) = false := by simp [hopsR]; intro _; omega
            simp [ensR, hb, this], fun a2 => ?_⟩
          unfold Small at hm
          refine LoopQ.inv (S := Nat) (fun k => [(0, .sl 3 (l.map En.c)), (3, .int .i64 i), (4, hopsO l[i].h), (5, .int .i64 k)]) (fun _ => σ) (fun k => k ≤ (l[i].h.getD []).length ∧ hopsB (prevL (l[i].h.getD []) k) ((l[i].h.getD []).drop k) = hopsB (-1) (l[i].h.getD [])) (fun k => (l[i].h.getD []).length + 1 - k) 0 rfl (Store.sub_refl _) ⟨by omega, by simp [prevL]⟩ ?_
          intro k hk
          simp only [hopC, ↓vcPre, ↓wit_get, ↓reduceIte, vcPost, vcStd, Nat.reduceEqDiff, reduceCtorEq, Nat.reduceAdd, Nat.reduceLeDiff, Int.reduceLT, Int.reduceLE, ↓u_setN]
          refine ⟨fun b2 => ⟨b2, ?_⟩, fun b2 => ?_⟩
          · have hc : hopsB (-1) (l[i].h.getD []) = (decide (0 ≤ (l[i].h.getD [])[k].1) && decide ((l[i].h.getD [])[k].1 ≤ 255) && decide (1 ≤ (l[i].h.getD [])[k].2) && decide ((l[i].h.getD [])[k].2 ≤ 16) && decide (prevL (l[i].h.getD []) k < (l[i].h.getD [])[k].1) && hopsB (l[i].h.getD [])[k].1 ((l[i].h.getD []).drop (k + 1))) := by
              rw [← hk.2, List.drop_eq_getElem_cons b2]; rfl
            have hcp : prevL (l[i].h.getD []) (k + 1) = (l[i].h.getD [])[k].1 := by simp [prevL, b2]
            have hcf : hopsB (-1) (l[i].h.getD []) = false → false = ensR l := fun e => by simp [ensR, hb, hopsR, e]
            generalize l[i].h.getD [] = hh at *
            have hn : prevL hh k < hh[k].1 → 0 ≤ hh[k].1 → hh[k].1 ≤ 255 → 1 ≤ hh[k].2 → hh[k].2 ≤ 16 → hopsB (prevL hh (k + 1)) (hh.drop (k + 1)) = hopsB (-1) hh := fun a1 a2 a3 a4 a5 => by
              rw [hc, hcp]; simp [a1, a2, a3, a4, a5]
            rw [wrap64 (n := (k : Int) + 1) (by unfold I64; omega)]
            refine ⟨fun c1 => ⟨b2, fun c2 => ⟨b2, fun c3 => ⟨b2, fun c4 => ⟨fun c5 => ?_, fun c5 => ?_⟩, fun c4 => ?_⟩, fun c3 => ?_⟩, fun c2 => ?_⟩, fun c1 => ?_⟩
            · have e : IntKind.i64.wrap (↑k - 1) = ((k - 1 : Nat) : Int) := by rw [wrap64 (by unfold I64; omega)]; omega
              simp only [e, Int.toNat_natCast]
              have hq' : prevL hh k = (hh[k - 1]'(by omega)).1 := by
                have : ¬ k = 0 := by omega
                simp [prevL, this, List.getElem?_eq_getElem (show k - 1 < hh.length by omega)]
              refine ⟨by omega, by omega, b2, fun a6 => hcf ?_, fun a6 => ?_⟩
              · rw [hc, hq', decide_eq_false (p := (hh[k - 1]'(by omega)).1 < hh[k].1) (by omega)]; simp
              · refine NextQ.to (k + 1) ?_ (Store.sub_refl _) ?_ ?_
                · rfl
                · omega
                · exact ⟨by omega, hn (by rw [hq']; omega) (by omega) (by omega) (by omega) (by omega)⟩
            · refine NextQ.to (k + 1) ?_ (Store.sub_refl _) ?_ ?_
              · rfl
              · omega
              · have : k = 0 := by omega
                subst this
                exact ⟨by omega, hn (by simp [prevL]; omega) (by omega) (by omega) (by omega) (by omega)⟩
            · refine hcf ?_
              rw [hc, decide_eq_false (p := hh[k].2 ≤ 16) (by omega)]; simp
            · refine hcf ?_
              rw [hc, decide_eq_false (p := 1 ≤ hh[k].2) (by omega)]; simp
            · refine hcf ?_
              rw [hc, decide_eq_false (p := hh[k].1 ≤ 255) (by omega)]; simp
            · refine hcf ?_
              rw [hc, decide_eq_false (p := 0 ≤ hh[k].1) (by omega)]; simp
          · have e : k = (l[i].h.getD []).length := by omega
            have hh := hk.2
            rw [e, List.drop_length] at hh
            rw [wrap64 (n := (i : Int) + 1) (by unfold I64; omega)]
            refine NextQ.to (i + 1) ?_ (Store.sub_refl _) ?_ ?_
            · rfl
            · omega
            · have h7 : hopsR (l[i].h.getD []) = true := by
                simp [hopsR, ← hh, hopsB]; omega
              exact ⟨by omega, by rw [hb, hp, hq, h7]; simp [h3]⟩
      · have hq : (match prevE l i with | some p => enLess p l[i] | none => true) = true := by
          have : i = 0 := by omega
          subst this; simp [prevE]
        refine ⟨fun a2 => by
          have : hopsR (l[i].h.getD []) = false := by simp [hopsR]; intro _; omega
          simp [ensR, hb, this], fun a2 => ?_⟩
        unfold Small at hm
        refine LoopQ.inv (S := Nat) (fun k => [(0, .sl 3 (l.map En.c)), (3, .int .i64 i), (4, hopsO l[i].h), (5, .int .i64 k)]) (fun _ => σ) (fun k => k ≤ (l[i].h.getD []).length ∧ hopsB (prevL (l[i].h.getD []) k) ((l[i].h.getD []).drop k) = hopsB (-1) (l[i].h.getD [])) (fun k => (l[i].h.getD []).length + 1 - k) 0 rfl (Store.sub_refl _) ⟨by omega, by simp [prevL]⟩ ?_
        intro k hk
        simp only [hopC, ↓vcPre, ↓wit_get, ↓reduceIte, vcPost, vcStd, Nat.reduceEqDiff, reduceCtorEq, Nat.reduceAdd, Nat.reduceLeDiff, Int.reduceLT, Int.reduceLE, ↓u_setN]
        refine ⟨fun b2 => ⟨b2, ?_⟩, fun b2 => ?_⟩
        · have hc : hopsB (-1) (l[i].h.getD []) = (decide (0 ≤ (l[i].h.getD [])[k].1) && decide ((l[i].h.getD [])[k].1 ≤ 255) && decide (1 ≤ (l[i].h.getD [])[k].2) && decide ((l[i].h.getD [])[k].2 ≤ 16) && decide (prevL (l[i].h.getD []) k < (l[i].h.getD [])[k].1) && hopsB (l[i].h.getD [])[k].1 ((l[i].h.getD []).drop (k + 1))) := by
            rw [← hk.2, List.drop_eq_getElem_cons b2]; rfl
          have hcp : prevL (l[i].h.getD []) (k + 1) = (l[i].h.getD [])[k].1 := by simp [prevL, b2]
          have hcf : hopsB (-1) (l[i].h.getD []) = false → false = ensR l := fun e => by simp [ensR, hb, hopsR, e]
          generalize l[i].h.getD [] = hh at *
          have hn : prevL hh k < hh[k].1 → 0 ≤ hh[k].1 → hh[k].1 ≤ 255 → 1 ≤ hh[k].2 → hh[k].2 ≤ 16 → hopsB (prevL hh (k + 1)) (hh.drop (k + 1)) = hopsB (-1) hh := fun a1 a2 a3 a4 a5 => by
            rw [hc, hcp]; simp [a1, a2, a3, a4, a5]
          rw [wrap64 (n := (k : Int) + 1) (by unfold I64; omega)]
          refine ⟨fun c1 => ⟨b2, fun c2 => ⟨b2, fun c3 => ⟨b2, fun c4 => ⟨fun c5 => ?_, fun c5 => ?_⟩, fun c4 => ?_⟩, fun c3 => ?_⟩, fun c2 => ?_⟩, fun c1 => ?_⟩
          · have e : IntKind.i64.wrap (↑k - 1) = ((k - 1 : Nat) : Int) := by rw [wrap64 (by unfold I64; omega)]; omega
            simp only [e, Int.toNat_natCast]
            have hq' : prevL hh k = (hh[k - 1]'(by omega)).1 := by
              have : ¬ k = 0 := by omega
              simp [prevL, this, List.getElem?_eq_getElem (show k - 1 < hh.length by omega)]
            refine ⟨by omega, by omega, b2, fun a6 => hcf ?_, fun a6 => ?_⟩
            · rw [hc, hq', decide_eq_false (p := (hh[k - 1]'(by omega)).1 < hh[k].1) (by omega)]; simp
            · refine NextQ.to (k + 1) ?_ (Store.sub_refl _) ?_ ?_
              · rfl
              · omega
              · exact ⟨by omega, hn (by rw [hq']; omega) (by omega) (by omega) (by omega) (by omega)⟩
          · refine NextQ.to (k + 1) ?_ (Store.sub_refl _) ?_ ?_
            · rfl
            · omega
            · have : k = 0 := by omega
              subst this
              exact ⟨by omega, hn (by simp [prevL]; omega) (by omega) (by omega) (by omega) (by omega)⟩
          · refine hcf ?_
            rw [hc, decide_eq_false (p := hh[k].2 ≤ 16) (by omega)]; simp
          · refine hcf ?_
            rw [hc, decide_eq_false (p := 1 ≤ hh[k].2) (by omega)]; simp
          · refine hcf ?_
            rw [hc, decide_eq_false (p := hh[k].1 ≤ 255) (by omega)]; simp
          · refine hcf ?_
            rw [hc, decide_eq_false (p := 0 ≤ hh[k].1) (by omega)]; simp
        · have e : k = (l[i].h.getD []).length := by omega
          have hh := hk.2
          rw [e, List.drop_length] at hh
          rw [wrap64 (n := (i : Int) + 1) (by unfold I64; omega)]
          refine NextQ.to (i + 1) ?_ (Store.sub_refl _) ?_ ?_
          · rfl
          · omega
          · have h7 : hopsR (l[i].h.getD []) = true := by
              simp [hopsR, ← hh, hopsB]; omega
            exact ⟨by omega, by rw [hb, hp, hq, h7]; simp [h3]⟩
  · have e : i = l.length := by omega
    have := hi.2
    rw [e, List.drop_length] at this
    simp [ensR, ← this, ensB]; omega
end Go.Am

/- W6 -/
namespace Go.Am
open Go.Proofs

theorem c62 (x : Int) : Pur Try.prog 62 [.int .i64 x] (.bool false) := by
  refine pur_of Tst.F62 (by simp [Tst.F62, Fn.mk']) fun σ => ?_
  simp only [Tst.F62, Fn.mk', Tst.b62]
  simp only [↓vcPre, ↓wit_get, ↓reduceIte, vcPost, vcStd, Nat.reduceEqDiff, reduceCtorEq, Nat.reduceAdd, Nat.reduceLeDiff, Int.reduceLT, Int.reduceLE, ↓u_setN]

def cmpI (x y : Int) : Int := if x < y then -1 else if y < x then 1 else 0
theorem c42 (x y : Int) : Pur Try.prog 42 [.int .i64 x, .int .i64 y] (.int .i64 (cmpI x y)) := by
  refine pur_of Tst.F42 (by simp [Tst.F42, Fn.mk']) fun σ => ?_
  simp only [Tst.F42, Fn.mk', Tst.b42]
  simp only [↓vcPre, ↓wit_get, ↓reduceIte, vcPost, vcStd, Nat.reduceEqDiff, reduceCtorEq, Nat.reduceAdd, Nat.reduceLeDiff, Int.reduceLT, Int.reduceLE, ↓u_setN]
  refine (c62 x).Q ?_
  simp only [↓vcPre, ↓wit_get, ↓reduceIte, vcPost, vcStd, Nat.reduceEqDiff, reduceCtorEq, Nat.reduceAdd, Nat.reduceLeDiff, Int.reduceLT, Int.reduceLE, ↓u_setN]
  refine (c62 y).Q ?_
  simp only [↓vcPre, ↓wit_get, ↓reduceIte, vcPost, vcStd, Nat.reduceEqDiff, reduceCtorEq, Nat.reduceAdd, Nat.reduceLeDiff, Int.reduceLT, Int.reduceLE, ↓u_setN]
  refine ⟨fun h => by simp [cmpI, h], fun h => ⟨fun h2 => by simp [cmpI, h2]; omega, fun h2 => by simp [cmpI]; omega⟩⟩

def orI (x y : Int) : Int := if x = 0 then y else x
theorem s41 (x y : Int) (σ : Store) (i : Nat) (hi : σ i = some (.arr 1 [[.int .i64 x], [.int .i64 y]])) :
    ACalls Try.prog 41 [.os i 1 0 2] σ (fun r s => s = σ ∧ r = .int .i64 (orI x y)) := by
  refine calls_of Tst.F41 (by simp [Tst.F41, Fn.mk']) ?_
  simp only [Tst.F41, Fn.mk', Tst.b41]
  simp only [hi, ↓vcPre, ↓wit_get, ↓reduceIte, vcPost, vcStd, Nat.reduceEqDiff, reduceCtorEq, Nat.reduceAdd, Nat.reduceLeDiff, Int.reduceLT, Int.reduceLE, ↓u_setN]
  refine LoopQ.inv (S := Nat) (fun k => [(3, .int .i64 0), (6, .os i 1 0 2), (7, .int .i64 2), (8, .int .i64 (k : Int))]) (fun _ => σ) (fun k => k ≤ 2 ∧ (0 < k → x = 0) ∧ (1 < k → y = 0)) (fun k => 2 - k) 0 rfl (Store.sub_refl _) ⟨by omega, by omega, by omega⟩ ?_
  rintro k ⟨h1, h2, h3⟩
  simp only [hi, ↓vcPre, ↓wit_get, ↓reduceIte, vcPost, vcStd, Nat.reduceEqDiff, reduceCtorEq, Nat.reduceAdd, Nat.reduceLeDiff, Int.reduceLT, Int.reduceLE, ↓u_setN]
  refine ⟨fun c1 => ⟨by omega, ?_⟩, fun c1 => ?_⟩
  · obtain rfl | rfl : k = 0 ∨ k = 1 := by omega
    · refine ⟨by simp, ?_⟩
      simp only [List.getElem_cons_zero, Nat.zero_add, Nat.le_refl, ↓vcPre, ↓wit_get, ↓reduceIte, vcPost, vcStd, Nat.reduceEqDiff, reduceCtorEq, Nat.reduceAdd, Nat.reduceLeDiff, Int.reduceLT, Int.reduceLE, ↓u_setN]
      refine ⟨fun c2 => ?_, fun c2 => ?_⟩
      · exact EndQ.to _ _ rfl (Store.sub_refl _) ⟨rfl, by simp [orI, c2]⟩
      · exact NextQ.to 1 rfl (Store.sub_refl _) (by omega) ⟨by omega, fun _ => by simpa using c2, by omega⟩
    · refine ⟨by simp, ?_⟩
      simp only [List.getElem_cons_zero, List.getElem_cons_succ, Nat.zero_add, Nat.le_refl, ↓vcPre, ↓wit_get, ↓reduceIte, vcPost, vcStd, Nat.reduceEqDiff, reduceCtorEq, Nat.reduceAdd, Nat.reduceLeDiff, Int.reduceLT, Int.reduceLE, ↓u_setN]
      refine ⟨fun c2 => ?_, fun c2 => ?_⟩
      · exact EndQ.to _ _ rfl (Store.sub_refl _) ⟨rfl, by simp [orI, h2 (by omega)]⟩
      · exact NextQ.to 2 rfl (Store.sub_refl _) (by omega) ⟨by omega, fun _ => h2 (by omega), fun _ => by simpa using c2⟩
  · obtain rfl : k = 2 := by omega
    exact EndQ.to _ _ rfl (Store.sub_refl _) ⟨rfl, by simp [orI, h2 (by omega), h3 (by omega)]⟩

/-- A write, as the program's slices hold it. -/
structure Wr where
  cut : Bool
  e : En
def Wr.c (x : Wr) : List AV := .bool x.cut :: x.e.c

/-- The order of what is set: longer ones first; of what is cut: shorter ones first. -/
def setCmp (x y : Wr) : Int := orI (cmpI y.e.n x.e.n) (cmpF x.e.a x.e.n y.e.a y.e.n)
def cutCmp (x y : Wr) : Int := orI (cmpI x.e.n y.e.n) (cmpF x.e.a x.e.n y.e.a y.e.n)

theorem c40 (x y : Wr) : Pur Try.prog 40 [.agg x.c, .agg y.c] (.int .i64 (setCmp x y)) := by
  refine pur_of Tst.F40 (by simp [Tst.F40, Fn.mk']) fun σ => ?_
  simp only [Tst.F40, Fn.mk', Tst.b40, Wr.c, En.c]
  simp only [↓vcPre, ↓wit_get, ↓reduceIte, vcPost, vcStd, Nat.reduceEqDiff, reduceCtorEq, Nat.reduceAdd, Nat.reduceLeDiff, Int.reduceLT, Int.reduceLE, ↓u_setN]
  refine AllocQ.i0 fun i hi => ?_
  simp only [↓vcPre, ↓wit_get, ↓reduceIte, vcPost, vcStd, Nat.reduceEqDiff, reduceCtorEq, Nat.reduceAdd, Nat.reduceLeDiff, Int.reduceLT, Int.reduceLE, ↓u_setN]
  refine AllocQ.i1 fun j hj1 hj2 hj => ?_
  simp only [*, ↓vcPre, ↓wit_get, ↓reduceIte, vcPost, vcStd, Nat.reduceEqDiff, reduceCtorEq, Nat.reduceAdd, Nat.reduceLeDiff, Int.reduceLT, Int.reduceLE, ↓u_setN]
  refine (c42 _ _).Q ?_
  simp only [*, ↓vcPre, ↓wit_get, ↓reduceIte, vcPost, vcStd, Nat.reduceEqDiff, reduceCtorEq, Nat.reduceAdd, Nat.reduceLeDiff, Int.reduceLT, Int.reduceLE, ↓u_setN]
  refine (c43 _ _ _ _).Q ?_
  simp only [*, ↓vcPre, ↓wit_get, ↓reduceIte, vcPost, vcStd, Nat.reduceEqDiff, reduceCtorEq, Nat.reduceAdd, Nat.reduceLeDiff, Int.reduceLT, Int.reduceLE, ↓u_setN]
  refine AllocQ.i2 fun k hk1 hk2 hk3 hk4 hk => ?_
  simp only [*, ↓vcPre, ↓wit_get, ↓reduceIte, vcPost, vcStd, Nat.reduceEqDiff, reduceCtorEq, Nat.reduceAdd, Nat.reduceLeDiff, Int.reduceLT, Int.reduceLE, ↓u_setN]
  refine (s41 _ _ _ k (Store.set_same _ _ _)).Q ?_
  rintro r s ⟨rfl, rfl⟩
  simp only [*, ↓vcPre, ↓wit_get, ↓reduceIte, vcPost, vcStd, Nat.reduceEqDiff, reduceCtorEq, Nat.reduceAdd, Nat.reduceLeDiff, Int.reduceLT, Int.reduceLE, ↓u_setN]
  simp [setCmp]

theorem c44 (x y : Wr) : Pur Try.prog 44 [.agg x.c, .agg y.c] (.int .i64 (cutCmp x y)) := by
  refine pur_of Tst.F44 (by simp [Tst.F44, Fn.mk']) fun σ => ?_
  simp only [Tst.F44, Fn.mk', Tst.b44, Wr.c, En.c]
  simp only [↓vcPre, ↓wit_get, ↓reduceIte, vcPost, vcStd, Nat.reduceEqDiff, reduceCtorEq, Nat.reduceAdd, Nat.reduceLeDiff, Int.reduceLT, Int.reduceLE, ↓u_setN]
  refine AllocQ.i0 fun i hi => ?_
  simp only [↓vcPre, ↓wit_get, ↓reduceIte, vcPost, vcStd, Nat.reduceEqDiff, reduceCtorEq, Nat.reduceAdd, Nat.reduceLeDiff, Int.reduceLT, Int.reduceLE, ↓u_setN]
  refine AllocQ.i1 fun j hj1 hj2 hj => ?_
  simp only [*, ↓vcPre, ↓wit_get, ↓reduceIte, vcPost, vcStd, Nat.reduceEqDiff, reduceCtorEq, Nat.reduceAdd, Nat.reduceLeDiff, Int.reduceLT, Int.reduceLE, ↓u_setN]
  refine (c42 _ _).Q ?_
  simp only [*, ↓vcPre, ↓wit_get, ↓reduceIte, vcPost, vcStd, Nat.reduceEqDiff, reduceCtorEq, Nat.reduceAdd, Nat.reduceLeDiff, Int.reduceLT, Int.reduceLE, ↓u_setN]
  refine (c43 _ _ _ _).Q ?_
  simp only [*, ↓vcPre, ↓wit_get, ↓reduceIte, vcPost, vcStd, Nat.reduceEqDiff, reduceCtorEq, Nat.reduceAdd, Nat.reduceLeDiff, Int.reduceLT, Int.reduceLE, ↓u_setN]
  refine AllocQ.i2 fun k hk1 hk2 hk3 hk4 hk => ?_
  simp only [*, ↓vcPre, ↓wit_get, ↓reduceIte, vcPost, vcStd, Nat.reduceEqDiff, reduceCtorEq, Nat.reduceAdd, Nat.reduceLeDiff, Int.reduceLT, Int.reduceLE, ↓u_setN]
  refine (s41 _ _ _ k (Store.set_same _ _ _)).Q ?_
  rintro r s ⟨rfl, rfl⟩
  simp only [*, ↓vcPre, ↓wit_get, ↓reduceIte, vcPost, vcStd, Nat.reduceEqDiff, reduceCtorEq, Nat.reduceAdd, Nat.reduceLeDiff, Int.reduceLT, Int.reduceLE, ↓u_setN]
  simp [cutCmp]
end Go.Am

/- W7 -/
namespace Go.Am
open Go.Proofs

theorem app_os {esz bytes id0 off len : Nat} {y : AV} {xs ys : List (List AV)} {σ : Store} {K : AV → Store → Prop} (hx : slc σ esz (.os id0 esz off len) = some xs) (hy : slc σ esz y = some ys)
    (hroom : (xs.length + ys.length) * bytes ≤ 140737488355328) (h : ∀ id, σ id = none → K (.os id esz 0 (xs.length + ys.length)) ((σ.del id0).set id (.arr esz (xs ++ ys)))) : appwp esz bytes (.os id0 esz off len) y σ K := by
  unfold appwp
  rw [hx, hy]
  exact ⟨hroom, h⟩
theorem app_nil {esz bytes : Nat} {y : AV} {ys : List (List AV)} {σ : Store} {K : AV → Store → Prop} (hy : slc σ esz y = some ys)
    (hroom : ys.length * bytes ≤ 140737488355328) (h0 : ys = [] → K .nils σ) (h : ys ≠ [] → ∀ id, σ id = none → K (.os id esz 0 ys.length) (σ.set id (.arr esz ys))) : appwp esz bytes .nils y σ K := by
  unfold appwp
  rw [hy, show slc σ esz .nils = some [] from rfl]
  exact ⟨by simpa using hroom, h0, h⟩
theorem slc_sl {esz : Nat} {es : List (List AV)} {σ : Store} : slc σ esz (.sl esz es) = some es := by simp [slc]
theorem slc_os0 {esz id n : Nat} {es : List (List AV)} {σ : Store} (h : σ id = some (.arr esz es)) (hn : n = es.length) : slc σ esz (.os id esz 0 n) = some es := by
  subst hn
  simp [slc, h]
theorem sub_del_set {σ : Store} {i j : Nat} {o p : Obj} (hi : σ i = none) (hj : ((σ.set i o) j) = none) : Store.sub σ ((((σ.set i o).del i).set j p).del j) := fun x q hx => by
  have h1 : x ≠ i := fun e => by subst e; rw [hi] at hx; cases hx
  have h2 : x ≠ j := fun e => by
    subst e
    rw [Store.set_ne _ _ h1] at hj
    rw [hj] at hx; cases hx
  rw [Store.del_ne _ h2, Store.set_ne _ _ h2, Store.del_ne _ h1, Store.set_ne _ _ h1]; exact hx

/-- slices.Clone of hops: the same, in a slice of its own. -/
theorem s38 (h : Option HL) (hs : (h.getD []).length * 16 ≤ 140737488355328) (σ : Store) : ACalls Try.prog 38 [hopsO h] σ (fun r s => s = σ ∧ ∃ h', r = hopsO h' ∧ h'.getD [] = h.getD []) := by
  refine calls_of Tst.F38 (by simp [Tst.F38, Fn.mk']) ?_
  simp only [Tst.F38, Fn.mk', Tst.b38]
  cases h with
  | none =>
    simp only [↓vcPre, ↓wit_get, ↓reduceIte, vcPost, vcStd, Nat.reduceEqDiff, reduceCtorEq, Nat.reduceAdd, Nat.reduceLeDiff, Int.reduceLT, Int.reduceLE, ↓u_setN]
    show nilqwp false .nils _
    rw [u_nq_n]
    simp only [↓vcPre, ↓wit_get, ↓reduceIte, vcPost, vcStd, Nat.reduceEqDiff, reduceCtorEq, Nat.reduceAdd, Nat.reduceLeDiff, Int.reduceLT, Int.reduceLE, ↓u_setN]
    exact EndQ.to _ _ rfl (Store.sub_refl _) ⟨rfl, none, rfl, rfl⟩
  | some l =>
    simp only [↓vcPre, ↓wit_get, ↓reduceIte, vcPost, vcStd, Nat.reduceEqDiff, reduceCtorEq, Nat.reduceAdd, Nat.reduceLeDiff, Int.reduceLT, Int.reduceLE, ↓u_setN]
    show nilqwp false (.sl 2 (l.map hopC)) _
    refine u_nq_s fun b hb => ?_
    cases b with
    | true =>
      have hl : l = [] := by
        cases l with
        | nil => rfl
        | cons x r => have := hb (by simp); cases this
      subst hl
      simp only [↓vcPre, ↓wit_get, ↓reduceIte, vcPost, vcStd, Nat.reduceEqDiff, reduceCtorEq, Nat.reduceAdd, Nat.reduceLeDiff, Int.reduceLT, Int.reduceLE, ↓u_setN]
      exact EndQ.to _ _ rfl (Store.sub_refl _) ⟨rfl, none, rfl, rfl⟩
    | false =>
      simp only [↓vcPre, ↓wit_get, ↓reduceIte, vcPost, vcStd, Nat.reduceEqDiff, reduceCtorEq, Nat.reduceAdd, Nat.reduceLeDiff, Int.reduceLT, Int.reduceLE, ↓u_setN]
      refine AllocQ.i0 fun i hi => ?_
      simp only [↓vcPre, ↓wit_get, ↓reduceIte, vcPost, vcStd, Nat.reduceEqDiff, reduceCtorEq, Nat.reduceAdd, Nat.reduceLeDiff, Int.reduceLT, Int.reduceLE, ↓u_setN]
      have hs' : l.length * 16 ≤ 140737488355328 := hs
      refine app_os (slc_os0 (Store.set_same _ _ _) rfl) (y := .sl 2 (l.map hopC)) slc_sl (by simpa using hs') fun j hj => ?_
      simp only [List.nil_append, List.length_nil, Nat.zero_add]
      refine EndQ.frz j 2 0 _ (l.map hopC) σ rfl (Store.set_same _ _ _) (by simp) (sub_del_set hi hj) ⟨rfl, some l, ?_, rfl⟩
      simp only [slO, List.drop_zero, List.length_map]
      rw [List.take_of_length_le (by simp)]
end Go.Am

/- W8 -/
namespace Go.Am
open Go.Proofs

def keyE (a n : Int) : AV := .agg [.int .u32 a, .int .i64 n]
def kvE (e : En) : AV × AV := (keyE e.a e.n, hopsO e.h)
/-- What a table holds at a prefix. -/
def lookE (l : List En) (a n : Int) : Option (Option HL) := (l.find? fun e => decide (e.a = a ∧ e.n = n)).map En.h

theorem kEq_key (a n b m : Int) : kEq (keyE a n) (keyE b m) = some (decide (a = b ∧ n = m)) := by
  simp [kEq, keyE, asOne, asTwo]

theorem mfind_E (a n : Int) : ∀ (l : List En) (s : Nat), ∃ r, mfind (keyE a n) (l.map kvE) s = some r ∧ r.map Prod.snd = (lookE l a n).map hopsO
  | [], s => ⟨none, rfl, rfl⟩
  | e :: l, s => by
    simp only [List.map, mfind, kvE, kEq_key, lookE, List.find?]
    by_cases h : a = e.a ∧ n = e.n
    · obtain ⟨h1, h2⟩ := h
      subst h1
      subst h2
      simp only [and_self, decide_true]
      exact ⟨_, rfl, rfl⟩
    · have h' : ¬ (e.a = a ∧ e.n = n) := fun hh => h ⟨hh.1.symm, hh.2.symm⟩
      simp only [h, h', decide_false]
      exact mfind_E a n l (s + 1)

theorem mfind_none (a n : Int) (l : List En) (h : lookE l a n = none) : mfind (keyE a n) (l.map kvE) 0 = some none := by
  obtain ⟨r, h1, h2⟩ := mfind_E a n l 0
  rw [h] at h2
  cases r with
  | none => exact h1
  | some p => cases h2

/-- Each prefix once. -/
def Once (l : List En) : Prop := l.Pairwise fun e f => ¬ (e.a = f.a ∧ e.n = f.n)

theorem lookE_take {l : List En} (h : Once l) {k : Nat} {e : En} (he : l[k]? = some e) : lookE (l.take k) e.a e.n = none := by
  unfold lookE
  rw [Option.map_eq_none_iff, List.find?_eq_none]
  intro x hx
  obtain ⟨i, hi, rfl⟩ := List.getElem_of_mem hx
  have hi2 : i < k ∧ i < l.length := by
    rw [List.length_take] at hi; omega
  obtain ⟨hk, rfl⟩ := List.getElem?_eq_some_iff.1 he
  have := (List.pairwise_iff_getElem.1 h) i k hi2.2 hk hi2.1
  simpa using this

theorem mupd_new {mk : MKey} {k v : AV} {σ : Store} {K : Store → Prop} {id : Nat} {es : List (AV × AV)} (hf : keyFits mk k = true) (hm : σ id = some (.map es)) (hn : mfind k es 0 = some none)
    (h : K (σ.set id (.map (es ++ [(k, v)])))) : mupdwp mk (.mp id) k v σ K := by
  unfold mupdwp
  refine ⟨hf, ?_⟩
  simp only [hm, hn]
  exact h

/-- download.by. -/
theorem s36 (l : List En) (hl : Small l) (h : Once l) (σ : Store) : ACalls Try.prog 36 [.sl 3 (l.map En.c)] σ (fun r s => ∃ i, r = .mp i ∧ σ i = none ∧ s = σ.set i (.map (l.map kvE))) := by
  refine calls_of Tst.F36 (by simp [Tst.F36, Fn.mk']) ?_
  simp only [Tst.F36, Fn.mk', Tst.b36]
  simp only [↓vcPre, ↓wit_get, ↓reduceIte, vcPost, vcStd, Nat.reduceEqDiff, reduceCtorEq, Nat.reduceAdd, Nat.reduceLeDiff, Int.reduceLT, Int.reduceLE, ↓u_setN]
  refine AllocQ.i0 fun i hi => ?_
  simp only [↓vcPre, ↓wit_get, ↓reduceIte, vcPost, vcStd, Nat.reduceEqDiff, reduceCtorEq, Nat.reduceAdd, Nat.reduceLeDiff, Int.reduceLT, Int.reduceLE, ↓u_setN]
  unfold Small at hl
  refine LoopQ.inv (S := Nat) (fun k => [(3, .mp i), (7, .sl 3 (l.map En.c)), (8, .int .i64 l.length), (9, .int .i64 (k : Int))]) (fun k => σ.set i (.map ((l.take k).map kvE))) (fun k => k ≤ l.length) (fun k => l.length + 1 - k) 0 rfl ?_ (by omega) ?_
  · simp only [List.take_zero, List.map_nil]; exact Store.sub_refl _
  · intro k hk
    simp only [↓vcPre, ↓wit_get, ↓reduceIte, vcPost, vcStd, Nat.reduceEqDiff, reduceCtorEq, Nat.reduceAdd, Nat.reduceLeDiff, Int.reduceLT, Int.reduceLE, ↓u_setN]
    refine ⟨fun c1 => ?_, fun c1 => ?_⟩
    · refine ⟨by simpa using c1, by simp [En.c], ?_⟩
      refine AllocQ.i1 fun j hj1 hj2 hj => ?_
      have hek : l[k]? = some l[k] := List.getElem?_eq_getElem c1
      simp only [En.c]
      simp only [*, ↓vcPre, ↓wit_get, ↓reduceIte, vcPost, vcStd, Nat.reduceEqDiff, reduceCtorEq, Nat.reduceAdd, Nat.reduceLeDiff, Int.reduceLT, Int.reduceLE, ↓u_setN]
      refine mupd_new rfl (es := (l.take k).map kvE) (by rw [Store.set_ne _ _ hj2, Store.set_ne _ _ hj2, Store.set_same]) (mfind_none _ _ _ (lookE_take h hek)) ?_
      have e1 : IntKind.i64.wrap ((k : Int) + 1) = ((k + 1 : Nat) : Int) := by rw [wrap64 (by unfold I64; omega)]; omega
      rw [e1]
      refine NextQ.to (k + 1) rfl ?_ (by omega) (by omega)
      have e2 : (l.take (k + 1)).map kvE = (l.take k).map kvE ++ [(AV.agg [AV.int IntKind.u32 l[k].a, AV.int IntKind.i64 l[k].n], hopsO l[k].h)] := by
        rw [List.take_add_one, hek, List.map_append]; rfl
      rw [← e2]
      intro x q hx
      by_cases hxi : x = i
      · subst hxi; rw [Store.set_same] at hx ⊢; exact hx
      · rw [Store.set_ne _ _ hxi] at hx ⊢
        have hxj : x ≠ j := fun e => by subst e; rw [hj] at hx; cases hx
        rw [Store.set_ne _ _ hxj, Store.set_ne _ _ hxj, Store.set_ne _ _ hxi]; exact hx
    · have : l.take k = l := List.take_of_length_le (by omega)
      rw [this]
      exact EndQ.to _ _ rfl (Store.sub_refl _) ⟨i, rfl, hi, rfl⟩
end Go.Am

/- W9 -/
namespace Go.Am
open Go.Proofs
theorem u_appz {P : Program} {n m : Nat} {z : List AV} {a b : AV} {σ : Store} {K : AV → Store → Prop} : lwp P (.appz n m z) [a, b] σ K ↔ appzwp n m z a b σ K := by simp only [lwp]
theorem u_pvlen {a : AV} : pv .len [a] = pLen a := rfl
theorem u_cap : pv .cap [.nils] = some (.int .i64 0) := rfl
theorem appz_n {esz bytes n : Nat} {z : List AV} {σ : Store} {K : AV → Store → Prop} (h1 : n * bytes ≤ 140737488355328) (hn : n ≠ 0)
    (h : ∀ id, σ id = none → K (.os id esz 0 n) (σ.set id (.arr esz (List.replicate n z)))) : appzwp esz bytes z .nils (.int .i64 (n : Int)) σ K := by
  unfold appzwp
  refine ⟨by omega, by have : ((n : Int) * (bytes : Int)) = ((n * bytes : Nat) : Int) := by simp
                       rw [this]; omega, fun h0 => absurd h0 (by omega), fun _ id hid => ?_⟩
  have := h id hid
  simpa using this

/-- slices.Grow of nil. -/
theorem s63 (n : Nat) (hn : n * 48 ≤ 140737488355328) (σ : Store) :
    ACalls Try.prog 63 [.nils, .int .i64 n] σ (fun r s => (n = 0 ∧ r = .nils ∧ s = σ) ∨ ∃ g es, r = .os g 4 0 0 ∧ σ g = none ∧ s = σ.set g (.arr 4 es)) := by
  refine calls_of Tst.F63 (by simp [Tst.F63, Fn.mk']) ?_
  simp only [Tst.F63, Fn.mk', Tst.b63]
  have e0 : IntKind.i64.wrap (0 - 0) = 0 := by decide
  have e1 : IntKind.i64.wrap ((n : Int) - 0) = (n : Int) := by rw [Int.sub_zero]; exact wrap64 (by unfold I64; omega)
  simp only [u_cap, e0, e1, ↓vcPre, ↓wit_get, ↓reduceIte, vcPost, vcStd, Nat.reduceEqDiff, reduceCtorEq, Nat.reduceAdd, Nat.reduceLeDiff, Int.reduceLT, Int.reduceLE, ↓u_setN]
  refine ⟨fun h => by omega, fun _ => ⟨fun h => ⟨⟨by simp, by simp⟩, ?_⟩, fun h => ?_⟩⟩
  · rw [u_appz]
    refine appz_n hn (by omega) fun g hg => ?_
    have : pSlice 4 (.os g 4 0 n) 0 (some 0) = some (.os g 4 0 0) := by
      simp [pSlice]
    rw [this]
    simp only [↓vcPre, ↓wit_get, ↓reduceIte, vcPost, vcStd, Nat.reduceEqDiff, reduceCtorEq, Nat.reduceAdd, Nat.reduceLeDiff, Int.reduceLT, Int.reduceLE, ↓u_setN]
    exact EndQ.to _ _ rfl (Store.sub_refl _) (.inr ⟨g, _, rfl, hg, rfl⟩)
  · exact EndQ.to _ _ rfl (Store.sub_refl _) (.inl ⟨by omega, rfl, rfl⟩)

/-- What a Concat has so far. -/
def CatI (σ : Store) (tot : Nat) (pre : List (List AV)) (r : AV) (s : Store) : Prop :=
  (tot = 0 ∧ pre = [] ∧ r = .nils ∧ s = σ) ∨ ∃ g es, r = .os g 4 0 pre.length ∧ σ g = none ∧ s = σ.set g (.arr 4 es) ∧ pre.length ≤ es.length ∧ es.take pre.length = pre

theorem cat_step {σ s : Store} {tot : Nat} {pre w : List (List AV)} {r wv : AV} {K : AV → Store → Prop} (h : CatI σ tot pre r s) (hw : slc σ 4 wv = some w) (hsz : (pre.length + w.length) * 48 ≤ 140737488355328)
    (ht : tot = 0 → w = []) (hK : ∀ r' s', CatI σ tot (pre ++ w) r' s' → K r' s') : appwp 4 48 r wv s K := by
  rcases h with ⟨h0, rfl, rfl, rfl⟩ | ⟨g, es, rfl, hg, rfl, hle, htk⟩
  · have := ht h0
    subst this
    refine app_nil hw (by simp) (fun _ => hK _ _ (.inl ⟨h0, rfl, rfl, rfl⟩)) (fun hne => (hne rfl).elim)
  · have hsub : Store.sub σ (σ.set g (.arr 4 es)) := Store.sub_set σ g _ hg
    refine app_os (xs := pre) ?_ (slc_sub hw hsub) hsz fun j hj => ?_
    · simp only [slc, Store.set_same]
      rw [if_pos ⟨trivial, trivial, by omega⟩]
      simp [htk]
    · have hjg : j ≠ g := fun e => by subst e; rw [Store.set_same] at hj; cases hj
      rw [Store.set_ne _ _ hjg] at hj
      rw [Store.del_set _ _ _ hg]
      refine hK _ _ (.inr ⟨j, pre ++ w, by rw [List.length_append], hj, rfl, Nat.le_refl _, ?_⟩)
      exact List.take_of_length_le (Nat.le_refl _)

/-- slices.Concat of two. -/
theorem s45 (u v : AV) (xs ys : List (List AV)) (σ : Store) (i : Nat) (hu : slc σ 4 u = some xs) (hv : slc σ 4 v = some ys) (hi : σ i = some (.arr 1 [[u], [v]])) (hsz : (xs.length + ys.length) * 48 ≤ 140737488355328)
    (lu : pLen u = some (.int .i64 xs.length)) (lv : pLen v = some (.int .i64 ys.length)) :
    ACalls Try.prog 45 [.os i 1 0 2] σ (CatI σ (xs.length + ys.length) (xs ++ ys)) := by
  refine calls_of Tst.F45 (by simp [Tst.F45, Fn.mk']) ?_
  simp only [Tst.F45, Fn.mk', Tst.b45]
  simp only [hi, ↓vcPre, ↓wit_get, ↓reduceIte, vcPost, vcStd, Nat.reduceEqDiff, reduceCtorEq, Nat.reduceAdd, Nat.reduceLeDiff, Int.reduceLT, Int.reduceLE, ↓u_setN]
  have ll : ∀ k, pLen ([u, v].getD k .nils) = some (.int .i64 (([xs, ys].getD k []).length : Nat)) := fun k => by
    match k with
    | 0 => exact lu
    | 1 => exact lv
    | k + 2 => rfl
  refine LoopQ.inv (S := Nat) (fun k => [(0, .os i 1 0 2), (3, .int .i64 ((if k = 0 then 0 else if k = 1 then xs.length else xs.length + ys.length : Nat) : Int)), (9, .os i 1 0 2), (10, .int .i64 2), (11, .int .i64 (k : Int))]) (fun _ => σ) (fun k => k ≤ 2) (fun k => 2 - k) 0 rfl (Store.sub_refl _) (by omega) ?_
  intro k hk
  simp only [hi, ↓vcPre, ↓wit_get, ↓reduceIte, vcPost, vcStd, Nat.reduceEqDiff, reduceCtorEq, Nat.reduceAdd, Nat.reduceLeDiff, Int.reduceLT, Int.reduceLE, ↓u_setN]
  have w0 : IntKind.i64.wrap (0 + (xs.length : Int)) = (xs.length : Int) := by rw [Int.zero_add]; exact wrap64 (by unfold I64; omega)
  have w1 : IntKind.i64.wrap ((xs.length : Int) + (ys.length : Int)) = ((xs.length + ys.length : Nat) : Int) := by rw [wrap64 (by unfold I64; omega)]; omega
  refine ⟨fun c1 => ⟨by omega, ?_⟩, fun c1 => ?_⟩
  · obtain rfl | rfl : k = 0 ∨ k = 1 := by omega
    · refine ⟨by simp, ?_⟩
      simp only [if_true, Int.natCast_zero]
      simp only [List.getElem_cons_zero, Nat.zero_add, Nat.le_refl, u_pvlen, lu, w0, ↓vcPre, ↓wit_get, ↓reduceIte, vcPost, vcStd, Nat.reduceEqDiff, reduceCtorEq, Nat.reduceAdd, Nat.reduceLeDiff, Int.reduceLT, Int.reduceLE, ↓u_setN]
      refine ⟨fun c2 => by omega, fun _ => ?_⟩
      exact NextQ.to 1 rfl (Store.sub_refl _) (by omega) (by omega)
    · refine ⟨by simp, ?_⟩
      simp only [if_true, if_false, Nat.one_ne_zero]
      simp only [List.getElem_cons_zero, List.getElem_cons_succ, Nat.zero_add, Nat.le_refl, u_pvlen, lv, w1, ↓vcPre, ↓wit_get, ↓reduceIte, vcPost, vcStd, Nat.reduceEqDiff, reduceCtorEq, Nat.reduceAdd, Nat.reduceLeDiff, Int.reduceLT, Int.reduceLE, ↓u_setN]
      refine ⟨fun c2 => by omega, fun _ => ?_⟩
      exact NextQ.to 2 rfl (Store.sub_refl _) (by omega) (by omega)
  · obtain rfl : k = 2 := by omega
    simp only [if_false, show ¬ (2 = 0) by decide, show ¬ (2 = 1) by decide]
    refine (s63 (xs.length + ys.length) hsz σ).Q ?_
    intro r s hrs
    have h0 : CatI σ (xs.length + ys.length) [] r s := by
      rcases hrs with ⟨h1, h2, h3⟩ | ⟨g, es, h1, h2, h3⟩
      · exact .inl ⟨h1, rfl, h2, h3⟩
      · exact .inr ⟨g, es, h1, h2, h3, Nat.zero_le _, rfl⟩
    have hsi : ∀ {p r s}, CatI σ (xs.length + ys.length) p r s → s i = some (.arr 1 [[u], [v]]) := fun {p r s} h => by
      rcases h with ⟨_, _, _, rfl⟩ | ⟨g, es, _, hg, rfl, _⟩
      · exact hi
      · rw [Store.set_ne _ _ (fun e => by subst e; rw [hi] at hg; cases hg)]; exact hi
    have his := hsi h0
    simp only [his, ↓vcPre, ↓wit_get, ↓reduceIte, vcPost, vcStd, Nat.reduceEqDiff, reduceCtorEq, Nat.reduceAdd, Nat.reduceLeDiff, Int.reduceLT, Int.reduceLE, ↓u_setN]
    refine LoopQ.inv (S := Nat × AV × Store) (fun q => [(6, q.2.1), (25, .os i 1 0 2), (26, .int .i64 2), (27, .int .i64 (q.1 : Int))]) (fun q => q.2.2)
      (fun q => q.1 ≤ 2 ∧ CatI σ (xs.length + ys.length) (if q.1 = 0 then [] else if q.1 = 1 then xs else xs ++ ys) q.2.1 q.2.2) (fun q => 2 - q.1) (0, r, s) rfl (Store.sub_refl _) ⟨by simp only; omega, h0⟩ ?_
    rintro ⟨k, r1, s1⟩ ⟨h1, h2⟩
    simp only at h1 h2
    have his1 := hsi h2
    simp only [his1, ↓vcPre, ↓wit_get, ↓reduceIte, vcPost, vcStd, Nat.reduceEqDiff, reduceCtorEq, Nat.reduceAdd, Nat.reduceLeDiff, Int.reduceLT, Int.reduceLE, ↓u_setN]
    refine ⟨fun c1 => ⟨by omega, ?_⟩, fun c1 => ?_⟩
    · obtain rfl | rfl : k = 0 ∨ k = 1 := by omega
      · refine ⟨by simp, ?_⟩
        simp only [if_true] at h2
        simp only [List.getElem_cons_zero, Nat.zero_add, Nat.le_refl, ↓vcPre, ↓wit_get, ↓reduceIte, vcPost, vcStd, Nat.reduceEqDiff, reduceCtorEq, Nat.reduceAdd, Nat.reduceLeDiff, Int.reduceLT, Int.reduceLE, ↓u_setN]
        refine cat_step h2 hu (by simp; omega) (fun h => by have : xs.length = 0 := by omega
                                                            exact List.length_eq_zero_iff.1 this) fun r' s' h' => ?_
        exact NextQ.to (1, r', s') rfl (Store.sub_refl _) (by simp) ⟨by simp, by simpa using h'⟩
      · refine ⟨by simp, ?_⟩
        simp only [if_true, if_false, Nat.one_ne_zero] at h2
        simp only [List.getElem_cons_zero, List.getElem_cons_succ, Nat.zero_add, Nat.le_refl, ↓vcPre, ↓wit_get, ↓reduceIte, vcPost, vcStd, Nat.reduceEqDiff, reduceCtorEq, Nat.reduceAdd, Nat.reduceLeDiff, Int.reduceLT, Int.reduceLE, ↓u_setN]
        refine cat_step h2 hv hsz (fun h => by have : ys.length = 0 := by omega
                                               exact List.length_eq_zero_iff.1 this) fun r' s' h' => ?_
        exact NextQ.to (2, r', s') rfl (Store.sub_refl _) (by simp) ⟨by simp, by simpa using h'⟩
    · obtain rfl : k = 2 := by omega
      simp only [if_false, show ¬ (2 = 0) by decide, show ¬ (2 = 1) by decide] at h2
      exact EndQ.to s1 r1 rfl (Store.sub_refl _) h2
end Go.Am

/- S2 -/
namespace Go.Am
open Go.Proofs Go.Sort
set_option linter.unusedSectionVars false
variable {β : Type} [Inhabited β]

/-- An array of such things. -/
def arrA (k : Nat) (c : β → List AV) (d : Array β) : Obj := .arr k (d.toList.map c)
theorem s_arr {k : Nat} {c : β → List AV} {d : Array β} : arrO k (some (arrA k c d)) = some (d.toList.map c) := u_arr
theorem s_get {c : β → List AV} {d : Array β} {j : Nat} {K : List AV → Prop} : wit ((d.toList.map c)[j]?) K ↔ j < d.size ∧ K (c d[j]!) := by
  rw [wit_get]
  constructor
  · rintro ⟨h, k⟩
    have h' : j < d.size := by simpa using h
    refine ⟨h', ?_⟩
    rw [getElem!_pos d j h']
    simpa using k
  · rintro ⟨h, k⟩
    refine ⟨by simpa using h, ?_⟩
    rw [getElem!_pos d j h] at k
    simpa using k
theorem s_set {k : Nat} {c : β → List AV} {d : Array β} {j : Nat} {x : β} : Obj.arr k ((d.toList.map c).set j (c x)) = arrA k c (d.setIfInBounds j x) := by
  simp [arrA, List.map_set]
theorem s_setL {c : β → List AV} {d : Array β} {j : Nat} {x : β} : (d.toList.map c).set j (c x) = (d.setIfInBounds j x).toList.map c := by simp [List.map_set]
theorem s_fold {k : Nat} {c : β → List AV} {d : Array β} : Obj.arr k (d.toList.map c) = arrA k c d := rfl
theorem s_take {k : Nat} {c : β → List AV} (hk : ∀ x, (c x).length = k) (x : β) : takeN 0 k (c x) = some (c x) := by
  simp [takeN, hk, List.take_of_length_le]
theorem splice_all : ∀ (a b : List AV), a.length = b.length → splice 0 a b = some a
  | [], [], _ => rfl
  | a :: l, b :: m, h => by
    have := splice_all l m (by simpa using h)
    simp [splice, this]
theorem s_splice {k : Nat} {c : β → List AV} (hk : ∀ x, (c x).length = k) (x y : β) : splice 0 (c x) (c y) = some (c x) := splice_all _ _ (by rw [hk, hk])
def ltC (cf : β → β → Int) (x y : β) : Bool := decide (cf x y < 0)
/-- What is known of the comparison. -/
structure Cmp (P : Program) (g : Nat) (caps : List AV) (k : Nat) (c : β → List AV) (cf : β → β → Int) : Prop where
  hk : ∀ x, (c x).length = k
  call : ∀ x y, Pur P g ([.agg (c x), .agg (c y)] ++ caps) (.int .i64 (cf x y))
theorem swp_size (d : Array β) (i j : Nat) : (swp d i j).size = d.size := by simp [swp]

section
variable {c : β → List AV} {cf : β → β → Int} {g : Nat} {caps : List AV}
theorem s70 (hc : Cmp Try.prog g caps 4 c cf) (d : Array β) (a b : Nat) (hab : a ≤ b) (hb : b ≤ d.size) (hs : d.size < 4611686018427387904) (σ : Store) (id : Nat) :
    ACalls Try.prog 70 [.os id 4 0 d.size, .int .i64 a, .int .i64 b, .fn g caps] (σ.set id (arrA 4 c d)) (fun r s => r = .tup [] ∧ s = σ.set id (arrA 4 c (insertionSort (ltC cf) d a b))) := by
  refine calls_of Tst.F70 (by simp [Tst.F70, Fn.mk']) ?_
  simp only [Tst.F70, Fn.mk', Tst.b70]
  have hk := hc.hk
  have tk : ∀ x, List.take 4 (c x) = c x := fun x => List.take_of_length_le (by rw [hk]; exact Nat.le_refl _)
  have sp : ∀ x y, splice 0 (c x) (c y) = some (c x) := s_splice hk
  simp only [hk, tk, sp, ↓vcPre, ↓s_get, ↓reduceIte, vcPost, vcStd, Store.set_set, s_arr, s_setL, s_fold, swp_size, Nat.le_refl, Nat.zero_add, Array.size_setIfInBounds, Nat.reduceEqDiff, reduceCtorEq, Nat.reduceAdd, Nat.reduceLeDiff, Int.reduceLT, Int.reduceLE, ↓u_setN]
  rw [wrap64 (by unfold I64; omega)]
  refine LoopQ.inv (S := Nat × Array β) (fun s => [(0, .os id 4 0 d.size), (1, .int .i64 a), (2, .int .i64 b), (3, .fn g caps), (8, .int .i64 s.1)]) (fun s => σ.set id (arrA 4 c s.2))
    (fun s => a + 1 ≤ s.1 ∧ s.1 ≤ d.size + 1 ∧ s.2.size = d.size ∧ insOuter (ltC cf) a b s.1 s.2 = insertionSort (ltC cf) d a b) (fun s => d.size + 2 - s.1) (a + 1, d) (by simp) (Store.sub_refl _) ⟨by simp, by simp; omega, rfl, rfl⟩ ?_
  rintro ⟨i, d1⟩ ⟨h1, h2, h3, h4⟩
  simp only at h1 h2 h3 h4
  simp only [hk, tk, sp, ↓vcPre, ↓s_get, ↓reduceIte, vcPost, vcStd, Store.set_set, s_arr, s_setL, s_fold, swp_size, Nat.le_refl, Nat.zero_add, Array.size_setIfInBounds, Nat.reduceEqDiff, reduceCtorEq, Nat.reduceAdd, Nat.reduceLeDiff, Int.reduceLT, Int.reduceLE, ↓u_setN]
  refine ⟨fun h5 => ?_, fun h5 => ?_⟩
  · refine LoopQ.inv (S := Nat × Array β) (fun s => [(0, .os id 4 0 d.size), (1, .int .i64 a), (2, .int .i64 b), (3, .fn g caps), (8, .int .i64 i), (9, .int .i64 s.1)]) (fun s => σ.set id (arrA 4 c s.2))
      (fun s => a ≤ s.1 ∧ s.1 ≤ i ∧ s.2.size = d.size ∧ insInner (ltC cf) a s.1 s.2 = insInner (ltC cf) a i d1) (fun s => s.1) (i, d1) rfl (Store.sub_refl _) ⟨by simp only; omega, by simp only; omega, h3, rfl⟩ ?_
    rintro ⟨j, d2⟩ ⟨g1, g2, g3, g4⟩
    simp only at g1 g2 g3 g4
    simp only [hk, tk, sp, g3, ↓vcPre, ↓s_get, ↓reduceIte, vcPost, vcStd, Store.set_set, s_arr, s_setL, s_fold, swp_size, Nat.le_refl, Nat.zero_add, Array.size_setIfInBounds, Nat.reduceEqDiff, reduceCtorEq, Nat.reduceAdd, Nat.reduceLeDiff, Int.reduceLT, Int.reduceLE, ↓u_setN]
    refine ⟨fun a1 => ?_, fun a1 => ?_⟩
    · obtain ⟨m, rfl⟩ : ∃ m, j = m + 1 := ⟨j - 1, by omega⟩
      have w1 : IntKind.i64.wrap (((m + 1 : Nat) : Int) - 1) = (m : Int) := by rw [wrap64 (by unfold I64; omega)]; omega
      simp only [w1, Int.toNat_natCast]
      refine ⟨by omega, ⟨by omega, by omega⟩, by omega, by omega, (hc.call _ _).Q ?_⟩
      simp only [hk, tk, sp, g3, w1, ↓vcPre, ↓s_get, ↓reduceIte, vcPost, vcStd, Store.set_set, s_arr, s_setL, s_fold, swp_size, Nat.le_refl, Nat.zero_add, Array.size_setIfInBounds, Nat.reduceEqDiff, reduceCtorEq, Nat.reduceAdd, Nat.reduceLeDiff, Int.reduceLT, Int.reduceLE, ↓u_setN]
      have hlt : ltC cf d2[m + 1]! d2[m]! = decide (cf d2[m + 1]! d2[m]! < 0) := rfl
      rw [insInner] at g4
      refine ⟨fun a2 => ?_, fun a2 => ?_⟩
      · rw [hlt, decide_eq_true a2, decide_eq_true (show m + 1 > a by omega)] at g4
        refine ⟨by omega, by omega, by omega, by omega, by omega, by omega, by omega, by omega, ?_⟩
        refine NextQ.to (m, swp d2 (m + 1) m) ?_ ?_ ?_ ?_
        · rfl
        · exact Store.sub_refl _
        · simp
        · exact ⟨by simp only; omega, by simp only; omega, by simp only [swp_size]; omega, by simpa using g4⟩
      · rw [hlt, decide_eq_false a2] at g4
        rw [wrap64 (n := (i : Int) + 1) (by unfold I64; omega)]
        refine NextQ.to (i + 1, d2) ?_ ?_ ?_ ?_
        · rfl
        · exact Store.sub_refl _
        · simp only; omega
        · refine ⟨by simp only; omega, by simp only; omega, by simp only; omega, ?_⟩
          have g5 : d2 = insInner (ltC cf) a i d1 := by simpa using g4
          simp only
          rw [← h4, insOuter.eq_1 (ltC cf) a b i, if_pos h5, g5]
    · rw [wrap64 (n := (i : Int) + 1) (by unfold I64; omega)]
      refine NextQ.to (i + 1, d2) ?_ ?_ ?_ ?_
      · rfl
      · exact Store.sub_refl _
      · simp only; omega
      · refine ⟨by simp only; omega, by simp only; omega, by simp only; omega, ?_⟩
        have : d2 = insInner (ltC cf) a i d1 := by
          rw [← g4]
          have : j = a := by omega
          subst this
          cases j with
          | zero => rfl
          | succ j => simp [insInner]
        simp only
        rw [← h4, insOuter.eq_1 (ltC cf) a b i, if_pos h5, this]
  · refine EndQ.to _ _ rfl (Store.sub_refl _) ⟨rfl, ?_⟩
    rw [← h4, insOuter, if_neg h5]
end
end Go.Am

/- S26L -/
namespace Go.Am
noncomputable section
def len8 : ByteArray := ⟨[0, 1, 2, 2, 3, 3, 3, 3, 4, 4, 4, 4, 4, 4, 4, 4, 5, 5, 5, 5, 5, 5, 5, 5, 5, 5, 5, 5, 5, 5, 5, 5, 6, 6, 6, 6, 6, 6, 6, 6, 6, 6, 6, 6, 6, 6, 6, 6, 6, 6, 6, 6, 6, 6, 6, 6, 6, 6, 6, 6, 6, 6, 6, 6, 7, 7, 7, 7, 7, 7, 7, 7, 7, 7, 7, 7, 7, 7, 7, 7, 7, 7, 7, 7, 7, 7, 7, 7, 7, 7, 7, 7, 7, 7, 7, 7, 7, 7, 7, 7, 7, 7, 7, 7, 7, 7, 7, 7, 7, 7, 7, 7, 7, 7, 7, 7, 7, 7, 7, 7, 7, 7, 7, 7, 7, 7, 7, 7, 8, 8, 8, 8, 8, 8, 8, 8, 8, 8, 8, 8, 8, 8, 8, 8, 8, 8, 8, 8, 8, 8, 8, 8, 8, 8, 8, 8, 8, 8, 8, 8, 8, 8, 8, 8, 8, 8, 8, 8, 8, 8, 8, 8, 8, 8, 8, 8, 8, 8, 8, 8, 8, 8, 8, 8, 8, 8, 8, 8, 8, 8, 8, 8, 8, 8, 8, 8, 8, 8, 8, 8, 8, 8, 8, 8, 8, 8, 8, 8, 8, 8, 8, 8, 8, 8, 8, 8, 8, 8, 8, 8, 8, 8, 8, 8, 8, 8, 8, 8, 8, 8, 8, 8, 8, 8, 8, 8, 8, 8, 8, 8, 8, 8, 8, 8, 8, 8, 8, 8, 8, 8, 8, 8, 8, 8, 8, 8].toArray⟩
def b79' : BC := .seq (.ops [⟨some 2, none, .pure (.mov), [.c (.int .i64 0)]⟩] [0, 2]) (.seq (.seq (.ops [⟨some 3, none, .pure (.mov), [.t 0]⟩, ⟨some 4, none, .pure (.bin .geq), [.t 3, .c (.int .u64 4294967296)]⟩] [0, 2, 4]) (.cond (.t 4) (.seq (.ops [⟨some 5, none, .pure (.mov), [.t 0]⟩, ⟨some 6, none, .pure (.bin .shr), [.t 5, .c (.int .u64 32)]⟩, ⟨some 0, none, .pure (.mov), [.t 6]⟩] [0]) (.ops [⟨some 2, none, .pure (.mov), [.c (.int .i64 32)]⟩] [0, 2])) (.skip))) (.seq (.seq (.ops [⟨some 7, none, .pure (.mov), [.t 0]⟩, ⟨some 8, none, .pure (.bin .geq), [.t 7, .c (.int .u64 65536)]⟩] [0, 2, 8]) (.cond (.t 8) (.seq (.ops [⟨some 9, none, .pure (.mov), [.t 0]⟩, ⟨some 10, none, .pure (.bin .shr), [.t 9, .c (.int .u64 16)]⟩, ⟨some 0, none, .pure (.mov), [.t 10]⟩] [0, 2]) (.ops [⟨some 11, none, .pure (.mov), [.t 2]⟩, ⟨some 12, none, .pure (.bin .add), [.t 11, .c (.int .i64 16)]⟩, ⟨some 2, none, .pure (.mov), [.t 12]⟩] [0, 2])) (.skip))) (.seq (.seq (.ops [⟨some 13, none, .pure (.mov), [.t 0]⟩, ⟨some 14, none, .pure (.bin .geq), [.t 13, .c (.int .u64 256)]⟩] [0, 2, 14]) (.cond (.t 14) (.seq (.ops [⟨some 15, none, .pure (.mov), [.t 0]⟩, ⟨some 16, none, .pure (.bin .shr), [.t 15, .c (.int .u64 8)]⟩, ⟨some 0, none, .pure (.mov), [.t 16]⟩] [0, 2]) (.ops [⟨some 17, none, .pure (.mov), [.t 2]⟩, ⟨some 18, none, .pure (.bin .add), [.t 17, .c (.int .i64 8)]⟩, ⟨some 2, none, .pure (.mov), [.t 18]⟩] [0, 2])) (.skip))) (.seq (.ops [⟨some 19, none, .pure (.mov), [.t 2]⟩, ⟨some 20, none, .pure (.mov), [.t 0]⟩, ⟨some 21, none, .pure (.conv .u8), [.t 20]⟩, ⟨some 22, none, .pure (.idxs), [.c (.str len8), .t 21]⟩, ⟨some 23, none, .pure (.conv .i64), [.t 22]⟩, ⟨some 24, none, .pure (.bin .add), [.t 19, .t 23]⟩, ⟨some 2, none, .pure (.mov), [.t 24]⟩] [2]) (.ret)))))
theorem b79_eq : Tst.b79 = b79' := rfl
end
end Go.Am
