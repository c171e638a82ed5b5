/- A part of the proof: a logic for calls over plain values, and the functions that the law reaches, each walked once. -/
import Derived.Test.YtfnoblcmfmdeaaaPB24
set_option linter.unusedVariables false
set_option linter.unusedSimpArgs false
set_option linter.unusedSectionVars false

namespace Go.Am.Tst
open Go.Proofs
/-- signpost/signpostlaw11.attrs -/
def b21 : BC := .seq (.ops [⟨some 1, none, .alloc (.box), [.t 0]⟩, ⟨some 2, none, .alloc (.alloc [(.int .i64 0), .nils, (.int .u32 0), (.bool false), (.int .u32 0), (.bool false), (.int .u32 0), (.bool false), .nils]), []⟩] [1, 2]) (.seq (.seq (.ops [⟨some 3, none, .pure (.fld 11), [.t 1]⟩, ⟨some 4, none, .load (.ld 1 false), [.t 3]⟩] [1, 2, 4]) (.cond (.t 4) (.seq (.ops [⟨some 5, none, .pure (.fld 2), [.t 1]⟩, ⟨some 6, none, .pure (.fld 0), [.t 5]⟩, ⟨some 9, none, .pure (.fld 2), [.t 1]⟩, ⟨some 10, none, .pure (.fld 2), [.t 9]⟩, ⟨some 13, none, .pure (.fld 2), [.t 1]⟩, ⟨some 7, none, .load (.ld 1 false), [.t 6]⟩, ⟨some 8, none, .pure (.bin .rem), [.t 7, .c (.int .i64 3)]⟩, ⟨some 11, none, .load (.ld 1 false), [.t 10]⟩, ⟨some 12, none, .pure (.bin .rem), [.t 11, .c (.int .u32 3)]⟩, ⟨some 14, none, .load (.ld 9 true), [.t 13]⟩, ⟨some 15, none, .qcall 40, [.t 14]⟩, ⟨some 16, none, .pure (.fldv 8 1 false), [.t 15]⟩, ⟨some 17, none, .pure (.build [(.int .i64 0), .nils, (.int .u32 0), (.bool false), (.int .u32 0), (.bool false), (.int .u32 0), (.bool false), .nils] [(0, 1), (2, 1), (8, 1)]), [.t 8, .t 12, .t 16]⟩, ⟨none, none, .loud (.st 9), [.t 2, .t 17]⟩] [2]) (.ret)) (.skip))) (.seq (.ops [⟨some 18, none, .pure (.fld 2), [.t 1]⟩, ⟨some 19, none, .load (.ld 9 true), [.t 18]⟩, ⟨some 20, none, .loud (.call 40), [.t 19]⟩, ⟨none, none, .loud (.st 9), [.t 2, .t 20]⟩] [2]) (.ret)))
def F21 : Fn Try.prog 21 := Fn.mkX false b21 [.c 2 9 true] 21 Try.f21 _ Try.func21 (by decide) rfl Try.ntmps21 (by kernel_rfl) (by kernel_rfl)
/-- signpost/signpostkeep.Attrs -/
def b25 : BC := .seq (.ops [⟨some 2, none, .alloc (.box), [.t 0]⟩, ⟨some 3, none, .alloc (.box), [.t 1]⟩, ⟨some 4, none, .pure (.mov), [.c (.bool false)]⟩] [2, 3]) (.seq (.ops [⟨some 5, none, .pure (.fld 0), [.t 2]⟩, ⟨some 6, none, .load (.ld 1 false), [.t 5]⟩, ⟨some 7, none, .pure (.fld 0), [.t 3]⟩, ⟨some 8, none, .load (.ld 1 false), [.t 7]⟩, ⟨some 9, none, .pure (.bin .eql), [.t 6, .t 8]⟩, ⟨some 10, none, .pure (.mov), [.t 9]⟩, ⟨some 11, some (10, true), .pure (.fld 1), [.t 2]⟩, ⟨some 12, some (10, true), .load (.ld 1 false), [.t 11]⟩, ⟨some 13, some (10, true), .pure (.fld 1), [.t 3]⟩, ⟨some 14, some (10, true), .load (.ld 1 false), [.t 13]⟩, ⟨some 15, some (10, true), .loud (.call 38), [.t 12, .t 14]⟩, ⟨some 16, some (10, true), .pure (.bin .eql), [.t 15, .c (.int .i64 0)]⟩, ⟨some 17, none, .pick, [.t 10, .t 16, .c (.bool false)]⟩, ⟨some 18, none, .pure (.mov), [.t 17]⟩, ⟨some 19, some (18, true), .pure (.fld 2), [.t 2]⟩, ⟨some 20, some (18, true), .load (.ld 1 false), [.t 19]⟩, ⟨some 21, some (18, true), .pure (.fld 2), [.t 3]⟩, ⟨some 22, some (18, true), .load (.ld 1 false), [.t 21]⟩, ⟨some 23, some (18, true), .pure (.bin .eql), [.t 20, .t 22]⟩, ⟨some 24, none, .pick, [.t 18, .t 23, .c (.bool false)]⟩, ⟨some 25, none, .pure (.mov), [.t 24]⟩, ⟨some 26, some (25, true), .pure (.fld 3), [.t 2]⟩, ⟨some 27, some (25, true), .load (.ld 1 false), [.t 26]⟩, ⟨some 28, some (25, true), .pure (.fld 3), [.t 3]⟩, ⟨some 29, some (25, true), .load (.ld 1 false), [.t 28]⟩, ⟨some 30, some (25, true), .pure (.eqb false), [.t 27, .t 29]⟩, ⟨some 31, none, .pick, [.t 25, .t 30, .c (.bool false)]⟩, ⟨some 32, none, .pure (.mov), [.t 31]⟩, ⟨some 33, some (32, true), .pure (.fld 4), [.t 2]⟩, ⟨some 34, some (32, true), .load (.ld 1 false), [.t 33]⟩, ⟨some 35, some (32, true), .pure (.fld 4), [.t 3]⟩, ⟨some 36, some (32, true), .load (.ld 1 false), [.t 35]⟩, ⟨some 37, some (32, true), .pure (.bin .eql), [.t 34, .t 36]⟩, ⟨some 38, none, .pick, [.t 32, .t 37, .c (.bool false)]⟩, ⟨some 39, none, .pure (.mov), [.t 38]⟩, ⟨some 40, some (39, true), .pure (.fld 5), [.t 2]⟩, ⟨some 41, some (39, true), .load (.ld 1 false), [.t 40]⟩, ⟨some 42, some (39, true), .pure (.fld 5), [.t 3]⟩, ⟨some 43, some (39, true), .load (.ld 1 false), [.t 42]⟩, ⟨some 44, some (39, true), .pure (.eqb false), [.t 41, .t 43]⟩, ⟨some 45, none, .pick, [.t 39, .t 44, .c (.bool false)]⟩, ⟨some 46, none, .pure (.mov), [.t 45]⟩, ⟨some 47, some (46, true), .pure (.fld 6), [.t 2]⟩, ⟨some 48, some (46, true), .load (.ld 1 false), [.t 47]⟩, ⟨some 49, some (46, true), .pure (.fld 6), [.t 3]⟩, ⟨some 50, some (46, true), .load (.ld 1 false), [.t 49]⟩, ⟨some 51, some (46, true), .pure (.bin .eql), [.t 48, .t 50]⟩, ⟨some 52, none, .pick, [.t 46, .t 51, .c (.bool false)]⟩, ⟨some 53, none, .pure (.mov), [.t 52]⟩, ⟨some 54, some (53, true), .pure (.fld 7), [.t 2]⟩, ⟨some 55, some (53, true), .load (.ld 1 false), [.t 54]⟩, ⟨some 56, some (53, true), .pure (.fld 7), [.t 3]⟩, ⟨some 57, some (53, true), .load (.ld 1 false), [.t 56]⟩, ⟨some 58, some (53, true), .pure (.eqb false), [.t 55, .t 57]⟩, ⟨some 59, none, .pick, [.t 53, .t 58, .c (.bool false)]⟩, ⟨some 60, none, .pure (.mov), [.t 59]⟩, ⟨some 61, some (60, true), .pure (.fld 8), [.t 2]⟩, ⟨some 62, some (60, true), .load (.ld 1 false), [.t 61]⟩, ⟨some 63, some (60, true), .pure (.fld 8), [.t 3]⟩, ⟨some 64, some (60, true), .load (.ld 1 false), [.t 63]⟩, ⟨some 65, some (60, true), .loud (.call 56), [.t 62, .t 64]⟩, ⟨some 66, none, .pick, [.t 60, .t 65, .c (.bool false)]⟩, ⟨some 4, none, .pure (.mov), [.t 66]⟩] [4]) (.ret))
def F25 : Fn Try.prog 25 := Fn.mkX false b25 [.t 4] 67 Try.f25 _ Try.func25 (by decide) rfl Try.ntmps25 (by kernel_rfl) (by kernel_rfl)
/-- signpost/signpostref6.Order -/
def b38 : BC := .seq (.ops [⟨some 4, none, .pure (.mov), [.c (.int .i64 0)]⟩] [0, 1]) (.seq (.seq (.ops [⟨some 5, none, .pure (.mov), [.c (.int .i64 0)]⟩] [0, 1, 5]) (.block 0 (.loop [0, 1, 5] (.seq (.seq (.ops [⟨some 7, none, .pure (.mov), [.t 5]⟩, ⟨some 8, none, .pure (.mov), [.t 0]⟩, ⟨some 9, none, .pure (.len), [.t 8]⟩, ⟨some 10, none, .pure (.bin .lss), [.t 7, .t 9]⟩, ⟨some 11, none, .pure (.mov), [.t 10]⟩, ⟨some 12, some (11, true), .pure (.mov), [.t 5]⟩, ⟨some 13, some (11, true), .pure (.mov), [.t 1]⟩, ⟨some 14, some (11, true), .pure (.len), [.t 13]⟩, ⟨some 15, some (11, true), .pure (.bin .lss), [.t 12, .t 14]⟩, ⟨some 16, none, .pick, [.t 11, .t 15, .c (.bool false)]⟩] [0, 1, 5, 16]) (.cond (.t 16) (.skip) (.exit 0))) (.seq (.block 1 (.seq (.seq (.ops [⟨some 19, none, .pure (.mov), [.t 0]⟩, ⟨some 20, none, .pure (.mov), [.t 5]⟩, ⟨some 21, none, .pure (.idx 2), [.t 19, .t 20]⟩, ⟨some 22, none, .pure (.fld 0), [.t 21]⟩, ⟨some 24, none, .pure (.mov), [.t 1]⟩, ⟨some 25, none, .pure (.mov), [.t 5]⟩, ⟨some 26, none, .pure (.idx 2), [.t 24, .t 25]⟩, ⟨some 27, none, .pure (.fld 0), [.t 26]⟩, ⟨some 23, none, .load (.ld 1 false), [.t 22]⟩, ⟨some 28, none, .load (.ld 1 false), [.t 27]⟩, ⟨some 29, none, .pure (.bin .neq), [.t 23, .t 28]⟩] [0, 1, 5, 29]) (.cond (.t 29) (.seq (.ops [⟨some 30, none, .pure (.mov), [.t 0]⟩, ⟨some 31, none, .pure (.mov), [.t 5]⟩, ⟨some 32, none, .pure (.idx 2), [.t 30, .t 31]⟩, ⟨some 33, none, .pure (.fld 0), [.t 32]⟩, ⟨some 35, none, .pure (.mov), [.t 1]⟩, ⟨some 36, none, .pure (.mov), [.t 5]⟩, ⟨some 37, none, .pure (.idx 2), [.t 35, .t 36]⟩, ⟨some 38, none, .pure (.fld 0), [.t 37]⟩, ⟨some 34, none, .load (.ld 1 false), [.t 33]⟩, ⟨some 39, none, .load (.ld 1 false), [.t 38]⟩, ⟨some 40, none, .pure (.bin .lss), [.t 34, .t 39]⟩, ⟨some 41, none, .loud (.call 64), [.t 40]⟩, ⟨some 4, none, .pure (.mov), [.t 41]⟩] [4]) (.ret)) (.skip))) (.seq (.seq (.ops [⟨some 42, none, .pure (.mov), [.t 0]⟩, ⟨some 43, none, .pure (.mov), [.t 5]⟩, ⟨some 44, none, .pure (.idx 2), [.t 42, .t 43]⟩, ⟨some 45, none, .pure (.fld 1), [.t 44]⟩, ⟨some 48, none, .pure (.mov), [.t 1]⟩, ⟨some 49, none, .pure (.mov), [.t 5]⟩, ⟨some 50, none, .pure (.idx 2), [.t 48, .t 49]⟩, ⟨some 51, none, .pure (.fld 1), [.t 50]⟩, ⟨some 46, none, .load (.ld 1 false), [.t 45]⟩, ⟨some 47, none, .pure (.len), [.t 46]⟩, ⟨some 52, none, .load (.ld 1 false), [.t 51]⟩, ⟨some 53, none, .pure (.len), [.t 52]⟩, ⟨some 54, none, .pure (.bin .neq), [.t 47, .t 53]⟩] [0, 1, 5, 54]) (.cond (.t 54) (.seq (.ops [⟨some 55, none, .pure (.mov), [.t 0]⟩, ⟨some 56, none, .pure (.mov), [.t 5]⟩, ⟨some 57, none, .pure (.idx 2), [.t 55, .t 56]⟩, ⟨some 58, none, .pure (.fld 1), [.t 57]⟩, ⟨some 61, none, .pure (.mov), [.t 1]⟩, ⟨some 62, none, .pure (.mov), [.t 5]⟩, ⟨some 63, none, .pure (.idx 2), [.t 61, .t 62]⟩, ⟨some 64, none, .pure (.fld 1), [.t 63]⟩, ⟨some 59, none, .load (.ld 1 false), [.t 58]⟩, ⟨some 60, none, .pure (.len), [.t 59]⟩, ⟨some 65, none, .load (.ld 1 false), [.t 64]⟩, ⟨some 66, none, .pure (.len), [.t 65]⟩, ⟨some 67, none, .pure (.bin .lss), [.t 60, .t 66]⟩, ⟨some 68, none, .loud (.call 64), [.t 67]⟩, ⟨some 4, none, .pure (.mov), [.t 68]⟩] [4]) (.ret)) (.skip))) (.seq (.ops [⟨some 6, none, .pure (.mov), [.c (.int .i64 0)]⟩] [0, 1, 5, 6]) (.block 2 (.loop [0, 1, 5, 6] (.seq (.seq (.ops [⟨some 69, none, .pure (.mov), [.t 6]⟩, ⟨some 70, none, .pure (.mov), [.t 0]⟩, ⟨some 71, none, .pure (.mov), [.t 5]⟩, ⟨some 72, none, .pure (.idx 2), [.t 70, .t 71]⟩, ⟨some 73, none, .pure (.fld 1), [.t 72]⟩, ⟨some 74, none, .load (.ld 1 false), [.t 73]⟩, ⟨some 75, none, .pure (.len), [.t 74]⟩, ⟨some 76, none, .pure (.bin .lss), [.t 69, .t 75]⟩] [0, 1, 5, 6, 76]) (.cond (.t 76) (.skip) (.exit 2))) (.seq (.block 3 (.seq (.ops [⟨some 79, none, .pure (.mov), [.t 0]⟩, ⟨some 80, none, .pure (.mov), [.t 5]⟩, ⟨some 81, none, .pure (.idx 2), [.t 79, .t 80]⟩, ⟨some 82, none, .pure (.fld 1), [.t 81]⟩, ⟨some 84, none, .pure (.mov), [.t 6]⟩, ⟨some 87, none, .pure (.mov), [.t 1]⟩, ⟨some 88, none, .pure (.mov), [.t 5]⟩, ⟨some 89, none, .pure (.idx 2), [.t 87, .t 88]⟩, ⟨some 90, none, .pure (.fld 1), [.t 89]⟩, ⟨some 92, none, .pure (.mov), [.t 6]⟩, ⟨some 83, none, .load (.ld 1 false), [.t 82]⟩, ⟨some 85, none, .pure (.idx 1), [.t 83, .t 84]⟩, ⟨some 86, none, .load (.ld 1 false), [.t 85]⟩, ⟨some 91, none, .load (.ld 1 false), [.t 90]⟩, ⟨some 93, none, .pure (.idx 1), [.t 91, .t 92]⟩, ⟨some 94, none, .load (.ld 1 false), [.t 93]⟩, ⟨some 95, none, .pure (.bin .neq), [.t 86, .t 94]⟩] [0, 1, 5, 6, 95]) (.cond (.t 95) (.seq (.ops [⟨some 96, none, .pure (.mov), [.t 0]⟩, ⟨some 97, none, .pure (.mov), [.t 5]⟩, ⟨some 98, none, .pure (.idx 2), [.t 96, .t 97]⟩, ⟨some 99, none, .pure (.fld 1), [.t 98]⟩, ⟨some 101, none, .pure (.mov), [.t 6]⟩, ⟨some 104, none, .pure (.mov), [.t 1]⟩, ⟨some 105, none, .pure (.mov), [.t 5]⟩, ⟨some 106, none, .pure (.idx 2), [.t 104, .t 105]⟩, ⟨some 107, none, .pure (.fld 1), [.t 106]⟩, ⟨some 109, none, .pure (.mov), [.t 6]⟩, ⟨some 100, none, .load (.ld 1 false), [.t 99]⟩, ⟨some 102, none, .pure (.idx 1), [.t 100, .t 101]⟩, ⟨some 103, none, .load (.ld 1 false), [.t 102]⟩, ⟨some 108, none, .load (.ld 1 false), [.t 107]⟩, ⟨some 110, none, .pure (.idx 1), [.t 108, .t 109]⟩, ⟨some 111, none, .load (.ld 1 false), [.t 110]⟩, ⟨some 112, none, .pure (.bin .lss), [.t 103, .t 111]⟩, ⟨some 113, none, .loud (.call 64), [.t 112]⟩, ⟨some 4, none, .pure (.mov), [.t 113]⟩] [4]) (.ret)) (.skip)))) (.ops [⟨some 77, none, .pure (.mov), [.t 6]⟩, ⟨some 78, none, .pure (.bin .add), [.t 77, .c (.int .i64 1)]⟩, ⟨some 6, none, .pure (.mov), [.t 78]⟩] [0, 1, 5, 6]))))))))) (.ops [⟨some 17, none, .pure (.mov), [.t 5]⟩, ⟨some 18, none, .pure (.bin .add), [.t 17, .c (.int .i64 1)]⟩, ⟨some 5, none, .pure (.mov), [.t 18]⟩] [0, 1, 5])))))) (.seq (.seq (.ops [⟨some 114, none, .pure (.mov), [.t 0]⟩, ⟨some 115, none, .pure (.len), [.t 114]⟩, ⟨some 116, none, .pure (.mov), [.t 1]⟩, ⟨some 117, none, .pure (.len), [.t 116]⟩, ⟨some 118, none, .pure (.bin .neq), [.t 115, .t 117]⟩] [0, 1, 118]) (.cond (.t 118) (.seq (.ops [⟨some 119, none, .pure (.mov), [.t 0]⟩, ⟨some 120, none, .pure (.len), [.t 119]⟩, ⟨some 121, none, .pure (.mov), [.t 1]⟩, ⟨some 122, none, .pure (.len), [.t 121]⟩, ⟨some 123, none, .pure (.bin .lss), [.t 120, .t 122]⟩, ⟨some 124, none, .loud (.call 64), [.t 123]⟩, ⟨some 4, none, .pure (.mov), [.t 124]⟩] [4]) (.ret)) (.skip))) (.seq (.ops [⟨some 4, none, .pure (.mov), [.c (.int .i64 0)]⟩] [4]) (.ret))))
def F38 : Fn Try.prog 38 := Fn.mkX false b38 [.t 4] 125 Try.f38 _ Try.func38 (by decide) rfl Try.ntmps38 (by kernel_rfl) (by kernel_rfl)
/-- signpost/signpostbook.Same[uint32] -/
def b56 : BC := .seq (.ops [⟨some 4, none, .pure (.mov), [.c (.bool false)]⟩] [0, 1]) (.seq (.seq (.ops [⟨some 6, none, .pure (.mov), [.t 0]⟩, ⟨some 7, none, .pure (.len), [.t 6]⟩, ⟨some 8, none, .pure (.mov), [.t 1]⟩, ⟨some 9, none, .pure (.len), [.t 8]⟩, ⟨some 10, none, .pure (.bin .neq), [.t 7, .t 9]⟩] [0, 1, 10]) (.cond (.t 10) (.seq (.ops [⟨some 4, none, .pure (.mov), [.c (.bool false)]⟩] [4]) (.ret)) (.skip))) (.seq (.seq (.ops [⟨some 5, none, .pure (.mov), [.c (.int .i64 0)]⟩] [0, 1, 5]) (.block 0 (.loop [0, 1, 5] (.seq (.seq (.ops [⟨some 11, none, .pure (.mov), [.t 5]⟩, ⟨some 12, none, .pure (.mov), [.t 0]⟩, ⟨some 13, none, .pure (.len), [.t 12]⟩, ⟨some 14, none, .pure (.bin .lss), [.t 11, .t 13]⟩] [0, 1, 5, 14]) (.cond (.t 14) (.skip) (.exit 0))) (.seq (.block 1 (.seq (.ops [⟨some 17, none, .pure (.mov), [.t 0]⟩, ⟨some 18, none, .pure (.mov), [.t 5]⟩, ⟨some 19, none, .pure (.idx 1), [.t 17, .t 18]⟩, ⟨some 21, none, .pure (.mov), [.t 1]⟩, ⟨some 22, none, .pure (.mov), [.t 5]⟩, ⟨some 23, none, .pure (.idx 1), [.t 21, .t 22]⟩, ⟨some 20, none, .load (.ld 1 false), [.t 19]⟩, ⟨some 24, none, .load (.ld 1 false), [.t 23]⟩, ⟨some 25, none, .pure (.bin .neq), [.t 20, .t 24]⟩] [0, 1, 5, 25]) (.cond (.t 25) (.seq (.ops [⟨some 4, none, .pure (.mov), [.c (.bool false)]⟩] [4]) (.ret)) (.skip)))) (.ops [⟨some 15, none, .pure (.mov), [.t 5]⟩, ⟨some 16, none, .pure (.bin .add), [.t 15, .c (.int .i64 1)]⟩, ⟨some 5, none, .pure (.mov), [.t 16]⟩] [0, 1, 5])))))) (.seq (.ops [⟨some 4, none, .pure (.mov), [.c (.bool true)]⟩] [4]) (.ret))))
def F56 : Fn Try.prog 56 := Fn.mkX false b56 [.t 4] 26 Try.f56 _ Try.func56 (by decide) rfl Try.ntmps56 (by kernel_rfl) (by kernel_rfl)
/-- signpost/signpostref6.side -/
def b64 : BC := .seq (.ops [⟨some 2, none, .pure (.mov), [.c (.int .i64 0)]⟩] [0]) (.seq (.seq (.ops [⟨some 3, none, .pure (.mov), [.t 0]⟩] [3]) (.cond (.t 3) (.seq (.ops [⟨some 2, none, .pure (.mov), [.c (.int .i64 (-1))]⟩] [2]) (.ret)) (.skip))) (.seq (.ops [⟨some 2, none, .pure (.mov), [.c (.int .i64 1)]⟩] [2]) (.ret)))
def F64 : Fn Try.prog 64 := Fn.mkX false b64 [.t 2] 4 Try.f64 _ Try.func64 (by decide) rfl Try.ntmps64 (by kernel_rfl) (by kernel_rfl)
end Go.Am.Tst

/- B1 -/
namespace Go.Am
open Go.Proofs Go.Sort

def sideF (b : Bool) : Int := if b then -1 else 1
theorem c64 (b : Bool) : Pur Try.prog 64 [.bool b] (.int .i64 (sideF b)) := by
  refine pur_of Tst.F64 (by simp [Tst.F64, Fn.mkX]) fun σ => ?_
  simp only [Tst.F64, Fn.mkX, Tst.b64]
  cases b <;> simp only [↓vcPre, ↓wit_get, ↓reduceIte, vcPost, vcStd, Nat.reduceEqDiff, reduceCtorEq, Nat.reduceAdd, Nat.reduceLeDiff, Int.reduceLT, Int.reduceLE, ↓u_setN] <;> rfl
theorem c56 (l m : List Int) (h : l.length ≤ 1000000) : Pur Try.prog 56 [.sl 1 (l.map cU), .sl 1 (m.map cU)] (.bool (decide (l = m))) := by
  refine pur_of Tst.F56 (by simp [Tst.F56, Fn.mkX]) fun σ => ?_
  simp only [Tst.F56, Fn.mkX, Tst.b56]
  simp only [↓vcPre, ↓wit_get, ↓reduceIte, vcPost, vcStd, Nat.reduceEqDiff, reduceCtorEq, Nat.reduceAdd, Nat.reduceLeDiff, Int.reduceLT, Int.reduceLE, ↓u_setN]
  refine ⟨fun h1 => (decide_eq_false (fun e => h1 (by rw [e]))).symm, fun h1 => ?_⟩
  have hl : l.length = m.length := by omega
  refine LoopQ.inv (S := Nat) (fun k => [(0, .sl 1 (l.map cU)), (1, .sl 1 (m.map cU)), (5, .int .i64 (k : Int))]) (fun _ => σ) (fun k => k ≤ l.length ∧ ∀ i (hi : i < l.length), i < k → l[i] = m[i]'(by omega)) (fun k => l.length + 1 - k) 0 rfl (Store.sub_refl _) ⟨by omega, fun i _ h => by omega⟩ ?_
  rintro k ⟨hk, hp⟩
  simp only [↓vcPre, ↓wit_get, ↓reduceIte, vcPost, vcStd, Nat.reduceEqDiff, reduceCtorEq, Nat.reduceAdd, Nat.reduceLeDiff, Int.reduceLT, Int.reduceLE, ↓u_setN]
  refine ⟨fun c1 => ?_, fun c1 => ?_⟩
  · have ek : IntKind.i64.wrap ((k : Int) + 1) = ((k + 1 : Nat) : Int) := by rw [wrap64 (by unfold I64; omega)]; omega
    refine ⟨c1, by omega, by simp [cU], ?_⟩
    simp only [cU, ↓vcPre, ↓wit_get, ↓reduceIte, vcPost, vcStd, Nat.reduceEqDiff, reduceCtorEq, Nat.reduceAdd, Nat.reduceLeDiff, Int.reduceLT, Int.reduceLE, ↓u_setN]
    refine ⟨fun g1 => ?_, fun g1 => ?_⟩
    · refine (decide_eq_false fun e => g1 ?_).symm
      subst e; rfl
    · rw [ek]
      refine NextQ.to (k + 1) rfl (Store.sub_refl _) (by omega) ⟨by omega, fun i hi hik => ?_⟩
      by_cases hik' : i = k
      · subst hik'; exact g1
      · exact hp i hi (by omega)
  · exact (decide_eq_true (List.ext_getElem hl fun i hi hi' => hp i hi (by omega))).symm
theorem c38 (l m : List Seg) (hl : l.length ≤ 1000000) (hm : m.length ≤ 1000000) (hlo : ∀ s ∈ l, s.ok) (hmo : ∀ s ∈ m, s.ok) : Pur Try.prog 38 [.sl 2 (l.map Seg.c), .sl 2 (m.map Seg.c)] (.int .i64 (cmpPath l m)) := by
  refine pur_of Tst.F38 (by simp [Tst.F38, Fn.mkX]) fun σ => ?_
  simp only [Tst.F38, Fn.mkX, Tst.b38]
  simp only [↓vcPre, ↓wit_get, ↓reduceIte, vcPost, vcStd, Nat.reduceEqDiff, reduceCtorEq, Nat.reduceAdd, Nat.reduceLeDiff, Int.reduceLT, Int.reduceLE, ↓u_setN]
  refine LoopQ.inv (S := Nat) (fun k => [(0, .sl 2 (l.map Seg.c)), (1, .sl 2 (m.map Seg.c)), (5, .int .i64 (k : Int))]) (fun _ => σ) (fun k => k ≤ l.length ∧ k ≤ m.length ∧ cmpG cmpSeg (l.drop k) (m.drop k) = cmpPath l m) (fun k => l.length + 1 - k) 0 rfl (Store.sub_refl _) ⟨by omega, by omega, rfl⟩ ?_
  rintro k ⟨hk, hk2, ho⟩
  simp only [↓vcPre, ↓wit_get, ↓reduceIte, vcPost, vcStd, Nat.reduceEqDiff, reduceCtorEq, Nat.reduceAdd, Nat.reduceLeDiff, Int.reduceLT, Int.reduceLE, ↓u_setN]
  have hside : ∀ x y : Int, x ≠ y → sideF (decide (x < y)) = cmpI x y := fun x y h => by
    unfold sideF cmpI
    by_cases h1 : x < y
    · simp [h1]
    · have h2 : y < x := by omega
      simp [h1, h2]
  have he1 : (k = l.length ∨ k = m.length) → ¬ (l.length : Int) = (m.length : Int) → sideF (decide (l.length < m.length)) = cmpPath l m := fun hkk h1 => by
    rw [← ho]
    by_cases h2 : l.length < m.length
    · rw [show List.drop k l = [] from List.drop_eq_nil_of_le (by omega), List.drop_eq_getElem_cons (l := m) (by omega)]
      simp [sideF, cmpG, h2]
    · rw [show List.drop k m = [] from List.drop_eq_nil_of_le (by omega), List.drop_eq_getElem_cons (l := l) (by omega)]
      simp [sideF, cmpG, h2]
  have he2 : (k = l.length ∨ k = m.length) → (l.length : Int) = (m.length : Int) → 0 = cmpPath l m := fun hkk h1 => by
    rw [← ho, show List.drop k l = [] from List.drop_eq_nil_of_le (by omega), show List.drop k m = [] from List.drop_eq_nil_of_le (by omega)]
    rfl
  refine ⟨fun c1 => ⟨fun c2 => ?_, fun c2 => ?_⟩, fun c1 => ?_⟩
  · rw [List.drop_eq_getElem_cons c1, List.drop_eq_getElem_cons c2] at ho
    simp only [cmpG] at ho
    refine ⟨c1, c2, by simp [Seg.c], ?_⟩
    have hxo := hlo _ (List.getElem_mem c1)
    have hyo := hmo _ (List.getElem_mem c2)
    have hc1 : cmpSeg l[k] m[k] = orL [cmpI l[k].kind m[k].kind, cmpI l[k].ls.length m[k].ls.length, cmpG cmpI l[k].ls m[k].ls] := rfl
    simp only [Seg.c, ↓vcPre, ↓wit_get, ↓reduceIte, vcPost, vcStd, Nat.reduceEqDiff, reduceCtorEq, Nat.reduceAdd, Nat.reduceLeDiff, Int.reduceLT, Int.reduceLE, ↓u_setN]
    refine ⟨fun g1 => ⟨c1, c2, (c64 _).Q ?_⟩, fun g1 => ⟨c1, c2, fun g2 => ⟨c1, c2, (c64 _).Q ?_⟩, fun g2 => ?_⟩⟩
    · have hz : cmpI l[k].kind m[k].kind ≠ 0 := fun e => g1 (cmpI_z.1 e)
      have h1 : cmpSeg l[k] m[k] = cmpI l[k].kind m[k].kind := by rw [hc1]; simp only [orL]; rw [if_neg hz]
      simp only [↓vcPre, ↓wit_get, ↓reduceIte, vcPost, vcStd, Nat.reduceEqDiff, reduceCtorEq, Nat.reduceAdd, Nat.reduceLeDiff, Int.reduceLT, Int.reduceLE, ↓u_setN]
      rw [hside _ _ g1, ← ho, if_neg (by rw [h1]; exact hz), h1]
    · have hz : cmpI l[k].ls.length m[k].ls.length ≠ 0 := fun e => g2 (cmpI_z.1 e)
      have h1 : cmpSeg l[k] m[k] = cmpI l[k].ls.length m[k].ls.length := by rw [hc1]; simp only [orL]; rw [if_pos (cmpI_z.2 g1), if_neg hz]
      have h2 := hside _ _ g2
      simp only [Int.ofNat_lt] at h2
      simp only [↓vcPre, ↓wit_get, ↓reduceIte, vcPost, vcStd, Nat.reduceEqDiff, reduceCtorEq, Nat.reduceAdd, Nat.reduceLeDiff, Int.reduceLT, Int.reduceLE, ↓u_setN]
      rw [h2, ← ho, if_neg (by rw [h1]; exact hz), h1]
    · have h1 : cmpSeg l[k] m[k] = cmpG cmpI l[k].ls m[k].ls := by
        rw [hc1]; simp only [orL]; rw [if_pos (cmpI_z.2 g1), if_pos (cmpI_z.2 g2)]
        split
        · rename_i h; rw [h]
        · rfl
      rw [h1] at ho
      unfold Seg.ok at hxo hyo
      refine LoopQ.inv (S := Nat) (fun j => [(0, .sl 2 (l.map Seg.c)), (1, .sl 2 (m.map Seg.c)), (5, .int .i64 (k : Int)), (6, .int .i64 (j : Int))]) (fun _ => σ) (fun j => j ≤ l[k].ls.length ∧ cmpG cmpI (l[k].ls.drop j) (m[k].ls.drop j) = cmpG cmpI l[k].ls m[k].ls) (fun j => l[k].ls.length + 1 - j) 0 rfl (Store.sub_refl _) ⟨by omega, rfl⟩ ?_
      rintro j ⟨hj, hjo⟩
      simp only [Seg.c, ↓vcPre, ↓wit_get, ↓reduceIte, vcPost, vcStd, Nat.reduceEqDiff, reduceCtorEq, Nat.reduceAdd, Nat.reduceLeDiff, Int.reduceLT, Int.reduceLE, ↓u_setN]
      have hjl : IntKind.i64.wrap ((j : Int) + 1) = ((j + 1 : Nat) : Int) := by rw [wrap64 (by unfold I64; omega)]; omega
      have hkl : IntKind.i64.wrap ((k : Int) + 1) = ((k + 1 : Nat) : Int) := by rw [wrap64 (by unfold I64; omega)]; omega
      refine ⟨c1, fun d1 => ?_, fun d1 => ?_⟩
      · have d2 : j < m[k].ls.length := by omega
        rw [List.drop_eq_getElem_cons d1, List.drop_eq_getElem_cons d2] at hjo
        simp only [cmpG] at hjo
        refine ⟨c1, c2, d1, by simp [cU], ?_⟩
        simp only [cU, ↓vcPre, ↓wit_get, ↓reduceIte, vcPost, vcStd, Nat.reduceEqDiff, reduceCtorEq, Nat.reduceAdd, Nat.reduceLeDiff, Int.reduceLT, Int.reduceLE, ↓u_setN]
        refine ⟨d2, fun e1 => ⟨c1, c2, d1, d2, (c64 _).Q ?_⟩, fun e1 => ?_⟩
        · have hz : cmpI l[k].ls[j] m[k].ls[j] ≠ 0 := fun e => e1 (cmpI_z.1 e)
          rw [if_neg hz] at hjo
          simp only [↓vcPre, ↓wit_get, ↓reduceIte, vcPost, vcStd, Nat.reduceEqDiff, reduceCtorEq, Nat.reduceAdd, Nat.reduceLeDiff, Int.reduceLT, Int.reduceLE, ↓u_setN]
          rw [hside _ _ e1, ← ho, ← hjo, if_neg hz]
        · rw [if_pos (cmpI_z.2 e1)] at hjo
          rw [hjl]
          exact NextQ.to (j + 1) rfl (Store.sub_refl _) (by omega) ⟨by omega, hjo⟩
      · rw [show List.drop j l[k].ls = [] from List.drop_eq_nil_of_le (by omega), show List.drop j m[k].ls = [] from List.drop_eq_nil_of_le (by omega)] at hjo
        have h0 : cmpG cmpI l[k].ls m[k].ls = 0 := by rw [← hjo]; rfl
        rw [if_pos h0] at ho
        rw [hkl]
        exact NextQ.to (k + 1) rfl (Store.sub_refl _) (by omega) ⟨by omega, by omega, ho⟩
  · refine ⟨fun h1 => (c64 _).Q ?_, he2 (by omega)⟩
    simp only [↓vcPre, ↓wit_get, ↓reduceIte, vcPost, vcStd, Nat.reduceEqDiff, reduceCtorEq, Nat.reduceAdd, Nat.reduceLeDiff, Int.reduceLT, Int.reduceLE, ↓u_setN]
    rw [he1 (by omega) h1]
  · refine ⟨fun h1 => (c64 _).Q ?_, he2 (by omega)⟩
    simp only [↓vcPre, ↓wit_get, ↓reduceIte, vcPost, vcStd, Nat.reduceEqDiff, reduceCtorEq, Nat.reduceAdd, Nat.reduceLeDiff, Int.reduceLT, Int.reduceLE, ↓u_setN]
    rw [he1 (by omega) h1]

theorem beq_dec (p q : Bool) : (p == q) = decide (p = q) := by cases p <;> cases q <;> rfl
theorem c25 (a b : At) (ha : a.ok) (hb : b.ok) : Pur Try.prog 25 [.agg a.c, .agg b.c] (.bool (decide (a = b))) := by
  refine pur_of Tst.F25 (by simp [Tst.F25, Fn.mkX]) fun σ => ?_
  simp only [Tst.F25, Fn.mkX, Tst.b25, At.c]
  simp only [↓vcPre, ↓wit_get, ↓reduceIte, vcPost, vcStd, Nat.reduceEqDiff, reduceCtorEq, Nat.reduceAdd, Nat.reduceLeDiff, Int.reduceLT, Int.reduceLE, ↓u_setN]
  refine AllocQ.i0 fun i hi => ?_
  simp only [↓vcPre, ↓wit_get, ↓reduceIte, vcPost, vcStd, Nat.reduceEqDiff, reduceCtorEq, Nat.reduceAdd, Nat.reduceLeDiff, Int.reduceLT, Int.reduceLE, ↓u_setN]
  refine AllocQ.i1 fun j hj1 hj2 hj => ?_
  simp only [hj1, hj2, ↓vcPre, ↓wit_get, ↓reduceIte, vcPost, vcStd, Nat.reduceEqDiff, reduceCtorEq, Nat.reduceAdd, Nat.reduceLeDiff, Int.reduceLT, Int.reduceLE, ↓u_setN]
  have hsub := sub_set2 (s := σ) (o := (Obj.box [AV.int IntKind.i64 a.org, AV.sl 2 (List.map Seg.c a.path), AV.int IntKind.u32 a.nxt, AV.bool a.hm, AV.int IntKind.u32 a.med, AV.bool a.hp, AV.int IntKind.u32 a.prf, AV.bool a.atm, AV.sl 1 (List.map cU a.cms)])) (p := (Obj.box [AV.int IntKind.i64 b.org, AV.sl 2 (List.map Seg.c b.path), AV.int IntKind.u32 b.nxt, AV.bool b.hm, AV.int IntKind.u32 b.med, AV.bool b.hp, AV.int IntKind.u32 b.prf, AV.bool b.atm, AV.sl 1 (List.map cU b.cms)])) hi hj hj1
  refine ⟨fun g1 => (c38 _ _ ha.1 hb.1 ha.2.1 hb.2.1).Q ?_, fun g1 => ⟨(decide_eq_false (by rintro rfl; exact g1 rfl)).symm, hsub⟩⟩
  simp only [hj1, hj2, beq_dec, ↓vcPre, ↓wit_get, ↓reduceIte, vcPost, vcStd, Nat.reduceEqDiff, reduceCtorEq, Nat.reduceAdd, Nat.reduceLeDiff, Int.reduceLT, Int.reduceLE, ↓u_setN]
  refine ⟨fun g2 => ⟨fun g3 => ⟨fun g4 => ⟨fun g5 => ⟨fun g6 => ⟨fun g7 => ⟨fun g8 => (c56 _ _ ha.2.2).Q ?_, fun g8 => ⟨(decide_eq_false (by rintro rfl; exact g8 rfl)).symm, hsub⟩⟩, fun g7 => ⟨(decide_eq_false (by rintro rfl; exact g7 rfl)).symm, hsub⟩⟩, fun g6 => ⟨(decide_eq_false (by rintro rfl; exact g6 rfl)).symm, hsub⟩⟩, fun g5 => ⟨(decide_eq_false (by rintro rfl; exact g5 rfl)).symm, hsub⟩⟩, fun g4 => ⟨(decide_eq_false (by rintro rfl; exact g4 rfl)).symm, hsub⟩⟩, fun g3 => ⟨(decide_eq_false (by rintro rfl; exact g3 rfl)).symm, hsub⟩⟩, fun g2 => ⟨(decide_eq_false (by rintro rfl; exact g2 (cmpPath_z.2 rfl))).symm, hsub⟩⟩
  simp only [↓vcPre, ↓wit_get, ↓reduceIte, vcPost, vcStd, Nat.reduceEqDiff, reduceCtorEq, Nat.reduceAdd, Nat.reduceLeDiff, Int.reduceLT, Int.reduceLE, ↓u_setN]
  refine ⟨?_, hsub⟩
  rw [Bool.eq_iff_iff, decide_eq_true_eq, decide_eq_true_eq]
  have g2' := cmpPath_z.1 g2
  constructor
  · intro h; cases a; cases b; simp_all
  · rintro rfl; rfl
def shortS (s : Seg) : Seg := { s with ls := s.ls.take 6 }
def shortA (a : At) : At := { a with path := (a.path.take 18).map shortS, cms := a.cms.take 34 }
theorem short_t (l : List Seg) : List.drop (Int.toNat 0) (List.take ((some (18 : Int)).getD ↑l.length).toNat (List.map Seg.c l)) = (l.take 18).map Seg.c := by rw [List.map_take]; rfl
theorem short_u (n : Nat) (n' : Int) (l : List Int) : List.drop (Int.toNat 0) (List.take ((some (n : Int)).getD n').toNat (List.map cU l)) = (l.take n).map cU := by rw [List.map_take]; rfl
/-- The loop of Short, and what is behind it. -/
theorem tail_short (E : Env) (a : At) (hp : a.path.length ≤ 18) {σ t : Store} {i j : Nat} {z : List AV} {n rr : Env → Store → Prop} {x : Nat → Env → Store → Prop} (hi : t i = some (.box a.c)) (hj : t j = some (.box z)) (hz : z.length = 9) (hij : ¬ i = j) (hσi : σ i = none) (hσj : σ j = none) (hsub : Store.sub σ t)
    (hret : ∀ s v, Store.sub σ s → Own 2 σ ((a.path.map shortS).map Seg.c) v s → s j = some (.box [.int .i64 a.org, v, .int .u32 a.nxt, .bool a.hm, .int .u32 a.med, .bool a.hp, .int .u32 a.prf, .bool a.atm, .sl 1 ((a.cms.take 34).map cU)]) → rr [(2, .ptr j 0)] s) :
    bwp Try.prog Tsd.t40_3 ((1, .ptr i 0) :: (2, .ptr j 0) :: E) t n rr x := by
  simp only [Tsd.t40_3]
  have hji : ¬ j = i := fun e => hij e.symm
  simp only [↓vcPre, ↓wit_get, ↓reduceIte, vcPost, vcStd, Nat.reduceEqDiff, reduceCtorEq, Nat.reduceAdd, Nat.reduceLeDiff, Int.reduceLT, Int.reduceLE, ↓u_setN]
  obtain ⟨τ, q1, q2, q3, q4⟩ : ∃ τ, Store.sub σ τ ∧ Store.sub τ t ∧ τ i = some (.box a.c) ∧ τ j = some (.box z) := ⟨t, hsub, Store.sub_refl _, hi, hj⟩
  refine LoopQ.inv (S := Nat × AV × Store) (fun q => [(1, .ptr i 0), (2, .ptr j 0), (3, q.2.1), (4, .int .i64 (q.1 : Int))]) (fun q => q.2.2) (fun q => q.1 ≤ a.path.length ∧ Store.sub τ q.2.2 ∧ Own 2 τ (((a.path.take q.1).map shortS).map Seg.c) q.2.1 q.2.2) (fun q => a.path.length + 1 - q.1) (0, .nils, t) rfl (Store.sub_refl _) ⟨by simp only; omega, q2, .nil⟩ ?_
  rintro ⟨k, v, s⟩ ⟨hk, hs, ho⟩
  simp only at hk hs ho
  have hsi := hs _ _ q3
  have hsj := hs _ _ q4
  simp only [hsi, At.c, ↓vcPre, ↓wit_get, ↓reduceIte, vcPost, vcStd, Nat.reduceEqDiff, reduceCtorEq, Nat.reduceAdd, Nat.reduceLeDiff, Int.reduceLT, Int.reduceLE, ↓u_setN]
  refine ⟨fun c1 => ?_, fun c1 => ?_⟩
  · have ek : IntKind.i64.wrap ((k : Int) + 1) = ((k + 1 : Nat) : Int) := by rw [wrap64 (by unfold I64; omega)]; omega
    refine ⟨c1, by simp [Seg.c], ?_⟩
    refine AllocQ.i0 fun b hb => ?_
    simp only [Seg.c, ↓vcPre, ↓wit_get, ↓reduceIte, vcPost, vcStd, Nat.reduceEqDiff, reduceCtorEq, Nat.reduceAdd, Nat.reduceLeDiff, Int.reduceLT, Int.reduceLE, ↓u_setN]
    have key : ∀ (E : Env) (T : Store) (n' rr' : Env → Store → Prop) (x' : Nat → Env → Store → Prop), T b = some (.box (shortS a.path[k]).c) → Store.sub s T →
        (∀ v' s', Store.sub τ s' → Own 2 τ (((a.path.take (k + 1)).map shortS).map Seg.c) v' s' → n' [(1, .ptr i 0), (2, .ptr j 0), (3, v'), (4, .int .i64 (k : Int))] s') →
        bwp Try.prog Tsd.t40_34 ((1, .ptr i 0) :: (2, .ptr j 0) :: (3, v) :: (4, .int .i64 (k : Int)) :: (5, .ptr b 0) :: E) T n' rr' x' := by
      intro E T n' rr' x' hT hsT hn
      simp only [Tsd.t40_34]
      simp only [hT, Seg.c, ↓vcPre, ↓wit_get, ↓reduceIte, vcPost, vcStd, Nat.reduceEqDiff, reduceCtorEq, Nat.reduceAdd, Nat.reduceLeDiff, Int.reduceLT, Int.reduceLE, ↓u_setN]
      refine AllocQ.i0 fun g hg => ?_
      simp only [↓vcPre, ↓wit_get, ↓reduceIte, vcPost, vcStd, Nat.reduceEqDiff, reduceCtorEq, Nat.reduceAdd, Nat.reduceLeDiff, Int.reduceLT, Int.reduceLE, ↓u_setN]
      have hsg := Store.sub_set T g (.arr 2 [[.int .i64 (shortS a.path[k]).kind, .sl 1 ((shortS a.path[k]).ls.map cU)]]) hg
      refine Own.app (τ := τ) (Store.sub_trans hs (Store.sub_trans hsT hsg)) (ho.mono (Store.sub_trans hsT hsg)) (slc_os0 (Store.set_same _ _ _) rfl) (by simp; omega) fun v' s' hs' ho'' => ?_
      refine hn v' s' hs' ?_
      simp only [List.take_add_one, List.getElem?_eq_getElem c1, Option.toList_some, List.map_append, List.map_cons, List.map_nil]
      exact ho''
    refine ⟨fun g1 => ⟨by simp only [Option.getD_some]; omega, ?_⟩, fun g1 => ?_⟩
    · refine key _ _ _ _ _ ?_ ?_ fun v' s' h1 h2 => ?_
      · rw [Store.set_same]
        simp only [shortS, Seg.c, List.map_take]; rfl
      · rw [Store.set_set, Store.set_set]; exact Store.sub_set _ _ _ hb
      simp only [ek, ↓vcPre, ↓wit_get, ↓reduceIte, vcPost, vcStd, Nat.reduceEqDiff, reduceCtorEq, Nat.reduceAdd, Nat.reduceLeDiff, Int.reduceLT, Int.reduceLE, ↓u_setN]
      exact NextQ.to (k + 1, v', s') rfl (Store.sub_refl _) (by simp only; omega) ⟨by simp only; omega, h1, h2⟩
    · refine key _ _ _ _ _ ?_ ?_ fun v' s' h1 h2 => ?_
      · rw [Store.set_same]
        have : a.path[k].ls.take 6 = a.path[k].ls := List.take_of_length_le (by omega)
        simp only [shortS, Seg.c, this]
      · rw [Store.set_set]; exact Store.sub_set _ _ _ hb
      simp only [ek, ↓vcPre, ↓wit_get, ↓reduceIte, vcPost, vcStd, Nat.reduceEqDiff, reduceCtorEq, Nat.reduceAdd, Nat.reduceLeDiff, Int.reduceLT, Int.reduceLE, ↓u_setN]
      exact NextQ.to (k + 1, v', s') rfl (Store.sub_refl _) (by simp only; omega) ⟨by simp only; omega, h1, h2⟩
  · have hkl : a.path.take k = a.path := List.take_of_length_le (by omega)
    rw [hkl] at ho
    have hv : v.isTup = false ∧ v.cells = [v] := by
      rcases ho with ⟨_, rfl⟩ | ⟨g, rfl, _, _⟩ <;> exact ⟨rfl, rfl⟩
    have fin : ∀ X Y : Obj, ∀ vv : List AV, Y = .box vv → vv = [.int .i64 a.org, v, .int .u32 a.nxt, .bool a.hm, .int .u32 a.med, .bool a.hp, .int .u32 a.prf, .bool a.atm, .sl 1 ((a.cms.take 34).map cU)] → rr [(2, .ptr j 0)] ((s.set i X).set j Y) := by
      rintro X Y vv rfl rfl
      refine hret _ v (sub_upd' (sub_upd' (Store.sub_trans q1 hs) hσi) hσj) ?_ (Store.set_same _ _ _)
      rcases ho.weak q1 with h | ⟨g, h1, h2, h3⟩
      · exact .inl h
      · refine .inr ⟨g, h1, h2, ?_⟩
        have hgi : ¬ g = i := fun e => by rw [e, hsi] at h3; cases h3
        have hgj : ¬ g = j := fun e => by rw [e, hsj] at h3; cases h3
        rw [Store.set_ne _ _ hgj, Store.set_ne _ _ hgi]; exact h3
    simp only [hv.1, hv.2, hsi, hsj, hij, hji, At.c, hz, ↓vcPre, ↓wit_get, ↓reduceIte, vcPost, vcStd, Nat.reduceEqDiff, reduceCtorEq, Nat.reduceAdd, Nat.reduceLeDiff, Int.reduceLT, Int.reduceLE, ↓u_setN]
    refine ⟨fun g1 => ⟨by simp only [Option.getD_some]; omega, ?_⟩, fun g1 => ?_⟩
    · rw [splice_all _ _ (by simp [hz]), wit_some, Store.set_set]
      refine fin _ _ _ rfl ?_
      simp only [List.map_take]; rfl
    · rw [splice_all _ _ (by simp [hz]), wit_some]
      have : a.cms.take 34 = a.cms := List.take_of_length_le (by omega)
      exact fin _ _ _ rfl (by rw [this])
/-- An end with parts, one of which is what was collected. -/
theorem EndQ.aggOwn {esz : Nat} {slots : List RS} {Q : AV → Store → Prop} {e : Env} {σ τ : Store} {L : List (List AV)} {cells : List AV} (k : Nat) {v : AV} (h1 : e.res τ slots = some (.agg cells)) (hk : cells[k]? = some v) (ho : Own esz σ L v τ) (hs : Store.sub σ τ)
    (hf : ∀ c ∈ cells.set k (.sl esz L), c.flat = true) (hQ : Q (.agg (cells.set k (.sl esz L))) σ) : @EndQ e τ ⟨slots, Q⟩ := by
  unfold EndQ
  rcases ho with ⟨rfl, rfl⟩ | ⟨g, rfl, hg, hh⟩
  · exact ⟨_, h1, Weak.agg (WeakL.nil k esz hk (WeakL.forget hs (WeakL.pure ⟨hf, hQ⟩)))⟩
  · refine ⟨_, h1, Weak.agg (WeakL.freeze k hk hh (by omega) (WeakL.forget (σ' := σ) (fun i o hi => ?_) (WeakL.pure ?_)))⟩
    · rw [Store.del_ne _ (fun e => by subst e; rw [hg] at hi; cases hi)]; exact hs i o hi
    · simp only [List.drop_zero, List.take_length]; exact ⟨hf, hQ⟩
theorem c40 (a : At) : Pur Try.prog 40 [.agg a.c] (.agg (shortA a).c) := by
  intro σ
  refine calls_of Tsd.F40 (by simp [Tsd.F40, Fn.mkX]) ?_
  simp only [Tsd.F40, Fn.mkX, Tsd.b40]
  simp only [At.c, ↓vcPre, ↓wit_get, ↓reduceIte, vcPost, vcStd, Nat.reduceEqDiff, reduceCtorEq, Nat.reduceAdd, Nat.reduceLeDiff, Int.reduceLT, Int.reduceLE, ↓u_setN]
  refine AllocQ.i0 fun i hi => ?_
  simp only [At.c, ↓vcPre, ↓wit_get, ↓reduceIte, vcPost, vcStd, Nat.reduceEqDiff, reduceCtorEq, Nat.reduceAdd, Nat.reduceLeDiff, Int.reduceLT, Int.reduceLE, ↓u_setN]
  refine AllocQ.i1 fun j hj1 hj2 hj => ?_
  simp only [hj1, hj2, short_t, ↓vcPre, ↓wit_get, ↓reduceIte, vcPost, vcStd, Nat.reduceEqDiff, reduceCtorEq, Nat.reduceAdd, Nat.reduceLeDiff, Int.reduceLT, Int.reduceLE, ↓u_setN]
  have key : ∀ (E : Env) (t : Store) (n : Env → Store → Prop) (x : Nat → Env → Store → Prop) (z : List AV), z.length = 9 → t i = some (.box ({ a with path := a.path.take 18 } : At).c) → t j = some (.box z) → Store.sub σ t →
      bwp Try.prog Tsd.t40_3 ((1, .ptr i 0) :: (2, .ptr j 0) :: E) t n (fun e s => @EndQ e s ⟨Tsd.F40.slots, fun r s => s = σ ∧ r = .agg (shortA a).c⟩) x := by
    intro E t n x z hz h1 h2 h3
    refine tail_short E { a with path := a.path.take 18 } (by simp; omega) h1 h2 hz hj2 hi hj h3 ?_
    intro s v hs ho hsj
    refine EndQ.aggOwn 1 (L := ((a.path.take 18).map shortS).map Seg.c) (v := v) (cells := [.int .i64 a.org, v, .int .u32 a.nxt, .bool a.hm, .int .u32 a.med, .bool a.hp, .int .u32 a.prf, .bool a.atm, .sl 1 ((a.cms.take 34).map cU)]) ?_ rfl ho hs ?_ ⟨rfl, rfl⟩
    · show Env.res [(2, AV.ptr j 0)] s [RS.c 2 9 true] = _
      simp only [hsj, ↓vcPre, ↓wit_get, ↓reduceIte, vcPost, vcStd, Nat.reduceEqDiff, reduceCtorEq, Nat.reduceAdd, Nat.reduceLeDiff, Int.reduceLT, Int.reduceLE, ↓u_setN]
    · intro c hc
      simp at hc
      rcases hc with rfl | rfl | rfl | rfl | rfl | rfl | rfl | rfl | rfl <;> rfl
  refine ⟨fun g1 => ⟨by simp only [Option.getD_some]; omega, ?_⟩, fun g1 => ?_⟩
  · refine key _ _ _ _ _ ?_ ?_ (by rw [Store.set_ne _ _ hj1, Store.set_same]) (sub_upd' (sub_set2 hi hj hj1) hi)
    · rfl
    · rw [Store.set_same]; rfl
  · have : a.path.take 18 = a.path := List.take_of_length_le (by omega)
    refine key _ _ _ _ _ ?_ ?_ (Store.set_same _ _ _) (sub_set2 hi hj hj1)
    · rfl
    · rw [Store.set_ne _ _ hj2, Store.set_same, this]; rfl

/-- What the law is asked. -/
structure Ask where
  kind : Int
  id : Int
  a : At
  few : Bool
def Ask.c (x : Ask) : List AV := [.int .i64 x.kind, .int .i64 x.id] ++ (x.a.c ++ [.bool x.few])
def fewA (a : At) : At := { zeroAt with org := Int.tmod a.org 3, nxt := Int.tmod a.nxt 3, cms := a.cms.take 34 }
def attrsA (x : Ask) : At := if x.few then fewA x.a else shortA x.a
theorem c21 (x : Ask) : Pur Try.prog 21 [.agg x.c] (.agg (attrsA x).c) := by
  intro σ
  refine calls_of Tst.F21 (by simp [Tst.F21, Fn.mkX]) ?_
  simp only [Tst.F21, Fn.mkX, Tst.b21]
  simp only [Ask.c, At.c, ↓vcPre, ↓wit_get, ↓reduceIte, vcPost, vcStd, Nat.reduceEqDiff, reduceCtorEq, Nat.reduceAdd, Nat.reduceLeDiff, Int.reduceLT, Int.reduceLE, ↓u_setN]
  refine AllocQ.i0 fun i hi => ?_
  simp only [At.c, ↓vcPre, ↓wit_get, ↓reduceIte, vcPost, vcStd, Nat.reduceEqDiff, reduceCtorEq, Nat.reduceAdd, Nat.reduceLeDiff, Int.reduceLT, Int.reduceLE, ↓u_setN]
  refine AllocQ.i1 fun j hj1 hj2 hj => ?_
  simp only [hj1, hj2, ↓vcPre, ↓wit_get, ↓reduceIte, vcPost, vcStd, Nat.reduceEqDiff, reduceCtorEq, Nat.reduceAdd, Nat.reduceLeDiff, Int.reduceLT, Int.reduceLE, ↓u_setN]
  have e12 : ∀ y : At, [AV.int IntKind.i64 y.org, AV.sl 2 (List.map Seg.c y.path), AV.int IntKind.u32 y.nxt, AV.bool y.hm, AV.int IntKind.u32 y.med, AV.bool y.hp, AV.int IntKind.u32 y.prf, AV.bool y.atm, AV.sl 1 (List.map cU y.cms)] = y.c := fun _ => rfl
  cases hf : x.few with
  | false =>
    simp only [↓vcPre, ↓wit_get, ↓reduceIte, vcPost, vcStd, Nat.reduceEqDiff, reduceCtorEq, Nat.reduceAdd, Nat.reduceLeDiff, Int.reduceLT, Int.reduceLE, ↓u_setN]
    simp only [e12]
    refine (c40 _).Q ?_
    simp only [hj1, hj2, ↓vcPre, ↓wit_get, ↓reduceIte, vcPost, vcStd, Nat.reduceEqDiff, reduceCtorEq, Nat.reduceAdd, Nat.reduceLeDiff, Int.reduceLT, Int.reduceLE, ↓u_setN]
    refine ⟨rfl, ?_⟩
    have p9 : ∀ z : List AV, z.length = 9 → splice 0 (shortA x.a).c z = some (shortA x.a).c := fun z hz => splice_all _ _ (by rw [hz]; rfl)
    rw [p9 _ rfl, wit_some, Store.set_set]
    refine EndQ.to σ (.agg (shortA x.a).c) ?_ (sub_set2 hi hj hj1) ⟨rfl, by simp [attrsA, hf]⟩
    show Env.res [(2, AV.ptr j 0)] _ [RS.c 2 9 true] = _
    have e9 : ∀ x : At, x.c.length = 9 := fun _ => rfl
    have t9 : ∀ x : At, List.take 9 x.c = x.c := fun _ => rfl
    simp only [e9, t9, Nat.le_refl, ↓vcPre, ↓wit_get, ↓reduceIte, vcPost, vcStd, Nat.reduceEqDiff, reduceCtorEq, Nat.reduceAdd, Nat.reduceLeDiff, Int.reduceLT, Int.reduceLE, ↓u_setN]
  | true =>
    simp only [↓vcPre, ↓wit_get, ↓reduceIte, vcPost, vcStd, Nat.reduceEqDiff, reduceCtorEq, Nat.reduceAdd, Nat.reduceLeDiff, Int.reduceLT, Int.reduceLE, ↓u_setN]
    simp only [e12]
    refine ⟨by omega, by omega, (c40 _).Q ?_⟩
    simp only [hj1, hj2, At.c, ↓vcPre, ↓wit_get, ↓reduceIte, vcPost, vcStd, Nat.reduceEqDiff, reduceCtorEq, Nat.reduceAdd, Nat.reduceLeDiff, Int.reduceLT, Int.reduceLE, ↓u_setN]
    rw [Store.set_set]
    have hw : ∀ Y : Obj, Y = .box [.int .i64 (Int.tmod x.a.org 3), .nils, .int .u32 (Int.tmod x.a.nxt 3), .bool false, .int .u32 0, .bool false, .int .u32 0, .bool false, .sl 1 ((x.a.cms.take 34).map cU)] → ∀ X : Obj, @EndQ [(2, AV.ptr j 0)] ((σ.set i X).set j Y) ⟨Tst.F21.slots, fun r s => s = σ ∧ r = .agg (attrsA x).c⟩ := by
      rintro Y rfl X
      unfold EndQ
      refine ⟨.agg [.int .i64 (Int.tmod x.a.org 3), .nils, .int .u32 (Int.tmod x.a.nxt 3), .bool false, .int .u32 0, .bool false, .int .u32 0, .bool false, .sl 1 ((x.a.cms.take 34).map cU)], ?_, Weak.agg (WeakL.nil 1 2 rfl (WeakL.forget (sub_set2 hi hj hj1) (WeakL.pure ⟨?_, rfl, by rw [attrsA, hf]; rfl⟩)))⟩
      · show Env.res [(2, AV.ptr j 0)] _ [RS.c 2 9 true] = _
        simp only [↓vcPre, ↓wit_get, ↓reduceIte, vcPost, vcStd, Nat.reduceEqDiff, reduceCtorEq, Nat.reduceAdd, Nat.reduceLeDiff, Int.reduceLT, Int.reduceLE, ↓u_setN]
      · intro c hc
        simp at hc
        rcases hc with rfl | rfl | rfl | rfl | rfl | rfl | rfl | rfl | rfl <;> rfl
    exact hw _ rfl _
end Go.Am

/- S92C -/
namespace Go.Am.Tse
open Go.Proofs
/-- signpost/signpostlaw11.InternApart -/
def t6_11 : BC := .seq (.seq (.ops [⟨some 11, none, .pure (.mov), [.c (.int .i64 0)]⟩] [1, 5, 11]) (.block 2 (.loop [1, 5, 11] (.seq (.seq (.ops [⟨some 58, none, .pure (.mov), [.t 11]⟩, ⟨some 59, none, .pure (.mov), [.t 1]⟩, ⟨some 60, none, .pure (.len), [.t 59]⟩, ⟨some 61, none, .pure (.bin .lss), [.t 58, .t 60]⟩, ⟨some 62, none, .pure (.mov), [.t 61]⟩, ⟨some 63, some (62, true), .pure (.mov), [.t 11]⟩, ⟨some 64, some (62, true), .pure (.bin .lss), [.t 63, .c (.int .i64 20)]⟩, ⟨some 65, none, .pick, [.t 62, .t 64, .c (.bool false)]⟩] [1, 5, 11, 65]) (.cond (.t 65) (.skip) (.exit 2))) (.seq (.block 3 (.seq (.ops [⟨some 68, none, .pure (.mov), [.t 1]⟩, ⟨some 69, none, .pure (.mov), [.t 11]⟩, ⟨some 70, none, .pure (.idx 1), [.t 68, .t 69]⟩, ⟨some 71, none, .load (.ld 1 false), [.t 70]⟩, ⟨some 72, none, .loud (.call 14), [.t 71, .c (.int .i64 0), .c (.int .i64 63)]⟩, ⟨some 12, none, .pure (.mov), [.t 72]⟩] [1, 5, 11, 12]) (.seq (.ops [⟨some 13, none, .pure (.mov), [.c .nils]⟩] [1, 5, 11, 12, 13]) (.seq (.ops [⟨some 14, none, .pure (.mov), [.c .nils]⟩] [1, 5, 11, 12, 13, 14]) (.seq (.seq (.ops [⟨some 15, none, .pure (.mov), [.c (.int .i64 0)]⟩] [1, 5, 11, 12, 13, 14, 15]) (.block 4 (.loop [1, 5, 11, 12, 13, 14, 15] (.seq (.seq (.ops [⟨some 73, none, .pure (.mov), [.t 15]⟩, ⟨some 74, none, .pure (.bin .lss), [.t 73, .c (.int .i64 64)]⟩] [1, 5, 11, 12, 13, 14, 15, 74]) (.cond (.t 74) (.skip) (.exit 4))) (.seq (.block 5 (.seq (.ops [⟨some 78, none, .pure (.mov), [.t 5]⟩, ⟨some 79, none, .pure (.mov), [.t 15]⟩, ⟨some 80, none, .loud (.call 23), [.t 78, .t 79]⟩, ⟨some 77, none, .pure (.mov), [.t 80]⟩, ⟨some 81, none, .pure (.ext 0), [.t 77]⟩, ⟨some 82, none, .pure (.ext 1), [.t 77]⟩, ⟨some 16, none, .alloc (.alloc [(.int .i64 0), .nils, (.int .u32 0), (.bool false), (.int .u32 0), (.bool false), (.int .u32 0), (.bool false), .nils]), []⟩, ⟨none, none, .loud (.st 9), [.t 16, .t 81]⟩, ⟨some 17, none, .pure (.mov), [.t 82]⟩] [1, 5, 11, 12, 13, 14, 15, 16]) (.seq (.ops [⟨some 83, none, .pure (.mov), [.t 13]⟩, ⟨some 84, none, .load (.ld 9 true), [.t 16]⟩, ⟨some 85, none, .alloc (.mksl 9 1), [.t 84]⟩, ⟨some 86, none, .loud (.app 9 80), [.t 83, .t 85]⟩, ⟨some 13, none, .pure (.mov), [.t 86]⟩] [1, 5, 11, 12, 13, 14, 15]) (.ops [⟨some 87, none, .pure (.mov), [.t 14]⟩, ⟨some 88, none, .pure (.mov), [.t 5]⟩, ⟨some 89, none, .pure (.mov), [.t 15]⟩, ⟨some 90, none, .loud (.call 26), [.t 88, .t 89]⟩, ⟨some 91, none, .alloc (.mksl 1 1), [.t 90]⟩, ⟨some 92, none, .loud (.app 1 8), [.t 87, .t 91]⟩, ⟨some 14, none, .pure (.mov), [.t 92]⟩] [1, 5, 11, 12, 13, 14, 15])))) (.ops [⟨some 75, none, .pure (.mov), [.t 15]⟩, ⟨some 76, none, .pure (.bin .add), [.t 75, .c (.int .i64 1)]⟩, ⟨some 15, none, .pure (.mov), [.t 76]⟩] [1, 5, 11, 12, 13, 14, 15])))))) (.seq (.ops [⟨some 93, none, .pure (.mov), [.t 5]⟩, ⟨some 94, none, .loud (.call 28), [.t 93]⟩, ⟨some 18, none, .pure (.mov), [.t 94]⟩] [1, 5, 11, 12, 13, 14, 18]) (.seq (.ops [⟨some 95, none, .pure (.mov), [.t 5]⟩, ⟨some 96, none, .pure (.mov), [.t 12]⟩, ⟨some 97, none, .loud (.call 27), [.t 95, .t 96]⟩, ⟨some 19, none, .pure (.mov), [.t 97]⟩] [1, 5, 11, 12, 13, 14, 18, 19]) (.seq (.seq (.ops [⟨some 98, none, .pure (.mov), [.t 19]⟩, ⟨some 99, none, .pure (.bin .eql), [.t 98, .c (.int .i64 0)]⟩, ⟨some 100, none, .pure (.mov), [.t 14]⟩, ⟨some 101, none, .pure (.mov), [.t 12]⟩, ⟨some 102, none, .pure (.idx 1), [.t 100, .t 101]⟩, ⟨some 103, none, .load (.ld 1 false), [.t 102]⟩, ⟨some 104, none, .pure (.bin .gtr), [.t 103, .c (.int .i64 0)]⟩, ⟨some 105, none, .pure (.eqb true), [.t 99, .t 104]⟩, ⟨some 106, none, .pure (.mov), [.t 105]⟩, ⟨some 107, some (106, false), .pure (.mov), [.t 19]⟩, ⟨some 108, some (106, false), .pure (.bin .neq), [.t 107, .c (.int .i64 0)]⟩, ⟨some 109, some (106, false), .pure (.mov), [.t 108]⟩, ⟨some 110, some (109, true), .pure (.mov), [.t 19]⟩, ⟨some 111, some (109, true), .pure (.bin .neq), [.t 110, .c (.int .i64 22)]⟩, ⟨some 112, some (106, false), .pick, [.t 109, .t 111, .c (.bool false)]⟩, ⟨some 113, none, .pick, [.t 106, .c (.bool true), .t 112]⟩] [1, 5, 11, 12, 13, 14, 18, 19, 113]) (.cond (.t 113) (.seq (.ops [⟨some 4, none, .pure (.mov), [.c (.bool false)]⟩] [4]) (.ret)) (.skip))) (.seq (.seq (.ops [⟨some 20, none, .pure (.mov), [.c (.int .i64 0)]⟩] [1, 5, 11, 12, 13, 14, 18, 19, 20]) (.block 6 (.loop [1, 5, 11, 12, 13, 14, 18, 19, 20] (.seq (.seq (.ops [⟨some 114, none, .pure (.mov), [.t 20]⟩, ⟨some 115, none, .pure (.bin .lss), [.t 114, .c (.int .i64 64)]⟩] [1, 5, 11, 12, 13, 14, 18, 19, 20, 115]) (.cond (.t 115) (.skip) (.exit 6))) (.seq (.block 7 (.seq (.ops [⟨some 118, none, .pure (.mov), [.t 14]⟩, ⟨some 119, none, .pure (.mov), [.t 20]⟩, ⟨some 120, none, .pure (.idx 1), [.t 118, .t 119]⟩, ⟨some 121, none, .load (.ld 1 false), [.t 120]⟩, ⟨some 21, none, .pure (.mov), [.t 121]⟩] [1, 5, 11, 12, 13, 14, 18, 19, 20, 21]) (.seq (.seq (.ops [⟨some 122, none, .pure (.mov), [.t 20]⟩, ⟨some 123, none, .pure (.mov), [.t 12]⟩, ⟨some 124, none, .pure (.bin .eql), [.t 122, .t 123]⟩, ⟨some 125, none, .pure (.mov), [.t 124]⟩, ⟨some 126, some (125, true), .pure (.mov), [.t 19]⟩, ⟨some 127, some (125, true), .pure (.bin .eql), [.t 126, .c (.int .i64 0)]⟩, ⟨some 128, none, .pick, [.t 125, .t 127, .c (.bool false)]⟩] [1, 5, 11, 12, 13, 14, 18, 19, 20, 21, 128]) (.cond (.t 128) (.ops [⟨some 129, none, .pure (.mov), [.t 21]⟩, ⟨some 130, none, .pure (.bin .sub), [.t 129, .c (.int .i64 1)]⟩, ⟨some 21, none, .pure (.mov), [.t 130]⟩] [1, 5, 11, 12, 13, 14, 18, 19, 20, 21]) (.skip))) (.seq (.ops [⟨some 132, none, .pure (.mov), [.t 5]⟩, ⟨some 133, none, .pure (.mov), [.t 20]⟩, ⟨some 134, none, .loud (.call 23), [.t 132, .t 133]⟩, ⟨some 131, none, .pure (.mov), [.t 134]⟩, ⟨some 135, none, .pure (.ext 0), [.t 131]⟩, ⟨some 136, none, .pure (.ext 1), [.t 131]⟩, ⟨some 22, none, .alloc (.alloc [(.int .i64 0), .nils, (.int .u32 0), (.bool false), (.int .u32 0), (.bool false), (.int .u32 0), (.bool false), .nils]), []⟩, ⟨none, none, .loud (.st 9), [.t 22, .t 135]⟩, ⟨some 23, none, .pure (.mov), [.t 136]⟩] [1, 5, 11, 12, 13, 14, 18, 19, 20, 21, 22, 23]) (.seq (.ops [⟨some 137, none, .pure (.mov), [.t 5]⟩, ⟨some 138, none, .pure (.mov), [.t 20]⟩, ⟨some 140, none, .pure (.mov), [.t 21]⟩, ⟨some 139, none, .loud (.call 26), [.t 137, .t 138]⟩, ⟨some 141, none, .pure (.bin .neq), [.t 139, .t 140]⟩, ⟨some 142, none, .pure (.mov), [.t 141]⟩, ⟨some 143, some (142, false), .pure (.mov), [.t 23]⟩, ⟨some 144, some (142, false), .pure (.mov), [.t 21]⟩, ⟨some 145, some (142, false), .pure (.bin .gtr), [.t 144, .c (.int .i64 0)]⟩, ⟨some 146, some (142, false), .pure (.eqb true), [.t 143, .t 145]⟩, ⟨some 147, none, .pick, [.t 142, .c (.bool true), .t 146]⟩, ⟨some 148, none, .pure (.mov), [.t 147]⟩, ⟨some 149, some (148, false), .pure (.mov), [.t 23]⟩, ⟨some 150, some (148, false), .pure (.mov), [.t 149]⟩, ⟨some 152, some (150, true), .pure (.mov), [.t 13]⟩, ⟨some 153, some (150, true), .pure (.mov), [.t 20]⟩, ⟨some 154, some (150, true), .pure (.idx 9), [.t 152, .t 153]⟩, ⟨some 151, some (150, true), .load (.ld 9 true), [.t 22]⟩, ⟨some 155, some (150, true), .load (.ld 9 true), [.t 154]⟩, ⟨some 156, some (150, true), .loud (.call 25), [.t 151, .t 155]⟩, ⟨some 157, some (150, true), .pure (.not), [.t 156]⟩, ⟨some 158, some (148, false), .pick, [.t 150, .t 157, .c (.bool false)]⟩, ⟨some 159, none, .pick, [.t 148, .c (.bool true), .t 158]⟩] [1, 5, 11, 12, 13, 14, 18, 19, 20, 159]) (.cond (.t 159) (.seq (.ops [⟨some 4, none, .pure (.mov), [.c (.bool false)]⟩] [4]) (.ret)) (.skip))))))) (.ops [⟨some 116, none, .pure (.mov), [.t 20]⟩, ⟨some 117, none, .pure (.bin .add), [.t 116, .c (.int .i64 1)]⟩, ⟨some 20, none, .pure (.mov), [.t 117]⟩] [1, 5, 11, 12, 13, 14, 18, 19, 20])))))) (.seq (.seq (.ops [⟨some 160, none, .pure (.mov), [.t 19]⟩, ⟨some 161, none, .pure (.bin .eql), [.t 160, .c (.int .i64 0)]⟩, ⟨some 162, none, .pure (.mov), [.t 161]⟩, ⟨some 163, some (162, true), .pure (.mov), [.t 14]⟩, ⟨some 164, some (162, true), .pure (.mov), [.t 12]⟩, ⟨some 165, some (162, true), .pure (.idx 1), [.t 163, .t 164]⟩, ⟨some 166, some (162, true), .load (.ld 1 false), [.t 165]⟩, ⟨some 167, some (162, true), .pure (.bin .eql), [.t 166, .c (.int .i64 1)]⟩, ⟨some 168, none, .pick, [.t 162, .t 167, .c (.bool false)]⟩] [1, 5, 11, 18, 168]) (.cond (.t 168) (.ops [⟨some 169, none, .pure (.mov), [.t 18]⟩, ⟨some 170, none, .pure (.bin .sub), [.t 169, .c (.int .i64 1)]⟩, ⟨some 18, none, .pure (.mov), [.t 170]⟩] [1, 5, 11, 18]) (.skip))) (.seq (.ops [⟨some 171, none, .pure (.mov), [.t 5]⟩, ⟨some 172, none, .loud (.call 28), [.t 171]⟩, ⟨some 173, none, .pure (.mov), [.t 18]⟩, ⟨some 174, none, .pure (.bin .neq), [.t 172, .t 173]⟩] [1, 5, 11, 174]) (.cond (.t 174) (.seq (.ops [⟨some 4, none, .pure (.mov), [.c (.bool false)]⟩] [4]) (.ret)) (.skip))))))))))))) (.ops [⟨some 66, none, .pure (.mov), [.t 11]⟩, ⟨some 67, none, .pure (.bin .add), [.t 66, .c (.int .i64 1)]⟩, ⟨some 11, none, .pure (.mov), [.t 67]⟩] [1, 5, 11])))))) (.seq (.ops [⟨some 175, none, .loud (.call 19), []⟩, ⟨some 4, none, .pure (.mov), [.t 175]⟩] [4]) (.ret))
def b6 : BC := .seq (.ops [⟨some 4, none, .pure (.mov), [.c (.bool false)]⟩] [0, 1]) (.seq (.ops [⟨some 25, none, .loud (.call 15), [.c (.int .i64 64)]⟩, ⟨some 24, none, .pure (.mov), [.t 25]⟩, ⟨some 26, none, .pure (.ext 0), [.t 24]⟩, ⟨some 27, none, .pure (.ext 1), [.t 24]⟩, ⟨some 5, none, .pure (.mov), [.t 26]⟩, ⟨some 6, none, .pure (.mov), [.t 27]⟩] [0, 1, 5, 6]) (.seq (.seq (.ops [⟨some 28, none, .pure (.mov), [.t 5]⟩, ⟨some 29, none, .pure (.eqnil false true), [.t 28]⟩, ⟨some 30, none, .pure (.mov), [.t 29]⟩, ⟨some 31, some (30, false), .pure (.mov), [.t 6]⟩, ⟨some 32, some (30, false), .pure (.bin .neq), [.t 31, .c (.int .i64 0)]⟩, ⟨some 33, none, .pick, [.t 30, .c (.bool true), .t 32]⟩] [0, 1, 5, 33]) (.cond (.t 33) (.seq (.ops [⟨some 4, none, .pure (.mov), [.c (.bool false)]⟩] [4]) (.ret)) (.skip))) (.seq (.seq (.ops [⟨some 7, none, .pure (.mov), [.c (.int .i64 0)]⟩] [0, 1, 5, 7]) (.block 0 (.loop [0, 1, 5, 7] (.seq (.seq (.ops [⟨some 34, none, .pure (.mov), [.t 7]⟩, ⟨some 35, none, .pure (.mov), [.t 0]⟩, ⟨some 36, none, .pure (.len), [.t 35]⟩, ⟨some 37, none, .pure (.bin .lss), [.t 34, .t 36]⟩, ⟨some 38, none, .pure (.mov), [.t 37]⟩, ⟨some 39, some (38, true), .pure (.mov), [.t 7]⟩, ⟨some 40, some (38, true), .pure (.bin .lss), [.t 39, .c (.int .i64 30)]⟩, ⟨some 41, none, .pick, [.t 38, .t 40, .c (.bool false)]⟩] [0, 1, 5, 7, 41]) (.cond (.t 41) (.skip) (.exit 0))) (.seq (.block 1 (.seq (.ops [⟨some 44, none, .pure (.mov), [.t 0]⟩, ⟨some 45, none, .pure (.mov), [.t 7]⟩, ⟨some 46, none, .pure (.idx 12), [.t 44, .t 45]⟩, ⟨some 47, none, .load (.ld 12 true), [.t 46]⟩, ⟨some 8, none, .alloc (.alloc [(.int .i64 0), (.int .i64 0), (.int .i64 0), .nils, (.int .u32 0), (.bool false), (.int .u32 0), (.bool false), (.int .u32 0), (.bool false), .nils, (.bool false)]), []⟩, ⟨none, none, .loud (.st 12), [.t 8, .t 47]⟩] [0, 1, 5, 7, 8]) (.seq (.ops [⟨some 48, none, .pure (.fld 11), [.t 8]⟩, ⟨none, none, .loud (.st 1), [.t 48, .c (.bool true)]⟩] [0, 1, 5, 7, 8]) (.seq (.ops [⟨some 50, none, .pure (.mov), [.t 5]⟩, ⟨some 51, none, .load (.ld 12 true), [.t 8]⟩, ⟨some 52, none, .loud (.call 21), [.t 51]⟩, ⟨some 53, none, .loud (.call 22), [.t 50, .t 52]⟩, ⟨some 49, none, .pure (.mov), [.t 53]⟩, ⟨some 54, none, .pure (.ext 0), [.t 49]⟩, ⟨some 55, none, .pure (.ext 1), [.t 49]⟩, ⟨some 9, none, .pure (.mov), [.t 54]⟩, ⟨some 10, none, .pure (.mov), [.t 55]⟩] [0, 1, 5, 7, 10]) (.seq (.ops [⟨some 56, none, .pure (.mov), [.t 10]⟩, ⟨some 57, none, .pure (.bin .neq), [.t 56, .c (.int .i64 0)]⟩] [0, 1, 5, 7, 57]) (.cond (.t 57) (.seq (.ops [⟨some 4, none, .pure (.mov), [.c (.bool false)]⟩] [4]) (.ret)) (.skip))))))) (.ops [⟨some 42, none, .pure (.mov), [.t 7]⟩, ⟨some 43, none, .pure (.bin .add), [.t 42, .c (.int .i64 1)]⟩, ⟨some 7, none, .pure (.mov), [.t 43]⟩] [0, 1, 5, 7])))))) t6_11)))
def F6 : Fn Try.prog 6 := Fn.mkX false b6 [.t 4] 176 Try.f6 _ Try.func6 (by decide) rfl Try.ntmps6 (by kernel_rfl) (by kernel_rfl)
end Go.Am.Tse

/- C0 -/
namespace Go.Am
open Go.Proofs Go.Sort

theorem canonC_few {l : List Int} (h : l.length ≤ 1000000) : (canonC l).length ≤ 1000000 := Nat.le_trans (canonC_len l) h
theorem fewA_ok (a : At) : (fewA a).ok := ⟨by simp [fewA, zeroAt], by simp [fewA, zeroAt], by simp [fewA]; omega⟩
def fewK (x : Ask) : Ask := { x with few := true }
theorem attrs_few (x : Ask) : attrsA (fewK x) = fewA x.a := by simp [attrsA, fewK]

/-- Two lists that are collected at once: one more for the first. -/
theorem Own.app2 {e1 e2 bytes : Nat} {τ s : Store} {L1 L2 : List (List AV)} {v1 v2 wv : AV} {w : List AV} {K : AV → Store → Prop} (he : e1 ≠ e2) (hsub : Store.sub τ s) (h1 : Own e1 τ L1 v1 s) (h2 : Own e2 τ L2 v2 s) (hwv : slc s e1 wv = some [w]) (hsz : (L1.length + 1) * bytes ≤ 140737488355328)
    (h : ∀ v' s', Store.sub τ s' → Own e1 τ (L1 ++ [w]) v' s' → Own e2 τ L2 v2 s' → K v' s') : appwp e1 bytes v1 wv s K := by
  rcases h1 with ⟨hL, hv⟩ | ⟨g, hv, hg, hh⟩
  · refine Own.app (τ := s) (L := L1) (Store.sub_refl _) (.inl ⟨hL, hv⟩) hwv hsz fun v' s' hs ho => ?_
    exact h v' s' (Store.sub_trans hsub hs) (ho.weak hsub) (h2.mono hs)
  · have hτ0 : Store.sub τ (s.del g) := sub_del hsub hg
    refine Own.app (τ := s.del g) (L := L1) (fun j o hj => ?_) (.inr ⟨g, hv, by simp, hh⟩) hwv hsz fun v' s' hs ho => ?_
    · by_cases hjg : j = g
      · subst hjg; simp at hj
      · rw [Store.del_ne _ hjg] at hj; exact hj
    · refine h v' s' (Store.sub_trans hτ0 hs) (ho.weak hτ0) ?_
      rcases h2 with h2 | ⟨g2, hv2, hg2, hh2⟩
      · exact .inl h2
      · have hne : g2 ≠ g := fun e => by
          rw [e, hh] at hh2
          have := Option.some.inj hh2
          injection this with h3
          exact he h3
        exact .inr ⟨g2, hv2, hg2, hs _ _ (by rw [Store.del_ne _ hne]; exact hh2)⟩
theorem uses_drop {B : Int} {ks : List KS} (hok : ∀ k ∈ ks, k.ok B) (k j : Int) (hj : 0 ≤ j) : usesAt (dropK ks k) j = usesAt ks j - (if j = k ∧ 0 < usesAt ks k then 1 else 0) := by
  unfold dropK
  by_cases k0 : 0 ≤ k
  · rw [if_pos k0]
    by_cases hkl : k.toNat < ks.length
    · have hk := hok _ (List.getElem_mem hkl)
      rw [List.getElem?_eq_getElem hkl]
      cases hc : ks[k.toNat] with
      | free z =>
        have h0 : usesAt ks k = 0 := by rw [usesAt_of k0 hkl, hc]; rfl
        rw [if_neg (by omega)]; simp only; omega
      | used a u =>
        rw [hc] at hk
        have h0 : usesAt ks k = u := by rw [usesAt_of k0 hkl, hc]; rfl
        simp only
        have hu := hk.2.1
        by_cases hjk : j = k
        · subst hjk
          rw [h0, show (if j = j ∧ 0 < u then (1 : Int) else 0) = 1 from if_pos ⟨rfl, by omega⟩, usesAt_of hj (by simpa using hkl), List.getElem_set_self]
          split
          · rename_i h1; subst h1; rfl
          · rfl
        · rw [show (if j = k ∧ 0 < usesAt ks k then (1 : Int) else 0) = 0 from if_neg (fun h => hjk h.1)]
          unfold usesAt
          rw [if_pos hj, if_pos hj, List.getElem?_set_ne (by omega), Int.sub_zero]
    · have h0 : usesAt ks k = 0 := usesAt_out (by omega)
      rw [List.getElem?_eq_none (by omega), if_neg (by omega)]; simp
  · have h0 : usesAt ks k = 0 := usesAt_out (by omega)
    rw [if_neg k0, if_neg (by omega)]; simp
theorem get_drop {B : Int} {ks : List KS} (hok : ∀ k ∈ ks, k.ok B) (k j : Int) (hj : 0 ≤ j) (h : 0 < usesAt (dropK ks k) j) : getA (dropK ks k) j = getA ks j := by
  revert h
  unfold dropK
  by_cases k0 : 0 ≤ k
  · rw [if_pos k0]
    by_cases hkl : k.toNat < ks.length
    · rw [List.getElem?_eq_getElem hkl]
      cases hc : ks[k.toNat] with
      | free z => intro _; rfl
      | used a u =>
        simp only
        intro h
        by_cases hjk : j = k
        · subst hjk
          unfold getA
          rw [if_pos hj, if_pos hj, List.getElem?_eq_getElem (by simpa using hkl), List.getElem?_eq_getElem hkl, List.getElem_set_self, hc]
          rw [usesAt_of hj (by simpa using hkl), List.getElem_set_self] at h
          split
          · rename_i heq
            split at heq
            · rename_i h1; subst h1; simp [KS.n] at h
            · cases heq; rfl
          · rename_i hno
            exfalso
            by_cases h1 : u = 1
            · subst h1; simp [KS.n] at h
            · exact hno a (u - 1) (by rw [if_neg h1])
        · unfold getA
          rw [if_pos hj, if_pos hj, List.getElem?_set_ne (by omega)]
    · rw [List.getElem?_eq_none (by omega)]; intro _; rfl
  · rw [if_neg k0]; intro _; rfl
theorem len_drop {B : Int} {ks : List KS} (hok : ∀ k ∈ ks, k.ok B) (k : Int) : (((dropK ks k).filter fun k => decide (k.n ≠ 0)).length : Int) = ((ks.filter fun k => decide (k.n ≠ 0)).length : Int) - (if usesAt ks k = 1 then 1 else 0) := by
  unfold dropK
  by_cases k0 : 0 ≤ k
  · rw [if_pos k0]
    by_cases hkl : k.toNat < ks.length
    · have hk := hok _ (List.getElem_mem hkl)
      rw [List.getElem?_eq_getElem hkl]
      cases hc : ks[k.toNat] with
      | free z =>
        have h0 : usesAt ks k = 0 := by rw [usesAt_of k0 hkl, hc]; rfl
        rw [if_neg (by omega)]; simp
      | used a u =>
        rw [hc] at hk
        have hu := hk.2.1
        have h0 : usesAt ks k = u := by rw [usesAt_of k0 hkl, hc]; rfl
        have e0 : (ks.filter fun k => decide (k.n ≠ 0)) = ((ks.take k.toNat ++ ks[k.toNat] :: ks.drop (k.toNat + 1)).filter fun k => decide (k.n ≠ 0)) := by
          rw [List.getElem_cons_drop, List.take_append_drop]
        have hn : ¬ u = 0 := by omega
        rw [h0, e0, hc]
        simp only
        rw [List.set_eq_take_append_cons_drop, if_pos hkl]
        by_cases h1 : u = 1
        · subst h1
          simp [List.filter_append, List.filter_cons, KS.n]; omega
        · have hn1 : ¬ u - 1 = 0 := by omega
          simp [List.filter_append, List.filter_cons, KS.n, h1, hn, hn1]
    · have h0 : usesAt ks k = 0 := usesAt_out (by omega)
      rw [List.getElem?_eq_none (by omega), if_neg (by omega)]; simp
  · have h0 : usesAt ks k = 0 := usesAt_out (by omega)
    rw [if_neg k0, if_neg (by omega)]; simp
theorem bne_tt : (true != true) = false := rfl
theorem bne_ff : (false != false) = false := rfl
/-- All else that lies there, below a table. -/
theorem TI.rebase {B : Int} {τ s : Store} {id : Nat} {room : Int} {ks : List KS} (h : TI B τ id room ks s) : ∃ τ', Store.sub τ τ' ∧ Store.sub τ' s ∧ TI B τ' id room ks s ∧ ∀ j o, s j = some o → j ≠ id → (∀ L, o ≠ .arr 10 L) → τ' j = some o := by
  obtain ⟨h1, h2, h3, h4, v, h5, h6⟩ := h
  rcases h6 with ⟨hk, hv⟩ | ⟨g, hv, hg, hs⟩
  · refine ⟨s.del id, sub_del h2 h1, fun j o hj => ?_, ⟨by simp, fun j o hj => ?_, h3, h4, v, h5, .inl ⟨hk, hv⟩⟩, fun j o hj hne _ => by rw [Store.del_ne _ hne]; exact hj⟩
    all_goals
      by_cases hji : j = id
      · subst hji; simp at hj
      · rw [Store.del_ne _ hji] at hj; exact hj
  · have hgi : ¬ g = id := fun e => by rw [e, h5] at hs; cases hs
    have hsub : Store.sub ((s.del id).del g) s := fun j o hj => by
      by_cases hjg : j = g
      · subst hjg; simp at hj
      · rw [Store.del_ne _ hjg] at hj
        by_cases hji : j = id
        · subst hji; simp at hj
        · rw [Store.del_ne _ hji] at hj; exact hj
    refine ⟨(s.del id).del g, sub_del (sub_del h2 h1) hg, hsub, ⟨by rw [Store.del_ne _ (fun e => hgi e.symm)]; simp, hsub, h3, h4, v, h5, .inr ⟨g, hv, by simp, hs⟩⟩, fun j o hj hne hL => ?_⟩
    have hjg : j ≠ g := fun e => by subst e; rw [hs] at hj; cases hj; exact hL _ rfl
    rw [Store.del_ne _ hjg, Store.del_ne _ hne]; exact hj
theorem uses_le {B : Int} {ks : List KS} (hB : 0 ≤ B) (hok : ∀ k ∈ ks, k.ok B) (j : Int) : 0 ≤ usesAt ks j ∧ usesAt ks j ≤ B := by
  by_cases hin : 0 ≤ j ∧ j.toNat < ks.length
  · have hk := hok _ (List.getElem_mem hin.2)
    rw [usesAt_of hin.1 hin.2]
    refine ⟨KS.nn hk, ?_⟩
    cases hc : ks[j.toNat] with
    | free z => exact hB
    | used a u => rw [hc] at hk; exact hk.2.2
  · rw [usesAt_out hin]; exact ⟨Int.le_refl _, hB⟩
theorem zeroAt_ok : zeroAt.ok := ⟨by simp [zeroAt], by simp [zeroAt], by simp [zeroAt]⟩
theorem getA_ok {B : Int} {ks : List KS} (hok : ∀ k ∈ ks, k.ok B) (j : Int) : (getA ks j).ok := by
  unfold getA
  split
  · split
    · rename_i a u hh
      obtain ⟨hlt, hh⟩ := List.getElem?_eq_some_iff.1 hh
      have hk := hok _ (List.getElem_mem hlt)
      rw [hh] at hk
      exact canonA_ok hk.1
    · exact zeroAt_ok
  · exact zeroAt_ok
theorem bne_same (b : Bool) : (b != b) = false := by cases b <;> rfl
end Go.Am

/- C1 -/
namespace Go.Am
open Go.Proofs Go.Sort
theorem tail_apart (ks : List KS) (drops : List Int) (hd : Small drops) (hdo : ∀ d ∈ drops, I64 d) (E : Env) (E0 : AV) {B : Int} (hB0 : 0 ≤ B) (hB : B ≤ 1000) {σ s : Store} {id : Nat} (hT : TI B σ id 64 ks s) {n r : Env → Store → Prop} {x : Nat → Env → Store → Prop}
    (hr : ∀ s', Store.sub σ s' → r [(4, .bool true)] s') :
    bwp Try.prog Tse.t6_11 ((0, E0) :: (1, .sl 1 (drops.map cI)) :: (5, .ptr id 0) :: E) s n r x := by
  simp only [Tse.t6_11]
  simp only [↓vcPre, ↓wit_get, ↓reduceIte, vcPost, vcStd, Nat.reduceEqDiff, reduceCtorEq, Nat.reduceAdd, Nat.reduceLeDiff, Int.reduceLT, Int.reduceLE, ↓u_setN]
  refine LoopQ.inv (S := Nat × List KS × Store) (fun q => [(1, .sl 1 (drops.map cI)), (5, .ptr id 0), (11, .int .i64 (q.1 : Int))]) (fun q => q.2.2) (fun q => q.1 ≤ drops.length ∧ q.1 ≤ 20 ∧ TI B σ id 64 q.2.1 q.2.2) (fun q => 21 - q.1) (0, ks, s) rfl (Store.sub_refl _) ⟨by simp only; omega, by simp only; omega, hT⟩ ?_
  rintro ⟨i, ks, s⟩ ⟨hi, hi2, hTi⟩
  simp only at hi hi2 hTi
  unfold Small at hd
  simp only [↓vcPre, ↓wit_get, ↓reduceIte, vcPost, vcStd, Nat.reduceEqDiff, reduceCtorEq, Nat.reduceAdd, Nat.reduceLeDiff, Int.reduceLT, Int.reduceLE, ↓u_setN]
  refine ⟨fun c1 => ⟨fun c2 => ?_, fun c2 => ?_⟩, fun c1 => ?_⟩
  · refine ⟨c1, by simp [cI], ?_⟩
    simp only [cI, ↓vcPre, ↓wit_get, ↓reduceIte, vcPost, vcStd, Nat.reduceEqDiff, reduceCtorEq, Nat.reduceAdd, Nat.reduceLeDiff, Int.reduceLT, Int.reduceLE, ↓u_setN]
    refine (c14 _ 0 63 (hdo _ (List.getElem_mem c1)) (by omega) (by omega) (by omega)).Q ?_
    obtain ⟨k, hk, hk2⟩ : ∃ k : Nat, (0 : Int) + drops[i] % (63 - 0 + 1) = k ∧ k ≤ 63 := ⟨(drops[i] % 64).toNat, by omega, by omega⟩
    rw [hk]
    simp only [↓vcPre, ↓wit_get, ↓reduceIte, vcPost, vcStd, Nat.reduceEqDiff, reduceCtorEq, Nat.reduceAdd, Nat.reduceLeDiff, Int.reduceLT, Int.reduceLE, ↓u_setN]
    refine LoopQ.inv (S := Nat × AV × AV × Store) (fun q => [(1, .sl 1 (drops.map cI)), (5, .ptr id 0), (11, .int .i64 (i : Int)), (12, .int .i64 (k : Int)), (13, q.2.1), (14, q.2.2.1), (15, .int .i64 (q.1 : Int))]) (fun q => q.2.2.2)
      (fun q => q.1 ≤ 64 ∧ Store.sub s q.2.2.2 ∧ Own 9 s ((List.range q.1).map fun j : Nat => (getA ks (j : Int)).c) q.2.1 q.2.2.2 ∧ Own 1 s ((List.range q.1).map fun j : Nat => cI (usesAt ks (j : Int))) q.2.2.1 q.2.2.2) (fun q => 65 - q.1) (0, .nils, .nils, s) rfl (Store.sub_refl _) ⟨by simp only; omega, Store.sub_refl _, .nil, .nil⟩ ?_
    rintro ⟨j, vw, vu, s1⟩ ⟨hj, hs1, hw, hu⟩
    simp only at hj hs1 hw hu
    have hT1 : ∀ {s1 : Store}, Store.sub s s1 → TI B σ id 64 ks s1 := fun hs => by
      obtain ⟨h1, h2, h3, h4, v, h5, h6⟩ := hTi
      exact ⟨h1, Store.sub_trans h2 hs, h3, h4, v, hs _ _ h5, h6.mono hs⟩
    simp only [↓vcPre, ↓wit_get, ↓reduceIte, vcPost, vcStd, Nat.reduceEqDiff, reduceCtorEq, Nat.reduceAdd, Nat.reduceLeDiff, Int.reduceLT, Int.reduceLE, ↓u_setN]
    refine ⟨fun d1 => ?_, fun d1 => ?_⟩
    · refine (s23 (hT1 hs1) j).Q ?_
      rintro r1 s2 ⟨rfl, rfl⟩
      simp only [↓vcPre, ↓wit_get, ↓reduceIte, vcPost, vcStd, Nat.reduceEqDiff, reduceCtorEq, Nat.reduceAdd, Nat.reduceLeDiff, Int.reduceLT, Int.reduceLE, ↓u_setN]
      refine AllocQ.i0 fun b hb => ?_
      simp only [↓vcPre, ↓wit_get, ↓reduceIte, vcPost, vcStd, Nat.reduceEqDiff, reduceCtorEq, Nat.reduceAdd, Nat.reduceLeDiff, Int.reduceLT, Int.reduceLE, ↓u_setN]
      have e9 : ∀ y : At, y.c.length = 9 := fun _ => rfl
      have t9 : ∀ y : At, List.take 9 y.c = y.c := fun _ => rfl
      have p9 : ∀ z : List AV, z.length = 9 → splice 0 (getA ks j).c z = some (getA ks j).c := fun z hz => splice_all _ _ (by rw [hz]; rfl)
      refine ⟨rfl, ?_⟩
      rw [p9 _ rfl, wit_some, Store.set_set]
      refine ⟨by rw [e9]; exact Nat.le_refl _, rfl, ?_⟩
      rw [t9]
      have hsb0 := Store.sub_set s2 b (.box (getA ks j).c) hb
      generalize s2.set b (.box (getA ks j).c) = s2' at hsb0 ⊢
      refine AllocQ.i0 fun b' hb' => ?_
      simp only [↓vcPre, ↓wit_get, ↓reduceIte, vcPost, vcStd, Nat.reduceEqDiff, reduceCtorEq, Nat.reduceAdd, Nat.reduceLeDiff, Int.reduceLT, Int.reduceLE, ↓u_setN]
      have hsb := Store.sub_trans hsb0 (Store.sub_set s2' b' (.arr 9 [(getA ks j).c]) hb')
      refine Own.app2 (e1 := 9) (e2 := 1) (bytes := 80) (τ := s) (by decide) (Store.sub_trans hs1 hsb) (hw.mono hsb) (hu.mono hsb) (slc_os0 (Store.set_same _ _ _) rfl) (by simp; omega) fun vw' s3 hs3 hw3 hu3 => ?_
      refine (s26 (hT1 hs3) j).Q ?_
      rintro r1 s4 ⟨rfl, rfl⟩
      simp only [↓vcPre, ↓wit_get, ↓reduceIte, vcPost, vcStd, Nat.reduceEqDiff, reduceCtorEq, Nat.reduceAdd, Nat.reduceLeDiff, Int.reduceLT, Int.reduceLE, ↓u_setN]
      refine AllocQ.i0 fun b2 hb2 => ?_
      simp only [↓vcPre, ↓wit_get, ↓reduceIte, vcPost, vcStd, Nat.reduceEqDiff, reduceCtorEq, Nat.reduceAdd, Nat.reduceLeDiff, Int.reduceLT, Int.reduceLE, ↓u_setN]
      have hsb2 := Store.sub_set s4 b2 (.arr 1 [[.int .i64 (usesAt ks j)]]) hb2
      refine Own.app2 (e1 := 1) (e2 := 9) (bytes := 8) (τ := s) (by decide) (Store.sub_trans hs3 hsb2) (hu3.mono hsb2) (hw3.mono hsb2) (slc_os0 (Store.set_same _ _ _) rfl) (by simp; omega) fun vu' s5 hs5 hu5 hw5 => ?_
      have ej : IntKind.i64.wrap ((j : Int) + 1) = ((j + 1 : Nat) : Int) := by rw [wrap64 (by unfold I64; omega)]; omega
      rw [ej]
      refine NextQ.to (j + 1, vw', vu', s5) rfl (Store.sub_refl _) (by simp only; omega) ⟨by simp only; omega, hs5, ?_, ?_⟩
      · simp only [List.range_succ, List.map_append, List.map_cons, List.map_nil]; exact hw5
      · simp only [List.range_succ, List.map_append, List.map_cons, List.map_nil]; exact hu5
    · have hj64 : j = 64 := by omega
      subst hj64
      refine (s28 (hT1 hs1)).Q ?_
      rintro r1 s2 ⟨rfl, rfl⟩
      simp only [↓vcPre, ↓wit_get, ↓reduceIte, vcPost, vcStd, Nat.reduceEqDiff, reduceCtorEq, Nat.reduceAdd, Nat.reduceLeDiff, Int.reduceLT, Int.reduceLE, ↓u_setN]
      obtain ⟨τ1, q1, q2, q3, q4⟩ := (hT1 hs1).rebase
      obtain ⟨gw, rfl, hgw⟩ : ∃ g, vw = .os g 9 0 64 ∧ τ1 g = some (.arr 9 ((List.range 64).map fun j : Nat => (getA ks (j : Int)).c)) := by
        rcases hw with ⟨h, _⟩ | ⟨g, h1, h2, h3⟩
        · simp at h
        · have hid := (hT1 hs1).2.2.2.2
          obtain ⟨v, hv, _⟩ := hid
          exact ⟨g, by rw [h1]; simp, q4 g _ h3 (fun e => by rw [e, hv] at h3; cases h3) (fun L h => by cases h)⟩
      obtain ⟨gu, rfl, hgu⟩ : ∃ g, vu = .os g 1 0 64 ∧ τ1 g = some (.arr 1 ((List.range 64).map fun j : Nat => cI (usesAt ks (j : Int)))) := by
        rcases hu with ⟨h, _⟩ | ⟨g, h1, h2, h3⟩
        · simp at h
        · have hid := (hT1 hs1).2.2.2.2
          obtain ⟨v, hv, _⟩ := hid
          exact ⟨g, by rw [h1]; simp, q4 g _ h3 (fun e => by rw [e, hv] at h3; cases h3) (fun L h => by cases h)⟩
      refine (s27 (by omega) q3 k).Q ?_
      rintro r1 s3 ⟨rfl, hT3⟩
      have hgw3 := hT3.2.1 _ _ hgw
      have hTn : TI B σ id 64 (dropK ks k) s3 := by
        obtain ⟨h1, h2, h3, h4, v, h5, h6⟩ := hT3
        exact ⟨hTi.1, Store.sub_trans q1 h2, h3, h4, v, h5, h6.weak q1⟩
      have ei : IntKind.i64.wrap ((i : Int) + 1) = ((i + 1 : Nat) : Int) := by rw [wrap64 (by unfold I64; omega)]; omega
      have hgu3 := hT3.2.1 _ _ hgu
      have hg0 := fun (j : Nat) (h : j < ((List.range 64).map fun j : Nat => cI (usesAt ks (j : Int))).length) => (by simp : ((List.range 64).map fun j : Nat => cI (usesAt ks (j : Int)))[j] = cI (usesAt ks (j : Int)))
      simp only [hgu3, ↓vcPre, ↓wit_get, ↓reduceIte, vcPost, vcStd, Nat.reduceEqDiff, reduceCtorEq, Nat.reduceAdd, Nat.reduceLeDiff, Int.reduceLT, Int.reduceLE, ↓u_setN]
      simp only [Nat.zero_add, List.getElem_range]
      refine ⟨by omega, by simp; omega, by simp [cI], ?_⟩
      by_cases hu0 : 0 < usesAt ks (k : Int)
      · simp only [if_pos hu0]
        simp only [cI, hu0, bne_tt, ↓vcPre, ↓wit_get, ↓reduceIte, vcPost, vcStd, Nat.reduceEqDiff, reduceCtorEq, Nat.reduceAdd, Nat.reduceLeDiff, Int.reduceLT, Int.reduceLE, ↓u_setN]
        refine LoopQ.inv (S := Nat) (fun j => [(1, .sl 1 (drops.map cI)), (5, .ptr id 0), (11, .int .i64 (i : Int)), (12, .int .i64 (k : Int)), (13, .os gw 9 0 64), (14, .os gu 1 0 64), (18, .int .i64 ((ks.filter fun k => decide (k.n ≠ 0)).length : Int)), (19, .int .i64 0), (20, .int .i64 (j : Int))]) (fun _ => s3) (fun j => j ≤ 64) (fun j => 65 - j) 0 rfl (Store.sub_refl _) (by omega) ?_
        intro j hj
        have ej : IntKind.i64.wrap ((j : Int) + 1) = ((j + 1 : Nat) : Int) := by rw [wrap64 (by unfold I64; omega)]; omega
        have hule := uses_le hB0 hTi.2.2.1 (j : Int)
        have huj := uses_drop hTi.2.2.1 (k : Int) (j : Int) (by omega)
        have hgj := get_drop hTi.2.2.1 (k : Int) (j : Int) (by omega)
        simp only [hgu3, Nat.zero_add, ↓vcPre, ↓wit_get, ↓reduceIte, vcPost, vcStd, Nat.reduceEqDiff, reduceCtorEq, Nat.reduceAdd, Nat.reduceLeDiff, Int.reduceLT, Int.reduceLE, ↓u_setN]
        refine ⟨fun d1 => ?_, fun d1 => ?_⟩
        · simp only [List.getElem_range]
          refine ⟨by omega, by simp; omega, by simp [cI], ?_⟩
          simp only [cI, ↓vcPre, ↓wit_get, ↓reduceIte, vcPost, vcStd, Nat.reduceEqDiff, reduceCtorEq, Nat.reduceAdd, Nat.reduceLeDiff, Int.reduceLT, Int.reduceLE, ↓u_setN]
          refine ⟨fun g1 => (s23 hT3 j).Q ?_, fun g1 => (s23 hT3 j).Q ?_⟩
          · rintro r1 s4 ⟨rfl, rfl⟩
            simp only [↓vcPre, ↓wit_get, ↓reduceIte, vcPost, vcStd, Nat.reduceEqDiff, reduceCtorEq, Nat.reduceAdd, Nat.reduceLeDiff, Int.reduceLT, Int.reduceLE, ↓u_setN]
            refine AllocQ.i0 fun b hb => ?_
            simp only [↓vcPre, ↓wit_get, ↓reduceIte, vcPost, vcStd, Nat.reduceEqDiff, reduceCtorEq, Nat.reduceAdd, Nat.reduceLeDiff, Int.reduceLT, Int.reduceLE, ↓u_setN]
            have p9 : ∀ z : List AV, z.length = 9 → splice 0 (getA (dropK ks k) j).c z = some (getA (dropK ks k) j).c := fun z hz => splice_all _ _ (by rw [hz]; rfl)
            have e9 : ∀ y : At, y.c.length = 9 := fun _ => rfl
            have t9 : ∀ y : At, List.take 9 y.c = y.c := fun _ => rfl
            refine ⟨rfl, ?_⟩
            rw [p9 _ rfl, wit_some, Store.set_set]
            have hsb0 := Store.sub_set s4 b (.box (getA (dropK ks k) j).c) hb
            have hTb : (s4.set b (.box (getA (dropK ks k) j).c)) b = some (.box (getA (dropK ks k) j).c) := Store.set_same _ _ _
            have hgw4 := hsb0 _ _ hgw3
            generalize s4.set b (.box (getA (dropK ks k) j).c) = s5 at hsb0 hTb hgw4 ⊢
            have hT5 : TI B τ1 id 64 (dropK ks k) s5 := by
              obtain ⟨h1, h2, h3, h4, v, h5, h6⟩ := hT3
              exact ⟨h1, Store.sub_trans h2 hsb0, h3, h4, v, hsb0 _ _ h5, h6.mono hsb0⟩
            refine (s26 hT5 j).Q ?_
            rintro r1 s6 ⟨rfl, rfl⟩
            simp only [hTb, hgw4, e9, t9, Nat.le_refl, Nat.zero_add, ↓vcPre, ↓wit_get, ↓reduceIte, vcPost, vcStd, Nat.reduceEqDiff, reduceCtorEq, Nat.reduceAdd, Nat.reduceLeDiff, Int.reduceLT, Int.reduceLE, ↓u_setN]
            have hW : IntKind.i64.wrap (usesAt ks (j : Int) - 1) = usesAt (dropK ks (k : Int)) (j : Int) := by
              rw [huj, show (if (j : Int) = (k : Int) ∧ 0 < usesAt ks (k : Int) then (1 : Int) else 0) = 1 from if_pos ⟨g1, hu0⟩, wrap64 (by unfold I64; omega)]
            rw [hW]
            simp only [bne_same, ↓vcPre, ↓wit_get, ↓reduceIte, vcPost, vcStd, Nat.reduceEqDiff, reduceCtorEq, Nat.reduceAdd, Nat.reduceLeDiff, Int.reduceLT, Int.reduceLE, ↓u_setN]
            refine ⟨fun g2 => ⟨by omega, by simp; omega, ?_⟩, fun g2 => NextQ.to (j + 1) (by rw [ej]) hsb0 (by omega) (by omega)⟩
            simp only [List.getElem_range]
            rw [← hgj g2]
            refine (c25 _ _ (getA_ok hT5.2.2.1 _) (getA_ok hT5.2.2.1 _)).Q ?_
            simp only [↓vcPre, ↓wit_get, ↓reduceIte, vcPost, vcStd, Nat.reduceEqDiff, reduceCtorEq, Nat.reduceAdd, Nat.reduceLeDiff, Int.reduceLT, Int.reduceLE, ↓u_setN]
            exact NextQ.to (j + 1) (by rw [ej]) hsb0 (by omega) (by omega)
          · rintro r1 s4 ⟨rfl, rfl⟩
            simp only [↓vcPre, ↓wit_get, ↓reduceIte, vcPost, vcStd, Nat.reduceEqDiff, reduceCtorEq, Nat.reduceAdd, Nat.reduceLeDiff, Int.reduceLT, Int.reduceLE, ↓u_setN]
            refine AllocQ.i0 fun b hb => ?_
            simp only [↓vcPre, ↓wit_get, ↓reduceIte, vcPost, vcStd, Nat.reduceEqDiff, reduceCtorEq, Nat.reduceAdd, Nat.reduceLeDiff, Int.reduceLT, Int.reduceLE, ↓u_setN]
            have p9 : ∀ z : List AV, z.length = 9 → splice 0 (getA (dropK ks k) j).c z = some (getA (dropK ks k) j).c := fun z hz => splice_all _ _ (by rw [hz]; rfl)
            have e9 : ∀ y : At, y.c.length = 9 := fun _ => rfl
            have t9 : ∀ y : At, List.take 9 y.c = y.c := fun _ => rfl
            refine ⟨rfl, ?_⟩
            rw [p9 _ rfl, wit_some, Store.set_set]
            have hsb0 := Store.sub_set s4 b (.box (getA (dropK ks k) j).c) hb
            have hTb : (s4.set b (.box (getA (dropK ks k) j).c)) b = some (.box (getA (dropK ks k) j).c) := Store.set_same _ _ _
            have hgw4 := hsb0 _ _ hgw3
            generalize s4.set b (.box (getA (dropK ks k) j).c) = s5 at hsb0 hTb hgw4 ⊢
            have hT5 : TI B τ1 id 64 (dropK ks k) s5 := by
              obtain ⟨h1, h2, h3, h4, v, h5, h6⟩ := hT3
              exact ⟨h1, Store.sub_trans h2 hsb0, h3, h4, v, hsb0 _ _ h5, h6.mono hsb0⟩
            refine (s26 hT5 j).Q ?_
            rintro r1 s6 ⟨rfl, rfl⟩
            simp only [hTb, hgw4, e9, t9, Nat.le_refl, Nat.zero_add, ↓vcPre, ↓wit_get, ↓reduceIte, vcPost, vcStd, Nat.reduceEqDiff, reduceCtorEq, Nat.reduceAdd, Nat.reduceLeDiff, Int.reduceLT, Int.reduceLE, ↓u_setN]
            have hW : usesAt ks (j : Int) = usesAt (dropK ks (k : Int)) (j : Int) := by
              rw [huj, show (if (j : Int) = (k : Int) ∧ 0 < usesAt ks (k : Int) then (1 : Int) else 0) = 0 from if_neg (fun h => g1 h.1), Int.sub_zero]
            rw [← hW] at hgj ⊢
            simp only [bne_same, ↓vcPre, ↓wit_get, ↓reduceIte, vcPost, vcStd, Nat.reduceEqDiff, reduceCtorEq, Nat.reduceAdd, Nat.reduceLeDiff, Int.reduceLT, Int.reduceLE, ↓u_setN]
            refine ⟨fun g2 => ⟨by omega, by simp; omega, ?_⟩, fun g2 => NextQ.to (j + 1) (by rw [ej]) hsb0 (by omega) (by omega)⟩
            simp only [List.getElem_range]
            rw [← hgj g2]
            refine (c25 _ _ (getA_ok hT5.2.2.1 _) (getA_ok hT5.2.2.1 _)).Q ?_
            simp only [↓vcPre, ↓wit_get, ↓reduceIte, vcPost, vcStd, Nat.reduceEqDiff, reduceCtorEq, Nat.reduceAdd, Nat.reduceLeDiff, Int.reduceLT, Int.reduceLE, ↓u_setN]
            exact NextQ.to (j + 1) (by rw [ej]) hsb0 (by omega) (by omega)
        · simp only [List.getElem_range, ↓vcPre, ↓wit_get, ↓reduceIte, vcPost, vcStd, Nat.reduceEqDiff, reduceCtorEq, Nat.reduceAdd, Nat.reduceLeDiff, Int.reduceLT, Int.reduceLE, ↓u_setN]
          refine ⟨by omega, by simp; omega, by simp [cI], ?_⟩
          simp only [cI, ↓vcPre, ↓wit_get, ↓reduceIte, vcPost, vcStd, Nat.reduceEqDiff, reduceCtorEq, Nat.reduceAdd, Nat.reduceLeDiff, Int.reduceLT, Int.reduceLE, ↓u_setN]
          have hln := len_drop hTi.2.2.1 (k : Int)
          have hfl := List.length_filter_le (fun k : KS => decide (k.n ≠ 0)) ks
          have hkl := hTi.2.2.2.1
          refine ⟨fun g1 => (s28 hT3).Q ?_, fun g1 => (s28 hT3).Q ?_⟩
          · rintro r1 s4 ⟨rfl, rfl⟩
            rw [if_pos g1] at hln
            simp only [↓vcPre, ↓wit_get, ↓reduceIte, vcPost, vcStd, Nat.reduceEqDiff, reduceCtorEq, Nat.reduceAdd, Nat.reduceLeDiff, Int.reduceLT, Int.reduceLE, ↓u_setN]
            have ew := wrap64 (n := ((ks.filter fun k => decide (k.n ≠ 0)).length : Int) - 1) (by unfold I64; omega)
            rw [ew]
            exact ⟨fun g2 => absurd hln g2, fun _ => NextQ.to (i + 1, dropK ks k, s4) (by rw [ei]) (Store.sub_refl _) (by simp only; omega) ⟨by simp only; omega, by simp only; omega, hTn⟩⟩
          · rintro r1 s4 ⟨rfl, rfl⟩
            rw [if_neg g1, Int.sub_zero] at hln
            simp only [↓vcPre, ↓wit_get, ↓reduceIte, vcPost, vcStd, Nat.reduceEqDiff, reduceCtorEq, Nat.reduceAdd, Nat.reduceLeDiff, Int.reduceLT, Int.reduceLE, ↓u_setN]
            exact ⟨fun g2 => absurd hln g2, fun _ => NextQ.to (i + 1, dropK ks k, s4) (by rw [ei]) (Store.sub_refl _) (by simp only; omega) ⟨by simp only; omega, by simp only; omega, hTn⟩⟩
      · simp only [if_neg hu0]
        simp only [cI, hu0, bne_ff, show ((22 : Int) = 0) = False from by simp, ↓vcPre, ↓wit_get, ↓reduceIte, vcPost, vcStd, Nat.reduceEqDiff, reduceCtorEq, Nat.reduceAdd, Nat.reduceLeDiff, Int.reduceLT, Int.reduceLE, ↓u_setN]
        refine LoopQ.inv (S := Nat) (fun j => [(1, .sl 1 (drops.map cI)), (5, .ptr id 0), (11, .int .i64 (i : Int)), (12, .int .i64 (k : Int)), (13, .os gw 9 0 64), (14, .os gu 1 0 64), (18, .int .i64 ((ks.filter fun k => decide (k.n ≠ 0)).length : Int)), (19, .int .i64 22), (20, .int .i64 (j : Int))]) (fun _ => s3) (fun j => j ≤ 64) (fun j => 65 - j) 0 rfl (Store.sub_refl _) (by omega) ?_
        intro j hj
        have ej : IntKind.i64.wrap ((j : Int) + 1) = ((j + 1 : Nat) : Int) := by rw [wrap64 (by unfold I64; omega)]; omega
        have huj := uses_drop hTi.2.2.1 (k : Int) (j : Int) (by omega)
        rw [if_neg (fun h => hu0 h.2), Int.sub_zero] at huj
        have hgj := get_drop hTi.2.2.1 (k : Int) (j : Int) (by omega)
        rw [huj] at hgj
        simp only [hgu3, Nat.zero_add, ↓vcPre, ↓wit_get, ↓reduceIte, vcPost, vcStd, Nat.reduceEqDiff, reduceCtorEq, Nat.reduceAdd, Nat.reduceLeDiff, Int.reduceLT, Int.reduceLE, ↓u_setN]
        refine ⟨fun d1 => ?_, fun d1 => ?_⟩
        · simp only [List.getElem_range]
          refine ⟨by omega, by simp; omega, by simp [cI], ?_⟩
          simp only [cI, ↓vcPre, ↓wit_get, ↓reduceIte, vcPost, vcStd, Nat.reduceEqDiff, reduceCtorEq, Nat.reduceAdd, Nat.reduceLeDiff, Int.reduceLT, Int.reduceLE, ↓u_setN]
          refine ⟨fun g1 => ⟨fun g2 => absurd g2 (by omega), fun _ => (s23 hT3 j).Q ?_⟩, fun g1 => (s23 hT3 j).Q ?_⟩
          · rintro r1 s4 ⟨rfl, rfl⟩
            simp only [↓vcPre, ↓wit_get, ↓reduceIte, vcPost, vcStd, Nat.reduceEqDiff, reduceCtorEq, Nat.reduceAdd, Nat.reduceLeDiff, Int.reduceLT, Int.reduceLE, ↓u_setN]
            refine AllocQ.i0 fun b hb => ?_
            simp only [↓vcPre, ↓wit_get, ↓reduceIte, vcPost, vcStd, Nat.reduceEqDiff, reduceCtorEq, Nat.reduceAdd, Nat.reduceLeDiff, Int.reduceLT, Int.reduceLE, ↓u_setN]
            have p9 : ∀ z : List AV, z.length = 9 → splice 0 (getA (dropK ks k) j).c z = some (getA (dropK ks k) j).c := fun z hz => splice_all _ _ (by rw [hz]; rfl)
            have e9 : ∀ y : At, y.c.length = 9 := fun _ => rfl
            have t9 : ∀ y : At, List.take 9 y.c = y.c := fun _ => rfl
            refine ⟨rfl, ?_⟩
            rw [p9 _ rfl, wit_some, Store.set_set]
            have hsb0 := Store.sub_set s4 b (.box (getA (dropK ks k) j).c) hb
            have hTb : (s4.set b (.box (getA (dropK ks k) j).c)) b = some (.box (getA (dropK ks k) j).c) := Store.set_same _ _ _
            have hgw4 := hsb0 _ _ hgw3
            generalize s4.set b (.box (getA (dropK ks k) j).c) = s5 at hsb0 hTb hgw4 ⊢
            have hT5 : TI B τ1 id 64 (dropK ks k) s5 := by
              obtain ⟨h1, h2, h3, h4, v, h5, h6⟩ := hT3
              exact ⟨h1, Store.sub_trans h2 hsb0, h3, h4, v, hsb0 _ _ h5, h6.mono hsb0⟩
            refine (s26 hT5 j).Q ?_
            rintro r1 s6 ⟨rfl, rfl⟩
            simp only [hTb, hgw4, e9, t9, Nat.le_refl, Nat.zero_add, ↓vcPre, ↓wit_get, ↓reduceIte, vcPost, vcStd, Nat.reduceEqDiff, reduceCtorEq, Nat.reduceAdd, Nat.reduceLeDiff, Int.reduceLT, Int.reduceLE, ↓u_setN]
            have hW : usesAt ks (j : Int) = usesAt (dropK ks (k : Int)) (j : Int) := huj.symm
            rw [← hW]
            simp only [bne_same, ↓vcPre, ↓wit_get, ↓reduceIte, vcPost, vcStd, Nat.reduceEqDiff, reduceCtorEq, Nat.reduceAdd, Nat.reduceLeDiff, Int.reduceLT, Int.reduceLE, ↓u_setN]
            refine ⟨fun g2 => ⟨by omega, by simp; omega, ?_⟩, fun g2 => NextQ.to (j + 1) (by rw [ej]) hsb0 (by omega) (by omega)⟩
            simp only [List.getElem_range]
            rw [← hgj g2]
            refine (c25 _ _ (getA_ok hT5.2.2.1 _) (getA_ok hT5.2.2.1 _)).Q ?_
            simp only [↓vcPre, ↓wit_get, ↓reduceIte, vcPost, vcStd, Nat.reduceEqDiff, reduceCtorEq, Nat.reduceAdd, Nat.reduceLeDiff, Int.reduceLT, Int.reduceLE, ↓u_setN]
            exact NextQ.to (j + 1) (by rw [ej]) hsb0 (by omega) (by omega)
          · rintro r1 s4 ⟨rfl, rfl⟩
            simp only [↓vcPre, ↓wit_get, ↓reduceIte, vcPost, vcStd, Nat.reduceEqDiff, reduceCtorEq, Nat.reduceAdd, Nat.reduceLeDiff, Int.reduceLT, Int.reduceLE, ↓u_setN]
            refine AllocQ.i0 fun b hb => ?_
            simp only [↓vcPre, ↓wit_get, ↓reduceIte, vcPost, vcStd, Nat.reduceEqDiff, reduceCtorEq, Nat.reduceAdd, Nat.reduceLeDiff, Int.reduceLT, Int.reduceLE, ↓u_setN]
            have p9 : ∀ z : List AV, z.length = 9 → splice 0 (getA (dropK ks k) j).c z = some (getA (dropK ks k) j).c := fun z hz => splice_all _ _ (by rw [hz]; rfl)
            have e9 : ∀ y : At, y.c.length = 9 := fun _ => rfl
            have t9 : ∀ y : At, List.take 9 y.c = y.c := fun _ => rfl
            refine ⟨rfl, ?_⟩
            rw [p9 _ rfl, wit_some, Store.set_set]
            have hsb0 := Store.sub_set s4 b (.box (getA (dropK ks k) j).c) hb
            have hTb : (s4.set b (.box (getA (dropK ks k) j).c)) b = some (.box (getA (dropK ks k) j).c) := Store.set_same _ _ _
            have hgw4 := hsb0 _ _ hgw3
            generalize s4.set b (.box (getA (dropK ks k) j).c) = s5 at hsb0 hTb hgw4 ⊢
            have hT5 : TI B τ1 id 64 (dropK ks k) s5 := by
              obtain ⟨h1, h2, h3, h4, v, h5, h6⟩ := hT3
              exact ⟨h1, Store.sub_trans h2 hsb0, h3, h4, v, hsb0 _ _ h5, h6.mono hsb0⟩
            refine (s26 hT5 j).Q ?_
            rintro r1 s6 ⟨rfl, rfl⟩
            simp only [hTb, hgw4, e9, t9, Nat.le_refl, Nat.zero_add, ↓vcPre, ↓wit_get, ↓reduceIte, vcPost, vcStd, Nat.reduceEqDiff, reduceCtorEq, Nat.reduceAdd, Nat.reduceLeDiff, Int.reduceLT, Int.reduceLE, ↓u_setN]
            have hW : usesAt ks (j : Int) = usesAt (dropK ks (k : Int)) (j : Int) := huj.symm
            rw [← hW]
            simp only [bne_same, ↓vcPre, ↓wit_get, ↓reduceIte, vcPost, vcStd, Nat.reduceEqDiff, reduceCtorEq, Nat.reduceAdd, Nat.reduceLeDiff, Int.reduceLT, Int.reduceLE, ↓u_setN]
            refine ⟨fun g2 => ⟨by omega, by simp; omega, ?_⟩, fun g2 => NextQ.to (j + 1) (by rw [ej]) hsb0 (by omega) (by omega)⟩
            simp only [List.getElem_range]
            rw [← hgj g2]
            refine (c25 _ _ (getA_ok hT5.2.2.1 _) (getA_ok hT5.2.2.1 _)).Q ?_
            simp only [↓vcPre, ↓wit_get, ↓reduceIte, vcPost, vcStd, Nat.reduceEqDiff, reduceCtorEq, Nat.reduceAdd, Nat.reduceLeDiff, Int.reduceLT, Int.reduceLE, ↓u_setN]
            exact NextQ.to (j + 1) (by rw [ej]) hsb0 (by omega) (by omega)
        · simp only [List.getElem_range, ↓vcPre, ↓wit_get, ↓reduceIte, vcPost, vcStd, Nat.reduceEqDiff, reduceCtorEq, Nat.reduceAdd, Nat.reduceLeDiff, Int.reduceLT, Int.reduceLE, ↓u_setN]
          have hln := len_drop hTi.2.2.1 (k : Int)
          rw [if_neg (by omega), Int.sub_zero] at hln
          refine ⟨fun g2 => absurd g2 (by omega), fun _ => (s28 hT3).Q ?_⟩
          rintro r1 s4 ⟨rfl, rfl⟩
          simp only [↓vcPre, ↓wit_get, ↓reduceIte, vcPost, vcStd, Nat.reduceEqDiff, reduceCtorEq, Nat.reduceAdd, Nat.reduceLeDiff, Int.reduceLT, Int.reduceLE, ↓u_setN]
          exact ⟨fun g2 => absurd hln g2, fun _ => NextQ.to (i + 1, dropK ks k, s4) (by rw [ei]) (Store.sub_refl _) (by simp only; omega) ⟨by simp only; omega, by simp only; omega, hTn⟩⟩
  · refine TstRun19.c19.Q ?_
    simp only [↓vcPre, ↓wit_get, ↓reduceIte, vcPost, vcStd, Nat.reduceEqDiff, reduceCtorEq, Nat.reduceAdd, Nat.reduceLeDiff, Int.reduceLT, Int.reduceLE, ↓u_setN]
    exact hr _ hTi.2.1
  · refine TstRun19.c19.Q ?_
    simp only [↓vcPre, ↓wit_get, ↓reduceIte, vcPost, vcStd, Nat.reduceEqDiff, reduceCtorEq, Nat.reduceAdd, Nat.reduceLeDiff, Int.reduceLT, Int.reduceLE, ↓u_setN]
    exact hr _ hTi.2.1
end Go.Am

/- C2 -/
namespace Go.Am
open Go.Proofs Go.Sort

set_option maxRecDepth 20000 in
theorem lawApart (l : List Ask) (drops : List Int) (hl : Small l) (hd : Small drops) (hdo : ∀ d ∈ drops, I64 d) : Pur Try.prog 6 [.sl 12 (l.map Ask.c), .sl 1 (drops.map cI)] (.bool true) := by
  refine pur_of Tse.F6 (by simp [Tse.F6, Fn.mkX]) fun σ => ?_
  simp only [Tse.F6, Fn.mkX, Tse.b6]
  simp only [↓vcPre, ↓wit_get, ↓reduceIte, vcPost, vcStd, Nat.reduceEqDiff, reduceCtorEq, Nat.reduceAdd, Nat.reduceLeDiff, Int.reduceLT, Int.reduceLE, ↓u_setN]
  refine (new_ok (room := 64) (by omega) σ 1).Q ?_
  rintro r s ⟨id, rfl, hT⟩
  unfold Small at hl hd
  simp only [↓vcPre, ↓wit_get, ↓reduceIte, vcPost, vcStd, Nat.reduceEqDiff, reduceCtorEq, Nat.reduceAdd, Nat.reduceLeDiff, Int.reduceLT, Int.reduceLE, ↓u_setN]
  refine LoopQ.inv (S := Nat × List KS × Store) (fun q => [(0, .sl 12 (l.map Ask.c)), (1, .sl 1 (drops.map cI)), (5, .ptr id 0), (7, .int .i64 (q.1 : Int))]) (fun q => q.2.2) (fun q => q.1 ≤ l.length ∧ q.1 ≤ 30 ∧ q.2.1.length ≤ q.1 ∧ TI (1 + q.1) σ id 64 q.2.1 q.2.2) (fun q => 31 - q.1) (0, [], s) rfl (Store.sub_refl _) ⟨by simp only; omega, by simp only; omega, by simp, hT⟩ ?_
  rintro ⟨i, ks, s⟩ ⟨hi, hi2, hkl, hTi⟩
  simp only at hi hi2 hkl hTi
  simp only [↓vcPre, ↓wit_get, ↓reduceIte, vcPost, vcStd, Nat.reduceEqDiff, reduceCtorEq, Nat.reduceAdd, Nat.reduceLeDiff, Int.reduceLT, Int.reduceLE, ↓u_setN]
  refine ⟨fun c1 => ⟨fun c2 => ?_, fun c2 => ?_⟩, fun c1 => ?_⟩
  · refine ⟨c1, by simp [Ask.c, At.c], ?_⟩
    refine AllocQ.i0 fun b hb => ?_
    simp only [Ask.c, At.c, ↓vcPre, ↓wit_get, ↓reduceIte, vcPost, vcStd, Nat.reduceEqDiff, reduceCtorEq, Nat.reduceAdd, Nat.reduceLeDiff, Int.reduceLT, Int.reduceLE, ↓u_setN]
    rw [Store.set_set, Store.set_set]
    have hsb := Store.sub_set s b (.box [.int .i64 l[i].kind, .int .i64 l[i].id, .int .i64 l[i].a.org, .sl 2 (List.map Seg.c l[i].a.path), .int .u32 l[i].a.nxt, .bool l[i].a.hm, .int .u32 l[i].a.med, .bool l[i].a.hp, .int .u32 l[i].a.prf, .bool l[i].a.atm, .sl 1 (List.map cU l[i].a.cms), .bool true]) hb
    have hT2 : TI (1 + i) σ id 64 ks (s.set b (.box [.int .i64 l[i].kind, .int .i64 l[i].id, .int .i64 l[i].a.org, .sl 2 (List.map Seg.c l[i].a.path), .int .u32 l[i].a.nxt, .bool l[i].a.hm, .int .u32 l[i].a.med, .bool l[i].a.hp, .int .u32 l[i].a.prf, .bool l[i].a.atm, .sl 1 (List.map cU l[i].a.cms), .bool true])) := by
      obtain ⟨h1, h2, h3, h4, v, h5, h6⟩ := hTi
      exact ⟨h1, Store.sub_trans h2 hsb, h3, h4, v, hsb _ _ h5, h6.mono hsb⟩
    refine (c21 (fewK l[i])).Q ?_
    rw [attrs_few]
    simp only [↓vcPre, ↓wit_get, ↓reduceIte, vcPost, vcStd, Nat.reduceEqDiff, reduceCtorEq, Nat.reduceAdd, Nat.reduceLeDiff, Int.reduceLT, Int.reduceLE, ↓u_setN]
    refine (s22 (by omega) (by omega) hT2 (by omega) (fewA l[i].a) (fewA_ok _)).Q ?_
    rintro r1 s2 ⟨m, e, ks', rfl, hA, hT3⟩
    have hlf := List.length_filter_le (fun k : KS => decide (k.n ≠ 0)) ks
    have he : e = 0 ∧ ks'.length ≤ i + 1 := by
      rcases hA with ⟨q, hq, bb, u, _, _, _, h, rfl⟩ | ⟨_, ⟨h1, _⟩ | ⟨_, _, h, rfl⟩⟩
      · exact ⟨h, by simp; omega⟩
      · omega
      · exact ⟨h, by split <;> simp <;> omega⟩
    obtain ⟨rfl, hkl'⟩ := he
    simp only [↓vcPre, ↓wit_get, ↓reduceIte, vcPost, vcStd, Nat.reduceEqDiff, reduceCtorEq, Nat.reduceAdd, Nat.reduceLeDiff, Int.reduceLT, Int.reduceLE, ↓u_setN]
    have ei : IntKind.i64.wrap ((i : Int) + 1) = ((i + 1 : Nat) : Int) := by rw [wrap64 (by unfold I64; omega)]; omega
    exact NextQ.to (i + 1, ks', s2) (by rw [ei]) (Store.sub_refl _) (by simp only; omega) ⟨by simp only; omega, by simp only; omega, hkl', by have := hT3.up (B' := 1 + ((i + 1 : Nat) : Int)) (by omega); exact this⟩
  · exact tail_apart ks drops hd hdo _ _ (by omega) (by omega) hTi fun s' hs => ⟨rfl, hs⟩
  · exact tail_apart ks drops hd hdo _ _ (by omega) (by omega) hTi fun s' hs => ⟨rfl, hs⟩
end Go.Am

/- DA -/
namespace Go.Am
open Go.Proofs
theorem small_of {α : Type} {l : List α} {n : Nat} (h1 : 1 ≤ n) (h : l.length * n ≤ reachBytes) : Small l := by
  have h2 : l.length * 1 ≤ l.length * n := Nat.mul_le_mul_left _ h1
  have h3 : reachBytes = 140737488351232 := rfl
  unfold Small
  omega
theorem dU (xs : List AV) (h : TOk Try.prog 1 32 xs) : ∃ r : Int, ImpL xs (cU r) ∧ True := by
  obtain ⟨m1, rfl, g1, g2⟩ := TOk.int Try.underlying32 h
  exact ⟨m1, ImpL.one rfl, trivial⟩
theorem dI (xs : List AV) (h : TOk Try.prog 1 3 xs) : ∃ r : Int, ImpL xs (cI r) ∧ I64 r := by
  obtain ⟨m1, rfl, g1, g2⟩ := TOk.int Try.underlying3 h
  exact ⟨m1, ImpL.one rfl, ⟨g1, g2⟩⟩
theorem dSeg (xs : List AV) (h : TOk Try.prog 3 104 xs) : ∃ r : Seg, ImpL xs r.c ∧ True := by
  obtain ⟨a, b, rfl, h1, c, d, rfl, h2, rfl⟩ := TOk.struct (ts := [3, 33]) Try.underlying104 rfl h
  obtain ⟨m1, rfl, g1, g2⟩ := TOk.int Try.underlying3 h1
  obtain ⟨rs, hr, _⟩ := TOk.slI (sz := 1) (by_ := 4) Try.underlying33 (by kernel_rfl) (by kernel_rfl) cU (fun _ => True) dU h2
  exact ⟨⟨m1, rs⟩, (ImpL.one rfl).append (hr.append .nil), trivial⟩
theorem dAt (xs : List AV) (h : TOk Try.prog 5 35 xs) : ∃ r : At, ImpL xs r.c ∧ True := by
  obtain ⟨a1, b1, rfl, h1, a2, b2, rfl, h2, a3, b3, rfl, h3, a4, b4, rfl, h4, a5, b5, rfl, h5, a6, b6, rfl, h6, a7, b7, rfl, h7, a8, b8, rfl, h8, a9, b9, rfl, h9, rfl⟩ := TOk.struct (ts := [3, 31, 32, 4, 32, 4, 32, 4, 33]) Try.underlying35 rfl h
  obtain ⟨m1, rfl, _, _⟩ := TOk.int Try.underlying3 h1
  obtain ⟨rs, hr, _⟩ := TOk.slI (sz := 2) (by_ := 32) Try.underlying31 (by kernel_rfl) (by kernel_rfl) Seg.c (fun _ => True) dSeg h2
  obtain ⟨m3, rfl, _, _⟩ := TOk.int Try.underlying32 h3
  obtain ⟨m4, rfl⟩ := TOk.bool Try.underlying4 h4
  obtain ⟨m5, rfl, _, _⟩ := TOk.int Try.underlying32 h5
  obtain ⟨m6, rfl⟩ := TOk.bool Try.underlying4 h6
  obtain ⟨m7, rfl, _, _⟩ := TOk.int Try.underlying32 h7
  obtain ⟨m8, rfl⟩ := TOk.bool Try.underlying4 h8
  obtain ⟨cs, hc, _⟩ := TOk.slI (sz := 1) (by_ := 4) Try.underlying33 (by kernel_rfl) (by kernel_rfl) cU (fun _ => True) (fun x hx => by
    obtain ⟨m1, rfl, g1, g2⟩ := TOk.int Try.underlying32 hx
    exact ⟨m1, ImpL.one rfl, trivial⟩) h9
  exact ⟨⟨m1, rs, m3, m4, m5, m6, m7, m8, cs⟩, (ImpL.one rfl).append (hr.append ((ImpL.one rfl).append ((ImpL.one rfl).append ((ImpL.one rfl).append ((ImpL.one rfl).append ((ImpL.one rfl).append ((ImpL.one rfl).append (hc.append .nil)))))))), trivial⟩
theorem dAsk (xs : List AV) (h : TOk Try.prog 6 37 xs) : ∃ r : Ask, ImpL xs r.c ∧ (I64 r.kind ∧ I64 r.id) := by
  obtain ⟨a1, b1, rfl, h1, a2, b2, rfl, h2, a3, b3, rfl, h3, a4, b4, rfl, h4, rfl⟩ := TOk.struct (ts := [3, 3, 35, 4]) Try.underlying37 rfl h
  obtain ⟨m1, rfl, g1, g2⟩ := TOk.int Try.underlying3 h1
  obtain ⟨m2, rfl, g3, g4⟩ := TOk.int Try.underlying3 h2
  obtain ⟨r, hr, _⟩ := dAt _ h3
  obtain ⟨m4, rfl⟩ := TOk.bool Try.underlying4 h4
  exact ⟨⟨m1, m2, r, m4⟩, (ImpL.one rfl).append ((ImpL.one rfl).append (hr.append ((ImpL.one rfl).append .nil))), ⟨g1, g2⟩, ⟨g3, g4⟩⟩
theorem aAsks {w : World} {a : AV} {v : Value} (hr : VRel (G0 w) w a v) (h : TOk Try.prog 7 22 [a]) : ∃ rs : List Ask, VRel (G0 w) w (.sl 12 (rs.map Ask.c)) v ∧ Small rs ∧ ∀ r ∈ rs, I64 r.kind ∧ I64 r.id := by
  obtain ⟨rs, hi, hz, ho⟩ := TOk.slI (sz := 12) (by_ := 104) Try.underlying22 (by kernel_rfl) (by kernel_rfl) Ask.c (fun r => I64 r.kind ∧ I64 r.id) dAsk h
  exact ⟨rs, imp_arg hi hr, small_of (by omega) hz, ho⟩
theorem aInts {w : World} {a : AV} {v : Value} (hr : VRel (G0 w) w a v) (h : TOk Try.prog 2 42 [a]) : ∃ rs : List Int, VRel (G0 w) w (.sl 1 (rs.map cI)) v ∧ Small rs ∧ ∀ r ∈ rs, I64 r := by
  obtain ⟨rs, hi, hz, ho⟩ := TOk.slI (sz := 1) (by_ := 8) Try.underlying42 (by kernel_rfl) (by kernel_rfl) cI I64 dI h
  exact ⟨rs, imp_arg hi hr, small_of (by omega) hz, ho⟩
theorem lawApart2 (l : List Ask) (hl : Small l) (_ : ∀ r ∈ l, I64 r.kind ∧ I64 r.id) (m : List Int) (hm : Small m) (hmo : ∀ d ∈ m, I64 d) : Pur Try.prog 6 [.sl 12 (l.map Ask.c), .sl 1 (m.map cI)] (.bool true) := lawApart l m hl hm hmo
end Go.Am
