/- A part of the proof: a logic for calls over plain values, and the functions that the law reaches, each walked once. -/
import Derived.Test.YtfnoblcmfmdeaaaPC24
set_option linter.unusedVariables false
set_option linter.unusedSimpArgs false
set_option linter.unusedSectionVars false

namespace Go.Am.Tst
open Go.Proofs
/-- signpost/signpostlaw11.attrs -/
def b21 : BC := .seq (.ops [⟨some 1, none, .alloc (.box), [.t 0]⟩, ⟨some 2, none, .alloc (.alloc [(.int .i64 0), .nils, (.int .u32 0), (.bool false), (.int .u32 0), (.bool false), (.int .u32 0), (.bool false), .nils]), []⟩] [1, 2]) (.seq (.seq (.ops [⟨some 3, none, .pure (.fld 11), [.t 1]⟩, ⟨some 4, none, .load (.ld 1 false), [.t 3]⟩] [1, 2, 4]) (.cond (.t 4) (.seq (.ops [⟨some 5, none, .pure (.fld 2), [.t 1]⟩, ⟨some 6, none, .pure (.fld 0), [.t 5]⟩, ⟨some 9, none, .pure (.fld 2), [.t 1]⟩, ⟨some 10, none, .pure (.fld 2), [.t 9]⟩, ⟨some 13, none, .pure (.fld 2), [.t 1]⟩, ⟨some 7, none, .load (.ld 1 false), [.t 6]⟩, ⟨some 8, none, .pure (.bin .rem), [.t 7, .c (.int .i64 3)]⟩, ⟨some 11, none, .load (.ld 1 false), [.t 10]⟩, ⟨some 12, none, .pure (.bin .rem), [.t 11, .c (.int .u32 3)]⟩, ⟨some 14, none, .load (.ld 9 true), [.t 13]⟩, ⟨some 15, none, .qcall 40, [.t 14]⟩, ⟨some 16, none, .pure (.fldv 8 1 false), [.t 15]⟩, ⟨some 17, none, .pure (.build [(.int .i64 0), .nils, (.int .u32 0), (.bool false), (.int .u32 0), (.bool false), (.int .u32 0), (.bool false), .nils] [(0, 1), (2, 1), (8, 1)]), [.t 8, .t 12, .t 16]⟩, ⟨none, none, .loud (.st 9), [.t 2, .t 17]⟩] [2]) (.ret)) (.skip))) (.seq (.ops [⟨some 18, none, .pure (.fld 2), [.t 1]⟩, ⟨some 19, none, .load (.ld 9 true), [.t 18]⟩, ⟨some 20, none, .loud (.call 40), [.t 19]⟩, ⟨none, none, .loud (.st 9), [.t 2, .t 20]⟩] [2]) (.ret)))
def F21 : Fn Try.prog 21 := Fn.mkX false b21 [.c 2 9 true] 21 Try.f21 _ Try.func21 (by decide) rfl Try.ntmps21 (by kernel_rfl) (by kernel_rfl)
/-- signpost/signpostref7.Same -/
def b24 : BC := .seq (.ops [⟨some 2, none, .alloc (.box), [.t 0]⟩, ⟨some 3, none, .alloc (.box), [.t 1]⟩, ⟨some 4, none, .pure (.mov), [.c (.bool false)]⟩] [2, 3]) (.seq (.ops [⟨some 5, none, .load (.ld 9 true), [.t 2]⟩, ⟨some 6, none, .load (.ld 9 true), [.t 3]⟩, ⟨some 7, none, .loud (.call 55), [.t 5, .t 6]⟩, ⟨some 8, none, .pure (.bin .eql), [.t 7, .c (.int .i64 0)]⟩, ⟨some 4, none, .pure (.mov), [.t 8]⟩] [4]) (.ret))
def F24 : Fn Try.prog 24 := Fn.mkX false b24 [.t 4] 9 Try.f24 _ Try.func24 (by decide) rfl Try.ntmps24 (by kernel_rfl) (by kernel_rfl)
/-- signpost/signpostkeep.Attrs -/
def b25 : BC := .seq (.ops [⟨some 2, none, .alloc (.box), [.t 0]⟩, ⟨some 3, none, .alloc (.box), [.t 1]⟩, ⟨some 4, none, .pure (.mov), [.c (.bool false)]⟩] [2, 3]) (.seq (.ops [⟨some 5, none, .pure (.fld 0), [.t 2]⟩, ⟨some 6, none, .load (.ld 1 false), [.t 5]⟩, ⟨some 7, none, .pure (.fld 0), [.t 3]⟩, ⟨some 8, none, .load (.ld 1 false), [.t 7]⟩, ⟨some 9, none, .pure (.bin .eql), [.t 6, .t 8]⟩, ⟨some 10, none, .pure (.mov), [.t 9]⟩, ⟨some 11, some (10, true), .pure (.fld 1), [.t 2]⟩, ⟨some 12, some (10, true), .load (.ld 1 false), [.t 11]⟩, ⟨some 13, some (10, true), .pure (.fld 1), [.t 3]⟩, ⟨some 14, some (10, true), .load (.ld 1 false), [.t 13]⟩, ⟨some 15, some (10, true), .loud (.call 38), [.t 12, .t 14]⟩, ⟨some 16, some (10, true), .pure (.bin .eql), [.t 15, .c (.int .i64 0)]⟩, ⟨some 17, none, .pick, [.t 10, .t 16, .c (.bool false)]⟩, ⟨some 18, none, .pure (.mov), [.t 17]⟩, ⟨some 19, some (18, true), .pure (.fld 2), [.t 2]⟩, ⟨some 20, some (18, true), .load (.ld 1 false), [.t 19]⟩, ⟨some 21, some (18, true), .pure (.fld 2), [.t 3]⟩, ⟨some 22, some (18, true), .load (.ld 1 false), [.t 21]⟩, ⟨some 23, some (18, true), .pure (.bin .eql), [.t 20, .t 22]⟩, ⟨some 24, none, .pick, [.t 18, .t 23, .c (.bool false)]⟩, ⟨some 25, none, .pure (.mov), [.t 24]⟩, ⟨some 26, some (25, true), .pure (.fld 3), [.t 2]⟩, ⟨some 27, some (25, true), .load (.ld 1 false), [.t 26]⟩, ⟨some 28, some (25, true), .pure (.fld 3), [.t 3]⟩, ⟨some 29, some (25, true), .load (.ld 1 false), [.t 28]⟩, ⟨some 30, some (25, true), .pure (.eqb false), [.t 27, .t 29]⟩, ⟨some 31, none, .pick, [.t 25, .t 30, .c (.bool false)]⟩, ⟨some 32, none, .pure (.mov), [.t 31]⟩, ⟨some 33, some (32, true), .pure (.fld 4), [.t 2]⟩, ⟨some 34, some (32, true), .load (.ld 1 false), [.t 33]⟩, ⟨some 35, some (32, true), .pure (.fld 4), [.t 3]⟩, ⟨some 36, some (32, true), .load (.ld 1 false), [.t 35]⟩, ⟨some 37, some (32, true), .pure (.bin .eql), [.t 34, .t 36]⟩, ⟨some 38, none, .pick, [.t 32, .t 37, .c (.bool false)]⟩, ⟨some 39, none, .pure (.mov), [.t 38]⟩, ⟨some 40, some (39, true), .pure (.fld 5), [.t 2]⟩, ⟨some 41, some (39, true), .load (.ld 1 false), [.t 40]⟩, ⟨some 42, some (39, true), .pure (.fld 5), [.t 3]⟩, ⟨some 43, some (39, true), .load (.ld 1 false), [.t 42]⟩, ⟨some 44, some (39, true), .pure (.eqb false), [.t 41, .t 43]⟩, ⟨some 45, none, .pick, [.t 39, .t 44, .c (.bool false)]⟩, ⟨some 46, none, .pure (.mov), [.t 45]⟩, ⟨some 47, some (46, true), .pure (.fld 6), [.t 2]⟩, ⟨some 48, some (46, true), .load (.ld 1 false), [.t 47]⟩, ⟨some 49, some (46, true), .pure (.fld 6), [.t 3]⟩, ⟨some 50, some (46, true), .load (.ld 1 false), [.t 49]⟩, ⟨some 51, some (46, true), .pure (.bin .eql), [.t 48, .t 50]⟩, ⟨some 52, none, .pick, [.t 46, .t 51, .c (.bool false)]⟩, ⟨some 53, none, .pure (.mov), [.t 52]⟩, ⟨some 54, some (53, true), .pure (.fld 7), [.t 2]⟩, ⟨some 55, some (53, true), .load (.ld 1 false), [.t 54]⟩, ⟨some 56, some (53, true), .pure (.fld 7), [.t 3]⟩, ⟨some 57, some (53, true), .load (.ld 1 false), [.t 56]⟩, ⟨some 58, some (53, true), .pure (.eqb false), [.t 55, .t 57]⟩, ⟨some 59, none, .pick, [.t 53, .t 58, .c (.bool false)]⟩, ⟨some 60, none, .pure (.mov), [.t 59]⟩, ⟨some 61, some (60, true), .pure (.fld 8), [.t 2]⟩, ⟨some 62, some (60, true), .load (.ld 1 false), [.t 61]⟩, ⟨some 63, some (60, true), .pure (.fld 8), [.t 3]⟩, ⟨some 64, some (60, true), .load (.ld 1 false), [.t 63]⟩, ⟨some 65, some (60, true), .loud (.call 56), [.t 62, .t 64]⟩, ⟨some 66, none, .pick, [.t 60, .t 65, .c (.bool false)]⟩, ⟨some 4, none, .pure (.mov), [.t 66]⟩] [4]) (.ret))
def F25 : Fn Try.prog 25 := Fn.mkX false b25 [.t 4] 67 Try.f25 _ Try.func25 (by decide) rfl Try.ntmps25 (by kernel_rfl) (by kernel_rfl)
/-- signpost/signpostref6.Order -/
def b38 : BC := .seq (.ops [⟨some 4, none, .pure (.mov), [.c (.int .i64 0)]⟩] [0, 1]) (.seq (.seq (.ops [⟨some 5, none, .pure (.mov), [.c (.int .i64 0)]⟩] [0, 1, 5]) (.block 0 (.loop [0, 1, 5] (.seq (.seq (.ops [⟨some 7, none, .pure (.mov), [.t 5]⟩, ⟨some 8, none, .pure (.mov), [.t 0]⟩, ⟨some 9, none, .pure (.len), [.t 8]⟩, ⟨some 10, none, .pure (.bin .lss), [.t 7, .t 9]⟩, ⟨some 11, none, .pure (.mov), [.t 10]⟩, ⟨some 12, some (11, true), .pure (.mov), [.t 5]⟩, ⟨some 13, some (11, true), .pure (.mov), [.t 1]⟩, ⟨some 14, some (11, true), .pure (.len), [.t 13]⟩, ⟨some 15, some (11, true), .pure (.bin .lss), [.t 12, .t 14]⟩, ⟨some 16, none, .pick, [.t 11, .t 15, .c (.bool false)]⟩] [0, 1, 5, 16]) (.cond (.t 16) (.skip) (.exit 0))) (.seq (.block 1 (.seq (.seq (.ops [⟨some 19, none, .pure (.mov), [.t 0]⟩, ⟨some 20, none, .pure (.mov), [.t 5]⟩, ⟨some 21, none, .pure (.idx 2), [.t 19, .t 20]⟩, ⟨some 22, none, .pure (.fld 0), [.t 21]⟩, ⟨some 24, none, .pure (.mov), [.t 1]⟩, ⟨some 25, none, .pure (.mov), [.t 5]⟩, ⟨some 26, none, .pure (.idx 2), [.t 24, .t 25]⟩, ⟨some 27, none, .pure (.fld 0), [.t 26]⟩, ⟨some 23, none, .load (.ld 1 false), [.t 22]⟩, ⟨some 28, none, .load (.ld 1 false), [.t 27]⟩, ⟨some 29, none, .pure (.bin .neq), [.t 23, .t 28]⟩] [0, 1, 5, 29]) (.cond (.t 29) (.seq (.ops [⟨some 30, none, .pure (.mov), [.t 0]⟩, ⟨some 31, none, .pure (.mov), [.t 5]⟩, ⟨some 32, none, .pure (.idx 2), [.t 30, .t 31]⟩, ⟨some 33, none, .pure (.fld 0), [.t 32]⟩, ⟨some 35, none, .pure (.mov), [.t 1]⟩, ⟨some 36, none, .pure (.mov), [.t 5]⟩, ⟨some 37, none, .pure (.idx 2), [.t 35, .t 36]⟩, ⟨some 38, none, .pure (.fld 0), [.t 37]⟩, ⟨some 34, none, .load (.ld 1 false), [.t 33]⟩, ⟨some 39, none, .load (.ld 1 false), [.t 38]⟩, ⟨some 40, none, .pure (.bin .lss), [.t 34, .t 39]⟩, ⟨some 41, none, .loud (.call 64), [.t 40]⟩, ⟨some 4, none, .pure (.mov), [.t 41]⟩] [4]) (.ret)) (.skip))) (.seq (.seq (.ops [⟨some 42, none, .pure (.mov), [.t 0]⟩, ⟨some 43, none, .pure (.mov), [.t 5]⟩, ⟨some 44, none, .pure (.idx 2), [.t 42, .t 43]⟩, ⟨some 45, none, .pure (.fld 1), [.t 44]⟩, ⟨some 48, none, .pure (.mov), [.t 1]⟩, ⟨some 49, none, .pure (.mov), [.t 5]⟩, ⟨some 50, none, .pure (.idx 2), [.t 48, .t 49]⟩, ⟨some 51, none, .pure (.fld 1), [.t 50]⟩, ⟨some 46, none, .load (.ld 1 false), [.t 45]⟩, ⟨some 47, none, .pure (.len), [.t 46]⟩, ⟨some 52, none, .load (.ld 1 false), [.t 51]⟩, ⟨some 53, none, .pure (.len), [.t 52]⟩, ⟨some 54, none, .pure (.bin .neq), [.t 47, .t 53]⟩] [0, 1, 5, 54]) (.cond (.t 54) (.seq (.ops [⟨some 55, none, .pure (.mov), [.t 0]⟩, ⟨some 56, none, .pure (.mov), [.t 5]⟩, ⟨some 57, none, .pure (.idx 2), [.t 55, .t 56]⟩, ⟨some 58, none, .pure (.fld 1), [.t 57]⟩, ⟨some 61, none, .pure (.mov), [.t 1]⟩, ⟨some 62, none, .pure (.mov), [.t 5]⟩, ⟨some 63, none, .pure (.idx 2), [.t 61, .t 62]⟩, ⟨some 64, none, .pure (.fld 1), [.t 63]⟩, ⟨some 59, none, .load (.ld 1 false), [.t 58]⟩, ⟨some 60, none, .pure (.len), [.t 59]⟩, ⟨some 65, none, .load (.ld 1 false), [.t 64]⟩, ⟨some 66, none, .pure (.len), [.t 65]⟩, ⟨some 67, none, .pure (.bin .lss), [.t 60, .t 66]⟩, ⟨some 68, none, .loud (.call 64), [.t 67]⟩, ⟨some 4, none, .pure (.mov), [.t 68]⟩] [4]) (.ret)) (.skip))) (.seq (.ops [⟨some 6, none, .pure (.mov), [.c (.int .i64 0)]⟩] [0, 1, 5, 6]) (.block 2 (.loop [0, 1, 5, 6] (.seq (.seq (.ops [⟨some 69, none, .pure (.mov), [.t 6]⟩, ⟨some 70, none, .pure (.mov), [.t 0]⟩, ⟨some 71, none, .pure (.mov), [.t 5]⟩, ⟨some 72, none, .pure (.idx 2), [.t 70, .t 71]⟩, ⟨some 73, none, .pure (.fld 1), [.t 72]⟩, ⟨some 74, none, .load (.ld 1 false), [.t 73]⟩, ⟨some 75, none, .pure (.len), [.t 74]⟩, ⟨some 76, none, .pure (.bin .lss), [.t 69, .t 75]⟩] [0, 1, 5, 6, 76]) (.cond (.t 76) (.skip) (.exit 2))) (.seq (.block 3 (.seq (.ops [⟨some 79, none, .pure (.mov), [.t 0]⟩, ⟨some 80, none, .pure (.mov), [.t 5]⟩, ⟨some 81, none, .pure (.idx 2), [.t 79, .t 80]⟩, ⟨some 82, none, .pure (.fld 1), [.t 81]⟩, ⟨some 84, none, .pure (.mov), [.t 6]⟩, ⟨some 87, none, .pure (.mov), [.t 1]⟩, ⟨some 88, none, .pure (.mov), [.t 5]⟩, ⟨some 89, none, .pure (.idx 2), [.t 87, .t 88]⟩, ⟨some 90, none, .pure (.fld 1), [.t 89]⟩, ⟨some 92, none, .pure (.mov), [.t 6]⟩, ⟨some 83, none, .load (.ld 1 false), [.t 82]⟩, ⟨some 85, none, .pure (.idx 1), [.t 83, .t 84]⟩, ⟨some 86, none, .load (.ld 1 false), [.t 85]⟩, ⟨some 91, none, .load (.ld 1 false), [.t 90]⟩, ⟨some 93, none, .pure (.idx 1), [.t 91, .t 92]⟩, ⟨some 94, none, .load (.ld 1 false), [.t 93]⟩, ⟨some 95, none, .pure (.bin .neq), [.t 86, .t 94]⟩] [0, 1, 5, 6, 95]) (.cond (.t 95) (.seq (.ops [⟨some 96, none, .pure (.mov), [.t 0]⟩, ⟨some 97, none, .pure (.mov), [.t 5]⟩, ⟨some 98, none, .pure (.idx 2), [.t 96, .t 97]⟩, ⟨some 99, none, .pure (.fld 1), [.t 98]⟩, ⟨some 101, none, .pure (.mov), [.t 6]⟩, ⟨some 104, none, .pure (.mov), [.t 1]⟩, ⟨some 105, none, .pure (.mov), [.t 5]⟩, ⟨some 106, none, .pure (.idx 2), [.t 104, .t 105]⟩, ⟨some 107, none, .pure (.fld 1), [.t 106]⟩, ⟨some 109, none, .pure (.mov), [.t 6]⟩, ⟨some 100, none, .load (.ld 1 false), [.t 99]⟩, ⟨some 102, none, .pure (.idx 1), [.t 100, .t 101]⟩, ⟨some 103, none, .load (.ld 1 false), [.t 102]⟩, ⟨some 108, none, .load (.ld 1 false), [.t 107]⟩, ⟨some 110, none, .pure (.idx 1), [.t 108, .t 109]⟩, ⟨some 111, none, .load (.ld 1 false), [.t 110]⟩, ⟨some 112, none, .pure (.bin .lss), [.t 103, .t 111]⟩, ⟨some 113, none, .loud (.call 64), [.t 112]⟩, ⟨some 4, none, .pure (.mov), [.t 113]⟩] [4]) (.ret)) (.skip)))) (.ops [⟨some 77, none, .pure (.mov), [.t 6]⟩, ⟨some 78, none, .pure (.bin .add), [.t 77, .c (.int .i64 1)]⟩, ⟨some 6, none, .pure (.mov), [.t 78]⟩] [0, 1, 5, 6]))))))))) (.ops [⟨some 17, none, .pure (.mov), [.t 5]⟩, ⟨some 18, none, .pure (.bin .add), [.t 17, .c (.int .i64 1)]⟩, ⟨some 5, none, .pure (.mov), [.t 18]⟩] [0, 1, 5])))))) (.seq (.seq (.ops [⟨some 114, none, .pure (.mov), [.t 0]⟩, ⟨some 115, none, .pure (.len), [.t 114]⟩, ⟨some 116, none, .pure (.mov), [.t 1]⟩, ⟨some 117, none, .pure (.len), [.t 116]⟩, ⟨some 118, none, .pure (.bin .neq), [.t 115, .t 117]⟩] [0, 1, 118]) (.cond (.t 118) (.seq (.ops [⟨some 119, none, .pure (.mov), [.t 0]⟩, ⟨some 120, none, .pure (.len), [.t 119]⟩, ⟨some 121, none, .pure (.mov), [.t 1]⟩, ⟨some 122, none, .pure (.len), [.t 121]⟩, ⟨some 123, none, .pure (.bin .lss), [.t 120, .t 122]⟩, ⟨some 124, none, .loud (.call 64), [.t 123]⟩, ⟨some 4, none, .pure (.mov), [.t 124]⟩] [4]) (.ret)) (.skip))) (.seq (.ops [⟨some 4, none, .pure (.mov), [.c (.int .i64 0)]⟩] [4]) (.ret))))
def F38 : Fn Try.prog 38 := Fn.mkX false b38 [.t 4] 125 Try.f38 _ Try.func38 (by decide) rfl Try.ntmps38 (by kernel_rfl) (by kernel_rfl)
/-- signpost/signpostref6.Copy -/
def b51 : BC := .seq (.ops [⟨some 2, none, .pure (.mov), [.c .nils]⟩] [0]) (.seq (.ops [⟨some 3, none, .pure (.mov), [.c .nils]⟩] [0, 3]) (.seq (.seq (.ops [⟨some 4, none, .pure (.mov), [.c (.int .i64 0)]⟩] [0, 3, 4]) (.block 0 (.loop [0, 3, 4] (.seq (.seq (.ops [⟨some 5, none, .pure (.mov), [.t 4]⟩, ⟨some 6, none, .pure (.mov), [.t 0]⟩, ⟨some 7, none, .pure (.len), [.t 6]⟩, ⟨some 8, none, .pure (.bin .lss), [.t 5, .t 7]⟩] [0, 3, 4, 8]) (.cond (.t 8) (.skip) (.exit 0))) (.seq (.block 1 (.seq (.ops [⟨some 11, none, .pure (.mov), [.t 3]⟩] [0, 4, 11]) (.seq (.ops [⟨some 12, none, .pure (.mov), [.t 0]⟩] [0, 4, 11, 12]) (.seq (.ops [⟨some 13, none, .pure (.mov), [.t 4]⟩] [0, 4, 11, 12, 13]) (.seq (.ops [⟨some 14, none, .pure (.idx 2), [.t 12, .t 13]⟩] [0, 4, 11, 14]) (.seq (.ops [⟨some 15, none, .pure (.fld 0), [.t 14]⟩] [0, 4, 11, 15]) (.seq (.ops [⟨some 18, none, .pure (.mov), [.t 0]⟩] [0, 4, 11, 15, 18]) (.seq (.ops [⟨some 19, none, .pure (.mov), [.t 4]⟩] [0, 4, 11, 15, 18, 19]) (.seq (.ops [⟨some 20, none, .pure (.idx 2), [.t 18, .t 19]⟩] [0, 4, 11, 15, 20]) (.seq (.ops [⟨some 21, none, .pure (.fld 1), [.t 20]⟩] [0, 4, 11, 15, 21]) (.seq (.ops [⟨some 22, none, .load (.ld 1 false), [.t 21]⟩] [0, 4, 11, 15, 22]) (.both (.seq (.ops [⟨some 16, none, .load (.ld 1 false), [.t 15]⟩] [0, 4, 11, 16, 22]) (.seq (.ops [⟨some 17, none, .alloc (.mksl 1 0), []⟩] [0, 4, 11, 16, 17, 22]) (.seq (.ops [⟨some 23, none, .loud (.app 1 4), [.t 17, .t 22]⟩] [0, 4, 11, 16, 23]) (.seq (.ops [⟨some 24, none, .pure (.build [(.int .i64 0), .nils] [(0, 1), (1, 1)]), [.t 16, .t 23]⟩] [0, 4, 11, 24]) (.seq (.ops [⟨some 25, none, .alloc (.mksl 2 1), [.t 24]⟩] [0, 4, 11, 25]) (.seq (.ops [⟨some 26, none, .loud (.app 2 32), [.t 11, .t 25]⟩] [0, 4, 26]) (.seq (.ops [⟨some 3, none, .pure (.mov), [.t 26]⟩] [0, 3, 4]) (.ops [] [0, 3, 4])))))))) (.both (.seq (.ops [⟨some 17, none, .alloc (.mksl 1 0), []⟩] [0, 4, 11, 15, 17, 22]) (.both (.seq (.ops [⟨some 16, none, .load (.ld 1 false), [.t 15]⟩] [0, 4, 11, 16, 17, 22]) (.seq (.ops [⟨some 23, none, .loud (.app 1 4), [.t 17, .t 22]⟩] [0, 4, 11, 16, 23]) (.seq (.ops [⟨some 24, none, .pure (.build [(.int .i64 0), .nils] [(0, 1), (1, 1)]), [.t 16, .t 23]⟩] [0, 4, 11, 24]) (.seq (.ops [⟨some 25, none, .alloc (.mksl 2 1), [.t 24]⟩] [0, 4, 11, 25]) (.seq (.ops [⟨some 26, none, .loud (.app 2 32), [.t 11, .t 25]⟩] [0, 4, 26]) (.seq (.ops [⟨some 3, none, .pure (.mov), [.t 26]⟩] [0, 3, 4]) (.ops [] [0, 3, 4]))))))) (.both (.seq (.ops [⟨some 23, none, .loud (.app 1 4), [.t 17, .t 22]⟩] [0, 4, 11, 15, 23]) (.seq (.ops [⟨some 16, none, .load (.ld 1 false), [.t 15]⟩] [0, 4, 11, 16, 23]) (.seq (.ops [⟨some 24, none, .pure (.build [(.int .i64 0), .nils] [(0, 1), (1, 1)]), [.t 16, .t 23]⟩] [0, 4, 11, 24]) (.seq (.ops [⟨some 25, none, .alloc (.mksl 2 1), [.t 24]⟩] [0, 4, 11, 25]) (.seq (.ops [⟨some 26, none, .loud (.app 2 32), [.t 11, .t 25]⟩] [0, 4, 26]) (.seq (.ops [⟨some 3, none, .pure (.mov), [.t 26]⟩] [0, 3, 4]) (.ops [] [0, 3, 4]))))))) (.top)))) (.top)))))))))))))) (.ops [⟨some 9, none, .pure (.mov), [.t 4]⟩, ⟨some 10, none, .pure (.bin .add), [.t 9, .c (.int .i64 1)]⟩, ⟨some 4, none, .pure (.mov), [.t 10]⟩] [0, 3, 4])))))) (.seq (.ops [⟨some 27, none, .pure (.mov), [.t 3]⟩, ⟨some 2, none, .pure (.mov), [.t 27]⟩] [2]) (.ret))))
def F51 : Fn Try.prog 51 := Fn.mkX false b51 [.t 2] 28 Try.f51 _ Try.func51 (by decide) rfl Try.ntmps51 (by kernel_rfl) (by kernel_rfl)
/-- signpost/signpostref7.Order -/
def b55 : BC := .seq (.ops [⟨some 2, none, .alloc (.box), [.t 0]⟩, ⟨some 3, none, .alloc (.box), [.t 1]⟩, ⟨some 4, none, .pure (.mov), [.c (.int .i64 0)]⟩] [2, 3]) (.seq (.ops [⟨some 7, none, .load (.ld 9 true), [.t 2]⟩, ⟨some 9, none, .load (.ld 9 true), [.t 3]⟩, ⟨some 8, none, .qcall 20, [.t 7]⟩, ⟨some 10, none, .qcall 20, [.t 9]⟩, ⟨none, none, .loud (.st 9), [.t 2, .t 8]⟩, ⟨none, none, .loud (.st 9), [.t 3, .t 10]⟩] [2, 3]) (.seq (.seq (.ops [⟨some 11, none, .pure (.fld 0), [.t 2]⟩, ⟨some 12, none, .load (.ld 1 false), [.t 11]⟩, ⟨some 13, none, .pure (.fld 0), [.t 3]⟩, ⟨some 14, none, .load (.ld 1 false), [.t 13]⟩, ⟨some 15, none, .pure (.bin .neq), [.t 12, .t 14]⟩] [2, 3, 15]) (.cond (.t 15) (.seq (.ops [⟨some 16, none, .pure (.fld 0), [.t 2]⟩, ⟨some 17, none, .load (.ld 1 false), [.t 16]⟩, ⟨some 18, none, .pure (.fld 0), [.t 3]⟩, ⟨some 19, none, .load (.ld 1 false), [.t 18]⟩, ⟨some 20, none, .pure (.bin .lss), [.t 17, .t 19]⟩, ⟨some 21, none, .loud (.call 83), [.t 20]⟩, ⟨some 4, none, .pure (.mov), [.t 21]⟩] [4]) (.ret)) (.skip))) (.seq (.seq (.ops [⟨some 22, none, .pure (.fld 1), [.t 2]⟩, ⟨some 23, none, .load (.ld 1 false), [.t 22]⟩, ⟨some 24, none, .pure (.fld 1), [.t 3]⟩, ⟨some 25, none, .load (.ld 1 false), [.t 24]⟩, ⟨some 26, none, .loud (.call 38), [.t 23, .t 25]⟩, ⟨some 5, none, .pure (.mov), [.t 26]⟩] [2, 3, 5]) (.seq (.ops [⟨some 27, none, .pure (.mov), [.t 5]⟩, ⟨some 28, none, .pure (.bin .neq), [.t 27, .c (.int .i64 0)]⟩] [2, 3, 5, 28]) (.cond (.t 28) (.seq (.ops [⟨some 29, none, .pure (.mov), [.t 5]⟩, ⟨some 4, none, .pure (.mov), [.t 29]⟩] [4]) (.ret)) (.skip)))) (.seq (.block 0 (.seq (.ops [⟨some 31, none, .pure (.fld 2), [.t 2]⟩, ⟨some 32, none, .load (.ld 1 false), [.t 31]⟩, ⟨some 33, none, .pure (.fld 2), [.t 3]⟩, ⟨some 34, none, .load (.ld 1 false), [.t 33]⟩, ⟨some 35, none, .pure (.bin .neq), [.t 32, .t 34]⟩, ⟨some 30, none, .pure (.mov), [.t 35]⟩] [2, 3, 30]) (.cond (.t 30) (.seq (.ops [⟨some 36, none, .pure (.fld 2), [.t 2]⟩, ⟨some 37, none, .load (.ld 1 false), [.t 36]⟩, ⟨some 38, none, .pure (.fld 2), [.t 3]⟩, ⟨some 39, none, .load (.ld 1 false), [.t 38]⟩, ⟨some 40, none, .pure (.bin .lss), [.t 37, .t 39]⟩, ⟨some 41, none, .loud (.call 83), [.t 40]⟩, ⟨some 4, none, .pure (.mov), [.t 41]⟩] [4]) (.ret)) (.seq (.ops [⟨some 43, none, .pure (.fld 3), [.t 2]⟩, ⟨some 44, none, .load (.ld 1 false), [.t 43]⟩, ⟨some 45, none, .pure (.fld 3), [.t 3]⟩, ⟨some 46, none, .load (.ld 1 false), [.t 45]⟩, ⟨some 47, none, .pure (.eqb true), [.t 44, .t 46]⟩, ⟨some 42, none, .pure (.mov), [.t 47]⟩] [2, 3, 42]) (.cond (.t 42) (.seq (.ops [⟨some 48, none, .pure (.fld 3), [.t 2]⟩, ⟨some 49, none, .load (.ld 1 false), [.t 48]⟩, ⟨some 50, none, .pure (.not), [.t 49]⟩, ⟨some 51, none, .loud (.call 83), [.t 50]⟩, ⟨some 4, none, .pure (.mov), [.t 51]⟩] [4]) (.ret)) (.seq (.ops [⟨some 53, none, .pure (.fld 4), [.t 2]⟩, ⟨some 54, none, .load (.ld 1 false), [.t 53]⟩, ⟨some 55, none, .pure (.fld 4), [.t 3]⟩, ⟨some 56, none, .load (.ld 1 false), [.t 55]⟩, ⟨some 57, none, .pure (.bin .neq), [.t 54, .t 56]⟩, ⟨some 52, none, .pure (.mov), [.t 57]⟩] [2, 3, 52]) (.cond (.t 52) (.seq (.ops [⟨some 58, none, .pure (.fld 4), [.t 2]⟩, ⟨some 59, none, .load (.ld 1 false), [.t 58]⟩, ⟨some 60, none, .pure (.fld 4), [.t 3]⟩, ⟨some 61, none, .load (.ld 1 false), [.t 60]⟩, ⟨some 62, none, .pure (.bin .lss), [.t 59, .t 61]⟩, ⟨some 63, none, .loud (.call 83), [.t 62]⟩, ⟨some 4, none, .pure (.mov), [.t 63]⟩] [4]) (.ret)) (.seq (.ops [⟨some 65, none, .pure (.fld 5), [.t 2]⟩, ⟨some 66, none, .load (.ld 1 false), [.t 65]⟩, ⟨some 67, none, .pure (.fld 5), [.t 3]⟩, ⟨some 68, none, .load (.ld 1 false), [.t 67]⟩, ⟨some 69, none, .pure (.eqb true), [.t 66, .t 68]⟩, ⟨some 64, none, .pure (.mov), [.t 69]⟩] [2, 3, 64]) (.cond (.t 64) (.seq (.ops [⟨some 70, none, .pure (.fld 5), [.t 2]⟩, ⟨some 71, none, .load (.ld 1 false), [.t 70]⟩, ⟨some 72, none, .pure (.not), [.t 71]⟩, ⟨some 73, none, .loud (.call 83), [.t 72]⟩, ⟨some 4, none, .pure (.mov), [.t 73]⟩] [4]) (.ret)) (.seq (.ops [⟨some 75, none, .pure (.fld 6), [.t 2]⟩, ⟨some 76, none, .load (.ld 1 false), [.t 75]⟩, ⟨some 77, none, .pure (.fld 6), [.t 3]⟩, ⟨some 78, none, .load (.ld 1 false), [.t 77]⟩, ⟨some 79, none, .pure (.bin .neq), [.t 76, .t 78]⟩, ⟨some 74, none, .pure (.mov), [.t 79]⟩] [2, 3, 74]) (.cond (.t 74) (.seq (.ops [⟨some 80, none, .pure (.fld 6), [.t 2]⟩, ⟨some 81, none, .load (.ld 1 false), [.t 80]⟩, ⟨some 82, none, .pure (.fld 6), [.t 3]⟩, ⟨some 83, none, .load (.ld 1 false), [.t 82]⟩, ⟨some 84, none, .pure (.bin .lss), [.t 81, .t 83]⟩, ⟨some 85, none, .loud (.call 83), [.t 84]⟩, ⟨some 4, none, .pure (.mov), [.t 85]⟩] [4]) (.ret)) (.seq (.ops [⟨some 87, none, .pure (.fld 7), [.t 2]⟩, ⟨some 88, none, .load (.ld 1 false), [.t 87]⟩, ⟨some 89, none, .pure (.fld 7), [.t 3]⟩, ⟨some 90, none, .load (.ld 1 false), [.t 89]⟩, ⟨some 91, none, .pure (.eqb true), [.t 88, .t 90]⟩, ⟨some 86, none, .pure (.mov), [.t 91]⟩] [2, 3, 86]) (.cond (.t 86) (.seq (.ops [⟨some 92, none, .pure (.fld 7), [.t 2]⟩, ⟨some 93, none, .load (.ld 1 false), [.t 92]⟩, ⟨some 94, none, .pure (.not), [.t 93]⟩, ⟨some 95, none, .loud (.call 83), [.t 94]⟩, ⟨some 4, none, .pure (.mov), [.t 95]⟩] [4]) (.ret)) (.skip)))))))))))))) (.seq (.seq (.ops [⟨some 6, none, .pure (.mov), [.c (.int .i64 0)]⟩] [2, 3, 6]) (.block 1 (.loop [2, 3, 6] (.seq (.seq (.ops [⟨some 96, none, .pure (.mov), [.t 6]⟩, ⟨some 97, none, .pure (.fld 8), [.t 2]⟩, ⟨some 98, none, .load (.ld 1 false), [.t 97]⟩, ⟨some 99, none, .pure (.len), [.t 98]⟩, ⟨some 100, none, .pure (.bin .lss), [.t 96, .t 99]⟩, ⟨some 101, none, .pure (.mov), [.t 100]⟩, ⟨some 102, some (101, true), .pure (.mov), [.t 6]⟩, ⟨some 103, some (101, true), .pure (.fld 8), [.t 3]⟩, ⟨some 104, some (101, true), .load (.ld 1 false), [.t 103]⟩, ⟨some 105, some (101, true), .pure (.len), [.t 104]⟩, ⟨some 106, some (101, true), .pure (.bin .lss), [.t 102, .t 105]⟩, ⟨some 107, none, .pick, [.t 101, .t 106, .c (.bool false)]⟩] [2, 3, 6, 107]) (.cond (.t 107) (.skip) (.exit 1))) (.seq (.block 2 (.seq (.ops [⟨some 110, none, .pure (.fld 8), [.t 2]⟩, ⟨some 112, none, .pure (.mov), [.t 6]⟩, ⟨some 115, none, .pure (.fld 8), [.t 3]⟩, ⟨some 117, none, .pure (.mov), [.t 6]⟩, ⟨some 111, none, .load (.ld 1 false), [.t 110]⟩, ⟨some 113, none, .pure (.idx 1), [.t 111, .t 112]⟩, ⟨some 114, none, .load (.ld 1 false), [.t 113]⟩, ⟨some 116, none, .load (.ld 1 false), [.t 115]⟩, ⟨some 118, none, .pure (.idx 1), [.t 116, .t 117]⟩, ⟨some 119, none, .load (.ld 1 false), [.t 118]⟩, ⟨some 120, none, .pure (.bin .neq), [.t 114, .t 119]⟩] [2, 3, 6, 120]) (.cond (.t 120) (.seq (.ops [⟨some 121, none, .pure (.fld 8), [.t 2]⟩, ⟨some 123, none, .pure (.mov), [.t 6]⟩, ⟨some 126, none, .pure (.fld 8), [.t 3]⟩, ⟨some 128, none, .pure (.mov), [.t 6]⟩, ⟨some 122, none, .load (.ld 1 false), [.t 121]⟩, ⟨some 124, none, .pure (.idx 1), [.t 122, .t 123]⟩, ⟨some 125, none, .load (.ld 1 false), [.t 124]⟩, ⟨some 127, none, .load (.ld 1 false), [.t 126]⟩, ⟨some 129, none, .pure (.idx 1), [.t 127, .t 128]⟩, ⟨some 130, none, .load (.ld 1 false), [.t 129]⟩, ⟨some 131, none, .pure (.bin .lss), [.t 125, .t 130]⟩, ⟨some 132, none, .loud (.call 83), [.t 131]⟩, ⟨some 4, none, .pure (.mov), [.t 132]⟩] [4]) (.ret)) (.skip)))) (.ops [⟨some 108, none, .pure (.mov), [.t 6]⟩, ⟨some 109, none, .pure (.bin .add), [.t 108, .c (.int .i64 1)]⟩, ⟨some 6, none, .pure (.mov), [.t 109]⟩] [2, 3, 6])))))) (.seq (.seq (.ops [⟨some 133, none, .pure (.fld 8), [.t 2]⟩, ⟨some 134, none, .load (.ld 1 false), [.t 133]⟩, ⟨some 135, none, .pure (.len), [.t 134]⟩, ⟨some 136, none, .pure (.fld 8), [.t 3]⟩, ⟨some 137, none, .load (.ld 1 false), [.t 136]⟩, ⟨some 138, none, .pure (.len), [.t 137]⟩, ⟨some 139, none, .pure (.bin .neq), [.t 135, .t 138]⟩] [2, 3, 139]) (.cond (.t 139) (.seq (.ops [⟨some 140, none, .pure (.fld 8), [.t 2]⟩, ⟨some 141, none, .load (.ld 1 false), [.t 140]⟩, ⟨some 142, none, .pure (.len), [.t 141]⟩, ⟨some 143, none, .pure (.fld 8), [.t 3]⟩, ⟨some 144, none, .load (.ld 1 false), [.t 143]⟩, ⟨some 145, none, .pure (.len), [.t 144]⟩, ⟨some 146, none, .pure (.bin .lss), [.t 142, .t 145]⟩, ⟨some 147, none, .loud (.call 83), [.t 146]⟩, ⟨some 4, none, .pure (.mov), [.t 147]⟩] [4]) (.ret)) (.skip))) (.seq (.ops [⟨some 4, none, .pure (.mov), [.c (.int .i64 0)]⟩] [4]) (.ret))))))))
def F55 : Fn Try.prog 55 := Fn.mkX false b55 [.t 4] 148 Try.f55 _ Try.func55 (by decide) rfl Try.ntmps55 (by kernel_rfl) (by kernel_rfl)
/-- signpost/signpostbook.Same[uint32] -/
def b56 : BC := .seq (.ops [⟨some 4, none, .pure (.mov), [.c (.bool false)]⟩] [0, 1]) (.seq (.seq (.ops [⟨some 6, none, .pure (.mov), [.t 0]⟩, ⟨some 7, none, .pure (.len), [.t 6]⟩, ⟨some 8, none, .pure (.mov), [.t 1]⟩, ⟨some 9, none, .pure (.len), [.t 8]⟩, ⟨some 10, none, .pure (.bin .neq), [.t 7, .t 9]⟩] [0, 1, 10]) (.cond (.t 10) (.seq (.ops [⟨some 4, none, .pure (.mov), [.c (.bool false)]⟩] [4]) (.ret)) (.skip))) (.seq (.seq (.ops [⟨some 5, none, .pure (.mov), [.c (.int .i64 0)]⟩] [0, 1, 5]) (.block 0 (.loop [0, 1, 5] (.seq (.seq (.ops [⟨some 11, none, .pure (.mov), [.t 5]⟩, ⟨some 12, none, .pure (.mov), [.t 0]⟩, ⟨some 13, none, .pure (.len), [.t 12]⟩, ⟨some 14, none, .pure (.bin .lss), [.t 11, .t 13]⟩] [0, 1, 5, 14]) (.cond (.t 14) (.skip) (.exit 0))) (.seq (.block 1 (.seq (.ops [⟨some 17, none, .pure (.mov), [.t 0]⟩, ⟨some 18, none, .pure (.mov), [.t 5]⟩, ⟨some 19, none, .pure (.idx 1), [.t 17, .t 18]⟩, ⟨some 21, none, .pure (.mov), [.t 1]⟩, ⟨some 22, none, .pure (.mov), [.t 5]⟩, ⟨some 23, none, .pure (.idx 1), [.t 21, .t 22]⟩, ⟨some 20, none, .load (.ld 1 false), [.t 19]⟩, ⟨some 24, none, .load (.ld 1 false), [.t 23]⟩, ⟨some 25, none, .pure (.bin .neq), [.t 20, .t 24]⟩] [0, 1, 5, 25]) (.cond (.t 25) (.seq (.ops [⟨some 4, none, .pure (.mov), [.c (.bool false)]⟩] [4]) (.ret)) (.skip)))) (.ops [⟨some 15, none, .pure (.mov), [.t 5]⟩, ⟨some 16, none, .pure (.bin .add), [.t 15, .c (.int .i64 1)]⟩, ⟨some 5, none, .pure (.mov), [.t 16]⟩] [0, 1, 5])))))) (.seq (.ops [⟨some 4, none, .pure (.mov), [.c (.bool true)]⟩] [4]) (.ret))))
def F56 : Fn Try.prog 56 := Fn.mkX false b56 [.t 4] 26 Try.f56 _ Try.func56 (by decide) rfl Try.ntmps56 (by kernel_rfl) (by kernel_rfl)
/-- signpost/signpostref6.side -/
def b64 : BC := .seq (.ops [⟨some 2, none, .pure (.mov), [.c (.int .i64 0)]⟩] [0]) (.seq (.seq (.ops [⟨some 3, none, .pure (.mov), [.t 0]⟩] [3]) (.cond (.t 3) (.seq (.ops [⟨some 2, none, .pure (.mov), [.c (.int .i64 (-1))]⟩] [2]) (.ret)) (.skip))) (.seq (.ops [⟨some 2, none, .pure (.mov), [.c (.int .i64 1)]⟩] [2]) (.ret)))
def F64 : Fn Try.prog 64 := Fn.mkX false b64 [.t 2] 4 Try.f64 _ Try.func64 (by decide) rfl Try.ntmps64 (by kernel_rfl) (by kernel_rfl)
/-- signpost/signpostref7.side -/
def b83 : BC := .seq (.ops [⟨some 2, none, .pure (.mov), [.c (.int .i64 0)]⟩] [0]) (.seq (.seq (.ops [⟨some 3, none, .pure (.mov), [.t 0]⟩] [3]) (.cond (.t 3) (.seq (.ops [⟨some 2, none, .pure (.mov), [.c (.int .i64 (-1))]⟩] [2]) (.ret)) (.skip))) (.seq (.ops [⟨some 2, none, .pure (.mov), [.c (.int .i64 1)]⟩] [2]) (.ret)))
def F83 : Fn Try.prog 83 := Fn.mkX false b83 [.t 2] 4 Try.f83 _ Try.func83 (by decide) rfl Try.ntmps83 (by kernel_rfl) (by kernel_rfl)
end Go.Am.Tst

/- B1 -/
namespace Go.Am
open Go.Proofs Go.Sort

def sideF (b : Bool) : Int := if b then -1 else 1
theorem c64 (b : Bool) : Pur Try.prog 64 [.bool b] (.int .i64 (sideF b)) := by
  refine pur_of Tst.F64 (by simp [Tst.F64, Fn.mkX]) fun σ => ?_
  simp only [Tst.F64, Fn.mkX, Tst.b64]
  cases b <;> simp only [↓vcPre, ↓wit_get, ↓reduceIte, vcPost, vcStd, Nat.reduceEqDiff, reduceCtorEq, Nat.reduceAdd, Nat.reduceLeDiff, Int.reduceLT, Int.reduceLE, ↓u_setN] <;> rfl
theorem c56 (l m : List Int) (h : l.length ≤ 1000000) : Pur Try.prog 56 [.sl 1 (l.map cU), .sl 1 (m.map cU)] (.bool (decide (l = m))) := by
  refine pur_of Tst.F56 (by simp [Tst.F56, Fn.mkX]) fun σ => ?_
  simp only [Tst.F56, Fn.mkX, Tst.b56]
  simp only [↓vcPre, ↓wit_get, ↓reduceIte, vcPost, vcStd, Nat.reduceEqDiff, reduceCtorEq, Nat.reduceAdd, Nat.reduceLeDiff, Int.reduceLT, Int.reduceLE, ↓u_setN]
  refine ⟨fun h1 => (decide_eq_false (fun e => h1 (by rw [e]))).symm, fun h1 => ?_⟩
  have hl : l.length = m.length := by omega
  refine LoopQ.inv (S := Nat) (fun k => [(0, .sl 1 (l.map cU)), (1, .sl 1 (m.map cU)), (5, .int .i64 (k : Int))]) (fun _ => σ) (fun k => k ≤ l.length ∧ ∀ i (hi : i < l.length), i < k → l[i] = m[i]'(by omega)) (fun k => l.length + 1 - k) 0 rfl (Store.sub_refl _) ⟨by omega, fun i _ h => by omega⟩ ?_
  rintro k ⟨hk, hp⟩
  simp only [↓vcPre, ↓wit_get, ↓reduceIte, vcPost, vcStd, Nat.reduceEqDiff, reduceCtorEq, Nat.reduceAdd, Nat.reduceLeDiff, Int.reduceLT, Int.reduceLE, ↓u_setN]
  refine ⟨fun c1 => ?_, fun c1 => ?_⟩
  · have ek : IntKind.i64.wrap ((k : Int) + 1) = ((k + 1 : Nat) : Int) := by rw [wrap64 (by unfold I64; omega)]; omega
    refine ⟨c1, by omega, by simp [cU], ?_⟩
    simp only [cU, ↓vcPre, ↓wit_get, ↓reduceIte, vcPost, vcStd, Nat.reduceEqDiff, reduceCtorEq, Nat.reduceAdd, Nat.reduceLeDiff, Int.reduceLT, Int.reduceLE, ↓u_setN]
    refine ⟨fun g1 => ?_, fun g1 => ?_⟩
    · refine (decide_eq_false fun e => g1 ?_).symm
      subst e; rfl
    · rw [ek]
      refine NextQ.to (k + 1) rfl (Store.sub_refl _) (by omega) ⟨by omega, fun i hi hik => ?_⟩
      by_cases hik' : i = k
      · subst hik'; exact g1
      · exact hp i hi (by omega)
  · exact (decide_eq_true (List.ext_getElem hl fun i hi hi' => hp i hi (by omega))).symm
theorem c38 (l m : List Seg) (hl : l.length ≤ 1000000) (hm : m.length ≤ 1000000) (hlo : ∀ s ∈ l, s.ok) (hmo : ∀ s ∈ m, s.ok) : Pur Try.prog 38 [.sl 2 (l.map Seg.c), .sl 2 (m.map Seg.c)] (.int .i64 (cmpPath l m)) := by
  refine pur_of Tst.F38 (by simp [Tst.F38, Fn.mkX]) fun σ => ?_
  simp only [Tst.F38, Fn.mkX, Tst.b38]
  simp only [↓vcPre, ↓wit_get, ↓reduceIte, vcPost, vcStd, Nat.reduceEqDiff, reduceCtorEq, Nat.reduceAdd, Nat.reduceLeDiff, Int.reduceLT, Int.reduceLE, ↓u_setN]
  refine LoopQ.inv (S := Nat) (fun k => [(0, .sl 2 (l.map Seg.c)), (1, .sl 2 (m.map Seg.c)), (5, .int .i64 (k : Int))]) (fun _ => σ) (fun k => k ≤ l.length ∧ k ≤ m.length ∧ cmpG cmpSeg (l.drop k) (m.drop k) = cmpPath l m) (fun k => l.length + 1 - k) 0 rfl (Store.sub_refl _) ⟨by omega, by omega, rfl⟩ ?_
  rintro k ⟨hk, hk2, ho⟩
  simp only [↓vcPre, ↓wit_get, ↓reduceIte, vcPost, vcStd, Nat.reduceEqDiff, reduceCtorEq, Nat.reduceAdd, Nat.reduceLeDiff, Int.reduceLT, Int.reduceLE, ↓u_setN]
  have hside : ∀ x y : Int, x ≠ y → sideF (decide (x < y)) = cmpI x y := fun x y h => by
    unfold sideF cmpI
    by_cases h1 : x < y
    · simp [h1]
    · have h2 : y < x := by omega
      simp [h1, h2]
  have he1 : (k = l.length ∨ k = m.length) → ¬ (l.length : Int) = (m.length : Int) → sideF (decide (l.length < m.length)) = cmpPath l m := fun hkk h1 => by
    rw [← ho]
    by_cases h2 : l.length < m.length
    · rw [show List.drop k l = [] from List.drop_eq_nil_of_le (by omega), List.drop_eq_getElem_cons (l := m) (by omega)]
      simp [sideF, cmpG, h2]
    · rw [show List.drop k m = [] from List.drop_eq_nil_of_le (by omega), List.drop_eq_getElem_cons (l := l) (by omega)]
      simp [sideF, cmpG, h2]
  have he2 : (k = l.length ∨ k = m.length) → (l.length : Int) = (m.length : Int) → 0 = cmpPath l m := fun hkk h1 => by
    rw [← ho, show List.drop k l = [] from List.drop_eq_nil_of_le (by omega), show List.drop k m = [] from List.drop_eq_nil_of_le (by omega)]
    rfl
  refine ⟨fun c1 => ⟨fun c2 => ?_, fun c2 => ?_⟩, fun c1 => ?_⟩
  · rw [List.drop_eq_getElem_cons c1, List.drop_eq_getElem_cons c2] at ho
    simp only [cmpG] at ho
    refine ⟨c1, c2, by simp [Seg.c], ?_⟩
    have hxo := hlo _ (List.getElem_mem c1)
    have hyo := hmo _ (List.getElem_mem c2)
    have hc1 : cmpSeg l[k] m[k] = orL [cmpI l[k].kind m[k].kind, cmpI l[k].ls.length m[k].ls.length, cmpG cmpI l[k].ls m[k].ls] := rfl
    simp only [Seg.c, ↓vcPre, ↓wit_get, ↓reduceIte, vcPost, vcStd, Nat.reduceEqDiff, reduceCtorEq, Nat.reduceAdd, Nat.reduceLeDiff, Int.reduceLT, Int.reduceLE, ↓u_setN]
    refine ⟨fun g1 => ⟨c1, c2, (c64 _).Q ?_⟩, fun g1 => ⟨c1, c2, fun g2 => ⟨c1, c2, (c64 _).Q ?_⟩, fun g2 => ?_⟩⟩
    · have hz : cmpI l[k].kind m[k].kind ≠ 0 := fun e => g1 (cmpI_z.1 e)
      have h1 : cmpSeg l[k] m[k] = cmpI l[k].kind m[k].kind := by rw [hc1]; simp only [orL]; rw [if_neg hz]
      simp only [↓vcPre, ↓wit_get, ↓reduceIte, vcPost, vcStd, Nat.reduceEqDiff, reduceCtorEq, Nat.reduceAdd, Nat.reduceLeDiff, Int.reduceLT, Int.reduceLE, ↓u_setN]
      rw [hside _ _ g1, ← ho, if_neg (by rw [h1]; exact hz), h1]
    · have hz : cmpI l[k].ls.length m[k].ls.length ≠ 0 := fun e => g2 (cmpI_z.1 e)
      have h1 : cmpSeg l[k] m[k] = cmpI l[k].ls.length m[k].ls.length := by rw [hc1]; simp only [orL]; rw [if_pos (cmpI_z.2 g1), if_neg hz]
      have h2 := hside _ _ g2
      simp only [Int.ofNat_lt] at h2
      simp only [↓vcPre, ↓wit_get, ↓reduceIte, vcPost, vcStd, Nat.reduceEqDiff, reduceCtorEq, Nat.reduceAdd, Nat.reduceLeDiff, Int.reduceLT, Int.reduceLE, ↓u_setN]
      rw [h2, ← ho, if_neg (by rw [h1]; exact hz), h1]
    · have h1 : cmpSeg l[k] m[k] = cmpG cmpI l[k].ls m[k].ls := by
        rw [hc1]; simp only [orL]; rw [if_pos (cmpI_z.2 g1), if_pos (cmpI_z.2 g2)]
        split
        · rename_i h; rw [h]
        · rfl
      rw [h1] at ho
      unfold Seg.ok at hxo hyo
      refine LoopQ.inv (S := Nat) (fun j => [(0, .sl 2 (l.map Seg.c)), (1, .sl 2 (m.map Seg.c)), (5, .int .i64 (k : Int)), (6, .int .i64 (j : Int))]) (fun _ => σ) (fun j => j ≤ l[k].ls.length ∧ cmpG cmpI (l[k].ls.drop j) (m[k].ls.drop j) = cmpG cmpI l[k].ls m[k].ls) (fun j => l[k].ls.length + 1 - j) 0 rfl (Store.sub_refl _) ⟨by omega, rfl⟩ ?_
      rintro j ⟨hj, hjo⟩
      simp only [Seg.c, ↓vcPre, ↓wit_get, ↓reduceIte, vcPost, vcStd, Nat.reduceEqDiff, reduceCtorEq, Nat.reduceAdd, Nat.reduceLeDiff, Int.reduceLT, Int.reduceLE, ↓u_setN]
      have hjl : IntKind.i64.wrap ((j : Int) + 1) = ((j + 1 : Nat) : Int) := by rw [wrap64 (by unfold I64; omega)]; omega
      have hkl : IntKind.i64.wrap ((k : Int) + 1) = ((k + 1 : Nat) : Int) := by rw [wrap64 (by unfold I64; omega)]; omega
      refine ⟨c1, fun d1 => ?_, fun d1 => ?_⟩
      · have d2 : j < m[k].ls.length := by omega
        rw [List.drop_eq_getElem_cons d1, List.drop_eq_getElem_cons d2] at hjo
        simp only [cmpG] at hjo
        refine ⟨c1, c2, d1, by simp [cU], ?_⟩
        simp only [cU, ↓vcPre, ↓wit_get, ↓reduceIte, vcPost, vcStd, Nat.reduceEqDiff, reduceCtorEq, Nat.reduceAdd, Nat.reduceLeDiff, Int.reduceLT, Int.reduceLE, ↓u_setN]
        refine ⟨d2, fun e1 => ⟨c1, c2, d1, d2, (c64 _).Q ?_⟩, fun e1 => ?_⟩
        · have hz : cmpI l[k].ls[j] m[k].ls[j] ≠ 0 := fun e => e1 (cmpI_z.1 e)
          rw [if_neg hz] at hjo
          simp only [↓vcPre, ↓wit_get, ↓reduceIte, vcPost, vcStd, Nat.reduceEqDiff, reduceCtorEq, Nat.reduceAdd, Nat.reduceLeDiff, Int.reduceLT, Int.reduceLE, ↓u_setN]
          rw [hside _ _ e1, ← ho, ← hjo, if_neg hz]
        · rw [if_pos (cmpI_z.2 e1)] at hjo
          rw [hjl]
          exact NextQ.to (j + 1) rfl (Store.sub_refl _) (by omega) ⟨by omega, hjo⟩
      · rw [show List.drop j l[k].ls = [] from List.drop_eq_nil_of_le (by omega), show List.drop j m[k].ls = [] from List.drop_eq_nil_of_le (by omega)] at hjo
        have h0 : cmpG cmpI l[k].ls m[k].ls = 0 := by rw [← hjo]; rfl
        rw [if_pos h0] at ho
        rw [hkl]
        exact NextQ.to (k + 1) rfl (Store.sub_refl _) (by omega) ⟨by omega, by omega, ho⟩
  · refine ⟨fun h1 => (c64 _).Q ?_, he2 (by omega)⟩
    simp only [↓vcPre, ↓wit_get, ↓reduceIte, vcPost, vcStd, Nat.reduceEqDiff, reduceCtorEq, Nat.reduceAdd, Nat.reduceLeDiff, Int.reduceLT, Int.reduceLE, ↓u_setN]
    rw [he1 (by omega) h1]
  · refine ⟨fun h1 => (c64 _).Q ?_, he2 (by omega)⟩
    simp only [↓vcPre, ↓wit_get, ↓reduceIte, vcPost, vcStd, Nat.reduceEqDiff, reduceCtorEq, Nat.reduceAdd, Nat.reduceLeDiff, Int.reduceLT, Int.reduceLE, ↓u_setN]
    rw [he1 (by omega) h1]

theorem beq_dec (p q : Bool) : (p == q) = decide (p = q) := by cases p <;> cases q <;> rfl
theorem c25 (a b : At) (ha : a.ok) (hb : b.ok) : Pur Try.prog 25 [.agg a.c, .agg b.c] (.bool (decide (a = b))) := by
  refine pur_of Tst.F25 (by simp [Tst.F25, Fn.mkX]) fun σ => ?_
  simp only [Tst.F25, Fn.mkX, Tst.b25, At.c]
  simp only [↓vcPre, ↓wit_get, ↓reduceIte, vcPost, vcStd, Nat.reduceEqDiff, reduceCtorEq, Nat.reduceAdd, Nat.reduceLeDiff, Int.reduceLT, Int.reduceLE, ↓u_setN]
  refine AllocQ.i0 fun i hi => ?_
  simp only [↓vcPre, ↓wit_get, ↓reduceIte, vcPost, vcStd, Nat.reduceEqDiff, reduceCtorEq, Nat.reduceAdd, Nat.reduceLeDiff, Int.reduceLT, Int.reduceLE, ↓u_setN]
  refine AllocQ.i1 fun j hj1 hj2 hj => ?_
  simp only [hj1, hj2, ↓vcPre, ↓wit_get, ↓reduceIte, vcPost, vcStd, Nat.reduceEqDiff, reduceCtorEq, Nat.reduceAdd, Nat.reduceLeDiff, Int.reduceLT, Int.reduceLE, ↓u_setN]
  have hsub := sub_set2 (s := σ) (o := (Obj.box [AV.int IntKind.i64 a.org, AV.sl 2 (List.map Seg.c a.path), AV.int IntKind.u32 a.nxt, AV.bool a.hm, AV.int IntKind.u32 a.med, AV.bool a.hp, AV.int IntKind.u32 a.prf, AV.bool a.atm, AV.sl 1 (List.map cU a.cms)])) (p := (Obj.box [AV.int IntKind.i64 b.org, AV.sl 2 (List.map Seg.c b.path), AV.int IntKind.u32 b.nxt, AV.bool b.hm, AV.int IntKind.u32 b.med, AV.bool b.hp, AV.int IntKind.u32 b.prf, AV.bool b.atm, AV.sl 1 (List.map cU b.cms)])) hi hj hj1
  refine ⟨fun g1 => (c38 _ _ ha.1 hb.1 ha.2.1 hb.2.1).Q ?_, fun g1 => ⟨(decide_eq_false (by rintro rfl; exact g1 rfl)).symm, hsub⟩⟩
  simp only [hj1, hj2, beq_dec, ↓vcPre, ↓wit_get, ↓reduceIte, vcPost, vcStd, Nat.reduceEqDiff, reduceCtorEq, Nat.reduceAdd, Nat.reduceLeDiff, Int.reduceLT, Int.reduceLE, ↓u_setN]
  refine ⟨fun g2 => ⟨fun g3 => ⟨fun g4 => ⟨fun g5 => ⟨fun g6 => ⟨fun g7 => ⟨fun g8 => (c56 _ _ ha.2.2).Q ?_, fun g8 => ⟨(decide_eq_false (by rintro rfl; exact g8 rfl)).symm, hsub⟩⟩, fun g7 => ⟨(decide_eq_false (by rintro rfl; exact g7 rfl)).symm, hsub⟩⟩, fun g6 => ⟨(decide_eq_false (by rintro rfl; exact g6 rfl)).symm, hsub⟩⟩, fun g5 => ⟨(decide_eq_false (by rintro rfl; exact g5 rfl)).symm, hsub⟩⟩, fun g4 => ⟨(decide_eq_false (by rintro rfl; exact g4 rfl)).symm, hsub⟩⟩, fun g3 => ⟨(decide_eq_false (by rintro rfl; exact g3 rfl)).symm, hsub⟩⟩, fun g2 => ⟨(decide_eq_false (by rintro rfl; exact g2 (cmpPath_z.2 rfl))).symm, hsub⟩⟩
  simp only [↓vcPre, ↓wit_get, ↓reduceIte, vcPost, vcStd, Nat.reduceEqDiff, reduceCtorEq, Nat.reduceAdd, Nat.reduceLeDiff, Int.reduceLT, Int.reduceLE, ↓u_setN]
  refine ⟨?_, hsub⟩
  rw [Bool.eq_iff_iff, decide_eq_true_eq, decide_eq_true_eq]
  have g2' := cmpPath_z.1 g2
  constructor
  · intro h; cases a; cases b; simp_all
  · rintro rfl; rfl
def shortS (s : Seg) : Seg := { s with ls := s.ls.take 6 }
def shortA (a : At) : At := { a with path := (a.path.take 18).map shortS, cms := a.cms.take 34 }
theorem short_t (l : List Seg) : List.drop (Int.toNat 0) (List.take ((some (18 : Int)).getD ↑l.length).toNat (List.map Seg.c l)) = (l.take 18).map Seg.c := by rw [List.map_take]; rfl
theorem short_u (n : Nat) (n' : Int) (l : List Int) : List.drop (Int.toNat 0) (List.take ((some (n : Int)).getD n').toNat (List.map cU l)) = (l.take n).map cU := by rw [List.map_take]; rfl
/-- The loop of Short, and what is behind it. -/
theorem tail_short (E : Env) (a : At) (hp : a.path.length ≤ 18) {σ t : Store} {i j : Nat} {z : List AV} {n rr : Env → Store → Prop} {x : Nat → Env → Store → Prop} (hi : t i = some (.box a.c)) (hj : t j = some (.box z)) (hz : z.length = 9) (hij : ¬ i = j) (hσi : σ i = none) (hσj : σ j = none) (hsub : Store.sub σ t)
    (hret : ∀ s v, Store.sub σ s → Own 2 σ ((a.path.map shortS).map Seg.c) v s → s j = some (.box [.int .i64 a.org, v, .int .u32 a.nxt, .bool a.hm, .int .u32 a.med, .bool a.hp, .int .u32 a.prf, .bool a.atm, .sl 1 ((a.cms.take 34).map cU)]) → rr [(2, .ptr j 0)] s) :
    bwp Try.prog Tsd.t40_3 ((1, .ptr i 0) :: (2, .ptr j 0) :: E) t n rr x := by
  simp only [Tsd.t40_3]
  have hji : ¬ j = i := fun e => hij e.symm
  simp only [↓vcPre, ↓wit_get, ↓reduceIte, vcPost, vcStd, Nat.reduceEqDiff, reduceCtorEq, Nat.reduceAdd, Nat.reduceLeDiff, Int.reduceLT, Int.reduceLE, ↓u_setN]
  obtain ⟨τ, q1, q2, q3, q4⟩ : ∃ τ, Store.sub σ τ ∧ Store.sub τ t ∧ τ i = some (.box a.c) ∧ τ j = some (.box z) := ⟨t, hsub, Store.sub_refl _, hi, hj⟩
  refine LoopQ.inv (S := Nat × AV × Store) (fun q => [(1, .ptr i 0), (2, .ptr j 0), (3, q.2.1), (4, .int .i64 (q.1 : Int))]) (fun q => q.2.2) (fun q => q.1 ≤ a.path.length ∧ Store.sub τ q.2.2 ∧ Own 2 τ (((a.path.take q.1).map shortS).map Seg.c) q.2.1 q.2.2) (fun q => a.path.length + 1 - q.1) (0, .nils, t) rfl (Store.sub_refl _) ⟨by simp only; omega, q2, .nil⟩ ?_
  rintro ⟨k, v, s⟩ ⟨hk, hs, ho⟩
  simp only at hk hs ho
  have hsi := hs _ _ q3
  have hsj := hs _ _ q4
  simp only [hsi, At.c, ↓vcPre, ↓wit_get, ↓reduceIte, vcPost, vcStd, Nat.reduceEqDiff, reduceCtorEq, Nat.reduceAdd, Nat.reduceLeDiff, Int.reduceLT, Int.reduceLE, ↓u_setN]
  refine ⟨fun c1 => ?_, fun c1 => ?_⟩
  · have ek : IntKind.i64.wrap ((k : Int) + 1) = ((k + 1 : Nat) : Int) := by rw [wrap64 (by unfold I64; omega)]; omega
    refine ⟨c1, by simp [Seg.c], ?_⟩
    refine AllocQ.i0 fun b hb => ?_
    simp only [Seg.c, ↓vcPre, ↓wit_get, ↓reduceIte, vcPost, vcStd, Nat.reduceEqDiff, reduceCtorEq, Nat.reduceAdd, Nat.reduceLeDiff, Int.reduceLT, Int.reduceLE, ↓u_setN]
    have key : ∀ (E : Env) (T : Store) (n' rr' : Env → Store → Prop) (x' : Nat → Env → Store → Prop), T b = some (.box (shortS a.path[k]).c) → Store.sub s T →
        (∀ v' s', Store.sub τ s' → Own 2 τ (((a.path.take (k + 1)).map shortS).map Seg.c) v' s' → n' [(1, .ptr i 0), (2, .ptr j 0), (3, v'), (4, .int .i64 (k : Int))] s') →
        bwp Try.prog Tsd.t40_34 ((1, .ptr i 0) :: (2, .ptr j 0) :: (3, v) :: (4, .int .i64 (k : Int)) :: (5, .ptr b 0) :: E) T n' rr' x' := by
      intro E T n' rr' x' hT hsT hn
      simp only [Tsd.t40_34]
      simp only [hT, Seg.c, ↓vcPre, ↓wit_get, ↓reduceIte, vcPost, vcStd, Nat.reduceEqDiff, reduceCtorEq, Nat.reduceAdd, Nat.reduceLeDiff, Int.reduceLT, Int.reduceLE, ↓u_setN]
      refine AllocQ.i0 fun g hg => ?_
      simp only [↓vcPre, ↓wit_get, ↓reduceIte, vcPost, vcStd, Nat.reduceEqDiff, reduceCtorEq, Nat.reduceAdd, Nat.reduceLeDiff, Int.reduceLT, Int.reduceLE, ↓u_setN]
      have hsg := Store.sub_set T g (.arr 2 [[.int .i64 (shortS a.path[k]).kind, .sl 1 ((shortS a.path[k]).ls.map cU)]]) hg
      refine Own.app (τ := τ) (Store.sub_trans hs (Store.sub_trans hsT hsg)) (ho.mono (Store.sub_trans hsT hsg)) (slc_os0 (Store.set_same _ _ _) rfl) (by simp; omega) fun v' s' hs' ho'' => ?_
      refine hn v' s' hs' ?_
      simp only [List.take_add_one, List.getElem?_eq_getElem c1, Option.toList_some, List.map_append, List.map_cons, List.map_nil]
      exact ho''
    refine ⟨fun g1 => ⟨by simp only [Option.getD_some]; omega, ?_⟩, fun g1 => ?_⟩
    · refine key _ _ _ _ _ ?_ ?_ fun v' s' h1 h2 => ?_
      · rw [Store.set_same]
        simp only [shortS, Seg.c, List.map_take]; rfl
      · rw [Store.set_set, Store.set_set]; exact Store.sub_set _ _ _ hb
      simp only [ek, ↓vcPre, ↓wit_get, ↓reduceIte, vcPost, vcStd, Nat.reduceEqDiff, reduceCtorEq, Nat.reduceAdd, Nat.reduceLeDiff, Int.reduceLT, Int.reduceLE, ↓u_setN]
      exact NextQ.to (k + 1, v', s') rfl (Store.sub_refl _) (by simp only; omega) ⟨by simp only; omega, h1, h2⟩
    · refine key _ _ _ _ _ ?_ ?_ fun v' s' h1 h2 => ?_
      · rw [Store.set_same]
        have : a.path[k].ls.take 6 = a.path[k].ls := List.take_of_length_le (by omega)
        simp only [shortS, Seg.c, this]
      · rw [Store.set_set]; exact Store.sub_set _ _ _ hb
      simp only [ek, ↓vcPre, ↓wit_get, ↓reduceIte, vcPost, vcStd, Nat.reduceEqDiff, reduceCtorEq, Nat.reduceAdd, Nat.reduceLeDiff, Int.reduceLT, Int.reduceLE, ↓u_setN]
      exact NextQ.to (k + 1, v', s') rfl (Store.sub_refl _) (by simp only; omega) ⟨by simp only; omega, h1, h2⟩
  · have hkl : a.path.take k = a.path := List.take_of_length_le (by omega)
    rw [hkl] at ho
    have hv : v.isTup = false ∧ v.cells = [v] := by
      rcases ho with ⟨_, rfl⟩ | ⟨g, rfl, _, _⟩ <;> exact ⟨rfl, rfl⟩
    have fin : ∀ X Y : Obj, ∀ vv : List AV, Y = .box vv → vv = [.int .i64 a.org, v, .int .u32 a.nxt, .bool a.hm, .int .u32 a.med, .bool a.hp, .int .u32 a.prf, .bool a.atm, .sl 1 ((a.cms.take 34).map cU)] → rr [(2, .ptr j 0)] ((s.set i X).set j Y) := by
      rintro X Y vv rfl rfl
      refine hret _ v (sub_upd' (sub_upd' (Store.sub_trans q1 hs) hσi) hσj) ?_ (Store.set_same _ _ _)
      rcases ho.weak q1 with h | ⟨g, h1, h2, h3⟩
      · exact .inl h
      · refine .inr ⟨g, h1, h2, ?_⟩
        have hgi : ¬ g = i := fun e => by rw [e, hsi] at h3; cases h3
        have hgj : ¬ g = j := fun e => by rw [e, hsj] at h3; cases h3
        rw [Store.set_ne _ _ hgj, Store.set_ne _ _ hgi]; exact h3
    simp only [hv.1, hv.2, hsi, hsj, hij, hji, At.c, hz, ↓vcPre, ↓wit_get, ↓reduceIte, vcPost, vcStd, Nat.reduceEqDiff, reduceCtorEq, Nat.reduceAdd, Nat.reduceLeDiff, Int.reduceLT, Int.reduceLE, ↓u_setN]
    refine ⟨fun g1 => ⟨by simp only [Option.getD_some]; omega, ?_⟩, fun g1 => ?_⟩
    · rw [splice_all _ _ (by simp [hz]), wit_some, Store.set_set]
      refine fin _ _ _ rfl ?_
      simp only [List.map_take]; rfl
    · rw [splice_all _ _ (by simp [hz]), wit_some]
      have : a.cms.take 34 = a.cms := List.take_of_length_le (by omega)
      exact fin _ _ _ rfl (by rw [this])
/-- An end with parts, one of which is what was collected. -/
theorem EndQ.aggOwn {esz : Nat} {slots : List RS} {Q : AV → Store → Prop} {e : Env} {σ τ : Store} {L : List (List AV)} {cells : List AV} (k : Nat) {v : AV} (h1 : e.res τ slots = some (.agg cells)) (hk : cells[k]? = some v) (ho : Own esz σ L v τ) (hs : Store.sub σ τ)
    (hf : ∀ c ∈ cells.set k (.sl esz L), c.flat = true) (hQ : Q (.agg (cells.set k (.sl esz L))) σ) : @EndQ e τ ⟨slots, Q⟩ := by
  unfold EndQ
  rcases ho with ⟨rfl, rfl⟩ | ⟨g, rfl, hg, hh⟩
  · exact ⟨_, h1, Weak.agg (WeakL.nil k esz hk (WeakL.forget hs (WeakL.pure ⟨hf, hQ⟩)))⟩
  · refine ⟨_, h1, Weak.agg (WeakL.freeze k hk hh (by omega) (WeakL.forget (σ' := σ) (fun i o hi => ?_) (WeakL.pure ?_)))⟩
    · rw [Store.del_ne _ (fun e => by subst e; rw [hg] at hi; cases hi)]; exact hs i o hi
    · simp only [List.drop_zero, List.take_length]; exact ⟨hf, hQ⟩
theorem c40 (a : At) : Pur Try.prog 40 [.agg a.c] (.agg (shortA a).c) := by
  intro σ
  refine calls_of Tsd.F40 (by simp [Tsd.F40, Fn.mkX]) ?_
  simp only [Tsd.F40, Fn.mkX, Tsd.b40]
  simp only [At.c, ↓vcPre, ↓wit_get, ↓reduceIte, vcPost, vcStd, Nat.reduceEqDiff, reduceCtorEq, Nat.reduceAdd, Nat.reduceLeDiff, Int.reduceLT, Int.reduceLE, ↓u_setN]
  refine AllocQ.i0 fun i hi => ?_
  simp only [At.c, ↓vcPre, ↓wit_get, ↓reduceIte, vcPost, vcStd, Nat.reduceEqDiff, reduceCtorEq, Nat.reduceAdd, Nat.reduceLeDiff, Int.reduceLT, Int.reduceLE, ↓u_setN]
  refine AllocQ.i1 fun j hj1 hj2 hj => ?_
  simp only [hj1, hj2, short_t, ↓vcPre, ↓wit_get, ↓reduceIte, vcPost, vcStd, Nat.reduceEqDiff, reduceCtorEq, Nat.reduceAdd, Nat.reduceLeDiff, Int.reduceLT, Int.reduceLE, ↓u_setN]
  have key : ∀ (E : Env) (t : Store) (n : Env → Store → Prop) (x : Nat → Env → Store → Prop) (z : List AV), z.length = 9 → t i = some (.box ({ a with path := a.path.take 18 } : At).c) → t j = some (.box z) → Store.sub σ t →
      bwp Try.prog Tsd.t40_3 ((1, .ptr i 0) :: (2, .ptr j 0) :: E) t n (fun e s => @EndQ e s ⟨Tsd.F40.slots, fun r s => s = σ ∧ r = .agg (shortA a).c⟩) x := by
    intro E t n x z hz h1 h2 h3
    refine tail_short E { a with path := a.path.take 18 } (by simp; omega) h1 h2 hz hj2 hi hj h3 ?_
    intro s v hs ho hsj
    refine EndQ.aggOwn 1 (L := ((a.path.take 18).map shortS).map Seg.c) (v := v) (cells := [.int .i64 a.org, v, .int .u32 a.nxt, .bool a.hm, .int .u32 a.med, .bool a.hp, .int .u32 a.prf, .bool a.atm, .sl 1 ((a.cms.take 34).map cU)]) ?_ rfl ho hs ?_ ⟨rfl, rfl⟩
    · show Env.res [(2, AV.ptr j 0)] s [RS.c 2 9 true] = _
      simp only [hsj, ↓vcPre, ↓wit_get, ↓reduceIte, vcPost, vcStd, Nat.reduceEqDiff, reduceCtorEq, Nat.reduceAdd, Nat.reduceLeDiff, Int.reduceLT, Int.reduceLE, ↓u_setN]
    · intro c hc
      simp at hc
      rcases hc with rfl | rfl | rfl | rfl | rfl | rfl | rfl | rfl | rfl <;> rfl
  refine ⟨fun g1 => ⟨by simp only [Option.getD_some]; omega, ?_⟩, fun g1 => ?_⟩
  · refine key _ _ _ _ _ ?_ ?_ (by rw [Store.set_ne _ _ hj1, Store.set_same]) (sub_upd' (sub_set2 hi hj hj1) hi)
    · rfl
    · rw [Store.set_same]; rfl
  · have : a.path.take 18 = a.path := List.take_of_length_le (by omega)
    refine key _ _ _ _ _ ?_ ?_ (Store.set_same _ _ _) (sub_set2 hi hj hj1)
    · rfl
    · rw [Store.set_ne _ _ hj2, Store.set_same, this]; rfl

/-- What the law is asked. -/
structure Ask where
  kind : Int
  id : Int
  a : At
  few : Bool
def Ask.c (x : Ask) : List AV := [.int .i64 x.kind, .int .i64 x.id] ++ (x.a.c ++ [.bool x.few])
def fewA (a : At) : At := { zeroAt with org := Int.tmod a.org 3, nxt := Int.tmod a.nxt 3, cms := a.cms.take 34 }
def attrsA (x : Ask) : At := if x.few then fewA x.a else shortA x.a
theorem c21 (x : Ask) : Pur Try.prog 21 [.agg x.c] (.agg (attrsA x).c) := by
  intro σ
  refine calls_of Tst.F21 (by simp [Tst.F21, Fn.mkX]) ?_
  simp only [Tst.F21, Fn.mkX, Tst.b21]
  simp only [Ask.c, At.c, ↓vcPre, ↓wit_get, ↓reduceIte, vcPost, vcStd, Nat.reduceEqDiff, reduceCtorEq, Nat.reduceAdd, Nat.reduceLeDiff, Int.reduceLT, Int.reduceLE, ↓u_setN]
  refine AllocQ.i0 fun i hi => ?_
  simp only [At.c, ↓vcPre, ↓wit_get, ↓reduceIte, vcPost, vcStd, Nat.reduceEqDiff, reduceCtorEq, Nat.reduceAdd, Nat.reduceLeDiff, Int.reduceLT, Int.reduceLE, ↓u_setN]
  refine AllocQ.i1 fun j hj1 hj2 hj => ?_
  simp only [hj1, hj2, ↓vcPre, ↓wit_get, ↓reduceIte, vcPost, vcStd, Nat.reduceEqDiff, reduceCtorEq, Nat.reduceAdd, Nat.reduceLeDiff, Int.reduceLT, Int.reduceLE, ↓u_setN]
  have e12 : ∀ y : At, [AV.int IntKind.i64 y.org, AV.sl 2 (List.map Seg.c y.path), AV.int IntKind.u32 y.nxt, AV.bool y.hm, AV.int IntKind.u32 y.med, AV.bool y.hp, AV.int IntKind.u32 y.prf, AV.bool y.atm, AV.sl 1 (List.map cU y.cms)] = y.c := fun _ => rfl
  cases hf : x.few with
  | false =>
    simp only [↓vcPre, ↓wit_get, ↓reduceIte, vcPost, vcStd, Nat.reduceEqDiff, reduceCtorEq, Nat.reduceAdd, Nat.reduceLeDiff, Int.reduceLT, Int.reduceLE, ↓u_setN]
    simp only [e12]
    refine (c40 _).Q ?_
    simp only [hj1, hj2, ↓vcPre, ↓wit_get, ↓reduceIte, vcPost, vcStd, Nat.reduceEqDiff, reduceCtorEq, Nat.reduceAdd, Nat.reduceLeDiff, Int.reduceLT, Int.reduceLE, ↓u_setN]
    refine ⟨rfl, ?_⟩
    have p9 : ∀ z : List AV, z.length = 9 → splice 0 (shortA x.a).c z = some (shortA x.a).c := fun z hz => splice_all _ _ (by rw [hz]; rfl)
    rw [p9 _ rfl, wit_some, Store.set_set]
    refine EndQ.to σ (.agg (shortA x.a).c) ?_ (sub_set2 hi hj hj1) ⟨rfl, by simp [attrsA, hf]⟩
    show Env.res [(2, AV.ptr j 0)] _ [RS.c 2 9 true] = _
    have e9 : ∀ x : At, x.c.length = 9 := fun _ => rfl
    have t9 : ∀ x : At, List.take 9 x.c = x.c := fun _ => rfl
    simp only [e9, t9, Nat.le_refl, ↓vcPre, ↓wit_get, ↓reduceIte, vcPost, vcStd, Nat.reduceEqDiff, reduceCtorEq, Nat.reduceAdd, Nat.reduceLeDiff, Int.reduceLT, Int.reduceLE, ↓u_setN]
  | true =>
    simp only [↓vcPre, ↓wit_get, ↓reduceIte, vcPost, vcStd, Nat.reduceEqDiff, reduceCtorEq, Nat.reduceAdd, Nat.reduceLeDiff, Int.reduceLT, Int.reduceLE, ↓u_setN]
    simp only [e12]
    refine ⟨by omega, by omega, (c40 _).Q ?_⟩
    simp only [hj1, hj2, At.c, ↓vcPre, ↓wit_get, ↓reduceIte, vcPost, vcStd, Nat.reduceEqDiff, reduceCtorEq, Nat.reduceAdd, Nat.reduceLeDiff, Int.reduceLT, Int.reduceLE, ↓u_setN]
    rw [Store.set_set]
    have hw : ∀ Y : Obj, Y = .box [.int .i64 (Int.tmod x.a.org 3), .nils, .int .u32 (Int.tmod x.a.nxt 3), .bool false, .int .u32 0, .bool false, .int .u32 0, .bool false, .sl 1 ((x.a.cms.take 34).map cU)] → ∀ X : Obj, @EndQ [(2, AV.ptr j 0)] ((σ.set i X).set j Y) ⟨Tst.F21.slots, fun r s => s = σ ∧ r = .agg (attrsA x).c⟩ := by
      rintro Y rfl X
      unfold EndQ
      refine ⟨.agg [.int .i64 (Int.tmod x.a.org 3), .nils, .int .u32 (Int.tmod x.a.nxt 3), .bool false, .int .u32 0, .bool false, .int .u32 0, .bool false, .sl 1 ((x.a.cms.take 34).map cU)], ?_, Weak.agg (WeakL.nil 1 2 rfl (WeakL.forget (sub_set2 hi hj hj1) (WeakL.pure ⟨?_, rfl, by rw [attrsA, hf]; rfl⟩)))⟩
      · show Env.res [(2, AV.ptr j 0)] _ [RS.c 2 9 true] = _
        simp only [↓vcPre, ↓wit_get, ↓reduceIte, vcPost, vcStd, Nat.reduceEqDiff, reduceCtorEq, Nat.reduceAdd, Nat.reduceLeDiff, Int.reduceLT, Int.reduceLE, ↓u_setN]
      · intro c hc
        simp at hc
        rcases hc with rfl | rfl | rfl | rfl | rfl | rfl | rfl | rfl | rfl <;> rfl
    exact hw _ rfl _
end Go.Am

/- S92C -/
namespace Go.Am.Tse
open Go.Proofs
/-- signpost/signpostlaw11.InternApart -/
def t6_11 : BC := .seq (.seq (.ops [⟨some 11, none, .pure (.mov), [.c (.int .i64 0)]⟩] [1, 5, 11]) (.block 2 (.loop [1, 5, 11] (.seq (.seq (.ops [⟨some 58, none, .pure (.mov), [.t 11]⟩, ⟨some 59, none, .pure (.mov), [.t 1]⟩, ⟨some 60, none, .pure (.len), [.t 59]⟩, ⟨some 61, none, .pure (.bin .lss), [.t 58, .t 60]⟩, ⟨some 62, none, .pure (.mov), [.t 61]⟩, ⟨some 63, some (62, true), .pure (.mov), [.t 11]⟩, ⟨some 64, some (62, true), .pure (.bin .lss), [.t 63, .c (.int .i64 20)]⟩, ⟨some 65, none, .pick, [.t 62, .t 64, .c (.bool false)]⟩] [1, 5, 11, 65]) (.cond (.t 65) (.skip) (.exit 2))) (.seq (.block 3 (.seq (.ops [⟨some 68, none, .pure (.mov), [.t 1]⟩, ⟨some 69, none, .pure (.mov), [.t 11]⟩, ⟨some 70, none, .pure (.idx 1), [.t 68, .t 69]⟩, ⟨some 71, none, .load (.ld 1 false), [.t 70]⟩, ⟨some 72, none, .loud (.call 14), [.t 71, .c (.int .i64 0), .c (.int .i64 63)]⟩, ⟨some 12, none, .pure (.mov), [.t 72]⟩] [1, 5, 11, 12]) (.seq (.ops [⟨some 13, none, .pure (.mov), [.c .nils]⟩] [1, 5, 11, 12, 13]) (.seq (.ops [⟨some 14, none, .pure (.mov), [.c .nils]⟩] [1, 5, 11, 12, 13, 14]) (.seq (.seq (.ops [⟨some 15, none, .pure (.mov), [.c (.int .i64 0)]⟩] [1, 5, 11, 12, 13, 14, 15]) (.block 4 (.loop [1, 5, 11, 12, 13, 14, 15] (.seq (.seq (.ops [⟨some 73, none, .pure (.mov), [.t 15]⟩, ⟨some 74, none, .pure (.bin .lss), [.t 73, .c (.int .i64 64)]⟩] [1, 5, 11, 12, 13, 14, 15, 74]) (.cond (.t 74) (.skip) (.exit 4))) (.seq (.block 5 (.seq (.ops [⟨some 78, none, .pure (.mov), [.t 5]⟩, ⟨some 79, none, .pure (.mov), [.t 15]⟩, ⟨some 80, none, .loud (.call 23), [.t 78, .t 79]⟩, ⟨some 77, none, .pure (.mov), [.t 80]⟩, ⟨some 81, none, .pure (.ext 0), [.t 77]⟩, ⟨some 82, none, .pure (.ext 1), [.t 77]⟩, ⟨some 16, none, .alloc (.alloc [(.int .i64 0), .nils, (.int .u32 0), (.bool false), (.int .u32 0), (.bool false), (.int .u32 0), (.bool false), .nils]), []⟩, ⟨none, none, .loud (.st 9), [.t 16, .t 81]⟩, ⟨some 17, none, .pure (.mov), [.t 82]⟩] [1, 5, 11, 12, 13, 14, 15, 16]) (.seq (.ops [⟨some 83, none, .pure (.mov), [.t 13]⟩, ⟨some 84, none, .load (.ld 9 true), [.t 16]⟩, ⟨some 85, none, .alloc (.mksl 9 1), [.t 84]⟩, ⟨some 86, none, .loud (.app 9 80), [.t 83, .t 85]⟩, ⟨some 13, none, .pure (.mov), [.t 86]⟩] [1, 5, 11, 12, 13, 14, 15]) (.ops [⟨some 87, none, .pure (.mov), [.t 14]⟩, ⟨some 88, none, .pure (.mov), [.t 5]⟩, ⟨some 89, none, .pure (.mov), [.t 15]⟩, ⟨some 90, none, .loud (.call 26), [.t 88, .t 89]⟩, ⟨some 91, none, .alloc (.mksl 1 1), [.t 90]⟩, ⟨some 92, none, .loud (.app 1 8), [.t 87, .t 91]⟩, ⟨some 14, none, .pure (.mov), [.t 92]⟩] [1, 5, 11, 12, 13, 14, 15])))) (.ops [⟨some 75, none, .pure (.mov), [.t 15]⟩, ⟨some 76, none, .pure (.bin .add), [.t 75, .c (.int .i64 1)]⟩, ⟨some 15, none, .pure (.mov), [.t 76]⟩] [1, 5, 11, 12, 13, 14, 15])))))) (.seq (.ops [⟨some 93, none, .pure (.mov), [.t 5]⟩, ⟨some 94, none, .loud (.call 28), [.t 93]⟩, ⟨some 18, none, .pure (.mov), [.t 94]⟩] [1, 5, 11, 12, 13, 14, 18]) (.seq (.ops [⟨some 95, none, .pure (.mov), [.t 5]⟩, ⟨some 96, none, .pure (.mov), [.t 12]⟩, ⟨some 97, none, .loud (.call 27), [.t 95, .t 96]⟩, ⟨some 19, none, .pure (.mov), [.t 97]⟩] [1, 5, 11, 12, 13, 14, 18, 19]) (.seq (.seq (.ops [⟨some 98, none, .pure (.mov), [.t 19]⟩, ⟨some 99, none, .pure (.bin .eql), [.t 98, .c (.int .i64 0)]⟩, ⟨some 100, none, .pure (.mov), [.t 14]⟩, ⟨some 101, none, .pure (.mov), [.t 12]⟩, ⟨some 102, none, .pure (.idx 1), [.t 100, .t 101]⟩, ⟨some 103, none, .load (.ld 1 false), [.t 102]⟩, ⟨some 104, none, .pure (.bin .gtr), [.t 103, .c (.int .i64 0)]⟩, ⟨some 105, none, .pure (.eqb true), [.t 99, .t 104]⟩, ⟨some 106, none, .pure (.mov), [.t 105]⟩, ⟨some 107, some (106, false), .pure (.mov), [.t 19]⟩, ⟨some 108, some (106, false), .pure (.bin .neq), [.t 107, .c (.int .i64 0)]⟩, ⟨some 109, some (106, false), .pure (.mov), [.t 108]⟩, ⟨some 110, some (109, true), .pure (.mov), [.t 19]⟩, ⟨some 111, some (109, true), .pure (.bin .neq), [.t 110, .c (.int .i64 22)]⟩, ⟨some 112, some (106, false), .pick, [.t 109, .t 111, .c (.bool false)]⟩, ⟨some 113, none, .pick, [.t 106, .c (.bool true), .t 112]⟩] [1, 5, 11, 12, 13, 14, 18, 19, 113]) (.cond (.t 113) (.seq (.ops [⟨some 4, none, .pure (.mov), [.c (.bool false)]⟩] [4]) (.ret)) (.skip))) (.seq (.seq (.ops [⟨some 20, none, .pure (.mov), [.c (.int .i64 0)]⟩] [1, 5, 11, 12, 13, 14, 18, 19, 20]) (.block 6 (.loop [1, 5, 11, 12, 13, 14, 18, 19, 20] (.seq (.seq (.ops [⟨some 114, none, .pure (.mov), [.t 20]⟩, ⟨some 115, none, .pure (.bin .lss), [.t 114, .c (.int .i64 64)]⟩] [1, 5, 11, 12, 13, 14, 18, 19, 20, 115]) (.cond (.t 115) (.skip) (.exit 6))) (.seq (.block 7 (.seq (.ops [⟨some 118, none, .pure (.mov), [.t 14]⟩, ⟨some 119, none, .pure (.mov), [.t 20]⟩, ⟨some 120, none, .pure (.idx 1), [.t 118, .t 119]⟩, ⟨some 121, none, .load (.ld 1 false), [.t 120]⟩, ⟨some 21, none, .pure (.mov), [.t 121]⟩] [1, 5, 11, 12, 13, 14, 18, 19, 20, 21]) (.seq (.seq (.ops [⟨some 122, none, .pure (.mov), [.t 20]⟩, ⟨some 123, none, .pure (.mov), [.t 12]⟩, ⟨some 124, none, .pure (.bin .eql), [.t 122, .t 123]⟩, ⟨some 125, none, .pure (.mov), [.t 124]⟩, ⟨some 126, some (125, true), .pure (.mov), [.t 19]⟩, ⟨some 127, some (125, true), .pure (.bin .eql), [.t 126, .c (.int .i64 0)]⟩, ⟨some 128, none, .pick, [.t 125, .t 127, .c (.bool false)]⟩] [1, 5, 11, 12, 13, 14, 18, 19, 20, 21, 128]) (.cond (.t 128) (.ops [⟨some 129, none, .pure (.mov), [.t 21]⟩, ⟨some 130, none, .pure (.bin .sub), [.t 129, .c (.int .i64 1)]⟩, ⟨some 21, none, .pure (.mov), [.t 130]⟩] [1, 5, 11, 12, 13, 14, 18, 19, 20, 21]) (.skip))) (.seq (.ops [⟨some 132, none, .pure (.mov), [.t 5]⟩, ⟨some 133, none, .pure (.mov), [.t 20]⟩, ⟨some 134, none, .loud (.call 23), [.t 132, .t 133]⟩, ⟨some 131, none, .pure (.mov), [.t 134]⟩, ⟨some 135, none, .pure (.ext 0), [.t 131]⟩, ⟨some 136, none, .pure (.ext 1), [.t 131]⟩, ⟨some 22, none, .alloc (.alloc [(.int .i64 0), .nils, (.int .u32 0), (.bool false), (.int .u32 0), (.bool false), (.int .u32 0), (.bool false), .nils]), []⟩, ⟨none, none, .loud (.st 9), [.t 22, .t 135]⟩, ⟨some 23, none, .pure (.mov), [.t 136]⟩] [1, 5, 11, 12, 13, 14, 18, 19, 20, 21, 22, 23]) (.seq (.ops [⟨some 137, none, .pure (.mov), [.t 5]⟩, ⟨some 138, none, .pure (.mov), [.t 20]⟩, ⟨some 140, none, .pure (.mov), [.t 21]⟩, ⟨some 139, none, .loud (.call 26), [.t 137, .t 138]⟩, ⟨some 141, none, .pure (.bin .neq), [.t 139, .t 140]⟩, ⟨some 142, none, .pure (.mov), [.t 141]⟩, ⟨some 143, some (142, false), .pure (.mov), [.t 23]⟩, ⟨some 144, some (142, false), .pure (.mov), [.t 21]⟩, ⟨some 145, some (142, false), .pure (.bin .gtr), [.t 144, .c (.int .i64 0)]⟩, ⟨some 146, some (142, false), .pure (.eqb true), [.t 143, .t 145]⟩, ⟨some 147, none, .pick, [.t 142, .c (.bool true), .t 146]⟩, ⟨some 148, none, .pure (.mov), [.t 147]⟩, ⟨some 149, some (148, false), .pure (.mov), [.t 23]⟩, ⟨some 150, some (148, false), .pure (.mov), [.t 149]⟩, ⟨some 152, some (150, true), .pure (.mov), [.t 13]⟩, ⟨some 153, some (150, true), .pure (.mov), [.t 20]⟩, ⟨some 154, some (150, true), .pure (.idx 9), [.t 152, .t 153]⟩, ⟨some 151, some (150, true), .load (.ld 9 true), [.t 22]⟩, ⟨some 155, some (150, true), .load (.ld 9 true), [.t 154]⟩, ⟨some 156, some (150, true), .loud (.call 25), [.t 151, .t 155]⟩, ⟨some 157, some (150, true), .pure (.not), [.t 156]⟩, ⟨some 158, some (148, false), .pick, [.t 150, .t 157, .c (.bool false)]⟩, ⟨some 159, none, .pick, [.t 148, .c (.bool true), .t 158]⟩] [1, 5, 11, 12, 13, 14, 18, 19, 20, 159]) (.cond (.t 159) (.seq (.ops [⟨some 4, none, .pure (.mov), [.c (.bool false)]⟩] [4]) (.ret)) (.skip))))))) (.ops [⟨some 116, none, .pure (.mov), [.t 20]⟩, ⟨some 117, none, .pure (.bin .add), [.t 116, .c (.int .i64 1)]⟩, ⟨some 20, none, .pure (.mov), [.t 117]⟩] [1, 5, 11, 12, 13, 14, 18, 19, 20])))))) (.seq (.seq (.ops [⟨some 160, none, .pure (.mov), [.t 19]⟩, ⟨some 161, none, .pure (.bin .eql), [.t 160, .c (.int .i64 0)]⟩, ⟨some 162, none, .pure (.mov), [.t 161]⟩, ⟨some 163, some (162, true), .pure (.mov), [.t 14]⟩, ⟨some 164, some (162, true), .pure (.mov), [.t 12]⟩, ⟨some 165, some (162, true), .pure (.idx 1), [.t 163, .t 164]⟩, ⟨some 166, some (162, true), .load (.ld 1 false), [.t 165]⟩, ⟨some 167, some (162, true), .pure (.bin .eql), [.t 166, .c (.int .i64 1)]⟩, ⟨some 168, none, .pick, [.t 162, .t 167, .c (.bool false)]⟩] [1, 5, 11, 18, 168]) (.cond (.t 168) (.ops [⟨some 169, none, .pure (.mov), [.t 18]⟩, ⟨some 170, none, .pure (.bin .sub), [.t 169, .c (.int .i64 1)]⟩, ⟨some 18, none, .pure (.mov), [.t 170]⟩] [1, 5, 11, 18]) (.skip))) (.seq (.ops [⟨some 171, none, .pure (.mov), [.t 5]⟩, ⟨some 172, none, .loud (.call 28), [.t 171]⟩, ⟨some 173, none, .pure (.mov), [.t 18]⟩, ⟨some 174, none, .pure (.bin .neq), [.t 172, .t 173]⟩] [1, 5, 11, 174]) (.cond (.t 174) (.seq (.ops [⟨some 4, none, .pure (.mov), [.c (.bool false)]⟩] [4]) (.ret)) (.skip))))))))))))) (.ops [⟨some 66, none, .pure (.mov), [.t 11]⟩, ⟨some 67, none, .pure (.bin .add), [.t 66, .c (.int .i64 1)]⟩, ⟨some 11, none, .pure (.mov), [.t 67]⟩] [1, 5, 11])))))) (.seq (.ops [⟨some 175, none, .loud (.call 19), []⟩, ⟨some 4, none, .pure (.mov), [.t 175]⟩] [4]) (.ret))
def b6 : BC := .seq (.ops [⟨some 4, none, .pure (.mov), [.c (.bool false)]⟩] [0, 1]) (.seq (.ops [⟨some 25, none, .loud (.call 15), [.c (.int .i64 64)]⟩, ⟨some 24, none, .pure (.mov), [.t 25]⟩, ⟨some 26, none, .pure (.ext 0), [.t 24]⟩, ⟨some 27, none, .pure (.ext 1), [.t 24]⟩, ⟨some 5, none, .pure (.mov), [.t 26]⟩, ⟨some 6, none, .pure (.mov), [.t 27]⟩] [0, 1, 5, 6]) (.seq (.seq (.ops [⟨some 28, none, .pure (.mov), [.t 5]⟩, ⟨some 29, none, .pure (.eqnil false true), [.t 28]⟩, ⟨some 30, none, .pure (.mov), [.t 29]⟩, ⟨some 31, some (30, false), .pure (.mov), [.t 6]⟩, ⟨some 32, some (30, false), .pure (.bin .neq), [.t 31, .c (.int .i64 0)]⟩, ⟨some 33, none, .pick, [.t 30, .c (.bool true), .t 32]⟩] [0, 1, 5, 33]) (.cond (.t 33) (.seq (.ops [⟨some 4, none, .pure (.mov), [.c (.bool false)]⟩] [4]) (.ret)) (.skip))) (.seq (.seq (.ops [⟨some 7, none, .pure (.mov), [.c (.int .i64 0)]⟩] [0, 1, 5, 7]) (.block 0 (.loop [0, 1, 5, 7] (.seq (.seq (.ops [⟨some 34, none, .pure (.mov), [.t 7]⟩, ⟨some 35, none, .pure (.mov), [.t 0]⟩, ⟨some 36, none, .pure (.len), [.t 35]⟩, ⟨some 37, none, .pure (.bin .lss), [.t 34, .t 36]⟩, ⟨some 38, none, .pure (.mov), [.t 37]⟩, ⟨some 39, some (38, true), .pure (.mov), [.t 7]⟩, ⟨some 40, some (38, true), .pure (.bin .lss), [.t 39, .c (.int .i64 30)]⟩, ⟨some 41, none, .pick, [.t 38, .t 40, .c (.bool false)]⟩] [0, 1, 5, 7, 41]) (.cond (.t 41) (.skip) (.exit 0))) (.seq (.block 1 (.seq (.ops [⟨some 44, none, .pure (.mov), [.t 0]⟩, ⟨some 45, none, .pure (.mov), [.t 7]⟩, ⟨some 46, none, .pure (.idx 12), [.t 44, .t 45]⟩, ⟨some 47, none, .load (.ld 12 true), [.t 46]⟩, ⟨some 8, none, .alloc (.alloc [(.int .i64 0), (.int .i64 0), (.int .i64 0), .nils, (.int .u32 0), (.bool false), (.int .u32 0), (.bool false), (.int .u32 0), (.bool false), .nils, (.bool false)]), []⟩, ⟨none, none, .loud (.st 12), [.t 8, .t 47]⟩] [0, 1, 5, 7, 8]) (.seq (.ops [⟨some 48, none, .pure (.fld 11), [.t 8]⟩, ⟨none, none, .loud (.st 1), [.t 48, .c (.bool true)]⟩] [0, 1, 5, 7, 8]) (.seq (.ops [⟨some 50, none, .pure (.mov), [.t 5]⟩, ⟨some 51, none, .load (.ld 12 true), [.t 8]⟩, ⟨some 52, none, .loud (.call 21), [.t 51]⟩, ⟨some 53, none, .loud (.call 22), [.t 50, .t 52]⟩, ⟨some 49, none, .pure (.mov), [.t 53]⟩, ⟨some 54, none, .pure (.ext 0), [.t 49]⟩, ⟨some 55, none, .pure (.ext 1), [.t 49]⟩, ⟨some 9, none, .pure (.mov), [.t 54]⟩, ⟨some 10, none, .pure (.mov), [.t 55]⟩] [0, 1, 5, 7, 10]) (.seq (.ops [⟨some 56, none, .pure (.mov), [.t 10]⟩, ⟨some 57, none, .pure (.bin .neq), [.t 56, .c (.int .i64 0)]⟩] [0, 1, 5, 7, 57]) (.cond (.t 57) (.seq (.ops [⟨some 4, none, .pure (.mov), [.c (.bool false)]⟩] [4]) (.ret)) (.skip))))))) (.ops [⟨some 42, none, .pure (.mov), [.t 7]⟩, ⟨some 43, none, .pure (.bin .add), [.t 42, .c (.int .i64 1)]⟩, ⟨some 7, none, .pure (.mov), [.t 43]⟩] [0, 1, 5, 7])))))) t6_11)))
def F6 : Fn Try.prog 6 := Fn.mkX false b6 [.t 4] 176 Try.f6 _ Try.func6 (by decide) rfl Try.ntmps6 (by kernel_rfl) (by kernel_rfl)
end Go.Am.Tse

/- C0 -/
namespace Go.Am
open Go.Proofs Go.Sort

theorem canonC_few {l : List Int} (h : l.length ≤ 1000000) : (canonC l).length ≤ 1000000 := Nat.le_trans (canonC_len l) h
theorem fewA_ok (a : At) : (fewA a).ok := ⟨by simp [fewA, zeroAt], by simp [fewA, zeroAt], by simp [fewA]; omega⟩
def fewK (x : Ask) : Ask := { x with few := true }
theorem attrs_few (x : Ask) : attrsA (fewK x) = fewA x.a := by simp [attrsA, fewK]

/-- Two lists that are collected at once: one more for the first. -/
theorem Own.app2 {e1 e2 bytes : Nat} {τ s : Store} {L1 L2 : List (List AV)} {v1 v2 wv : AV} {w : List AV} {K : AV → Store → Prop} (he : e1 ≠ e2) (hsub : Store.sub τ s) (h1 : Own e1 τ L1 v1 s) (h2 : Own e2 τ L2 v2 s) (hwv : slc s e1 wv = some [w]) (hsz : (L1.length + 1) * bytes ≤ 140737488355328)
    (h : ∀ v' s', Store.sub τ s' → Own e1 τ (L1 ++ [w]) v' s' → Own e2 τ L2 v2 s' → K v' s') : appwp e1 bytes v1 wv s K := by
  rcases h1 with ⟨hL, hv⟩ | ⟨g, hv, hg, hh⟩
  · refine Own.app (τ := s) (L := L1) (Store.sub_refl _) (.inl ⟨hL, hv⟩) hwv hsz fun v' s' hs ho => ?_
    exact h v' s' (Store.sub_trans hsub hs) (ho.weak hsub) (h2.mono hs)
  · have hτ0 : Store.sub τ (s.del g) := sub_del hsub hg
    refine Own.app (τ := s.del g) (L := L1) (fun j o hj => ?_) (.inr ⟨g, hv, by simp, hh⟩) hwv hsz fun v' s' hs ho => ?_
    · by_cases hjg : j = g
      · subst hjg; simp at hj
      · rw [Store.del_ne _ hjg] at hj; exact hj
    · refine h v' s' (Store.sub_trans hτ0 hs) (ho.weak hτ0) ?_
      rcases h2 with h2 | ⟨g2, hv2, hg2, hh2⟩
      · exact .inl h2
      · have hne : g2 ≠ g := fun e => by
          rw [e, hh] at hh2
          have := Option.some.inj hh2
          injection this with h3
          exact he h3
        exact .inr ⟨g2, hv2, hg2, hs _ _ (by rw [Store.del_ne _ hne]; exact hh2)⟩
theorem uses_drop {B : Int} {ks : List KS} (hok : ∀ k ∈ ks, k.ok B) (k j : Int) (hj : 0 ≤ j) : usesAt (dropK ks k) j = usesAt ks j - (if j = k ∧ 0 < usesAt ks k then 1 else 0) := by
  unfold dropK
  by_cases k0 : 0 ≤ k
  · rw [if_pos k0]
    by_cases hkl : k.toNat < ks.length
    · have hk := hok _ (List.getElem_mem hkl)
      rw [List.getElem?_eq_getElem hkl]
      cases hc : ks[k.toNat] with
      | free z =>
        have h0 : usesAt ks k = 0 := by rw [usesAt_of k0 hkl, hc]; rfl
        rw [if_neg (by omega)]; simp only; omega
      | used a u =>
        rw [hc] at hk
        have h0 : usesAt ks k = u := by rw [usesAt_of k0 hkl, hc]; rfl
        simp only
        have hu := hk.2.1
        by_cases hjk : j = k
        · subst hjk
          rw [h0, show (if j = j ∧ 0 < u then (1 : Int) else 0) = 1 from if_pos ⟨rfl, by omega⟩, usesAt_of hj (by simpa using hkl), List.getElem_set_self]
          split
          · rename_i h1; subst h1; rfl
          · rfl
        · rw [show (if j = k ∧ 0 < usesAt ks k then (1 : Int) else 0) = 0 from if_neg (fun h => hjk h.1)]
          unfold usesAt
          rw [if_pos hj, if_pos hj, List.getElem?_set_ne (by omega), Int.sub_zero]
    · have h0 : usesAt ks k = 0 := usesAt_out (by omega)
      rw [List.getElem?_eq_none (by omega), if_neg (by omega)]; simp
  · have h0 : usesAt ks k = 0 := usesAt_out (by omega)
    rw [if_neg k0, if_neg (by omega)]; simp
theorem get_drop {B : Int} {ks : List KS} (hok : ∀ k ∈ ks, k.ok B) (k j : Int) (hj : 0 ≤ j) (h : 0 < usesAt (dropK ks k) j) : getA (dropK ks k) j = getA ks j := by
  revert h
  unfold dropK
  by_cases k0 : 0 ≤ k
  · rw [if_pos k0]
    by_cases hkl : k.toNat < ks.length
    · rw [List.getElem?_eq_getElem hkl]
      cases hc : ks[k.toNat] with
      | free z => intro _; rfl
      | used a u =>
        simp only
        intro h
        by_cases hjk : j = k
        · subst hjk
          unfold getA
          rw [if_pos hj, if_pos hj, List.getElem?_eq_getElem (by simpa using hkl), List.getElem?_eq_getElem hkl, List.getElem_set_self, hc]
          rw [usesAt_of hj (by simpa using hkl), List.getElem_set_self] at h
          split
          · rename_i heq
            split at heq
            · rename_i h1; subst h1; simp [KS.n] at h
            · cases heq; rfl
          · rename_i hno
            exfalso
            by_cases h1 : u = 1
            · subst h1; simp [KS.n] at h
            · exact hno a (u - 1) (by rw [if_neg h1])
        · unfold getA
          rw [if_pos hj, if_pos hj, List.getElem?_set_ne (by omega)]
    · rw [List.getElem?_eq_none (by omega)]; intro _; rfl
  · rw [if_neg k0]; intro _; rfl
theorem len_drop {B : Int} {ks : List KS} (hok : ∀ k ∈ ks, k.ok B) (k : Int) : (((dropK ks k).filter fun k => decide (k.n ≠ 0)).length : Int) = ((ks.filter fun k => decide (k.n ≠ 0)).length : Int) - (if usesAt ks k = 1 then 1 else 0) := by
  unfold dropK
  by_cases k0 : 0 ≤ k
  · rw [if_pos k0]
    by_cases hkl : k.toNat < ks.length
    · have hk := hok _ (List.getElem_mem hkl)
      rw [List.getElem?_eq_getElem hkl]
      cases hc : ks[k.toNat] with
      | free z =>
        have h0 : usesAt ks k = 0 := by rw [usesAt_of k0 hkl, hc]; rfl
        rw [if_neg (by omega)]; simp
      | used a u =>
        rw [hc] at hk
        have hu := hk.2.1
        have h0 : usesAt ks k = u := by rw [usesAt_of k0 hkl, hc]; rfl
        have e0 : (ks.filter fun k => decide (k.n ≠ 0)) = ((ks.take k.toNat ++ ks[k.toNat] :: ks.drop (k.toNat + 1)).filter fun k => decide (k.n ≠ 0)) := by
          rw [List.getElem_cons_drop, List.take_append_drop]
        have hn : ¬ u = 0 := by omega
        rw [h0, e0, hc]
        simp only
        rw [List.set_eq_take_append_cons_drop, if_pos hkl]
        by_cases h1 : u = 1
        · subst h1
          simp [List.filter_append, List.filter_cons, KS.n]; omega
        · have hn1 : ¬ u - 1 = 0 := by omega
          simp [List.filter_append, List.filter_cons, KS.n, h1, hn, hn1]
    · have h0 : usesAt ks k = 0 := usesAt_out (by omega)
      rw [List.getElem?_eq_none (by omega), if_neg (by omega)]; simp
  · have h0 : usesAt ks k = 0 := usesAt_out (by omega)
    rw [if_neg k0, if_neg (by omega)]; simp
theorem bne_tt : (true != true) = false := rfl
theorem bne_ff : (false != false) = false := rfl
/-- All else that lies there, below a table. -/
theorem TI.rebase {B : Int} {τ s : Store} {id : Nat} {room : Int} {ks : List KS} (h : TI B τ id room ks s) : ∃ τ', Store.sub τ τ' ∧ Store.sub τ' s ∧ TI B τ' id room ks s ∧ ∀ j o, s j = some o → j ≠ id → (∀ L, o ≠ .arr 10 L) → τ' j = some o := by
  obtain ⟨h1, h2, h3, h4, v, h5, h6⟩ := h
  rcases h6 with ⟨hk, hv⟩ | ⟨g, hv, hg, hs⟩
  · refine ⟨s.del id, sub_del h2 h1, fun j o hj => ?_, ⟨by simp, fun j o hj => ?_, h3, h4, v, h5, .inl ⟨hk, hv⟩⟩, fun j o hj hne _ => by rw [Store.del_ne _ hne]; exact hj⟩
    all_goals
      by_cases hji : j = id
      · subst hji; simp at hj
      · rw [Store.del_ne _ hji] at hj; exact hj
  · have hgi : ¬ g = id := fun e => by rw [e, h5] at hs; cases hs
    have hsub : Store.sub ((s.del id).del g) s := fun j o hj => by
      by_cases hjg : j = g
      · subst hjg; simp at hj
      · rw [Store.del_ne _ hjg] at hj
        by_cases hji : j = id
        · subst hji; simp at hj
        · rw [Store.del_ne _ hji] at hj; exact hj
    refine ⟨(s.del id).del g, sub_del (sub_del h2 h1) hg, hsub, ⟨by rw [Store.del_ne _ (fun e => hgi e.symm)]; simp, hsub, h3, h4, v, h5, .inr ⟨g, hv, by simp, hs⟩⟩, fun j o hj hne hL => ?_⟩
    have hjg : j ≠ g := fun e => by subst e; rw [hs] at hj; cases hj; exact hL _ rfl
    rw [Store.del_ne _ hjg, Store.del_ne _ hne]; exact hj
theorem uses_le {B : Int} {ks : List KS} (hB : 0 ≤ B) (hok : ∀ k ∈ ks, k.ok B) (j : Int) : 0 ≤ usesAt ks j ∧ usesAt ks j ≤ B := by
  by_cases hin : 0 ≤ j ∧ j.toNat < ks.length
  · have hk := hok _ (List.getElem_mem hin.2)
    rw [usesAt_of hin.1 hin.2]
    refine ⟨KS.nn hk, ?_⟩
    cases hc : ks[j.toNat] with
    | free z => exact hB
    | used a u => rw [hc] at hk; exact hk.2.2
  · rw [usesAt_out hin]; exact ⟨Int.le_refl _, hB⟩
theorem zeroAt_ok : zeroAt.ok := ⟨by simp [zeroAt], by simp [zeroAt], by simp [zeroAt]⟩
theorem getA_ok {B : Int} {ks : List KS} (hok : ∀ k ∈ ks, k.ok B) (j : Int) : (getA ks j).ok := by
  unfold getA
  split
  · split
    · rename_i a u hh
      obtain ⟨hlt, hh⟩ := List.getElem?_eq_some_iff.1 hh
      have hk := hok _ (List.getElem_mem hlt)
      rw [hh] at hk
      exact canonA_ok hk.1
    · exact zeroAt_ok
  · exact zeroAt_ok
theorem bne_same (b : Bool) : (b != b) = false := by cases b <;> rfl
end Go.Am

/- C1 -/
namespace Go.Am
open Go.Proofs Go.Sort
theorem tail_apart (ks : List KS) (drops : List Int) (hd : Small drops) (hdo : ∀ d ∈ drops, I64 d) (E : Env) (E0 : AV) {B : Int} (hB0 : 0 ≤ B) (hB : B ≤ 1000) {σ s : Store} {id : Nat} (hT : TI B σ id 64 ks s) {n r : Env → Store → Prop} {x : Nat → Env → Store → Prop}
    (hr : ∀ s', Store.sub σ s' → r [(4, .bool true)] s') :
    bwp Try.prog Tse.t6_11 ((0, E0) :: (1, .sl 1 (drops.map cI)) :: (5, .ptr id 0) :: E) s n r x := by
  simp only [Tse.t6_11]
  simp only [↓vcPre, ↓wit_get, ↓reduceIte, vcPost, vcStd, Nat.reduceEqDiff, reduceCtorEq, Nat.reduceAdd, Nat.reduceLeDiff, Int.reduceLT, Int.reduceLE, ↓u_setN]
  refine LoopQ.inv (S := Nat × List KS × Store) (fun q => [(1, .sl 1 (drops.map cI)), (5, .ptr id 0), (11, .int .i64 (q.1 : Int))]) (fun q => q.2.2) (fun q => q.1 ≤ drops.length ∧ q.1 ≤ 20 ∧ TI B σ id 64 q.2.1 q.2.2) (fun q => 21 - q.1) (0, ks, s) rfl (Store.sub_refl _) ⟨by simp only; omega, by simp only; omega, hT⟩ ?_
  rintro ⟨i, ks, s⟩ ⟨hi, hi2, hTi⟩
  simp only at hi hi2 hTi
  unfold Small at hd
  simp only [↓vcPre, ↓wit_get, ↓reduceIte, vcPost, vcStd, Nat.reduceEqDiff, reduceCtorEq, Nat.reduceAdd, Nat.reduceLeDiff, Int.reduceLT, Int.reduceLE, ↓u_setN]
  refine ⟨fun c1 => ⟨fun c2 => ?_, fun c2 => ?_⟩, fun c1 => ?_⟩
  · refine ⟨c1, by simp [cI], ?_⟩
    simp only [cI, ↓vcPre, ↓wit_get, ↓reduceIte, vcPost, vcStd, Nat.reduceEqDiff, reduceCtorEq, Nat.reduceAdd, Nat.reduceLeDiff, Int.reduceLT, Int.reduceLE, ↓u_setN]
    refine (c14 _ 0 63 (hdo _ (List.getElem_mem c1)) (by omega) (by omega) (by omega)).Q ?_
    obtain ⟨k, hk, hk2⟩ : ∃ k : Nat, (0 : Int) + drops[i] % (63 - 0 + 1) = k ∧ k ≤ 63 := ⟨(drops[i] % 64).toNat, by omega, by omega⟩
    rw [hk]
    simp only [↓vcPre, ↓wit_get, ↓reduceIte, vcPost, vcStd, Nat.reduceEqDiff, reduceCtorEq, Nat.reduceAdd, Nat.reduceLeDiff, Int.reduceLT, Int.reduceLE, ↓u_setN]
    refine LoopQ.inv (S := Nat × AV × AV × Store) (fun q => [(1, .sl 1 (drops.map cI)), (5, .ptr id 0), (11, .int .i64 (i : Int)), (12, .int .i64 (k : Int)), (13, q.2.1), (14, q.2.2.1), (15, .int .i64 (q.1 : Int))]) (fun q => q.2.2.2)
      (fun q => q.1 ≤ 64 ∧ Store.sub s q.2.2.2 ∧ Own 9 s ((List.range q.1).map fun j : Nat => (getA ks (j : Int)).c) q.2.1 q.2.2.2 ∧ Own 1 s ((List.range q.1).map fun j : Nat => cI (usesAt ks (j : Int))) q.2.2.1 q.2.2.2) (fun q => 65 - q.1) (0, .nils, .nils, s) rfl (Store.sub_refl _) ⟨by simp only; omega, Store.sub_refl _, .nil, .nil⟩ ?_
    rintro ⟨j, vw, vu, s1⟩ ⟨hj, hs1, hw, hu⟩
    simp only at hj hs1 hw hu
    have hT1 : ∀ {s1 : Store}, Store.sub s s1 → TI B σ id 64 ks s1 := fun hs => by
      obtain ⟨h1, h2, h3, h4, v, h5, h6⟩ := hTi
      exact ⟨h1, Store.sub_trans h2 hs, h3, h4, v, hs _ _ h5, h6.mono hs⟩
    simp only [↓vcPre, ↓wit_get, ↓reduceIte, vcPost, vcStd, Nat.reduceEqDiff, reduceCtorEq, Nat.reduceAdd, Nat.reduceLeDiff, Int.reduceLT, Int.reduceLE, ↓u_setN]
    refine ⟨fun d1 => ?_, fun d1 => ?_⟩
    · refine (s23 (hT1 hs1) j).Q ?_
      rintro r1 s2 ⟨rfl, rfl⟩
      simp only [↓vcPre, ↓wit_get, ↓reduceIte, vcPost, vcStd, Nat.reduceEqDiff, reduceCtorEq, Nat.reduceAdd, Nat.reduceLeDiff, Int.reduceLT, Int.reduceLE, ↓u_setN]
      refine AllocQ.i0 fun b hb => ?_
      simp only [↓vcPre, ↓wit_get, ↓reduceIte, vcPost, vcStd, Nat.reduceEqDiff, reduceCtorEq, Nat.reduceAdd, Nat.reduceLeDiff, Int.reduceLT, Int.reduceLE, ↓u_setN]
      have e9 : ∀ y : At, y.c.length = 9 := fun _ => rfl
      have t9 : ∀ y : At, List.take 9 y.c = y.c := fun _ => rfl
      have p9 : ∀ z : List AV, z.length = 9 → splice 0 (getA ks j).c z = some (getA ks j).c := fun z hz => splice_all _ _ (by rw [hz]; rfl)
      refine ⟨rfl, ?_⟩
      rw [p9 _ rfl, wit_some, Store.set_set]
      refine ⟨by rw [e9]; exact Nat.le_refl _, rfl, ?_⟩
      rw [t9]
      have hsb0 := Store.sub_set s2 b (.box (getA ks j).c) hb
      generalize s2.set b (.box (getA ks j).c) = s2' at hsb0 ⊢
      refine AllocQ.i0 fun b' hb' => ?_
      simp only [↓vcPre, ↓wit_get, ↓reduceIte, vcPost, vcStd, Nat.reduceEqDiff, reduceCtorEq, Nat.reduceAdd, Nat.reduceLeDiff, Int.reduceLT, Int.reduceLE, ↓u_setN]
      have hsb := Store.sub_trans hsb0 (Store.sub_set s2' b' (.arr 9 [(getA ks j).c]) hb')
      refine Own.app2 (e1 := 9) (e2 := 1) (bytes := 80) (τ := s) (by decide) (Store.sub_trans hs1 hsb) (hw.mono hsb) (hu.mono hsb) (slc_os0 (Store.set_same _ _ _) rfl) (by simp; omega) fun vw' s3 hs3 hw3 hu3 => ?_
      refine (s26 (hT1 hs3) j).Q ?_
      rintro r1 s4 ⟨rfl, rfl⟩
      simp only [↓vcPre, ↓wit_get, ↓reduceIte, vcPost, vcStd, Nat.reduceEqDiff, reduceCtorEq, Nat.reduceAdd, Nat.reduceLeDiff, Int.reduceLT, Int.reduceLE, ↓u_setN]
      refine AllocQ.i0 fun b2 hb2 => ?_
      simp only [↓vcPre, ↓wit_get, ↓reduceIte, vcPost, vcStd, Nat.reduceEqDiff, reduceCtorEq, Nat.reduceAdd, Nat.reduceLeDiff, Int.reduceLT, Int.reduceLE, ↓u_setN]
      have hsb2 := Store.sub_set s4 b2 (.arr 1 [[.int .i64 (usesAt ks j)]]) hb2
      refine Own.app2 (e1 := 1) (e2 := 9) (bytes := 8) (τ := s) (by decide) (Store.sub_trans hs3 hsb2) (hu3.mono hsb2) (hw3.mono hsb2) (slc_os0 (Store.set_same _ _ _) rfl) (by simp; omega) fun vu' s5 hs5 hu5 hw5 => ?_
      have ej : IntKind.i64.wrap ((j : Int) + 1) = ((j + 1 : Nat) : Int) := by rw [wrap64 (by unfold I64; omega)]; omega
      rw [ej]
      refine NextQ.to (j + 1, vw', vu', s5) rfl (Store.sub_refl _) (by simp only; omega) ⟨by simp only; omega, hs5, ?_, ?_⟩
      · simp only [List.range_succ, List.map_append, List.map_cons, List.map_nil]; exact hw5
      · simp only [List.range_succ, List.map_append, List.map_cons, List.map_nil]; exact hu5
    · have hj64 : j = 64 := by omega
      subst hj64
      refine (s28 (hT1 hs1)).Q ?_
      rintro r1 s2 ⟨rfl, rfl⟩
      simp only [↓vcPre, ↓wit_get, ↓reduceIte, vcPost, vcStd, Nat.reduceEqDiff, reduceCtorEq, Nat.reduceAdd, Nat.reduceLeDiff, Int.reduceLT, Int.reduceLE, ↓u_setN]
      obtain ⟨τ1, q1, q2, q3, q4⟩ := (hT1 hs1).rebase
      obtain ⟨gw, rfl, hgw⟩ : ∃ g, vw = .os g 9 0 64 ∧ τ1 g = some (.arr 9 ((List.range 64).map fun j : Nat => (getA ks (j : Int)).c)) := by
        rcases hw with ⟨h, _⟩ | ⟨g, h1, h2, h3⟩
        · simp at h
        · have hid := (hT1 hs1).2.2.2.2
          obtain ⟨v, hv, _⟩ := hid
          exact ⟨g, by rw [h1]; simp, q4 g _ h3 (fun e => by rw [e, hv] at h3; cases h3) (fun L h => by cases h)⟩
      obtain ⟨gu, rfl, hgu⟩ : ∃ g, vu = .os g 1 0 64 ∧ τ1 g = some (.arr 1 ((List.range 64).map fun j : Nat => cI (usesAt ks (j : Int)))) := by
        rcases hu with ⟨h, _⟩ | ⟨g, h1, h2, h3⟩
        · simp at h
        · have hid := (hT1 hs1).2.2.2.2
          obtain ⟨v, hv, _⟩ := hid
          exact ⟨g, by rw [h1]; simp, q4 g _ h3 (fun e => by rw [e, hv] at h3; cases h3) (fun L h => by cases h)⟩
      refine (s27 (by omega) q3 k).Q ?_
      rintro r1 s3 ⟨rfl, hT3⟩
      have hgw3 := hT3.2.1 _ _ hgw
      have hTn : TI B σ id 64 (dropK ks k) s3 := by
        obtain ⟨h1, h2, h3, h4, v, h5, h6⟩ := hT3
        exact ⟨hTi.1, Store.sub_trans q1 h2, h3, h4, v, h5, h6.weak q1⟩
      have ei : IntKind.i64.wrap ((i : Int) + 1) = ((i + 1 : Nat) : Int) := by rw [wrap64 (by unfold I64; omega)]; omega
      have hgu3 := hT3.2.1 _ _ hgu
      have hg0 := fun (j : Nat) (h : j < ((List.range 64).map fun j : Nat => cI (usesAt ks (j : Int))).length) => (by simp : ((List.range 64).map fun j : Nat => cI (usesAt ks (j : Int)))[j] = cI (usesAt ks (j : Int)))
      simp only [hgu3, ↓vcPre, ↓wit_get, ↓reduceIte, vcPost, vcStd, Nat.reduceEqDiff, reduceCtorEq, Nat.reduceAdd, Nat.reduceLeDiff, Int.reduceLT, Int.reduceLE, ↓u_setN]
      simp only [Nat.zero_add, List.getElem_range]
      refine ⟨by omega, by simp; omega, by simp [cI], ?_⟩
      by_cases hu0 : 0 < usesAt ks (k : Int)
      · simp only [if_pos hu0]
        simp only [cI, hu0, bne_tt, ↓vcPre, ↓wit_get, ↓reduceIte, vcPost, vcStd, Nat.reduceEqDiff, reduceCtorEq, Nat.reduceAdd, Nat.reduceLeDiff, Int.reduceLT, Int.reduceLE, ↓u_setN]
        refine LoopQ.inv (S := Nat) (fun j => [(1, .sl 1 (drops.map cI)), (5, .ptr id 0), (11, .int .i64 (i : Int)), (12, .int .i64 (k : Int)), (13, .os gw 9 0 64), (14, .os gu 1 0 64), (18, .int .i64 ((ks.filter fun k => decide (k.n ≠ 0)).length : Int)), (19, .int .i64 0), (20, .int .i64 (j : Int))]) (fun _ => s3) (fun j => j ≤ 64) (fun j => 65 - j) 0 rfl (Store.sub_refl _) (by omega) ?_
        intro j hj
        have ej : IntKind.i64.wrap ((j : Int) + 1) = ((j + 1 : Nat) : Int) := by rw [wrap64 (by unfold I64; omega)]; omega
        have hule := uses_le hB0 hTi.2.2.1 (j : Int)
        have huj := uses_drop hTi.2.2.1 (k : Int) (j : Int) (by omega)
        have hgj := get_drop hTi.2.2.1 (k : Int) (j : Int) (by omega)
        simp only [hgu3, Nat.zero_add, ↓vcPre, ↓wit_get, ↓reduceIte, vcPost, vcStd, Nat.reduceEqDiff, reduceCtorEq, Nat.reduceAdd, Nat.reduceLeDiff, Int.reduceLT, Int.reduceLE, ↓u_setN]
        refine ⟨fun d1 => ?_, fun d1 => ?_⟩
        · simp only [List.getElem_range]
          refine ⟨by omega, by simp; omega, by simp [cI], ?_⟩
          simp only [cI, ↓vcPre, ↓wit_get, ↓reduceIte, vcPost, vcStd, Nat.reduceEqDiff, reduceCtorEq, Nat.reduceAdd, Nat.reduceLeDiff, Int.reduceLT, Int.reduceLE, ↓u_setN]
          refine ⟨fun g1 => (s23 hT3 j).Q ?_, fun g1 => (s23 hT3 j).Q ?_⟩
          · rintro r1 s4 ⟨rfl, rfl⟩
            simp only [↓vcPre, ↓wit_get, ↓reduceIte, vcPost, vcStd, Nat.reduceEqDiff, reduceCtorEq, Nat.reduceAdd, Nat.reduceLeDiff, Int.reduceLT, Int.reduceLE, ↓u_setN]
            refine AllocQ.i0 fun b hb => ?_
            simp only [↓vcPre, ↓wit_get, ↓reduceIte, vcPost, vcStd, Nat.reduceEqDiff, reduceCtorEq, Nat.reduceAdd, Nat.reduceLeDiff, Int.reduceLT, Int.reduceLE, ↓u_setN]
            have p9 : ∀ z : List AV, z.length = 9 → splice 0 (getA (dropK ks k) j).c z = some (getA (dropK ks k) j).c := fun z hz => splice_all _ _ (by rw [hz]; rfl)
            have e9 : ∀ y : At, y.c.length = 9 := fun _ => rfl
            have t9 : ∀ y : At, List.take 9 y.c = y.c := fun _ => rfl
            refine ⟨rfl, ?_⟩
            rw [p9 _ rfl, wit_some, Store.set_set]
            have hsb0 := Store.sub_set s4 b (.box (getA (dropK ks k) j).c) hb
            have hTb : (s4.set b (.box (getA (dropK ks k) j).c)) b = some (.box (getA (dropK ks k) j).c) := Store.set_same _ _ _
            have hgw4 := hsb0 _ _ hgw3
            generalize s4.set b (.box (getA (dropK ks k) j).c) = s5 at hsb0 hTb hgw4 ⊢
            have hT5 : TI B τ1 id 64 (dropK ks k) s5 := by
              obtain ⟨h1, h2, h3, h4, v, h5, h6⟩ := hT3
              exact ⟨h1, Store.sub_trans h2 hsb0, h3, h4, v, hsb0 _ _ h5, h6.mono hsb0⟩
            refine (s26 hT5 j).Q ?_
            rintro r1 s6 ⟨rfl, rfl⟩
            simp only [hTb, hgw4, e9, t9, Nat.le_refl, Nat.zero_add, ↓vcPre, ↓wit_get, ↓reduceIte, vcPost, vcStd, Nat.reduceEqDiff, reduceCtorEq, Nat.reduceAdd, Nat.reduceLeDiff, Int.reduceLT, Int.reduceLE, ↓u_setN]
            have hW : IntKind.i64.wrap (usesAt ks (j : Int) - 1) = usesAt (dropK ks (k : Int)) (j : Int) := by
              rw [huj, show (if (j : Int) = (k : Int) ∧ 0 < usesAt ks (k : Int) then (1 : Int) else 0) = 1 from if_pos ⟨g1, hu0⟩, wrap64 (by unfold I64; omega)]
            rw [hW]
            simp only [bne_same, ↓vcPre, ↓wit_get, ↓reduceIte, vcPost, vcStd, Nat.reduceEqDiff, reduceCtorEq, Nat.reduceAdd, Nat.reduceLeDiff, Int.reduceLT, Int.reduceLE, ↓u_setN]
            refine ⟨fun g2 => ⟨by omega, by simp; omega, ?_⟩, fun g2 => NextQ.to (j + 1) (by rw [ej]) hsb0 (by omega) (by omega)⟩
            simp only [List.getElem_range]
            rw [← hgj g2]
            refine (c25 _ _ (getA_ok hT5.2.2.1 _) (getA_ok hT5.2.2.1 _)).Q ?_
            simp only [↓vcPre, ↓wit_get, ↓reduceIte, vcPost, vcStd, Nat.reduceEqDiff, reduceCtorEq, Nat.reduceAdd, Nat.reduceLeDiff, Int.reduceLT, Int.reduceLE, ↓u_setN]
            exact NextQ.to (j + 1) (by rw [ej]) hsb0 (by omega) (by omega)
          · rintro r1 s4 ⟨rfl, rfl⟩
            simp only [↓vcPre, ↓wit_get, ↓reduceIte, vcPost, vcStd, Nat.reduceEqDiff, reduceCtorEq, Nat.reduceAdd, Nat.reduceLeDiff, Int.reduceLT, Int.reduceLE, ↓u_setN]
            refine AllocQ.i0 fun b hb => ?_
            simp only [↓vcPre, ↓wit_get, ↓reduceIte, vcPost, vcStd, Nat.reduceEqDiff, reduceCtorEq, Nat.reduceAdd, Nat.reduceLeDiff, Int.reduceLT, Int.reduceLE, ↓u_setN]
            have p9 : ∀ z : List AV, z.length = 9 → splice 0 (getA (dropK ks k) j).c z = some (getA (dropK ks k) j).c := fun z hz => splice_all _ _ (by rw [hz]; rfl)
            have e9 : ∀ y : At, y.c.length = 9 := fun _ => rfl
            have t9 : ∀ y : At, List.take 9 y.c = y.c := fun _ => rfl
            refine ⟨rfl, ?_⟩
            rw [p9 _ rfl, wit_some, Store.set_set]
            have hsb0 := Store.sub_set s4 b (.box (getA (dropK ks k) j).c) hb
            have hTb : (s4.set b (.box (getA (dropK ks k) j).c)) b = some (.box (getA (dropK ks k) j).c) := Store.set_same _ _ _
            have hgw4 := hsb0 _ _ hgw3
            generalize s4.set b (.box (getA (dropK ks k) j).c) = s5 at hsb0 hTb hgw4 ⊢
            have hT5 : TI B τ1 id 64 (dropK ks k) s5 := by
              obtain ⟨h1, h2, h3, h4, v, h5, h6⟩ := hT3
              exact ⟨h1, Store.sub_trans h2 hsb0, h3, h4, v, hsb0 _ _ h5, h6.mono hsb0⟩
            refine (s26 hT5 j).Q ?_
            rintro r1 s6 ⟨rfl, rfl⟩
            simp only [hTb, hgw4, e9, t9, Nat.le_refl, Nat.zero_add, ↓vcPre, ↓wit_get, ↓reduceIte, vcPost, vcStd, Nat.reduceEqDiff, reduceCtorEq, Nat.reduceAdd, Nat.reduceLeDiff, Int.reduceLT, Int.reduceLE, ↓u_setN]
            have hW : usesAt ks (j : Int) = usesAt (dropK ks (k : Int)) (j : Int) := by
              rw [huj, show (if (j : Int) = (k : Int) ∧ 0 < usesAt ks (k : Int) then (1 : Int) else 0) = 0 from if_neg (fun h => g1 h.1), Int.sub_zero]
            rw [← hW] at hgj ⊢
            simp only [bne_same, ↓vcPre, ↓wit_get, ↓reduceIte, vcPost, vcStd, Nat.reduceEqDiff, reduceCtorEq, Nat.reduceAdd, Nat.reduceLeDiff, Int.reduceLT, Int.reduceLE, ↓u_setN]
            refine ⟨fun g2 => ⟨by omega, by simp; omega, ?_⟩, fun g2 => NextQ.to (j + 1) (by rw [ej]) hsb0 (by omega) (by omega)⟩
            simp only [List.getElem_range]
            rw [← hgj g2]
            refine (c25 _ _ (getA_ok hT5.2.2.1 _) (getA_ok hT5.2.2.1 _)).Q ?_
            simp only [↓vcPre, ↓wit_get, ↓reduceIte, vcPost, vcStd, Nat.reduceEqDiff, reduceCtorEq, Nat.reduceAdd, Nat.reduceLeDiff, Int.reduceLT, Int.reduceLE, ↓u_setN]
            exact NextQ.to (j + 1) (by rw [ej]) hsb0 (by omega) (by omega)
        · simp only [List.getElem_range, ↓vcPre, ↓wit_get, ↓reduceIte, vcPost, vcStd, Nat.reduceEqDiff, reduceCtorEq, Nat.reduceAdd, Nat.reduceLeDiff, Int.reduceLT, Int.reduceLE, ↓u_setN]
          refine ⟨by omega, by simp; omega, by simp [cI], ?_⟩
          simp only [cI, ↓vcPre, ↓wit_get, ↓reduceIte, vcPost, vcStd, Nat.reduceEqDiff, reduceCtorEq, Nat.reduceAdd, Nat.reduceLeDiff, Int.reduceLT, Int.reduceLE, ↓u_setN]
          have hln := len_drop hTi.2.2.1 (k : Int)
          have hfl := List.length_filter_le (fun k : KS => decide (k.n ≠ 0)) ks
          have hkl := hTi.2.2.2.1
          refine ⟨fun g1 => (s28 hT3).Q ?_, fun g1 => (s28 hT3).Q ?_⟩
          · rintro r1 s4 ⟨rfl, rfl⟩
            rw [if_pos g1] at hln
            simp only [↓vcPre, ↓wit_get, ↓reduceIte, vcPost, vcStd, Nat.reduceEqDiff, reduceCtorEq, Nat.reduceAdd, Nat.reduceLeDiff, Int.reduceLT, Int.reduceLE, ↓u_setN]
            have ew := wrap64 (n := ((ks.filter fun k => decide (k.n ≠ 0)).length : Int) - 1) (by unfold I64; omega)
            rw [ew]
            exact ⟨fun g2 => absurd hln g2, fun _ => NextQ.to (i + 1, dropK ks k, s4) (by rw [ei]) (Store.sub_refl _) (by simp only; omega) ⟨by simp only; omega, by simp only; omega, hTn⟩⟩
          · rintro r1 s4 ⟨rfl, rfl⟩
            rw [if_neg g1, Int.sub_zero] at hln
            simp only [↓vcPre, ↓wit_get, ↓reduceIte, vcPost, vcStd, Nat.reduceEqDiff, reduceCtorEq, Nat.reduceAdd, Nat.reduceLeDiff, Int.reduceLT, Int.reduceLE, ↓u_setN]
            exact ⟨fun g2 => absurd hln g2, fun _ => NextQ.to (i + 1, dropK ks k, s4) (by rw [ei]) (Store.sub_refl _) (by simp only; omega) ⟨by simp only; omega, by simp only; omega, hTn⟩⟩
      · simp only [if_neg hu0]
        simp only [cI, hu0, bne_ff, show ((22 : Int) = 0) = False from by simp, ↓vcPre, ↓wit_get, ↓reduceIte, vcPost, vcStd, Nat.reduceEqDiff, reduceCtorEq, Nat.reduceAdd, Nat.reduceLeDiff, Int.reduceLT, Int.reduceLE, ↓u_setN]
        refine LoopQ.inv (S := Nat) (fun j => [(1, .sl 1 (drops.map cI)), (5, .ptr id 0), (11, .int .i64 (i : Int)), (12, .int .i64 (k : Int)), (13, .os gw 9 0 64), (14, .os gu 1 0 64), (18, .int .i64 ((ks.filter fun k => decide (k.n ≠ 0)).length : Int)), (19, .int .i64 22), (20, .int .i64 (j : Int))]) (fun _ => s3) (fun j => j ≤ 64) (fun j => 65 - j) 0 rfl (Store.sub_refl _) (by omega) ?_
        intro j hj
        have ej : IntKind.i64.wrap ((j : Int) + 1) = ((j + 1 : Nat) : Int) := by rw [wrap64 (by unfold I64; omega)]; omega
        have huj := uses_drop hTi.2.2.1 (k : Int) (j : Int) (by omega)
        rw [if_neg (fun h => hu0 h.2), Int.sub_zero] at huj
        have hgj := get_drop hTi.2.2.1 (k : Int) (j : Int) (by omega)
        rw [huj] at hgj
        simp only [hgu3, Nat.zero_add, ↓vcPre, ↓wit_get, ↓reduceIte, vcPost, vcStd, Nat.reduceEqDiff, reduceCtorEq, Nat.reduceAdd, Nat.reduceLeDiff, Int.reduceLT, Int.reduceLE, ↓u_setN]
        refine ⟨fun d1 => ?_, fun d1 => ?_⟩
        · simp only [List.getElem_range]
          refine ⟨by omega, by simp; omega, by simp [cI], ?_⟩
          simp only [cI, ↓vcPre, ↓wit_get, ↓reduceIte, vcPost, vcStd, Nat.reduceEqDiff, reduceCtorEq, Nat.reduceAdd, Nat.reduceLeDiff, Int.reduceLT, Int.reduceLE, ↓u_setN]
          refine ⟨fun g1 => ⟨fun g2 => absurd g2 (by omega), fun _ => (s23 hT3 j).Q ?_⟩, fun g1 => (s23 hT3 j).Q ?_⟩
          · rintro r1 s4 ⟨rfl, rfl⟩
            simp only [↓vcPre, ↓wit_get, ↓reduceIte, vcPost, vcStd, Nat.reduceEqDiff, reduceCtorEq, Nat.reduceAdd, Nat.reduceLeDiff, Int.reduceLT, Int.reduceLE, ↓u_setN]
            refine AllocQ.i0 fun b hb => ?_
            simp only [↓vcPre, ↓wit_get, ↓reduceIte, vcPost, vcStd, Nat.reduceEqDiff, reduceCtorEq, Nat.reduceAdd, Nat.reduceLeDiff, Int.reduceLT, Int.reduceLE, ↓u_setN]
            have p9 : ∀ z : List AV, z.length = 9 → splice 0 (getA (dropK ks k) j).c z = some (getA (dropK ks k) j).c := fun z hz => splice_all _ _ (by rw [hz]; rfl)
            have e9 : ∀ y : At, y.c.length = 9 := fun _ => rfl
            have t9 : ∀ y : At, List.take 9 y.c = y.c := fun _ => rfl
            refine ⟨rfl, ?_⟩
            rw [p9 _ rfl, wit_some, Store.set_set]
            have hsb0 := Store.sub_set s4 b (.box (getA (dropK ks k) j).c) hb
            have hTb : (s4.set b (.box (getA (dropK ks k) j).c)) b = some (.box (getA (dropK ks k) j).c) := Store.set_same _ _ _
            have hgw4 := hsb0 _ _ hgw3
            generalize s4.set b (.box (getA (dropK ks k) j).c) = s5 at hsb0 hTb hgw4 ⊢
            have hT5 : TI B τ1 id 64 (dropK ks k) s5 := by
              obtain ⟨h1, h2, h3, h4, v, h5, h6⟩ := hT3
              exact ⟨h1, Store.sub_trans h2 hsb0, h3, h4, v, hsb0 _ _ h5, h6.mono hsb0⟩
            refine (s26 hT5 j).Q ?_
            rintro r1 s6 ⟨rfl, rfl⟩
            simp only [hTb, hgw4, e9, t9, Nat.le_refl, Nat.zero_add, ↓vcPre, ↓wit_get, ↓reduceIte, vcPost, vcStd, Nat.reduceEqDiff, reduceCtorEq, Nat.reduceAdd, Nat.reduceLeDiff, Int.reduceLT, Int.reduceLE, ↓u_setN]
            have hW : usesAt ks (j : Int) = usesAt (dropK ks (k : Int)) (j : Int) := huj.symm
            rw [← hW]
            simp only [bne_same, ↓vcPre, ↓wit_get, ↓reduceIte, vcPost, vcStd, Nat.reduceEqDiff, reduceCtorEq, Nat.reduceAdd, Nat.reduceLeDiff, Int.reduceLT, Int.reduceLE, ↓u_setN]
            refine ⟨fun g2 => ⟨by omega, by simp; omega, ?_⟩, fun g2 => NextQ.to (j + 1) (by rw [ej]) hsb0 (by omega) (by omega)⟩
            simp only [List.getElem_range]
            rw [← hgj g2]
            refine (c25 _ _ (getA_ok hT5.2.2.1 _) (getA_ok hT5.2.2.1 _)).Q ?_
            simp only [↓vcPre, ↓wit_get, ↓reduceIte, vcPost, vcStd, Nat.reduceEqDiff, reduceCtorEq, Nat.reduceAdd, Nat.reduceLeDiff, Int.reduceLT, Int.reduceLE, ↓u_setN]
            exact NextQ.to (j + 1) (by rw [ej]) hsb0 (by omega) (by omega)
          · rintro r1 s4 ⟨rfl, rfl⟩
            simp only [↓vcPre, ↓wit_get, ↓reduceIte, vcPost, vcStd, Nat.reduceEqDiff, reduceCtorEq, Nat.reduceAdd, Nat.reduceLeDiff, Int.reduceLT, Int.reduceLE, ↓u_setN]
            refine AllocQ.i0 fun b hb => ?_
            simp only [↓vcPre, ↓wit_get, ↓reduceIte, vcPost, vcStd, Nat.reduceEqDiff, reduceCtorEq, Nat.reduceAdd, Nat.reduceLeDiff, Int.reduceLT, Int.reduceLE, ↓u_setN]
            have p9 : ∀ z : List AV, z.length = 9 → splice 0 (getA (dropK ks k) j).c z = some (getA (dropK ks k) j).c := fun z hz => splice_all _ _ (by rw [hz]; rfl)
            have e9 : ∀ y : At, y.c.length = 9 := fun _ => rfl
            have t9 : ∀ y : At, List.take 9 y.c = y.c := fun _ => rfl
            refine ⟨rfl, ?_⟩
            rw [p9 _ rfl, wit_some, Store.set_set]
            have hsb0 := Store.sub_set s4 b (.box (getA (dropK ks k) j).c) hb
            have hTb : (s4.set b (.box (getA (dropK ks k) j).c)) b = some (.box (getA (dropK ks k) j).c) := Store.set_same _ _ _
            have hgw4 := hsb0 _ _ hgw3
            generalize s4.set b (.box (getA (dropK ks k) j).c) = s5 at hsb0 hTb hgw4 ⊢
            have hT5 : TI B τ1 id 64 (dropK ks k) s5 := by
              obtain ⟨h1, h2, h3, h4, v, h5, h6⟩ := hT3
              exact ⟨h1, Store.sub_trans h2 hsb0, h3, h4, v, hsb0 _ _ h5, h6.mono hsb0⟩
            refine (s26 hT5 j).Q ?_
            rintro r1 s6 ⟨rfl, rfl⟩
            simp only [hTb, hgw4, e9, t9, Nat.le_refl, Nat.zero_add, ↓vcPre, ↓wit_get, ↓reduceIte, vcPost, vcStd, Nat.reduceEqDiff, reduceCtorEq, Nat.reduceAdd, Nat.reduceLeDiff, Int.reduceLT, Int.reduceLE, ↓u_setN]
            have hW : usesAt ks (j : Int) = usesAt (dropK ks (k : Int)) (j : Int) := huj.symm
            rw [← hW]
            simp only [bne_same, ↓vcPre, ↓wit_get, ↓reduceIte, vcPost, vcStd, Nat.reduceEqDiff, reduceCtorEq, Nat.reduceAdd, Nat.reduceLeDiff, Int.reduceLT, Int.reduceLE, ↓u_setN]
            refine ⟨fun g2 => ⟨by omega, by simp; omega, ?_⟩, fun g2 => NextQ.to (j + 1) (by rw [ej]) hsb0 (by omega) (by omega)⟩
            simp only [List.getElem_range]
            rw [← hgj g2]
            refine (c25 _ _ (getA_ok hT5.2.2.1 _) (getA_ok hT5.2.2.1 _)).Q ?_
            simp only [↓vcPre, ↓wit_get, ↓reduceIte, vcPost, vcStd, Nat.reduceEqDiff, reduceCtorEq, Nat.reduceAdd, Nat.reduceLeDiff, Int.reduceLT, Int.reduceLE, ↓u_setN]
            exact NextQ.to (j + 1) (by rw [ej]) hsb0 (by omega) (by omega)
        · simp only [List.getElem_range, ↓vcPre, ↓wit_get, ↓reduceIte, vcPost, vcStd, Nat.reduceEqDiff, reduceCtorEq, Nat.reduceAdd, Nat.reduceLeDiff, Int.reduceLT, Int.reduceLE, ↓u_setN]
          have hln := len_drop hTi.2.2.1 (k : Int)
          rw [if_neg (by omega), Int.sub_zero] at hln
          refine ⟨fun g2 => absurd g2 (by omega), fun _ => (s28 hT3).Q ?_⟩
          rintro r1 s4 ⟨rfl, rfl⟩
          simp only [↓vcPre, ↓wit_get, ↓reduceIte, vcPost, vcStd, Nat.reduceEqDiff, reduceCtorEq, Nat.reduceAdd, Nat.reduceLeDiff, Int.reduceLT, Int.reduceLE, ↓u_setN]
          exact ⟨fun g2 => absurd hln g2, fun _ => NextQ.to (i + 1, dropK ks k, s4) (by rw [ei]) (Store.sub_refl _) (by simp only; omega) ⟨by simp only; omega, by simp only; omega, hTn⟩⟩
  · refine TstRun19.c19.Q ?_
    simp only [↓vcPre, ↓wit_get, ↓reduceIte, vcPost, vcStd, Nat.reduceEqDiff, reduceCtorEq, Nat.reduceAdd, Nat.reduceLeDiff, Int.reduceLT, Int.reduceLE, ↓u_setN]
    exact hr _ hTi.2.1
  · refine TstRun19.c19.Q ?_
    simp only [↓vcPre, ↓wit_get, ↓reduceIte, vcPost, vcStd, Nat.reduceEqDiff, reduceCtorEq, Nat.reduceAdd, Nat.reduceLeDiff, Int.reduceLT, Int.reduceLE, ↓u_setN]
    exact hr _ hTi.2.1
end Go.Am

/- C2 -/
namespace Go.Am
open Go.Proofs Go.Sort

set_option maxRecDepth 20000 in
theorem lawApart (l : List Ask) (drops : List Int) (hl : Small l) (hd : Small drops) (hdo : ∀ d ∈ drops, I64 d) : Pur Try.prog 6 [.sl 12 (l.map Ask.c), .sl 1 (drops.map cI)] (.bool true) := by
  refine pur_of Tse.F6 (by simp [Tse.F6, Fn.mkX]) fun σ => ?_
  simp only [Tse.F6, Fn.mkX, Tse.b6]
  simp only [↓vcPre, ↓wit_get, ↓reduceIte, vcPost, vcStd, Nat.reduceEqDiff, reduceCtorEq, Nat.reduceAdd, Nat.reduceLeDiff, Int.reduceLT, Int.reduceLE, ↓u_setN]
  refine (new_ok (room := 64) (by omega) σ 1).Q ?_
  rintro r s ⟨id, rfl, hT⟩
  unfold Small at hl hd
  simp only [↓vcPre, ↓wit_get, ↓reduceIte, vcPost, vcStd, Nat.reduceEqDiff, reduceCtorEq, Nat.reduceAdd, Nat.reduceLeDiff, Int.reduceLT, Int.reduceLE, ↓u_setN]
  refine LoopQ.inv (S := Nat × List KS × Store) (fun q => [(0, .sl 12 (l.map Ask.c)), (1, .sl 1 (drops.map cI)), (5, .ptr id 0), (7, .int .i64 (q.1 : Int))]) (fun q => q.2.2) (fun q => q.1 ≤ l.length ∧ q.1 ≤ 30 ∧ q.2.1.length ≤ q.1 ∧ TI (1 + q.1) σ id 64 q.2.1 q.2.2) (fun q => 31 - q.1) (0, [], s) rfl (Store.sub_refl _) ⟨by simp only; omega, by simp only; omega, by simp, hT⟩ ?_
  rintro ⟨i, ks, s⟩ ⟨hi, hi2, hkl, hTi⟩
  simp only at hi hi2 hkl hTi
  simp only [↓vcPre, ↓wit_get, ↓reduceIte, vcPost, vcStd, Nat.reduceEqDiff, reduceCtorEq, Nat.reduceAdd, Nat.reduceLeDiff, Int.reduceLT, Int.reduceLE, ↓u_setN]
  refine ⟨fun c1 => ⟨fun c2 => ?_, fun c2 => ?_⟩, fun c1 => ?_⟩
  · refine ⟨c1, by simp [Ask.c, At.c], ?_⟩
    refine AllocQ.i0 fun b hb => ?_
    simp only [Ask.c, At.c, ↓vcPre, ↓wit_get, ↓reduceIte, vcPost, vcStd, Nat.reduceEqDiff, reduceCtorEq, Nat.reduceAdd, Nat.reduceLeDiff, Int.reduceLT, Int.reduceLE, ↓u_setN]
    rw [Store.set_set, Store.set_set]
    have hsb := Store.sub_set s b (.box [.int .i64 l[i].kind, .int .i64 l[i].id, .int .i64 l[i].a.org, .sl 2 (List.map Seg.c l[i].a.path), .int .u32 l[i].a.nxt, .bool l[i].a.hm, .int .u32 l[i].a.med, .bool l[i].a.hp, .int .u32 l[i].a.prf, .bool l[i].a.atm, .sl 1 (List.map cU l[i].a.cms), .bool true]) hb
    have hT2 : TI (1 + i) σ id 64 ks (s.set b (.box [.int .i64 l[i].kind, .int .i64 l[i].id, .int .i64 l[i].a.org, .sl 2 (List.map Seg.c l[i].a.path), .int .u32 l[i].a.nxt, .bool l[i].a.hm, .int .u32 l[i].a.med, .bool l[i].a.hp, .int .u32 l[i].a.prf, .bool l[i].a.atm, .sl 1 (List.map cU l[i].a.cms), .bool true])) := by
      obtain ⟨h1, h2, h3, h4, v, h5, h6⟩ := hTi
      exact ⟨h1, Store.sub_trans h2 hsb, h3, h4, v, hsb _ _ h5, h6.mono hsb⟩
    refine (c21 (fewK l[i])).Q ?_
    rw [attrs_few]
    simp only [↓vcPre, ↓wit_get, ↓reduceIte, vcPost, vcStd, Nat.reduceEqDiff, reduceCtorEq, Nat.reduceAdd, Nat.reduceLeDiff, Int.reduceLT, Int.reduceLE, ↓u_setN]
    refine (s22 (by omega) (by omega) hT2 (by omega) (fewA l[i].a) (fewA_ok _)).Q ?_
    rintro r1 s2 ⟨m, e, ks', rfl, hA, hT3⟩
    have hlf := List.length_filter_le (fun k : KS => decide (k.n ≠ 0)) ks
    have he : e = 0 ∧ ks'.length ≤ i + 1 := by
      rcases hA with ⟨q, hq, bb, u, _, _, _, h, rfl⟩ | ⟨_, ⟨h1, _⟩ | ⟨_, _, h, rfl⟩⟩
      · exact ⟨h, by simp; omega⟩
      · omega
      · exact ⟨h, by split <;> simp <;> omega⟩
    obtain ⟨rfl, hkl'⟩ := he
    simp only [↓vcPre, ↓wit_get, ↓reduceIte, vcPost, vcStd, Nat.reduceEqDiff, reduceCtorEq, Nat.reduceAdd, Nat.reduceLeDiff, Int.reduceLT, Int.reduceLE, ↓u_setN]
    have ei : IntKind.i64.wrap ((i : Int) + 1) = ((i + 1 : Nat) : Int) := by rw [wrap64 (by unfold I64; omega)]; omega
    exact NextQ.to (i + 1, ks', s2) (by rw [ei]) (Store.sub_refl _) (by simp only; omega) ⟨by simp only; omega, by simp only; omega, hkl', by have := hT3.up (B' := 1 + ((i + 1 : Nat) : Int)) (by omega); exact this⟩
  · exact tail_apart ks drops hd hdo _ _ (by omega) (by omega) hTi fun s' hs => ⟨rfl, hs⟩
  · exact tail_apart ks drops hd hdo _ _ (by omega) (by omega) hTi fun s' hs => ⟨rfl, hs⟩
end Go.Am

/- DA -/
namespace Go.Am
open Go.Proofs
theorem small_of {α : Type} {l : List α} {n : Nat} (h1 : 1 ≤ n) (h : l.length * n ≤ reachBytes) : Small l := by
  have h2 : l.length * 1 ≤ l.length * n := Nat.mul_le_mul_left _ h1
  have h3 : reachBytes = 140737488351232 := rfl
  unfold Small
  omega
theorem dU (xs : List AV) (h : TOk Try.prog 1 32 xs) : ∃ r : Int, ImpL xs (cU r) ∧ True := by
  obtain ⟨m1, rfl, g1, g2⟩ := TOk.int Try.underlying32 h
  exact ⟨m1, ImpL.one rfl, trivial⟩
theorem dI (xs : List AV) (h : TOk Try.prog 1 3 xs) : ∃ r : Int, ImpL xs (cI r) ∧ I64 r := by
  obtain ⟨m1, rfl, g1, g2⟩ := TOk.int Try.underlying3 h
  exact ⟨m1, ImpL.one rfl, ⟨g1, g2⟩⟩
theorem dSeg (xs : List AV) (h : TOk Try.prog 3 104 xs) : ∃ r : Seg, ImpL xs r.c ∧ True := by
  obtain ⟨a, b, rfl, h1, c, d, rfl, h2, rfl⟩ := TOk.struct (ts := [3, 33]) Try.underlying104 rfl h
  obtain ⟨m1, rfl, g1, g2⟩ := TOk.int Try.underlying3 h1
  obtain ⟨rs, hr, _⟩ := TOk.slI (sz := 1) (by_ := 4) Try.underlying33 (by kernel_rfl) (by kernel_rfl) cU (fun _ => True) dU h2
  exact ⟨⟨m1, rs⟩, (ImpL.one rfl).append (hr.append .nil), trivial⟩
theorem dAt (xs : List AV) (h : TOk Try.prog 5 35 xs) : ∃ r : At, ImpL xs r.c ∧ True := by
  obtain ⟨a1, b1, rfl, h1, a2, b2, rfl, h2, a3, b3, rfl, h3, a4, b4, rfl, h4, a5, b5, rfl, h5, a6, b6, rfl, h6, a7, b7, rfl, h7, a8, b8, rfl, h8, a9, b9, rfl, h9, rfl⟩ := TOk.struct (ts := [3, 31, 32, 4, 32, 4, 32, 4, 33]) Try.underlying35 rfl h
  obtain ⟨m1, rfl, _, _⟩ := TOk.int Try.underlying3 h1
  obtain ⟨rs, hr, _⟩ := TOk.slI (sz := 2) (by_ := 32) Try.underlying31 (by kernel_rfl) (by kernel_rfl) Seg.c (fun _ => True) dSeg h2
  obtain ⟨m3, rfl, _, _⟩ := TOk.int Try.underlying32 h3
  obtain ⟨m4, rfl⟩ := TOk.bool Try.underlying4 h4
  obtain ⟨m5, rfl, _, _⟩ := TOk.int Try.underlying32 h5
  obtain ⟨m6, rfl⟩ := TOk.bool Try.underlying4 h6
  obtain ⟨m7, rfl, _, _⟩ := TOk.int Try.underlying32 h7
  obtain ⟨m8, rfl⟩ := TOk.bool Try.underlying4 h8
  obtain ⟨cs, hc, _⟩ := TOk.slI (sz := 1) (by_ := 4) Try.underlying33 (by kernel_rfl) (by kernel_rfl) cU (fun _ => True) (fun x hx => by
    obtain ⟨m1, rfl, g1, g2⟩ := TOk.int Try.underlying32 hx
    exact ⟨m1, ImpL.one rfl, trivial⟩) h9
  exact ⟨⟨m1, rs, m3, m4, m5, m6, m7, m8, cs⟩, (ImpL.one rfl).append (hr.append ((ImpL.one rfl).append ((ImpL.one rfl).append ((ImpL.one rfl).append ((ImpL.one rfl).append ((ImpL.one rfl).append ((ImpL.one rfl).append (hc.append .nil)))))))), trivial⟩
theorem dAsk (xs : List AV) (h : TOk Try.prog 6 37 xs) : ∃ r : Ask, ImpL xs r.c ∧ (I64 r.kind ∧ I64 r.id) := by
  obtain ⟨a1, b1, rfl, h1, a2, b2, rfl, h2, a3, b3, rfl, h3, a4, b4, rfl, h4, rfl⟩ := TOk.struct (ts := [3, 3, 35, 4]) Try.underlying37 rfl h
  obtain ⟨m1, rfl, g1, g2⟩ := TOk.int Try.underlying3 h1
  obtain ⟨m2, rfl, g3, g4⟩ := TOk.int Try.underlying3 h2
  obtain ⟨r, hr, _⟩ := dAt _ h3
  obtain ⟨m4, rfl⟩ := TOk.bool Try.underlying4 h4
  exact ⟨⟨m1, m2, r, m4⟩, (ImpL.one rfl).append ((ImpL.one rfl).append (hr.append ((ImpL.one rfl).append .nil))), ⟨g1, g2⟩, ⟨g3, g4⟩⟩
theorem aAsks {w : World} {a : AV} {v : Value} (hr : VRel (G0 w) w a v) (h : TOk Try.prog 7 22 [a]) : ∃ rs : List Ask, VRel (G0 w) w (.sl 12 (rs.map Ask.c)) v ∧ Small rs ∧ ∀ r ∈ rs, I64 r.kind ∧ I64 r.id := by
  obtain ⟨rs, hi, hz, ho⟩ := TOk.slI (sz := 12) (by_ := 104) Try.underlying22 (by kernel_rfl) (by kernel_rfl) Ask.c (fun r => I64 r.kind ∧ I64 r.id) dAsk h
  exact ⟨rs, imp_arg hi hr, small_of (by omega) hz, ho⟩
theorem aInts {w : World} {a : AV} {v : Value} (hr : VRel (G0 w) w a v) (h : TOk Try.prog 2 42 [a]) : ∃ rs : List Int, VRel (G0 w) w (.sl 1 (rs.map cI)) v ∧ Small rs ∧ ∀ r ∈ rs, I64 r := by
  obtain ⟨rs, hi, hz, ho⟩ := TOk.slI (sz := 1) (by_ := 8) Try.underlying42 (by kernel_rfl) (by kernel_rfl) cI I64 dI h
  exact ⟨rs, imp_arg hi hr, small_of (by omega) hz, ho⟩
theorem lawApart2 (l : List Ask) (hl : Small l) (_ : ∀ r ∈ l, I64 r.kind ∧ I64 r.id) (m : List Int) (hm : Small m) (hmo : ∀ d ∈ m, I64 d) : Pur Try.prog 6 [.sl 12 (l.map Ask.c), .sl 1 (m.map cI)] (.bool true) := lawApart l m hl hm hmo
end Go.Am

/- Fz -/
namespace Go.Am
/-- A slice within a slice's element: owned, and to change no more. -/
theorem WeakL.freezeIn {as0 : List AV} {σ : Store} {Q : List AV → Store → Prop} (k i j : Nat) {e2 id esz off len : Nat} {es cs : List (List AV)} (ha : as0[k]? = some (.sl e2 es)) (hi : i < es.length) (hj : j < es[i].length) (hc : es[i][j] = .os id esz off len)
    (hσ : σ id = some (.arr esz cs)) (hle : off + len ≤ cs.length)
    (h : WeakL (as0.set k (.sl e2 (es.set i (es[i].set j (.sl esz ((cs.drop off).take len)))))) (σ.del id) Q) : WeakL as0 σ Q := fun G w vs hs hr => by
  obtain ⟨v, hv, hvr⟩ := hr.get k _ ha
  have key : ∃ G', Ext G σ w G' (σ.del id) w ∧ Sim G' (σ.del id) w ∧ VRel G' w (.sl e2 (es.set i (es[i].set j (.sl esz ((cs.drop off).take len))))) v := by
    cases hvr with
    | sl0 => simp at hi
    | sl f hb hne hcap hl hf hcell hvv =>
      have h0 := hvv i j hi hj
      rw [hc] at h0
      obtain ⟨G', h1, h2, h3⟩ := freeze_rel hs hσ hle h0
      refine ⟨G', h1, h2, ?_⟩
      have hmem : ∀ x ∈ es.set i (es[i].set j (.sl esz ((cs.drop off).take len))), x ∈ es ∨ x = es[i].set j (.sl esz ((cs.drop off).take len)) := fun x hx => List.mem_or_eq_of_mem_set hx
      have hlen : (es.set i (es[i].set j (.sl esz ((cs.drop off).take len)))).length = es.length := List.length_set
      have := VRel.sl (G := G') (w := w) (esz := e2) (es := es.set i (es[i].set j (.sl esz ((cs.drop off).take len)))) f (h1.I _ hb) (by intro e; rw [e] at hlen; simp at hlen; omega) (by rw [hlen]; exact hcap)
        (fun x hx => by
          rcases hmem x hx with h | rfl
          · exact hl x h
          · rw [List.length_set]; exact hl _ (List.getElem_mem hi))
        (fun x hx c hcx => by
          rcases hmem x hx with h | rfl
          · exact hf x h c hcx
          · rcases List.mem_or_eq_of_mem_set hcx with h | rfl
            · exact hf _ (List.getElem_mem hi) c h
            · rfl)
        (fun a b hA hB => hcell a b (by rw [← hlen]; exact hA) hB)
        (fun a b hA hB => by
          have hA' : a < es.length := by rw [← hlen]; exact hA
          by_cases hai : a = i
          · subst hai
            simp only [List.getElem_set_self] at hB ⊢
            by_cases hbj : b = j
            · subst hbj
              simp only [List.getElem_set_self]; exact h3
            · rw [List.getElem_set_ne (fun e => hbj e.symm)]
              exact h1.vrel hs (hvv a b hA' (by simpa using hB))
          · simp only [List.getElem_set_ne (fun e => hai e.symm)] at hB ⊢
            exact h1.vrel hs (hvv a b hA' hB))
      rw [hlen] at this
      exact this
  obtain ⟨G', h1, h2, h3⟩ := key
  obtain ⟨G'', as', σ', g1, g2, g3, g4⟩ := h G' w vs h2 (Rels.of_get (by simpa using hr.length) fun a ha' hi' => by
    by_cases hik : a = k
    · subst hik
      rw [List.getElem?_eq_getElem hi'] at hv; cases hv
      simp; exact h3
    · rw [List.getElem_set_ne (Ne.symm hik)]
      have hi2 : a < as0.length := by simpa using ha'
      obtain ⟨u, hu, hur⟩ := hr.get a _ (List.getElem?_eq_getElem hi2)
      rw [List.getElem?_eq_getElem hi'] at hu; cases hu
      exact h1.vrel hs hur)
  exact ⟨G'', as', σ', h1.trans g1, g2, g3, g4⟩
end Go.Am

/- DB -/
namespace Go.Am
open Go.Proofs Go.Sort

def delAll (s : Store) (gs : List Nat) : Store := gs.foldl Store.del s
theorem delAll_ne {s : Store} : ∀ {gs : List Nat} {x : Nat}, x ∉ gs → delAll s gs x = s x
  | [], _, _ => rfl
  | g :: gs, x, h => by
    simp only [List.mem_cons, not_or] at h
    show delAll (s.del g) gs x = s x
    rw [delAll_ne h.2, Store.del_ne _ h.1]
def segO (x : Seg) (g : Nat) : List AV := [.int .i64 x.kind, .os g 1 0 x.ls.length]
theorem weakIn {Q : List AV → Store → Prop} : ∀ (p : List Seg) (gs : List Nat) (pre : List (List AV)) (s : Store), gs.length = p.length → gs.Nodup →
    (∀ i (h : i < p.length) (h' : i < gs.length), s gs[i] = some (.arr 1 (p[i].ls.map cU))) → WeakL [.sl 2 (pre ++ p.map Seg.c)] (delAll s gs) Q → WeakL [.sl 2 (pre ++ List.zipWith segO p gs)] s Q
  | [], [], pre, s, _, _, _, h => h
  | [], _ :: _, _, _, hl, _, _, _ => by simp at hl
  | _ :: _, [], _, _, hl, _, _, _ => by simp at hl
  | x :: p, g :: gs, pre, s, hl, hn, hs, h => by
    have h0 := hs 0 (by simp) (by simp)
    simp only [List.getElem_cons_zero] at h0
    rw [List.nodup_cons] at hn
    refine WeakL.freezeIn 0 pre.length 1 (id := g) (esz := 1) (off := 0) (len := x.ls.length) (cs := x.ls.map cU) (es := pre ++ List.zipWith segO (x :: p) (g :: gs)) rfl (by simp) (by simp [segO]) (by simp [segO]) h0 (by simp) ?_
    have e : (pre ++ List.zipWith segO (x :: p) (g :: gs)).set pre.length ((pre ++ List.zipWith segO (x :: p) (g :: gs))[pre.length]'(by simp) |>.set 1 (.sl 1 (((x.ls.map cU).drop 0).take x.ls.length))) = (pre ++ [x.c]) ++ List.zipWith segO p gs := by
      have ht : List.take x.ls.length (x.ls.map cU) = x.ls.map cU := List.take_of_length_le (by simp)
      simp [segO, Seg.c, ht]
    rw [e]
    refine weakIn p gs (pre ++ [x.c]) (s.del g) (by simpa using hl) hn.2 (fun i hi hi' => ?_) ?_
    · rw [Store.del_ne _ (fun e => hn.1 (by rw [← e]; exact List.getElem_mem hi'))]
      have := hs (i + 1) (by simpa using hi) (by simpa using hi')
      simpa using this
    · simpa [delAll] using h
/-- Segments that were collected, each with numbers that were collected. -/
def OwnP (τ : Store) (p : List Seg) (v : AV) (s : Store) : Prop :=
  ∃ gs : List Nat, gs.length = p.length ∧ gs.Nodup ∧ (∀ g ∈ gs, τ g = none) ∧ (∀ i (h : i < p.length) (h' : i < gs.length), s gs[i] = some (.arr 1 (p[i].ls.map cU))) ∧ Own 2 τ (List.zipWith segO p gs) v s
theorem OwnP.nil {τ s : Store} : OwnP τ [] .nils s := ⟨[], rfl, .nil, by simp, fun i h => by simp at h, .nil⟩
theorem OwnP.app {bytes : Nat} {τ s0 s : Store} {p : List Seg} {x : Seg} {j : Nat} {v wv : AV} {K : AV → Store → Prop} (hτ : Store.sub τ s0) (h0 : Store.sub s0 s) (ho : OwnP τ p v s0) (hj : s j = some (.arr 1 (x.ls.map cU))) (hj0 : s0 j = none)
    (hw : slc s 2 wv = some [segO x j]) (hsz : (p.length + 1) * bytes ≤ 140737488355328) (h : ∀ v' s', Store.sub τ s' → OwnP τ (p ++ [x]) v' s' → K v' s') : appwp 2 bytes v wv s K := by
  obtain ⟨gs, hl, hn, hg, hi, ho⟩ := ho
  have hτj : τ j = none := sub_none hτ hj0
  have hjg : j ∉ gs := fun e => by
    obtain ⟨i, hi', rfl⟩ := List.getElem_of_mem e
    rw [hi i (by omega) hi'] at hj0; cases hj0
  have hz : (List.zipWith segO p gs).length = p.length := by simp [hl]
  have fin : ∀ (τ2 : Store) v' s', Store.sub τ τ2 → Store.sub τ2 s' → τ2 j = some (.arr 1 (x.ls.map cU)) → (∀ i (h : i < p.length) (h' : i < gs.length), τ2 gs[i] = some (.arr 1 (p[i].ls.map cU))) → Own 2 τ2 (List.zipWith segO p gs ++ [segO x j]) v' s' → K v' s' := by
    intro τ2 v' s' k1 k2 k3 k4 k5
    refine h v' s' (Store.sub_trans k1 k2) ⟨gs ++ [j], by simp [hl], ?_, ?_, ?_, ?_⟩
    · rw [List.nodup_append]
      refine ⟨hn, by simp, fun a ha b hb => ?_⟩
      simp only [List.mem_singleton] at hb
      subst hb
      exact fun e => hjg (e ▸ ha)
    · intro g hgm
      rcases List.mem_append.1 hgm with h | h
      · exact hg g h
      · simp only [List.mem_singleton] at h; subst h; exact hτj
    · intro i hA hB
      by_cases hip : i < p.length
      · rw [List.getElem_append_left (by omega), List.getElem_append_left hip]
        exact k2 _ _ (k4 i hip (by omega))
      · have hip' : i = p.length := by simp at hA; omega
        subst hip'
        have e1 : (gs ++ [j])[p.length]'hB = j := by
          rw [List.getElem_append_right (by omega)]; simp
        have e2 : (p ++ [x])[p.length]'hA = x := by
          rw [List.getElem_append_right (by omega)]; simp
        rw [e1, e2]; exact k2 _ _ k3
    · rw [List.zipWith_append (by omega)]
      exact k5.weak k1
  rcases ho with ⟨hL, rfl⟩ | ⟨g, rfl, hgg, hh⟩
  · refine Own.app (τ := s) (L := List.zipWith segO p gs) (Store.sub_refl _) (.inl ⟨hL, rfl⟩) hw (by rw [hz]; exact hsz) fun v' s' hs ho' => ?_
    exact fin s v' s' (Store.sub_trans hτ h0) hs hj (fun i h h' => h0 _ _ (hi i h h')) ho'
  · have hgi : ∀ i (h' : i < gs.length), gs[i] ≠ g := fun i h' e => by
      have := hi i (by omega) h'
      rw [e, hh] at this; cases this
    have hjg' : j ≠ g := fun e => by rw [e, hh] at hj0; cases hj0
    have hsd : Store.sub (s.del g) s := fun y o hy => by
      by_cases hyg : y = g
      · subst hyg; simp at hy
      · rw [Store.del_ne _ hyg] at hy; exact hy
    refine Own.app (τ := s.del g) (L := List.zipWith segO p gs) hsd (.inr ⟨g, rfl, by simp, h0 _ _ hh⟩) hw (by rw [hz]; exact hsz) fun v' s' hs ho' => ?_
    refine fin (s.del g) v' s' (fun y o hy => ?_) hs (by rw [Store.del_ne _ hjg']; exact hj) (fun i h h' => by rw [Store.del_ne _ (hgi i h')]; exact h0 _ _ (hi i h h')) ho'
    rw [Store.del_ne _ (fun e => by subst e; rw [hgg] at hy; cases hy)]
    exact h0 _ _ (hτ _ _ hy)
theorem EndQ.ownP {slots : List RS} {Q : AV → Store → Prop} {e : Env} {σ τ : Store} {p : List Seg} {v : AV} (h1 : e.res τ slots = some v) (ho : OwnP σ p v τ) (hs : Store.sub σ τ) (h4 : Q (.sl 2 (p.map Seg.c)) σ) : @EndQ e τ ⟨slots, Q⟩ := by
  obtain ⟨gs, hl, hn, hg, hi, ho⟩ := ho
  rcases ho with ⟨h0, rfl⟩ | ⟨g, rfl, hgg, hh⟩
  · have : p = [] := by
      have := congrArg List.length h0
      simp [hl] at this
      exact this
    subst this
    exact EndQ.nil1 2 σ h1 hs h4
  · unfold EndQ
    refine ⟨_, h1, Weak.of_one (WeakL.freeze 0 rfl hh (by omega) ?_)⟩
    simp only [List.set_cons_zero, List.drop_zero, List.take_length]
    have hgi : ∀ i (h' : i < gs.length), gs[i] ≠ g := fun i h' e => by
      have := hi i (by omega) h'
      rw [e, hh] at this; cases this
    refine weakIn (Q := _) p gs [] (τ.del g) hl hn (fun i h h' => by rw [Store.del_ne _ (hgi i h')]; exact hi i h h') ?_
    refine WeakL.forget (σ' := σ) (fun x o hx => ?_) (WeakL.pure ⟨_, rfl, h4⟩)
    have h1 : x ∉ gs := fun e => by rw [hg x e] at hx; cases hx
    rw [delAll_ne h1, Store.del_ne _ (fun e => by subst e; rw [hgg] at hx; cases hx)]
    exact hs x o hx
end Go.Am

/- DC -/
namespace Go.Am
open Go.Proofs Go.Sort
theorem c51 (p : List Seg) (h : p.length ≤ 1000000) (ho : ∀ s ∈ p, s.ok) : Pur Try.prog 51 [.sl 2 (p.map Seg.c)] (.sl 2 (p.map Seg.c)) := by
  intro σ
  refine calls_of Tst.F51 (by simp [Tst.F51, Fn.mkX]) ?_
  simp only [Tst.F51, Fn.mkX, Tst.b51]
  simp only [↓vcPre, ↓wit_get, ↓reduceIte, vcPost, vcStd, Nat.reduceEqDiff, reduceCtorEq, Nat.reduceAdd, Nat.reduceLeDiff, Int.reduceLT, Int.reduceLE, ↓u_setN]
  refine LoopQ.inv (S := Nat × AV × Store) (fun q => [(0, .sl 2 (p.map Seg.c)), (3, q.2.1), (4, .int .i64 (q.1 : Int))]) (fun q => q.2.2)
    (fun q => q.1 ≤ p.length ∧ Store.sub σ q.2.2 ∧ OwnP σ (p.take q.1) q.2.1 q.2.2) (fun q => p.length + 1 - q.1) (0, .nils, σ) rfl (Store.sub_refl _) ⟨by simp only; omega, Store.sub_refl _, OwnP.nil⟩ ?_
  rintro ⟨k, v, s⟩ ⟨hk, hs, ho'⟩
  simp only at hk hs ho'
  simp only [↓vcPre, ↓wit_get, ↓reduceIte, vcPost, vcStd, Nat.reduceEqDiff, reduceCtorEq, Nat.reduceAdd, Nat.reduceLeDiff, Int.reduceLT, Int.reduceLE, ↓u_setN]
  refine ⟨fun c1 => ?_, fun c1 => ?_⟩
  · have ek : IntKind.i64.wrap ((k : Int) + 1) = ((k + 1 : Nat) : Int) := by rw [wrap64 (by unfold I64; omega)]; omega
    have hx := ho _ (List.getElem_mem c1)
    unfold Seg.ok at hx
    refine ⟨c1, c1, by simp [Seg.c], ?_⟩
    simp only [Seg.c, ↓vcPre, ↓wit_get, ↓reduceIte, vcPost, vcStd, Nat.reduceEqDiff, reduceCtorEq, Nat.reduceAdd, Nat.reduceLeDiff, Int.reduceLT, Int.reduceLE, ↓u_setN]
    have hroom : (([] : List (List AV)).length + (p[k].ls.map cU).length) * 4 ≤ 140737488355328 := by simp; omega
    refine ⟨?_, ?_⟩
    · refine AllocQ.i0 fun i hi => ?_
      simp only [↓vcPre, ↓wit_get, ↓reduceIte, vcPost, vcStd, Nat.reduceEqDiff, reduceCtorEq, Nat.reduceAdd, Nat.reduceLeDiff, Int.reduceLT, Int.reduceLE, ↓u_setN]
      refine app_os (slc_os0 (Store.set_same _ _ _) rfl) slc_sl hroom fun j hj => ?_
      simp only [↓vcPre, ↓wit_get, ↓reduceIte, vcPost, vcStd, Nat.reduceEqDiff, reduceCtorEq, Nat.reduceAdd, Nat.reduceLeDiff, Int.reduceLT, Int.reduceLE, ↓u_setN]
      have hji : j ≠ i := fun e => by subst e; rw [Store.set_same] at hj; cases hj
      have hj0 : s j = none := by rw [Store.set_ne _ _ hji] at hj; exact hj
      have hsub : Store.sub s (((s.set i (Obj.arr 1 [])).del i).set j (Obj.arr 1 (List.map cU p[k].ls))) := fun y o hy => by
        have h1 : y ≠ i := fun e => by subst e; rw [hi] at hy; cases hy
        have h2 : y ≠ j := fun e => by subst e; rw [hj0] at hy; cases hy
        rw [Store.set_ne _ _ h2, Store.del_ne _ h1, Store.set_ne _ _ h1]; exact hy
      have hjs : (((s.set i (Obj.arr 1 [])).del i).set j (Obj.arr 1 (List.map cU p[k].ls))) j = some (.arr 1 (p[k].ls.map cU)) := Store.set_same _ _ _
      refine AllocQ.i0 fun b hb => ?_
      simp only [Nat.zero_add, ↓vcPre, ↓wit_get, ↓reduceIte, vcPost, vcStd, Nat.reduceEqDiff, reduceCtorEq, Nat.reduceAdd, Nat.reduceLeDiff, Int.reduceLT, Int.reduceLE, ↓u_setN]
      refine OwnP.app (τ := σ) (s0 := s) (x := p[k]) (j := j) hs (Store.sub_trans hsub (Store.sub_set _ b _ hb)) ho' (Store.sub_set _ b _ hb _ _ hjs) hj0 (slc_os0 (Store.set_same _ _ _) rfl) (by simp; omega) fun v' s' hs' ho'' => ?_
      rw [ek]
      refine NextQ.to (k + 1, v', s') rfl (Store.sub_refl _) (by simp only; omega) ⟨by simp only; omega, hs', ?_⟩
      simp only [List.take_add_one, List.getElem?_eq_getElem c1, Option.toList_some]
      exact ho''
    · refine AllocQ.i0 fun i hi => ?_
      simp only [↓vcPre, ↓wit_get, ↓reduceIte, vcPost, vcStd, Nat.reduceEqDiff, reduceCtorEq, Nat.reduceAdd, Nat.reduceLeDiff, Int.reduceLT, Int.reduceLE, ↓u_setN]
      refine ⟨⟨by simp [Seg.c], ?_⟩, ?_⟩
      · simp only [Seg.c, ↓vcPre, ↓wit_get, ↓reduceIte, vcPost, vcStd, Nat.reduceEqDiff, reduceCtorEq, Nat.reduceAdd, Nat.reduceLeDiff, Int.reduceLT, Int.reduceLE, ↓u_setN]
        refine app_os (slc_os0 (Store.set_same _ _ _) rfl) slc_sl hroom fun j hj => ?_
        simp only [↓vcPre, ↓wit_get, ↓reduceIte, vcPost, vcStd, Nat.reduceEqDiff, reduceCtorEq, Nat.reduceAdd, Nat.reduceLeDiff, Int.reduceLT, Int.reduceLE, ↓u_setN]
        have hji : j ≠ i := fun e => by subst e; rw [Store.set_same] at hj; cases hj
        have hj0 : s j = none := by rw [Store.set_ne _ _ hji] at hj; exact hj
        have hsub : Store.sub s (((s.set i (Obj.arr 1 [])).del i).set j (Obj.arr 1 (List.map cU p[k].ls))) := fun y o hy => by
          have h1 : y ≠ i := fun e => by subst e; rw [hi] at hy; cases hy
          have h2 : y ≠ j := fun e => by subst e; rw [hj0] at hy; cases hy
          rw [Store.set_ne _ _ h2, Store.del_ne _ h1, Store.set_ne _ _ h1]; exact hy
        have hjs : (((s.set i (Obj.arr 1 [])).del i).set j (Obj.arr 1 (List.map cU p[k].ls))) j = some (.arr 1 (p[k].ls.map cU)) := Store.set_same _ _ _
        refine AllocQ.i0 fun b hb => ?_
        simp only [Nat.zero_add, ↓vcPre, ↓wit_get, ↓reduceIte, vcPost, vcStd, Nat.reduceEqDiff, reduceCtorEq, Nat.reduceAdd, Nat.reduceLeDiff, Int.reduceLT, Int.reduceLE, ↓u_setN]
        refine OwnP.app (τ := σ) (s0 := s) (x := p[k]) (j := j) hs (Store.sub_trans hsub (Store.sub_set _ b _ hb)) ho' (Store.sub_set _ b _ hb _ _ hjs) hj0 (slc_os0 (Store.set_same _ _ _) rfl) (by simp; omega) fun v' s' hs' ho'' => ?_
        rw [ek]
        refine NextQ.to (k + 1, v', s') rfl (Store.sub_refl _) (by simp only; omega) ⟨by simp only; omega, hs', ?_⟩
        simp only [List.take_add_one, List.getElem?_eq_getElem c1, Option.toList_some]
        exact ho''
      · refine app_os (slc_os0 (Store.set_same _ _ _) rfl) slc_sl hroom fun j hj => ?_
        refine ⟨by simp [Seg.c], ?_⟩
        simp only [Seg.c, ↓vcPre, ↓wit_get, ↓reduceIte, vcPost, vcStd, Nat.reduceEqDiff, reduceCtorEq, Nat.reduceAdd, Nat.reduceLeDiff, Int.reduceLT, Int.reduceLE, ↓u_setN]
        have hji : j ≠ i := fun e => by subst e; rw [Store.set_same] at hj; cases hj
        have hj0 : s j = none := by rw [Store.set_ne _ _ hji] at hj; exact hj
        have hsub : Store.sub s (((s.set i (Obj.arr 1 [])).del i).set j (Obj.arr 1 (List.map cU p[k].ls))) := fun y o hy => by
          have h1 : y ≠ i := fun e => by subst e; rw [hi] at hy; cases hy
          have h2 : y ≠ j := fun e => by subst e; rw [hj0] at hy; cases hy
          rw [Store.set_ne _ _ h2, Store.del_ne _ h1, Store.set_ne _ _ h1]; exact hy
        have hjs : (((s.set i (Obj.arr 1 [])).del i).set j (Obj.arr 1 (List.map cU p[k].ls))) j = some (.arr 1 (p[k].ls.map cU)) := Store.set_same _ _ _
        refine AllocQ.i0 fun b hb => ?_
        simp only [Nat.zero_add, ↓vcPre, ↓wit_get, ↓reduceIte, vcPost, vcStd, Nat.reduceEqDiff, reduceCtorEq, Nat.reduceAdd, Nat.reduceLeDiff, Int.reduceLT, Int.reduceLE, ↓u_setN]
        refine OwnP.app (τ := σ) (s0 := s) (x := p[k]) (j := j) hs (Store.sub_trans hsub (Store.sub_set _ b _ hb)) ho' (Store.sub_set _ b _ hb _ _ hjs) hj0 (slc_os0 (Store.set_same _ _ _) rfl) (by simp; omega) fun v' s' hs' ho'' => ?_
        rw [ek]
        refine NextQ.to (k + 1, v', s') rfl (Store.sub_refl _) (by simp only; omega) ⟨by simp only; omega, hs', ?_⟩
        simp only [List.take_add_one, List.getElem?_eq_getElem c1, Option.toList_some]
        exact ho''
  · have hkl : p.take k = p := List.take_of_length_le (by omega)
    rw [hkl] at ho'
    exact EndQ.ownP rfl ho' hs ⟨rfl, rfl⟩
end Go.Am

/- S93C -/
namespace Go.Am.Tsf
open Go.Proofs
/-- signpost/signpostref7.Put -/
def t39_34 : BC := .seq (.seq (.ops [⟨some 34, none, .pure (.mov), [.t 0]⟩] [0, 1, 5, 34]) (.seq (.ops [⟨some 35, none, .pure (.mov), [.t 5]⟩] [0, 1, 5, 34, 35]) (.seq (.ops [⟨some 36, none, .pure (.slice 1 false true), [.t 34, .t 35]⟩] [0, 1, 5, 36]) (.seq (.ops [⟨some 38, none, .pure (.mov), [.t 1]⟩] [0, 5, 36, 38]) (.seq (.ops [⟨some 41, none, .pure (.mov), [.t 0]⟩] [5, 36, 38, 41]) (.seq (.ops [⟨some 42, none, .pure (.mov), [.t 5]⟩] [36, 38, 41, 42]) (.seq (.ops [⟨some 43, none, .pure (.slice 1 true false), [.t 41, .t 42]⟩] [36, 38, 43]) (.both (.seq (.ops [⟨some 33, none, .alloc (.mksl 1 0), []⟩] [33, 36, 38, 43]) (.both (.seq (.ops [⟨some 37, none, .loud (.app 1 4), [.t 33, .t 36]⟩] [37, 38, 43]) (.seq (.ops [⟨some 39, none, .alloc (.mksl 1 1), [.t 38]⟩] [37, 39, 43]) (.seq (.ops [⟨some 40, none, .loud (.app 1 4), [.t 37, .t 39]⟩] [40, 43]) (.seq (.ops [⟨some 44, none, .loud (.app 1 4), [.t 40, .t 43]⟩] [44]) (.seq (.ops [⟨some 4, none, .pure (.mov), [.t 44]⟩] [4]) (.ops [] [4])))))) (.both (.seq (.ops [⟨some 39, none, .alloc (.mksl 1 1), [.t 38]⟩] [33, 36, 39, 43]) (.seq (.ops [⟨some 37, none, .loud (.app 1 4), [.t 33, .t 36]⟩] [37, 39, 43]) (.seq (.ops [⟨some 40, none, .loud (.app 1 4), [.t 37, .t 39]⟩] [40, 43]) (.seq (.ops [⟨some 44, none, .loud (.app 1 4), [.t 40, .t 43]⟩] [44]) (.seq (.ops [⟨some 4, none, .pure (.mov), [.t 44]⟩] [4]) (.ops [] [4])))))) (.top)))) (.both (.seq (.ops [⟨some 39, none, .alloc (.mksl 1 1), [.t 38]⟩] [36, 39, 43]) (.seq (.ops [⟨some 33, none, .alloc (.mksl 1 0), []⟩] [33, 36, 39, 43]) (.seq (.ops [⟨some 37, none, .loud (.app 1 4), [.t 33, .t 36]⟩] [37, 39, 43]) (.seq (.ops [⟨some 40, none, .loud (.app 1 4), [.t 37, .t 39]⟩] [40, 43]) (.seq (.ops [⟨some 44, none, .loud (.app 1 4), [.t 40, .t 43]⟩] [44]) (.seq (.ops [⟨some 4, none, .pure (.mov), [.t 44]⟩] [4]) (.ops [] [4]))))))) (.top)))))))))) (.ret)
def b39 : BC := .seq (.ops [⟨some 4, none, .pure (.mov), [.c .nils]⟩] [0, 1]) (.seq (.ops [⟨some 5, none, .pure (.mov), [.c (.int .i64 0)]⟩] [0, 1, 5]) (.seq (.block 0 (.loop [0, 1, 5] (.seq (.seq (.ops [⟨some 6, none, .pure (.mov), [.t 5]⟩, ⟨some 7, none, .pure (.mov), [.t 0]⟩, ⟨some 8, none, .pure (.len), [.t 7]⟩, ⟨some 9, none, .pure (.bin .lss), [.t 6, .t 8]⟩, ⟨some 10, none, .pure (.mov), [.t 9]⟩, ⟨some 11, some (10, true), .pure (.mov), [.t 0]⟩, ⟨some 12, some (10, true), .pure (.mov), [.t 5]⟩, ⟨some 13, some (10, true), .pure (.idx 1), [.t 11, .t 12]⟩, ⟨some 14, some (10, true), .load (.ld 1 false), [.t 13]⟩, ⟨some 15, some (10, true), .pure (.mov), [.t 1]⟩, ⟨some 16, some (10, true), .pure (.bin .lss), [.t 14, .t 15]⟩, ⟨some 17, none, .pick, [.t 10, .t 16, .c (.bool false)]⟩] [0, 1, 5, 17]) (.cond (.t 17) (.skip) (.exit 0))) (.block 1 (.ops [⟨some 18, none, .pure (.mov), [.t 5]⟩, ⟨some 19, none, .pure (.bin .add), [.t 18, .c (.int .i64 1)]⟩, ⟨some 5, none, .pure (.mov), [.t 19]⟩] [0, 1, 5]))))) (.seq (.seq (.ops [⟨some 20, none, .pure (.mov), [.t 5]⟩, ⟨some 21, none, .pure (.mov), [.t 0]⟩, ⟨some 22, none, .pure (.len), [.t 21]⟩, ⟨some 23, none, .pure (.bin .lss), [.t 20, .t 22]⟩, ⟨some 24, none, .pure (.mov), [.t 23]⟩, ⟨some 25, some (24, true), .pure (.mov), [.t 0]⟩, ⟨some 26, some (24, true), .pure (.mov), [.t 5]⟩, ⟨some 27, some (24, true), .pure (.idx 1), [.t 25, .t 26]⟩, ⟨some 28, some (24, true), .load (.ld 1 false), [.t 27]⟩, ⟨some 29, some (24, true), .pure (.mov), [.t 1]⟩, ⟨some 30, some (24, true), .pure (.bin .eql), [.t 28, .t 29]⟩, ⟨some 31, none, .pick, [.t 24, .t 30, .c (.bool false)]⟩] [0, 1, 5, 31]) (.cond (.t 31) (.seq (.ops [⟨some 32, none, .pure (.mov), [.t 0]⟩, ⟨some 4, none, .pure (.mov), [.t 32]⟩] [4]) (.ret)) (.skip))) t39_34)))
def F39 : Fn Try.prog 39 := Fn.mkX false b39 [.t 4] 45 Try.f39 _ Try.func39 (by decide) rfl Try.ntmps39 (by kernel_rfl) (by kernel_rfl)
end Go.Am.Tsf

/- DD -/
namespace Go.Am
open Go.Proofs Go.Sort
/-- A number more among some that rise. -/
def putL : List Int → Int → List Int
  | [], n => [n]
  | x :: r, n => if x < n then x :: putL r n else if x = n then x :: r else n :: x :: r
theorem putL_at {L : List Int} {n : Int} {k : Nat} (hk : k ≤ L.length) (h : ∀ i (h : i < L.length), i < k → L[i] < n) : putL L n = L.take k ++ putL (L.drop k) n := by
  induction L generalizing k with
  | nil => simp at hk; subst hk; rfl
  | cons x r ih =>
    cases k with
    | zero => simp
    | succ k =>
      have h0 := h 0 (by simp) (by omega)
      simp only [List.getElem_cons_zero] at h0
      simp only [putL, if_pos h0, List.take_succ_cons, List.drop_succ_cons, List.cons_append]
      rw [ih (by simpa using hk) (fun i hi hik => by
        have := h (i + 1) (by simpa using hi) (by omega)
        simpa using this)]
theorem putL_mem {L : List Int} {n x : Int} : x ∈ putL L n ↔ x = n ∨ x ∈ L := by
  induction L with
  | nil => simp [putL]
  | cons y r ih =>
    simp only [putL]
    split
    · simp [ih]; grind
    · split
      · rename_i h; subst h; simp
      · simp
theorem putL_inc {L : List Int} {n : Int} (h : Inc L) : Inc (putL L n) := by
  induction L with
  | nil => simp [putL, Inc]
  | cons y r ih =>
    simp only [putL]
    unfold Inc at h ih ⊢
    rw [List.pairwise_cons] at h
    split
    · rename_i h1
      rw [List.pairwise_cons]
      refine ⟨fun z hz => ?_, ih h.2⟩
      rcases putL_mem.1 hz with rfl | hz
      · exact h1
      · exact h.1 z hz
    · split
      · rw [List.pairwise_cons]; exact h
      · rw [List.pairwise_cons, List.pairwise_cons]
        refine ⟨fun z hz => ?_, h⟩
        rcases List.mem_cons.1 hz with rfl | hz
        · omega
        · have := h.1 z hz; omega
theorem canonC_fold (l : List Int) : l.foldl putL [] = canonC l := by
  have key : ∀ (l : List Int) (b : List Int), Inc b → Inc (l.foldl putL b) ∧ ∀ x, x ∈ l.foldl putL b ↔ x ∈ b ∨ x ∈ l := by
    intro l
    induction l with
    | nil => intro b hb; exact ⟨hb, by simp⟩
    | cons y r ih =>
      intro b hb
      obtain ⟨h1, h2⟩ := ih (putL b y) (putL_inc hb)
      refine ⟨h1, fun x => ?_⟩
      show x ∈ r.foldl putL (putL b y) ↔ _
      rw [h2, putL_mem]; simp; grind
  obtain ⟨h1, h2⟩ := key l [] (by simp [Inc])
  exact inc_ext h1 (canonC_inc l) fun x => by rw [h2, canonC_mem]; simp
theorem putL_len (L : List Int) (n : Int) : (putL L n).length ≤ L.length + 1 := by
  induction L with
  | nil => simp [putL]
  | cons y r ih =>
    simp only [putL]
    split
    · simp; omega
    · split <;> simp
end Go.Am

/- DE -/
namespace Go.Am
open Go.Proofs Go.Sort
theorem Own.appN {esz bytes g : Nat} {τ s : Store} {L ys : List (List AV)} {wv : AV} {K : AV → Store → Prop} (hsub : Store.sub τ s) (hg : τ g = none) (hs : s g = some (.arr esz L)) (hw : slc s esz wv = some ys) (hsz : (L.length + ys.length) * bytes ≤ 140737488355328)
    (h : ∀ j s', Store.sub τ s' → τ j = none → s' j = some (.arr esz (L ++ ys)) → K (.os j esz 0 (L.length + ys.length)) s') : appwp esz bytes (.os g esz 0 L.length) wv s K := by
  refine app_os (slc_os0 hs rfl) hw hsz fun j hj => ?_
  have hτ : τ j = none := sub_none hsub hj
  refine h _ _ (fun x q hx => ?_) hτ (Store.set_same _ _ _)
  have hxj : x ≠ j := fun e => by subst e; rw [hτ] at hx; cases hx
  have hxg : x ≠ g := fun e => by subst e; rw [hg] at hx; cases hx
  rw [Store.set_ne _ _ hxj, Store.del_ne _ hxg]; exact hsub x q hx
theorem slc_osx {esz id off n : Nat} {es : List (List AV)} {σ : Store} (h : σ id = some (.arr esz es)) (hn : off + n ≤ es.length) : slc σ esz (.os id esz off n) = some ((es.drop off).take n) := by
  simp [slc, h, hn]
/-- The last two of the three. -/
theorem put_last (L : List Int) (n : Int) (k : Nat) (hk : k ≤ L.length) (hL : L.length ≤ 1000000) {g j b : Nat} {s t : Store} (hg : s g = some (.arr 1 (L.map cU))) (hsub : Store.sub s t) (hj : s j = none) (hb : s b = none) (hjb : b ≠ j)
    (htj : t j = some (.arr 1 ((L.take k).map cU))) (htb : t b = some (.arr 1 [cU n])) {K : AV → Store → Prop}
    (h : ∀ j s', Store.sub s s' → s j = none → s' j = some (.arr 1 ((L.take k ++ n :: L.drop k).map cU)) → K (.os j 1 0 (L.length + 1)) s') :
    appwp 1 4 (.os j 1 0 k) (.os b 1 0 1) t fun v s' => appwp 1 4 v (.os g 1 k (L.length - k)) s' K := by
  have e1 : ((L.take k).map cU).length = k := by simp; omega
  have a1 := Own.appN (τ := s) (g := j) (bytes := 4) (L := (L.take k).map cU) (K := fun v s' => appwp 1 4 v (.os g 1 k (L.length - k)) s' K) hsub hj htj (slc_os0 htb rfl) (by rw [e1]; simp; omega) (fun j' s' q1 q2 q3 => by
    have e2 : ((L.take k).map cU ++ [cU n]).length = k + 1 := by simp; omega
    have hs2 : slc s' 1 (.os g 1 k (L.length - k)) = some ((L.drop k).map cU) := by
      rw [slc_osx (q1 _ _ hg) (by simp; omega)]
      rw [List.take_of_length_le (by simp), List.map_drop]
    have a2 := Own.appN (τ := s) (g := j') (bytes := 4) (L := (L.take k).map cU ++ [cU n]) (K := K) q1 q2 q3 hs2 (by rw [e2]; simp; omega) (fun j2 s2 p1 p2 p3 => by
      have e3 : ((L.take k).map cU ++ [cU n]).length + ((L.drop k).map cU).length = L.length + 1 := by simp; omega
      rw [e3]
      refine h j2 s2 p1 p2 ?_
      rw [p3]; simp)
    rw [e2] at a2
    rw [e1]; exact a2)
  rw [e1] at a1
  exact a1
theorem put_all (L : List Int) (n : Int) (k : Nat) (hk : k ≤ L.length) (hL : L.length ≤ 1000000) {g i b : Nat} {s t : Store} (hg : s g = some (.arr 1 (L.map cU))) (hsub : Store.sub s t) (hi : s i = none) (hb : s b = none) (hib : b ≠ i)
    (hti : t i = some (.arr 1 [])) (htb : t b = some (.arr 1 [cU n])) {K : AV → Store → Prop}
    (h : ∀ j s', Store.sub s s' → s j = none → s' j = some (.arr 1 ((L.take k ++ n :: L.drop k).map cU)) → K (.os j 1 0 (L.length + 1)) s') :
    appwp 1 4 (.os i 1 0 0) (.os g 1 0 k) t fun v s' => appwp 1 4 v (.os b 1 0 1) s' fun v s' => appwp 1 4 v (.os g 1 k (L.length - k)) s' K := by
  have hsb : Store.sub (s.set b (.arr 1 [cU n])) t := fun y o hy => by
    by_cases hyb : y = b
    · subst hyb; rw [Store.set_same] at hy; cases hy; exact htb
    · rw [Store.set_ne _ _ hyb] at hy; exact hsub _ _ hy
  have e1 : ((L.take k).map cU).length = k := by simp; omega
  have hs2 : slc t 1 (.os g 1 0 k) = some ((L.take k).map cU) := by
    rw [slc_osx (hsub _ _ hg) (by simp; omega)]
    rw [List.drop_zero, List.map_take]
  refine Own.appN (τ := s.set b (.arr 1 [cU n])) (g := i) (L := []) hsb (by rw [Store.set_ne _ _ (fun e => hib e.symm)]; exact hi) hti hs2 (by rw [e1]; simp; omega) fun j s' q1 q2 q3 => ?_
  have hjb : j ≠ b := fun e => by subst e; rw [Store.set_same] at q2; cases q2
  rw [Store.set_ne _ _ hjb] at q2
  have := put_last L n k hk hL hg (Store.sub_trans (Store.sub_set _ b _ hb) q1) q2 hb (fun e => hjb e.symm) (by simpa using q3) (q1 _ _ (Store.set_same _ _ _)) h
  simp only [List.length_nil, Nat.zero_add, e1]
  exact this
theorem tail_put (E : Env) (L : List Int) (n : Int) (k : Nat) (hk : k ≤ L.length) (hL : L.length ≤ 1000000) {g : Nat} {s : Store} (hg : s g = some (.arr 1 (L.map cU))) {nn rr : Env → Store → Prop} {x : Nat → Env → Store → Prop}
    (hr : ∀ j s', Store.sub s s' → s j = none → s' j = some (.arr 1 ((L.take k ++ n :: L.drop k).map cU)) → rr [(4, .os j 1 0 (L.length + 1))] s') :
    bwp Try.prog Tsf.t39_34 ((0, .os g 1 0 L.length) :: (1, .int .u32 n) :: (5, .int .i64 (k : Int)) :: E) s nn rr x := by
  simp only [Tsf.t39_34]
  simp only [hg, ↓vcPre, ↓wit_get, ↓reduceIte, vcPost, vcStd, Nat.reduceEqDiff, reduceCtorEq, Nat.reduceAdd, Nat.reduceLeDiff, Int.reduceLT, Int.reduceLE, ↓u_setN]
  refine ⟨⟨by simp only [Option.getD_some]; omega, by simp only [Option.getD_some]; omega⟩, ⟨by simp only [Option.getD_none]; omega, by simp only [Option.getD_none]; omega⟩, ?_, ?_⟩
  · refine AllocQ.i0 fun i hi => ?_
    simp only [hg, Option.getD_some, Option.getD_none, Int.toNat_natCast, Int.toNat_zero, Nat.sub_zero, Nat.zero_add, ↓vcPre, ↓wit_get, ↓reduceIte, vcPost, vcStd, Nat.reduceEqDiff, reduceCtorEq, Nat.reduceAdd, Nat.reduceLeDiff, Int.reduceLT, Int.reduceLE, ↓u_setN]
    have e1 : ((L.take k).map cU).length = k := by simp; omega
    refine ⟨?_, ?_⟩
    · refine Own.appN (τ := s) (g := i) (L := []) (ys := (L.take k).map cU) (Store.sub_set _ _ _ hi) hi (Store.set_same _ _ _) ?_ (by rw [e1]; simp; omega) fun j s1 q1 q2 q3 => ?_
      · rw [slc_osx (Store.sub_set _ _ _ hi _ _ hg) (by simp; omega), List.drop_zero, List.map_take]
      refine AllocQ.i0 fun b hb => ?_
      have hjb : b ≠ j := fun e => by subst e; rw [q3] at hb; cases hb
      simp only [List.length_nil, Nat.zero_add, e1, List.nil_append] at q3 ⊢
      simp only [hg, ↓vcPre, ↓wit_get, ↓reduceIte, vcPost, vcStd, Nat.reduceEqDiff, reduceCtorEq, Nat.reduceAdd, Nat.reduceLeDiff, Int.reduceLT, Int.reduceLE, ↓u_setN]
      refine put_last L n k hk hL hg (Store.sub_trans q1 (Store.sub_set _ b _ hb)) q2 (sub_none q1 hb) hjb (Store.sub_set _ b _ hb _ _ q3) (Store.set_same _ _ _) fun j2 s2 p1 p2 p3 => ?_
      exact hr j2 s2 p1 p2 p3
    · refine AllocQ.i0 fun b hb => ?_
      simp only [hg, Option.getD_some, Option.getD_none, Int.toNat_natCast, Int.toNat_zero, Nat.sub_zero, Nat.zero_add, ↓vcPre, ↓wit_get, ↓reduceIte, vcPost, vcStd, Nat.reduceEqDiff, reduceCtorEq, Nat.reduceAdd, Nat.reduceLeDiff, Int.reduceLT, Int.reduceLE, ↓u_setN]
      have hbi : b ≠ i := fun e => by subst e; rw [Store.set_same] at hb; cases hb
      rw [Store.set_ne _ _ hbi] at hb
      refine put_all L n k hk hL hg (sub_set2 hi hb hbi) hi hb hbi (by rw [Store.set_ne _ _ (fun e => hbi e.symm), Store.set_same]) (Store.set_same _ _ _) fun j2 s2 p1 p2 p3 => hr j2 s2 p1 p2 p3
  · refine AllocQ.i0 fun b hb => ?_
    simp only [hg, ↓vcPre, ↓wit_get, ↓reduceIte, vcPost, vcStd, Nat.reduceEqDiff, reduceCtorEq, Nat.reduceAdd, Nat.reduceLeDiff, Int.reduceLT, Int.reduceLE, ↓u_setN]
    refine AllocQ.i0 fun i hi => ?_
    simp only [hg, Option.getD_some, Option.getD_none, Int.toNat_natCast, Int.toNat_zero, Nat.sub_zero, Nat.zero_add, ↓vcPre, ↓wit_get, ↓reduceIte, vcPost, vcStd, Nat.reduceEqDiff, reduceCtorEq, Nat.reduceAdd, Nat.reduceLeDiff, Int.reduceLT, Int.reduceLE, ↓u_setN]
    have hib : i ≠ b := fun e => by subst e; rw [Store.set_same] at hi; cases hi
    rw [Store.set_ne _ _ hib] at hi
    refine put_all L n k hk hL hg (sub_set2 hb hi hib) hi hb (fun e => hib e.symm) (Store.set_same _ _ _) (by rw [Store.set_ne _ _ (fun e => hib e.symm), Store.set_same]; rfl) fun j2 s2 p1 p2 p3 => hr j2 s2 p1 p2 p3
end Go.Am

/- DF -/
namespace Go.Am
open Go.Proofs Go.Sort
theorem app_last {A B : List (List AV)} {y : List AV} {w2 : AV} {j b : Nat} {s t : Store} (hsub : Store.sub s t) (hj : s j = none)
    (htj : t j = some (.arr 1 A)) (htb : t b = some (.arr 1 [y])) (h2 : ∀ t, Store.sub s t → slc t 1 w2 = some B) (hsz : (A.length + 1 + B.length) * 4 ≤ 140737488355328) {K : AV → Store → Prop}
    (h : ∀ j s', Store.sub s s' → s j = none → s' j = some (.arr 1 (A ++ y :: B)) → K (.os j 1 0 (A.length + 1 + B.length)) s') :
    appwp 1 4 (.os j 1 0 A.length) (.os b 1 0 1) t fun v s' => appwp 1 4 v w2 s' K := by
  refine Own.appN (τ := s) (g := j) (L := A) hsub hj htj (slc_os0 htb rfl) (by simp; omega) fun j' s' q1 q2 q3 => ?_
  have e2 : (A ++ [y]).length = A.length + 1 := by simp
  have a2 := Own.appN (τ := s) (g := j') (bytes := 4) (L := A ++ [y]) (K := K) q1 q2 q3 (h2 _ q1) (by rw [e2]; exact hsz) (fun j2 s2 p1 p2 p3 => by
    rw [e2]
    refine h j2 s2 p1 p2 ?_
    rw [p3]; simp)
  rw [e2] at a2
  exact a2
theorem app_all {A B : List (List AV)} {y : List AV} {w1 w2 : AV} {i b : Nat} {s t : Store} (hsub : Store.sub s t) (hi : s i = none) (hb : s b = none) (hib : b ≠ i)
    (hti : t i = some (.arr 1 [])) (htb : t b = some (.arr 1 [y])) (h1 : ∀ t, Store.sub s t → slc t 1 w1 = some A) (h2 : ∀ t, Store.sub s t → slc t 1 w2 = some B) (hsz : (A.length + 1 + B.length) * 4 ≤ 140737488355328) {K : AV → Store → Prop}
    (h : ∀ j s', Store.sub s s' → s j = none → s' j = some (.arr 1 (A ++ y :: B)) → K (.os j 1 0 (A.length + 1 + B.length)) s') :
    appwp 1 4 (.os i 1 0 0) w1 t fun v s' => appwp 1 4 v (.os b 1 0 1) s' fun v s' => appwp 1 4 v w2 s' K := by
  have hsb : Store.sub (s.set b (.arr 1 [y])) t := fun z o hy => by
    by_cases hyb : z = b
    · subst hyb; rw [Store.set_same] at hy; cases hy; exact htb
    · rw [Store.set_ne _ _ hyb] at hy; exact hsub _ _ hy
  refine Own.appN (τ := s.set b (.arr 1 [y])) (g := i) (L := []) hsb (by rw [Store.set_ne _ _ (fun e => hib e.symm)]; exact hi) hti (h1 _ hsub) (by simp; omega) fun j s' q1 q2 q3 => ?_
  have hjb : j ≠ b := fun e => by subst e; rw [Store.set_same] at q2; cases q2
  rw [Store.set_ne _ _ hjb] at q2
  have := app_last (A := A) (B := B) (Store.sub_trans (Store.sub_set _ b _ hb) q1) q2 (by simpa using q3) (q1 _ _ (Store.set_same _ _ _)) h2 hsz h
  simp only [List.length_nil, Nat.zero_add]
  exact this
theorem tail_put0 (E : Env) (n : Int) {s : Store} {nn rr : Env → Store → Prop} {x : Nat → Env → Store → Prop}
    (hr : ∀ j s', Store.sub s s' → s j = none → s' j = some (.arr 1 [cU n]) → rr [(4, .os j 1 0 1)] s') :
    bwp Try.prog Tsf.t39_34 ((0, .nils) :: (1, .int .u32 n) :: (5, .int .i64 0) :: E) s nn rr x := by
  simp only [Tsf.t39_34]
  have hn : ∀ t, Store.sub s t → slc t 1 .nils = some [] := fun _ _ => rfl
  simp only [↓vcPre, ↓wit_get, ↓reduceIte, vcPost, vcStd, Nat.reduceEqDiff, reduceCtorEq, Nat.reduceAdd, Nat.reduceLeDiff, Int.reduceLT, Int.reduceLE, ↓u_setN]
  refine ⟨⟨by simp, by simp⟩, ⟨by simp, by simp⟩, ?_, ?_⟩
  · refine AllocQ.i0 fun i hi => ?_
    simp only [↓vcPre, ↓wit_get, ↓reduceIte, vcPost, vcStd, Nat.reduceEqDiff, reduceCtorEq, Nat.reduceAdd, Nat.reduceLeDiff, Int.reduceLT, Int.reduceLE, ↓u_setN]
    refine ⟨?_, ?_⟩
    · refine Own.appN (τ := s) (g := i) (L := []) (ys := []) (Store.sub_set _ _ _ hi) hi (Store.set_same _ _ _) rfl (by simp) fun j s1 q1 q2 q3 => ?_
      refine AllocQ.i0 fun b hb => ?_
      have hjb : b ≠ j := fun e => by subst e; rw [q3] at hb; cases hb
      simp only [List.length_nil, Nat.zero_add, List.nil_append] at q3 ⊢
      simp only [↓vcPre, ↓wit_get, ↓reduceIte, vcPost, vcStd, Nat.reduceEqDiff, reduceCtorEq, Nat.reduceAdd, Nat.reduceLeDiff, Int.reduceLT, Int.reduceLE, ↓u_setN]
      exact app_last (A := []) (B := []) (Store.sub_trans q1 (Store.sub_set _ b _ hb)) q2 (Store.sub_set _ b _ hb _ _ q3) (Store.set_same _ _ _) hn (by simp) fun j2 s2 p1 p2 p3 => hr j2 s2 p1 p2 p3
    · refine AllocQ.i0 fun b hb => ?_
      simp only [↓vcPre, ↓wit_get, ↓reduceIte, vcPost, vcStd, Nat.reduceEqDiff, reduceCtorEq, Nat.reduceAdd, Nat.reduceLeDiff, Int.reduceLT, Int.reduceLE, ↓u_setN]
      have hbi : b ≠ i := fun e => by subst e; rw [Store.set_same] at hb; cases hb
      rw [Store.set_ne _ _ hbi] at hb
      exact app_all (A := []) (B := []) (sub_set2 hi hb hbi) hi hb hbi (by rw [Store.set_ne _ _ (fun e => hbi e.symm), Store.set_same]) (Store.set_same _ _ _) hn hn (by simp) fun j2 s2 p1 p2 p3 => hr j2 s2 p1 p2 p3
  · refine AllocQ.i0 fun b hb => ?_
    simp only [↓vcPre, ↓wit_get, ↓reduceIte, vcPost, vcStd, Nat.reduceEqDiff, reduceCtorEq, Nat.reduceAdd, Nat.reduceLeDiff, Int.reduceLT, Int.reduceLE, ↓u_setN]
    refine AllocQ.i0 fun i hi => ?_
    simp only [↓vcPre, ↓wit_get, ↓reduceIte, vcPost, vcStd, Nat.reduceEqDiff, reduceCtorEq, Nat.reduceAdd, Nat.reduceLeDiff, Int.reduceLT, Int.reduceLE, ↓u_setN]
    have hib : i ≠ b := fun e => by subst e; rw [Store.set_same] at hi; cases hi
    rw [Store.set_ne _ _ hib] at hi
    exact app_all (A := []) (B := []) (sub_set2 hb hi hib) hi hb (fun e => hib e.symm) (Store.set_same _ _ _) (by rw [Store.set_ne _ _ (fun e => hib e.symm), Store.set_same]; rfl) hn hn (by simp) fun j2 s2 p1 p2 p3 => hr j2 s2 p1 p2 p3
theorem s39 {τ s : Store} (hτ : Store.sub τ s) (L : List Int) (n : Int) (hL : L.length ≤ 1000000) {v : AV} (ho : Own 1 τ (L.map cU) v s) : ACalls Try.prog 39 [v, .int .u32 n] s (fun r s' => Store.sub τ s' ∧ Own 1 τ ((putL L n).map cU) r s') := by
  refine calls_of Tsf.F39 (by simp [Tsf.F39, Fn.mkX]) ?_
  simp only [Tsf.F39, Fn.mkX, Tsf.b39]
  rcases ho with ⟨h0, rfl⟩ | ⟨g, rfl, hgg, hg⟩
  · have hL0 : L = [] := by simpa using h0
    subst hL0
    simp only [↓vcPre, ↓wit_get, ↓reduceIte, vcPost, vcStd, Nat.reduceEqDiff, reduceCtorEq, Nat.reduceAdd, Nat.reduceLeDiff, Int.reduceLT, Int.reduceLE, ↓u_setN]
    refine LoopQ.inv (S := Unit) (fun _ => [(0, .nils), (1, .int .u32 n), (5, .int .i64 0)]) (fun _ => s) (fun _ => True) (fun _ => 0) () rfl (Store.sub_refl _) trivial ?_
    intro _ _
    simp only [↓vcPre, ↓wit_get, ↓reduceIte, vcPost, vcStd, Nat.reduceEqDiff, reduceCtorEq, Nat.reduceAdd, Nat.reduceLeDiff, Int.reduceLT, Int.reduceLE, ↓u_setN]
    refine tail_put0 _ n fun j s' h1 h2 h3 => ?_
    refine EndQ.to s' (.os j 1 0 1) rfl (Store.sub_refl _) ⟨Store.sub_trans hτ h1, .inr ⟨j, rfl, sub_none hτ h2, h3⟩⟩
  · simp only [List.length_map]
    simp only [hg, ↓vcPre, ↓wit_get, ↓reduceIte, vcPost, vcStd, Nat.reduceEqDiff, reduceCtorEq, Nat.reduceAdd, Nat.reduceLeDiff, Int.reduceLT, Int.reduceLE, ↓u_setN]
    refine LoopQ.inv (S := Nat) (fun k => [(0, .os g 1 0 L.length), (1, .int .u32 n), (5, .int .i64 (k : Int))]) (fun _ => s) (fun k => k ≤ L.length ∧ ∀ i (h : i < L.length), i < k → L[i] < n) (fun k => L.length + 1 - k) 0 rfl (Store.sub_refl _) ⟨by omega, fun i _ h => by omega⟩ ?_
    rintro k ⟨hk, hlt⟩
    simp only [hg, Nat.zero_add, ↓vcPre, ↓wit_get, ↓reduceIte, vcPost, vcStd, Nat.reduceEqDiff, reduceCtorEq, Nat.reduceAdd, Nat.reduceLeDiff, Int.reduceLT, Int.reduceLE, ↓u_setN]
    have ek : IntKind.i64.wrap ((k : Int) + 1) = ((k + 1 : Nat) : Int) := by rw [wrap64 (by unfold I64; omega)]; omega
    have hput := putL_at hk hlt
    have tail : (∀ h : k < L.length, n < L[k]) → ∀ E, bwp Try.prog Tsf.t39_34 ((0, .os g 1 0 L.length) :: (1, .int .u32 n) :: (5, .int .i64 (k : Int)) :: E) s (fun e τ' => @EndQ e τ' ⟨Tsf.F39.slots, fun r s' => Store.sub τ s' ∧ Own 1 τ ((putL L n).map cU) r s'⟩) (fun e τ' => @EndQ e τ' ⟨Tsf.F39.slots, fun r s' => Store.sub τ s' ∧ Own 1 τ ((putL L n).map cU) r s'⟩) fun _ _ _ => False := fun hkn E => by
      have hpl : putL L n = L.take k ++ n :: L.drop k := by
        rw [hput]
        by_cases c1 : k < L.length
        · have := hkn c1
          rw [List.drop_eq_getElem_cons c1]
          simp only [putL]
          rw [if_neg (by omega), if_neg (by omega)]
        · rw [List.drop_eq_nil_of_le (by omega)]; rfl
      refine tail_put E L n k hk hL hg fun j s' h1 h2 h3 => ?_
      refine EndQ.to s' (.os j 1 0 (L.length + 1)) rfl (Store.sub_refl _) ⟨Store.sub_trans hτ h1, .inr ⟨j, ?_, sub_none hτ h2, by rw [hpl]; exact h3⟩⟩
      rw [hpl]; simp; omega
    refine ⟨fun c1 => ⟨c1, c1, by simp [cU], ?_⟩, fun c1 => ⟨fun c2 => absurd c2 c1, fun _ => tail (fun h => absurd h c1) _⟩⟩
    simp only [cU, ↓vcPre, ↓wit_get, ↓reduceIte, vcPost, vcStd, Nat.reduceEqDiff, reduceCtorEq, Nat.reduceAdd, Nat.reduceLeDiff, Int.reduceLT, Int.reduceLE, ↓u_setN]
    refine ⟨fun g1 => ?_, fun g1 => ⟨fun _ => ⟨c1, c1, ?_⟩, fun c2 => absurd c1 c2⟩⟩
    · rw [ek]
      refine NextQ.to (k + 1) rfl (Store.sub_refl _) (by omega) ⟨by omega, fun i hi hik => ?_⟩
      by_cases hik' : i = k
      · subst hik'; exact g1
      · exact hlt i hi (by omega)
    · refine ⟨fun g2 => ?_, fun g2 => tail (fun _ => by omega) _⟩
      refine EndQ.to s (.os g 1 0 L.length) rfl (Store.sub_refl _) ⟨hτ, .inr ⟨g, ?_, hgg, ?_⟩⟩
      · have hpl : putL L n = L := by
          rw [hput, List.drop_eq_getElem_cons c1]
          simp only [putL]
          rw [if_neg (by omega), if_pos g2, ← List.drop_eq_getElem_cons c1, List.take_append_drop]
        rw [hpl]; simp
      · have hpl : putL L n = L := by
          rw [hput, List.drop_eq_getElem_cons c1]
          simp only [putL]
          rw [if_neg (by omega), if_pos g2, ← List.drop_eq_getElem_cons c1, List.take_append_drop]
        rw [hpl]; exact hg
end Go.Am

/- S94C -/
namespace Go.Am.Tsg
open Go.Proofs
/-- signpost/signpostref7.Canon -/
def t20_3 : BC := .seq (.ops [⟨some 3, none, .pure (.mov), [.c .nils]⟩] [1, 2, 3]) (.seq (.seq (.ops [⟨some 4, none, .pure (.mov), [.c (.int .i64 0)]⟩] [1, 2, 3, 4]) (.block 0 (.loop [1, 2, 3, 4] (.seq (.seq (.ops [⟨some 17, none, .pure (.mov), [.t 4]⟩, ⟨some 18, none, .pure (.fld 8), [.t 1]⟩, ⟨some 19, none, .load (.ld 1 false), [.t 18]⟩, ⟨some 20, none, .pure (.len), [.t 19]⟩, ⟨some 21, none, .pure (.bin .lss), [.t 17, .t 20]⟩] [1, 2, 3, 4, 21]) (.cond (.t 21) (.skip) (.exit 0))) (.seq (.block 1 (.ops [⟨some 24, none, .pure (.mov), [.t 3]⟩, ⟨some 25, none, .pure (.fld 8), [.t 1]⟩, ⟨some 26, none, .load (.ld 1 false), [.t 25]⟩, ⟨some 27, none, .pure (.mov), [.t 4]⟩, ⟨some 28, none, .pure (.idx 1), [.t 26, .t 27]⟩, ⟨some 29, none, .load (.ld 1 false), [.t 28]⟩, ⟨some 30, none, .loud (.call 39), [.t 24, .t 29]⟩, ⟨some 3, none, .pure (.mov), [.t 30]⟩] [1, 2, 3, 4])) (.ops [⟨some 22, none, .pure (.mov), [.t 4]⟩, ⟨some 23, none, .pure (.bin .add), [.t 22, .c (.int .i64 1)]⟩, ⟨some 4, none, .pure (.mov), [.t 23]⟩] [1, 2, 3, 4])))))) (.seq (.ops [⟨some 31, none, .pure (.mov), [.t 3]⟩, ⟨some 32, none, .pure (.fld 8), [.t 1]⟩, ⟨none, none, .loud (.st 1), [.t 32, .t 31]⟩] [1, 2]) (.seq (.ops [⟨some 33, none, .load (.ld 9 true), [.t 1]⟩, ⟨none, none, .loud (.st 9), [.t 2, .t 33]⟩] [2]) (.ret))))
def b20 : BC := .seq (.ops [⟨some 1, none, .alloc (.box), [.t 0]⟩, ⟨some 2, none, .alloc (.alloc [(.int .i64 0), .nils, (.int .u32 0), (.bool false), (.int .u32 0), (.bool false), (.int .u32 0), (.bool false), .nils]), []⟩] [1, 2]) (.seq (.ops [⟨some 5, none, .pure (.fld 1), [.t 1]⟩, ⟨some 6, none, .load (.ld 1 false), [.t 5]⟩, ⟨some 7, none, .loud (.call 51), [.t 6]⟩, ⟨some 8, none, .pure (.fld 1), [.t 1]⟩, ⟨none, none, .loud (.st 1), [.t 8, .t 7]⟩] [1, 2]) (.seq (.seq (.ops [⟨some 9, none, .pure (.fld 3), [.t 1]⟩, ⟨some 10, none, .load (.ld 1 false), [.t 9]⟩, ⟨some 11, none, .pure (.not), [.t 10]⟩] [1, 2, 11]) (.cond (.t 11) (.ops [⟨some 12, none, .pure (.fld 4), [.t 1]⟩, ⟨none, none, .loud (.st 1), [.t 12, .c (.int .u32 0)]⟩] [1, 2]) (.skip))) (.seq (.seq (.ops [⟨some 13, none, .pure (.fld 5), [.t 1]⟩, ⟨some 14, none, .load (.ld 1 false), [.t 13]⟩, ⟨some 15, none, .pure (.not), [.t 14]⟩] [1, 2, 15]) (.cond (.t 15) (.ops [⟨some 16, none, .pure (.fld 6), [.t 1]⟩, ⟨none, none, .loud (.st 1), [.t 16, .c (.int .u32 0)]⟩] [1, 2]) (.skip))) t20_3)))
def F20 : Fn Try.prog 20 := Fn.mkX false b20 [.c 2 9 true] 34 Try.f20 _ Try.func20 (by decide) rfl Try.ntmps20 (by kernel_rfl) (by kernel_rfl)
end Go.Am.Tsg

/- DG -/
namespace Go.Am
open Go.Proofs Go.Sort
theorem tail_rcanon (E : Env) (a : At) (ha : a.ok) {σ t : Store} {i j : Nat} {z : List AV} (hz : z.length = 9) (hi : t i = some (.box a.c)) (hj : t j = some (.box z)) (hij : ¬ i = j) (hi0 : σ i = none) (hj0 : σ j = none) (hs : Store.sub σ t) {nn rr : Env → Store → Prop} {x : Nat → Env → Store → Prop}
    (hr : ∀ v s', Store.sub σ s' → Own 1 σ ((canonC a.cms).map cU) v s' → s' j = some (.box (a.cO v)) → rr [(2, .ptr j 0)] s') :
    bwp Try.prog Tsg.t20_3 ((1, .ptr i 0) :: (2, .ptr j 0) :: E) t nn rr x := by
  simp only [Tsg.t20_3]
  have hji : ¬ j = i := fun e => hij e.symm
  have hcm : a.cms.length ≤ 1000000 := ha.2.2
  simp only [↓vcPre, ↓wit_get, ↓reduceIte, vcPost, vcStd, Nat.reduceEqDiff, reduceCtorEq, Nat.reduceAdd, Nat.reduceLeDiff, Int.reduceLT, Int.reduceLE, ↓u_setN]
  refine LoopQ.inv (S := Nat × AV × Store) (fun q => [(1, .ptr i 0), (2, .ptr j 0), (3, q.2.1), (4, .int .i64 (q.1 : Int))]) (fun q => q.2.2) (fun q => q.1 ≤ a.cms.length ∧ Store.sub t q.2.2 ∧ Own 1 t (((a.cms.take q.1).foldl putL []).map cU) q.2.1 q.2.2) (fun q => a.cms.length + 1 - q.1) (0, .nils, t) rfl (Store.sub_refl _) ⟨by simp only; omega, Store.sub_refl _, .nil⟩ ?_
  rintro ⟨k, v, s⟩ ⟨hk, hts, ho⟩
  simp only at hk hts ho
  have hsi := hts _ _ hi
  have hsj := hts _ _ hj
  simp only [hsi, At.c, ↓vcPre, ↓wit_get, ↓reduceIte, vcPost, vcStd, Nat.reduceEqDiff, reduceCtorEq, Nat.reduceAdd, Nat.reduceLeDiff, Int.reduceLT, Int.reduceLE, ↓u_setN]
  refine ⟨fun c1 => ?_, fun c1 => ?_⟩
  · have ek : IntKind.i64.wrap ((k : Int) + 1) = ((k + 1 : Nat) : Int) := by rw [wrap64 (by unfold I64; omega)]; omega
    refine ⟨c1, by simp [cU], ?_⟩
    simp only [cU, ↓vcPre, ↓wit_get, ↓reduceIte, vcPost, vcStd, Nat.reduceEqDiff, reduceCtorEq, Nat.reduceAdd, Nat.reduceLeDiff, Int.reduceLT, Int.reduceLE, ↓u_setN]
    have hfl : ∀ (l : List Int) (b : List Int), (l.foldl putL b).length ≤ b.length + l.length := by
      intro l
      induction l with
      | nil => intro b; simp
      | cons y r ih => intro b; have h1 := ih (putL b y); have h2 := putL_len b y; simp only [List.foldl_cons, List.length_cons]; omega
    have hlen := hfl (a.cms.take k) []
    simp only [List.length_take, List.length_nil] at hlen
    refine (s39 hts ((a.cms.take k).foldl putL []) a.cms[k] (by omega) ho).Q ?_
    rintro r s' ⟨h1, h2⟩
    simp only [↓vcPre, ↓wit_get, ↓reduceIte, vcPost, vcStd, Nat.reduceEqDiff, reduceCtorEq, Nat.reduceAdd, Nat.reduceLeDiff, Int.reduceLT, Int.reduceLE, ↓u_setN]
    rw [ek]
    refine NextQ.to (k + 1, r, s') rfl (Store.sub_refl _) (by simp only; omega) ⟨by simp only; omega, h1, ?_⟩
    simp only
    rw [foldl_take_succ putL [] c1]
    exact h2
  · have hkl : a.cms.take k = a.cms := List.take_of_length_le (by omega)
    rw [hkl, canonC_fold] at ho
    have hv : v.isTup = false ∧ v.cells = [v] := by
      rcases ho with ⟨_, rfl⟩ | ⟨g, rfl, _, _⟩ <;> exact ⟨rfl, rfl⟩
    simp only [hv.1, hv.2, hsi, hsj, hij, hji, At.c, hz, ↓vcPre, ↓wit_get, ↓reduceIte, vcPost, vcStd, Nat.reduceEqDiff, reduceCtorEq, Nat.reduceAdd, Nat.reduceLeDiff, Int.reduceLT, Int.reduceLE, ↓u_setN]
    rw [splice_all _ _ (by simp [hz]), wit_some]
    refine hr v _ (sub_upd' (sub_upd' (Store.sub_trans hs hts) hi0) hj0) ?_ (Store.set_same _ _ _)
    rcases ho.weak hs with h | ⟨g, h1, h2, h3⟩
    · exact .inl h
    · refine .inr ⟨g, h1, h2, ?_⟩
      have hgi : ¬ g = i := fun e => by rw [e, hsi] at h3; cases h3
      have hgj : ¬ g = j := fun e => by rw [e, hsj] at h3; cases h3
      rw [Store.set_ne _ _ hgj, Store.set_ne _ _ hgi]; exact h3
theorem s20 (a : At) (ha : a.ok) {σ : Store} {Q : AV → Store → Prop} (hQ : ∀ v s', Store.sub σ s' → Own 1 σ ((canonC a.cms).map cU) v s' → Weak (.agg ((canonA a).cO v)) s' Q) : ACalls Try.prog 20 [.agg a.c] σ Q := by
  refine calls_of Tsg.F20 (by simp [Tsg.F20, Fn.mkX]) ?_
  simp only [Tsg.F20, Fn.mkX, Tsg.b20]
  simp only [At.c, ↓vcPre, ↓wit_get, ↓reduceIte, vcPost, vcStd, Nat.reduceEqDiff, reduceCtorEq, Nat.reduceAdd, Nat.reduceLeDiff, Int.reduceLT, Int.reduceLE, ↓u_setN]
  refine AllocQ.i0 fun i hi => ?_
  simp only [At.c, ↓vcPre, ↓wit_get, ↓reduceIte, vcPost, vcStd, Nat.reduceEqDiff, reduceCtorEq, Nat.reduceAdd, Nat.reduceLeDiff, Int.reduceLT, Int.reduceLE, ↓u_setN]
  refine AllocQ.i1 fun j hj1 hj2 hj => ?_
  simp only [hj1, hj2, ↓vcPre, ↓wit_get, ↓reduceIte, vcPost, vcStd, Nat.reduceEqDiff, reduceCtorEq, Nat.reduceAdd, Nat.reduceLeDiff, Int.reduceLT, Int.reduceLE, ↓u_setN]
  refine (c51 _ ha.1 ha.2.1).Q ?_
  simp only [hj1, hj2, ↓vcPre, ↓wit_get, ↓reduceIte, vcPost, vcStd, Nat.reduceEqDiff, reduceCtorEq, Nat.reduceAdd, Nat.reduceLeDiff, Int.reduceLT, Int.reduceLE, ↓u_setN]
  have key : ∀ (E : Env) (t : Store) (z : List AV) (x : Nat → Env → Store → Prop) (n : Env → Store → Prop) (m p : Int), z.length = 9 → t i = some (.box ({ a with med := m, prf := p } : At).c) → t j = some (.box z) → Store.sub σ t → (if a.hm then a.med else 0) = m → (if a.hp then a.prf else 0) = p →
      bwp Try.prog Tsg.t20_3 ((1, .ptr i 0) :: (2, .ptr j 0) :: E) t n (fun e s => @EndQ e s ⟨Tsg.F20.slots, Q⟩) x := by
    intro E t z x n m p hz h1 h2 h3 rfl rfl
    refine tail_rcanon E { a with med := (if a.hm then a.med else 0), prf := (if a.hp then a.prf else 0) } ha hz h1 h2 hj2 hi hj h3 ?_
    intro v s' q1 q2 q3
    unfold EndQ
    refine ⟨_, ?_, hQ v s' q1 q2⟩
    show Env.res [(2, AV.ptr j 0)] s' [RS.c 2 9 true] = _
    have e9 : ∀ x : At, (x.cO v).length = 9 := fun _ => rfl
    have t9 : ∀ x : At, List.take 9 (x.cO v) = x.cO v := fun _ => rfl
    simp only [q3, e9, t9, Nat.le_refl, ↓vcPre, ↓wit_get, ↓reduceIte, vcPost, vcStd, Nat.reduceEqDiff, reduceCtorEq, Nat.reduceAdd, Nat.reduceLeDiff, Int.reduceLT, Int.reduceLE, ↓u_setN]
    rfl
  cases hm : a.hm <;> cases hp : a.hp
  all_goals simp only [↓vcPre, ↓wit_get, ↓reduceIte, vcPost, vcStd, Nat.reduceEqDiff, reduceCtorEq, Nat.reduceAdd, Nat.reduceLeDiff, Int.reduceLT, Int.reduceLE, ↓u_setN]
  all_goals
    refine key _ _ zCells _ _ (if a.hm then a.med else 0) (if a.hp then a.prf else 0) rfl ?_ ?_ ?_ rfl rfl
    · rw [Store.set_same]; simp [At.c, hm, hp]
    · simp only [Store.set_ne _ _ hj1, Store.set_same]; rfl
    · first
        | exact sub_upd' (sub_upd' (sub_upd' (sub_set2 hi hj hj1) hi) hi) hi
        | exact sub_upd' (sub_upd' (sub_set2 hi hj hj1) hi) hi
        | exact sub_upd' (sub_set2 hi hj hj1) hi
theorem c20 (a : At) (ha : a.ok) : Pur Try.prog 20 [.agg a.c] (.agg (canonA a).c) := fun σ =>
  s20 a ha fun v s' hs ho => by
    rcases ho with ⟨h0, rfl⟩ | ⟨g, rfl, hg, hh⟩
    · have h0' : canonC a.cms = [] := by simpa using h0
      refine Weak.agg (WeakL.nil 8 1 rfl (WeakL.forget hs (WeakL.pure ⟨?_, rfl, ?_⟩)))
      · intro c hc
        simp [At.cO] at hc
        rcases hc with rfl | rfl | rfl | rfl | rfl | rfl | rfl | rfl | rfl <;> rfl
      · simp [At.cO, At.c, canonA, h0']
    · refine Weak.agg (WeakL.freeze 8 rfl hh (by simp) (WeakL.forget (fun i o hi => ?_) (WeakL.pure ⟨?_, rfl, ?_⟩)))
      · rw [Store.del_ne _ (fun e => by subst e; rw [hg] at hi; cases hi)]; exact hs i o hi
      · intro c hc
        simp [At.cO] at hc
        rcases hc with rfl | rfl | rfl | rfl | rfl | rfl | rfl | rfl | rfl <;> rfl
      · have : List.take (canonC a.cms).length ((canonC a.cms).map cU) = (canonC a.cms).map cU := List.take_of_length_le (by simp)
        simp [At.cO, At.c, canonA, this]
end Go.Am

/- DH -/
namespace Go.Am
open Go.Proofs Go.Sort
theorem c83 (b : Bool) : Pur Try.prog 83 [.bool b] (.int .i64 (sideF b)) := by
  refine pur_of Tst.F83 (by simp [Tst.F83, Fn.mkX]) fun σ => ?_
  simp only [Tst.F83, Fn.mkX, Tst.b83]
  cases b <;> simp only [↓vcPre, ↓wit_get, ↓reduceIte, vcPost, vcStd, Nat.reduceEqDiff, reduceCtorEq, Nat.reduceAdd, Nat.reduceLeDiff, Int.reduceLT, Int.reduceLE, ↓u_setN] <;> rfl
theorem bneT {x y : Bool} (h : x ≠ y) : (x != y) = true := by cases x <;> cases y <;> simp_all
theorem bneF {x y : Bool} (h : x = y) : (x != y) = false := by cases x <;> cases y <;> simp_all
theorem sideF_nz (b : Bool) : sideF b ≠ 0 := by cases b <;> decide
set_option maxHeartbeats 1000000 in
theorem s55 (a b : At) (ha : a.ok) (hb : b.ok) (σ : Store) : ACalls Try.prog 55 [.agg a.c, .agg b.c] σ (fun r s => s = σ ∧ ∃ n, r = .int .i64 n ∧ (n = 0 ↔ canonA a = canonA b)) := by
  refine calls_of Tst.F55 (by simp [Tst.F55, Fn.mkX]) ?_
  simp only [Tst.F55, Fn.mkX, Tst.b55]
  simp only [At.c, ↓vcPre, ↓wit_get, ↓reduceIte, vcPost, vcStd, Nat.reduceEqDiff, reduceCtorEq, Nat.reduceAdd, Nat.reduceLeDiff, Int.reduceLT, Int.reduceLE, ↓u_setN]
  refine AllocQ.i0 fun i hi => ?_
  simp only [At.c, ↓vcPre, ↓wit_get, ↓reduceIte, vcPost, vcStd, Nat.reduceEqDiff, reduceCtorEq, Nat.reduceAdd, Nat.reduceLeDiff, Int.reduceLT, Int.reduceLE, ↓u_setN]
  refine AllocQ.i1 fun j hj1 hj2 hj => ?_
  simp only [hj1, hj2, ↓vcPre, ↓wit_get, ↓reduceIte, vcPost, vcStd, Nat.reduceEqDiff, reduceCtorEq, Nat.reduceAdd, Nat.reduceLeDiff, Int.reduceLT, Int.reduceLE, ↓u_setN]
  refine (c20 a ha).Q ?_
  simp only [hj1, hj2, ↓vcPre, ↓wit_get, ↓reduceIte, vcPost, vcStd, Nat.reduceEqDiff, reduceCtorEq, Nat.reduceAdd, Nat.reduceLeDiff, Int.reduceLT, Int.reduceLE, ↓u_setN]
  refine (c20 b hb).Q ?_
  simp only [hj1, hj2, ↓vcPre, ↓wit_get, ↓reduceIte, vcPost, vcStd, Nat.reduceEqDiff, reduceCtorEq, Nat.reduceAdd, Nat.reduceLeDiff, Int.reduceLT, Int.reduceLE, ↓u_setN]
  have hx := canonA_ok ha
  have hy := canonA_ok hb
  generalize canonA a = p at hx ⊢
  generalize canonA b = q at hy ⊢
  simp only [hj1, hj2, At.c, ↓vcPre, ↓wit_get, ↓reduceIte, vcPost, vcStd, Nat.reduceEqDiff, reduceCtorEq, Nat.reduceAdd, Nat.reduceLeDiff, Int.reduceLT, Int.reduceLE, ↓u_setN]
  have hti : ((((σ.set i (Obj.box [AV.int IntKind.i64 a.org, AV.sl 2 (List.map Seg.c a.path), AV.int IntKind.u32 a.nxt, AV.bool a.hm, AV.int IntKind.u32 a.med, AV.bool a.hp, AV.int IntKind.u32 a.prf, AV.bool a.atm, AV.sl 1 (List.map cU a.cms)])).set j (Obj.box [AV.int IntKind.i64 b.org, AV.sl 2 (List.map Seg.c b.path), AV.int IntKind.u32 b.nxt, AV.bool b.hm, AV.int IntKind.u32 b.med, AV.bool b.hp, AV.int IntKind.u32 b.prf, AV.bool b.atm, AV.sl 1 (List.map cU b.cms)])).set i (Obj.box [AV.int IntKind.i64 p.org, AV.sl 2 (List.map Seg.c p.path), AV.int IntKind.u32 p.nxt, AV.bool p.hm, AV.int IntKind.u32 p.med, AV.bool p.hp, AV.int IntKind.u32 p.prf, AV.bool p.atm, AV.sl 1 (List.map cU p.cms)])).set j (Obj.box [AV.int IntKind.i64 q.org, AV.sl 2 (List.map Seg.c q.path), AV.int IntKind.u32 q.nxt, AV.bool q.hm, AV.int IntKind.u32 q.med, AV.bool q.hp, AV.int IntKind.u32 q.prf, AV.bool q.atm, AV.sl 1 (List.map cU q.cms)])) i = some (Obj.box [AV.int IntKind.i64 p.org, AV.sl 2 (List.map Seg.c p.path), AV.int IntKind.u32 p.nxt, AV.bool p.hm, AV.int IntKind.u32 p.med, AV.bool p.hp, AV.int IntKind.u32 p.prf, AV.bool p.atm, AV.sl 1 (List.map cU p.cms)]) := by rw [Store.set_ne _ _ hj2, Store.set_same]
  have htj : ((((σ.set i (Obj.box [AV.int IntKind.i64 a.org, AV.sl 2 (List.map Seg.c a.path), AV.int IntKind.u32 a.nxt, AV.bool a.hm, AV.int IntKind.u32 a.med, AV.bool a.hp, AV.int IntKind.u32 a.prf, AV.bool a.atm, AV.sl 1 (List.map cU a.cms)])).set j (Obj.box [AV.int IntKind.i64 b.org, AV.sl 2 (List.map Seg.c b.path), AV.int IntKind.u32 b.nxt, AV.bool b.hm, AV.int IntKind.u32 b.med, AV.bool b.hp, AV.int IntKind.u32 b.prf, AV.bool b.atm, AV.sl 1 (List.map cU b.cms)])).set i (Obj.box [AV.int IntKind.i64 p.org, AV.sl 2 (List.map Seg.c p.path), AV.int IntKind.u32 p.nxt, AV.bool p.hm, AV.int IntKind.u32 p.med, AV.bool p.hp, AV.int IntKind.u32 p.prf, AV.bool p.atm, AV.sl 1 (List.map cU p.cms)])).set j (Obj.box [AV.int IntKind.i64 q.org, AV.sl 2 (List.map Seg.c q.path), AV.int IntKind.u32 q.nxt, AV.bool q.hm, AV.int IntKind.u32 q.med, AV.bool q.hp, AV.int IntKind.u32 q.prf, AV.bool q.atm, AV.sl 1 (List.map cU q.cms)])) j = some (Obj.box [AV.int IntKind.i64 q.org, AV.sl 2 (List.map Seg.c q.path), AV.int IntKind.u32 q.nxt, AV.bool q.hm, AV.int IntKind.u32 q.med, AV.bool q.hp, AV.int IntKind.u32 q.prf, AV.bool q.atm, AV.sl 1 (List.map cU q.cms)]) := Store.set_same _ _ _
  have hts : Store.sub σ ((((σ.set i (Obj.box [AV.int IntKind.i64 a.org, AV.sl 2 (List.map Seg.c a.path), AV.int IntKind.u32 a.nxt, AV.bool a.hm, AV.int IntKind.u32 a.med, AV.bool a.hp, AV.int IntKind.u32 a.prf, AV.bool a.atm, AV.sl 1 (List.map cU a.cms)])).set j (Obj.box [AV.int IntKind.i64 b.org, AV.sl 2 (List.map Seg.c b.path), AV.int IntKind.u32 b.nxt, AV.bool b.hm, AV.int IntKind.u32 b.med, AV.bool b.hp, AV.int IntKind.u32 b.prf, AV.bool b.atm, AV.sl 1 (List.map cU b.cms)])).set i (Obj.box [AV.int IntKind.i64 p.org, AV.sl 2 (List.map Seg.c p.path), AV.int IntKind.u32 p.nxt, AV.bool p.hm, AV.int IntKind.u32 p.med, AV.bool p.hp, AV.int IntKind.u32 p.prf, AV.bool p.atm, AV.sl 1 (List.map cU p.cms)])).set j (Obj.box [AV.int IntKind.i64 q.org, AV.sl 2 (List.map Seg.c q.path), AV.int IntKind.u32 q.nxt, AV.bool q.hm, AV.int IntKind.u32 q.med, AV.bool q.hp, AV.int IntKind.u32 q.prf, AV.bool q.atm, AV.sl 1 (List.map cU q.cms)])) := sub_upd' (sub_upd' (sub_set2 hi hj hj1) hi) hj
  generalize ((((σ.set i (Obj.box [AV.int IntKind.i64 a.org, AV.sl 2 (List.map Seg.c a.path), AV.int IntKind.u32 a.nxt, AV.bool a.hm, AV.int IntKind.u32 a.med, AV.bool a.hp, AV.int IntKind.u32 a.prf, AV.bool a.atm, AV.sl 1 (List.map cU a.cms)])).set j (Obj.box [AV.int IntKind.i64 b.org, AV.sl 2 (List.map Seg.c b.path), AV.int IntKind.u32 b.nxt, AV.bool b.hm, AV.int IntKind.u32 b.med, AV.bool b.hp, AV.int IntKind.u32 b.prf, AV.bool b.atm, AV.sl 1 (List.map cU b.cms)])).set i (Obj.box [AV.int IntKind.i64 p.org, AV.sl 2 (List.map Seg.c p.path), AV.int IntKind.u32 p.nxt, AV.bool p.hm, AV.int IntKind.u32 p.med, AV.bool p.hp, AV.int IntKind.u32 p.prf, AV.bool p.atm, AV.sl 1 (List.map cU p.cms)])).set j (Obj.box [AV.int IntKind.i64 q.org, AV.sl 2 (List.map Seg.c q.path), AV.int IntKind.u32 q.nxt, AV.bool q.hm, AV.int IntKind.u32 q.med, AV.bool q.hp, AV.int IntKind.u32 q.prf, AV.bool q.atm, AV.sl 1 (List.map cU q.cms)])) = t at hti htj hts ⊢
  have nz : ∀ {bb : Bool} {E : Env}, p ≠ q → @EndQ ((4, .int .i64 (sideF bb)) :: E) t ⟨Tst.F55.slots, fun r s => s = σ ∧ ∃ n, r = .int .i64 n ∧ (n = 0 ↔ p = q)⟩ := fun {bb E} h => EndQ.to σ _ rfl hts ⟨rfl, _, rfl, by simp [sideF_nz, h]⟩
  refine ⟨fun g1 => (c83 _).Q ?_, fun g1 => (c38 _ _ hx.1 hy.1 hx.2.1 hy.2.1).Q ?_⟩
  · simp only [↓vcPre, ↓wit_get, ↓reduceIte, vcPost, vcStd, Nat.reduceEqDiff, reduceCtorEq, Nat.reduceAdd, Nat.reduceLeDiff, Int.reduceLT, Int.reduceLE, ↓u_setN]
    exact nz fun e => g1 (by rw [e])
  · simp only [hti, htj, ↓vcPre, ↓wit_get, ↓reduceIte, vcPost, vcStd, Nat.reduceEqDiff, reduceCtorEq, Nat.reduceAdd, Nat.reduceLeDiff, Int.reduceLT, Int.reduceLE, ↓u_setN]
    refine ⟨fun g2 => EndQ.to σ _ rfl hts ⟨rfl, _, rfl, fun h => absurd h g2, fun h => absurd (cmpPath_z.2 (by rw [h])) g2⟩, fun g2 => ⟨fun g3 => (c83 _).Q ?_, fun g3 => ?_⟩⟩
    · simp only [↓vcPre, ↓wit_get, ↓reduceIte, vcPost, vcStd, Nat.reduceEqDiff, reduceCtorEq, Nat.reduceAdd, Nat.reduceLeDiff, Int.reduceLT, Int.reduceLE, ↓u_setN]
      exact nz fun e => g3 (by rw [e])
    by_cases g4 : p.hm = q.hm
    case neg =>
      rw [bneT g4]
      simp only [↓vcPre, ↓wit_get, ↓reduceIte, vcPost, vcStd, Nat.reduceEqDiff, reduceCtorEq, Nat.reduceAdd, Nat.reduceLeDiff, Int.reduceLT, Int.reduceLE, ↓u_setN]
      refine (c83 _).Q ?_
      simp only [↓vcPre, ↓wit_get, ↓reduceIte, vcPost, vcStd, Nat.reduceEqDiff, reduceCtorEq, Nat.reduceAdd, Nat.reduceLeDiff, Int.reduceLT, Int.reduceLE, ↓u_setN]
      exact nz fun e => g4 (by rw [e])
    rw [bneF g4]
    simp only [↓vcPre, ↓wit_get, ↓reduceIte, vcPost, vcStd, Nat.reduceEqDiff, reduceCtorEq, Nat.reduceAdd, Nat.reduceLeDiff, Int.reduceLT, Int.reduceLE, ↓u_setN]
    refine ⟨fun g5 => (c83 _).Q ?_, fun g5 => ?_⟩
    · simp only [↓vcPre, ↓wit_get, ↓reduceIte, vcPost, vcStd, Nat.reduceEqDiff, reduceCtorEq, Nat.reduceAdd, Nat.reduceLeDiff, Int.reduceLT, Int.reduceLE, ↓u_setN]
      exact nz fun e => g5 (by rw [e])
    by_cases g6 : p.hp = q.hp
    case neg =>
      rw [bneT g6]
      simp only [↓vcPre, ↓wit_get, ↓reduceIte, vcPost, vcStd, Nat.reduceEqDiff, reduceCtorEq, Nat.reduceAdd, Nat.reduceLeDiff, Int.reduceLT, Int.reduceLE, ↓u_setN]
      refine (c83 _).Q ?_
      simp only [↓vcPre, ↓wit_get, ↓reduceIte, vcPost, vcStd, Nat.reduceEqDiff, reduceCtorEq, Nat.reduceAdd, Nat.reduceLeDiff, Int.reduceLT, Int.reduceLE, ↓u_setN]
      exact nz fun e => g6 (by rw [e])
    rw [bneF g6]
    simp only [↓vcPre, ↓wit_get, ↓reduceIte, vcPost, vcStd, Nat.reduceEqDiff, reduceCtorEq, Nat.reduceAdd, Nat.reduceLeDiff, Int.reduceLT, Int.reduceLE, ↓u_setN]
    refine ⟨fun g7 => (c83 _).Q ?_, fun g7 => ?_⟩
    · simp only [↓vcPre, ↓wit_get, ↓reduceIte, vcPost, vcStd, Nat.reduceEqDiff, reduceCtorEq, Nat.reduceAdd, Nat.reduceLeDiff, Int.reduceLT, Int.reduceLE, ↓u_setN]
      exact nz fun e => g7 (by rw [e])
    by_cases g8 : p.atm = q.atm
    case neg =>
      rw [bneT g8]
      simp only [↓vcPre, ↓wit_get, ↓reduceIte, vcPost, vcStd, Nat.reduceEqDiff, reduceCtorEq, Nat.reduceAdd, Nat.reduceLeDiff, Int.reduceLT, Int.reduceLE, ↓u_setN]
      refine (c83 _).Q ?_
      simp only [↓vcPre, ↓wit_get, ↓reduceIte, vcPost, vcStd, Nat.reduceEqDiff, reduceCtorEq, Nat.reduceAdd, Nat.reduceLeDiff, Int.reduceLT, Int.reduceLE, ↓u_setN]
      exact nz fun e => g8 (by rw [e])
    rw [bneF g8]
    simp only [↓vcPre, ↓wit_get, ↓reduceIte, vcPost, vcStd, Nat.reduceEqDiff, reduceCtorEq, Nat.reduceAdd, Nat.reduceLeDiff, Int.reduceLT, Int.reduceLE, ↓u_setN]
    have hpc : p.cms.length ≤ 1000000 := hx.2.2
    have hqc : q.cms.length ≤ 1000000 := hy.2.2
    have fin : p.cms = q.cms → p = q := fun h => by
      have g2' := cmpPath_z.1 g2
      cases p; cases q; simp_all
    refine LoopQ.inv (S := Nat) (fun k => [(2, .ptr i 0), (3, .ptr j 0), (6, .int .i64 (k : Int))]) (fun _ => t) (fun k => k ≤ p.cms.length ∧ k ≤ q.cms.length ∧ p.cms.take k = q.cms.take k) (fun k => p.cms.length + 1 - k) 0 rfl (Store.sub_refl _) ⟨by omega, by omega, rfl⟩ ?_
    rintro k ⟨hk, hk2, htk⟩
    simp only [hti, htj, ↓vcPre, ↓wit_get, ↓reduceIte, vcPost, vcStd, Nat.reduceEqDiff, reduceCtorEq, Nat.reduceAdd, Nat.reduceLeDiff, Int.reduceLT, Int.reduceLE, ↓u_setN]
    have ek : IntKind.i64.wrap ((k : Int) + 1) = ((k + 1 : Nat) : Int) := by rw [wrap64 (by unfold I64; omega)]; omega
    have ends : (k = p.cms.length ∨ k = q.cms.length) → (p.cms.length : Int) = (q.cms.length : Int) → p = q := fun hkk hl => fin (by
      have h1 : p.cms.take k = p.cms := List.take_of_length_le (by omega)
      have h2 : q.cms.take k = q.cms := List.take_of_length_le (by omega)
      rw [← h1, ← h2]; exact htk)
    have cls : ∀ {E : Env}, (k = p.cms.length ∨ k = q.cms.length) → (p.cms.length : Int) = (q.cms.length : Int) → @EndQ ((4, .int .i64 0) :: E) t ⟨Tst.F55.slots, fun r s => s = σ ∧ ∃ n, r = .int .i64 n ∧ (n = 0 ↔ p = q)⟩ := fun {E} h1 h2 => EndQ.to σ _ rfl hts ⟨rfl, _, rfl, by simp [ends h1 h2]⟩
    refine ⟨fun c1 => ⟨fun c2 => ?_, fun c2 => ⟨fun h => (c83 _).Q ?_, fun h => cls (by omega) h⟩⟩, fun c1 => ⟨fun h => (c83 _).Q ?_, fun h => cls (by omega) h⟩⟩
    · refine ⟨c1, by simp [cU], ?_⟩
      simp only [cU, ↓vcPre, ↓wit_get, ↓reduceIte, vcPost, vcStd, Nat.reduceEqDiff, reduceCtorEq, Nat.reduceAdd, Nat.reduceLeDiff, Int.reduceLT, Int.reduceLE, ↓u_setN]
      refine ⟨c2, fun g9 => ⟨c1, c2, (c83 _).Q ?_⟩, fun g9 => ?_⟩
      · simp only [↓vcPre, ↓wit_get, ↓reduceIte, vcPost, vcStd, Nat.reduceEqDiff, reduceCtorEq, Nat.reduceAdd, Nat.reduceLeDiff, Int.reduceLT, Int.reduceLE, ↓u_setN]
        exact nz fun e => g9 (by subst e; rfl)
      · rw [ek]
        refine NextQ.to (k + 1) rfl (Store.sub_refl _) (by omega) ⟨by omega, by omega, take_succ_eq htk c1 c2 g9⟩
    · simp only [↓vcPre, ↓wit_get, ↓reduceIte, vcPost, vcStd, Nat.reduceEqDiff, reduceCtorEq, Nat.reduceAdd, Nat.reduceLeDiff, Int.reduceLT, Int.reduceLE, ↓u_setN]
      exact nz fun e => h (by rw [e])
    · simp only [↓vcPre, ↓wit_get, ↓reduceIte, vcPost, vcStd, Nat.reduceEqDiff, reduceCtorEq, Nat.reduceAdd, Nat.reduceLeDiff, Int.reduceLT, Int.reduceLE, ↓u_setN]
      exact nz fun e => h (by rw [e])
theorem c24 (a b : At) (ha : a.ok) (hb : b.ok) : Pur Try.prog 24 [.agg a.c, .agg b.c] (.bool (decide (canonA a = canonA b))) := by
  refine pur_of Tst.F24 (by simp [Tst.F24, Fn.mkX]) fun σ => ?_
  simp only [Tst.F24, Fn.mkX, Tst.b24]
  simp only [At.c, ↓vcPre, ↓wit_get, ↓reduceIte, vcPost, vcStd, Nat.reduceEqDiff, reduceCtorEq, Nat.reduceAdd, Nat.reduceLeDiff, Int.reduceLT, Int.reduceLE, ↓u_setN]
  refine AllocQ.i0 fun i hi => ?_
  simp only [At.c, ↓vcPre, ↓wit_get, ↓reduceIte, vcPost, vcStd, Nat.reduceEqDiff, reduceCtorEq, Nat.reduceAdd, Nat.reduceLeDiff, Int.reduceLT, Int.reduceLE, ↓u_setN]
  refine AllocQ.i1 fun j hj1 hj2 hj => ?_
  simp only [hj1, hj2, ↓vcPre, ↓wit_get, ↓reduceIte, vcPost, vcStd, Nat.reduceEqDiff, reduceCtorEq, Nat.reduceAdd, Nat.reduceLeDiff, Int.reduceLT, Int.reduceLE, ↓u_setN]
  refine (s55 a b ha hb _).Q ?_
  rintro r s ⟨rfl, n, rfl, hn⟩
  simp only [↓vcPre, ↓wit_get, ↓reduceIte, vcPost, vcStd, Nat.reduceEqDiff, reduceCtorEq, Nat.reduceAdd, Nat.reduceLeDiff, Int.reduceLT, Int.reduceLE, ↓u_setN]
  refine ⟨?_, sub_set2 hi hj hj1⟩
  rw [Bool.eq_iff_iff]; simp [hn]
end Go.Am
