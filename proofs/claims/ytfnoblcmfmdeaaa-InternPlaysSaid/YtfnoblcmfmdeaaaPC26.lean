/- A part of the proof: a logic for calls over plain values, and the functions that the law reaches, each walked once. -/
import Derived.Test.YtfnoblcmfmdeaaaPC25
set_option linter.unusedVariables false
set_option linter.unusedSimpArgs false
set_option linter.unusedSectionVars false

namespace Go.Am.Tst
open Go.Proofs
/-- signpost/signpostlaw11.InternPlays -/
def b3 : BC := .seq (.ops [⟨some 4, none, .pure (.mov), [.c (.bool false)]⟩] [0, 1]) (.seq (.ops [⟨some 9, none, .pure (.mov), [.t 0]⟩, ⟨some 10, none, .loud (.call 14), [.t 9, .c (.int .i64 0), .c (.int .i64 9)]⟩, ⟨some 11, none, .pure (.bin .add), [.c (.int .i64 1), .t 10]⟩, ⟨some 0, none, .pure (.mov), [.t 11]⟩] [0, 1]) (.seq (.ops [⟨some 13, none, .pure (.mov), [.t 0]⟩, ⟨some 14, none, .loud (.call 15), [.t 13]⟩, ⟨some 12, none, .pure (.mov), [.t 14]⟩, ⟨some 15, none, .pure (.ext 0), [.t 12]⟩, ⟨some 16, none, .pure (.ext 1), [.t 12]⟩, ⟨some 5, none, .pure (.mov), [.t 15]⟩, ⟨some 6, none, .pure (.mov), [.t 16]⟩] [0, 1, 5, 6]) (.seq (.ops [⟨some 17, none, .pure (.mov), [.t 0]⟩, ⟨some 18, none, .loud (.call 16), [.t 17]⟩, ⟨some 7, none, .pure (.mov), [.t 18]⟩] [1, 5, 6, 7]) (.seq (.seq (.ops [⟨some 19, none, .pure (.mov), [.t 5]⟩, ⟨some 20, none, .pure (.eqnil false true), [.t 19]⟩, ⟨some 21, none, .pure (.mov), [.t 20]⟩, ⟨some 22, some (21, false), .pure (.mov), [.t 6]⟩, ⟨some 23, some (21, false), .pure (.bin .neq), [.t 22, .c (.int .i64 0)]⟩, ⟨some 24, none, .pick, [.t 21, .c (.bool true), .t 23]⟩] [1, 5, 7, 24]) (.cond (.t 24) (.seq (.ops [⟨some 4, none, .pure (.mov), [.c (.bool false)]⟩] [4]) (.ret)) (.skip))) (.seq (.seq (.ops [⟨some 8, none, .pure (.mov), [.c (.int .i64 0)]⟩] [1, 5, 7, 8]) (.block 0 (.loop [1, 5, 7, 8] (.seq (.seq (.ops [⟨some 25, none, .pure (.mov), [.t 8]⟩, ⟨some 26, none, .pure (.mov), [.t 1]⟩, ⟨some 27, none, .pure (.len), [.t 26]⟩, ⟨some 28, none, .pure (.bin .lss), [.t 25, .t 27]⟩, ⟨some 29, none, .pure (.mov), [.t 28]⟩, ⟨some 30, some (29, true), .pure (.mov), [.t 8]⟩, ⟨some 31, some (29, true), .pure (.bin .lss), [.t 30, .c (.int .i64 60)]⟩, ⟨some 32, none, .pick, [.t 29, .t 31, .c (.bool false)]⟩] [1, 5, 7, 8, 32]) (.cond (.t 32) (.skip) (.exit 0))) (.seq (.block 1 (.seq (.ops [⟨some 35, none, .pure (.mov), [.t 5]⟩, ⟨some 36, none, .pure (.mov), [.t 7]⟩, ⟨some 37, none, .pure (.mov), [.t 1]⟩, ⟨some 38, none, .pure (.mov), [.t 8]⟩, ⟨some 39, none, .pure (.idx 12), [.t 37, .t 38]⟩, ⟨some 40, none, .load (.ld 12 true), [.t 39]⟩, ⟨some 41, none, .loud (.call 17), [.t 35, .t 36, .t 40]⟩, ⟨some 42, none, .pure (.not), [.t 41]⟩, ⟨some 43, none, .pure (.mov), [.t 42]⟩, ⟨some 44, some (43, false), .pure (.mov), [.t 5]⟩, ⟨some 45, some (43, false), .pure (.mov), [.t 7]⟩, ⟨some 46, some (43, false), .loud (.call 18), [.t 44, .t 45]⟩, ⟨some 47, some (43, false), .pure (.not), [.t 46]⟩, ⟨some 48, none, .pick, [.t 43, .c (.bool true), .t 47]⟩] [1, 5, 7, 8, 48]) (.cond (.t 48) (.seq (.ops [⟨some 4, none, .pure (.mov), [.c (.bool false)]⟩] [4]) (.ret)) (.skip)))) (.ops [⟨some 33, none, .pure (.mov), [.t 8]⟩, ⟨some 34, none, .pure (.bin .add), [.t 33, .c (.int .i64 1)]⟩, ⟨some 8, none, .pure (.mov), [.t 34]⟩] [1, 5, 7, 8])))))) (.seq (.ops [⟨some 49, none, .loud (.call 19), []⟩, ⟨some 4, none, .pure (.mov), [.t 49]⟩] [4]) (.ret)))))))
def F3 : Fn Try.prog 3 := Fn.mkX false b3 [.t 4] 50 Try.f3 _ Try.func3 (by decide) rfl Try.ntmps3 (by kernel_rfl) (by kernel_rfl)
/-- signpost/signpostref11.New -/
def b16 : BC := .seq (.ops [⟨some 2, none, .pure (.mov), [.c .nil]⟩] [0]) (.seq (.seq (.ops [⟨some 3, none, .pure (.mov), [.t 0]⟩] [0, 3]) (.seq (.ops [⟨some 5, none, .pure (.mov), [.t 0]⟩] [3, 5]) (.both (.seq (.ops [⟨some 4, none, .alloc (.make 9 [(.int .i64 0), .nils, (.int .u32 0), (.bool false), (.int .u32 0), (.bool false), (.int .u32 0), (.bool false), .nils] 80), [.t 3, .t 3]⟩] [4, 5]) (.seq (.ops [⟨some 6, none, .alloc (.make 1 [(.int .i64 0)] 8), [.t 5, .t 5]⟩] [4, 6]) (.seq (.ops [⟨some 7, none, .pure (.build [.nils, .nils] [(0, 1), (1, 1)]), [.t 4, .t 6]⟩] [7]) (.seq (.ops [⟨some 8, none, .alloc (.box), [.t 7]⟩] [8]) (.seq (.ops [⟨some 2, none, .pure (.mov), [.t 8]⟩] [2]) (.ops [] [2])))))) (.both (.seq (.ops [⟨some 6, none, .alloc (.make 1 [(.int .i64 0)] 8), [.t 5, .t 5]⟩] [3, 6]) (.seq (.ops [⟨some 4, none, .alloc (.make 9 [(.int .i64 0), .nils, (.int .u32 0), (.bool false), (.int .u32 0), (.bool false), (.int .u32 0), (.bool false), .nils] 80), [.t 3, .t 3]⟩] [4, 6]) (.seq (.ops [⟨some 7, none, .pure (.build [.nils, .nils] [(0, 1), (1, 1)]), [.t 4, .t 6]⟩] [7]) (.seq (.ops [⟨some 8, none, .alloc (.box), [.t 7]⟩] [8]) (.seq (.ops [⟨some 2, none, .pure (.mov), [.t 8]⟩] [2]) (.ops [] [2])))))) (.top))))) (.ret))
def F16 : Fn Try.prog 16 := Fn.mkX false b16 [.t 2] 9 Try.f16 _ Try.func16 (by decide) rfl Try.ntmps16 (by kernel_rfl) (by kernel_rfl)
/-- signpost/signpostlaw11.alike -/
def b18 : BC := .seq (.ops [⟨some 4, none, .pure (.mov), [.c (.bool false)]⟩] [0, 1]) (.seq (.seq (.ops [⟨some 5, none, .pure (.mov), [.c (.int .i64 (-1))]⟩] [0, 1, 5]) (.block 0 (.loop [0, 1, 5] (.seq (.seq (.ops [⟨some 9, none, .pure (.mov), [.t 5]⟩, ⟨some 10, none, .pure (.mov), [.t 1]⟩, ⟨some 11, none, .pure (.nilchk), [.t 10]⟩, ⟨some 12, none, .pure (.fld 1), [.t 11]⟩, ⟨some 13, none, .load (.ld 1 false), [.t 12]⟩, ⟨some 14, none, .pure (.len), [.t 13]⟩, ⟨some 15, none, .pure (.bin .leq), [.t 9, .t 14]⟩] [0, 1, 5, 15]) (.cond (.t 15) (.skip) (.exit 0))) (.seq (.block 1 (.seq (.ops [⟨some 19, none, .pure (.mov), [.t 0]⟩, ⟨some 20, none, .pure (.mov), [.t 5]⟩, ⟨some 21, none, .loud (.call 23), [.t 19, .t 20]⟩, ⟨some 18, none, .pure (.mov), [.t 21]⟩, ⟨some 22, none, .pure (.ext 0), [.t 18]⟩, ⟨some 23, none, .pure (.ext 1), [.t 18]⟩, ⟨some 6, none, .alloc (.alloc [(.int .i64 0), .nils, (.int .u32 0), (.bool false), (.int .u32 0), (.bool false), (.int .u32 0), (.bool false), .nils]), []⟩, ⟨none, none, .loud (.st 9), [.t 6, .t 22]⟩, ⟨some 7, none, .pure (.mov), [.t 23]⟩] [0, 1, 5, 6, 7]) (.seq (.ops [⟨some 24, none, .pure (.mov), [.t 1]⟩, ⟨some 25, none, .pure (.mov), [.t 5]⟩, ⟨some 26, none, .loud (.call 49), [.t 24, .t 25]⟩, ⟨some 8, none, .pure (.mov), [.t 26]⟩] [0, 1, 5, 6, 7, 8]) (.seq (.ops [⟨some 27, none, .pure (.mov), [.t 0]⟩, ⟨some 28, none, .pure (.mov), [.t 5]⟩, ⟨some 30, none, .pure (.mov), [.t 8]⟩, ⟨some 29, none, .loud (.call 26), [.t 27, .t 28]⟩, ⟨some 31, none, .pure (.bin .neq), [.t 29, .t 30]⟩, ⟨some 32, none, .pure (.mov), [.t 31]⟩, ⟨some 33, some (32, false), .pure (.mov), [.t 7]⟩, ⟨some 34, some (32, false), .pure (.mov), [.t 8]⟩, ⟨some 35, some (32, false), .pure (.bin .gtr), [.t 34, .c (.int .i64 0)]⟩, ⟨some 36, some (32, false), .pure (.eqb true), [.t 33, .t 35]⟩, ⟨some 37, none, .pick, [.t 32, .c (.bool true), .t 36]⟩, ⟨some 38, none, .pure (.mov), [.t 37]⟩, ⟨some 39, some (38, false), .pure (.mov), [.t 7]⟩, ⟨some 40, some (38, false), .pure (.mov), [.t 39]⟩, ⟨some 42, some (40, true), .pure (.mov), [.t 1]⟩, ⟨some 43, some (40, true), .pure (.nilchk), [.t 42]⟩, ⟨some 44, some (40, true), .pure (.fld 0), [.t 43]⟩, ⟨some 46, some (40, true), .pure (.mov), [.t 5]⟩, ⟨some 41, some (40, true), .load (.ld 9 true), [.t 6]⟩, ⟨some 45, some (40, true), .load (.ld 1 false), [.t 44]⟩, ⟨some 47, some (40, true), .pure (.idx 9), [.t 45, .t 46]⟩, ⟨some 48, some (40, true), .load (.ld 9 true), [.t 47]⟩, ⟨some 49, some (40, true), .loud (.call 25), [.t 41, .t 48]⟩, ⟨some 50, some (40, true), .pure (.not), [.t 49]⟩, ⟨some 51, some (38, false), .pick, [.t 40, .t 50, .c (.bool false)]⟩, ⟨some 52, none, .pick, [.t 38, .c (.bool true), .t 51]⟩] [0, 1, 5, 52]) (.cond (.t 52) (.seq (.ops [⟨some 4, none, .pure (.mov), [.c (.bool false)]⟩] [4]) (.ret)) (.skip)))))) (.ops [⟨some 16, none, .pure (.mov), [.t 5]⟩, ⟨some 17, none, .pure (.bin .add), [.t 16, .c (.int .i64 1)]⟩, ⟨some 5, none, .pure (.mov), [.t 17]⟩] [0, 1, 5])))))) (.seq (.ops [⟨some 53, none, .pure (.mov), [.t 0]⟩, ⟨some 54, none, .loud (.call 28), [.t 53]⟩, ⟨some 55, none, .pure (.mov), [.t 1]⟩, ⟨some 56, none, .loud (.call 50), [.t 55]⟩, ⟨some 57, none, .pure (.bin .eql), [.t 54, .t 56]⟩, ⟨some 4, none, .pure (.mov), [.t 57]⟩] [4]) (.ret)))
def F18 : Fn Try.prog 18 := Fn.mkX false b18 [.t 4] 58 Try.f18 _ Try.func18 (by decide) rfl Try.ntmps18 (by kernel_rfl) (by kernel_rfl)
/-- (*signpost/signpostref11.Table).Add -/
def b47 : BC := .seq (.ops [⟨some 3, none, .alloc (.box), [.t 1]⟩, ⟨some 4, none, .pure (.mov), [.c (.int .i64 0)]⟩, ⟨some 5, none, .pure (.mov), [.c (.int .i64 0)]⟩] [0, 3]) (.seq (.ops [⟨some 6, none, .pure (.mov), [.c (.int .i64 (-1))]⟩] [0, 3, 6]) (.seq (.seq (.ops [⟨some 9, none, .pure (.mov), [.t 0]⟩, ⟨some 10, none, .pure (.nilchk), [.t 9]⟩, ⟨some 11, none, .pure (.fld 1), [.t 10]⟩, ⟨some 12, none, .load (.ld 1 false), [.t 11]⟩, ⟨some 13, none, .pure (.len), [.t 12]⟩, ⟨some 14, none, .pure (.bin .sub), [.t 13, .c (.int .i64 1)]⟩, ⟨some 7, none, .pure (.mov), [.t 14]⟩] [0, 3, 6, 7]) (.block 0 (.loop [0, 3, 6, 7] (.seq (.seq (.ops [⟨some 15, none, .pure (.mov), [.t 7]⟩, ⟨some 16, none, .pure (.bin .geq), [.t 15, .c (.int .i64 0)]⟩] [0, 3, 6, 7, 16]) (.cond (.t 16) (.skip) (.exit 0))) (.seq (.block 1 (.seq (.ops [⟨some 19, none, .pure (.mov), [.t 0]⟩, ⟨some 20, none, .pure (.nilchk), [.t 19]⟩, ⟨some 21, none, .pure (.fld 1), [.t 20]⟩, ⟨some 22, none, .load (.ld 1 false), [.t 21]⟩, ⟨some 23, none, .pure (.mov), [.t 7]⟩, ⟨some 24, none, .pure (.idx 1), [.t 22, .t 23]⟩, ⟨some 25, none, .load (.ld 1 false), [.t 24]⟩, ⟨some 26, none, .pure (.bin .eql), [.t 25, .c (.int .i64 0)]⟩] [0, 3, 6, 7, 26]) (.cond (.t 26) (.ops [⟨some 27, none, .pure (.mov), [.t 7]⟩, ⟨some 6, none, .pure (.mov), [.t 27]⟩] [0, 3, 6, 7]) (.skip)))) (.ops [⟨some 17, none, .pure (.mov), [.t 7]⟩, ⟨some 18, none, .pure (.bin .sub), [.t 17, .c (.int .i64 1)]⟩, ⟨some 7, none, .pure (.mov), [.t 18]⟩] [0, 3, 6, 7])))))) (.seq (.seq (.ops [⟨some 8, none, .pure (.mov), [.c (.int .i64 0)]⟩] [0, 3, 6, 8]) (.block 2 (.loop [0, 3, 6, 8] (.seq (.seq (.ops [⟨some 28, none, .pure (.mov), [.t 8]⟩, ⟨some 29, none, .pure (.mov), [.t 0]⟩, ⟨some 30, none, .pure (.nilchk), [.t 29]⟩, ⟨some 31, none, .pure (.fld 1), [.t 30]⟩, ⟨some 32, none, .load (.ld 1 false), [.t 31]⟩, ⟨some 33, none, .pure (.len), [.t 32]⟩, ⟨some 34, none, .pure (.bin .lss), [.t 28, .t 33]⟩] [0, 3, 6, 8, 34]) (.cond (.t 34) (.skip) (.exit 2))) (.seq (.block 3 (.seq (.ops [⟨some 37, none, .pure (.mov), [.t 0]⟩, ⟨some 38, none, .pure (.nilchk), [.t 37]⟩, ⟨some 39, none, .pure (.fld 1), [.t 38]⟩, ⟨some 41, none, .pure (.mov), [.t 8]⟩, ⟨some 40, none, .load (.ld 1 false), [.t 39]⟩, ⟨some 42, none, .pure (.idx 1), [.t 40, .t 41]⟩, ⟨some 43, none, .load (.ld 1 false), [.t 42]⟩, ⟨some 44, none, .pure (.bin .gtr), [.t 43, .c (.int .i64 0)]⟩, ⟨some 45, none, .pure (.mov), [.t 44]⟩, ⟨some 46, some (45, true), .pure (.mov), [.t 0]⟩, ⟨some 47, some (45, true), .pure (.nilchk), [.t 46]⟩, ⟨some 48, some (45, true), .pure (.fld 0), [.t 47]⟩, ⟨some 50, some (45, true), .pure (.mov), [.t 8]⟩, ⟨some 49, some (45, true), .load (.ld 1 false), [.t 48]⟩, ⟨some 51, some (45, true), .pure (.idx 9), [.t 49, .t 50]⟩, ⟨some 52, some (45, true), .load (.ld 9 true), [.t 51]⟩, ⟨some 53, some (45, true), .load (.ld 9 true), [.t 3]⟩, ⟨some 54, some (45, true), .loud (.call 24), [.t 52, .t 53]⟩, ⟨some 55, none, .pick, [.t 45, .t 54, .c (.bool false)]⟩] [0, 3, 6, 8, 55]) (.cond (.t 55) (.seq (.ops [⟨some 56, none, .pure (.mov), [.t 0]⟩, ⟨some 57, none, .pure (.nilchk), [.t 56]⟩, ⟨some 58, none, .pure (.fld 1), [.t 57]⟩, ⟨some 59, none, .load (.ld 1 false), [.t 58]⟩, ⟨some 60, none, .pure (.mov), [.t 8]⟩, ⟨some 61, none, .pure (.idx 1), [.t 59, .t 60]⟩, ⟨some 62, none, .load (.ld 1 false), [.t 61]⟩, ⟨some 63, none, .pure (.bin .add), [.t 62, .c (.int .i64 1)]⟩, ⟨some 64, none, .pure (.idx 1), [.t 59, .t 60]⟩, ⟨none, none, .loud (.st 1), [.t 64, .t 63]⟩] [8]) (.seq (.ops [⟨some 65, none, .pure (.mov), [.t 8]⟩, ⟨some 4, none, .pure (.mov), [.t 65]⟩, ⟨some 5, none, .pure (.mov), [.c (.int .i64 0)]⟩] [4, 5]) (.ret))) (.skip)))) (.ops [⟨some 35, none, .pure (.mov), [.t 8]⟩, ⟨some 36, none, .pure (.bin .add), [.t 35, .c (.int .i64 1)]⟩, ⟨some 8, none, .pure (.mov), [.t 36]⟩] [0, 3, 6, 8])))))) (.seq (.seq (.ops [⟨some 66, none, .pure (.mov), [.t 6]⟩, ⟨some 67, none, .pure (.bin .lss), [.t 66, .c (.int .i64 0)]⟩] [0, 3, 6, 67]) (.cond (.t 67) (.seq (.ops [⟨some 4, none, .pure (.mov), [.c (.int .i64 0)]⟩, ⟨some 5, none, .pure (.mov), [.c (.int .i64 13)]⟩] [4, 5]) (.ret)) (.skip))) (.seq (.ops [⟨some 68, none, .pure (.mov), [.t 0]⟩, ⟨some 69, none, .pure (.nilchk), [.t 68]⟩, ⟨some 70, none, .pure (.fld 0), [.t 69]⟩, ⟨some 72, none, .pure (.mov), [.t 6]⟩, ⟨some 71, none, .load (.ld 1 false), [.t 70]⟩, ⟨some 73, none, .load (.ld 9 true), [.t 3]⟩, ⟨some 74, none, .qcall 20, [.t 73]⟩, ⟨some 75, none, .pure (.idx 9), [.t 71, .t 72]⟩, ⟨none, none, .loud (.st 9), [.t 75, .t 74]⟩] [0, 6]) (.seq (.ops [⟨some 76, none, .pure (.mov), [.t 0]⟩, ⟨some 77, none, .pure (.nilchk), [.t 76]⟩, ⟨some 78, none, .pure (.fld 1), [.t 77]⟩, ⟨some 79, none, .load (.ld 1 false), [.t 78]⟩, ⟨some 80, none, .pure (.mov), [.t 6]⟩, ⟨some 81, none, .pure (.idx 1), [.t 79, .t 80]⟩, ⟨none, none, .loud (.st 1), [.t 81, .c (.int .i64 1)]⟩] [6]) (.seq (.ops [⟨some 82, none, .pure (.mov), [.t 6]⟩, ⟨some 4, none, .pure (.mov), [.t 82]⟩, ⟨some 5, none, .pure (.mov), [.c (.int .i64 0)]⟩] [4, 5]) (.ret))))))))
def F47 : Fn Try.prog 47 := Fn.mkX false b47 [.t 4, .t 5] 83 Try.f47 _ Try.func47 (by decide) rfl Try.ntmps47 (by kernel_rfl) (by kernel_rfl)
/-- (*signpost/signpostref11.Table).Drop -/
def b48 : BC := .seq (.ops [⟨some 4, none, .pure (.mov), [.c (.int .i64 0)]⟩] [0, 1]) (.seq (.seq (.ops [⟨some 5, none, .pure (.mov), [.t 0]⟩, ⟨some 6, none, .pure (.mov), [.t 1]⟩, ⟨some 7, none, .loud (.call 49), [.t 5, .t 6]⟩, ⟨some 8, none, .pure (.bin .eql), [.t 7, .c (.int .i64 0)]⟩] [0, 1, 8]) (.cond (.t 8) (.seq (.ops [⟨some 4, none, .pure (.mov), [.c (.int .i64 22)]⟩] [4]) (.ret)) (.skip))) (.seq (.ops [⟨some 9, none, .pure (.mov), [.t 0]⟩, ⟨some 10, none, .pure (.nilchk), [.t 9]⟩, ⟨some 11, none, .pure (.fld 1), [.t 10]⟩, ⟨some 12, none, .load (.ld 1 false), [.t 11]⟩, ⟨some 13, none, .pure (.mov), [.t 1]⟩, ⟨some 14, none, .pure (.idx 1), [.t 12, .t 13]⟩, ⟨some 15, none, .load (.ld 1 false), [.t 14]⟩, ⟨some 16, none, .pure (.bin .sub), [.t 15, .c (.int .i64 1)]⟩, ⟨some 17, none, .pure (.idx 1), [.t 12, .t 13]⟩, ⟨none, none, .loud (.st 1), [.t 17, .t 16]⟩] []) (.seq (.ops [⟨some 4, none, .pure (.mov), [.c (.int .i64 0)]⟩] [4]) (.ret))))
def F48 : Fn Try.prog 48 := Fn.mkX false b48 [.t 4] 18 Try.f48 _ Try.func48 (by decide) rfl Try.ntmps48 (by kernel_rfl) (by kernel_rfl)
/-- (*signpost/signpostref11.Table).Uses -/
def b49 : BC := .seq (.ops [⟨some 4, none, .pure (.mov), [.c (.int .i64 0)]⟩] [0, 1]) (.seq (.seq (.ops [⟨some 5, none, .pure (.mov), [.t 1]⟩, ⟨some 6, none, .pure (.bin .lss), [.t 5, .c (.int .i64 0)]⟩, ⟨some 7, none, .pure (.mov), [.t 6]⟩, ⟨some 8, some (7, false), .pure (.mov), [.t 1]⟩, ⟨some 9, some (7, false), .pure (.mov), [.t 0]⟩, ⟨some 10, some (7, false), .pure (.nilchk), [.t 9]⟩, ⟨some 11, some (7, false), .pure (.fld 1), [.t 10]⟩, ⟨some 12, some (7, false), .load (.ld 1 false), [.t 11]⟩, ⟨some 13, some (7, false), .pure (.len), [.t 12]⟩, ⟨some 14, some (7, false), .pure (.bin .geq), [.t 8, .t 13]⟩, ⟨some 15, none, .pick, [.t 7, .c (.bool true), .t 14]⟩] [0, 1, 15]) (.cond (.t 15) (.seq (.ops [⟨some 4, none, .pure (.mov), [.c (.int .i64 0)]⟩] [4]) (.ret)) (.skip))) (.seq (.ops [⟨some 16, none, .pure (.mov), [.t 0]⟩, ⟨some 17, none, .pure (.nilchk), [.t 16]⟩, ⟨some 18, none, .pure (.fld 1), [.t 17]⟩, ⟨some 19, none, .load (.ld 1 false), [.t 18]⟩, ⟨some 20, none, .pure (.mov), [.t 1]⟩, ⟨some 21, none, .pure (.idx 1), [.t 19, .t 20]⟩, ⟨some 22, none, .load (.ld 1 false), [.t 21]⟩, ⟨some 4, none, .pure (.mov), [.t 22]⟩] [4]) (.ret)))
def F49 : Fn Try.prog 49 := Fn.mkX false b49 [.t 4] 23 Try.f49 _ Try.func49 (by decide) rfl Try.ntmps49 (by kernel_rfl) (by kernel_rfl)
/-- (*signpost/signpostref11.Table).Len -/
def b50 : BC := .seq (.ops [⟨some 2, none, .pure (.mov), [.c (.int .i64 0)]⟩] [0]) (.seq (.ops [⟨some 3, none, .pure (.mov), [.c (.int .i64 0)]⟩] [0, 3]) (.seq (.seq (.ops [⟨some 4, none, .pure (.mov), [.c (.int .i64 0)]⟩] [0, 3, 4]) (.block 0 (.loop [0, 3, 4] (.seq (.seq (.ops [⟨some 5, none, .pure (.mov), [.t 4]⟩, ⟨some 6, none, .pure (.mov), [.t 0]⟩, ⟨some 7, none, .pure (.nilchk), [.t 6]⟩, ⟨some 8, none, .pure (.fld 1), [.t 7]⟩, ⟨some 9, none, .load (.ld 1 false), [.t 8]⟩, ⟨some 10, none, .pure (.len), [.t 9]⟩, ⟨some 11, none, .pure (.bin .lss), [.t 5, .t 10]⟩] [0, 3, 4, 11]) (.cond (.t 11) (.skip) (.exit 0))) (.seq (.block 1 (.seq (.ops [⟨some 14, none, .pure (.mov), [.t 0]⟩, ⟨some 15, none, .pure (.nilchk), [.t 14]⟩, ⟨some 16, none, .pure (.fld 1), [.t 15]⟩, ⟨some 17, none, .load (.ld 1 false), [.t 16]⟩, ⟨some 18, none, .pure (.mov), [.t 4]⟩, ⟨some 19, none, .pure (.idx 1), [.t 17, .t 18]⟩, ⟨some 20, none, .load (.ld 1 false), [.t 19]⟩, ⟨some 21, none, .pure (.bin .gtr), [.t 20, .c (.int .i64 0)]⟩] [0, 3, 4, 21]) (.cond (.t 21) (.ops [⟨some 22, none, .pure (.mov), [.t 3]⟩, ⟨some 23, none, .pure (.bin .add), [.t 22, .c (.int .i64 1)]⟩, ⟨some 3, none, .pure (.mov), [.t 23]⟩] [0, 3, 4]) (.skip)))) (.ops [⟨some 12, none, .pure (.mov), [.t 4]⟩, ⟨some 13, none, .pure (.bin .add), [.t 12, .c (.int .i64 1)]⟩, ⟨some 4, none, .pure (.mov), [.t 13]⟩] [0, 3, 4])))))) (.seq (.ops [⟨some 24, none, .pure (.mov), [.t 3]⟩, ⟨some 2, none, .pure (.mov), [.t 24]⟩] [2]) (.ret))))
def F50 : Fn Try.prog 50 := Fn.mkX false b50 [.t 2] 25 Try.f50 _ Try.func50 (by decide) rfl Try.ntmps50 (by kernel_rfl) (by kernel_rfl)
end Go.Am.Tst

/- DI -/
namespace Go.Am
open Go.Proofs Go.Sort
/-- The document's table, as it lies. -/
def RI (τ : Store) (id : Nat) (rows : List (List AV)) (ns : List Int) (s : Store) : Prop :=
  τ id = none ∧ Store.sub τ s ∧ rows.length = ns.length ∧ (∀ r ∈ rows, r.length = 9) ∧ (∀ n ∈ ns, 0 ≤ n) ∧ ∃ gA gN, s id = some (.box [.os gA 9 0 ns.length, .os gN 1 0 ns.length]) ∧ τ gA = none ∧ τ gN = none ∧ s gA = some (.arr 9 rows) ∧ s gN = some (.arr 1 (ns.map cI))
theorem RI.setN {τ : Store} {id : Nat} {rows : List (List AV)} {ns : List Int} {s : Store} {gA gN : Nat} (h1 : τ id = none) (h2 : Store.sub τ s) (h3 : rows.length = ns.length) (h4 : ∀ r ∈ rows, r.length = 9) (h5 : ∀ n ∈ ns, 0 ≤ n)
    (h6 : s id = some (.box [.os gA 9 0 ns.length, .os gN 1 0 ns.length])) (h7 : τ gA = none) (h8 : τ gN = none) (h9 : s gA = some (.arr 9 rows)) (h10 : s gN = some (.arr 1 (ns.map cI))) (i : Nat) (v : Int) (hv : 0 ≤ v) :
    RI τ id rows (ns.set i v) (s.set gN (.arr 1 ((ns.map cI).set i [.int .i64 v]))) := by
  have e1 : ¬ id = gN := fun e => by rw [e, h10] at h6; cases h6
  have e2 : ¬ gA = gN := fun e => by
    rw [e, h10] at h9
    have := Option.some.inj h9
    injection this with q
    cases q
  refine ⟨h1, sub_upd' h2 h8, by simpa using h3, h4, fun n hn => ?_, gA, gN, ?_, h7, h8, ?_, ?_⟩
  · rcases List.mem_or_eq_of_mem_set hn with h | rfl
    · exact h5 n h
    · exact hv
  · rw [Store.set_ne _ _ e1, List.length_set]; exact h6
  · rw [Store.set_ne _ _ e2]; exact h9
  · rw [Store.set_same, List.map_set]; rfl
def nsAt (ns : List Int) (k : Int) : Int := if 0 ≤ k then (ns[k.toNat]?).getD 0 else 0
theorem s49 {τ s : Store} {id : Nat} {rows : List (List AV)} {ns : List Int} (h : RI τ id rows ns s) (hn : ns.length ≤ 1000000) (k : Int) : ACalls Try.prog 49 [.ptr id 0, .int .i64 k] s (fun r s' => s' = s ∧ r = .int .i64 (nsAt ns k)) := by
  obtain ⟨h1, h2, h3, h4, h5, gA, gN, h6, h7, h8, h9, h10⟩ := h
  refine calls_of Tst.F49 (by simp [Tst.F49, Fn.mkX]) ?_
  simp only [Tst.F49, Fn.mkX, Tst.b49]
  simp only [h6, h10, ↓vcPre, ↓wit_get, ↓reduceIte, vcPost, vcStd, Nat.reduceEqDiff, reduceCtorEq, Nat.reduceAdd, Nat.reduceLeDiff, Int.reduceLT, Int.reduceLE, ↓u_setN]
  refine ⟨fun c1 => ⟨fun c2 => EndQ.to _ _ rfl (Store.sub_refl _) ⟨rfl, by unfold nsAt; rw [if_pos (by omega), List.getElem?_eq_none (by omega)]; rfl⟩, fun c2 => ?_⟩, fun c1 => EndQ.to _ _ rfl (Store.sub_refl _) ⟨rfl, by unfold nsAt; rw [if_neg (by omega)]⟩⟩
  have hkl : k.toNat < ns.length := by omega
  simp only [Nat.zero_add]
  refine ⟨by omega, hkl, by simp [cI], ?_⟩
  simp only [cI, ↓vcPre, ↓wit_get, ↓reduceIte, vcPost, vcStd, Nat.reduceEqDiff, reduceCtorEq, Nat.reduceAdd, Nat.reduceLeDiff, Int.reduceLT, Int.reduceLE, ↓u_setN]
  exact EndQ.to _ _ rfl (Store.sub_refl _) ⟨rfl, by unfold nsAt; rw [if_pos (by omega), List.getElem?_eq_getElem hkl]; rfl⟩
theorem s48 {τ s : Store} {id : Nat} {rows : List (List AV)} {ns : List Int} (h : RI τ id rows ns s) (hn : ns.length ≤ 1000000) (hb : ∀ n ∈ ns, n ≤ 1000000) (k : Int) : ACalls Try.prog 48 [.ptr id 0, .int .i64 k] s (fun r s' => r = .int .i64 (if nsAt ns k = 0 then 22 else 0) ∧ RI τ id rows (if nsAt ns k = 0 then ns else ns.set k.toNat (nsAt ns k - 1)) s') := by
  refine calls_of Tst.F48 (by simp [Tst.F48, Fn.mkX]) ?_
  simp only [Tst.F48, Fn.mkX, Tst.b48]
  simp only [↓vcPre, ↓wit_get, ↓reduceIte, vcPost, vcStd, Nat.reduceEqDiff, reduceCtorEq, Nat.reduceAdd, Nat.reduceLeDiff, Int.reduceLT, Int.reduceLE, ↓u_setN]
  refine (s49 h hn k).Q ?_
  rintro r s' ⟨rfl, rfl⟩
  have hh := h
  obtain ⟨h1, h2, h3, h4, h5, gA, gN, h6, h7, h8, h9, h10⟩ := h
  simp only [h6, h10, ↓vcPre, ↓wit_get, ↓reduceIte, vcPost, vcStd, Nat.reduceEqDiff, reduceCtorEq, Nat.reduceAdd, Nat.reduceLeDiff, Int.reduceLT, Int.reduceLE, ↓u_setN]
  refine ⟨fun c1 => EndQ.to _ _ rfl (Store.sub_refl _) ⟨by rw [if_pos c1], by rw [if_pos c1]; exact hh⟩, fun c1 => ?_⟩
  obtain ⟨k0, hkl⟩ : 0 ≤ k ∧ k.toNat < ns.length := by
    unfold nsAt at c1
    by_cases k0 : 0 ≤ k
    · rw [if_pos k0] at c1
      by_cases hkl : k.toNat < ns.length
      · exact ⟨k0, hkl⟩
      · rw [List.getElem?_eq_none (by omega)] at c1; simp at c1
    · rw [if_neg k0] at c1; simp at c1
  have hg : nsAt ns k = ns[k.toNat] := by unfold nsAt; rw [if_pos k0, List.getElem?_eq_getElem hkl]; rfl
  simp only [Nat.zero_add]
  refine ⟨by omega, hkl, by simp [cI], ?_⟩
  simp only [cI, ↓vcPre, ↓wit_get, ↓reduceIte, vcPost, vcStd, Nat.reduceEqDiff, reduceCtorEq, Nat.reduceAdd, Nat.reduceLeDiff, Int.reduceLT, Int.reduceLE, ↓u_setN]
  have hk0 := h5 _ (List.getElem_mem hkl)
  have hkb := hb _ (List.getElem_mem hkl)
  have hw : IntKind.i64.wrap (ns[k.toNat] - 1) = ns[k.toNat] - 1 := wrap64 (by unfold I64; omega)
  have hz : ¬ ns[k.toNat] = 0 := by rw [← hg]; exact c1
  refine ⟨by omega, hkl, ?_⟩
  rw [hw]
  refine EndQ.to _ _ rfl (Store.sub_refl _) ⟨by rw [if_neg c1], ?_⟩
  rw [if_neg c1, hg]
  refine RI.setN h1 h2 h3 h4 h5 h6 h7 h8 h9 h10 k.toNat (ns[k.toNat] - 1) (by omega)
end Go.Am

/- DJ -/
namespace Go.Am
open Go.Proofs Go.Sort
def posN (ns : List Int) : Nat := (ns.filter fun n => decide (0 < n)).length
theorem s50 {τ s : Store} {id : Nat} {rows : List (List AV)} {ns : List Int} (h : RI τ id rows ns s) (hn : ns.length ≤ 1000000) : ACalls Try.prog 50 [.ptr id 0] s (fun r s' => s' = s ∧ r = .int .i64 (posN ns : Int)) := by
  obtain ⟨h1, h2, h3, h4, h5, gA, gN, h6, h7, h8, h9, h10⟩ := h
  refine calls_of Tst.F50 (by simp [Tst.F50, Fn.mkX]) ?_
  simp only [Tst.F50, Fn.mkX, Tst.b50]
  simp only [↓vcPre, ↓wit_get, ↓reduceIte, vcPost, vcStd, Nat.reduceEqDiff, reduceCtorEq, Nat.reduceAdd, Nat.reduceLeDiff, Int.reduceLT, Int.reduceLE, ↓u_setN]
  refine LoopQ.inv (S := Nat) (fun k => [(0, .ptr id 0), (3, .int .i64 (posN (ns.take k) : Int)), (4, .int .i64 (k : Int))]) (fun _ => s) (fun k => k ≤ ns.length) (fun k => ns.length + 1 - k) 0 rfl (Store.sub_refl _) (by omega) ?_
  intro k hk
  simp only [h6, h10, ↓vcPre, ↓wit_get, ↓reduceIte, vcPost, vcStd, Nat.reduceEqDiff, reduceCtorEq, Nat.reduceAdd, Nat.reduceLeDiff, Int.reduceLT, Int.reduceLE, ↓u_setN]
  have hp : posN (ns.take k) ≤ k := by
    unfold posN
    have := List.length_filter_le (fun n => decide (0 < n)) (ns.take k)
    simp at this ⊢; omega
  refine ⟨fun c1 => ?_, fun c1 => ?_⟩
  · have ek : IntKind.i64.wrap ((k : Int) + 1) = ((k + 1 : Nat) : Int) := by rw [wrap64 (by unfold I64; omega)]; omega
    have hnx : posN (ns.take (k + 1)) = posN (ns.take k) + (if 0 < ns[k] then 1 else 0) := by
      unfold posN
      rw [List.take_add_one, List.getElem?_eq_getElem c1, List.filter_append, List.length_append]
      congr 1
      simp only [Option.toList_some, List.filter_cons, List.filter_nil, decide_eq_true_eq]
      split <;> rfl
    simp only [Nat.zero_add]
    refine ⟨c1, c1, by simp [cI], ?_⟩
    simp only [cI, ↓vcPre, ↓wit_get, ↓reduceIte, vcPost, vcStd, Nat.reduceEqDiff, reduceCtorEq, Nat.reduceAdd, Nat.reduceLeDiff, Int.reduceLT, Int.reduceLE, ↓u_setN]
    rw [ek]
    refine ⟨fun g1 => ?_, fun g1 => ?_⟩
    · have ep : IntKind.i64.wrap ((posN (ns.take k) : Int) + 1) = ((posN (ns.take (k + 1)) : Nat) : Int) := by rw [hnx, if_pos g1, wrap64 (by unfold I64; omega)]; omega
      rw [ep]
      exact NextQ.to (k + 1) rfl (Store.sub_refl _) (by omega) (by omega)
    · refine NextQ.to (k + 1) ?_ (Store.sub_refl _) (by omega) (by omega)
      rw [hnx, if_neg g1]; rfl
  · have e : ns.take k = ns := List.take_of_length_le (by omega)
    exact EndQ.to _ _ rfl (Store.sub_refl _) ⟨rfl, by rw [e]⟩
end Go.Am

/- DK -/
namespace Go.Am
open Go.Proofs Go.Sort
theorem s16 (R : Nat) (h1 : 1 ≤ R) (hR : R ≤ 10000) (σ : Store) : ACalls Try.prog 16 [.int .i64 (R : Int)] σ (fun r s => ∃ id, r = .ptr id 0 ∧ RI σ id (List.replicate R zCells) (List.replicate R 0) s) := by
  refine calls_of Tst.F16 (by simp [Tst.F16, Fn.mkX]) ?_
  simp only [Tst.F16, Fn.mkX, Tst.b16]
  simp only [↓vcPre, ↓wit_get, ↓reduceIte, vcPost, vcStd, Nat.reduceEqDiff, reduceCtorEq, Nat.reduceAdd, Nat.reduceLeDiff, Int.reduceLT, Int.reduceLE, ↓u_setN]
  have fin : ∀ (t : Store) (gA gN q : Nat), Store.sub σ t → σ gA = none → σ gN = none → t gA = some (.arr 9 (List.replicate R zCells)) → t gN = some (.arr 1 (List.replicate R (cI 0))) → t q = none → RI σ q (List.replicate R zCells) (List.replicate R 0) (t.set q (.box [.os gA 9 0 R, .os gN 1 0 R])) := by
    intro t gA gN q k1 k2 k3 k4 k5 k6
    have e1 : ¬ gA = q := fun e => by rw [e, k6] at k4; cases k4
    have e2 : ¬ gN = q := fun e => by rw [e, k6] at k5; cases k5
    refine ⟨sub_none k1 k6, Store.sub_trans k1 (Store.sub_set _ _ _ k6), by simp, fun r hr => ?_, fun n hn => ?_, gA, gN, ?_, k2, k3, ?_, ?_⟩
    · rw [(List.mem_replicate.1 hr).2]; rfl
    · rw [(List.mem_replicate.1 hn).2]; omega
    · rw [Store.set_same]; simp
    · rw [Store.set_ne _ _ e1]; exact k4
    · rw [Store.set_ne _ _ e2]; simpa using k5
  have hR1 : (R : Int) ≤ 9223372036854775807 ∧ (R : Int) * ((80 : Nat) : Int) ≤ 281474976710656 := by omega
  have hR2 : (R : Int) ≤ 9223372036854775807 ∧ (R : Int) * ((8 : Nat) : Int) ≤ 281474976710656 := by omega
  refine ⟨⟨hR1, AllocQ.i0 fun i hi => ?_⟩, hR2, AllocQ.i0 fun i hi => ?_⟩
  · simp only [↓vcPre, ↓wit_get, ↓reduceIte, vcPost, vcStd, Nat.reduceEqDiff, reduceCtorEq, Nat.reduceAdd, Nat.reduceLeDiff, Int.reduceLT, Int.reduceLE, ↓u_setN]
    refine ⟨hR2, AllocQ.i1 fun j hj1 hj2 hj => ?_⟩
    simp only [↓vcPre, ↓wit_get, ↓reduceIte, vcPost, vcStd, Nat.reduceEqDiff, reduceCtorEq, Nat.reduceAdd, Nat.reduceLeDiff, Int.reduceLT, Int.reduceLE, ↓u_setN]
    refine AllocQ.i0 fun q hq => ?_
    simp only [↓vcPre, ↓wit_get, ↓reduceIte, vcPost, vcStd, Nat.reduceEqDiff, reduceCtorEq, Nat.reduceAdd, Nat.reduceLeDiff, Int.reduceLT, Int.reduceLE, ↓u_setN]
    exact EndQ.to _ _ rfl (Store.sub_refl _) ⟨q, rfl, fin _ i j q (sub_set2 hi hj hj1) hi hj (by rw [Store.set_ne _ _ hj2, Store.set_same]; rfl) (by rw [Store.set_same]; rfl) hq⟩
  · simp only [↓vcPre, ↓wit_get, ↓reduceIte, vcPost, vcStd, Nat.reduceEqDiff, reduceCtorEq, Nat.reduceAdd, Nat.reduceLeDiff, Int.reduceLT, Int.reduceLE, ↓u_setN]
    refine ⟨hR1, AllocQ.i1 fun j hj1 hj2 hj => ?_⟩
    simp only [↓vcPre, ↓wit_get, ↓reduceIte, vcPost, vcStd, Nat.reduceEqDiff, reduceCtorEq, Nat.reduceAdd, Nat.reduceLeDiff, Int.reduceLT, Int.reduceLE, ↓u_setN]
    refine AllocQ.i0 fun q hq => ?_
    simp only [↓vcPre, ↓wit_get, ↓reduceIte, vcPost, vcStd, Nat.reduceEqDiff, reduceCtorEq, Nat.reduceAdd, Nat.reduceLeDiff, Int.reduceLT, Int.reduceLE, ↓u_setN]
    exact EndQ.to _ _ rfl (Store.sub_refl _) ⟨q, rfl, fin _ j i q (sub_set2 hi hj hj1) hj hi (by rw [Store.set_same]; rfl) (by rw [Store.set_ne _ _ hj2, Store.set_same]; rfl) hq⟩
end Go.Am

/- E1 -/
namespace Go.Am
open Go.Proofs Go.Sort

theorem getA_of {ks : List KS} {i : Nat} (h : i < ks.length) {a : At} {u : Int} (hc : ks[i] = .used a u) : getA ks i = canonA a := by
  unfold getA
  rw [if_pos (by omega), Int.toNat_natCast, List.getElem?_eq_getElem h, hc]
theorem uses_of {ks : List KS} {i : Nat} (h : i < ks.length) : usesAt ks i = ks[i].n := by
  rw [usesAt_of (by omega) (by simpa using h)]; simp
theorem uses_big {ks : List KS} {i : Nat} (h : ks.length ≤ i) : usesAt ks i = 0 := usesAt_out (by omega)
theorem usedOf {B : Int} {ks : List KS} (hok : ∀ k ∈ ks, k.ok B) {i : Nat} (h : 0 < usesAt ks i) : ∃ hi : i < ks.length, ∃ a u, ks[i] = .used a u ∧ usesAt ks i = u ∧ getA ks i = canonA a ∧ a.ok := by
  by_cases hi : i < ks.length
  · rw [uses_of hi] at h
    have hk := hok _ (List.getElem_mem hi)
    cases hc : ks[i] with
    | free z => rw [hc] at h; simp [KS.n] at h
    | used a u => rw [hc] at hk; exact ⟨hi, a, u, hc, by rw [uses_of hi, hc]; rfl, getA_of hi hc, hk.1⟩
  · rw [uses_big (by omega)] at h; omega
theorem uses_set {ks : List KS} {i : Nat} (hi : i < ks.length) (x : KS) (j : Nat) : usesAt (ks.set i x) j = if j = i then x.n else usesAt ks j := by
  by_cases hj : j < ks.length
  · rw [uses_of (by simpa using hj), uses_of hj, List.getElem_set]
    by_cases e : j = i
    · subst e; simp
    · rw [if_neg e, if_neg (fun h => e h.symm)]
  · rw [uses_big (by simp; omega), uses_big (by omega), if_neg (by omega)]
theorem getA_set {ks : List KS} {i : Nat} (hi : i < ks.length) (a : At) (u : Int) (j : Nat) : getA (ks.set i (.used a u)) j = if j = i then canonA a else getA ks j := by
  by_cases e : j = i
  · subst e
    rw [if_pos rfl]
    exact getA_of (u := u) (by simpa using hi) (by simp)
  · rw [if_neg e]
    unfold getA
    rw [if_pos (by omega), if_pos (by omega), Int.toNat_natCast, List.getElem?_set_ne (by omega)]
theorem uses_app {ks : List KS} (x : KS) (j : Nat) : usesAt (ks ++ [x]) j = if j = ks.length then x.n else usesAt ks j := by
  by_cases hj : j < ks.length
  · rw [uses_of (by simp; omega), uses_of hj, List.getElem_append_left hj, if_neg (by omega)]
  · by_cases e : j = ks.length
    · subst e; rw [uses_of (by simp), if_pos rfl]; simp
    · rw [uses_big (by simp; omega), uses_big (by omega), if_neg e]
theorem getA_app {ks : List KS} (a : At) (u : Int) (j : Nat) : getA (ks ++ [.used a u]) j = if j = ks.length then canonA a else getA ks j := by
  by_cases e : j = ks.length
  · subst e; rw [if_pos rfl]
    exact getA_of (u := u) (by simp) (by simp)
  · rw [if_neg e]
    unfold getA
    rw [if_pos (by omega), if_pos (by omega), Int.toNat_natCast]
    by_cases hj : j < ks.length
    · rw [List.getElem?_append_left hj]
    · rw [List.getElem?_eq_none (by simp; omega), List.getElem?_eq_none (by omega)]

/-- What Add does, told by uses and attributes. -/
def AddU (R : Nat) (ks : List KS) (a : At) (n e : Int) (ks' : List KS) : Prop :=
  (∃ i : Nat, i < R ∧ 0 < usesAt ks i ∧ getA ks i = canonA a ∧ n = i ∧ e = 0 ∧ (∀ j : Nat, usesAt ks' j = usesAt ks j + if j = i then 1 else 0) ∧ (∀ j : Nat, getA ks' j = getA ks j) ∧ ks'.length ≤ R) ∨
  ((∀ i : Nat, 0 < usesAt ks i → getA ks i ≠ canonA a) ∧
    (((∀ i : Nat, i < R → usesAt ks i ≠ 0) ∧ n = 0 ∧ e = 13 ∧ ks' = ks) ∨
     (∃ f : Nat, f < R ∧ usesAt ks f = 0 ∧ (∀ j : Nat, j < f → usesAt ks j ≠ 0) ∧ n = f ∧ e = 0 ∧ (∀ j : Nat, usesAt ks' j = if j = f then 1 else usesAt ks j) ∧ (∀ j : Nat, getA ks' j = if j = f then canonA a else getA ks j) ∧ ks'.length ≤ R)))
theorem AddR.toU {B : Int} {R : Nat} {ks ks' : List KS} {a : At} {n e : Int} (hok : ∀ k ∈ ks, k.ok B) (hR : ks.length ≤ R) (h : AddR R ks a n e ks') : AddU R ks a n e ks' := by
  have hfl := List.length_filter_le (fun k : KS => decide (k.n ≠ 0)) ks
  rcases h with ⟨i, hi, b, u, hc, hab, rfl, rfl, rfl⟩ | ⟨hno, h⟩
  · have hk := hok _ (List.getElem_mem hi)
    rw [hc] at hk
    have hu : usesAt ks i = u := by rw [uses_of hi, hc]; rfl
    refine .inl ⟨i, by omega, by rw [hu]; exact hk.2.1, by rw [getA_of hi hc, hab], rfl, rfl, fun j => ?_, fun j => ?_, by simpa using hR⟩
    · rw [uses_set hi]
      split
      · rename_i e; subst e; rw [hu]; rfl
      · simp
    · rw [getA_set hi]
      split
      · rename_i e; subst e; rw [getA_of hi hc]
      · rfl
  · refine .inr ⟨fun i hi hg => ?_, ?_⟩
    · obtain ⟨h1, b, u, h2, h3, h4, h5⟩ := usedOf hok hi
      exact hno b u (h2 ▸ List.getElem_mem h1) (by rw [← h4, hg])
    · rcases h with ⟨h1, rfl, rfl, hks⟩ | ⟨h1, rfl, rfl, rfl⟩
      · refine .inl ⟨fun i hi => ?_, rfl, rfl, hks⟩
        have hall : ks.filter (fun k : KS => decide (k.n ≠ 0)) = ks := List.filter_sublist.eq_of_length (by omega)
        have hi' : i < ks.length := by omega
        have := (List.mem_filter.1 (show ks[i] ∈ ks.filter (fun k : KS => decide (k.n ≠ 0)) by rw [hall]; exact List.getElem_mem hi')).2
        rw [uses_of hi']; simpa using this
      · unfold freeIx
        cases hf : List.findIdx? (fun k : KS => decide (k.n = 0)) ks with
        | none =>
          have hall := List.findIdx?_eq_none_iff.1 hf
          have hall' : ks.filter (fun k : KS => decide (k.n ≠ 0)) = ks := List.filter_eq_self.2 fun k hk => by
            have := hall k hk; simpa using this
          rw [hall'] at h1
          simp only [Option.getD_none, if_pos]
          refine .inr ⟨ks.length, by omega, uses_big (Nat.le_refl _), fun j hj => ?_, by trivial, by trivial, uses_app _, fun j => by rw [getA_app, canonA_idem], by simp; omega⟩
          rw [uses_of hj]
          have := hall _ (List.getElem_mem hj)
          simpa using this
        | some f =>
          obtain ⟨hf1, hf2, hf3⟩ := List.findIdx?_eq_some_iff_getElem.1 hf
          simp only [Option.getD_some]
          rw [if_neg (by omega)]
          refine .inr ⟨f, by omega, by rw [uses_of hf1]; simpa using hf2, fun j hj => ?_, by trivial, by trivial, uses_set hf1 _, fun j => by rw [getA_set hf1, canonA_idem], by simpa using hR⟩
          rw [uses_of (by omega)]
          have := hf3 j hj
          simpa using this

/-- What the document's Add does. -/
def RUR (A : Nat → At) (rows : List (List AV)) (ns : List Int) (a : At) (n e : Int) (rows' : List (List AV)) (ns' : List Int) : Prop :=
  (∃ i : Nat, ∃ h : i < ns.length, 0 < ns[i] ∧ canonA (A i) = canonA a ∧ n = i ∧ e = 0 ∧ rows' = rows ∧ ns' = ns.set i (ns[i] + 1)) ∨
  ((∀ i : Nat, ∀ h : i < ns.length, 0 < ns[i] → canonA (A i) ≠ canonA a) ∧
    (((∀ i : Nat, ∀ h : i < ns.length, ns[i] ≠ 0) ∧ n = 0 ∧ e = 13 ∧ rows' = rows ∧ ns' = ns) ∨
     (∃ f : Nat, ∃ h : f < ns.length, ns[f] = 0 ∧ (∀ j : Nat, ∀ h : j < f, ns[j] ≠ 0) ∧ n = f ∧ e = 0 ∧ rows' = rows.set f (canonA a).c ∧ ns' = ns.set f 1)))
structure RJ (R : Nat) (ks : List KS) (rows : List (List AV)) (ns : List Int) : Prop where
  le : ks.length ≤ R
  len : ns.length = R
  ln2 : rows.length = R
  n : ∀ i : Nat, ∀ h : i < ns.length, ns[i] = usesAt ks i
  row : ∀ i : Nat, ∀ h : i < rows.length, 0 < usesAt ks i → rows[i] = (getA ks i).c
  dist : ∀ i j : Nat, 0 < usesAt ks i → 0 < usesAt ks j → getA ks i = getA ks j → i = j
theorem getA_canon {B : Int} {ks : List KS} (hok : ∀ k ∈ ks, k.ok B) {i : Nat} (h : 0 < usesAt ks i) : canonA (getA ks i) = getA ks i := by
  obtain ⟨_, a, u, _, _, h4, _⟩ := usedOf hok h
  rw [h4, canonA_idem]
theorem RJ.add {B : Int} {R : Nat} {ks ks' : List KS} {rows rows' : List (List AV)} {ns ns' : List Int} {a : At} {n e n' e' : Int} (hok : ∀ k ∈ ks, k.ok B) (hB : 0 ≤ B) (h : RJ R ks rows ns) (h1 : AddU R ks a n e ks') (h2 : RUR (fun i => getA ks i) rows ns a n' e' rows' ns') : n' = n ∧ e' = e ∧ RJ R ks' rows' ns' := by
  rcases h1 with ⟨i, hiR, hiu, hia, rfl, rfl, hu, hg, hl⟩ | ⟨hno, h1⟩
  · rcases h2 with ⟨k, hk, hk1, hk2, rfl, rfl, rfl, rfl⟩ | ⟨hno2, _⟩
    · rw [h.n] at hk1
      have hki : k = i := h.dist _ _ hk1 hiu (by rw [hia, ← hk2]; exact (getA_canon hok hk1).symm)
      subst hki
      have pos : ∀ j : Nat, 0 < usesAt ks' j → 0 < usesAt ks j := fun j hj => by
        rw [hu] at hj
        by_cases e : j = k
        · subst e; exact hiu
        · rw [if_neg e] at hj; omega
      refine ⟨rfl, rfl, hl, by simpa using h.len, h.ln2, fun j hj => ?_, fun j hj hp => ?_, fun p q hp hq he => ?_⟩
      · rw [List.getElem_set, hu]
        by_cases e : k = j
        · subst e; rw [if_pos rfl, if_pos rfl, h.n]
        · rw [if_neg e, if_neg (fun h => e h.symm), h.n]; omega
      · rw [hg]; exact h.row j hj (pos j hp)
      · rw [hg, hg] at he; exact h.dist p q (pos p hp) (pos q hq) he
    · have hin : i < ns.length := by rw [h.len]; exact hiR
      exact absurd (by rw [getA_canon hok hiu, hia] : canonA (getA ks i) = canonA a) (hno2 i hin (by rw [h.n]; exact hiu))
  · rcases h2 with ⟨k, hk, hk1, hk2, _⟩ | ⟨hno2, h2⟩
    · rw [h.n] at hk1
      exact absurd (by rw [← hk2]; exact (getA_canon hok hk1).symm) (hno k hk1)
    · rcases h1 with ⟨hf, rfl, rfl, rfl⟩ | ⟨f, hfR, hf0, hfl, rfl, rfl, hu, hg, hl⟩
      · rcases h2 with ⟨_, rfl, rfl, rfl, rfl⟩ | ⟨f', hf', h0, _⟩
        · exact ⟨rfl, rfl, h⟩
        · rw [h.n] at h0
          exact absurd h0 (hf f' (by rw [← h.len]; exact hf'))
      · rcases h2 with ⟨hall, _⟩ | ⟨f', hf', h0, hlt, rfl, rfl, rfl, rfl⟩
        · exact absurd (by rw [h.n]; exact hf0) (hall f (by rw [h.len]; exact hfR))
        · rw [h.n] at h0
          have hff : f' = f := by
            rcases Nat.lt_trichotomy f' f with hlt' | heq | hlt'
            · exact absurd h0 (hfl f' hlt')
            · exact heq
            · have := hlt f hlt'
              rw [h.n] at this
              exact absurd hf0 this
          subst hff
          refine ⟨rfl, rfl, hl, by simpa using h.len, by simpa using h.ln2, fun j hj => ?_, fun j hj hp => ?_, fun p q hp hq he => ?_⟩
          · rw [List.getElem_set, hu]
            by_cases e : f' = j
            · subst e; rw [if_pos rfl, if_pos rfl]
            · rw [if_neg e, if_neg (fun h => e h.symm), h.n]
          · rw [List.getElem_set, hg]
            rw [hu] at hp
            by_cases e : f' = j
            · subst e; rw [if_pos rfl, if_pos rfl]
            · rw [if_neg e, if_neg (fun h => e h.symm)]
              rw [if_neg (fun h => e h.symm)] at hp
              exact h.row j (by simpa using hj) hp
          · rw [hu] at hp hq
            rw [hg, hg] at he
            by_cases ep : p = f' <;> by_cases eq : q = f'
            · rw [ep, eq]
            · rw [if_neg eq] at hq; rw [if_pos ep, if_neg eq] at he; exact absurd he.symm (hno q hq)
            · rw [if_neg ep] at hp; rw [if_neg ep, if_pos eq] at he; exact absurd he (hno p hp)
            · rw [if_neg ep] at hp; rw [if_neg eq] at hq; rw [if_neg ep, if_neg eq] at he; exact h.dist p q hp hq he
theorem nsAt_rj {R : Nat} {ks : List KS} {rows : List (List AV)} {ns : List Int} (h : RJ R ks rows ns) (k : Int) : nsAt ns k = usesAt ks k := by
  unfold nsAt
  by_cases k0 : 0 ≤ k
  · rw [if_pos k0]
    by_cases hk : k.toNat < ns.length
    · rw [List.getElem?_eq_getElem hk, Option.getD_some, h.n, Int.toNat_of_nonneg k0]
    · have := h.le; have := h.len
      rw [List.getElem?_eq_none (by omega), usesAt_out (by omega)]; rfl
  · rw [if_neg k0, usesAt_out (by omega)]
theorem RJ.drop {B : Int} {R : Nat} {ks : List KS} {rows : List (List AV)} {ns : List Int} (hok : ∀ k ∈ ks, k.ok B) (h : RJ R ks rows ns) (k : Int) : RJ R (dropK ks k) rows (if nsAt ns k = 0 then ns else ns.set k.toNat (nsAt ns k - 1)) := by
  have hnn := nsAt_rj h k
  have hud := fun j : Nat => uses_drop hok k (j : Int) (by omega)
  have hgd := fun j : Nat => get_drop hok k (j : Int) (by omega)
  have pos : ∀ j : Nat, 0 < usesAt (dropK ks k) j → 0 < usesAt ks j := fun j hj => by
    rw [hud] at hj; split at hj <;> omega
  have hlen : (dropK ks k).length = ks.length := by unfold dropK; split <;> (try split) <;> simp
  have h0 : 0 ≤ usesAt ks k := by
    by_cases hin : 0 ≤ k ∧ k.toNat < ks.length
    · rw [usesAt_of hin.1 hin.2]; exact KS.nn (hok _ (List.getElem_mem hin.2))
    · rw [usesAt_out hin]; omega
  have main : ∀ ns', ns'.length = R → (∀ j : Nat, ∀ hj : j < ns'.length, ns'[j] = usesAt (dropK ks k) j) → RJ R (dropK ks k) rows ns' := fun ns' hl hn => by
    refine ⟨by rw [hlen]; exact h.le, hl, h.ln2, hn, fun j hj hp => ?_, fun p q hp hq he => ?_⟩
    · rw [hgd j hp]; exact h.row j hj (pos j hp)
    · rw [hgd p hp, hgd q hq] at he; exact h.dist p q (pos p hp) (pos q hq) he
  by_cases hz : nsAt ns k = 0
  · rw [if_pos hz]
    refine main ns h.len fun j hj => ?_
    rw [hud, h.n]
    rw [hnn] at hz
    rw [if_neg (by omega)]; omega
  · rw [if_neg hz]
    rw [hnn] at hz ⊢
    refine main _ (by simp [h.len]) fun j hj => ?_
    have k0 : 0 ≤ k := by
      apply Classical.byContradiction; intro hk; apply hz; rw [usesAt_out (by omega)]
    rw [hud, List.getElem_set]
    by_cases e : k.toNat = j
    · have e2 : (j : Int) = k := by omega
      rw [if_pos e, if_pos ⟨e2, by omega⟩, e2]
    · rw [if_neg e, if_neg (fun h => e (by omega)), h.n]; omega
theorem RJ.count {B : Int} {R : Nat} {ks : List KS} {rows : List (List AV)} {ns : List Int} (hok : ∀ k ∈ ks, k.ok B) (h : RJ R ks rows ns) : posN ns = (ks.filter fun k => decide (k.n ≠ 0)).length := by
  have e : ns = ks.map KS.n ++ List.replicate (R - ks.length) 0 := by
    refine List.ext_getElem (by simp [h.len]; have := h.le; omega) fun i h1 h2 => ?_
    rw [h.n]
    by_cases hi : i < ks.length
    · rw [uses_of hi, List.getElem_append_left (by simpa using hi), List.getElem_map]
    · rw [uses_big (by omega), List.getElem_append_right (by simp; omega), List.getElem_replicate]
  have hr : ∀ m : Nat, ((List.replicate m (0 : Int)).filter fun n => decide (0 < n)) = [] := fun m => by
    rw [List.filter_eq_nil_iff]; intro x hx; rw [(List.mem_replicate.1 hx).2]; simp
  unfold posN
  rw [e, List.filter_append, hr, List.append_nil, List.filter_map, List.length_map]
  congr 1
  refine List.filter_congr fun k hk => ?_
  have := KS.nn (hok k hk)
  simp only [Function.comp, decide_eq_decide]; omega
theorem RJ.init (R : Nat) : RJ R [] (List.replicate R zCells) (List.replicate R 0) where
  le := by simp
  len := by simp
  ln2 := by simp
  n := fun i h => by rw [uses_big (by simp)]; simp
  row := fun i h hp => by rw [uses_big (by simp)] at hp; omega
  dist := fun i j hp => by rw [uses_big (by simp)] at hp; omega
end Go.Am

/- E2 -/
namespace Go.Am
open Go.Proofs Go.Sort
/-- The program's table above, the document's below. -/
def PJ (B : Int) (R : Nat) (σ : Store) (id q : Nat) (ks : List KS) (rows : List (List AV)) (ns : List Int) (s : Store) : Prop :=
  ∃ τ, RI σ q rows ns τ ∧ TI B τ id R ks s
theorem RI.mono {σ s s' : Store} {q : Nat} {rows : List (List AV)} {ns : List Int} (h : RI σ q rows ns s) (hs : Store.sub s s') : RI σ q rows ns s' := by
  obtain ⟨h1, h2, h3, h4, h5, gA, gN, h6, h7, h8, h9, h10⟩ := h
  exact ⟨h1, Store.sub_trans h2 hs, h3, h4, h5, gA, gN, hs _ _ h6, h7, h8, hs _ _ h9, hs _ _ h10⟩
theorem TI.mono {B : Int} {σ s s' : Store} {id : Nat} {R : Int} {ks : List KS} (h : TI B σ id R ks s) (hs : Store.sub s s') : TI B σ id R ks s' := by
  obtain ⟨h1, h2, h3, h4, v, h5, h6⟩ := h
  exact ⟨h1, Store.sub_trans h2 hs, h3, h4, v, hs _ _ h5, h6.mono hs⟩
theorem PJ.mono {B : Int} {R : Nat} {σ s s' : Store} {id q : Nat} {ks : List KS} {rows : List (List AV)} {ns : List Int} (h : PJ B R σ id q ks rows ns s) (hs : Store.sub s s') : PJ B R σ id q ks rows ns s' := by
  obtain ⟨τ, h1, h2⟩ := h
  exact ⟨τ, h1, h2.mono hs⟩
theorem PJ.ri {B : Int} {R : Nat} {σ s : Store} {id q : Nat} {ks : List KS} {rows : List (List AV)} {ns : List Int} (h : PJ B R σ id q ks rows ns s) : RI σ q rows ns s := by
  obtain ⟨τ, h1, h2⟩ := h
  exact h1.mono h2.2.1
theorem sub_delr (s : Store) (i : Nat) : Store.sub (s.del i) s := fun j o hj => by
  by_cases e : j = i
  · subst e; simp at hj
  · rw [Store.del_ne _ e] at hj; exact hj
theorem PJ.swap {B : Int} {R : Nat} {σ s : Store} {id q : Nat} {ks : List KS} {rows : List (List AV)} {ns : List Int} (h : PJ B R σ id q ks rows ns s) : ∃ τ, TI B σ id R ks τ ∧ RI τ q rows ns s := by
  obtain ⟨τ, ⟨h1, h2, h3, h4, h5, gA, gN, h6, h7, h8, h9, h10⟩, t1, t2, t3, t4, v, t5, t6⟩ := h
  have hs : Store.sub (((s.del q).del gA).del gN) s := Store.sub_trans (sub_delr _ _) (Store.sub_trans (sub_delr _ _) (sub_delr _ _))
  have hσ : Store.sub σ (((s.del q).del gA).del gN) := sub_del (sub_del (sub_del (Store.sub_trans h2 t2) h1) h7) h8
  have e1 : id ≠ q := fun e => by rw [e, h6] at t1; cases t1
  have e2 : id ≠ gA := fun e => by rw [e, h9] at t1; cases t1
  have e3 : id ≠ gN := fun e => by rw [e, h10] at t1; cases t1
  have a1 : gA ≠ q := fun e => by rw [e, h6] at h9; cases h9
  have a2 : gN ≠ q := fun e => by rw [e, h6] at h10; cases h10
  refine ⟨((s.del q).del gA).del gN, ⟨sub_none h2 t1, hσ, t3, t4, v, ?_, ?_⟩, ?_, hs, h3, h4, h5, gA, gN, t2 _ _ h6, ?_, by simp, t2 _ _ h9, t2 _ _ h10⟩
  · rw [Store.del_ne _ e3, Store.del_ne _ e2, Store.del_ne _ e1]; exact t5
  · rcases t6 with t6 | ⟨g, b1, b2, b3⟩
    · exact .inl t6
    · have f1 : g ≠ q := fun e => by rw [e, h6] at b2; cases b2
      have f2 : g ≠ gA := fun e => by rw [e, h9] at b2; cases b2
      have f3 : g ≠ gN := fun e => by rw [e, h10] at b2; cases b2
      exact .inr ⟨g, b1, sub_none h2 b2, by rw [Store.del_ne _ f3, Store.del_ne _ f2, Store.del_ne _ f1]; exact b3⟩
  · by_cases c1 : q = gN
    · exact absurd c1.symm a2
    · rw [Store.del_ne _ c1]
      by_cases c2 : q = gA
      · exact absurd c2.symm a1
      · rw [Store.del_ne _ c2]; simp
  · by_cases c1 : gA = gN
    · rw [c1]; simp
    · rw [Store.del_ne _ c1]; simp
theorem PJ.back {B : Int} {R : Nat} {σ τ s : Store} {id q : Nat} {ks : List KS} {rows : List (List AV)} {ns : List Int} (h : TI B σ id R ks τ) (h' : RI τ q rows ns s) : PJ B R σ id q ks rows ns s := by
  obtain ⟨t1, t2, t3, t4, v, t5, t6⟩ := h
  obtain ⟨h1, h2, h3, h4, h5, gA, gN, h6, h7, h8, h9, h10⟩ := h'
  have e1 : q ≠ id := fun e => by rw [e, t5] at h1; cases h1
  have e2 : gA ≠ id := fun e => by rw [e, t5] at h7; cases h7
  have e3 : gN ≠ id := fun e => by rw [e, t5] at h8; cases h8
  rcases t6 with ⟨b0, b1⟩ | ⟨g, b1, b2, b3⟩
  · refine ⟨s.del id, ⟨sub_none t2 h1, sub_del (Store.sub_trans t2 h2) t1, h3, h4, h5, gA, gN, ?_, sub_none t2 h7, sub_none t2 h8, ?_, ?_⟩, by simp, sub_delr _ _, t3, t4, v, h2 _ _ t5, .inl ⟨b0, b1⟩⟩
    · rw [Store.del_ne _ e1]; exact h6
    · rw [Store.del_ne _ e2]; exact h9
    · rw [Store.del_ne _ e3]; exact h10
  · have f1 : q ≠ g := fun e => by rw [e, b3] at h1; cases h1
    have f2 : gA ≠ g := fun e => by rw [e, b3] at h7; cases h7
    have f3 : gN ≠ g := fun e => by rw [e, b3] at h8; cases h8
    have f4 : id ≠ g := fun e => by rw [e, b3] at t5; cases t5
    refine ⟨(s.del id).del g, ⟨sub_none t2 h1, sub_del (sub_del (Store.sub_trans t2 h2) t1) b2, h3, h4, h5, gA, gN, ?_, sub_none t2 h7, sub_none t2 h8, ?_, ?_⟩, by rw [Store.del_ne _ f4]; simp, Store.sub_trans (sub_delr _ _) (sub_delr _ _), t3, t4, v, h2 _ _ t5, .inr ⟨g, b1, by simp, h2 _ _ b3⟩⟩
    · rw [Store.del_ne _ f1, Store.del_ne _ e1]; exact h6
    · rw [Store.del_ne _ f2, Store.del_ne _ e2]; exact h9
    · rw [Store.del_ne _ f3, Store.del_ne _ e3]; exact h10
end Go.Am

/- DL -/
namespace Go.Am
open Go.Proofs Go.Sort
theorem bvFalse : ¬ (true = false) := by decide
theorem s47 {τ s : Store} {id : Nat} {rows : List (List AV)} {ns : List Int} (h : RI τ id rows ns s) (hn : ns.length ≤ 1000000) (hb : ∀ n ∈ ns, n ≤ 1000000) (A : Nat → At) (hA : ∀ i : Nat, ∀ h : i < ns.length, 0 < ns[i] → rows[i]? = some (A i).c ∧ (A i).ok) (a : At) (ha : a.ok) : ACalls Try.prog 47 [.ptr id 0, .agg a.c] s (fun r s' => ∃ n e rows' ns', r = .tup [.int .i64 n, .int .i64 e] ∧ RUR A rows ns a n e rows' ns' ∧ RI τ id rows' ns' s') := by
  have hh := h
  obtain ⟨h1, h2, h3, h4, h5, gA, gN, h6, h7, h8, h9, h10⟩ := h
  refine calls_of Tst.F47 (by simp [Tst.F47, Fn.mkX]) ?_
  simp only [Tst.F47, Fn.mkX, Tst.b47]
  have e9 : ∀ x : At, x.c.length = 9 := fun _ => rfl
  have t9 : ∀ x : At, List.take 9 x.c = x.c := fun _ => rfl
  have p9 : ∀ x : At, ∀ z : List AV, z.length = 9 → splice 0 x.c z = some x.c := fun x z hz => splice_all _ _ (by rw [hz]; rfl)
  have hc9 : ∀ x : At, (AV.agg x.c).isTup = false ∧ (AV.agg x.c).cells = x.c := fun _ => ⟨rfl, rfl⟩
  simp only [↓vcPre, ↓wit_get, ↓reduceIte, vcPost, vcStd, Nat.reduceEqDiff, reduceCtorEq, Nat.reduceAdd, Nat.reduceLeDiff, Int.reduceLT, Int.reduceLE, ↓u_setN]
  refine AllocQ.i0 fun i hi => ?_
  have hid : ¬ id = i := fun e => by subst e; rw [h6] at hi; cases hi
  have hgA : ¬ gA = i := fun e => by subst e; rw [h9] at hi; cases hi
  have hgN : ¬ gN = i := fun e => by subst e; rw [h10] at hi; cases hi
  have hsT := Store.sub_set s i (.box a.c) hi
  have hTb : (s.set i (.box a.c)) i = some (.box a.c) := Store.set_same _ _ _
  have hiτ := sub_none h2 hi
  generalize s.set i (.box a.c) = T at hsT hTb ⊢
  have g6 := hsT _ _ h6
  have g9 := hsT _ _ h9
  have g10 := hsT _ _ h10
  simp only [g6, g10, ↓vcPre, ↓wit_get, ↓reduceIte, vcPost, vcStd, Nat.reduceEqDiff, reduceCtorEq, Nat.reduceAdd, Nat.reduceLeDiff, Int.reduceLT, Int.reduceLE, ↓u_setN]
  have hidN : ¬ id = gN := fun e => by rw [e, h10] at h6; cases h6
  have hidA : ¬ id = gA := fun e => by rw [e, h9] at h6; cases h6
  have hNA : ¬ gN = gA := fun e => by
    rw [e, h9] at h10
    have := Option.some.inj h10
    injection this with q
    cases q
  have hTS : RI τ id rows ns T := by
    exact ⟨h1, Store.sub_trans h2 hsT, h3, h4, h5, gA, gN, g6, h7, h8, g9, g10⟩
  let fr : Nat → Int := fun j => match (ns.drop j).findIdx? (fun n => decide (n = 0)) with | some k => ((j + k : Nat) : Int) | none => -1
  have frS : ∀ j (hj : j < ns.length), fr j = if ns[j] = 0 then (j : Int) else fr (j + 1) := fun j hj => by
    simp only [fr]
    rw [List.drop_eq_getElem_cons hj, List.findIdx?_cons]
    by_cases hz : ns[j] = 0
    · simp [hz]
    · simp only [hz, decide_false, Bool.false_eq_true, if_false]
      cases hf : List.findIdx? (fun n => decide (n = 0)) (ns.drop (j + 1)) with
      | none => simp
      | some k => simp; omega
  have frL : fr ns.length = -1 := by simp [fr]
  have em : IntKind.i64.wrap ((ns.length : Int) - 1) = (ns.length : Int) - 1 := wrap64 (by unfold I64; omega)
  rw [em]
  refine LoopQ.inv (S := Nat) (fun j => [(0, .ptr id 0), (3, .ptr i 0), (6, .int .i64 (fr j)), (7, .int .i64 ((j : Int) - 1))]) (fun _ => T) (fun j => j ≤ ns.length) (fun j => j) ns.length (by rw [frL]) (Store.sub_refl _) (Nat.le_refl _) ?_
  intro j hj
  simp only [g6, g10, ↓vcPre, ↓wit_get, ↓reduceIte, vcPost, vcStd, Nat.reduceEqDiff, reduceCtorEq, Nat.reduceAdd, Nat.reduceLeDiff, Int.reduceLT, Int.reduceLE, ↓u_setN]
  refine ⟨fun c1 => ?_, fun c1 => ?_⟩
  · obtain ⟨m, rfl⟩ : ∃ m, j = m + 1 := ⟨j - 1, by omega⟩
    have e1 : ((m + 1 : Nat) : Int) - 1 = m := by omega
    have e2 : IntKind.i64.wrap ((m : Int) - 1) = (m : Int) - 1 := wrap64 (by unfold I64; omega)
    have hml : m < ns.length := by omega
    have hfs := frS m hml
    simp only [e1, Nat.zero_add]
    refine ⟨by omega, hml, by simp [cI], ?_⟩
    simp only [cI, ↓vcPre, ↓wit_get, ↓reduceIte, vcPost, vcStd, Nat.reduceEqDiff, reduceCtorEq, Nat.reduceAdd, Nat.reduceLeDiff, Int.reduceLT, Int.reduceLE, ↓u_setN]
    rw [e2]
    refine ⟨fun g1 => ?_, fun g1 => ?_⟩
    · exact NextQ.to m (by rw [hfs, if_pos g1]) (Store.sub_refl _) (by omega) (by omega)
    · exact NextQ.to m (by rw [hfs, if_neg g1]) (Store.sub_refl _) (by omega) (by omega)
  · have hj0 : j = 0 := by omega
    subst hj0
    refine LoopQ.inv (S := Nat) (fun k => [(0, .ptr id 0), (3, .ptr i 0), (6, .int .i64 (fr 0)), (8, .int .i64 (k : Int))]) (fun _ => T) (fun k => k ≤ ns.length ∧ ∀ p : Nat, ∀ h : p < ns.length, p < k → 0 < ns[p] → canonA (A p) ≠ canonA a) (fun k => ns.length + 1 - k) 0 rfl (Store.sub_refl _) ⟨by omega, fun p _ h => by omega⟩ ?_
    rintro k ⟨hk, hno⟩
    simp only [g6, g10, ↓vcPre, ↓wit_get, ↓reduceIte, vcPost, vcStd, Nat.reduceEqDiff, reduceCtorEq, Nat.reduceAdd, Nat.reduceLeDiff, Int.reduceLT, Int.reduceLE, ↓u_setN]
    refine ⟨fun c2 => ?_, fun c2 => ?_⟩
    · have ek : IntKind.i64.wrap ((k : Int) + 1) = ((k + 1 : Nat) : Int) := by rw [wrap64 (by unfold I64; omega)]; omega
      simp only [Nat.zero_add]
      refine ⟨c2, c2, by simp [cI], ?_⟩
      simp only [cI, g6, g9, ↓vcPre, ↓wit_get, ↓reduceIte, vcPost, vcStd, Nat.reduceEqDiff, reduceCtorEq, Nat.reduceAdd, Nat.reduceLeDiff, Int.reduceLT, Int.reduceLE, ↓u_setN]
      have next : (0 < ns[k] → canonA (A k) ≠ canonA a) → ∀ p : Nat, ∀ h : p < ns.length, p < k + 1 → 0 < ns[p] → canonA (A p) ≠ canonA a := fun h0 p hp hpk => by
        by_cases e : p = k
        · subst e; exact h0
        · exact hno p hp (by omega)
      refine ⟨fun g1 => ?_, fun g1 => ?_⟩
      · obtain ⟨hrow, hAk⟩ := hA k c2 g1
        obtain ⟨hkr, hrow⟩ := List.getElem?_eq_some_iff.1 hrow
        refine ⟨by omega, by omega, by rw [hrow]; exact Nat.le_refl _, ?_⟩
        simp only [hTb, hrow, e9, t9, Nat.le_refl, ↓vcPre, ↓wit_get, ↓reduceIte, vcPost, vcStd, Nat.reduceEqDiff, reduceCtorEq, Nat.reduceAdd, Nat.reduceLeDiff, Int.reduceLT, Int.reduceLE, ↓u_setN]
        refine (c24 (A k) a hAk ha).Q ?_
        by_cases hs : canonA (A k) = canonA a
        · rw [decide_eq_true hs]
          simp only [g6, g10, Nat.zero_add, ↓vcPre, ↓wit_get, ↓reduceIte, vcPost, vcStd, Nat.reduceEqDiff, reduceCtorEq, Nat.reduceAdd, Nat.reduceLeDiff, Int.reduceLT, Int.reduceLE, ↓u_setN]
          refine ⟨c2, c2, by simp [cI], ?_⟩
          simp only [cI, Nat.zero_add, ↓vcPre, ↓wit_get, ↓reduceIte, vcPost, vcStd, Nat.reduceEqDiff, reduceCtorEq, Nat.reduceAdd, Nat.reduceLeDiff, Int.reduceLT, Int.reduceLE, ↓u_setN]
          refine ⟨c2, c2, ?_⟩
          have hbk := hb _ (List.getElem_mem c2)
          rw [wrap64 (n := ns[k] + 1) (by unfold I64; omega)]
          exact EndQ.to _ _ rfl (Store.sub_refl _) ⟨k, 0, rows, ns.set k (ns[k] + 1), rfl, .inl ⟨k, c2, g1, hs, rfl, rfl, rfl, rfl⟩, RI.setN h1 (Store.sub_trans h2 hsT) h3 h4 h5 g6 h7 h8 g9 g10 k _ (by omega)⟩
        · rw [decide_eq_false hs]
          simp only [↓vcPre, ↓wit_get, ↓reduceIte, vcPost, vcStd, Nat.reduceEqDiff, reduceCtorEq, Nat.reduceAdd, Nat.reduceLeDiff, Int.reduceLT, Int.reduceLE, ↓u_setN]
          rw [ek]
          exact NextQ.to (k + 1) rfl (Store.sub_refl _) (by omega) ⟨by omega, next fun _ => hs⟩
      · rw [ek]
        exact NextQ.to (k + 1) rfl (Store.sub_refl _) (by omega) ⟨by omega, next fun h => absurd h g1⟩
    · have hk' : k = ns.length := by omega
      subst hk'
      have hno' : ∀ p : Nat, ∀ h : p < ns.length, 0 < ns[p] → canonA (A p) ≠ canonA a := fun p hp => hno p hp hp
      have fr0 : (fr 0 < 0 ∧ ∀ p : Nat, ∀ h : p < ns.length, ns[p] ≠ 0) ∨ ∃ f : Nat, ∃ h : f < ns.length, fr 0 = f ∧ ns[f] = 0 ∧ ∀ q : Nat, ∀ h : q < f, ns[q] ≠ 0 := by
        simp only [fr, List.drop_zero, Nat.zero_add]
        cases hf : List.findIdx? (fun n => decide (n = 0)) ns with
        | none =>
          refine .inl ⟨by simp, fun p hp => ?_⟩
          have := List.findIdx?_eq_none_iff.1 hf _ (List.getElem_mem hp)
          simpa using this
        | some f =>
          obtain ⟨f1, f2, f3⟩ := List.findIdx?_eq_some_iff_getElem.1 hf
          exact .inr ⟨f, f1, rfl, by simpa using f2, fun q hq => by simpa using f3 q hq⟩
      refine ⟨fun c3 => ?_, fun c3 => ?_⟩
      · rcases fr0 with ⟨_, f2⟩ | ⟨f, _, f2, _⟩
        · exact EndQ.to _ _ rfl (Store.sub_refl _) ⟨0, 13, rows, ns, rfl, .inr ⟨hno', .inl ⟨f2, rfl, rfl, rfl, rfl⟩⟩, hTS⟩
        · omega
      · rcases fr0 with ⟨f1, _⟩ | ⟨f, f1, f2, f3, f4⟩
        · omega
        · rw [f2]
          simp only [g6, g9, hTb, e9, t9, Nat.le_refl, ↓vcPre, ↓wit_get, ↓reduceIte, vcPost, vcStd, Nat.reduceEqDiff, reduceCtorEq, Nat.reduceAdd, Nat.reduceLeDiff, Int.reduceLT, Int.reduceLE, ↓u_setN]
          refine (c20 a ha).q' ?_
          have hfr : f < rows.length := by omega
          have hr9 := h4 _ (List.getElem_mem hfr)
          simp only [g6, g9, g10, hr9, hidA, hNA, Nat.zero_add, ↓vcPre, ↓wit_get, ↓reduceIte, vcPost, vcStd, Nat.reduceEqDiff, reduceCtorEq, Nat.reduceAdd, Nat.reduceLeDiff, Int.reduceLT, Int.reduceLE, ↓u_setN]
          refine ⟨by omega, rfl, hfr, ?_⟩
          rw [p9 _ _ hr9, wit_some]
          refine ⟨f1, f1, ?_⟩
          show wit (some [AV.int IntKind.i64 1]) _
          rw [wit_some]
          have g9' := Store.set_same T gA (.arr 9 (rows.set f (canonA a).c))
          have g10' : (T.set gA (.arr 9 (rows.set f (canonA a).c))) gN = some (.arr 1 (ns.map cI)) := by rw [Store.set_ne _ _ hNA]; exact g10
          have g6' : (T.set gA (.arr 9 (rows.set f (canonA a).c))) id = some (.box [.os gA 9 0 ns.length, .os gN 1 0 ns.length]) := by rw [Store.set_ne _ _ hidA]; exact g6
          have hsub' : Store.sub τ (T.set gA (.arr 9 (rows.set f (canonA a).c))) := sub_upd' (Store.sub_trans h2 hsT) h7
          exact EndQ.to _ _ rfl (Store.sub_refl _) ⟨f, 0, rows.set f (canonA a).c, ns.set f 1, rfl, .inr ⟨hno', .inr ⟨f, f1, f3, f4, rfl, rfl, rfl, rfl⟩⟩, RI.setN h1 hsub' (by simpa using h3) (fun r hr => by
            rcases List.mem_or_eq_of_mem_set hr with hr | rfl
            · exact h4 r hr
            · rfl) h5 g6' h7 h8 g9' g10' f 1 (by omega)⟩
end Go.Am

/- S95C -/
namespace Go.Am.Tsh
open Go.Proofs
/-- signpost/signpostlaw11.do -/
def b17 : BC := .seq (.ops [⟨some 5, none, .alloc (.box), [.t 2]⟩, ⟨some 6, none, .pure (.mov), [.c (.bool false)]⟩] [0, 1, 5]) (.seq (.seq (.ops [⟨some 11, none, .pure (.fld 0), [.t 5]⟩, ⟨some 12, none, .load (.ld 1 false), [.t 11]⟩, ⟨some 13, none, .pure (.bin .eql), [.t 12, .c (.int .i64 1)]⟩] [0, 1, 5, 13]) (.cond (.t 13) (.seq (.ops [⟨some 15, none, .pure (.mov), [.t 0]⟩, ⟨some 16, none, .load (.ld 12 true), [.t 5]⟩, ⟨some 17, none, .loud (.call 21), [.t 16]⟩, ⟨some 18, none, .loud (.call 22), [.t 15, .t 17]⟩, ⟨some 14, none, .pure (.mov), [.t 18]⟩, ⟨some 19, none, .pure (.ext 0), [.t 14]⟩, ⟨some 20, none, .pure (.ext 1), [.t 14]⟩, ⟨some 7, none, .pure (.mov), [.t 19]⟩, ⟨some 8, none, .pure (.mov), [.t 20]⟩] [1, 5, 7, 8]) (.seq (.ops [⟨some 22, none, .pure (.mov), [.t 1]⟩, ⟨some 23, none, .load (.ld 12 true), [.t 5]⟩, ⟨some 24, none, .loud (.call 21), [.t 23]⟩, ⟨some 25, none, .loud (.call 47), [.t 22, .t 24]⟩, ⟨some 21, none, .pure (.mov), [.t 25]⟩, ⟨some 26, none, .pure (.ext 0), [.t 21]⟩, ⟨some 27, none, .pure (.ext 1), [.t 21]⟩, ⟨some 9, none, .pure (.mov), [.t 26]⟩, ⟨some 10, none, .pure (.mov), [.t 27]⟩] [7, 8, 9, 10]) (.seq (.ops [⟨some 28, none, .pure (.mov), [.t 7]⟩, ⟨some 29, none, .pure (.mov), [.t 9]⟩, ⟨some 30, none, .pure (.bin .eql), [.t 28, .t 29]⟩, ⟨some 31, none, .pure (.mov), [.t 30]⟩, ⟨some 32, some (31, true), .pure (.mov), [.t 8]⟩, ⟨some 33, some (31, true), .pure (.mov), [.t 10]⟩, ⟨some 34, some (31, true), .pure (.bin .eql), [.t 32, .t 33]⟩, ⟨some 35, none, .pick, [.t 31, .t 34, .c (.bool false)]⟩, ⟨some 6, none, .pure (.mov), [.t 35]⟩] [6]) (.ret)))) (.skip))) (.seq (.seq (.ops [⟨some 36, none, .pure (.mov), [.t 0]⟩] [1, 5, 36]) (.seq (.ops [⟨some 37, none, .pure (.fld 1), [.t 5]⟩] [1, 5, 36, 37]) (.seq (.ops [⟨some 40, none, .pure (.mov), [.t 1]⟩] [5, 36, 37, 40]) (.seq (.ops [⟨some 41, none, .pure (.fld 1), [.t 5]⟩] [36, 37, 40, 41]) (.seq (.ops [⟨some 38, none, .load (.ld 1 false), [.t 37]⟩] [36, 38, 40, 41]) (.both (.seq (.ops [⟨some 39, none, .loud (.call 27), [.t 36, .t 38]⟩] [39, 40, 41]) (.seq (.ops [⟨some 42, none, .load (.ld 1 false), [.t 41]⟩] [39, 40, 42]) (.seq (.ops [⟨some 43, none, .loud (.call 48), [.t 40, .t 42]⟩] [39, 43]) (.seq (.ops [⟨some 44, none, .pure (.bin .eql), [.t 39, .t 43]⟩] [44]) (.seq (.ops [⟨some 6, none, .pure (.mov), [.t 44]⟩] [6]) (.ops [] [6])))))) (.both (.seq (.ops [⟨some 42, none, .load (.ld 1 false), [.t 41]⟩] [36, 38, 40, 42]) (.seq (.ops [⟨some 39, none, .loud (.call 27), [.t 36, .t 38]⟩] [39, 40, 42]) (.seq (.ops [⟨some 43, none, .loud (.call 48), [.t 40, .t 42]⟩] [39, 43]) (.seq (.ops [⟨some 44, none, .pure (.bin .eql), [.t 39, .t 43]⟩] [44]) (.seq (.ops [⟨some 6, none, .pure (.mov), [.t 44]⟩] [6]) (.ops [] [6])))))) (.top)))))))) (.ret)))
def F17 : Fn Try.prog 17 := Fn.mkX true b17 [.t 6] 45 Try.f17 _ Try.func17 (by decide) rfl Try.ntmps17 (by kernel_rfl) (by kernel_rfl)
end Go.Am.Tsh

/- E3 -/
namespace Go.Am
open Go.Proofs Go.Sort
theorem eqSelf (x : Int) : decide (x = x) = true := by simp
theorem attrsA_ok (x : Ask) : (attrsA x).ok := by
  unfold attrsA
  split
  · exact fewA_ok _
  · refine ⟨by simp [shortA]; omega, fun s hs => ?_, by simp [shortA]; omega⟩
    simp only [shortA, List.mem_map] at hs
    obtain ⟨t, _, rfl⟩ := hs
    simp [Seg.ok, shortS]; omega
theorem PJ.up {B B' : Int} {R : Nat} {σ s : Store} {id q : Nat} {ks : List KS} {rows : List (List AV)} {ns : List Int} (h : PJ B R σ id q ks rows ns s) (hB : B ≤ B') : PJ B' R σ id q ks rows ns s := by
  obtain ⟨τ, h1, h2⟩ := h
  exact ⟨τ, h1, h2.up hB⟩
theorem PJ.over {B : Int} {R : Nat} {σ s : Store} {id q : Nat} {ks : List KS} {rows : List (List AV)} {ns : List Int} (h : PJ B R σ id q ks rows ns s) : ∃ τ, RI σ q rows ns τ ∧ TI B τ id R ks s ∧ ∀ j o, s j = some o → j ≠ id → (∀ L, o ≠ .arr 10 L) → τ j = some o := by
  obtain ⟨τ, h1, h2⟩ := h
  obtain ⟨τ', q1, q2, q3, q4⟩ := h2.rebase
  exact ⟨τ', h1.mono q1, q3, q4⟩
theorem PJ.ne {B : Int} {R : Nat} {σ s : Store} {id q : Nat} {ks : List KS} {rows : List (List AV)} {ns : List Int} (h : PJ B R σ id q ks rows ns s) {i : Nat} (hi : s i = none) : i ≠ id := fun e => by
  obtain ⟨τ, h1, _, _, _, _, v, h5, _⟩ := h
  rw [← e, hi] at h5; cases h5
set_option maxHeartbeats 400000 in
/-- One call at both tables. -/
theorem s17 {B : Int} (hB0 : 1 ≤ B) (hB : B ≤ 10000) {R : Nat} (hR : R ≤ 1000) {σ s : Store} {id q : Nat} {ks : List KS} {rows : List (List AV)} {ns : List Int} (h : PJ B R σ id q ks rows ns s) (hJ : RJ R ks rows ns) (x : Ask) (hx : I64 x.id) :
    ACalls Try.prog 17 [.ptr id 0, .ptr q 0, .agg x.c] s (fun r s' => r = .bool true ∧ ∃ ks' rows' ns', PJ (B + 1) R σ id q ks' rows' ns' s' ∧ RJ R ks' rows' ns') := by
  refine calls_of Tsh.F17 (by simp [Tsh.F17, Fn.mkX]) ?_
  simp only [Tsh.F17, Fn.mkX, Tsh.b17]
  have hkl := hJ.le
  have hok : ∀ {s}, PJ B R σ id q ks rows ns s → ∀ k ∈ ks, k.ok B := fun {s} h => by obtain ⟨τ, _, h2⟩ := h; exact h2.2.2.1
  have hkk := hok h
  have hns : ∀ n ∈ ns, n ≤ 1000000 := fun n hn => by
    obtain ⟨i, hi, rfl⟩ := List.getElem_of_mem hn
    rw [hJ.n]; have := (uses_le (by omega) hkk (i : Int)).2; omega
  simp only [Ask.c, At.c, ↓vcPre, ↓wit_get, ↓reduceIte, vcPost, vcStd, Nat.reduceEqDiff, reduceCtorEq, Nat.reduceAdd, Nat.reduceLeDiff, Int.reduceLT, Int.reduceLE, ↓u_setN]
  refine AllocQ.i0 fun i hi => ?_
  simp only [Ask.c, At.c, ↓vcPre, ↓wit_get, ↓reduceIte, vcPost, vcStd, Nat.reduceEqDiff, reduceCtorEq, Nat.reduceAdd, Nat.reduceLeDiff, Int.reduceLT, Int.reduceLE, ↓u_setN]
  have hsb := Store.sub_set s i (.box [.int .i64 x.kind, .int .i64 x.id, .int .i64 x.a.org, .sl 2 (List.map Seg.c x.a.path), .int .u32 x.a.nxt, .bool x.a.hm, .int .u32 x.a.med, .bool x.a.hp, .int .u32 x.a.prf, .bool x.a.atm, .sl 1 (List.map cU x.a.cms), .bool x.few]) hi
  have h' := h.mono hsb
  generalize hBX : (Obj.box [AV.int .i64 x.kind, .int .i64 x.id, .int .i64 x.a.org, .sl 2 (List.map Seg.c x.a.path), .int .u32 x.a.nxt, .bool x.a.hm, .int .u32 x.a.med, .bool x.a.hp, .int .u32 x.a.prf, .bool x.a.atm, .sl 1 (List.map cU x.a.cms), .bool x.few]) = BX at hsb h' ⊢
  have hTb : (s.set i BX) i = some BX := Store.set_same _ _ _
  generalize s.set i BX = T at hsb h' hTb ⊢
  subst hBX
  have hfa := attrsA_ok x
  refine ⟨fun c1 => (c21 x).Q ?_, fun c1 => ?_⟩
  · simp only [↓vcPre, ↓wit_get, ↓reduceIte, vcPost, vcStd, Nat.reduceEqDiff, reduceCtorEq, Nat.reduceAdd, Nat.reduceLeDiff, Int.reduceLT, Int.reduceLE, ↓u_setN]
    obtain ⟨τ, p1, p2, p3⟩ := h'.over
    refine (s22 (by omega) (by omega) p2 (by omega) (attrsA x) hfa).Q ?_
    rintro r s2 ⟨m, e, ks', rfl, hA, hT2⟩
    have hAU := hA.toU hkk hkl
    have hsub : Store.sub τ s2 := hT2.2.1
    have hTi : T i = s2 i := by
      rw [hTb]; exact (hT2.2.1 _ _ (p3 _ _ hTb (h.ne hi) (fun L h => by cases h))).symm
    simp only [← hTi, hTb, ↓vcPre, ↓wit_get, ↓reduceIte, vcPost, vcStd, Nat.reduceEqDiff, reduceCtorEq, Nat.reduceAdd, Nat.reduceLeDiff, Int.reduceLT, Int.reduceLE, ↓u_setN]
    refine (c21 x).Q ?_
    simp only [↓vcPre, ↓wit_get, ↓reduceIte, vcPost, vcStd, Nat.reduceEqDiff, reduceCtorEq, Nat.reduceAdd, Nat.reduceLeDiff, Int.reduceLT, Int.reduceLE, ↓u_setN]
    obtain ⟨τ2, q1, q2⟩ := PJ.swap ⟨τ, p1, hT2⟩
    refine (s47 q2 (by rw [hJ.len]; omega) hns (fun j => getA ks (j : Int)) (fun j hj hp => ?_) (attrsA x) hfa).Q ?_
    · rw [hJ.n] at hp
      exact ⟨by rw [List.getElem?_eq_getElem (by rw [hJ.ln2, ← hJ.len]; exact hj), hJ.row j (by rw [hJ.ln2, ← hJ.len]; exact hj) hp], getA_ok hkk _⟩
    rintro r s3 ⟨m', e', rows', ns', rfl, hA2, hR3⟩
    obtain ⟨rfl, rfl, hJ'⟩ := hJ.add hkk (by omega) hAU hA2
    simp only [eqSelf, ↓vcPre, ↓wit_get, ↓reduceIte, vcPost, vcStd, Nat.reduceEqDiff, reduceCtorEq, Nat.reduceAdd, Nat.reduceLeDiff, Int.reduceLT, Int.reduceLE, ↓u_setN]
    exact EndQ.to _ _ rfl (Store.sub_refl _) ⟨rfl, ks', rows', ns', PJ.back q1 hR3, hJ'⟩
  · have hd := RJ.drop hkk hJ x.id
    have hnn := nsAt_rj hJ x.id
    have h0 := uses_le (by omega) hkk x.id
    have he : (if 0 < usesAt ks x.id then (0 : Int) else 22) = if nsAt ns x.id = 0 then 22 else 0 := by
      rw [hnn]; split <;> split <;> omega
    refine ⟨?_, ?_⟩
    · obtain ⟨τ, p1, p2, p3⟩ := h'.over
      refine (s27 (by omega) p2 x.id).Q ?_
      intro r s2 hh2
      have hr2 := hh2.1
      have hT2 := hh2.2
      clear hh2
      rw [hr2, he]
      have hTi : T i = s2 i := by
        rw [hTb]; exact (hT2.2.1 _ _ (p3 _ _ hTb (h.ne hi) (fun L h => by cases h))).symm
      simp only [← hTi, hTb, ↓vcPre, ↓wit_get, ↓reduceIte, vcPost, vcStd, Nat.reduceEqDiff, reduceCtorEq, Nat.reduceAdd, Nat.reduceLeDiff, Int.reduceLT, Int.reduceLE, ↓u_setN]
      obtain ⟨τ2, q1, q2⟩ := PJ.swap ⟨τ, p1, hT2⟩
      refine (s48 q2 (by rw [hJ.len]; omega) hns x.id).Q ?_
      intro r s3 hh3
      have hr3 := hh3.1
      have hR3 := hh3.2
      clear hh3
      rw [hr3]
      simp only [eqSelf, ↓vcPre, ↓wit_get, ↓reduceIte, vcPost, vcStd, Nat.reduceEqDiff, reduceCtorEq, Nat.reduceAdd, Nat.reduceLeDiff, Int.reduceLT, Int.reduceLE, ↓u_setN]
      exact EndQ.to _ _ rfl (Store.sub_refl _) ⟨rfl, _, _, _, (PJ.back q1 hR3).up (by omega), hd⟩
    · obtain ⟨τ, p1, p2, p3⟩ := h'.over
      refine (s27 (by omega) p2 x.id).Q ?_
      intro r s2 hh2
      have hr2 := hh2.1
      have hT2 := hh2.2
      clear hh2
      rw [hr2, he]
      simp only [↓vcPre, ↓wit_get, ↓reduceIte, vcPost, vcStd, Nat.reduceEqDiff, reduceCtorEq, Nat.reduceAdd, Nat.reduceLeDiff, Int.reduceLT, Int.reduceLE, ↓u_setN]
      obtain ⟨τ2, q1, q2⟩ := PJ.swap ⟨τ, p1, hT2⟩
      refine (s48 q2 (by rw [hJ.len]; omega) hns x.id).Q ?_
      intro r s3 hh3
      have hr3 := hh3.1
      have hR3 := hh3.2
      clear hh3
      rw [hr3]
      simp only [eqSelf, ↓vcPre, ↓wit_get, ↓reduceIte, vcPost, vcStd, Nat.reduceEqDiff, reduceCtorEq, Nat.reduceAdd, Nat.reduceLeDiff, Int.reduceLT, Int.reduceLE, ↓u_setN]
      exact EndQ.to _ _ rfl (Store.sub_refl _) ⟨rfl, _, _, _, (PJ.back q1 hR3).up (by omega), hd⟩
theorem bneAll (b : Bool) : (b != b) = false := by cases b <;> rfl
set_option maxHeartbeats 400000 in
/-- The two tables tell the same. -/
theorem s18 {B : Int} (hB0 : 1 ≤ B) (hB : B ≤ 10000) {R : Nat} (hR : R ≤ 1000) {σ s : Store} {id q : Nat} {ks : List KS} {rows : List (List AV)} {ns : List Int} (h : PJ B R σ id q ks rows ns s) (hJ : RJ R ks rows ns) :
    ACalls Try.prog 18 [.ptr id 0, .ptr q 0] s (fun r s' => r = .bool true ∧ s' = s) := by
  refine calls_of Tst.F18 (by simp [Tst.F18, Fn.mkX]) ?_
  simp only [Tst.F18, Fn.mkX, Tst.b18]
  have hTI : ∀ {s}, PJ B R σ id q ks rows ns s → ∃ τ, TI B τ id R ks s := fun {s} h => by obtain ⟨τ, _, h2⟩ := h; exact ⟨τ, h2⟩
  have hkk : ∀ k ∈ ks, k.ok B := by obtain ⟨τ, h2⟩ := hTI h; exact h2.2.2.1
  have e9 : ∀ x : At, x.c.length = 9 := fun _ => rfl
  have t9 : ∀ x : At, List.take 9 x.c = x.c := fun _ => rfl
  have hn : ns.length ≤ 1000000 := by rw [hJ.len]; omega
  have hnl := hJ.len
  have hrl := hJ.ln2
  simp only [↓vcPre, ↓wit_get, ↓reduceIte, vcPost, vcStd, Nat.reduceEqDiff, reduceCtorEq, Nat.reduceAdd, Nat.reduceLeDiff, Int.reduceLT, Int.reduceLE, ↓u_setN]
  refine LoopQ.inv (S := Nat) (fun k => [(0, .ptr id 0), (1, .ptr q 0), (5, .int .i64 ((k : Int) - 1))]) (fun _ => s) (fun k => k ≤ R + 2) (fun k => R + 3 - k) 0 rfl (Store.sub_refl _) (by omega) ?_
  intro k hk
  obtain ⟨h1, h2, h3, h4, h5, gA, gN, h6, h7, h8, h9, h10⟩ := h.ri
  simp only [h6, ↓vcPre, ↓wit_get, ↓reduceIte, vcPost, vcStd, Nat.reduceEqDiff, reduceCtorEq, Nat.reduceAdd, Nat.reduceLeDiff, Int.reduceLT, Int.reduceLE, ↓u_setN]
  have ek : IntKind.i64.wrap ((k : Int) - 1 + 1) = ((k + 1 : Nat) : Int) - 1 := by rw [wrap64 (by unfold I64; omega)]; omega
  refine ⟨fun c1 => ?_, fun c1 => ?_⟩
  · obtain ⟨τ, hT⟩ := hTI h
    refine (s23 hT ((k : Int) - 1)).Q ?_
    rintro r s2 ⟨rfl, rfl⟩
    simp only [↓vcPre, ↓wit_get, ↓reduceIte, vcPost, vcStd, Nat.reduceEqDiff, reduceCtorEq, Nat.reduceAdd, Nat.reduceLeDiff, Int.reduceLT, Int.reduceLE, ↓u_setN]
    refine AllocQ.i0 fun b hb => ?_
    simp only [↓vcPre, ↓wit_get, ↓reduceIte, vcPost, vcStd, Nat.reduceEqDiff, reduceCtorEq, Nat.reduceAdd, Nat.reduceLeDiff, Int.reduceLT, Int.reduceLE, ↓u_setN]
    have p9 : ∀ z : List AV, z.length = 9 → splice 0 (getA ks ((k : Int) - 1)).c z = some (getA ks ((k : Int) - 1)).c := fun z hz => splice_all _ _ (by rw [hz]; rfl)
    refine ⟨rfl, ?_⟩
    rw [p9 _ rfl, wit_some, Store.set_set]
    have hsb := Store.sub_set s2 b (.box (getA ks ((k : Int) - 1)).c) hb
    have hTb : (s2.set b (.box (getA ks ((k : Int) - 1)).c)) b = some (.box (getA ks ((k : Int) - 1)).c) := Store.set_same _ _ _
    have hP := h.mono hsb
    generalize s2.set b (.box (getA ks ((k : Int) - 1)).c) = T at hsb hTb hP ⊢
    refine (s49 hP.ri hn _).Q ?_
    rintro r s3 ⟨rfl, rfl⟩
    simp only [↓vcPre, ↓wit_get, ↓reduceIte, vcPost, vcStd, Nat.reduceEqDiff, reduceCtorEq, Nat.reduceAdd, Nat.reduceLeDiff, Int.reduceLT, Int.reduceLE, ↓u_setN]
    obtain ⟨τ3, hT3⟩ := hTI hP
    refine (s26 hT3 _).Q ?_
    rintro r s4 ⟨rfl, rfl⟩
    have hnn := nsAt_rj hJ ((k : Int) - 1)
    rw [hnn]
    simp only [bneAll, ↓vcPre, ↓wit_get, ↓reduceIte, vcPost, vcStd, Nat.reduceEqDiff, reduceCtorEq, Nat.reduceAdd, Nat.reduceLeDiff, Int.reduceLT, Int.reduceLE, ↓u_setN]
    refine ⟨fun c2 => ?_, fun c2 => ?_⟩
    · simp only [hTb, hsb _ _ h6, hsb _ _ h9, ↓vcPre, ↓wit_get, ↓reduceIte, vcPost, vcStd, Nat.reduceEqDiff, reduceCtorEq, Nat.reduceAdd, Nat.reduceLeDiff, Int.reduceLT, Int.reduceLE, ↓u_setN]
      obtain ⟨m, rfl⟩ : ∃ m, k = m + 1 := ⟨k - 1, by
        apply Classical.byContradiction; intro hk0
        have : k = 0 := by omega
        subst this
        rw [usesAt_out (by omega)] at c2; omega⟩
      have em : ((m + 1 : Nat) : Int) - 1 = m := by omega
      rw [em] at c2 ⊢
      have hm : m < ks.length := by
        apply Classical.byContradiction; intro h
        rw [uses_big (by omega)] at c2; omega
      have hmr : m < rows.length := by have := hJ.le; omega
      have hrow := hJ.row m hmr c2
      simp only [Nat.zero_add]
      refine ⟨Nat.le_refl _, by omega, by omega, ?_⟩
      simp only [Int.toNat_natCast, hrow, t9, e9]
      refine ⟨Nat.le_refl _, (c25 _ _ (getA_ok hkk _) (getA_ok hkk _)).Q ?_⟩
      rw [show decide (getA ks (m : Int) = getA ks (m : Int)) = true by simp]
      simp only [↓vcPre, ↓wit_get, ↓reduceIte, vcPost, vcStd, Nat.reduceEqDiff, reduceCtorEq, Nat.reduceAdd, Nat.reduceLeDiff, Int.reduceLT, Int.reduceLE, ↓u_setN]
      rw [em] at ek
      rw [ek]
      exact NextQ.to (m + 1 + 1) rfl hsb (by omega) (by omega)
    · rw [ek]
      exact NextQ.to (k + 1) rfl hsb (by omega) (by omega)
  · obtain ⟨τ, hT⟩ := hTI h
    refine (s28 hT).Q ?_
    rintro r s2 ⟨rfl, rfl⟩
    simp only [↓vcPre, ↓wit_get, ↓reduceIte, vcPost, vcStd, Nat.reduceEqDiff, reduceCtorEq, Nat.reduceAdd, Nat.reduceLeDiff, Int.reduceLT, Int.reduceLE, ↓u_setN]
    refine (s50 h.ri hn).Q ?_
    rintro r s3 ⟨rfl, rfl⟩
    rw [hJ.count hkk]
    simp only [eqSelf, ↓vcPre, ↓wit_get, ↓reduceIte, vcPost, vcStd, Nat.reduceEqDiff, reduceCtorEq, Nat.reduceAdd, Nat.reduceLeDiff, Int.reduceLT, Int.reduceLE, ↓u_setN]
    exact EndQ.to _ _ rfl (Store.sub_refl _) ⟨rfl, rfl⟩
end Go.Am

/- LA5 -/
namespace Go.Am
open Go.Proofs
theorem wfI {n : Int} (h : (Lit.int .i64 n).wf = true) : I64 n := by
  simp only [Lit.wf, Bool.and_eq_true, decide_eq_true_eq] at h
  exact h
theorem lawRooms (room : Int) (hr : I64 room) (drop : Int) (hd : I64 drop) : Pur Try.prog 5 [.int .i64 room, .int .i64 drop] (.bool true) := law5 room drop hr hd
end Go.Am

/- E4 -/
namespace Go.Am
open Go.Proofs Go.Sort
theorem lawPlays (room : Int) (hr : I64 room) (l : List Ask) (hl : Small l) (hlo : ∀ r ∈ l, I64 r.kind ∧ I64 r.id) : Pur Try.prog 3 [.int .i64 room, .sl 12 (l.map Ask.c)] (.bool true) := by
  refine pur_of Tst.F3 (by simp [Tst.F3, Fn.mkX]) fun σ => ?_
  simp only [Tst.F3, Fn.mkX, Tst.b3]
  simp only [↓vcPre, ↓wit_get, ↓reduceIte, vcPost, vcStd, Nat.reduceEqDiff, reduceCtorEq, Nat.reduceAdd, Nat.reduceLeDiff, Int.reduceLT, Int.reduceLE, ↓u_setN]
  refine (c14 room 0 9 hr (by omega) (by omega) (by omega)).Q ?_
  obtain ⟨p, hp, hp2⟩ : ∃ p : Nat, (0 : Int) + room % (9 - 0 + 1) = p ∧ p ≤ 9 := ⟨(room % 10).toNat, by omega, by omega⟩
  rw [hp]
  have hw : IntKind.i64.wrap (1 + (p : Int)) = ((p + 1 : Nat) : Int) := by rw [wrap64 (by unfold I64; omega)]; omega
  simp only [↓vcPre, ↓wit_get, ↓reduceIte, vcPost, vcStd, Nat.reduceEqDiff, reduceCtorEq, Nat.reduceAdd, Nat.reduceLeDiff, Int.reduceLT, Int.reduceLE, ↓u_setN]
  rw [hw]
  refine (new_ok (room := ((p + 1 : Nat) : Int)) (by omega) σ 1).Q ?_
  rintro r s ⟨id, rfl, hT⟩
  simp only [↓vcPre, ↓wit_get, ↓reduceIte, vcPost, vcStd, Nat.reduceEqDiff, reduceCtorEq, Nat.reduceAdd, Nat.reduceLeDiff, Int.reduceLT, Int.reduceLE, ↓u_setN]
  refine (s16 (p + 1) (by omega) (by omega) s).Q ?_
  rintro r s2 ⟨q, rfl, hR⟩
  have hP0 : PJ 1 (p + 1) σ id q [] (List.replicate (p + 1) zCells) (List.replicate (p + 1) 0) s2 := PJ.back hT hR
  unfold Small at hl
  simp only [↓vcPre, ↓wit_get, ↓reduceIte, vcPost, vcStd, Nat.reduceEqDiff, reduceCtorEq, Nat.reduceAdd, Nat.reduceLeDiff, Int.reduceLT, Int.reduceLE, ↓u_setN]
  refine LoopQ.inv (S := Nat × (List KS × List (List AV) × List Int) × Store) (fun w => [(1, .sl 12 (l.map Ask.c)), (5, .ptr id 0), (7, .ptr q 0), (8, .int .i64 (w.1 : Int))]) (fun w => w.2.2) (fun w => w.1 ≤ l.length ∧ w.1 ≤ 60 ∧ PJ (1 + w.1) (p + 1) σ id q w.2.1.1 w.2.1.2.1 w.2.1.2.2 w.2.2 ∧ RJ (p + 1) w.2.1.1 w.2.1.2.1 w.2.1.2.2) (fun w => 61 - w.1) (0, ([], List.replicate (p + 1) zCells, List.replicate (p + 1) 0), s2) rfl (Store.sub_refl _) ⟨by simp only; omega, by simp only; omega, by simpa using hP0, RJ.init _⟩ ?_
  rintro ⟨i, ⟨ks, rows, ns⟩, s⟩ ⟨hi, hi2, hP, hJ⟩
  simp only at hi hi2 hP hJ
  simp only [↓vcPre, ↓wit_get, ↓reduceIte, vcPost, vcStd, Nat.reduceEqDiff, reduceCtorEq, Nat.reduceAdd, Nat.reduceLeDiff, Int.reduceLT, Int.reduceLE, ↓u_setN]
  have sub : Store.sub σ s := hP.ri.2.1
  refine ⟨fun c1 => ⟨fun c2 => ?_, fun c2 => ?_⟩, fun c1 => ?_⟩
  · refine ⟨c1, by simp [Ask.c, At.c], ?_⟩
    have ht : List.take 12 l[i].c = l[i].c := rfl
    rw [ht]
    refine (s17 (by omega) (by omega) (by omega) hP hJ l[i] (hlo _ (List.getElem_mem c1)).2).Q ?_
    rintro r s3 ⟨rfl, ks', rows', ns', hP', hJ'⟩
    simp only [↓vcPre, ↓wit_get, ↓reduceIte, vcPost, vcStd, Nat.reduceEqDiff, reduceCtorEq, Nat.reduceAdd, Nat.reduceLeDiff, Int.reduceLT, Int.reduceLE, ↓u_setN]
    refine (s18 (by omega) (by omega) (by omega) hP' hJ').Q ?_
    rintro r s4 ⟨rfl, rfl⟩
    simp only [↓vcPre, ↓wit_get, ↓reduceIte, vcPost, vcStd, Nat.reduceEqDiff, reduceCtorEq, Nat.reduceAdd, Nat.reduceLeDiff, Int.reduceLT, Int.reduceLE, ↓u_setN]
    have ei : IntKind.i64.wrap ((i : Int) + 1) = ((i + 1 : Nat) : Int) := by rw [wrap64 (by unfold I64; omega)]; omega
    rw [ei]
    exact NextQ.to (i + 1, (ks', rows', ns'), s4) rfl (Store.sub_refl _) (by simp only; omega) ⟨by simp only; omega, by simp only; omega, hP'.up (by omega), hJ'⟩
  · refine TstRun19.c19.Q ?_
    simp only [↓vcPre, ↓wit_get, ↓reduceIte, vcPost, vcStd, Nat.reduceEqDiff, reduceCtorEq, Nat.reduceAdd, Nat.reduceLeDiff, Int.reduceLT, Int.reduceLE, ↓u_setN]
    exact sub
  · refine TstRun19.c19.Q ?_
    simp only [↓vcPre, ↓wit_get, ↓reduceIte, vcPost, vcStd, Nat.reduceEqDiff, reduceCtorEq, Nat.reduceAdd, Nat.reduceLeDiff, Int.reduceLT, Int.reduceLE, ↓u_setN]
    exact sub
end Go.Am
