/- A part of the proof: a logic for calls over plain values, and the functions that the law reaches, each walked once. -/
import Derived.Test.YtjmkofmkkpenmaaGreatPD25
set_option linter.unusedVariables false
set_option linter.unusedSimpArgs false
set_option linter.unusedSectionVars false

namespace Go.Am.Tst
open Go.Proofs
/-- signpost/signpostbook.Within -/
def b19 : BC := .seq (.ops [⟨some 6, none, .pure (.mov), [.c (.int .i64 0)]⟩] [0, 1, 2]) (.seq (.ops [⟨some 7, none, .pure (.mov), [.t 0]⟩, ⟨some 8, none, .pure (.mov), [.t 2]⟩, ⟨some 9, none, .pure (.mov), [.t 1]⟩, ⟨some 10, none, .pure (.bin .sub), [.t 8, .t 9]⟩, ⟨some 11, none, .pure (.bin .add), [.t 10, .c (.int .i64 1)]⟩, ⟨some 12, none, .pure (.bin .rem), [.t 7, .t 11]⟩, ⟨some 0, none, .pure (.mov), [.t 12]⟩] [0, 1, 2]) (.seq (.seq (.ops [⟨some 13, none, .pure (.mov), [.t 0]⟩, ⟨some 14, none, .pure (.bin .lss), [.t 13, .c (.int .i64 0)]⟩] [0, 1, 2, 14]) (.cond (.t 14) (.ops [⟨some 15, none, .pure (.mov), [.t 0]⟩, ⟨some 16, none, .pure (.mov), [.t 2]⟩, ⟨some 17, none, .pure (.bin .add), [.t 15, .t 16]⟩, ⟨some 18, none, .pure (.mov), [.t 1]⟩, ⟨some 19, none, .pure (.bin .sub), [.t 17, .t 18]⟩, ⟨some 20, none, .pure (.bin .add), [.t 19, .c (.int .i64 1)]⟩, ⟨some 0, none, .pure (.mov), [.t 20]⟩] [0, 1]) (.skip))) (.seq (.ops [⟨some 21, none, .pure (.mov), [.t 1]⟩, ⟨some 22, none, .pure (.mov), [.t 0]⟩, ⟨some 23, none, .pure (.bin .add), [.t 21, .t 22]⟩, ⟨some 6, none, .pure (.mov), [.t 23]⟩] [6]) (.ret))))
def F19 : Fn Tryz.prog 19 := Fn.mkX false b19 [.t 6] 24 Tryz.f19 _ Tryz.func19 (by decide) rfl Tryz.ntmps19 (by kernel_rfl) (by kernel_rfl)
/-- signpost/signpostlaw7.known -/
def b20 : BC := .seq (.ops [⟨some 0, none, .pure (.mov), [.c (.bool false)]⟩] []) (.seq (.ops [⟨some 8, none, .alloc (.mksl 1 4), [.c (.int .u8 64), .c (.int .u8 1), .c (.int .u8 1), .c (.int .u8 3)]⟩, ⟨some 9, none, .loud (.call 31), [.t 8, .c (.bool false)]⟩, ⟨some 7, none, .pure (.mov), [.t 9]⟩, ⟨some 10, none, .pure (.ext 0), [.t 7]⟩, ⟨some 11, none, .pure (.ext 1), [.t 7]⟩, ⟨some 12, none, .pure (.ext 2), [.t 7]⟩, ⟨some 1, none, .alloc (.alloc [(.int .i64 0), .nils, (.int .u32 0), (.bool false), (.int .u32 0), (.bool false), (.int .u32 0), (.bool false), .nils]), []⟩, ⟨some 3, none, .alloc (.alloc [(.int .i64 0), (.int .i64 0), .nils]), []⟩, ⟨none, none, .loud (.st 9), [.t 1, .t 10]⟩, ⟨some 2, none, .pure (.mov), [.t 11]⟩, ⟨none, none, .loud (.st 3), [.t 3, .t 12]⟩] [3]) (.seq (.ops [⟨some 14, none, .alloc (.mksl 1 4), [.c (.int .u8 64), .c (.int .u8 1), .c (.int .u8 1), .c (.int .u8 2)]⟩, ⟨some 15, none, .loud (.call 31), [.t 14, .c (.bool false)]⟩, ⟨some 13, none, .pure (.mov), [.t 15]⟩, ⟨some 16, none, .pure (.ext 0), [.t 13]⟩, ⟨some 17, none, .pure (.ext 1), [.t 13]⟩, ⟨some 18, none, .pure (.ext 2), [.t 13]⟩, ⟨some 4, none, .alloc (.alloc [(.int .i64 0), .nils, (.int .u32 0), (.bool false), (.int .u32 0), (.bool false), (.int .u32 0), (.bool false), .nils]), []⟩, ⟨some 6, none, .alloc (.alloc [(.int .i64 0), (.int .i64 0), .nils]), []⟩, ⟨none, none, .loud (.st 9), [.t 4, .t 16]⟩, ⟨some 5, none, .pure (.mov), [.t 17]⟩, ⟨none, none, .loud (.st 3), [.t 6, .t 18]⟩] [3, 4, 5, 6]) (.seq (.ops [⟨some 19, none, .pure (.fld 0), [.t 3]⟩, ⟨some 20, none, .load (.ld 1 false), [.t 19]⟩, ⟨some 21, none, .pure (.bin .eql), [.t 20, .c (.int .i64 3)]⟩, ⟨some 22, none, .pure (.mov), [.t 21]⟩, ⟨some 23, some (22, true), .pure (.fld 1), [.t 3]⟩, ⟨some 24, some (22, true), .load (.ld 1 false), [.t 23]⟩, ⟨some 25, some (22, true), .pure (.bin .eql), [.t 24, .c (.int .i64 6)]⟩, ⟨some 26, none, .pick, [.t 22, .t 25, .c (.bool false)]⟩, ⟨some 27, none, .pure (.mov), [.t 26]⟩, ⟨some 28, some (27, true), .pure (.fld 2), [.t 3]⟩, ⟨some 29, some (27, true), .load (.ld 1 false), [.t 28]⟩, ⟨some 30, some (27, true), .load (.str), [.t 29]⟩, ⟨some 31, some (27, true), .pure (.eqs false), [.t 30, .c (.str ⟨[64, 1, 1, 3].toArray⟩)]⟩, ⟨some 32, none, .pick, [.t 27, .t 31, .c (.bool false)]⟩, ⟨some 33, none, .pure (.mov), [.t 32]⟩, ⟨some 34, some (33, true), .pure (.fld 0), [.t 4]⟩, ⟨some 35, some (33, true), .load (.ld 1 false), [.t 34]⟩, ⟨some 36, some (33, true), .pure (.bin .eql), [.t 35, .c (.int .i64 2)]⟩, ⟨some 37, none, .pick, [.t 33, .t 36, .c (.bool false)]⟩, ⟨some 38, none, .pure (.mov), [.t 37]⟩, ⟨some 39, some (38, true), .pure (.mov), [.t 5]⟩, ⟨some 40, some (38, true), .alloc (.mksl 1 1), [.c (.int .i64 1)]⟩, ⟨some 41, some (38, true), .loud (.call 33), [.t 39, .t 40]⟩, ⟨some 42, none, .pick, [.t 38, .t 41, .c (.bool false)]⟩, ⟨some 43, none, .pure (.mov), [.t 42]⟩, ⟨some 44, some (43, true), .pure (.fld 0), [.t 6]⟩, ⟨some 45, some (43, true), .load (.ld 1 false), [.t 44]⟩, ⟨some 46, some (43, true), .pure (.bin .eql), [.t 45, .c (.int .i64 0)]⟩, ⟨some 47, none, .pick, [.t 43, .t 46, .c (.bool false)]⟩, ⟨some 48, none, .pure (.mov), [.t 47]⟩, ⟨some 49, some (48, true), .loud (.call 34), [.c (.int .u32 16777216)]⟩, ⟨some 50, none, .pick, [.t 48, .t 49, .c (.bool false)]⟩, ⟨some 51, none, .pure (.mov), [.t 50]⟩, ⟨some 52, some (51, true), .loud (.call 34), [.c (.int .u32 2130706433)]⟩, ⟨some 53, some (51, true), .pure (.not), [.t 52]⟩, ⟨some 54, none, .pick, [.t 51, .t 53, .c (.bool false)]⟩, ⟨some 0, none, .pure (.mov), [.t 54]⟩] [0]) (.ret))))
def F20 : Fn Tryz.prog 20 := Fn.mkX false b20 [.t 0] 55 Tryz.f20 _ Tryz.func20 (by decide) rfl Tryz.ntmps20 (by kernel_rfl) (by kernel_rfl)
/-- signpost/signpostref4.U16 -/
def b26 : BC := .seq (.ops [⟨some 4, none, .pure (.mov), [.c .nils]⟩] [0, 1]) (.seq (.ops [⟨some 5, none, .alloc (.mksl 1 0), []⟩, ⟨some 6, none, .pure (.mov), [.t 0]⟩, ⟨some 7, none, .loud (.app 1 1), [.t 5, .t 6]⟩, ⟨some 8, none, .pure (.mov), [.t 1]⟩, ⟨some 9, none, .pure (.bin .shr), [.t 8, .c (.int .u64 8)]⟩, ⟨some 10, none, .pure (.conv .u8), [.t 9]⟩, ⟨some 11, none, .pure (.mov), [.t 1]⟩, ⟨some 12, none, .pure (.conv .u8), [.t 11]⟩, ⟨some 13, none, .alloc (.mksl 1 2), [.t 10, .t 12]⟩, ⟨some 14, none, .loud (.app 1 1), [.t 7, .t 13]⟩, ⟨some 4, none, .pure (.mov), [.t 14]⟩] [4]) (.ret))
def F26 : Fn Tryz.prog 26 := Fn.mkX false b26 [.t 4] 15 Tryz.f26 _ Tryz.func26 (by decide) rfl Tryz.ntmps26 (by kernel_rfl) (by kernel_rfl)
/-- signpost/attr.Decode -/
def b31 : BC := .seq (.ops [⟨some 4, none, .alloc (.alloc [(.int .i64 0), .nils, (.int .u32 0), (.bool false), (.int .u32 0), (.bool false), (.int .u32 0), (.bool false), .nils]), []⟩, ⟨some 5, none, .pure (.mov), [.c .nils]⟩, ⟨some 6, none, .alloc (.alloc [(.int .i64 0), (.int .i64 0), .nils]), []⟩] [0, 1, 4, 6]) (.seq (.ops [⟨some 7, none, .alloc (.alloc [(.int .i64 0), .nils, (.int .u32 0), (.bool false), (.int .u32 0), (.bool false), (.int .u32 0), (.bool false), .nils]), []⟩] [0, 1, 4, 6, 7]) (.seq (.ops [⟨some 8, none, .pure (.mov), [.c .nils]⟩] [0, 1, 4, 6, 7, 8]) (.seq (.ops [⟨some 17, none, .alloc (.mkmap), []⟩, ⟨some 9, none, .pure (.mov), [.t 17]⟩] [0, 1, 4, 6, 7, 8, 9]) (.seq (.skip) (.seq (.block 0 (.loop [0, 1, 4, 6, 7, 8, 9] (.seq (.seq (.ops [⟨some 18, none, .pure (.mov), [.t 0]⟩, ⟨some 19, none, .pure (.len), [.t 18]⟩, ⟨some 20, none, .pure (.bin .gtr), [.t 19, .c (.int .i64 0)]⟩] [0, 1, 4, 6, 7, 8, 9, 20]) (.cond (.t 20) (.skip) (.exit 0))) (.block 1 (.seq (.ops [⟨some 22, none, .pure (.mov), [.t 0]⟩, ⟨some 23, none, .loud (.call 71), [.t 22]⟩, ⟨some 21, none, .pure (.mov), [.t 23]⟩, ⟨some 24, none, .pure (.ext 0), [.t 21]⟩, ⟨some 25, none, .pure (.ext 1), [.t 21]⟩, ⟨some 26, none, .pure (.ext 2), [.t 21]⟩, ⟨some 10, none, .alloc (.alloc [(.int .i64 0), (.int .i64 0), .nils, .nils]), []⟩, ⟨none, none, .loud (.st 4), [.t 10, .t 24]⟩, ⟨some 11, none, .pure (.mov), [.t 25]⟩, ⟨some 12, none, .pure (.mov), [.t 26]⟩] [1, 4, 6, 7, 8, 9, 10, 11, 12]) (.seq (.seq (.ops [⟨some 27, none, .pure (.mov), [.t 12]⟩, ⟨some 28, none, .pure (.not), [.t 27]⟩, ⟨some 29, none, .pure (.mov), [.t 28]⟩, ⟨some 30, some (29, false), .pure (.mov), [.t 9]⟩, ⟨some 31, some (29, false), .pure (.fld 1), [.t 10]⟩, ⟨some 32, some (29, false), .load (.ld 1 false), [.t 31]⟩, ⟨some 33, some (29, false), .load (.look false (.int .i64) (.bool false)), [.t 30, .t 32]⟩, ⟨some 34, none, .pick, [.t 29, .c (.bool true), .t 33]⟩] [1, 4, 6, 7, 8, 9, 10, 11, 34]) (.cond (.t 34) (.seq (.ops [⟨some 35, none, .pure (.build [(.int .i64 0), .nils, (.int .u32 0), (.bool false), (.int .u32 0), (.bool false), (.int .u32 0), (.bool false), .nils] []), []⟩, ⟨some 36, none, .loud (.call 72), [.c (.int .i64 1), .c .nils]⟩, ⟨none, none, .loud (.st 9), [.t 4, .t 35]⟩, ⟨some 5, none, .pure (.mov), [.c .nils]⟩, ⟨none, none, .loud (.st 3), [.t 6, .t 36]⟩] [4, 5, 6]) (.ret)) (.skip))) (.seq (.ops [⟨some 37, none, .pure (.mov), [.t 11]⟩, ⟨some 0, none, .pure (.mov), [.t 37]⟩] [0, 1, 4, 6, 7, 8, 9, 10]) (.seq (.ops [⟨some 38, none, .pure (.mov), [.t 9]⟩, ⟨some 39, none, .pure (.fld 1), [.t 10]⟩, ⟨some 40, none, .load (.ld 1 false), [.t 39]⟩, ⟨none, none, .loud (.mupd (.int .i64)), [.t 38, .t 40, .c (.bool true)]⟩] [0, 1, 4, 6, 7, 8, 9, 10]) (.seq (.seq (.ops [⟨some 41, none, .pure (.fld 1), [.t 10]⟩, ⟨some 42, none, .load (.ld 1 false), [.t 41]⟩, ⟨some 43, none, .pure (.bin .eql), [.t 42, .c (.int .i64 5)]⟩, ⟨some 44, none, .pure (.mov), [.t 43]⟩, ⟨some 45, some (44, true), .pure (.mov), [.t 1]⟩, ⟨some 46, some (44, true), .pure (.not), [.t 45]⟩, ⟨some 47, none, .pick, [.t 44, .t 46, .c (.bool false)]⟩] [0, 1, 4, 6, 7, 8, 9, 10, 47]) (.cond (.t 47) (.exit 1) (.skip))) (.seq (.seq (.ops [⟨some 49, none, .pure (.fld 1), [.t 10]⟩, ⟨some 50, none, .load (.ld 1 false), [.t 49]⟩, ⟨some 51, none, .loud (.call 73), [.t 50]⟩, ⟨some 48, none, .pure (.mov), [.t 51]⟩, ⟨some 52, none, .pure (.ext 0), [.t 48]⟩, ⟨some 53, none, .pure (.ext 1), [.t 48]⟩, ⟨some 54, none, .pure (.ext 2), [.t 48]⟩, ⟨some 13, none, .pure (.mov), [.t 52]⟩, ⟨some 14, none, .pure (.mov), [.t 53]⟩, ⟨some 15, none, .pure (.mov), [.t 54]⟩] [0, 1, 4, 6, 7, 8, 9, 10, 15]) (.seq (.ops [⟨some 55, none, .pure (.mov), [.t 15]⟩, ⟨some 56, none, .pure (.not), [.t 55]⟩] [0, 1, 4, 6, 7, 8, 9, 10, 56]) (.cond (.t 56) (.seq (.seq (.ops [⟨some 57, none, .pure (.fld 0), [.t 10]⟩, ⟨some 58, none, .load (.ld 1 false), [.t 57]⟩, ⟨some 59, none, .pure (.bin .and), [.t 58, .c (.int .i64 128)]⟩, ⟨some 60, none, .pure (.bin .eql), [.t 59, .c (.int .i64 0)]⟩] [0, 1, 4, 6, 7, 8, 9, 10, 60]) (.cond (.t 60) (.seq (.ops [⟨some 61, none, .pure (.build [(.int .i64 0), .nils, (.int .u32 0), (.bool false), (.int .u32 0), (.bool false), (.int .u32 0), (.bool false), .nils] []), []⟩, ⟨some 62, none, .pure (.fld 3), [.t 10]⟩, ⟨some 63, none, .load (.ld 1 false), [.t 62]⟩, ⟨some 64, none, .loud (.call 72), [.c (.int .i64 2), .t 63]⟩, ⟨none, none, .loud (.st 9), [.t 4, .t 61]⟩, ⟨some 5, none, .pure (.mov), [.c .nils]⟩, ⟨none, none, .loud (.st 3), [.t 6, .t 64]⟩] [4, 5, 6]) (.ret)) (.skip))) (.seq (.ops [⟨some 65, none, .pure (.mov), [.t 8]⟩, ⟨some 66, none, .pure (.fld 1), [.t 10]⟩, ⟨some 67, none, .load (.ld 1 false), [.t 66]⟩, ⟨some 68, none, .alloc (.mksl 1 1), [.t 67]⟩, ⟨some 69, none, .loud (.app 1 8), [.t 65, .t 68]⟩, ⟨some 8, none, .pure (.mov), [.t 69]⟩] [0, 1, 4, 6, 7, 8, 9]) (.exit 1))) (.skip)))) (.seq (.seq (.ops [⟨some 70, none, .load (.ld 4 true), [.t 10]⟩, ⟨some 71, none, .loud (.call 74), [.t 7, .t 70]⟩, ⟨some 16, none, .alloc (.alloc [(.int .i64 0), (.int .i64 0), .nils]), []⟩, ⟨none, none, .loud (.st 3), [.t 16, .t 71]⟩] [0, 1, 4, 6, 7, 8, 9, 10, 16]) (.seq (.ops [⟨some 72, none, .pure (.fld 0), [.t 16]⟩, ⟨some 73, none, .load (.ld 1 false), [.t 72]⟩, ⟨some 74, none, .pure (.bin .neq), [.t 73, .c (.int .i64 0)]⟩] [0, 1, 4, 6, 7, 8, 9, 10, 16, 74]) (.cond (.t 74) (.seq (.seq (.ops [⟨some 75, none, .pure (.build [(.int .i64 0), .nils, (.int .u32 0), (.bool false), (.int .u32 0), (.bool false), (.int .u32 0), (.bool false), .nils] []), []⟩] [4, 6, 16, 75]) (.both (.seq (.ops [⟨some 76, none, .load (.ld 3 true), [.t 16]⟩] [4, 6, 75, 76]) (.seq (.ops [⟨none, none, .loud (.st 9), [.t 4, .t 75]⟩] [4, 6, 76]) (.seq (.ops [⟨some 5, none, .pure (.mov), [.c .nils]⟩] [4, 5, 6, 76]) (.seq (.ops [⟨none, none, .loud (.st 3), [.t 6, .t 76]⟩] [4, 5, 6]) (.ops [] [4, 5, 6]))))) (.both (.seq (.ops [⟨none, none, .loud (.st 9), [.t 4, .t 75]⟩] [4, 6, 16]) (.seq (.ops [⟨some 5, none, .pure (.mov), [.c .nils]⟩] [4, 5, 6, 16]) (.seq (.ops [⟨some 76, none, .load (.ld 3 true), [.t 16]⟩] [4, 5, 6, 76]) (.seq (.ops [⟨none, none, .loud (.st 3), [.t 6, .t 76]⟩] [4, 5, 6]) (.ops [] [4, 5, 6]))))) (.top)))) (.ret)) (.skip)))) (.ops [⟨some 77, none, .pure (.mov), [.t 8]⟩, ⟨some 78, none, .pure (.fld 1), [.t 10]⟩, ⟨some 79, none, .load (.ld 1 false), [.t 78]⟩, ⟨some 80, none, .alloc (.mksl 1 1), [.t 79]⟩, ⟨some 81, none, .loud (.app 1 8), [.t 77, .t 80]⟩, ⟨some 8, none, .pure (.mov), [.t 81]⟩] [0, 1, 4, 6, 7, 8, 9])))))))))))) (.seq (.ops [⟨some 82, none, .pure (.mov), [.t 8]⟩, ⟨some 83, none, .loud (.call 75), [.t 82]⟩] [4, 6, 7, 8]) (.seq (.ops [⟨some 84, none, .load (.ld 9 true), [.t 7]⟩, ⟨some 85, none, .loud (.call 76), [.t 84]⟩, ⟨some 86, none, .pure (.mov), [.t 8]⟩, ⟨some 87, none, .pure (.build [(.int .i64 0), (.int .i64 0), .nils] []), []⟩, ⟨none, none, .loud (.st 9), [.t 4, .t 85]⟩, ⟨some 5, none, .pure (.mov), [.t 86]⟩, ⟨none, none, .loud (.st 3), [.t 6, .t 87]⟩] [4, 5, 6]) (.ret))))))))
def F31 : Fn Tryz.prog 31 := Fn.mkX false b31 [.c 4 9 true, .t 5, .c 6 3 true] 88 Tryz.f31 _ Tryz.func31 (by decide) rfl Tryz.ntmps31 (by kernel_rfl) (by kernel_rfl)
/-- signpost/signpostbook.Same[int] -/
def b33 : BC := .seq (.ops [⟨some 4, none, .pure (.mov), [.c (.bool false)]⟩] [0, 1]) (.seq (.seq (.ops [⟨some 6, none, .pure (.mov), [.t 0]⟩, ⟨some 7, none, .pure (.len), [.t 6]⟩, ⟨some 8, none, .pure (.mov), [.t 1]⟩, ⟨some 9, none, .pure (.len), [.t 8]⟩, ⟨some 10, none, .pure (.bin .neq), [.t 7, .t 9]⟩] [0, 1, 10]) (.cond (.t 10) (.seq (.ops [⟨some 4, none, .pure (.mov), [.c (.bool false)]⟩] [4]) (.ret)) (.skip))) (.seq (.seq (.ops [⟨some 5, none, .pure (.mov), [.c (.int .i64 0)]⟩] [0, 1, 5]) (.block 0 (.loop [0, 1, 5] (.seq (.seq (.ops [⟨some 11, none, .pure (.mov), [.t 5]⟩, ⟨some 12, none, .pure (.mov), [.t 0]⟩, ⟨some 13, none, .pure (.len), [.t 12]⟩, ⟨some 14, none, .pure (.bin .lss), [.t 11, .t 13]⟩] [0, 1, 5, 14]) (.cond (.t 14) (.skip) (.exit 0))) (.seq (.block 1 (.seq (.ops [⟨some 17, none, .pure (.mov), [.t 0]⟩, ⟨some 18, none, .pure (.mov), [.t 5]⟩, ⟨some 19, none, .pure (.idx 1), [.t 17, .t 18]⟩, ⟨some 21, none, .pure (.mov), [.t 1]⟩, ⟨some 22, none, .pure (.mov), [.t 5]⟩, ⟨some 23, none, .pure (.idx 1), [.t 21, .t 22]⟩, ⟨some 20, none, .load (.ld 1 false), [.t 19]⟩, ⟨some 24, none, .load (.ld 1 false), [.t 23]⟩, ⟨some 25, none, .pure (.bin .neq), [.t 20, .t 24]⟩] [0, 1, 5, 25]) (.cond (.t 25) (.seq (.ops [⟨some 4, none, .pure (.mov), [.c (.bool false)]⟩] [4]) (.ret)) (.skip)))) (.ops [⟨some 15, none, .pure (.mov), [.t 5]⟩, ⟨some 16, none, .pure (.bin .add), [.t 15, .c (.int .i64 1)]⟩, ⟨some 5, none, .pure (.mov), [.t 16]⟩] [0, 1, 5])))))) (.seq (.ops [⟨some 4, none, .pure (.mov), [.c (.bool true)]⟩] [4]) (.ret))))
def F33 : Fn Tryz.prog 33 := Fn.mkX false b33 [.t 4] 26 Tryz.f33 _ Tryz.func33 (by decide) rfl Tryz.ntmps33 (by kernel_rfl) (by kernel_rfl)
/-- signpost/signpostref7.Good -/
def b35 : BC := .seq (.ops [⟨some 2, none, .pure (.mov), [.c (.bool false)]⟩] [0]) (.seq (.ops [⟨some 4, none, .pure (.mov), [.t 0]⟩, ⟨some 5, none, .pure (.bin .shr), [.t 4, .c (.int .u64 24)]⟩, ⟨some 3, none, .pure (.mov), [.t 5]⟩] [3]) (.seq (.ops [⟨some 6, none, .pure (.mov), [.t 3]⟩, ⟨some 7, none, .pure (.bin .neq), [.t 6, .c (.int .u32 0)]⟩, ⟨some 8, none, .pure (.mov), [.t 7]⟩, ⟨some 9, some (8, true), .pure (.mov), [.t 3]⟩, ⟨some 10, some (8, true), .pure (.bin .neq), [.t 9, .c (.int .u32 127)]⟩, ⟨some 11, none, .pick, [.t 8, .t 10, .c (.bool false)]⟩, ⟨some 12, none, .pure (.mov), [.t 11]⟩, ⟨some 13, some (12, true), .pure (.mov), [.t 3]⟩, ⟨some 14, some (12, true), .pure (.bin .lss), [.t 13, .c (.int .u32 224)]⟩, ⟨some 15, none, .pick, [.t 12, .t 14, .c (.bool false)]⟩, ⟨some 2, none, .pure (.mov), [.t 15]⟩] [2]) (.ret)))
def F35 : Fn Tryz.prog 35 := Fn.mkX false b35 [.t 2] 16 Tryz.f35 _ Tryz.func35 (by decide) rfl Tryz.ntmps35 (by kernel_rfl) (by kernel_rfl)
/-- signpost/signpostref7.one -/
def b42 : BC := .seq (.ops [⟨some 8, none, .pure (.mov), [.c .nils]⟩] [0, 1, 2, 3]) (.seq (.seq (.ops [⟨some 9, none, .pure (.mov), [.t 3]⟩, ⟨some 10, none, .pure (.len), [.t 9]⟩, ⟨some 11, none, .pure (.bin .gtr), [.t 10, .c (.int .i64 255)]⟩] [0, 1, 2, 3, 11]) (.cond (.t 11) (.seq (.ops [⟨some 12, none, .pure (.mov), [.t 0]⟩, ⟨some 13, none, .pure (.mov), [.t 1]⟩, ⟨some 14, none, .pure (.bin .or), [.t 13, .c (.int .i64 16)]⟩, ⟨some 15, none, .pure (.conv .u8), [.t 14]⟩, ⟨some 16, none, .pure (.mov), [.t 2]⟩, ⟨some 17, none, .pure (.conv .u8), [.t 16]⟩, ⟨some 18, none, .alloc (.mksl 1 2), [.t 15, .t 17]⟩, ⟨some 19, none, .loud (.app 1 1), [.t 12, .t 18]⟩, ⟨some 20, none, .pure (.mov), [.t 3]⟩, ⟨some 21, none, .pure (.len), [.t 20]⟩, ⟨some 22, none, .loud (.call 26), [.t 19, .t 21]⟩, ⟨some 23, none, .pure (.mov), [.t 3]⟩, ⟨some 24, none, .loud (.app 1 1), [.t 22, .t 23]⟩, ⟨some 8, none, .pure (.mov), [.t 24]⟩] [8]) (.ret)) (.skip))) (.seq (.ops [⟨some 25, none, .pure (.mov), [.t 0]⟩, ⟨some 26, none, .pure (.mov), [.t 1]⟩, ⟨some 27, none, .pure (.conv .u8), [.t 26]⟩, ⟨some 28, none, .pure (.mov), [.t 2]⟩, ⟨some 29, none, .pure (.conv .u8), [.t 28]⟩, ⟨some 30, none, .pure (.mov), [.t 3]⟩, ⟨some 31, none, .pure (.len), [.t 30]⟩, ⟨some 32, none, .pure (.conv .u8), [.t 31]⟩, ⟨some 33, none, .alloc (.mksl 1 3), [.t 27, .t 29, .t 32]⟩, ⟨some 34, none, .loud (.app 1 1), [.t 25, .t 33]⟩, ⟨some 35, none, .pure (.mov), [.t 3]⟩, ⟨some 36, none, .loud (.app 1 1), [.t 34, .t 35]⟩, ⟨some 8, none, .pure (.mov), [.t 36]⟩] [8]) (.ret)))
def F42 : Fn Tryz.prog 42 := Fn.mkX false b42 [.t 8] 37 Tryz.f42 _ Tryz.func42 (by decide) rfl Tryz.ntmps42 (by kernel_rfl) (by kernel_rfl)
/-- signpost/signpostref6.Encode -/
def b43 : BC := .seq (.ops [⟨some 2, none, .pure (.mov), [.c .nils]⟩] [0]) (.seq (.ops [⟨some 3, none, .pure (.mov), [.c .nils]⟩] [0, 3]) (.seq (.seq (.ops [⟨some 4, none, .pure (.mov), [.c (.int .i64 0)]⟩] [0, 3, 4]) (.block 0 (.loop [0, 3, 4] (.seq (.seq (.ops [⟨some 6, none, .pure (.mov), [.t 4]⟩, ⟨some 7, none, .pure (.mov), [.t 0]⟩, ⟨some 8, none, .pure (.len), [.t 7]⟩, ⟨some 9, none, .pure (.bin .lss), [.t 6, .t 8]⟩] [0, 3, 4, 9]) (.cond (.t 9) (.skip) (.exit 0))) (.seq (.block 1 (.seq (.ops [⟨some 12, none, .pure (.mov), [.t 3]⟩, ⟨some 13, none, .pure (.mov), [.t 0]⟩, ⟨some 14, none, .pure (.mov), [.t 4]⟩, ⟨some 15, none, .pure (.idx 2), [.t 13, .t 14]⟩, ⟨some 16, none, .pure (.fld 0), [.t 15]⟩, ⟨some 19, none, .pure (.mov), [.t 0]⟩, ⟨some 20, none, .pure (.mov), [.t 4]⟩, ⟨some 21, none, .pure (.idx 2), [.t 19, .t 20]⟩, ⟨some 22, none, .pure (.fld 1), [.t 21]⟩, ⟨some 17, none, .load (.ld 1 false), [.t 16]⟩, ⟨some 18, none, .pure (.conv .u8), [.t 17]⟩, ⟨some 23, none, .load (.ld 1 false), [.t 22]⟩, ⟨some 24, none, .pure (.len), [.t 23]⟩, ⟨some 25, none, .pure (.conv .u8), [.t 24]⟩, ⟨some 26, none, .alloc (.mksl 1 2), [.t 18, .t 25]⟩, ⟨some 27, none, .loud (.app 1 1), [.t 12, .t 26]⟩, ⟨some 3, none, .pure (.mov), [.t 27]⟩] [0, 3, 4]) (.seq (.ops [⟨some 5, none, .pure (.mov), [.c (.int .i64 0)]⟩] [0, 3, 4, 5]) (.block 2 (.loop [0, 3, 4, 5] (.seq (.seq (.ops [⟨some 28, none, .pure (.mov), [.t 5]⟩, ⟨some 29, none, .pure (.mov), [.t 0]⟩, ⟨some 30, none, .pure (.mov), [.t 4]⟩, ⟨some 31, none, .pure (.idx 2), [.t 29, .t 30]⟩, ⟨some 32, none, .pure (.fld 1), [.t 31]⟩, ⟨some 33, none, .load (.ld 1 false), [.t 32]⟩, ⟨some 34, none, .pure (.len), [.t 33]⟩, ⟨some 35, none, .pure (.bin .lss), [.t 28, .t 34]⟩] [0, 3, 4, 5, 35]) (.cond (.t 35) (.skip) (.exit 2))) (.seq (.block 3 (.ops [⟨some 38, none, .pure (.mov), [.t 3]⟩, ⟨some 39, none, .pure (.mov), [.t 0]⟩, ⟨some 40, none, .pure (.mov), [.t 4]⟩, ⟨some 41, none, .pure (.idx 2), [.t 39, .t 40]⟩, ⟨some 42, none, .pure (.fld 1), [.t 41]⟩, ⟨some 43, none, .load (.ld 1 false), [.t 42]⟩, ⟨some 44, none, .pure (.mov), [.t 5]⟩, ⟨some 45, none, .pure (.idx 1), [.t 43, .t 44]⟩, ⟨some 46, none, .load (.ld 1 false), [.t 45]⟩, ⟨some 47, none, .loud (.call 44), [.t 38, .t 46]⟩, ⟨some 3, none, .pure (.mov), [.t 47]⟩] [0, 3, 4, 5])) (.ops [⟨some 36, none, .pure (.mov), [.t 5]⟩, ⟨some 37, none, .pure (.bin .add), [.t 36, .c (.int .i64 1)]⟩, ⟨some 5, none, .pure (.mov), [.t 37]⟩] [0, 3, 4, 5])))))))) (.ops [⟨some 10, none, .pure (.mov), [.t 4]⟩, ⟨some 11, none, .pure (.bin .add), [.t 10, .c (.int .i64 1)]⟩, ⟨some 4, none, .pure (.mov), [.t 11]⟩] [0, 3, 4])))))) (.seq (.ops [⟨some 48, none, .pure (.mov), [.t 3]⟩, ⟨some 2, none, .pure (.mov), [.t 48]⟩] [2]) (.ret))))
def F43 : Fn Tryz.prog 43 := Fn.mkX false b43 [.t 2] 49 Tryz.f43 _ Tryz.func43 (by decide) rfl Tryz.ntmps43 (by kernel_rfl) (by kernel_rfl)
/-- signpost/signpostref4.U32 -/
def b44 : BC := .seq (.ops [⟨some 4, none, .pure (.mov), [.c .nils]⟩] [0, 1]) (.seq (.ops [⟨some 5, none, .alloc (.mksl 1 0), []⟩, ⟨some 6, none, .pure (.mov), [.t 0]⟩, ⟨some 7, none, .loud (.app 1 1), [.t 5, .t 6]⟩, ⟨some 8, none, .pure (.mov), [.t 1]⟩, ⟨some 9, none, .pure (.bin .shr), [.t 8, .c (.int .u64 24)]⟩, ⟨some 10, none, .pure (.conv .u8), [.t 9]⟩, ⟨some 11, none, .pure (.mov), [.t 1]⟩, ⟨some 12, none, .pure (.bin .shr), [.t 11, .c (.int .u64 16)]⟩, ⟨some 13, none, .pure (.conv .u8), [.t 12]⟩, ⟨some 14, none, .pure (.mov), [.t 1]⟩, ⟨some 15, none, .pure (.bin .shr), [.t 14, .c (.int .u64 8)]⟩, ⟨some 16, none, .pure (.conv .u8), [.t 15]⟩, ⟨some 17, none, .pure (.mov), [.t 1]⟩, ⟨some 18, none, .pure (.conv .u8), [.t 17]⟩, ⟨some 19, none, .alloc (.mksl 1 4), [.t 10, .t 13, .t 16, .t 18]⟩, ⟨some 20, none, .loud (.app 1 1), [.t 7, .t 19]⟩, ⟨some 4, none, .pure (.mov), [.t 20]⟩] [4]) (.ret))
def F44 : Fn Tryz.prog 44 := Fn.mkX false b44 [.t 4] 21 Tryz.f44 _ Tryz.func44 (by decide) rfl Tryz.ntmps44 (by kernel_rfl) (by kernel_rfl)
/-- signpost/signpostkeep.Next -/
def b45 : BC := .seq (.ops [⟨some 2, none, .pure (.mov), [.c (.int .u32 0)]⟩] [0]) (.seq (.ops [⟨some 3, none, .pure (.mov), [.t 0]⟩, ⟨some 4, none, .pure (.bin .rem), [.t 3, .c (.int .u32 6)]⟩, ⟨some 5, none, .pure (.bin .or), [.c (.int .u32 3221225984), .t 4]⟩, ⟨some 2, none, .pure (.mov), [.t 5]⟩] [2]) (.ret))
def F45 : Fn Tryz.prog 45 := Fn.mkX false b45 [.t 2] 6 Tryz.f45 _ Tryz.func45 (by decide) rfl Tryz.ntmps45 (by kernel_rfl) (by kernel_rfl)
/-- signpost/wire.NewReader -/
def b55 : BC := .seq (.ops [⟨some 2, none, .pure (.mov), [.c .nil]⟩] [0]) (.seq (.ops [⟨some 3, none, .pure (.mov), [.t 0]⟩, ⟨some 4, none, .loud (.call 100), [.t 3]⟩, ⟨some 5, none, .pure (.build [.nils, (.bool false)] [(0, 1)]), [.t 4]⟩, ⟨some 6, none, .alloc (.box), [.t 5]⟩, ⟨some 2, none, .pure (.mov), [.t 6]⟩] [2]) (.ret))
def F55 : Fn Tryz.prog 55 := Fn.mkX false b55 [.t 2] 7 Tryz.f55 _ Tryz.func55 (by decide) rfl Tryz.ntmps55 (by kernel_rfl) (by kernel_rfl)
/-- (*signpost/wire.Reader).Raw -/
def b56 : BC := .seq (.ops [⟨some 4, none, .pure (.mov), [.c .nils]⟩] [0, 1]) (.seq (.ops [⟨some 6, none, .pure (.mov), [.t 0]⟩, ⟨some 7, none, .pure (.mov), [.t 0]⟩, ⟨some 8, none, .pure (.nilchk), [.t 7]⟩, ⟨some 9, none, .pure (.fld 1), [.t 8]⟩, ⟨some 10, none, .load (.ld 1 false), [.t 9]⟩, ⟨some 11, none, .pure (.mov), [.t 10]⟩, ⟨some 12, some (11, false), .pure (.mov), [.t 1]⟩, ⟨some 13, some (11, false), .pure (.mov), [.t 0]⟩, ⟨some 14, some (11, false), .pure (.nilchk), [.t 13]⟩, ⟨some 15, some (11, false), .pure (.fld 0), [.t 14]⟩, ⟨some 16, some (11, false), .load (.ld 1 false), [.t 15]⟩, ⟨some 17, some (11, false), .pure (.len), [.t 16]⟩, ⟨some 18, some (11, false), .pure (.bin .gtr), [.t 12, .t 17]⟩, ⟨some 19, none, .pick, [.t 11, .c (.bool true), .t 18]⟩, ⟨some 20, none, .pure (.nilchk), [.t 6]⟩, ⟨some 21, none, .pure (.fld 1), [.t 20]⟩, ⟨none, none, .loud (.st 1), [.t 21, .t 19]⟩] [0, 1]) (.seq (.seq (.ops [⟨some 22, none, .pure (.mov), [.t 0]⟩, ⟨some 23, none, .pure (.nilchk), [.t 22]⟩, ⟨some 24, none, .pure (.fld 1), [.t 23]⟩, ⟨some 25, none, .load (.ld 1 false), [.t 24]⟩, ⟨some 26, none, .pure (.mov), [.t 25]⟩, ⟨some 27, some (26, false), .pure (.mov), [.t 1]⟩, ⟨some 28, some (26, false), .pure (.bin .lss), [.t 27, .c (.int .i64 1)]⟩, ⟨some 29, none, .pick, [.t 26, .c (.bool true), .t 28]⟩] [0, 1, 29]) (.cond (.t 29) (.seq (.ops [⟨some 4, none, .pure (.mov), [.c .nils]⟩] [4]) (.ret)) (.skip))) (.seq (.ops [⟨some 30, none, .pure (.mov), [.t 0]⟩, ⟨some 31, none, .pure (.nilchk), [.t 30]⟩, ⟨some 32, none, .pure (.fld 0), [.t 31]⟩, ⟨some 33, none, .load (.ld 1 false), [.t 32]⟩, ⟨some 34, none, .pure (.mov), [.t 1]⟩, ⟨some 35, none, .pure (.slice 1 false true), [.t 33, .t 34]⟩, ⟨some 36, none, .loud (.call 100), [.t 35]⟩, ⟨some 5, none, .pure (.mov), [.t 36]⟩] [0, 1, 5]) (.seq (.ops [⟨some 37, none, .pure (.mov), [.t 0]⟩, ⟨some 38, none, .pure (.mov), [.t 0]⟩, ⟨some 39, none, .pure (.nilchk), [.t 38]⟩, ⟨some 40, none, .pure (.fld 0), [.t 39]⟩, ⟨some 41, none, .load (.ld 1 false), [.t 40]⟩, ⟨some 42, none, .pure (.mov), [.t 1]⟩, ⟨some 43, none, .pure (.slice 1 true false), [.t 41, .t 42]⟩, ⟨some 44, none, .pure (.nilchk), [.t 37]⟩, ⟨some 45, none, .pure (.fld 0), [.t 44]⟩, ⟨none, none, .loud (.st 1), [.t 45, .t 43]⟩] [5]) (.seq (.ops [⟨some 46, none, .pure (.mov), [.t 5]⟩, ⟨some 4, none, .pure (.mov), [.t 46]⟩] [4]) (.ret))))))
def F56 : Fn Tryz.prog 56 := Fn.mkX false b56 [.t 4] 47 Tryz.f56 _ Tryz.func56 (by decide) rfl Tryz.ntmps56 (by kernel_rfl) (by kernel_rfl)
/-- (*signpost/wire.Reader).U16 -/
def b57 : BC := .seq (.ops [⟨some 2, none, .pure (.mov), [.c (.int .i64 0)]⟩] [0]) (.seq (.ops [⟨some 3, none, .pure (.mov), [.t 0]⟩, ⟨some 4, none, .loud (.call 101), [.t 3, .c (.int .i64 2)]⟩, ⟨some 5, none, .pure (.conv .i64), [.t 4]⟩, ⟨some 2, none, .pure (.mov), [.t 5]⟩] [2]) (.ret))
def F57 : Fn Tryz.prog 57 := Fn.mkX false b57 [.t 2] 6 Tryz.f57 _ Tryz.func57 (by decide) rfl Tryz.ntmps57 (by kernel_rfl) (by kernel_rfl)
/-- (*signpost/wire.Reader).Left -/
def b58 : BC := .seq (.ops [⟨some 2, none, .pure (.mov), [.c (.int .i64 0)]⟩] [0]) (.seq (.seq (.ops [⟨some 3, none, .pure (.mov), [.t 0]⟩, ⟨some 4, none, .pure (.nilchk), [.t 3]⟩, ⟨some 5, none, .pure (.fld 1), [.t 4]⟩, ⟨some 6, none, .load (.ld 1 false), [.t 5]⟩] [0, 6]) (.cond (.t 6) (.seq (.ops [⟨some 2, none, .pure (.mov), [.c (.int .i64 0)]⟩] [2]) (.ret)) (.skip))) (.seq (.ops [⟨some 7, none, .pure (.mov), [.t 0]⟩, ⟨some 8, none, .pure (.nilchk), [.t 7]⟩, ⟨some 9, none, .pure (.fld 0), [.t 8]⟩, ⟨some 10, none, .load (.ld 1 false), [.t 9]⟩, ⟨some 11, none, .pure (.len), [.t 10]⟩, ⟨some 2, none, .pure (.mov), [.t 11]⟩] [2]) (.ret)))
def F58 : Fn Tryz.prog 58 := Fn.mkX false b58 [.t 2] 12 Tryz.f58 _ Tryz.func58 (by decide) rfl Tryz.ntmps58 (by kernel_rfl) (by kernel_rfl)
/-- (*signpost/wire.Reader).Fine -/
def b59 : BC := .seq (.ops [⟨some 2, none, .pure (.mov), [.c (.bool false)]⟩] [0]) (.seq (.ops [⟨some 3, none, .pure (.mov), [.t 0]⟩, ⟨some 4, none, .pure (.nilchk), [.t 3]⟩, ⟨some 5, none, .pure (.fld 1), [.t 4]⟩, ⟨some 6, none, .load (.ld 1 false), [.t 5]⟩, ⟨some 7, none, .pure (.not), [.t 6]⟩, ⟨some 2, none, .pure (.mov), [.t 7]⟩] [2]) (.ret))
def F59 : Fn Tryz.prog 59 := Fn.mkX false b59 [.t 2] 8 Tryz.f59 _ Tryz.func59 (by decide) rfl Tryz.ntmps59 (by kernel_rfl) (by kernel_rfl)
/-- signpost/attr.cut -/
def b71 : BC := .seq (.ops [⟨some 2, none, .alloc (.alloc [(.int .i64 0), (.int .i64 0), .nils, .nils]), []⟩, ⟨some 3, none, .pure (.mov), [.c .nils]⟩, ⟨some 4, none, .pure (.mov), [.c (.bool false)]⟩] [0, 2]) (.seq (.ops [⟨some 9, none, .pure (.mov), [.t 0]⟩, ⟨some 10, none, .loud (.call 55), [.t 9]⟩, ⟨some 5, none, .pure (.mov), [.t 10]⟩] [0, 2, 5]) (.seq (.ops [⟨some 11, none, .pure (.mov), [.t 5]⟩, ⟨some 12, none, .loud (.call 102), [.t 11]⟩, ⟨some 13, none, .pure (.mov), [.t 5]⟩, ⟨some 14, none, .loud (.call 102), [.t 13]⟩, ⟨some 15, none, .pure (.build [(.int .i64 0), (.int .i64 0), .nils, .nils] [(0, 1), (1, 1)]), [.t 12, .t 14]⟩, ⟨some 6, none, .alloc (.alloc [(.int .i64 0), (.int .i64 0), .nils, .nils]), []⟩, ⟨none, none, .loud (.st 4), [.t 6, .t 15]⟩] [0, 2, 5, 6]) (.seq (.ops [⟨some 7, none, .pure (.mov), [.c (.int .i64 0)]⟩] [0, 2, 5, 6]) (.seq (.seq (.ops [⟨some 16, none, .pure (.fld 0), [.t 6]⟩, ⟨some 17, none, .load (.ld 1 false), [.t 16]⟩, ⟨some 18, none, .pure (.bin .and), [.t 17, .c (.int .i64 16)]⟩, ⟨some 19, none, .pure (.bin .neq), [.t 18, .c (.int .i64 0)]⟩] [0, 2, 5, 6, 19]) (.cond (.t 19) (.ops [⟨some 20, none, .pure (.mov), [.t 5]⟩, ⟨some 21, none, .loud (.call 57), [.t 20]⟩, ⟨some 7, none, .pure (.mov), [.t 21]⟩] [0, 2, 5, 6, 7]) (.ops [⟨some 22, none, .pure (.mov), [.t 5]⟩, ⟨some 23, none, .loud (.call 102), [.t 22]⟩, ⟨some 7, none, .pure (.mov), [.t 23]⟩] [0, 2, 5, 6, 7]))) (.seq (.ops [⟨some 24, none, .pure (.mov), [.t 5]⟩, ⟨some 25, none, .pure (.mov), [.t 7]⟩, ⟨some 26, none, .loud (.call 56), [.t 24, .t 25]⟩, ⟨some 27, none, .pure (.fld 2), [.t 6]⟩, ⟨none, none, .loud (.st 1), [.t 27, .t 26]⟩] [0, 2, 5, 6]) (.seq (.seq (.ops [⟨some 28, none, .pure (.mov), [.t 5]⟩, ⟨some 29, none, .loud (.call 59), [.t 28]⟩, ⟨some 30, none, .pure (.not), [.t 29]⟩] [0, 2, 5, 6, 30]) (.cond (.t 30) (.seq (.ops [⟨some 31, none, .pure (.build [(.int .i64 0), (.int .i64 0), .nils, .nils] []), []⟩, ⟨none, none, .loud (.st 4), [.t 2, .t 31]⟩, ⟨some 3, none, .pure (.mov), [.c .nils]⟩, ⟨some 4, none, .pure (.mov), [.c (.bool false)]⟩] [2, 3, 4]) (.ret)) (.skip))) (.seq (.ops [⟨some 32, none, .pure (.mov), [.t 0]⟩, ⟨some 33, none, .pure (.len), [.t 32]⟩, ⟨some 34, none, .pure (.mov), [.t 5]⟩, ⟨some 35, none, .loud (.call 58), [.t 34]⟩, ⟨some 36, none, .pure (.bin .sub), [.t 33, .t 35]⟩, ⟨some 8, none, .pure (.mov), [.t 36]⟩] [0, 2, 6, 8]) (.seq (.ops [⟨some 37, none, .pure (.mov), [.t 0]⟩, ⟨some 38, none, .pure (.mov), [.t 8]⟩, ⟨some 39, none, .pure (.slice 1 false true), [.t 37, .t 38]⟩, ⟨some 40, none, .pure (.fld 3), [.t 6]⟩, ⟨none, none, .loud (.st 1), [.t 40, .t 39]⟩] [0, 2, 6, 8]) (.seq (.ops [⟨some 42, none, .pure (.mov), [.t 0]⟩, ⟨some 43, none, .pure (.mov), [.t 8]⟩, ⟨some 44, none, .pure (.slice 1 true false), [.t 42, .t 43]⟩, ⟨some 41, none, .load (.ld 4 true), [.t 6]⟩, ⟨none, none, .loud (.st 4), [.t 2, .t 41]⟩, ⟨some 3, none, .pure (.mov), [.t 44]⟩, ⟨some 4, none, .pure (.mov), [.c (.bool true)]⟩] [2, 3, 4]) (.ret))))))))))
def F71 : Fn Tryz.prog 71 := Fn.mkX false b71 [.c 2 4 true, .t 3, .t 4] 45 Tryz.f71 _ Tryz.func71 (by decide) rfl Tryz.ntmps71 (by kernel_rfl) (by kernel_rfl)
/-- signpost/attr.note -/
def b72 : BC := .seq (.ops [⟨some 4, none, .alloc (.alloc [(.int .i64 0), (.int .i64 0), .nils]), []⟩] [0, 1, 4]) (.seq (.ops [⟨some 5, none, .pure (.mov), [.t 0]⟩, ⟨some 6, none, .pure (.mov), [.t 1]⟩, ⟨some 7, none, .loud (.call 100), [.t 6]⟩, ⟨some 8, none, .pure (.build [(.int .i64 0), (.int .i64 0), .nils] [(0, 1), (1, 1), (2, 1)]), [.c (.int .i64 3), .t 5, .t 7]⟩, ⟨none, none, .loud (.st 3), [.t 4, .t 8]⟩] [4]) (.ret))
def F72 : Fn Tryz.prog 72 := Fn.mkX false b72 [.c 4 3 true] 9 Tryz.f72 _ Tryz.func72 (by decide) rfl Tryz.ntmps72 (by kernel_rfl) (by kernel_rfl)
/-- signpost/attr.read -/
def b74 : BC := .seq (.ops [⟨some 3, none, .alloc (.box), [.t 1]⟩, ⟨some 4, none, .alloc (.alloc [(.int .i64 0), (.int .i64 0), .nils]), []⟩] [0, 3, 4]) (.seq (.ops [⟨some 11, none, .pure (.fld 1), [.t 3]⟩, ⟨some 12, none, .load (.ld 1 false), [.t 11]⟩, ⟨some 13, none, .loud (.call 73), [.t 12]⟩, ⟨some 10, none, .pure (.mov), [.t 13]⟩, ⟨some 14, none, .pure (.ext 0), [.t 10]⟩, ⟨some 15, none, .pure (.ext 1), [.t 10]⟩, ⟨some 16, none, .pure (.ext 2), [.t 10]⟩, ⟨some 5, none, .pure (.mov), [.t 14]⟩, ⟨some 6, none, .pure (.mov), [.t 15]⟩, ⟨some 7, none, .pure (.mov), [.t 16]⟩] [0, 3, 4, 5, 6]) (.seq (.block 0 (.seq (.ops [⟨some 18, none, .pure (.fld 0), [.t 3]⟩, ⟨some 19, none, .load (.ld 1 false), [.t 18]⟩, ⟨some 20, none, .pure (.bin .and), [.t 19, .c (.int .i64 192)]⟩, ⟨some 21, none, .pure (.mov), [.t 5]⟩, ⟨some 22, none, .pure (.bin .neq), [.t 20, .t 21]⟩, ⟨some 23, none, .pure (.mov), [.t 22]⟩, ⟨some 24, some (23, false), .pure (.fld 0), [.t 3]⟩, ⟨some 25, some (23, false), .load (.ld 1 false), [.t 24]⟩, ⟨some 26, some (23, false), .pure (.bin .and), [.t 25, .c (.int .i64 32)]⟩, ⟨some 27, some (23, false), .pure (.bin .neq), [.t 26, .c (.int .i64 0)]⟩, ⟨some 28, some (23, false), .pure (.mov), [.t 27]⟩, ⟨some 29, some (28, true), .pure (.fld 1), [.t 3]⟩, ⟨some 30, some (28, true), .load (.ld 1 false), [.t 29]⟩, ⟨some 31, some (28, true), .pure (.bin .neq), [.t 30, .c (.int .i64 8)]⟩, ⟨some 32, some (23, false), .pick, [.t 28, .t 31, .c (.bool false)]⟩, ⟨some 33, none, .pick, [.t 23, .c (.bool true), .t 32]⟩, ⟨some 17, none, .pure (.mov), [.t 33]⟩] [0, 3, 4, 6, 17]) (.cond (.t 17) (.seq (.ops [⟨some 34, none, .pure (.fld 3), [.t 3]⟩, ⟨some 35, none, .load (.ld 1 false), [.t 34]⟩, ⟨some 36, none, .loud (.call 72), [.c (.int .i64 4), .t 35]⟩, ⟨none, none, .loud (.st 3), [.t 4, .t 36]⟩] [4]) (.ret)) (.seq (.ops [⟨some 38, none, .pure (.mov), [.t 6]⟩, ⟨some 39, none, .pure (.fld 2), [.t 3]⟩, ⟨some 40, none, .load (.ld 1 false), [.t 39]⟩, ⟨some 41, none, .pure (.len), [.t 40]⟩, ⟨some 42, none, .loud (.call 110), [.t 38, .t 41]⟩, ⟨some 43, none, .pure (.not), [.t 42]⟩, ⟨some 37, none, .pure (.mov), [.t 43]⟩] [0, 3, 4, 37]) (.cond (.t 37) (.seq (.ops [⟨some 44, none, .pure (.fld 3), [.t 3]⟩, ⟨some 45, none, .load (.ld 1 false), [.t 44]⟩, ⟨some 46, none, .loud (.call 72), [.c (.int .i64 5), .t 45]⟩, ⟨none, none, .loud (.st 3), [.t 4, .t 46]⟩] [4]) (.ret)) (.skip)))))) (.seq (.ops [⟨some 47, none, .pure (.fld 2), [.t 3]⟩, ⟨some 48, none, .load (.ld 1 false), [.t 47]⟩, ⟨some 49, none, .loud (.call 111), [.t 48]⟩, ⟨some 8, none, .pure (.mov), [.t 49]⟩] [0, 3, 4, 8]) (.seq (.seq (.ops [⟨some 50, none, .pure (.fld 1), [.t 3]⟩, ⟨some 51, none, .load (.ld 1 false), [.t 50]⟩] [0, 3, 4, 8, 51]) (.block 1 (.seq (.ops [⟨some 63, none, .pure (.bin .eql), [.t 51, .c (.int .i64 1)]⟩, ⟨some 62, none, .pure (.mov), [.t 63]⟩] [0, 3, 4, 8, 51, 62]) (.cond (.t 62) (.seq (.ops [⟨some 64, none, .pure (.mov), [.t 0]⟩, ⟨some 65, none, .pure (.fld 2), [.t 3]⟩, ⟨some 66, none, .load (.ld 1 false), [.t 65]⟩, ⟨some 67, none, .pure (.idx 1), [.t 66, .c (.int .i64 0)]⟩, ⟨some 68, none, .load (.ld 1 false), [.t 67]⟩, ⟨some 69, none, .pure (.conv .i64), [.t 68]⟩, ⟨some 70, none, .pure (.nilchk), [.t 64]⟩, ⟨some 71, none, .pure (.fld 0), [.t 70]⟩, ⟨none, none, .loud (.st 1), [.t 71, .t 69]⟩] [0, 3, 4]) (.seq (.ops [⟨some 72, none, .pure (.mov), [.t 0]⟩, ⟨some 73, none, .pure (.nilchk), [.t 72]⟩, ⟨some 74, none, .pure (.fld 0), [.t 73]⟩, ⟨some 75, none, .load (.ld 1 false), [.t 74]⟩, ⟨some 76, none, .pure (.bin .gtr), [.t 75, .c (.int .i64 2)]⟩] [3, 4, 76]) (.cond (.t 76) (.seq (.ops [⟨some 77, none, .pure (.fld 3), [.t 3]⟩, ⟨some 78, none, .load (.ld 1 false), [.t 77]⟩, ⟨some 79, none, .loud (.call 72), [.c (.int .i64 6), .t 78]⟩, ⟨none, none, .loud (.st 3), [.t 4, .t 79]⟩] [4]) (.ret)) (.skip)))) (.seq (.ops [⟨some 81, none, .pure (.bin .eql), [.t 51, .c (.int .i64 2)]⟩, ⟨some 80, none, .pure (.mov), [.t 81]⟩] [0, 3, 4, 8, 51, 80]) (.cond (.t 80) (.seq (.ops [⟨some 9, none, .pure (.mov), [.c (.bool false)]⟩] [0, 3, 4]) (.seq (.ops [⟨some 83, none, .pure (.mov), [.t 0]⟩, ⟨some 84, none, .pure (.fld 2), [.t 3]⟩, ⟨some 85, none, .load (.ld 1 false), [.t 84]⟩, ⟨some 86, none, .loud (.call 112), [.t 85]⟩, ⟨some 82, none, .pure (.mov), [.t 86]⟩, ⟨some 87, none, .pure (.ext 0), [.t 82]⟩, ⟨some 88, none, .pure (.ext 1), [.t 82]⟩, ⟨some 89, none, .pure (.nilchk), [.t 83]⟩, ⟨some 90, none, .pure (.fld 1), [.t 89]⟩, ⟨none, none, .loud (.st 1), [.t 90, .t 87]⟩, ⟨some 9, none, .pure (.mov), [.t 88]⟩] [4, 9]) (.seq (.ops [⟨some 91, none, .pure (.mov), [.t 9]⟩, ⟨some 92, none, .pure (.not), [.t 91]⟩] [4, 92]) (.cond (.t 92) (.seq (.ops [⟨some 93, none, .loud (.call 72), [.c (.int .i64 11), .c .nils]⟩, ⟨none, none, .loud (.st 3), [.t 4, .t 93]⟩] [4]) (.ret)) (.skip))))) (.seq (.ops [⟨some 95, none, .pure (.bin .eql), [.t 51, .c (.int .i64 3)]⟩, ⟨some 94, none, .pure (.mov), [.t 95]⟩] [0, 3, 4, 8, 51, 94]) (.cond (.t 94) (.seq (.ops [⟨some 96, none, .pure (.mov), [.t 0]⟩, ⟨some 97, none, .pure (.mov), [.t 8]⟩, ⟨some 98, none, .pure (.idx 1), [.t 97, .c (.int .i64 0)]⟩, ⟨some 99, none, .load (.ld 1 false), [.t 98]⟩, ⟨some 100, none, .pure (.nilchk), [.t 96]⟩, ⟨some 101, none, .pure (.fld 2), [.t 100]⟩, ⟨none, none, .loud (.st 1), [.t 101, .t 99]⟩] [0, 3, 4]) (.seq (.ops [⟨some 102, none, .pure (.mov), [.t 0]⟩, ⟨some 103, none, .pure (.nilchk), [.t 102]⟩, ⟨some 104, none, .pure (.fld 2), [.t 103]⟩, ⟨some 105, none, .load (.ld 1 false), [.t 104]⟩, ⟨some 106, none, .loud (.call 34), [.t 105]⟩, ⟨some 107, none, .pure (.not), [.t 106]⟩] [3, 4, 107]) (.cond (.t 107) (.seq (.ops [⟨some 108, none, .pure (.fld 3), [.t 3]⟩, ⟨some 109, none, .load (.ld 1 false), [.t 108]⟩, ⟨some 110, none, .loud (.call 72), [.c (.int .i64 8), .t 109]⟩, ⟨none, none, .loud (.st 3), [.t 4, .t 110]⟩] [4]) (.ret)) (.skip)))) (.seq (.ops [⟨some 112, none, .pure (.bin .eql), [.t 51, .c (.int .i64 4)]⟩, ⟨some 111, none, .pure (.mov), [.t 112]⟩] [0, 3, 4, 8, 51, 111]) (.cond (.t 111) (.ops [⟨some 113, none, .pure (.mov), [.t 0]⟩, ⟨some 114, none, .pure (.mov), [.t 0]⟩, ⟨some 115, none, .pure (.mov), [.t 8]⟩, ⟨some 116, none, .pure (.idx 1), [.t 115, .c (.int .i64 0)]⟩, ⟨some 117, none, .load (.ld 1 false), [.t 116]⟩, ⟨some 118, none, .pure (.nilchk), [.t 113]⟩, ⟨some 119, none, .pure (.fld 3), [.t 118]⟩, ⟨none, none, .loud (.st 1), [.t 119, .c (.bool true)]⟩, ⟨some 120, none, .pure (.nilchk), [.t 114]⟩, ⟨some 121, none, .pure (.fld 4), [.t 120]⟩, ⟨none, none, .loud (.st 1), [.t 121, .t 117]⟩] [4]) (.seq (.ops [⟨some 123, none, .pure (.bin .eql), [.t 51, .c (.int .i64 5)]⟩, ⟨some 122, none, .pure (.mov), [.t 123]⟩] [0, 3, 4, 8, 51, 122]) (.cond (.t 122) (.ops [⟨some 124, none, .pure (.mov), [.t 0]⟩, ⟨some 125, none, .pure (.mov), [.t 0]⟩, ⟨some 126, none, .pure (.mov), [.t 8]⟩, ⟨some 127, none, .pure (.idx 1), [.t 126, .c (.int .i64 0)]⟩, ⟨some 128, none, .load (.ld 1 false), [.t 127]⟩, ⟨some 129, none, .pure (.nilchk), [.t 124]⟩, ⟨some 130, none, .pure (.fld 5), [.t 129]⟩, ⟨none, none, .loud (.st 1), [.t 130, .c (.bool true)]⟩, ⟨some 131, none, .pure (.nilchk), [.t 125]⟩, ⟨some 132, none, .pure (.fld 6), [.t 131]⟩, ⟨none, none, .loud (.st 1), [.t 132, .t 128]⟩] [4]) (.seq (.ops [⟨some 134, none, .pure (.bin .eql), [.t 51, .c (.int .i64 6)]⟩, ⟨some 133, none, .pure (.mov), [.t 134]⟩] [0, 3, 4, 8, 133]) (.cond (.t 133) (.ops [⟨some 135, none, .pure (.mov), [.t 0]⟩, ⟨some 136, none, .pure (.nilchk), [.t 135]⟩, ⟨some 137, none, .pure (.fld 7), [.t 136]⟩, ⟨none, none, .loud (.st 1), [.t 137, .c (.bool true)]⟩] [4]) (.seq (.ops [⟨some 52, none, .pure (.mov), [.t 0]⟩, ⟨some 53, none, .pure (.mov), [.t 8]⟩, ⟨some 54, none, .pure (.nilchk), [.t 52]⟩, ⟨some 55, none, .pure (.fld 8), [.t 54]⟩, ⟨none, none, .loud (.st 1), [.t 55, .t 53]⟩] [3, 4, 8]) (.seq (.ops [⟨some 56, none, .pure (.mov), [.t 8]⟩, ⟨some 57, none, .pure (.len), [.t 56]⟩, ⟨some 58, none, .pure (.bin .gtr), [.t 57, .c (.int .i64 32)]⟩] [3, 4, 58]) (.cond (.t 58) (.seq (.ops [⟨some 59, none, .pure (.fld 3), [.t 3]⟩, ⟨some 60, none, .load (.ld 1 false), [.t 59]⟩, ⟨some 61, none, .loud (.call 72), [.c (.int .i64 9), .t 60]⟩, ⟨none, none, .loud (.st 3), [.t 4, .t 61]⟩] [4]) (.ret)) (.skip)))))))))))))))))) (.seq (.ops [⟨some 138, none, .pure (.build [(.int .i64 0), (.int .i64 0), .nils] []), []⟩, ⟨none, none, .loud (.st 3), [.t 4, .t 138]⟩] [4]) (.ret))))))
def F74 : Fn Tryz.prog 74 := Fn.mkX false b74 [.c 4 3 true] 139 Tryz.f74 _ Tryz.func74 (by decide) rfl Tryz.ntmps74 (by kernel_rfl) (by kernel_rfl)
/-- slices.Sort[[]int,int] -/
def b75 : BC := .seq (.ops [⟨some 3, none, .pure (.mov), [.t 0]⟩, ⟨some 4, none, .pure (.len), [.t 3]⟩, ⟨some 2, none, .pure (.mov), [.t 4]⟩] [0, 2]) (.ops [⟨some 5, none, .pure (.mov), [.t 0]⟩, ⟨some 6, none, .pure (.mov), [.t 2]⟩, ⟨some 7, none, .pure (.mov), [.t 2]⟩, ⟨some 8, none, .pure (.conv .u64), [.t 7]⟩, ⟨some 9, none, .loud (.call 114), [.t 8]⟩, ⟨some 10, none, .loud (.call 113), [.t 5, .c (.int .i64 0), .t 6, .t 9]⟩] [])
def F75 : Fn Tryz.prog 75 := Fn.mkX false b75 [] 11 Tryz.f75 _ Tryz.func75 (by decide) rfl Tryz.ntmps75 (by kernel_rfl) (by kernel_rfl)
/-- signpost/attr.Canon -/
def b76 : BC := .seq (.ops [⟨some 1, none, .alloc (.box), [.t 0]⟩, ⟨some 2, none, .alloc (.alloc [(.int .i64 0), .nils, (.int .u32 0), (.bool false), (.int .u32 0), (.bool false), (.int .u32 0), (.bool false), .nils]), []⟩] [1, 2]) (.seq (.ops [⟨some 3, none, .pure (.fld 1), [.t 1]⟩, ⟨some 4, none, .load (.ld 1 false), [.t 3]⟩, ⟨some 5, none, .loud (.call 115), [.t 4]⟩, ⟨some 6, none, .pure (.fld 1), [.t 1]⟩, ⟨none, none, .loud (.st 1), [.t 6, .t 5]⟩] [1, 2]) (.seq (.seq (.ops [⟨some 7, none, .pure (.fld 3), [.t 1]⟩, ⟨some 8, none, .load (.ld 1 false), [.t 7]⟩, ⟨some 9, none, .pure (.not), [.t 8]⟩] [1, 2, 9]) (.cond (.t 9) (.ops [⟨some 10, none, .pure (.fld 4), [.t 1]⟩, ⟨none, none, .loud (.st 1), [.t 10, .c (.int .u32 0)]⟩] [1, 2]) (.skip))) (.seq (.seq (.ops [⟨some 11, none, .pure (.fld 5), [.t 1]⟩, ⟨some 12, none, .load (.ld 1 false), [.t 11]⟩, ⟨some 13, none, .pure (.not), [.t 12]⟩] [1, 2, 13]) (.cond (.t 13) (.ops [⟨some 14, none, .pure (.fld 6), [.t 1]⟩, ⟨none, none, .loud (.st 1), [.t 14, .c (.int .u32 0)]⟩] [1, 2]) (.skip))) (.seq (.ops [⟨some 15, none, .pure (.fld 8), [.t 1]⟩, ⟨some 16, none, .load (.ld 1 false), [.t 15]⟩, ⟨some 17, none, .loud (.call 118), [.t 16]⟩, ⟨some 18, none, .loud (.call 117), [.t 17]⟩, ⟨some 19, none, .loud (.call 116), [.t 18]⟩, ⟨some 20, none, .pure (.fld 8), [.t 1]⟩, ⟨none, none, .loud (.st 1), [.t 20, .t 19]⟩] [1, 2]) (.seq (.ops [⟨some 21, none, .load (.ld 9 true), [.t 1]⟩, ⟨none, none, .loud (.st 9), [.t 2, .t 21]⟩] [2]) (.ret))))))
def F76 : Fn Tryz.prog 76 := Fn.mkX false b76 [.c 2 9 true] 22 Tryz.f76 _ Tryz.func76 (by decide) rfl Tryz.ntmps76 (by kernel_rfl) (by kernel_rfl)
/-- signpost/signpostref7.Right -/
def b78 : BC := .seq (.ops [⟨some 1, none, .alloc (.box), [.t 0]⟩, ⟨some 2, none, .pure (.mov), [.c (.bool false)]⟩] [1]) (.seq (.seq (.ops [⟨some 4, none, .pure (.fld 0), [.t 1]⟩, ⟨some 5, none, .load (.ld 1 false), [.t 4]⟩, ⟨some 6, none, .pure (.bin .lss), [.t 5, .c (.int .i64 0)]⟩, ⟨some 7, none, .pure (.mov), [.t 6]⟩, ⟨some 8, some (7, false), .pure (.fld 0), [.t 1]⟩, ⟨some 9, some (7, false), .load (.ld 1 false), [.t 8]⟩, ⟨some 10, some (7, false), .pure (.bin .gtr), [.t 9, .c (.int .i64 2)]⟩, ⟨some 11, none, .pick, [.t 7, .c (.bool true), .t 10]⟩, ⟨some 12, none, .pure (.mov), [.t 11]⟩, ⟨some 13, some (12, false), .pure (.fld 1), [.t 1]⟩, ⟨some 14, some (12, false), .load (.ld 1 false), [.t 13]⟩, ⟨some 15, some (12, false), .loud (.call 125), [.t 14]⟩, ⟨some 16, some (12, false), .pure (.not), [.t 15]⟩, ⟨some 17, none, .pick, [.t 12, .c (.bool true), .t 16]⟩, ⟨some 18, none, .pure (.mov), [.t 17]⟩, ⟨some 19, some (18, false), .pure (.fld 2), [.t 1]⟩, ⟨some 20, some (18, false), .load (.ld 1 false), [.t 19]⟩, ⟨some 21, some (18, false), .loud (.call 35), [.t 20]⟩, ⟨some 22, some (18, false), .pure (.not), [.t 21]⟩, ⟨some 23, none, .pick, [.t 18, .c (.bool true), .t 22]⟩, ⟨some 24, none, .pure (.mov), [.t 23]⟩, ⟨some 25, some (24, false), .pure (.fld 3), [.t 1]⟩, ⟨some 26, some (24, false), .load (.ld 1 false), [.t 25]⟩, ⟨some 27, some (24, false), .pure (.not), [.t 26]⟩, ⟨some 28, some (24, false), .pure (.mov), [.t 27]⟩, ⟨some 29, some (28, true), .pure (.fld 4), [.t 1]⟩, ⟨some 30, some (28, true), .load (.ld 1 false), [.t 29]⟩, ⟨some 31, some (28, true), .pure (.bin .neq), [.t 30, .c (.int .u32 0)]⟩, ⟨some 32, some (24, false), .pick, [.t 28, .t 31, .c (.bool false)]⟩, ⟨some 33, none, .pick, [.t 24, .c (.bool true), .t 32]⟩, ⟨some 34, none, .pure (.mov), [.t 33]⟩, ⟨some 35, some (34, false), .pure (.fld 5), [.t 1]⟩, ⟨some 36, some (34, false), .load (.ld 1 false), [.t 35]⟩, ⟨some 37, some (34, false), .pure (.not), [.t 36]⟩, ⟨some 38, some (34, false), .pure (.mov), [.t 37]⟩, ⟨some 39, some (38, true), .pure (.fld 6), [.t 1]⟩, ⟨some 40, some (38, true), .load (.ld 1 false), [.t 39]⟩, ⟨some 41, some (38, true), .pure (.bin .neq), [.t 40, .c (.int .u32 0)]⟩, ⟨some 42, some (34, false), .pick, [.t 38, .t 41, .c (.bool false)]⟩, ⟨some 43, none, .pick, [.t 34, .c (.bool true), .t 42]⟩, ⟨some 44, none, .pure (.mov), [.t 43]⟩, ⟨some 45, some (44, false), .pure (.fld 8), [.t 1]⟩, ⟨some 46, some (44, false), .load (.ld 1 false), [.t 45]⟩, ⟨some 47, some (44, false), .pure (.len), [.t 46]⟩, ⟨some 48, some (44, false), .pure (.bin .gtr), [.t 47, .c (.int .i64 32)]⟩, ⟨some 49, none, .pick, [.t 44, .c (.bool true), .t 48]⟩] [1, 49]) (.cond (.t 49) (.seq (.ops [⟨some 2, none, .pure (.mov), [.c (.bool false)]⟩] [2]) (.ret)) (.skip))) (.seq (.seq (.ops [⟨some 3, none, .pure (.mov), [.c (.int .i64 1)]⟩] [1, 3]) (.block 0 (.loop [1, 3] (.seq (.seq (.ops [⟨some 50, none, .pure (.mov), [.t 3]⟩, ⟨some 51, none, .pure (.fld 8), [.t 1]⟩, ⟨some 52, none, .load (.ld 1 false), [.t 51]⟩, ⟨some 53, none, .pure (.len), [.t 52]⟩, ⟨some 54, none, .pure (.bin .lss), [.t 50, .t 53]⟩] [1, 3, 54]) (.cond (.t 54) (.skip) (.exit 0))) (.seq (.block 1 (.seq (.ops [⟨some 57, none, .pure (.fld 8), [.t 1]⟩, ⟨some 59, none, .pure (.mov), [.t 3]⟩, ⟨some 60, none, .pure (.bin .sub), [.t 59, .c (.int .i64 1)]⟩, ⟨some 63, none, .pure (.fld 8), [.t 1]⟩, ⟨some 65, none, .pure (.mov), [.t 3]⟩, ⟨some 58, none, .load (.ld 1 false), [.t 57]⟩, ⟨some 61, none, .pure (.idx 1), [.t 58, .t 60]⟩, ⟨some 62, none, .load (.ld 1 false), [.t 61]⟩, ⟨some 64, none, .load (.ld 1 false), [.t 63]⟩, ⟨some 66, none, .pure (.idx 1), [.t 64, .t 65]⟩, ⟨some 67, none, .load (.ld 1 false), [.t 66]⟩, ⟨some 68, none, .pure (.bin .geq), [.t 62, .t 67]⟩] [1, 3, 68]) (.cond (.t 68) (.seq (.ops [⟨some 2, none, .pure (.mov), [.c (.bool false)]⟩] [2]) (.ret)) (.skip)))) (.ops [⟨some 55, none, .pure (.mov), [.t 3]⟩, ⟨some 56, none, .pure (.bin .add), [.t 55, .c (.int .i64 1)]⟩, ⟨some 3, none, .pure (.mov), [.t 56]⟩] [1, 3])))))) (.seq (.ops [⟨some 2, none, .pure (.mov), [.c (.bool true)]⟩] [2]) (.ret))))
def F78 : Fn Tryz.prog 78 := Fn.mkX false b78 [.t 2] 69 Tryz.f78 _ Tryz.func78 (by decide) rfl Tryz.ntmps78 (by kernel_rfl) (by kernel_rfl)
/-- signpost/signpostref7.Order -/
def b79 : BC := .seq (.ops [⟨some 2, none, .alloc (.box), [.t 0]⟩, ⟨some 3, none, .alloc (.box), [.t 1]⟩, ⟨some 4, none, .pure (.mov), [.c (.int .i64 0)]⟩] [2, 3]) (.seq (.ops [⟨some 7, none, .load (.ld 9 true), [.t 2]⟩, ⟨some 9, none, .load (.ld 9 true), [.t 3]⟩, ⟨some 8, none, .qcall 46, [.t 7]⟩, ⟨some 10, none, .qcall 46, [.t 9]⟩, ⟨none, none, .loud (.st 9), [.t 2, .t 8]⟩, ⟨none, none, .loud (.st 9), [.t 3, .t 10]⟩] [2, 3]) (.seq (.seq (.ops [⟨some 11, none, .pure (.fld 0), [.t 2]⟩, ⟨some 12, none, .load (.ld 1 false), [.t 11]⟩, ⟨some 13, none, .pure (.fld 0), [.t 3]⟩, ⟨some 14, none, .load (.ld 1 false), [.t 13]⟩, ⟨some 15, none, .pure (.bin .neq), [.t 12, .t 14]⟩] [2, 3, 15]) (.cond (.t 15) (.seq (.ops [⟨some 16, none, .pure (.fld 0), [.t 2]⟩, ⟨some 17, none, .load (.ld 1 false), [.t 16]⟩, ⟨some 18, none, .pure (.fld 0), [.t 3]⟩, ⟨some 19, none, .load (.ld 1 false), [.t 18]⟩, ⟨some 20, none, .pure (.bin .lss), [.t 17, .t 19]⟩, ⟨some 21, none, .loud (.call 126), [.t 20]⟩, ⟨some 4, none, .pure (.mov), [.t 21]⟩] [4]) (.ret)) (.skip))) (.seq (.seq (.ops [⟨some 22, none, .pure (.fld 1), [.t 2]⟩, ⟨some 23, none, .load (.ld 1 false), [.t 22]⟩, ⟨some 24, none, .pure (.fld 1), [.t 3]⟩, ⟨some 25, none, .load (.ld 1 false), [.t 24]⟩, ⟨some 26, none, .loud (.call 63), [.t 23, .t 25]⟩, ⟨some 5, none, .pure (.mov), [.t 26]⟩] [2, 3, 5]) (.seq (.ops [⟨some 27, none, .pure (.mov), [.t 5]⟩, ⟨some 28, none, .pure (.bin .neq), [.t 27, .c (.int .i64 0)]⟩] [2, 3, 5, 28]) (.cond (.t 28) (.seq (.ops [⟨some 29, none, .pure (.mov), [.t 5]⟩, ⟨some 4, none, .pure (.mov), [.t 29]⟩] [4]) (.ret)) (.skip)))) (.seq (.block 0 (.seq (.ops [⟨some 31, none, .pure (.fld 2), [.t 2]⟩, ⟨some 32, none, .load (.ld 1 false), [.t 31]⟩, ⟨some 33, none, .pure (.fld 2), [.t 3]⟩, ⟨some 34, none, .load (.ld 1 false), [.t 33]⟩, ⟨some 35, none, .pure (.bin .neq), [.t 32, .t 34]⟩, ⟨some 30, none, .pure (.mov), [.t 35]⟩] [2, 3, 30]) (.cond (.t 30) (.seq (.ops [⟨some 36, none, .pure (.fld 2), [.t 2]⟩, ⟨some 37, none, .load (.ld 1 false), [.t 36]⟩, ⟨some 38, none, .pure (.fld 2), [.t 3]⟩, ⟨some 39, none, .load (.ld 1 false), [.t 38]⟩, ⟨some 40, none, .pure (.bin .lss), [.t 37, .t 39]⟩, ⟨some 41, none, .loud (.call 126), [.t 40]⟩, ⟨some 4, none, .pure (.mov), [.t 41]⟩] [4]) (.ret)) (.seq (.ops [⟨some 43, none, .pure (.fld 3), [.t 2]⟩, ⟨some 44, none, .load (.ld 1 false), [.t 43]⟩, ⟨some 45, none, .pure (.fld 3), [.t 3]⟩, ⟨some 46, none, .load (.ld 1 false), [.t 45]⟩, ⟨some 47, none, .pure (.eqb true), [.t 44, .t 46]⟩, ⟨some 42, none, .pure (.mov), [.t 47]⟩] [2, 3, 42]) (.cond (.t 42) (.seq (.ops [⟨some 48, none, .pure (.fld 3), [.t 2]⟩, ⟨some 49, none, .load (.ld 1 false), [.t 48]⟩, ⟨some 50, none, .pure (.not), [.t 49]⟩, ⟨some 51, none, .loud (.call 126), [.t 50]⟩, ⟨some 4, none, .pure (.mov), [.t 51]⟩] [4]) (.ret)) (.seq (.ops [⟨some 53, none, .pure (.fld 4), [.t 2]⟩, ⟨some 54, none, .load (.ld 1 false), [.t 53]⟩, ⟨some 55, none, .pure (.fld 4), [.t 3]⟩, ⟨some 56, none, .load (.ld 1 false), [.t 55]⟩, ⟨some 57, none, .pure (.bin .neq), [.t 54, .t 56]⟩, ⟨some 52, none, .pure (.mov), [.t 57]⟩] [2, 3, 52]) (.cond (.t 52) (.seq (.ops [⟨some 58, none, .pure (.fld 4), [.t 2]⟩, ⟨some 59, none, .load (.ld 1 false), [.t 58]⟩, ⟨some 60, none, .pure (.fld 4), [.t 3]⟩, ⟨some 61, none, .load (.ld 1 false), [.t 60]⟩, ⟨some 62, none, .pure (.bin .lss), [.t 59, .t 61]⟩, ⟨some 63, none, .loud (.call 126), [.t 62]⟩, ⟨some 4, none, .pure (.mov), [.t 63]⟩] [4]) (.ret)) (.seq (.ops [⟨some 65, none, .pure (.fld 5), [.t 2]⟩, ⟨some 66, none, .load (.ld 1 false), [.t 65]⟩, ⟨some 67, none, .pure (.fld 5), [.t 3]⟩, ⟨some 68, none, .load (.ld 1 false), [.t 67]⟩, ⟨some 69, none, .pure (.eqb true), [.t 66, .t 68]⟩, ⟨some 64, none, .pure (.mov), [.t 69]⟩] [2, 3, 64]) (.cond (.t 64) (.seq (.ops [⟨some 70, none, .pure (.fld 5), [.t 2]⟩, ⟨some 71, none, .load (.ld 1 false), [.t 70]⟩, ⟨some 72, none, .pure (.not), [.t 71]⟩, ⟨some 73, none, .loud (.call 126), [.t 72]⟩, ⟨some 4, none, .pure (.mov), [.t 73]⟩] [4]) (.ret)) (.seq (.ops [⟨some 75, none, .pure (.fld 6), [.t 2]⟩, ⟨some 76, none, .load (.ld 1 false), [.t 75]⟩, ⟨some 77, none, .pure (.fld 6), [.t 3]⟩, ⟨some 78, none, .load (.ld 1 false), [.t 77]⟩, ⟨some 79, none, .pure (.bin .neq), [.t 76, .t 78]⟩, ⟨some 74, none, .pure (.mov), [.t 79]⟩] [2, 3, 74]) (.cond (.t 74) (.seq (.ops [⟨some 80, none, .pure (.fld 6), [.t 2]⟩, ⟨some 81, none, .load (.ld 1 false), [.t 80]⟩, ⟨some 82, none, .pure (.fld 6), [.t 3]⟩, ⟨some 83, none, .load (.ld 1 false), [.t 82]⟩, ⟨some 84, none, .pure (.bin .lss), [.t 81, .t 83]⟩, ⟨some 85, none, .loud (.call 126), [.t 84]⟩, ⟨some 4, none, .pure (.mov), [.t 85]⟩] [4]) (.ret)) (.seq (.ops [⟨some 87, none, .pure (.fld 7), [.t 2]⟩, ⟨some 88, none, .load (.ld 1 false), [.t 87]⟩, ⟨some 89, none, .pure (.fld 7), [.t 3]⟩, ⟨some 90, none, .load (.ld 1 false), [.t 89]⟩, ⟨some 91, none, .pure (.eqb true), [.t 88, .t 90]⟩, ⟨some 86, none, .pure (.mov), [.t 91]⟩] [2, 3, 86]) (.cond (.t 86) (.seq (.ops [⟨some 92, none, .pure (.fld 7), [.t 2]⟩, ⟨some 93, none, .load (.ld 1 false), [.t 92]⟩, ⟨some 94, none, .pure (.not), [.t 93]⟩, ⟨some 95, none, .loud (.call 126), [.t 94]⟩, ⟨some 4, none, .pure (.mov), [.t 95]⟩] [4]) (.ret)) (.skip)))))))))))))) (.seq (.seq (.ops [⟨some 6, none, .pure (.mov), [.c (.int .i64 0)]⟩] [2, 3, 6]) (.block 1 (.loop [2, 3, 6] (.seq (.seq (.ops [⟨some 96, none, .pure (.mov), [.t 6]⟩, ⟨some 97, none, .pure (.fld 8), [.t 2]⟩, ⟨some 98, none, .load (.ld 1 false), [.t 97]⟩, ⟨some 99, none, .pure (.len), [.t 98]⟩, ⟨some 100, none, .pure (.bin .lss), [.t 96, .t 99]⟩, ⟨some 101, none, .pure (.mov), [.t 100]⟩, ⟨some 102, some (101, true), .pure (.mov), [.t 6]⟩, ⟨some 103, some (101, true), .pure (.fld 8), [.t 3]⟩, ⟨some 104, some (101, true), .load (.ld 1 false), [.t 103]⟩, ⟨some 105, some (101, true), .pure (.len), [.t 104]⟩, ⟨some 106, some (101, true), .pure (.bin .lss), [.t 102, .t 105]⟩, ⟨some 107, none, .pick, [.t 101, .t 106, .c (.bool false)]⟩] [2, 3, 6, 107]) (.cond (.t 107) (.skip) (.exit 1))) (.seq (.block 2 (.seq (.ops [⟨some 110, none, .pure (.fld 8), [.t 2]⟩, ⟨some 112, none, .pure (.mov), [.t 6]⟩, ⟨some 115, none, .pure (.fld 8), [.t 3]⟩, ⟨some 117, none, .pure (.mov), [.t 6]⟩, ⟨some 111, none, .load (.ld 1 false), [.t 110]⟩, ⟨some 113, none, .pure (.idx 1), [.t 111, .t 112]⟩, ⟨some 114, none, .load (.ld 1 false), [.t 113]⟩, ⟨some 116, none, .load (.ld 1 false), [.t 115]⟩, ⟨some 118, none, .pure (.idx 1), [.t 116, .t 117]⟩, ⟨some 119, none, .load (.ld 1 false), [.t 118]⟩, ⟨some 120, none, .pure (.bin .neq), [.t 114, .t 119]⟩] [2, 3, 6, 120]) (.cond (.t 120) (.seq (.ops [⟨some 121, none, .pure (.fld 8), [.t 2]⟩, ⟨some 123, none, .pure (.mov), [.t 6]⟩, ⟨some 126, none, .pure (.fld 8), [.t 3]⟩, ⟨some 128, none, .pure (.mov), [.t 6]⟩, ⟨some 122, none, .load (.ld 1 false), [.t 121]⟩, ⟨some 124, none, .pure (.idx 1), [.t 122, .t 123]⟩, ⟨some 125, none, .load (.ld 1 false), [.t 124]⟩, ⟨some 127, none, .load (.ld 1 false), [.t 126]⟩, ⟨some 129, none, .pure (.idx 1), [.t 127, .t 128]⟩, ⟨some 130, none, .load (.ld 1 false), [.t 129]⟩, ⟨some 131, none, .pure (.bin .lss), [.t 125, .t 130]⟩, ⟨some 132, none, .loud (.call 126), [.t 131]⟩, ⟨some 4, none, .pure (.mov), [.t 132]⟩] [4]) (.ret)) (.skip)))) (.ops [⟨some 108, none, .pure (.mov), [.t 6]⟩, ⟨some 109, none, .pure (.bin .add), [.t 108, .c (.int .i64 1)]⟩, ⟨some 6, none, .pure (.mov), [.t 109]⟩] [2, 3, 6])))))) (.seq (.seq (.ops [⟨some 133, none, .pure (.fld 8), [.t 2]⟩, ⟨some 134, none, .load (.ld 1 false), [.t 133]⟩, ⟨some 135, none, .pure (.len), [.t 134]⟩, ⟨some 136, none, .pure (.fld 8), [.t 3]⟩, ⟨some 137, none, .load (.ld 1 false), [.t 136]⟩, ⟨some 138, none, .pure (.len), [.t 137]⟩, ⟨some 139, none, .pure (.bin .neq), [.t 135, .t 138]⟩] [2, 3, 139]) (.cond (.t 139) (.seq (.ops [⟨some 140, none, .pure (.fld 8), [.t 2]⟩, ⟨some 141, none, .load (.ld 1 false), [.t 140]⟩, ⟨some 142, none, .pure (.len), [.t 141]⟩, ⟨some 143, none, .pure (.fld 8), [.t 3]⟩, ⟨some 144, none, .load (.ld 1 false), [.t 143]⟩, ⟨some 145, none, .pure (.len), [.t 144]⟩, ⟨some 146, none, .pure (.bin .lss), [.t 142, .t 145]⟩, ⟨some 147, none, .loud (.call 126), [.t 146]⟩, ⟨some 4, none, .pure (.mov), [.t 147]⟩] [4]) (.ret)) (.skip))) (.seq (.ops [⟨some 4, none, .pure (.mov), [.c (.int .i64 0)]⟩] [4]) (.ret))))))))
def F79 : Fn Tryz.prog 79 := Fn.mkX false b79 [.t 4] 148 Tryz.f79 _ Tryz.func79 (by decide) rfl Tryz.ntmps79 (by kernel_rfl) (by kernel_rfl)
/-- signpost/attr.Less -/
def b80 : BC := .seq (.ops [⟨some 2, none, .alloc (.box), [.t 0]⟩, ⟨some 3, none, .alloc (.box), [.t 1]⟩, ⟨some 4, none, .pure (.mov), [.c (.bool false)]⟩] [2, 3]) (.seq (.ops [⟨some 5, none, .load (.ld 9 true), [.t 2]⟩, ⟨some 6, none, .load (.ld 9 true), [.t 3]⟩, ⟨some 7, none, .loud (.call 77), [.t 5, .t 6]⟩, ⟨some 8, none, .pure (.bin .lss), [.t 7, .c (.int .i64 0)]⟩, ⟨some 4, none, .pure (.mov), [.t 8]⟩] [4]) (.ret))
def F80 : Fn Tryz.prog 80 := Fn.mkX false b80 [.t 4] 9 Tryz.f80 _ Tryz.func80 (by decide) rfl Tryz.ntmps80 (by kernel_rfl) (by kernel_rfl)
/-- (*signpost/wire.Reader).get -/
def b101 : BC := .seq (.ops [⟨some 4, none, .pure (.mov), [.c (.int .u64 0)]⟩] [0, 1]) (.seq (.ops [⟨some 5, none, .pure (.mov), [.c (.int .u64 0)]⟩] [0, 1, 5]) (.seq (.seq (.ops [⟨some 8, none, .pure (.mov), [.t 0]⟩, ⟨some 9, none, .pure (.mov), [.t 1]⟩, ⟨some 10, none, .loud (.call 56), [.t 8, .t 9]⟩, ⟨some 11, none, .pure (.len), [.t 10]⟩, ⟨some 12, none, .pure (.mov), [.c (.int .i64 0)]⟩] [5, 10, 11, 12]) (.block 0 (.loop [5, 10, 11, 12] (.seq (.ops [⟨some 13, none, .pure (.bin .lss), [.t 12, .t 11]⟩] [5, 10, 11, 12, 13]) (.seq (.cond (.t 13) (.skip) (.exit 0)) (.seq (.block 1 (.seq (.ops [⟨some 14, none, .pure (.idx 1), [.t 10, .t 12]⟩, ⟨some 15, none, .load (.ld 1 false), [.t 14]⟩, ⟨some 7, none, .pure (.mov), [.t 15]⟩] [5, 7, 10, 11, 12]) (.ops [⟨some 16, none, .pure (.mov), [.t 5]⟩, ⟨some 17, none, .pure (.bin .shl), [.t 16, .c (.int .u64 8)]⟩, ⟨some 18, none, .pure (.mov), [.t 7]⟩, ⟨some 19, none, .pure (.conv .u64), [.t 18]⟩, ⟨some 20, none, .pure (.bin .or), [.t 17, .t 19]⟩, ⟨some 5, none, .pure (.mov), [.t 20]⟩] [5, 10, 11, 12]))) (.ops [⟨some 21, none, .pure (.bin .add), [.t 12, .c (.int .i64 1)]⟩, ⟨some 12, none, .pure (.mov), [.t 21]⟩] [5, 10, 11, 12]))))))) (.seq (.ops [⟨some 22, none, .pure (.mov), [.t 5]⟩, ⟨some 4, none, .pure (.mov), [.t 22]⟩] [4]) (.ret))))
def F101 : Fn Tryz.prog 101 := Fn.mkX false b101 [.t 4] 23 Tryz.f101 _ Tryz.func101 (by decide) rfl Tryz.ntmps101 (by kernel_rfl) (by kernel_rfl)
/-- (*signpost/wire.Reader).U8 -/
def b102 : BC := .seq (.ops [⟨some 2, none, .pure (.mov), [.c (.int .i64 0)]⟩] [0]) (.seq (.ops [⟨some 3, none, .pure (.mov), [.t 0]⟩, ⟨some 4, none, .loud (.call 101), [.t 3, .c (.int .i64 1)]⟩, ⟨some 5, none, .pure (.conv .i64), [.t 4]⟩, ⟨some 2, none, .pure (.mov), [.t 5]⟩] [2]) (.ret))
def F102 : Fn Tryz.prog 102 := Fn.mkX false b102 [.t 2] 6 Tryz.f102 _ Tryz.func102 (by decide) rfl Tryz.ntmps102 (by kernel_rfl) (by kernel_rfl)
/-- signpost/attr.fits -/
def b110 : BC := .seq (.ops [⟨some 4, none, .pure (.mov), [.c (.bool false)]⟩] [0, 1]) (.seq (.seq (.ops [⟨some 5, none, .pure (.mov), [.t 0]⟩, ⟨some 6, none, .pure (.bin .lss), [.t 5, .c (.int .i64 0)]⟩] [0, 1, 6]) (.cond (.t 6) (.seq (.ops [⟨some 7, none, .pure (.mov), [.t 1]⟩, ⟨some 8, none, .pure (.mov), [.t 0]⟩, ⟨some 9, none, .pure (.neg), [.t 8]⟩, ⟨some 10, none, .pure (.bin .rem), [.t 7, .t 9]⟩, ⟨some 11, none, .pure (.bin .eql), [.t 10, .c (.int .i64 0)]⟩, ⟨some 4, none, .pure (.mov), [.t 11]⟩] [4]) (.ret)) (.skip))) (.seq (.ops [⟨some 12, none, .pure (.mov), [.t 1]⟩, ⟨some 13, none, .pure (.mov), [.t 0]⟩, ⟨some 14, none, .pure (.bin .eql), [.t 12, .t 13]⟩, ⟨some 4, none, .pure (.mov), [.t 14]⟩] [4]) (.ret)))
def F110 : Fn Tryz.prog 110 := Fn.mkX false b110 [.t 4] 15 Tryz.f110 _ Tryz.func110 (by decide) rfl Tryz.ntmps110 (by kernel_rfl) (by kernel_rfl)
/-- signpost/attr.list -/
def b111 : BC := .seq (.ops [⟨some 2, none, .pure (.mov), [.c .nils]⟩] [0]) (.seq (.ops [⟨some 5, none, .pure (.mov), [.t 0]⟩, ⟨some 6, none, .loud (.call 55), [.t 5]⟩, ⟨some 3, none, .pure (.mov), [.t 6]⟩] [3]) (.seq (.ops [⟨some 4, none, .pure (.mov), [.c .nils]⟩] [3, 4]) (.seq (.block 0 (.loop [3, 4] (.seq (.seq (.ops [⟨some 7, none, .pure (.mov), [.t 3]⟩, ⟨some 8, none, .loud (.call 58), [.t 7]⟩, ⟨some 9, none, .pure (.bin .gtr), [.t 8, .c (.int .i64 0)]⟩] [3, 4, 9]) (.cond (.t 9) (.skip) (.exit 0))) (.block 1 (.ops [⟨some 10, none, .pure (.mov), [.t 4]⟩, ⟨some 11, none, .pure (.mov), [.t 3]⟩, ⟨some 12, none, .loud (.call 137), [.t 11]⟩, ⟨some 13, none, .alloc (.mksl 1 1), [.t 12]⟩, ⟨some 14, none, .loud (.app 1 4), [.t 10, .t 13]⟩, ⟨some 4, none, .pure (.mov), [.t 14]⟩] [3, 4]))))) (.seq (.ops [⟨some 15, none, .pure (.mov), [.t 4]⟩, ⟨some 2, none, .pure (.mov), [.t 15]⟩] [2]) (.ret)))))
def F111 : Fn Tryz.prog 111 := Fn.mkX false b111 [.t 2] 16 Tryz.f111 _ Tryz.func111 (by decide) rfl Tryz.ntmps111 (by kernel_rfl) (by kernel_rfl)
/-- signpost/aspath.Decode -/
def b112 : BC := .seq (.ops [⟨some 2, none, .pure (.mov), [.c .nils]⟩, ⟨some 3, none, .pure (.mov), [.c (.bool false)]⟩] [0]) (.seq (.ops [⟨some 8, none, .pure (.mov), [.t 0]⟩, ⟨some 9, none, .loud (.call 55), [.t 8]⟩, ⟨some 4, none, .pure (.mov), [.t 9]⟩] [4]) (.seq (.ops [⟨some 5, none, .pure (.mov), [.c .nils]⟩] [4, 5]) (.seq (.block 0 (.loop [4, 5] (.seq (.seq (.ops [⟨some 10, none, .pure (.mov), [.t 4]⟩, ⟨some 11, none, .loud (.call 58), [.t 10]⟩, ⟨some 12, none, .pure (.bin .gtr), [.t 11, .c (.int .i64 0)]⟩] [4, 5, 12]) (.cond (.t 12) (.skip) (.exit 0))) (.block 1 (.seq (.ops [⟨some 13, none, .pure (.mov), [.t 4]⟩, ⟨some 14, none, .loud (.call 102), [.t 13]⟩, ⟨some 15, none, .pure (.build [(.int .i64 0), .nils] [(0, 1)]), [.t 14]⟩, ⟨some 6, none, .alloc (.alloc [(.int .i64 0), .nils]), []⟩, ⟨none, none, .loud (.st 2), [.t 6, .t 15]⟩] [4, 5, 6]) (.seq (.ops [⟨some 16, none, .pure (.mov), [.t 4]⟩, ⟨some 17, none, .loud (.call 102), [.t 16]⟩, ⟨some 7, none, .pure (.mov), [.t 17]⟩] [4, 5, 6, 7]) (.seq (.seq (.ops [⟨some 18, none, .pure (.mov), [.t 7]⟩, ⟨some 19, none, .pure (.bin .mul), [.t 18, .c (.int .i64 4)]⟩, ⟨some 20, none, .pure (.mov), [.t 4]⟩, ⟨some 21, none, .loud (.call 58), [.t 20]⟩, ⟨some 22, none, .pure (.bin .gtr), [.t 19, .t 21]⟩] [4, 5, 6, 7, 22]) (.cond (.t 22) (.seq (.ops [⟨some 2, none, .pure (.mov), [.c .nils]⟩, ⟨some 3, none, .pure (.mov), [.c (.bool false)]⟩] [2, 3]) (.ret)) (.skip))) (.seq (.seq (.ops [⟨some 23, none, .pure (.mov), [.t 7]⟩, ⟨some 24, none, .pure (.mov), [.c (.int .i64 0)]⟩] [4, 5, 6, 23, 24]) (.block 2 (.loop [4, 5, 6, 23, 24] (.seq (.ops [⟨some 25, none, .pure (.bin .lss), [.t 24, .t 23]⟩] [4, 5, 6, 23, 24, 25]) (.seq (.cond (.t 25) (.skip) (.exit 2)) (.seq (.block 3 (.ops [⟨some 26, none, .pure (.fld 1), [.t 6]⟩, ⟨some 28, none, .pure (.mov), [.t 4]⟩, ⟨some 27, none, .load (.ld 1 false), [.t 26]⟩, ⟨some 29, none, .qcall 137, [.t 28]⟩, ⟨some 30, none, .alloc (.mksl 1 1), [.t 29]⟩, ⟨some 31, none, .loud (.app 1 4), [.t 27, .t 30]⟩, ⟨some 32, none, .pure (.fld 1), [.t 6]⟩, ⟨none, none, .loud (.st 1), [.t 32, .t 31]⟩] [4, 5, 6, 23, 24])) (.ops [⟨some 33, none, .pure (.bin .add), [.t 24, .c (.int .i64 1)]⟩, ⟨some 24, none, .pure (.mov), [.t 33]⟩] [4, 5, 6, 23, 24]))))))) (.ops [⟨some 34, none, .pure (.mov), [.t 5]⟩, ⟨some 35, none, .load (.ld 2 true), [.t 6]⟩, ⟨some 36, none, .alloc (.mksl 2 1), [.t 35]⟩, ⟨some 37, none, .loud (.app 2 32), [.t 34, .t 36]⟩, ⟨some 5, none, .pure (.mov), [.t 37]⟩] [4, 5]))))))))) (.seq (.seq (.ops [⟨some 38, none, .pure (.mov), [.t 4]⟩, ⟨some 39, none, .loud (.call 59), [.t 38]⟩, ⟨some 40, none, .pure (.not), [.t 39]⟩, ⟨some 41, none, .pure (.mov), [.t 40]⟩, ⟨some 42, some (41, false), .pure (.mov), [.t 5]⟩, ⟨some 43, some (41, false), .loud (.call 106), [.t 42]⟩, ⟨some 44, some (41, false), .pure (.not), [.t 43]⟩, ⟨some 45, none, .pick, [.t 41, .c (.bool true), .t 44]⟩] [5, 45]) (.cond (.t 45) (.seq (.ops [⟨some 2, none, .pure (.mov), [.c .nils]⟩, ⟨some 3, none, .pure (.mov), [.c (.bool false)]⟩] [2, 3]) (.ret)) (.skip))) (.seq (.ops [⟨some 46, none, .pure (.mov), [.t 5]⟩, ⟨some 2, none, .pure (.mov), [.t 46]⟩, ⟨some 3, none, .pure (.mov), [.c (.bool true)]⟩] [2, 3]) (.ret))))))
def F112 : Fn Tryz.prog 112 := Fn.mkX false b112 [.t 2, .t 3] 47 Tryz.f112 _ Tryz.func112 (by decide) rfl Tryz.ntmps112 (by kernel_rfl) (by kernel_rfl)
/-- slices.pdqsortOrdered[int] -/
def b113 : BC := .seq (.ops [⟨some 8, none, .pure (.mov), [.c (.bool true)]⟩] [0, 1, 2, 3, 8]) (.seq (.ops [⟨some 9, none, .pure (.mov), [.c (.bool true)]⟩] [0, 1, 2, 3, 8, 9]) (.block 0 (.loop [0, 1, 2, 3, 8, 9] (.block 1 (.seq (.ops [⟨some 19, none, .pure (.mov), [.t 2]⟩, ⟨some 20, none, .pure (.mov), [.t 1]⟩, ⟨some 21, none, .pure (.bin .sub), [.t 19, .t 20]⟩, ⟨some 10, none, .pure (.mov), [.t 21]⟩] [0, 1, 2, 3, 8, 9, 10]) (.seq (.seq (.ops [⟨some 22, none, .pure (.mov), [.t 10]⟩, ⟨some 23, none, .pure (.bin .leq), [.t 22, .c (.int .i64 12)]⟩] [0, 1, 2, 3, 8, 9, 10, 23]) (.cond (.t 23) (.seq (.ops [⟨some 24, none, .pure (.mov), [.t 0]⟩, ⟨some 25, none, .pure (.mov), [.t 1]⟩, ⟨some 26, none, .pure (.mov), [.t 2]⟩, ⟨some 27, none, .loud (.call 138), [.t 24, .t 25, .t 26]⟩] []) (.ret)) (.skip))) (.seq (.seq (.ops [⟨some 28, none, .pure (.mov), [.t 3]⟩, ⟨some 29, none, .pure (.bin .eql), [.t 28, .c (.int .i64 0)]⟩] [0, 1, 2, 3, 8, 9, 10, 29]) (.cond (.t 29) (.seq (.ops [⟨some 30, none, .pure (.mov), [.t 0]⟩, ⟨some 31, none, .pure (.mov), [.t 1]⟩, ⟨some 32, none, .pure (.mov), [.t 2]⟩, ⟨some 33, none, .loud (.call 139), [.t 30, .t 31, .t 32]⟩] []) (.ret)) (.skip))) (.seq (.seq (.ops [⟨some 34, none, .pure (.mov), [.t 8]⟩, ⟨some 35, none, .pure (.not), [.t 34]⟩] [0, 1, 2, 3, 8, 9, 10, 35]) (.cond (.t 35) (.seq (.ops [⟨some 36, none, .pure (.mov), [.t 0]⟩, ⟨some 37, none, .pure (.mov), [.t 1]⟩, ⟨some 38, none, .pure (.mov), [.t 2]⟩, ⟨some 39, none, .loud (.call 140), [.t 36, .t 37, .t 38]⟩] [0, 1, 2, 3, 8, 9, 10]) (.ops [⟨some 40, none, .pure (.mov), [.t 3]⟩, ⟨some 41, none, .pure (.bin .sub), [.t 40, .c (.int .i64 1)]⟩, ⟨some 3, none, .pure (.mov), [.t 41]⟩] [0, 1, 2, 3, 8, 9, 10])) (.skip))) (.seq (.ops [⟨some 43, none, .pure (.mov), [.t 0]⟩, ⟨some 44, none, .pure (.mov), [.t 1]⟩, ⟨some 45, none, .pure (.mov), [.t 2]⟩, ⟨some 46, none, .loud (.call 141), [.t 43, .t 44, .t 45]⟩, ⟨some 42, none, .pure (.mov), [.t 46]⟩, ⟨some 47, none, .pure (.ext 0), [.t 42]⟩, ⟨some 48, none, .pure (.ext 1), [.t 42]⟩, ⟨some 11, none, .pure (.mov), [.t 47]⟩, ⟨some 12, none, .pure (.mov), [.t 48]⟩] [0, 1, 2, 3, 8, 9, 10, 11, 12]) (.seq (.seq (.ops [⟨some 49, none, .pure (.mov), [.t 12]⟩, ⟨some 50, none, .pure (.bin .eql), [.t 49, .c (.int .i64 2)]⟩] [0, 1, 2, 3, 8, 9, 10, 11, 12, 50]) (.cond (.t 50) (.seq (.ops [⟨some 51, none, .pure (.mov), [.t 0]⟩, ⟨some 52, none, .pure (.mov), [.t 1]⟩, ⟨some 53, none, .pure (.mov), [.t 2]⟩, ⟨some 54, none, .loud (.call 142), [.t 51, .t 52, .t 53]⟩] [0, 1, 2, 3, 8, 9, 10, 11]) (.seq (.ops [⟨some 55, none, .pure (.mov), [.t 2]⟩, ⟨some 56, none, .pure (.bin .sub), [.t 55, .c (.int .i64 1)]⟩, ⟨some 57, none, .pure (.mov), [.t 11]⟩, ⟨some 58, none, .pure (.mov), [.t 1]⟩, ⟨some 59, none, .pure (.bin .sub), [.t 57, .t 58]⟩, ⟨some 60, none, .pure (.bin .sub), [.t 56, .t 59]⟩, ⟨some 11, none, .pure (.mov), [.t 60]⟩] [0, 1, 2, 3, 8, 9, 10, 11]) (.ops [⟨some 12, none, .pure (.mov), [.c (.int .i64 1)]⟩] [0, 1, 2, 3, 8, 9, 10, 11, 12]))) (.skip))) (.seq (.seq (.ops [⟨some 61, none, .pure (.mov), [.t 8]⟩, ⟨some 62, none, .pure (.mov), [.t 61]⟩, ⟨some 63, some (62, true), .pure (.mov), [.t 9]⟩, ⟨some 64, none, .pick, [.t 62, .t 63, .c (.bool false)]⟩, ⟨some 65, none, .pure (.mov), [.t 64]⟩, ⟨some 66, some (65, true), .pure (.mov), [.t 12]⟩, ⟨some 67, some (65, true), .pure (.bin .eql), [.t 66, .c (.int .i64 1)]⟩, ⟨some 68, none, .pick, [.t 65, .t 67, .c (.bool false)]⟩] [0, 1, 2, 3, 8, 9, 10, 11, 68]) (.cond (.t 68) (.seq (.ops [⟨some 69, none, .pure (.mov), [.t 0]⟩, ⟨some 70, none, .pure (.mov), [.t 1]⟩, ⟨some 71, none, .pure (.mov), [.t 2]⟩, ⟨some 72, none, .loud (.call 143), [.t 69, .t 70, .t 71]⟩] [0, 1, 2, 3, 8, 9, 10, 11, 72]) (.cond (.t 72) (.ret) (.skip))) (.skip))) (.seq (.seq (.ops [⟨some 73, none, .pure (.mov), [.t 1]⟩, ⟨some 74, none, .pure (.bin .gtr), [.t 73, .c (.int .i64 0)]⟩, ⟨some 75, none, .pure (.mov), [.t 74]⟩, ⟨some 76, some (75, true), .pure (.mov), [.t 0]⟩, ⟨some 77, some (75, true), .pure (.mov), [.t 1]⟩, ⟨some 78, some (75, true), .pure (.bin .sub), [.t 77, .c (.int .i64 1)]⟩, ⟨some 79, some (75, true), .pure (.idx 1), [.t 76, .t 78]⟩, ⟨some 81, some (75, true), .pure (.mov), [.t 0]⟩, ⟨some 82, some (75, true), .pure (.mov), [.t 11]⟩, ⟨some 83, some (75, true), .pure (.idx 1), [.t 81, .t 82]⟩, ⟨some 80, some (75, true), .load (.ld 1 false), [.t 79]⟩, ⟨some 84, some (75, true), .load (.ld 1 false), [.t 83]⟩, ⟨some 85, some (75, true), .loud (.call 144), [.t 80, .t 84]⟩, ⟨some 86, some (75, true), .pure (.not), [.t 85]⟩, ⟨some 87, none, .pick, [.t 75, .t 86, .c (.bool false)]⟩] [0, 1, 2, 3, 8, 9, 10, 11, 87]) (.cond (.t 87) (.seq (.ops [⟨some 88, none, .pure (.mov), [.t 0]⟩, ⟨some 89, none, .pure (.mov), [.t 1]⟩, ⟨some 90, none, .pure (.mov), [.t 2]⟩, ⟨some 91, none, .pure (.mov), [.t 11]⟩, ⟨some 92, none, .loud (.call 145), [.t 88, .t 89, .t 90, .t 91]⟩, ⟨some 13, none, .pure (.mov), [.t 92]⟩] [0, 2, 3, 8, 9, 13]) (.seq (.ops [⟨some 93, none, .pure (.mov), [.t 13]⟩, ⟨some 1, none, .pure (.mov), [.t 93]⟩] [0, 1, 2, 3, 8, 9]) (.exit 1))) (.skip))) (.seq (.ops [⟨some 95, none, .pure (.mov), [.t 0]⟩, ⟨some 96, none, .pure (.mov), [.t 1]⟩, ⟨some 97, none, .pure (.mov), [.t 2]⟩, ⟨some 98, none, .pure (.mov), [.t 11]⟩, ⟨some 99, none, .loud (.call 146), [.t 95, .t 96, .t 97, .t 98]⟩, ⟨some 94, none, .pure (.mov), [.t 99]⟩, ⟨some 100, none, .pure (.ext 0), [.t 94]⟩, ⟨some 101, none, .pure (.ext 1), [.t 94]⟩, ⟨some 14, none, .pure (.mov), [.t 100]⟩, ⟨some 15, none, .pure (.mov), [.t 101]⟩] [0, 1, 2, 3, 10, 14, 15]) (.seq (.ops [⟨some 102, none, .pure (.mov), [.t 15]⟩, ⟨some 9, none, .pure (.mov), [.t 102]⟩] [0, 1, 2, 3, 9, 10, 14]) (.seq (.ops [⟨some 103, none, .pure (.mov), [.t 14]⟩, ⟨some 104, none, .pure (.mov), [.t 1]⟩, ⟨some 105, none, .pure (.bin .sub), [.t 103, .t 104]⟩, ⟨some 106, none, .pure (.mov), [.t 2]⟩, ⟨some 107, none, .pure (.mov), [.t 14]⟩, ⟨some 108, none, .pure (.bin .sub), [.t 106, .t 107]⟩, ⟨some 16, none, .pure (.mov), [.t 105]⟩, ⟨some 17, none, .pure (.mov), [.t 108]⟩] [0, 1, 2, 3, 9, 10, 14, 16, 17]) (.seq (.ops [⟨some 109, none, .pure (.mov), [.t 10]⟩, ⟨some 110, none, .pure (.bin .quo), [.t 109, .c (.int .i64 8)]⟩, ⟨some 18, none, .pure (.mov), [.t 110]⟩] [0, 1, 2, 3, 9, 14, 16, 17, 18]) (.seq (.ops [⟨some 111, none, .pure (.mov), [.t 16]⟩, ⟨some 112, none, .pure (.mov), [.t 17]⟩, ⟨some 113, none, .pure (.bin .lss), [.t 111, .t 112]⟩] [0, 1, 2, 3, 9, 14, 16, 17, 18, 113]) (.cond (.t 113) (.seq (.ops [⟨some 114, none, .pure (.mov), [.t 16]⟩, ⟨some 115, none, .pure (.mov), [.t 18]⟩, ⟨some 116, none, .pure (.bin .geq), [.t 114, .t 115]⟩, ⟨some 8, none, .pure (.mov), [.t 116]⟩] [0, 1, 2, 3, 8, 9, 14]) (.seq (.ops [⟨some 117, none, .pure (.mov), [.t 0]⟩, ⟨some 118, none, .pure (.mov), [.t 1]⟩, ⟨some 119, none, .pure (.mov), [.t 14]⟩, ⟨some 120, none, .pure (.mov), [.t 3]⟩, ⟨some 121, none, .loud (.call 113), [.t 117, .t 118, .t 119, .t 120]⟩] [0, 2, 3, 8, 9, 14]) (.ops [⟨some 122, none, .pure (.mov), [.t 14]⟩, ⟨some 123, none, .pure (.bin .add), [.t 122, .c (.int .i64 1)]⟩, ⟨some 1, none, .pure (.mov), [.t 123]⟩] [0, 1, 2, 3, 8, 9]))) (.seq (.ops [⟨some 124, none, .pure (.mov), [.t 17]⟩, ⟨some 125, none, .pure (.mov), [.t 18]⟩, ⟨some 126, none, .pure (.bin .geq), [.t 124, .t 125]⟩, ⟨some 8, none, .pure (.mov), [.t 126]⟩] [0, 1, 2, 3, 8, 9, 14]) (.seq (.ops [⟨some 127, none, .pure (.mov), [.t 0]⟩, ⟨some 128, none, .pure (.mov), [.t 14]⟩, ⟨some 129, none, .pure (.bin .add), [.t 128, .c (.int .i64 1)]⟩, ⟨some 130, none, .pure (.mov), [.t 2]⟩, ⟨some 131, none, .pure (.mov), [.t 3]⟩, ⟨some 132, none, .loud (.call 113), [.t 127, .t 129, .t 130, .t 131]⟩] [0, 1, 3, 8, 9, 14]) (.ops [⟨some 133, none, .pure (.mov), [.t 14]⟩, ⟨some 2, none, .pure (.mov), [.t 133]⟩] [0, 1, 2, 3, 8, 9])))))))))))))))))))))
def F113 : Fn Tryz.prog 113 := Fn.mkX false b113 [] 134 Tryz.f113 _ Tryz.func113 (by decide) rfl Tryz.ntmps113 (by kernel_rfl) (by kernel_rfl)
/-- signpost/signpostref6.Right -/
def b125 : BC := .seq (.ops [⟨some 2, none, .pure (.mov), [.c (.bool false)]⟩] [0]) (.seq (.seq (.ops [⟨some 3, none, .pure (.mov), [.c (.int .i64 0)]⟩] [0, 3]) (.block 0 (.loop [0, 3] (.seq (.seq (.ops [⟨some 4, none, .pure (.mov), [.t 3]⟩, ⟨some 5, none, .pure (.mov), [.t 0]⟩, ⟨some 6, none, .pure (.len), [.t 5]⟩, ⟨some 7, none, .pure (.bin .lss), [.t 4, .t 6]⟩] [0, 3, 7]) (.cond (.t 7) (.skip) (.exit 0))) (.seq (.block 1 (.seq (.ops [⟨some 10, none, .pure (.mov), [.t 0]⟩, ⟨some 11, none, .pure (.mov), [.t 3]⟩, ⟨some 12, none, .pure (.idx 2), [.t 10, .t 11]⟩, ⟨some 13, none, .pure (.fld 0), [.t 12]⟩, ⟨some 14, none, .load (.ld 1 false), [.t 13]⟩, ⟨some 15, none, .pure (.bin .neq), [.t 14, .c (.int .i64 1)]⟩, ⟨some 16, none, .pure (.mov), [.t 15]⟩, ⟨some 17, some (16, true), .pure (.mov), [.t 0]⟩, ⟨some 18, some (16, true), .pure (.mov), [.t 3]⟩, ⟨some 19, some (16, true), .pure (.idx 2), [.t 17, .t 18]⟩, ⟨some 20, some (16, true), .pure (.fld 0), [.t 19]⟩, ⟨some 21, some (16, true), .load (.ld 1 false), [.t 20]⟩, ⟨some 22, some (16, true), .pure (.bin .neq), [.t 21, .c (.int .i64 2)]⟩, ⟨some 23, none, .pick, [.t 16, .t 22, .c (.bool false)]⟩, ⟨some 24, none, .pure (.mov), [.t 23]⟩, ⟨some 25, some (24, false), .pure (.mov), [.t 0]⟩, ⟨some 26, some (24, false), .pure (.mov), [.t 3]⟩, ⟨some 27, some (24, false), .pure (.idx 2), [.t 25, .t 26]⟩, ⟨some 28, some (24, false), .pure (.fld 1), [.t 27]⟩, ⟨some 29, some (24, false), .load (.ld 1 false), [.t 28]⟩, ⟨some 30, some (24, false), .pure (.len), [.t 29]⟩, ⟨some 31, some (24, false), .pure (.bin .lss), [.t 30, .c (.int .i64 1)]⟩, ⟨some 32, none, .pick, [.t 24, .c (.bool true), .t 31]⟩, ⟨some 33, none, .pure (.mov), [.t 32]⟩, ⟨some 34, some (33, false), .pure (.mov), [.t 0]⟩, ⟨some 35, some (33, false), .pure (.mov), [.t 3]⟩, ⟨some 36, some (33, false), .pure (.idx 2), [.t 34, .t 35]⟩, ⟨some 37, some (33, false), .pure (.fld 1), [.t 36]⟩, ⟨some 38, some (33, false), .load (.ld 1 false), [.t 37]⟩, ⟨some 39, some (33, false), .pure (.len), [.t 38]⟩, ⟨some 40, some (33, false), .pure (.bin .gtr), [.t 39, .c (.int .i64 255)]⟩, ⟨some 41, none, .pick, [.t 33, .c (.bool true), .t 40]⟩] [0, 3, 41]) (.cond (.t 41) (.seq (.ops [⟨some 2, none, .pure (.mov), [.c (.bool false)]⟩] [2]) (.ret)) (.skip)))) (.ops [⟨some 8, none, .pure (.mov), [.t 3]⟩, ⟨some 9, none, .pure (.bin .add), [.t 8, .c (.int .i64 1)]⟩, ⟨some 3, none, .pure (.mov), [.t 9]⟩] [0, 3])))))) (.seq (.ops [⟨some 42, none, .pure (.mov), [.t 0]⟩, ⟨some 43, none, .pure (.len), [.t 42]⟩, ⟨some 44, none, .pure (.bin .leq), [.t 43, .c (.int .i64 16)]⟩, ⟨some 2, none, .pure (.mov), [.t 44]⟩] [2]) (.ret)))
def F125 : Fn Tryz.prog 125 := Fn.mkX false b125 [.t 2] 45 Tryz.f125 _ Tryz.func125 (by decide) rfl Tryz.ntmps125 (by kernel_rfl) (by kernel_rfl)
/-- (*signpost/wire.Reader).U32 -/
def b137 : BC := .seq (.ops [⟨some 2, none, .pure (.mov), [.c (.int .u32 0)]⟩] [0]) (.seq (.ops [⟨some 3, none, .pure (.mov), [.t 0]⟩, ⟨some 4, none, .loud (.call 101), [.t 3, .c (.int .i64 4)]⟩, ⟨some 5, none, .pure (.conv .u32), [.t 4]⟩, ⟨some 2, none, .pure (.mov), [.t 5]⟩] [2]) (.ret))
def F137 : Fn Tryz.prog 137 := Fn.mkX false b137 [.t 2] 6 Tryz.f137 _ Tryz.func137 (by decide) rfl Tryz.ntmps137 (by kernel_rfl) (by kernel_rfl)
/-- slices.insertionSortOrdered[int] -/
def b138 : BC := .seq (.ops [⟨some 8, none, .pure (.mov), [.t 1]⟩, ⟨some 9, none, .pure (.bin .add), [.t 8, .c (.int .i64 1)]⟩, ⟨some 6, none, .pure (.mov), [.t 9]⟩] [0, 1, 2, 6]) (.block 0 (.loop [0, 1, 2, 6] (.seq (.seq (.ops [⟨some 10, none, .pure (.mov), [.t 6]⟩, ⟨some 11, none, .pure (.mov), [.t 2]⟩, ⟨some 12, none, .pure (.bin .lss), [.t 10, .t 11]⟩] [0, 1, 2, 6, 12]) (.cond (.t 12) (.skip) (.exit 0))) (.seq (.block 1 (.seq (.ops [⟨some 15, none, .pure (.mov), [.t 6]⟩, ⟨some 7, none, .pure (.mov), [.t 15]⟩] [0, 1, 2, 6, 7]) (.block 2 (.loop [0, 1, 2, 6, 7] (.seq (.seq (.ops [⟨some 16, none, .pure (.mov), [.t 7]⟩, ⟨some 17, none, .pure (.mov), [.t 1]⟩, ⟨some 18, none, .pure (.bin .gtr), [.t 16, .t 17]⟩, ⟨some 19, none, .pure (.mov), [.t 18]⟩, ⟨some 20, some (19, true), .pure (.mov), [.t 0]⟩, ⟨some 21, some (19, true), .pure (.mov), [.t 7]⟩, ⟨some 22, some (19, true), .pure (.idx 1), [.t 20, .t 21]⟩, ⟨some 24, some (19, true), .pure (.mov), [.t 0]⟩, ⟨some 25, some (19, true), .pure (.mov), [.t 7]⟩, ⟨some 26, some (19, true), .pure (.bin .sub), [.t 25, .c (.int .i64 1)]⟩, ⟨some 27, some (19, true), .pure (.idx 1), [.t 24, .t 26]⟩, ⟨some 23, some (19, true), .load (.ld 1 false), [.t 22]⟩, ⟨some 28, some (19, true), .load (.ld 1 false), [.t 27]⟩, ⟨some 29, some (19, true), .loud (.call 144), [.t 23, .t 28]⟩, ⟨some 30, none, .pick, [.t 19, .t 29, .c (.bool false)]⟩] [0, 1, 2, 6, 7, 30]) (.cond (.t 30) (.skip) (.exit 2))) (.seq (.block 3 (.ops [⟨some 33, none, .pure (.mov), [.t 0]⟩, ⟨some 34, none, .pure (.mov), [.t 7]⟩, ⟨some 35, none, .pure (.mov), [.t 0]⟩, ⟨some 36, none, .pure (.mov), [.t 7]⟩, ⟨some 37, none, .pure (.bin .sub), [.t 36, .c (.int .i64 1)]⟩, ⟨some 38, none, .pure (.mov), [.t 0]⟩, ⟨some 39, none, .pure (.mov), [.t 7]⟩, ⟨some 40, none, .pure (.bin .sub), [.t 39, .c (.int .i64 1)]⟩, ⟨some 41, none, .pure (.idx 1), [.t 38, .t 40]⟩, ⟨some 43, none, .pure (.mov), [.t 0]⟩, ⟨some 44, none, .pure (.mov), [.t 7]⟩, ⟨some 45, none, .pure (.idx 1), [.t 43, .t 44]⟩, ⟨some 42, none, .load (.ld 1 false), [.t 41]⟩, ⟨some 46, none, .load (.ld 1 false), [.t 45]⟩, ⟨some 47, none, .pure (.idx 1), [.t 33, .t 34]⟩, ⟨none, none, .loud (.st 1), [.t 47, .t 42]⟩, ⟨some 48, none, .pure (.idx 1), [.t 35, .t 37]⟩, ⟨none, none, .loud (.st 1), [.t 48, .t 46]⟩] [0, 1, 2, 6, 7])) (.ops [⟨some 31, none, .pure (.mov), [.t 7]⟩, ⟨some 32, none, .pure (.bin .sub), [.t 31, .c (.int .i64 1)]⟩, ⟨some 7, none, .pure (.mov), [.t 32]⟩] [0, 1, 2, 6, 7]))))))) (.ops [⟨some 13, none, .pure (.mov), [.t 6]⟩, ⟨some 14, none, .pure (.bin .add), [.t 13, .c (.int .i64 1)]⟩, ⟨some 6, none, .pure (.mov), [.t 14]⟩] [0, 1, 2, 6])))))
def F138 : Fn Tryz.prog 138 := Fn.mkX false b138 [] 49 Tryz.f138 _ Tryz.func138 (by decide) rfl Tryz.ntmps138 (by kernel_rfl) (by kernel_rfl)
/-- slices.heapSortOrdered[int] -/
def b139 : BC := .seq (.ops [⟨some 11, none, .pure (.mov), [.t 1]⟩, ⟨some 6, none, .pure (.mov), [.t 11]⟩] [0, 1, 2, 6]) (.seq (.ops [⟨some 7, none, .pure (.mov), [.c (.int .i64 0)]⟩] [0, 1, 2, 6, 7]) (.seq (.ops [⟨some 12, none, .pure (.mov), [.t 2]⟩, ⟨some 13, none, .pure (.mov), [.t 1]⟩, ⟨some 14, none, .pure (.bin .sub), [.t 12, .t 13]⟩, ⟨some 8, none, .pure (.mov), [.t 14]⟩] [0, 6, 7, 8]) (.seq (.seq (.ops [⟨some 15, none, .pure (.mov), [.t 8]⟩, ⟨some 16, none, .pure (.bin .sub), [.t 15, .c (.int .i64 1)]⟩, ⟨some 17, none, .pure (.bin .quo), [.t 16, .c (.int .i64 2)]⟩, ⟨some 9, none, .pure (.mov), [.t 17]⟩] [0, 6, 7, 8, 9]) (.block 0 (.loop [0, 6, 7, 8, 9] (.seq (.seq (.ops [⟨some 18, none, .pure (.mov), [.t 9]⟩, ⟨some 19, none, .pure (.bin .geq), [.t 18, .c (.int .i64 0)]⟩] [0, 6, 7, 8, 9, 19]) (.cond (.t 19) (.skip) (.exit 0))) (.seq (.block 1 (.ops [⟨some 22, none, .pure (.mov), [.t 0]⟩, ⟨some 23, none, .pure (.mov), [.t 9]⟩, ⟨some 24, none, .pure (.mov), [.t 8]⟩, ⟨some 25, none, .pure (.mov), [.t 6]⟩, ⟨some 26, none, .loud (.call 159), [.t 22, .t 23, .t 24, .t 25]⟩] [0, 6, 7, 8, 9])) (.ops [⟨some 20, none, .pure (.mov), [.t 9]⟩, ⟨some 21, none, .pure (.bin .sub), [.t 20, .c (.int .i64 1)]⟩, ⟨some 9, none, .pure (.mov), [.t 21]⟩] [0, 6, 7, 8, 9])))))) (.seq (.ops [⟨some 27, none, .pure (.mov), [.t 8]⟩, ⟨some 28, none, .pure (.bin .sub), [.t 27, .c (.int .i64 1)]⟩, ⟨some 10, none, .pure (.mov), [.t 28]⟩] [0, 6, 7, 10]) (.block 2 (.loop [0, 6, 7, 10] (.seq (.seq (.ops [⟨some 29, none, .pure (.mov), [.t 10]⟩, ⟨some 30, none, .pure (.bin .geq), [.t 29, .c (.int .i64 0)]⟩] [0, 6, 7, 10, 30]) (.cond (.t 30) (.skip) (.exit 2))) (.seq (.block 3 (.seq (.ops [⟨some 33, none, .pure (.mov), [.t 0]⟩, ⟨some 34, none, .pure (.mov), [.t 6]⟩, ⟨some 35, none, .pure (.mov), [.t 0]⟩, ⟨some 36, none, .pure (.mov), [.t 6]⟩, ⟨some 37, none, .pure (.mov), [.t 10]⟩, ⟨some 38, none, .pure (.bin .add), [.t 36, .t 37]⟩, ⟨some 39, none, .pure (.mov), [.t 0]⟩, ⟨some 40, none, .pure (.mov), [.t 6]⟩, ⟨some 41, none, .pure (.mov), [.t 10]⟩, ⟨some 42, none, .pure (.bin .add), [.t 40, .t 41]⟩, ⟨some 43, none, .pure (.idx 1), [.t 39, .t 42]⟩, ⟨some 45, none, .pure (.mov), [.t 0]⟩, ⟨some 46, none, .pure (.mov), [.t 6]⟩, ⟨some 47, none, .pure (.idx 1), [.t 45, .t 46]⟩, ⟨some 44, none, .load (.ld 1 false), [.t 43]⟩, ⟨some 48, none, .load (.ld 1 false), [.t 47]⟩, ⟨some 49, none, .pure (.idx 1), [.t 33, .t 34]⟩, ⟨none, none, .loud (.st 1), [.t 49, .t 44]⟩, ⟨some 50, none, .pure (.idx 1), [.t 35, .t 38]⟩, ⟨none, none, .loud (.st 1), [.t 50, .t 48]⟩] [0, 6, 7, 10]) (.ops [⟨some 51, none, .pure (.mov), [.t 0]⟩, ⟨some 52, none, .pure (.mov), [.t 7]⟩, ⟨some 53, none, .pure (.mov), [.t 10]⟩, ⟨some 54, none, .pure (.mov), [.t 6]⟩, ⟨some 55, none, .loud (.call 159), [.t 51, .t 52, .t 53, .t 54]⟩] [0, 6, 7, 10]))) (.ops [⟨some 31, none, .pure (.mov), [.t 10]⟩, ⟨some 32, none, .pure (.bin .sub), [.t 31, .c (.int .i64 1)]⟩, ⟨some 10, none, .pure (.mov), [.t 32]⟩] [0, 6, 7, 10])))))))))
def F139 : Fn Tryz.prog 139 := Fn.mkX false b139 [] 56 Tryz.f139 _ Tryz.func139 (by decide) rfl Tryz.ntmps139 (by kernel_rfl) (by kernel_rfl)
/-- slices.breakPatternsOrdered[int] -/
def b140 : BC := .seq (.ops [⟨some 11, none, .pure (.mov), [.t 2]⟩, ⟨some 12, none, .pure (.mov), [.t 1]⟩, ⟨some 13, none, .pure (.bin .sub), [.t 11, .t 12]⟩, ⟨some 6, none, .pure (.mov), [.t 13]⟩] [0, 1, 6]) (.seq (.ops [⟨some 14, none, .pure (.mov), [.t 6]⟩, ⟨some 15, none, .pure (.bin .geq), [.t 14, .c (.int .i64 8)]⟩] [0, 1, 6, 15]) (.cond (.t 15) (.seq (.ops [⟨some 16, none, .pure (.mov), [.t 6]⟩, ⟨some 17, none, .pure (.conv .u64), [.t 16]⟩, ⟨some 7, none, .alloc (.alloc [(.int .u64 0)]), []⟩, ⟨none, none, .loud (.st 1), [.t 7, .t 17]⟩] [0, 1, 6, 7]) (.seq (.ops [⟨some 18, none, .pure (.mov), [.t 6]⟩, ⟨some 19, none, .loud (.call 160), [.t 18]⟩, ⟨some 8, none, .pure (.mov), [.t 19]⟩] [0, 1, 6, 7, 8]) (.seq (.ops [⟨some 20, none, .pure (.mov), [.t 1]⟩, ⟨some 21, none, .pure (.mov), [.t 6]⟩, ⟨some 22, none, .pure (.bin .quo), [.t 21, .c (.int .i64 4)]⟩, ⟨some 23, none, .pure (.bin .mul), [.t 22, .c (.int .i64 2)]⟩, ⟨some 24, none, .pure (.bin .add), [.t 20, .t 23]⟩, ⟨some 25, none, .pure (.bin .sub), [.t 24, .c (.int .i64 1)]⟩, ⟨some 9, none, .pure (.mov), [.t 25]⟩] [0, 1, 6, 7, 8, 9]) (.block 0 (.loop [0, 1, 6, 7, 8, 9] (.seq (.seq (.ops [⟨some 26, none, .pure (.mov), [.t 9]⟩, ⟨some 27, none, .pure (.mov), [.t 1]⟩, ⟨some 28, none, .pure (.mov), [.t 6]⟩, ⟨some 29, none, .pure (.bin .quo), [.t 28, .c (.int .i64 4)]⟩, ⟨some 30, none, .pure (.bin .mul), [.t 29, .c (.int .i64 2)]⟩, ⟨some 31, none, .pure (.bin .add), [.t 27, .t 30]⟩, ⟨some 32, none, .pure (.bin .add), [.t 31, .c (.int .i64 1)]⟩, ⟨some 33, none, .pure (.bin .leq), [.t 26, .t 32]⟩] [0, 1, 6, 7, 8, 9, 33]) (.cond (.t 33) (.skip) (.exit 0))) (.seq (.block 1 (.seq (.ops [⟨some 36, none, .loud (.call 161), [.t 7]⟩, ⟨some 37, none, .pure (.mov), [.t 8]⟩, ⟨some 38, none, .pure (.bin .sub), [.t 37, .c (.int .u64 1)]⟩, ⟨some 39, none, .pure (.bin .and), [.t 36, .t 38]⟩, ⟨some 40, none, .pure (.conv .i64), [.t 39]⟩, ⟨some 10, none, .pure (.mov), [.t 40]⟩] [0, 1, 6, 7, 8, 9, 10]) (.seq (.seq (.ops [⟨some 41, none, .pure (.mov), [.t 10]⟩, ⟨some 42, none, .pure (.mov), [.t 6]⟩, ⟨some 43, none, .pure (.bin .geq), [.t 41, .t 42]⟩] [0, 1, 6, 7, 8, 9, 10, 43]) (.cond (.t 43) (.ops [⟨some 44, none, .pure (.mov), [.t 10]⟩, ⟨some 45, none, .pure (.mov), [.t 6]⟩, ⟨some 46, none, .pure (.bin .sub), [.t 44, .t 45]⟩, ⟨some 10, none, .pure (.mov), [.t 46]⟩] [0, 1, 6, 7, 8, 9, 10]) (.skip))) (.ops [⟨some 47, none, .pure (.mov), [.t 0]⟩, ⟨some 48, none, .pure (.mov), [.t 9]⟩, ⟨some 49, none, .pure (.mov), [.t 0]⟩, ⟨some 50, none, .pure (.mov), [.t 1]⟩, ⟨some 51, none, .pure (.mov), [.t 10]⟩, ⟨some 52, none, .pure (.bin .add), [.t 50, .t 51]⟩, ⟨some 53, none, .pure (.mov), [.t 0]⟩, ⟨some 54, none, .pure (.mov), [.t 1]⟩, ⟨some 55, none, .pure (.mov), [.t 10]⟩, ⟨some 56, none, .pure (.bin .add), [.t 54, .t 55]⟩, ⟨some 57, none, .pure (.idx 1), [.t 53, .t 56]⟩, ⟨some 59, none, .pure (.mov), [.t 0]⟩, ⟨some 60, none, .pure (.mov), [.t 9]⟩, ⟨some 61, none, .pure (.idx 1), [.t 59, .t 60]⟩, ⟨some 58, none, .load (.ld 1 false), [.t 57]⟩, ⟨some 62, none, .load (.ld 1 false), [.t 61]⟩, ⟨some 63, none, .pure (.idx 1), [.t 47, .t 48]⟩, ⟨none, none, .loud (.st 1), [.t 63, .t 58]⟩, ⟨some 64, none, .pure (.idx 1), [.t 49, .t 52]⟩, ⟨none, none, .loud (.st 1), [.t 64, .t 62]⟩] [0, 1, 6, 7, 8, 9])))) (.ops [⟨some 34, none, .pure (.mov), [.t 9]⟩, ⟨some 35, none, .pure (.bin .add), [.t 34, .c (.int .i64 1)]⟩, ⟨some 9, none, .pure (.mov), [.t 35]⟩] [0, 1, 6, 7, 8, 9])))))))) (.skip)))
def F140 : Fn Tryz.prog 140 := Fn.mkX false b140 [] 65 Tryz.f140 _ Tryz.func140 (by decide) rfl Tryz.ntmps140 (by kernel_rfl) (by kernel_rfl)
/-- slices.choosePivotOrdered[int] -/
def b141 : BC := .seq (.ops [⟨some 6, none, .pure (.mov), [.c (.int .i64 0)]⟩, ⟨some 7, none, .pure (.mov), [.c (.int .i64 0)]⟩] [0, 1, 2]) (.seq (.ops [⟨some 13, none, .pure (.mov), [.t 2]⟩, ⟨some 14, none, .pure (.mov), [.t 1]⟩, ⟨some 15, none, .pure (.bin .sub), [.t 13, .t 14]⟩, ⟨some 8, none, .pure (.mov), [.t 15]⟩] [0, 1, 8]) (.seq (.ops [⟨some 9, none, .alloc (.alloc [(.int .i64 0)]), []⟩] [0, 1, 8, 9]) (.seq (.ops [⟨some 16, none, .pure (.mov), [.t 1]⟩, ⟨some 17, none, .pure (.mov), [.t 8]⟩, ⟨some 18, none, .pure (.bin .quo), [.t 17, .c (.int .i64 4)]⟩, ⟨some 19, none, .pure (.bin .mul), [.t 18, .c (.int .i64 1)]⟩, ⟨some 20, none, .pure (.bin .add), [.t 16, .t 19]⟩, ⟨some 10, none, .pure (.mov), [.t 20]⟩] [0, 1, 8, 9, 10]) (.seq (.ops [⟨some 21, none, .pure (.mov), [.t 1]⟩, ⟨some 22, none, .pure (.mov), [.t 8]⟩, ⟨some 23, none, .pure (.bin .quo), [.t 22, .c (.int .i64 4)]⟩, ⟨some 24, none, .pure (.bin .mul), [.t 23, .c (.int .i64 2)]⟩, ⟨some 25, none, .pure (.bin .add), [.t 21, .t 24]⟩, ⟨some 11, none, .pure (.mov), [.t 25]⟩] [0, 1, 8, 9, 10, 11]) (.seq (.ops [⟨some 26, none, .pure (.mov), [.t 1]⟩, ⟨some 27, none, .pure (.mov), [.t 8]⟩, ⟨some 28, none, .pure (.bin .quo), [.t 27, .c (.int .i64 4)]⟩, ⟨some 29, none, .pure (.bin .mul), [.t 28, .c (.int .i64 3)]⟩, ⟨some 30, none, .pure (.bin .add), [.t 26, .t 29]⟩, ⟨some 12, none, .pure (.mov), [.t 30]⟩] [0, 8, 9, 10, 11, 12]) (.seq (.seq (.ops [⟨some 31, none, .pure (.mov), [.t 8]⟩, ⟨some 32, none, .pure (.bin .geq), [.t 31, .c (.int .i64 8)]⟩] [0, 8, 9, 10, 11, 12, 32]) (.cond (.t 32) (.seq (.seq (.ops [⟨some 33, none, .pure (.mov), [.t 8]⟩, ⟨some 34, none, .pure (.bin .geq), [.t 33, .c (.int .i64 50)]⟩] [0, 9, 10, 11, 12, 34]) (.cond (.t 34) (.seq (.ops [⟨some 35, none, .pure (.mov), [.t 0]⟩, ⟨some 36, none, .pure (.mov), [.t 10]⟩, ⟨some 37, none, .loud (.call 162), [.t 35, .t 36, .t 9]⟩, ⟨some 10, none, .pure (.mov), [.t 37]⟩] [0, 9, 10, 11, 12]) (.seq (.ops [⟨some 38, none, .pure (.mov), [.t 0]⟩, ⟨some 39, none, .pure (.mov), [.t 11]⟩, ⟨some 40, none, .loud (.call 162), [.t 38, .t 39, .t 9]⟩, ⟨some 11, none, .pure (.mov), [.t 40]⟩] [0, 9, 10, 11, 12]) (.ops [⟨some 41, none, .pure (.mov), [.t 0]⟩, ⟨some 42, none, .pure (.mov), [.t 12]⟩, ⟨some 43, none, .loud (.call 162), [.t 41, .t 42, .t 9]⟩, ⟨some 12, none, .pure (.mov), [.t 43]⟩] [0, 9, 10, 11, 12]))) (.skip))) (.ops [⟨some 44, none, .pure (.mov), [.t 0]⟩, ⟨some 45, none, .pure (.mov), [.t 10]⟩, ⟨some 46, none, .pure (.mov), [.t 11]⟩, ⟨some 47, none, .pure (.mov), [.t 12]⟩, ⟨some 48, none, .loud (.call 163), [.t 44, .t 45, .t 46, .t 47, .t 9]⟩, ⟨some 11, none, .pure (.mov), [.t 48]⟩] [9, 11])) (.skip))) (.seq (.ops [⟨some 49, none, .load (.ld 1 false), [.t 9]⟩] [11, 49]) (.block 0 (.seq (.ops [⟨some 52, none, .pure (.bin .eql), [.t 49, .c (.int .i64 0)]⟩, ⟨some 51, none, .pure (.mov), [.t 52]⟩] [11, 49, 51]) (.cond (.t 51) (.seq (.ops [⟨some 53, none, .pure (.mov), [.t 11]⟩, ⟨some 6, none, .pure (.mov), [.t 53]⟩, ⟨some 7, none, .pure (.mov), [.c (.int .i64 1)]⟩] [6, 7]) (.ret)) (.seq (.ops [⟨some 55, none, .pure (.bin .eql), [.t 49, .c (.int .i64 12)]⟩, ⟨some 54, none, .pure (.mov), [.t 55]⟩] [11, 54]) (.cond (.t 54) (.seq (.ops [⟨some 56, none, .pure (.mov), [.t 11]⟩, ⟨some 6, none, .pure (.mov), [.t 56]⟩, ⟨some 7, none, .pure (.mov), [.c (.int .i64 2)]⟩] [6, 7]) (.ret)) (.seq (.ops [⟨some 50, none, .pure (.mov), [.t 11]⟩, ⟨some 6, none, .pure (.mov), [.t 50]⟩, ⟨some 7, none, .pure (.mov), [.c (.int .i64 0)]⟩] [6, 7]) (.ret))))))))))))))
def F141 : Fn Tryz.prog 141 := Fn.mkX false b141 [.t 6, .t 7] 57 Tryz.f141 _ Tryz.func141 (by decide) rfl Tryz.ntmps141 (by kernel_rfl) (by kernel_rfl)
/-- slices.reverseRangeOrdered[int] -/
def b142 : BC := .seq (.ops [⟨some 8, none, .pure (.mov), [.t 1]⟩, ⟨some 6, none, .pure (.mov), [.t 8]⟩] [0, 2, 6]) (.seq (.ops [⟨some 9, none, .pure (.mov), [.t 2]⟩, ⟨some 10, none, .pure (.bin .sub), [.t 9, .c (.int .i64 1)]⟩, ⟨some 7, none, .pure (.mov), [.t 10]⟩] [0, 6, 7]) (.block 0 (.loop [0, 6, 7] (.seq (.seq (.ops [⟨some 11, none, .pure (.mov), [.t 6]⟩, ⟨some 12, none, .pure (.mov), [.t 7]⟩, ⟨some 13, none, .pure (.bin .lss), [.t 11, .t 12]⟩] [0, 6, 7, 13]) (.cond (.t 13) (.skip) (.exit 0))) (.block 1 (.seq (.ops [⟨some 14, none, .pure (.mov), [.t 0]⟩, ⟨some 15, none, .pure (.mov), [.t 6]⟩, ⟨some 16, none, .pure (.mov), [.t 0]⟩, ⟨some 17, none, .pure (.mov), [.t 7]⟩, ⟨some 18, none, .pure (.mov), [.t 0]⟩, ⟨some 19, none, .pure (.mov), [.t 7]⟩, ⟨some 20, none, .pure (.idx 1), [.t 18, .t 19]⟩, ⟨some 22, none, .pure (.mov), [.t 0]⟩, ⟨some 23, none, .pure (.mov), [.t 6]⟩, ⟨some 24, none, .pure (.idx 1), [.t 22, .t 23]⟩, ⟨some 21, none, .load (.ld 1 false), [.t 20]⟩, ⟨some 25, none, .load (.ld 1 false), [.t 24]⟩, ⟨some 26, none, .pure (.idx 1), [.t 14, .t 15]⟩, ⟨none, none, .loud (.st 1), [.t 26, .t 21]⟩, ⟨some 27, none, .pure (.idx 1), [.t 16, .t 17]⟩, ⟨none, none, .loud (.st 1), [.t 27, .t 25]⟩] [0, 6, 7]) (.seq (.ops [⟨some 28, none, .pure (.mov), [.t 6]⟩, ⟨some 29, none, .pure (.bin .add), [.t 28, .c (.int .i64 1)]⟩, ⟨some 6, none, .pure (.mov), [.t 29]⟩] [0, 6, 7]) (.ops [⟨some 30, none, .pure (.mov), [.t 7]⟩, ⟨some 31, none, .pure (.bin .sub), [.t 30, .c (.int .i64 1)]⟩, ⟨some 7, none, .pure (.mov), [.t 31]⟩] [0, 6, 7]))))))))
def F142 : Fn Tryz.prog 142 := Fn.mkX false b142 [] 32 Tryz.f142 _ Tryz.func142 (by decide) rfl Tryz.ntmps142 (by kernel_rfl) (by kernel_rfl)
/-- slices.partialInsertionSortOrdered[int] -/
def b143 : BC := .seq (.ops [⟨some 6, none, .pure (.mov), [.c (.bool false)]⟩] [0, 1, 2]) (.seq (.ops [⟨some 11, none, .pure (.mov), [.t 1]⟩, ⟨some 12, none, .pure (.bin .add), [.t 11, .c (.int .i64 1)]⟩, ⟨some 7, none, .pure (.mov), [.t 12]⟩] [0, 1, 2, 7]) (.seq (.seq (.ops [⟨some 8, none, .pure (.mov), [.c (.int .i64 0)]⟩] [0, 1, 2, 7, 8]) (.block 0 (.loop [0, 1, 2, 7, 8] (.seq (.seq (.ops [⟨some 13, none, .pure (.mov), [.t 8]⟩, ⟨some 14, none, .pure (.bin .lss), [.t 13, .c (.int .i64 5)]⟩] [0, 1, 2, 7, 8, 14]) (.cond (.t 14) (.skip) (.exit 0))) (.seq (.block 1 (.seq (.block 2 (.loop [0, 1, 2, 7, 8] (.seq (.seq (.ops [⟨some 17, none, .pure (.mov), [.t 7]⟩, ⟨some 18, none, .pure (.mov), [.t 2]⟩, ⟨some 19, none, .pure (.bin .lss), [.t 17, .t 18]⟩, ⟨some 20, none, .pure (.mov), [.t 19]⟩, ⟨some 21, some (20, true), .pure (.mov), [.t 0]⟩, ⟨some 22, some (20, true), .pure (.mov), [.t 7]⟩, ⟨some 23, some (20, true), .pure (.idx 1), [.t 21, .t 22]⟩, ⟨some 25, some (20, true), .pure (.mov), [.t 0]⟩, ⟨some 26, some (20, true), .pure (.mov), [.t 7]⟩, ⟨some 27, some (20, true), .pure (.bin .sub), [.t 26, .c (.int .i64 1)]⟩, ⟨some 28, some (20, true), .pure (.idx 1), [.t 25, .t 27]⟩, ⟨some 24, some (20, true), .load (.ld 1 false), [.t 23]⟩, ⟨some 29, some (20, true), .load (.ld 1 false), [.t 28]⟩, ⟨some 30, some (20, true), .loud (.call 144), [.t 24, .t 29]⟩, ⟨some 31, some (20, true), .pure (.not), [.t 30]⟩, ⟨some 32, none, .pick, [.t 20, .t 31, .c (.bool false)]⟩] [0, 1, 2, 7, 8, 32]) (.cond (.t 32) (.skip) (.exit 2))) (.block 3 (.ops [⟨some 33, none, .pure (.mov), [.t 7]⟩, ⟨some 34, none, .pure (.bin .add), [.t 33, .c (.int .i64 1)]⟩, ⟨some 7, none, .pure (.mov), [.t 34]⟩] [0, 1, 2, 7, 8]))))) (.seq (.seq (.ops [⟨some 35, none, .pure (.mov), [.t 7]⟩, ⟨some 36, none, .pure (.mov), [.t 2]⟩, ⟨some 37, none, .pure (.bin .eql), [.t 35, .t 36]⟩] [0, 1, 2, 7, 8, 37]) (.cond (.t 37) (.seq (.ops [⟨some 6, none, .pure (.mov), [.c (.bool true)]⟩] [6]) (.ret)) (.skip))) (.seq (.seq (.ops [⟨some 38, none, .pure (.mov), [.t 2]⟩, ⟨some 39, none, .pure (.mov), [.t 1]⟩, ⟨some 40, none, .pure (.bin .sub), [.t 38, .t 39]⟩, ⟨some 41, none, .pure (.bin .lss), [.t 40, .c (.int .i64 50)]⟩] [0, 1, 2, 7, 8, 41]) (.cond (.t 41) (.seq (.ops [⟨some 6, none, .pure (.mov), [.c (.bool false)]⟩] [6]) (.ret)) (.skip))) (.seq (.ops [⟨some 42, none, .pure (.mov), [.t 0]⟩, ⟨some 43, none, .pure (.mov), [.t 7]⟩, ⟨some 44, none, .pure (.mov), [.t 0]⟩, ⟨some 45, none, .pure (.mov), [.t 7]⟩, ⟨some 46, none, .pure (.bin .sub), [.t 45, .c (.int .i64 1)]⟩, ⟨some 47, none, .pure (.mov), [.t 0]⟩, ⟨some 48, none, .pure (.mov), [.t 7]⟩, ⟨some 49, none, .pure (.bin .sub), [.t 48, .c (.int .i64 1)]⟩, ⟨some 50, none, .pure (.idx 1), [.t 47, .t 49]⟩, ⟨some 52, none, .pure (.mov), [.t 0]⟩, ⟨some 53, none, .pure (.mov), [.t 7]⟩, ⟨some 54, none, .pure (.idx 1), [.t 52, .t 53]⟩, ⟨some 51, none, .load (.ld 1 false), [.t 50]⟩, ⟨some 55, none, .load (.ld 1 false), [.t 54]⟩, ⟨some 56, none, .pure (.idx 1), [.t 42, .t 43]⟩, ⟨none, none, .loud (.st 1), [.t 56, .t 51]⟩, ⟨some 57, none, .pure (.idx 1), [.t 44, .t 46]⟩, ⟨none, none, .loud (.st 1), [.t 57, .t 55]⟩] [0, 1, 2, 7, 8]) (.seq (.seq (.ops [⟨some 58, none, .pure (.mov), [.t 7]⟩, ⟨some 59, none, .pure (.mov), [.t 1]⟩, ⟨some 60, none, .pure (.bin .sub), [.t 58, .t 59]⟩, ⟨some 61, none, .pure (.bin .geq), [.t 60, .c (.int .i64 2)]⟩] [0, 1, 2, 7, 8, 61]) (.cond (.t 61) (.seq (.ops [⟨some 62, none, .pure (.mov), [.t 7]⟩, ⟨some 63, none, .pure (.bin .sub), [.t 62, .c (.int .i64 1)]⟩, ⟨some 9, none, .pure (.mov), [.t 63]⟩] [0, 1, 2, 7, 8, 9]) (.block 4 (.loop [0, 1, 2, 7, 8, 9] (.seq (.seq (.ops [⟨some 64, none, .pure (.mov), [.t 9]⟩, ⟨some 65, none, .pure (.bin .geq), [.t 64, .c (.int .i64 1)]⟩] [0, 1, 2, 7, 8, 9, 65]) (.cond (.t 65) (.skip) (.exit 4))) (.seq (.block 5 (.seq (.seq (.ops [⟨some 68, none, .pure (.mov), [.t 0]⟩, ⟨some 69, none, .pure (.mov), [.t 9]⟩, ⟨some 70, none, .pure (.idx 1), [.t 68, .t 69]⟩, ⟨some 72, none, .pure (.mov), [.t 0]⟩, ⟨some 73, none, .pure (.mov), [.t 9]⟩, ⟨some 74, none, .pure (.bin .sub), [.t 73, .c (.int .i64 1)]⟩, ⟨some 75, none, .pure (.idx 1), [.t 72, .t 74]⟩, ⟨some 71, none, .load (.ld 1 false), [.t 70]⟩, ⟨some 76, none, .load (.ld 1 false), [.t 75]⟩, ⟨some 77, none, .loud (.call 144), [.t 71, .t 76]⟩, ⟨some 78, none, .pure (.not), [.t 77]⟩] [0, 1, 2, 7, 8, 9, 78]) (.cond (.t 78) (.exit 4) (.skip))) (.ops [⟨some 79, none, .pure (.mov), [.t 0]⟩, ⟨some 80, none, .pure (.mov), [.t 9]⟩, ⟨some 81, none, .pure (.mov), [.t 0]⟩, ⟨some 82, none, .pure (.mov), [.t 9]⟩, ⟨some 83, none, .pure (.bin .sub), [.t 82, .c (.int .i64 1)]⟩, ⟨some 84, none, .pure (.mov), [.t 0]⟩, ⟨some 85, none, .pure (.mov), [.t 9]⟩, ⟨some 86, none, .pure (.bin .sub), [.t 85, .c (.int .i64 1)]⟩, ⟨some 87, none, .pure (.idx 1), [.t 84, .t 86]⟩, ⟨some 89, none, .pure (.mov), [.t 0]⟩, ⟨some 90, none, .pure (.mov), [.t 9]⟩, ⟨some 91, none, .pure (.idx 1), [.t 89, .t 90]⟩, ⟨some 88, none, .load (.ld 1 false), [.t 87]⟩, ⟨some 92, none, .load (.ld 1 false), [.t 91]⟩, ⟨some 93, none, .pure (.idx 1), [.t 79, .t 80]⟩, ⟨none, none, .loud (.st 1), [.t 93, .t 88]⟩, ⟨some 94, none, .pure (.idx 1), [.t 81, .t 83]⟩, ⟨none, none, .loud (.st 1), [.t 94, .t 92]⟩] [0, 1, 2, 7, 8, 9]))) (.ops [⟨some 66, none, .pure (.mov), [.t 9]⟩, ⟨some 67, none, .pure (.bin .sub), [.t 66, .c (.int .i64 1)]⟩, ⟨some 9, none, .pure (.mov), [.t 67]⟩] [0, 1, 2, 7, 8, 9])))))) (.skip))) (.seq (.ops [⟨some 95, none, .pure (.mov), [.t 2]⟩, ⟨some 96, none, .pure (.mov), [.t 7]⟩, ⟨some 97, none, .pure (.bin .sub), [.t 95, .t 96]⟩, ⟨some 98, none, .pure (.bin .geq), [.t 97, .c (.int .i64 2)]⟩] [0, 1, 2, 7, 8, 98]) (.cond (.t 98) (.seq (.ops [⟨some 99, none, .pure (.mov), [.t 7]⟩, ⟨some 100, none, .pure (.bin .add), [.t 99, .c (.int .i64 1)]⟩, ⟨some 10, none, .pure (.mov), [.t 100]⟩] [0, 1, 2, 7, 8, 10]) (.block 6 (.loop [0, 1, 2, 7, 8, 10] (.seq (.seq (.ops [⟨some 101, none, .pure (.mov), [.t 10]⟩, ⟨some 102, none, .pure (.mov), [.t 2]⟩, ⟨some 103, none, .pure (.bin .lss), [.t 101, .t 102]⟩] [0, 1, 2, 7, 8, 10, 103]) (.cond (.t 103) (.skip) (.exit 6))) (.seq (.block 7 (.seq (.seq (.ops [⟨some 106, none, .pure (.mov), [.t 0]⟩, ⟨some 107, none, .pure (.mov), [.t 10]⟩, ⟨some 108, none, .pure (.idx 1), [.t 106, .t 107]⟩, ⟨some 110, none, .pure (.mov), [.t 0]⟩, ⟨some 111, none, .pure (.mov), [.t 10]⟩, ⟨some 112, none, .pure (.bin .sub), [.t 111, .c (.int .i64 1)]⟩, ⟨some 113, none, .pure (.idx 1), [.t 110, .t 112]⟩, ⟨some 109, none, .load (.ld 1 false), [.t 108]⟩, ⟨some 114, none, .load (.ld 1 false), [.t 113]⟩, ⟨some 115, none, .loud (.call 144), [.t 109, .t 114]⟩, ⟨some 116, none, .pure (.not), [.t 115]⟩] [0, 1, 2, 7, 8, 10, 116]) (.cond (.t 116) (.exit 6) (.skip))) (.ops [⟨some 117, none, .pure (.mov), [.t 0]⟩, ⟨some 118, none, .pure (.mov), [.t 10]⟩, ⟨some 119, none, .pure (.mov), [.t 0]⟩, ⟨some 120, none, .pure (.mov), [.t 10]⟩, ⟨some 121, none, .pure (.bin .sub), [.t 120, .c (.int .i64 1)]⟩, ⟨some 122, none, .pure (.mov), [.t 0]⟩, ⟨some 123, none, .pure (.mov), [.t 10]⟩, ⟨some 124, none, .pure (.bin .sub), [.t 123, .c (.int .i64 1)]⟩, ⟨some 125, none, .pure (.idx 1), [.t 122, .t 124]⟩, ⟨some 127, none, .pure (.mov), [.t 0]⟩, ⟨some 128, none, .pure (.mov), [.t 10]⟩, ⟨some 129, none, .pure (.idx 1), [.t 127, .t 128]⟩, ⟨some 126, none, .load (.ld 1 false), [.t 125]⟩, ⟨some 130, none, .load (.ld 1 false), [.t 129]⟩, ⟨some 131, none, .pure (.idx 1), [.t 117, .t 118]⟩, ⟨none, none, .loud (.st 1), [.t 131, .t 126]⟩, ⟨some 132, none, .pure (.idx 1), [.t 119, .t 121]⟩, ⟨none, none, .loud (.st 1), [.t 132, .t 130]⟩] [0, 1, 2, 7, 8, 10]))) (.ops [⟨some 104, none, .pure (.mov), [.t 10]⟩, ⟨some 105, none, .pure (.bin .add), [.t 104, .c (.int .i64 1)]⟩, ⟨some 10, none, .pure (.mov), [.t 105]⟩] [0, 1, 2, 7, 8, 10])))))) (.skip))))))))) (.ops [⟨some 15, none, .pure (.mov), [.t 8]⟩, ⟨some 16, none, .pure (.bin .add), [.t 15, .c (.int .i64 1)]⟩, ⟨some 8, none, .pure (.mov), [.t 16]⟩] [0, 1, 2, 7, 8])))))) (.seq (.ops [⟨some 6, none, .pure (.mov), [.c (.bool false)]⟩] [6]) (.ret))))
def F143 : Fn Tryz.prog 143 := Fn.mkX false b143 [.t 6] 133 Tryz.f143 _ Tryz.func143 (by decide) rfl Tryz.ntmps143 (by kernel_rfl) (by kernel_rfl)
/-- cmp.Less[int] -/
def b144 : BC := .seq (.ops [⟨some 4, none, .pure (.mov), [.c (.bool false)]⟩] [0, 1]) (.seq (.ops [⟨some 5, none, .pure (.mov), [.t 0]⟩, ⟨some 6, none, .loud (.call 153), [.t 5]⟩, ⟨some 7, none, .pure (.mov), [.t 6]⟩, ⟨some 8, some (7, true), .pure (.mov), [.t 1]⟩, ⟨some 9, some (7, true), .loud (.call 153), [.t 8]⟩, ⟨some 10, some (7, true), .pure (.not), [.t 9]⟩, ⟨some 11, none, .pick, [.t 7, .t 10, .c (.bool false)]⟩, ⟨some 12, none, .pure (.mov), [.t 11]⟩, ⟨some 13, some (12, false), .pure (.mov), [.t 0]⟩, ⟨some 14, some (12, false), .pure (.mov), [.t 1]⟩, ⟨some 15, some (12, false), .pure (.bin .lss), [.t 13, .t 14]⟩, ⟨some 16, none, .pick, [.t 12, .c (.bool true), .t 15]⟩, ⟨some 4, none, .pure (.mov), [.t 16]⟩] [4]) (.ret))
def F144 : Fn Tryz.prog 144 := Fn.mkX false b144 [.t 4] 17 Tryz.f144 _ Tryz.func144 (by decide) rfl Tryz.ntmps144 (by kernel_rfl) (by kernel_rfl)
/-- slices.partitionEqualOrdered[int] -/
def b145 : BC := .seq (.ops [⟨some 8, none, .pure (.mov), [.c (.int .i64 0)]⟩] [0, 1, 2, 3]) (.seq (.ops [⟨some 11, none, .pure (.mov), [.t 0]⟩, ⟨some 12, none, .pure (.mov), [.t 1]⟩, ⟨some 13, none, .pure (.mov), [.t 0]⟩, ⟨some 14, none, .pure (.mov), [.t 3]⟩, ⟨some 15, none, .pure (.mov), [.t 0]⟩, ⟨some 16, none, .pure (.mov), [.t 3]⟩, ⟨some 17, none, .pure (.idx 1), [.t 15, .t 16]⟩, ⟨some 19, none, .pure (.mov), [.t 0]⟩, ⟨some 20, none, .pure (.mov), [.t 1]⟩, ⟨some 21, none, .pure (.idx 1), [.t 19, .t 20]⟩, ⟨some 18, none, .load (.ld 1 false), [.t 17]⟩, ⟨some 22, none, .load (.ld 1 false), [.t 21]⟩, ⟨some 23, none, .pure (.idx 1), [.t 11, .t 12]⟩, ⟨none, none, .loud (.st 1), [.t 23, .t 18]⟩, ⟨some 24, none, .pure (.idx 1), [.t 13, .t 14]⟩, ⟨none, none, .loud (.st 1), [.t 24, .t 22]⟩] [0, 1, 2]) (.seq (.ops [⟨some 25, none, .pure (.mov), [.t 1]⟩, ⟨some 26, none, .pure (.bin .add), [.t 25, .c (.int .i64 1)]⟩, ⟨some 27, none, .pure (.mov), [.t 2]⟩, ⟨some 28, none, .pure (.bin .sub), [.t 27, .c (.int .i64 1)]⟩, ⟨some 9, none, .pure (.mov), [.t 26]⟩, ⟨some 10, none, .pure (.mov), [.t 28]⟩] [0, 1, 9, 10]) (.seq (.block 0 (.loop [0, 1, 9, 10] (.block 1 (.seq (.block 2 (.loop [0, 1, 9, 10] (.seq (.seq (.ops [⟨some 29, none, .pure (.mov), [.t 9]⟩, ⟨some 30, none, .pure (.mov), [.t 10]⟩, ⟨some 31, none, .pure (.bin .leq), [.t 29, .t 30]⟩, ⟨some 32, none, .pure (.mov), [.t 31]⟩, ⟨some 33, some (32, true), .pure (.mov), [.t 0]⟩, ⟨some 34, some (32, true), .pure (.mov), [.t 1]⟩, ⟨some 35, some (32, true), .pure (.idx 1), [.t 33, .t 34]⟩, ⟨some 37, some (32, true), .pure (.mov), [.t 0]⟩, ⟨some 38, some (32, true), .pure (.mov), [.t 9]⟩, ⟨some 39, some (32, true), .pure (.idx 1), [.t 37, .t 38]⟩, ⟨some 36, some (32, true), .load (.ld 1 false), [.t 35]⟩, ⟨some 40, some (32, true), .load (.ld 1 false), [.t 39]⟩, ⟨some 41, some (32, true), .loud (.call 144), [.t 36, .t 40]⟩, ⟨some 42, some (32, true), .pure (.not), [.t 41]⟩, ⟨some 43, none, .pick, [.t 32, .t 42, .c (.bool false)]⟩] [0, 1, 9, 10, 43]) (.cond (.t 43) (.skip) (.exit 2))) (.block 3 (.ops [⟨some 44, none, .pure (.mov), [.t 9]⟩, ⟨some 45, none, .pure (.bin .add), [.t 44, .c (.int .i64 1)]⟩, ⟨some 9, none, .pure (.mov), [.t 45]⟩] [0, 1, 9, 10]))))) (.seq (.block 4 (.loop [0, 1, 9, 10] (.seq (.seq (.ops [⟨some 46, none, .pure (.mov), [.t 9]⟩, ⟨some 47, none, .pure (.mov), [.t 10]⟩, ⟨some 48, none, .pure (.bin .leq), [.t 46, .t 47]⟩, ⟨some 49, none, .pure (.mov), [.t 48]⟩, ⟨some 50, some (49, true), .pure (.mov), [.t 0]⟩, ⟨some 51, some (49, true), .pure (.mov), [.t 1]⟩, ⟨some 52, some (49, true), .pure (.idx 1), [.t 50, .t 51]⟩, ⟨some 54, some (49, true), .pure (.mov), [.t 0]⟩, ⟨some 55, some (49, true), .pure (.mov), [.t 10]⟩, ⟨some 56, some (49, true), .pure (.idx 1), [.t 54, .t 55]⟩, ⟨some 53, some (49, true), .load (.ld 1 false), [.t 52]⟩, ⟨some 57, some (49, true), .load (.ld 1 false), [.t 56]⟩, ⟨some 58, some (49, true), .loud (.call 144), [.t 53, .t 57]⟩, ⟨some 59, none, .pick, [.t 49, .t 58, .c (.bool false)]⟩] [0, 1, 9, 10, 59]) (.cond (.t 59) (.skip) (.exit 4))) (.block 5 (.ops [⟨some 60, none, .pure (.mov), [.t 10]⟩, ⟨some 61, none, .pure (.bin .sub), [.t 60, .c (.int .i64 1)]⟩, ⟨some 10, none, .pure (.mov), [.t 61]⟩] [0, 1, 9, 10]))))) (.seq (.seq (.ops [⟨some 62, none, .pure (.mov), [.t 9]⟩, ⟨some 63, none, .pure (.mov), [.t 10]⟩, ⟨some 64, none, .pure (.bin .gtr), [.t 62, .t 63]⟩] [0, 1, 9, 10, 64]) (.cond (.t 64) (.exit 0) (.skip))) (.seq (.ops [⟨some 65, none, .pure (.mov), [.t 0]⟩, ⟨some 66, none, .pure (.mov), [.t 9]⟩, ⟨some 67, none, .pure (.mov), [.t 0]⟩, ⟨some 68, none, .pure (.mov), [.t 10]⟩, ⟨some 69, none, .pure (.mov), [.t 0]⟩, ⟨some 70, none, .pure (.mov), [.t 10]⟩, ⟨some 71, none, .pure (.idx 1), [.t 69, .t 70]⟩, ⟨some 73, none, .pure (.mov), [.t 0]⟩, ⟨some 74, none, .pure (.mov), [.t 9]⟩, ⟨some 75, none, .pure (.idx 1), [.t 73, .t 74]⟩, ⟨some 72, none, .load (.ld 1 false), [.t 71]⟩, ⟨some 76, none, .load (.ld 1 false), [.t 75]⟩, ⟨some 77, none, .pure (.idx 1), [.t 65, .t 66]⟩, ⟨none, none, .loud (.st 1), [.t 77, .t 72]⟩, ⟨some 78, none, .pure (.idx 1), [.t 67, .t 68]⟩, ⟨none, none, .loud (.st 1), [.t 78, .t 76]⟩] [0, 1, 9, 10]) (.seq (.ops [⟨some 79, none, .pure (.mov), [.t 9]⟩, ⟨some 80, none, .pure (.bin .add), [.t 79, .c (.int .i64 1)]⟩, ⟨some 9, none, .pure (.mov), [.t 80]⟩] [0, 1, 9, 10]) (.ops [⟨some 81, none, .pure (.mov), [.t 10]⟩, ⟨some 82, none, .pure (.bin .sub), [.t 81, .c (.int .i64 1)]⟩, ⟨some 10, none, .pure (.mov), [.t 82]⟩] [0, 1, 9, 10]))))))))) (.seq (.ops [⟨some 83, none, .pure (.mov), [.t 9]⟩, ⟨some 8, none, .pure (.mov), [.t 83]⟩] [8]) (.ret)))))
def F145 : Fn Tryz.prog 145 := Fn.mkX false b145 [.t 8] 84 Tryz.f145 _ Tryz.func145 (by decide) rfl Tryz.ntmps145 (by kernel_rfl) (by kernel_rfl)
/-- slices.partitionOrdered[int] -/
def b146 : BC := .seq (.ops [⟨some 8, none, .pure (.mov), [.c (.int .i64 0)]⟩, ⟨some 9, none, .pure (.mov), [.c (.bool false)]⟩] [0, 1, 2, 3]) (.seq (.ops [⟨some 12, none, .pure (.mov), [.t 0]⟩, ⟨some 13, none, .pure (.mov), [.t 1]⟩, ⟨some 14, none, .pure (.mov), [.t 0]⟩, ⟨some 15, none, .pure (.mov), [.t 3]⟩, ⟨some 16, none, .pure (.mov), [.t 0]⟩, ⟨some 17, none, .pure (.mov), [.t 3]⟩, ⟨some 18, none, .pure (.idx 1), [.t 16, .t 17]⟩, ⟨some 20, none, .pure (.mov), [.t 0]⟩, ⟨some 21, none, .pure (.mov), [.t 1]⟩, ⟨some 22, none, .pure (.idx 1), [.t 20, .t 21]⟩, ⟨some 19, none, .load (.ld 1 false), [.t 18]⟩, ⟨some 23, none, .load (.ld 1 false), [.t 22]⟩, ⟨some 24, none, .pure (.idx 1), [.t 12, .t 13]⟩, ⟨none, none, .loud (.st 1), [.t 24, .t 19]⟩, ⟨some 25, none, .pure (.idx 1), [.t 14, .t 15]⟩, ⟨none, none, .loud (.st 1), [.t 25, .t 23]⟩] [0, 1, 2]) (.seq (.ops [⟨some 26, none, .pure (.mov), [.t 1]⟩, ⟨some 27, none, .pure (.bin .add), [.t 26, .c (.int .i64 1)]⟩, ⟨some 28, none, .pure (.mov), [.t 2]⟩, ⟨some 29, none, .pure (.bin .sub), [.t 28, .c (.int .i64 1)]⟩, ⟨some 10, none, .pure (.mov), [.t 27]⟩, ⟨some 11, none, .pure (.mov), [.t 29]⟩] [0, 1, 10, 11]) (.seq (.block 0 (.loop [0, 1, 10, 11] (.seq (.seq (.ops [⟨some 30, none, .pure (.mov), [.t 10]⟩, ⟨some 31, none, .pure (.mov), [.t 11]⟩, ⟨some 32, none, .pure (.bin .leq), [.t 30, .t 31]⟩, ⟨some 33, none, .pure (.mov), [.t 32]⟩, ⟨some 34, some (33, true), .pure (.mov), [.t 0]⟩, ⟨some 35, some (33, true), .pure (.mov), [.t 10]⟩, ⟨some 36, some (33, true), .pure (.idx 1), [.t 34, .t 35]⟩, ⟨some 38, some (33, true), .pure (.mov), [.t 0]⟩, ⟨some 39, some (33, true), .pure (.mov), [.t 1]⟩, ⟨some 40, some (33, true), .pure (.idx 1), [.t 38, .t 39]⟩, ⟨some 37, some (33, true), .load (.ld 1 false), [.t 36]⟩, ⟨some 41, some (33, true), .load (.ld 1 false), [.t 40]⟩, ⟨some 42, some (33, true), .loud (.call 144), [.t 37, .t 41]⟩, ⟨some 43, none, .pick, [.t 33, .t 42, .c (.bool false)]⟩] [0, 1, 10, 11, 43]) (.cond (.t 43) (.skip) (.exit 0))) (.block 1 (.ops [⟨some 44, none, .pure (.mov), [.t 10]⟩, ⟨some 45, none, .pure (.bin .add), [.t 44, .c (.int .i64 1)]⟩, ⟨some 10, none, .pure (.mov), [.t 45]⟩] [0, 1, 10, 11]))))) (.seq (.block 2 (.loop [0, 1, 10, 11] (.seq (.seq (.ops [⟨some 46, none, .pure (.mov), [.t 10]⟩, ⟨some 47, none, .pure (.mov), [.t 11]⟩, ⟨some 48, none, .pure (.bin .leq), [.t 46, .t 47]⟩, ⟨some 49, none, .pure (.mov), [.t 48]⟩, ⟨some 50, some (49, true), .pure (.mov), [.t 0]⟩, ⟨some 51, some (49, true), .pure (.mov), [.t 11]⟩, ⟨some 52, some (49, true), .pure (.idx 1), [.t 50, .t 51]⟩, ⟨some 54, some (49, true), .pure (.mov), [.t 0]⟩, ⟨some 55, some (49, true), .pure (.mov), [.t 1]⟩, ⟨some 56, some (49, true), .pure (.idx 1), [.t 54, .t 55]⟩, ⟨some 53, some (49, true), .load (.ld 1 false), [.t 52]⟩, ⟨some 57, some (49, true), .load (.ld 1 false), [.t 56]⟩, ⟨some 58, some (49, true), .loud (.call 144), [.t 53, .t 57]⟩, ⟨some 59, some (49, true), .pure (.not), [.t 58]⟩, ⟨some 60, none, .pick, [.t 49, .t 59, .c (.bool false)]⟩] [0, 1, 10, 11, 60]) (.cond (.t 60) (.skip) (.exit 2))) (.block 3 (.ops [⟨some 61, none, .pure (.mov), [.t 11]⟩, ⟨some 62, none, .pure (.bin .sub), [.t 61, .c (.int .i64 1)]⟩, ⟨some 11, none, .pure (.mov), [.t 62]⟩] [0, 1, 10, 11]))))) (.seq (.seq (.ops [⟨some 63, none, .pure (.mov), [.t 10]⟩, ⟨some 64, none, .pure (.mov), [.t 11]⟩, ⟨some 65, none, .pure (.bin .gtr), [.t 63, .t 64]⟩] [0, 1, 10, 11, 65]) (.cond (.t 65) (.seq (.ops [⟨some 66, none, .pure (.mov), [.t 0]⟩, ⟨some 67, none, .pure (.mov), [.t 11]⟩, ⟨some 68, none, .pure (.mov), [.t 0]⟩, ⟨some 69, none, .pure (.mov), [.t 1]⟩, ⟨some 70, none, .pure (.mov), [.t 0]⟩, ⟨some 71, none, .pure (.mov), [.t 1]⟩, ⟨some 72, none, .pure (.idx 1), [.t 70, .t 71]⟩, ⟨some 74, none, .pure (.mov), [.t 0]⟩, ⟨some 75, none, .pure (.mov), [.t 11]⟩, ⟨some 76, none, .pure (.idx 1), [.t 74, .t 75]⟩, ⟨some 73, none, .load (.ld 1 false), [.t 72]⟩, ⟨some 77, none, .load (.ld 1 false), [.t 76]⟩, ⟨some 78, none, .pure (.idx 1), [.t 66, .t 67]⟩, ⟨none, none, .loud (.st 1), [.t 78, .t 73]⟩, ⟨some 79, none, .pure (.idx 1), [.t 68, .t 69]⟩, ⟨none, none, .loud (.st 1), [.t 79, .t 77]⟩] [11]) (.seq (.ops [⟨some 80, none, .pure (.mov), [.t 11]⟩, ⟨some 8, none, .pure (.mov), [.t 80]⟩, ⟨some 9, none, .pure (.mov), [.c (.bool true)]⟩] [8, 9]) (.ret))) (.skip))) (.seq (.ops [⟨some 81, none, .pure (.mov), [.t 0]⟩, ⟨some 82, none, .pure (.mov), [.t 10]⟩, ⟨some 83, none, .pure (.mov), [.t 0]⟩, ⟨some 84, none, .pure (.mov), [.t 11]⟩, ⟨some 85, none, .pure (.mov), [.t 0]⟩, ⟨some 86, none, .pure (.mov), [.t 11]⟩, ⟨some 87, none, .pure (.idx 1), [.t 85, .t 86]⟩, ⟨some 89, none, .pure (.mov), [.t 0]⟩, ⟨some 90, none, .pure (.mov), [.t 10]⟩, ⟨some 91, none, .pure (.idx 1), [.t 89, .t 90]⟩, ⟨some 88, none, .load (.ld 1 false), [.t 87]⟩, ⟨some 92, none, .load (.ld 1 false), [.t 91]⟩, ⟨some 93, none, .pure (.idx 1), [.t 81, .t 82]⟩, ⟨none, none, .loud (.st 1), [.t 93, .t 88]⟩, ⟨some 94, none, .pure (.idx 1), [.t 83, .t 84]⟩, ⟨none, none, .loud (.st 1), [.t 94, .t 92]⟩] [0, 1, 10, 11]) (.seq (.ops [⟨some 95, none, .pure (.mov), [.t 10]⟩, ⟨some 96, none, .pure (.bin .add), [.t 95, .c (.int .i64 1)]⟩, ⟨some 10, none, .pure (.mov), [.t 96]⟩] [0, 1, 10, 11]) (.seq (.ops [⟨some 97, none, .pure (.mov), [.t 11]⟩, ⟨some 98, none, .pure (.bin .sub), [.t 97, .c (.int .i64 1)]⟩, ⟨some 11, none, .pure (.mov), [.t 98]⟩] [0, 1, 10, 11]) (.seq (.block 4 (.loop [0, 1, 10, 11] (.block 5 (.seq (.block 6 (.loop [0, 1, 10, 11] (.seq (.seq (.ops [⟨some 99, none, .pure (.mov), [.t 10]⟩, ⟨some 100, none, .pure (.mov), [.t 11]⟩, ⟨some 101, none, .pure (.bin .leq), [.t 99, .t 100]⟩, ⟨some 102, none, .pure (.mov), [.t 101]⟩, ⟨some 103, some (102, true), .pure (.mov), [.t 0]⟩, ⟨some 104, some (102, true), .pure (.mov), [.t 10]⟩, ⟨some 105, some (102, true), .pure (.idx 1), [.t 103, .t 104]⟩, ⟨some 107, some (102, true), .pure (.mov), [.t 0]⟩, ⟨some 108, some (102, true), .pure (.mov), [.t 1]⟩, ⟨some 109, some (102, true), .pure (.idx 1), [.t 107, .t 108]⟩, ⟨some 106, some (102, true), .load (.ld 1 false), [.t 105]⟩, ⟨some 110, some (102, true), .load (.ld 1 false), [.t 109]⟩, ⟨some 111, some (102, true), .loud (.call 144), [.t 106, .t 110]⟩, ⟨some 112, none, .pick, [.t 102, .t 111, .c (.bool false)]⟩] [0, 1, 10, 11, 112]) (.cond (.t 112) (.skip) (.exit 6))) (.block 7 (.ops [⟨some 113, none, .pure (.mov), [.t 10]⟩, ⟨some 114, none, .pure (.bin .add), [.t 113, .c (.int .i64 1)]⟩, ⟨some 10, none, .pure (.mov), [.t 114]⟩] [0, 1, 10, 11]))))) (.seq (.block 8 (.loop [0, 1, 10, 11] (.seq (.seq (.ops [⟨some 115, none, .pure (.mov), [.t 10]⟩, ⟨some 116, none, .pure (.mov), [.t 11]⟩, ⟨some 117, none, .pure (.bin .leq), [.t 115, .t 116]⟩, ⟨some 118, none, .pure (.mov), [.t 117]⟩, ⟨some 119, some (118, true), .pure (.mov), [.t 0]⟩, ⟨some 120, some (118, true), .pure (.mov), [.t 11]⟩, ⟨some 121, some (118, true), .pure (.idx 1), [.t 119, .t 120]⟩, ⟨some 123, some (118, true), .pure (.mov), [.t 0]⟩, ⟨some 124, some (118, true), .pure (.mov), [.t 1]⟩, ⟨some 125, some (118, true), .pure (.idx 1), [.t 123, .t 124]⟩, ⟨some 122, some (118, true), .load (.ld 1 false), [.t 121]⟩, ⟨some 126, some (118, true), .load (.ld 1 false), [.t 125]⟩, ⟨some 127, some (118, true), .loud (.call 144), [.t 122, .t 126]⟩, ⟨some 128, some (118, true), .pure (.not), [.t 127]⟩, ⟨some 129, none, .pick, [.t 118, .t 128, .c (.bool false)]⟩] [0, 1, 10, 11, 129]) (.cond (.t 129) (.skip) (.exit 8))) (.block 9 (.ops [⟨some 130, none, .pure (.mov), [.t 11]⟩, ⟨some 131, none, .pure (.bin .sub), [.t 130, .c (.int .i64 1)]⟩, ⟨some 11, none, .pure (.mov), [.t 131]⟩] [0, 1, 10, 11]))))) (.seq (.seq (.ops [⟨some 132, none, .pure (.mov), [.t 10]⟩, ⟨some 133, none, .pure (.mov), [.t 11]⟩, ⟨some 134, none, .pure (.bin .gtr), [.t 132, .t 133]⟩] [0, 1, 10, 11, 134]) (.cond (.t 134) (.exit 4) (.skip))) (.seq (.ops [⟨some 135, none, .pure (.mov), [.t 0]⟩, ⟨some 136, none, .pure (.mov), [.t 10]⟩, ⟨some 137, none, .pure (.mov), [.t 0]⟩, ⟨some 138, none, .pure (.mov), [.t 11]⟩, ⟨some 139, none, .pure (.mov), [.t 0]⟩, ⟨some 140, none, .pure (.mov), [.t 11]⟩, ⟨some 141, none, .pure (.idx 1), [.t 139, .t 140]⟩, ⟨some 143, none, .pure (.mov), [.t 0]⟩, ⟨some 144, none, .pure (.mov), [.t 10]⟩, ⟨some 145, none, .pure (.idx 1), [.t 143, .t 144]⟩, ⟨some 142, none, .load (.ld 1 false), [.t 141]⟩, ⟨some 146, none, .load (.ld 1 false), [.t 145]⟩, ⟨some 147, none, .pure (.idx 1), [.t 135, .t 136]⟩, ⟨none, none, .loud (.st 1), [.t 147, .t 142]⟩, ⟨some 148, none, .pure (.idx 1), [.t 137, .t 138]⟩, ⟨none, none, .loud (.st 1), [.t 148, .t 146]⟩] [0, 1, 10, 11]) (.seq (.ops [⟨some 149, none, .pure (.mov), [.t 10]⟩, ⟨some 150, none, .pure (.bin .add), [.t 149, .c (.int .i64 1)]⟩, ⟨some 10, none, .pure (.mov), [.t 150]⟩] [0, 1, 10, 11]) (.ops [⟨some 151, none, .pure (.mov), [.t 11]⟩, ⟨some 152, none, .pure (.bin .sub), [.t 151, .c (.int .i64 1)]⟩, ⟨some 11, none, .pure (.mov), [.t 152]⟩] [0, 1, 10, 11]))))))))) (.seq (.ops [⟨some 153, none, .pure (.mov), [.t 0]⟩, ⟨some 154, none, .pure (.mov), [.t 11]⟩, ⟨some 155, none, .pure (.mov), [.t 0]⟩, ⟨some 156, none, .pure (.mov), [.t 1]⟩, ⟨some 157, none, .pure (.mov), [.t 0]⟩, ⟨some 158, none, .pure (.mov), [.t 1]⟩, ⟨some 159, none, .pure (.idx 1), [.t 157, .t 158]⟩, ⟨some 161, none, .pure (.mov), [.t 0]⟩, ⟨some 162, none, .pure (.mov), [.t 11]⟩, ⟨some 163, none, .pure (.idx 1), [.t 161, .t 162]⟩, ⟨some 160, none, .load (.ld 1 false), [.t 159]⟩, ⟨some 164, none, .load (.ld 1 false), [.t 163]⟩, ⟨some 165, none, .pure (.idx 1), [.t 153, .t 154]⟩, ⟨none, none, .loud (.st 1), [.t 165, .t 160]⟩, ⟨some 166, none, .pure (.idx 1), [.t 155, .t 156]⟩, ⟨none, none, .loud (.st 1), [.t 166, .t 164]⟩] [11]) (.seq (.ops [⟨some 167, none, .pure (.mov), [.t 11]⟩, ⟨some 8, none, .pure (.mov), [.t 167]⟩, ⟨some 9, none, .pure (.mov), [.c (.bool false)]⟩] [8, 9]) (.ret))))))))))))
def F146 : Fn Tryz.prog 146 := Fn.mkX false b146 [.t 8, .t 9] 168 Tryz.f146 _ Tryz.func146 (by decide) rfl Tryz.ntmps146 (by kernel_rfl) (by kernel_rfl)
/-- math/bits.Len32 -/
def b147 : BC := .seq (.ops [⟨some 2, none, .pure (.mov), [.c (.int .i64 0)]⟩] [0, 2]) (.seq (.seq (.ops [⟨some 3, none, .pure (.mov), [.t 0]⟩, ⟨some 4, none, .pure (.bin .geq), [.t 3, .c (.int .u32 65536)]⟩] [0, 2, 4]) (.cond (.t 4) (.seq (.ops [⟨some 5, none, .pure (.mov), [.t 0]⟩, ⟨some 6, none, .pure (.bin .shr), [.t 5, .c (.int .u64 16)]⟩, ⟨some 0, none, .pure (.mov), [.t 6]⟩] [0]) (.ops [⟨some 2, none, .pure (.mov), [.c (.int .i64 16)]⟩] [0, 2])) (.skip))) (.seq (.seq (.ops [⟨some 7, none, .pure (.mov), [.t 0]⟩, ⟨some 8, none, .pure (.bin .geq), [.t 7, .c (.int .u32 256)]⟩] [0, 2, 8]) (.cond (.t 8) (.seq (.ops [⟨some 9, none, .pure (.mov), [.t 0]⟩, ⟨some 10, none, .pure (.bin .shr), [.t 9, .c (.int .u64 8)]⟩, ⟨some 0, none, .pure (.mov), [.t 10]⟩] [0, 2]) (.ops [⟨some 11, none, .pure (.mov), [.t 2]⟩, ⟨some 12, none, .pure (.bin .add), [.t 11, .c (.int .i64 8)]⟩, ⟨some 2, none, .pure (.mov), [.t 12]⟩] [0, 2])) (.skip))) (.seq (.ops [⟨some 13, none, .pure (.mov), [.t 2]⟩, ⟨some 14, none, .pure (.mov), [.t 0]⟩, ⟨some 15, none, .pure (.conv .u8), [.t 14]⟩, ⟨some 16, none, .pure (.idxs), [.c (.str str0), .t 15]⟩, ⟨some 17, none, .pure (.conv .i64), [.t 16]⟩, ⟨some 18, none, .pure (.bin .add), [.t 13, .t 17]⟩, ⟨some 2, none, .pure (.mov), [.t 18]⟩] [2]) (.ret))))
def F147 : Fn Tryz.prog 147 := Fn.mkX false b147 [.t 2] 19 Tryz.f147 _ Tryz.func147 (by decide) rfl Tryz.ntmps147 (by kernel_rfl) (by kernel_rfl)
/-- slices.Values[[]uint32,uint32]$1 -/
def b152 : BC := .seq (.ops [⟨some 5, none, .load (.ld 1 false), [.t 1]⟩, ⟨some 6, none, .pure (.len), [.t 5]⟩, ⟨some 7, none, .pure (.mov), [.c (.int .i64 0)]⟩] [0, 5, 6, 7]) (.block 0 (.loop [0, 5, 6, 7] (.seq (.ops [⟨some 8, none, .pure (.bin .lss), [.t 7, .t 6]⟩] [0, 5, 6, 7, 8]) (.seq (.cond (.t 8) (.skip) (.exit 0)) (.seq (.block 1 (.seq (.ops [⟨some 9, none, .pure (.idx 1), [.t 5, .t 7]⟩, ⟨some 10, none, .load (.ld 1 false), [.t 9]⟩, ⟨some 4, none, .pure (.mov), [.t 10]⟩] [0, 4, 5, 6, 7]) (.seq (.ops [⟨some 11, none, .pure (.mov), [.t 0]⟩, ⟨some 12, none, .pure (.mov), [.t 4]⟩, ⟨some 13, none, .loud (.callv), [.t 11, .t 12]⟩, ⟨some 14, none, .pure (.not), [.t 13]⟩] [0, 5, 6, 7, 14]) (.cond (.t 14) (.ret) (.skip))))) (.ops [⟨some 15, none, .pure (.bin .add), [.t 7, .c (.int .i64 1)]⟩, ⟨some 7, none, .pure (.mov), [.t 15]⟩] [0, 5, 6, 7]))))))
def F152 : Fn Tryz.prog 152 := Fn.mkX false b152 [] 16 Tryz.f152 _ Tryz.func152 (by decide) rfl Tryz.ntmps152 (by kernel_rfl) (by kernel_rfl)
/-- slices.siftDownOrdered[int] -/
def b159 : BC := .seq (.ops [⟨some 10, none, .pure (.mov), [.t 1]⟩, ⟨some 8, none, .pure (.mov), [.t 10]⟩] [0, 2, 3, 8]) (.block 0 (.loop [0, 2, 3, 8] (.block 1 (.seq (.ops [⟨some 11, none, .pure (.mov), [.t 8]⟩, ⟨some 12, none, .pure (.bin .mul), [.c (.int .i64 2), .t 11]⟩, ⟨some 13, none, .pure (.bin .add), [.t 12, .c (.int .i64 1)]⟩, ⟨some 9, none, .pure (.mov), [.t 13]⟩] [0, 2, 3, 8, 9]) (.seq (.seq (.ops [⟨some 14, none, .pure (.mov), [.t 9]⟩, ⟨some 15, none, .pure (.mov), [.t 2]⟩, ⟨some 16, none, .pure (.bin .geq), [.t 14, .t 15]⟩] [0, 2, 3, 8, 9, 16]) (.cond (.t 16) (.exit 0) (.skip))) (.seq (.seq (.ops [⟨some 17, none, .pure (.mov), [.t 9]⟩, ⟨some 18, none, .pure (.bin .add), [.t 17, .c (.int .i64 1)]⟩, ⟨some 19, none, .pure (.mov), [.t 2]⟩, ⟨some 20, none, .pure (.bin .lss), [.t 18, .t 19]⟩, ⟨some 21, none, .pure (.mov), [.t 20]⟩, ⟨some 22, some (21, true), .pure (.mov), [.t 0]⟩, ⟨some 23, some (21, true), .pure (.mov), [.t 3]⟩, ⟨some 24, some (21, true), .pure (.mov), [.t 9]⟩, ⟨some 25, some (21, true), .pure (.bin .add), [.t 23, .t 24]⟩, ⟨some 26, some (21, true), .pure (.idx 1), [.t 22, .t 25]⟩, ⟨some 28, some (21, true), .pure (.mov), [.t 0]⟩, ⟨some 29, some (21, true), .pure (.mov), [.t 3]⟩, ⟨some 30, some (21, true), .pure (.mov), [.t 9]⟩, ⟨some 31, some (21, true), .pure (.bin .add), [.t 29, .t 30]⟩, ⟨some 32, some (21, true), .pure (.bin .add), [.t 31, .c (.int .i64 1)]⟩, ⟨some 33, some (21, true), .pure (.idx 1), [.t 28, .t 32]⟩, ⟨some 27, some (21, true), .load (.ld 1 false), [.t 26]⟩, ⟨some 34, some (21, true), .load (.ld 1 false), [.t 33]⟩, ⟨some 35, some (21, true), .loud (.call 144), [.t 27, .t 34]⟩, ⟨some 36, none, .pick, [.t 21, .t 35, .c (.bool false)]⟩] [0, 2, 3, 8, 9, 36]) (.cond (.t 36) (.ops [⟨some 37, none, .pure (.mov), [.t 9]⟩, ⟨some 38, none, .pure (.bin .add), [.t 37, .c (.int .i64 1)]⟩, ⟨some 9, none, .pure (.mov), [.t 38]⟩] [0, 2, 3, 8, 9]) (.skip))) (.seq (.seq (.ops [⟨some 39, none, .pure (.mov), [.t 0]⟩, ⟨some 40, none, .pure (.mov), [.t 3]⟩, ⟨some 41, none, .pure (.mov), [.t 8]⟩, ⟨some 42, none, .pure (.bin .add), [.t 40, .t 41]⟩, ⟨some 43, none, .pure (.idx 1), [.t 39, .t 42]⟩, ⟨some 45, none, .pure (.mov), [.t 0]⟩, ⟨some 46, none, .pure (.mov), [.t 3]⟩, ⟨some 47, none, .pure (.mov), [.t 9]⟩, ⟨some 48, none, .pure (.bin .add), [.t 46, .t 47]⟩, ⟨some 49, none, .pure (.idx 1), [.t 45, .t 48]⟩, ⟨some 44, none, .load (.ld 1 false), [.t 43]⟩, ⟨some 50, none, .load (.ld 1 false), [.t 49]⟩, ⟨some 51, none, .loud (.call 144), [.t 44, .t 50]⟩, ⟨some 52, none, .pure (.not), [.t 51]⟩] [0, 2, 3, 8, 9, 52]) (.cond (.t 52) (.ret) (.skip))) (.seq (.ops [⟨some 53, none, .pure (.mov), [.t 0]⟩, ⟨some 54, none, .pure (.mov), [.t 3]⟩, ⟨some 55, none, .pure (.mov), [.t 8]⟩, ⟨some 56, none, .pure (.bin .add), [.t 54, .t 55]⟩, ⟨some 57, none, .pure (.mov), [.t 0]⟩, ⟨some 58, none, .pure (.mov), [.t 3]⟩, ⟨some 59, none, .pure (.mov), [.t 9]⟩, ⟨some 60, none, .pure (.bin .add), [.t 58, .t 59]⟩, ⟨some 61, none, .pure (.mov), [.t 0]⟩, ⟨some 62, none, .pure (.mov), [.t 3]⟩, ⟨some 63, none, .pure (.mov), [.t 9]⟩, ⟨some 64, none, .pure (.bin .add), [.t 62, .t 63]⟩, ⟨some 65, none, .pure (.idx 1), [.t 61, .t 64]⟩, ⟨some 67, none, .pure (.mov), [.t 0]⟩, ⟨some 68, none, .pure (.mov), [.t 3]⟩, ⟨some 69, none, .pure (.mov), [.t 8]⟩, ⟨some 70, none, .pure (.bin .add), [.t 68, .t 69]⟩, ⟨some 71, none, .pure (.idx 1), [.t 67, .t 70]⟩, ⟨some 66, none, .load (.ld 1 false), [.t 65]⟩, ⟨some 72, none, .load (.ld 1 false), [.t 71]⟩, ⟨some 73, none, .pure (.idx 1), [.t 53, .t 56]⟩, ⟨none, none, .loud (.st 1), [.t 73, .t 66]⟩, ⟨some 74, none, .pure (.idx 1), [.t 57, .t 60]⟩, ⟨none, none, .loud (.st 1), [.t 74, .t 72]⟩] [0, 2, 3, 9]) (.ops [⟨some 75, none, .pure (.mov), [.t 9]⟩, ⟨some 8, none, .pure (.mov), [.t 75]⟩] [0, 2, 3, 8])))))))))
def F159 : Fn Tryz.prog 159 := Fn.mkX false b159 [] 76 Tryz.f159 _ Tryz.func159 (by decide) rfl Tryz.ntmps159 (by kernel_rfl) (by kernel_rfl)
/-- slices.medianAdjacentOrdered[int] -/
def b162 : BC := .seq (.ops [⟨some 6, none, .pure (.mov), [.c (.int .i64 0)]⟩] [0, 1, 2]) (.seq (.ops [⟨some 7, none, .pure (.mov), [.t 0]⟩, ⟨some 8, none, .pure (.mov), [.t 1]⟩, ⟨some 9, none, .pure (.bin .sub), [.t 8, .c (.int .i64 1)]⟩, ⟨some 10, none, .pure (.mov), [.t 1]⟩, ⟨some 11, none, .pure (.mov), [.t 1]⟩, ⟨some 12, none, .pure (.bin .add), [.t 11, .c (.int .i64 1)]⟩, ⟨some 13, none, .pure (.mov), [.t 2]⟩, ⟨some 14, none, .loud (.call 163), [.t 7, .t 9, .t 10, .t 12, .t 13]⟩, ⟨some 6, none, .pure (.mov), [.t 14]⟩] [6]) (.ret))
def F162 : Fn Tryz.prog 162 := Fn.mkX false b162 [.t 6] 15 Tryz.f162 _ Tryz.func162 (by decide) rfl Tryz.ntmps162 (by kernel_rfl) (by kernel_rfl)
/-- slices.medianOrdered[int] -/
def b163 : BC := .seq (.ops [⟨some 10, none, .pure (.mov), [.c (.int .i64 0)]⟩] [0, 1, 2, 3, 4]) (.seq (.ops [⟨some 12, none, .pure (.mov), [.t 0]⟩, ⟨some 13, none, .pure (.mov), [.t 1]⟩, ⟨some 14, none, .pure (.mov), [.t 2]⟩, ⟨some 15, none, .pure (.mov), [.t 4]⟩, ⟨some 16, none, .loud (.call 167), [.t 12, .t 13, .t 14, .t 15]⟩, ⟨some 11, none, .pure (.mov), [.t 16]⟩, ⟨some 17, none, .pure (.ext 0), [.t 11]⟩, ⟨some 18, none, .pure (.ext 1), [.t 11]⟩, ⟨some 1, none, .pure (.mov), [.t 17]⟩, ⟨some 2, none, .pure (.mov), [.t 18]⟩] [0, 1, 2, 3, 4]) (.seq (.ops [⟨some 20, none, .pure (.mov), [.t 0]⟩, ⟨some 21, none, .pure (.mov), [.t 2]⟩, ⟨some 22, none, .pure (.mov), [.t 3]⟩, ⟨some 23, none, .pure (.mov), [.t 4]⟩, ⟨some 24, none, .loud (.call 167), [.t 20, .t 21, .t 22, .t 23]⟩, ⟨some 19, none, .pure (.mov), [.t 24]⟩, ⟨some 25, none, .pure (.ext 0), [.t 19]⟩, ⟨some 26, none, .pure (.ext 1), [.t 19]⟩, ⟨some 2, none, .pure (.mov), [.t 25]⟩, ⟨some 3, none, .pure (.mov), [.t 26]⟩] [0, 1, 2, 4]) (.seq (.ops [⟨some 28, none, .pure (.mov), [.t 0]⟩, ⟨some 29, none, .pure (.mov), [.t 1]⟩, ⟨some 30, none, .pure (.mov), [.t 2]⟩, ⟨some 31, none, .pure (.mov), [.t 4]⟩, ⟨some 32, none, .loud (.call 167), [.t 28, .t 29, .t 30, .t 31]⟩, ⟨some 27, none, .pure (.mov), [.t 32]⟩, ⟨some 33, none, .pure (.ext 0), [.t 27]⟩, ⟨some 34, none, .pure (.ext 1), [.t 27]⟩, ⟨some 1, none, .pure (.mov), [.t 33]⟩, ⟨some 2, none, .pure (.mov), [.t 34]⟩] [2]) (.seq (.ops [⟨some 35, none, .pure (.mov), [.t 2]⟩, ⟨some 10, none, .pure (.mov), [.t 35]⟩] [10]) (.ret)))))
def F163 : Fn Tryz.prog 163 := Fn.mkX false b163 [.t 10] 36 Tryz.f163 _ Tryz.func163 (by decide) rfl Tryz.ntmps163 (by kernel_rfl) (by kernel_rfl)
/-- slices.order2Ordered[int] -/
def b167 : BC := .seq (.ops [⟨some 8, none, .pure (.mov), [.c (.int .i64 0)]⟩, ⟨some 9, none, .pure (.mov), [.c (.int .i64 0)]⟩] [0, 1, 2, 3]) (.seq (.seq (.ops [⟨some 10, none, .pure (.mov), [.t 0]⟩, ⟨some 11, none, .pure (.mov), [.t 2]⟩, ⟨some 12, none, .pure (.idx 1), [.t 10, .t 11]⟩, ⟨some 14, none, .pure (.mov), [.t 0]⟩, ⟨some 15, none, .pure (.mov), [.t 1]⟩, ⟨some 16, none, .pure (.idx 1), [.t 14, .t 15]⟩, ⟨some 13, none, .load (.ld 1 false), [.t 12]⟩, ⟨some 17, none, .load (.ld 1 false), [.t 16]⟩, ⟨some 18, none, .loud (.call 144), [.t 13, .t 17]⟩] [1, 2, 3, 18]) (.cond (.t 18) (.seq (.ops [⟨some 19, none, .pure (.mov), [.t 3]⟩, ⟨some 20, none, .pure (.nilchk), [.t 19]⟩, ⟨some 21, none, .load (.ld 1 false), [.t 20]⟩, ⟨some 22, none, .pure (.bin .add), [.t 21, .c (.int .i64 1)]⟩, ⟨some 23, none, .pure (.nilchk), [.t 19]⟩, ⟨none, none, .loud (.st 1), [.t 23, .t 22]⟩] [1, 2]) (.seq (.ops [⟨some 24, none, .pure (.mov), [.t 2]⟩, ⟨some 25, none, .pure (.mov), [.t 1]⟩, ⟨some 8, none, .pure (.mov), [.t 24]⟩, ⟨some 9, none, .pure (.mov), [.t 25]⟩] [8, 9]) (.ret))) (.skip))) (.seq (.ops [⟨some 26, none, .pure (.mov), [.t 1]⟩, ⟨some 27, none, .pure (.mov), [.t 2]⟩, ⟨some 8, none, .pure (.mov), [.t 26]⟩, ⟨some 9, none, .pure (.mov), [.t 27]⟩] [8, 9]) (.ret)))
def F167 : Fn Tryz.prog 167 := Fn.mkX false b167 [.t 8, .t 9] 28 Tryz.f167 _ Tryz.func167 (by decide) rfl Tryz.ntmps167 (by kernel_rfl) (by kernel_rfl)
end Go.Am.Tst

/- R1 -/
namespace Go.Am
open Go.Proofs Go.Sort
theorem sideI {x y : Int} (h : ¬ x = y) : sideF (decide (x < y)) = cmpI x y := by
  unfold sideF cmpI
  by_cases g : x < y
  · simp [g]
  · simp [g]; omega
theorem sideB {x y : Bool} (h : ¬ x = y) : sideF (!x) = IntKind.i64.wrap (truthF x - truthF y) := by
  cases x <;> cases y <;> first | exact absurd rfl h | decide
set_option maxHeartbeats 1000000 in
theorem x_rord (a b : At) (ha : a.ok) (hb : b.ok) (σ : Store) : ACalls Tryz.prog 79 [.agg a.c, .agg b.c] σ (fun r s => s = σ ∧ r = .int .i64 (cmpAs (canonA a) (canonA b))) := by
  refine calls_of Tst.F79 (by simp [Tst.F79, Fn.mkX]) ?_
  simp only [Tst.F79, Fn.mkX, Tst.b79]
  simp only [At.c, ↓vcPre, ↓wit_get, ↓reduceIte, vcPost, vcStd, Nat.reduceEqDiff, reduceCtorEq, Nat.reduceAdd, Nat.reduceLeDiff, Int.reduceLT, Int.reduceLE, ↓u_setN]
  refine AllocQ.i0 fun i hi => ?_
  simp only [At.c, ↓vcPre, ↓wit_get, ↓reduceIte, vcPost, vcStd, Nat.reduceEqDiff, reduceCtorEq, Nat.reduceAdd, Nat.reduceLeDiff, Int.reduceLT, Int.reduceLE, ↓u_setN]
  refine AllocQ.i1 fun j hj1 hj2 hj => ?_
  simp only [hj1, hj2, ↓vcPre, ↓wit_get, ↓reduceIte, vcPost, vcStd, Nat.reduceEqDiff, reduceCtorEq, Nat.reduceAdd, Nat.reduceLeDiff, Int.reduceLT, Int.reduceLE, ↓u_setN]
  refine (c46 a ha).Q ?_
  simp only [hj1, hj2, ↓vcPre, ↓wit_get, ↓reduceIte, vcPost, vcStd, Nat.reduceEqDiff, reduceCtorEq, Nat.reduceAdd, Nat.reduceLeDiff, Int.reduceLT, Int.reduceLE, ↓u_setN]
  refine (c46 b hb).Q ?_
  simp only [hj1, hj2, ↓vcPre, ↓wit_get, ↓reduceIte, vcPost, vcStd, Nat.reduceEqDiff, reduceCtorEq, Nat.reduceAdd, Nat.reduceLeDiff, Int.reduceLT, Int.reduceLE, ↓u_setN]
  have hx := canonA_ok ha
  have hy := canonA_ok hb
  generalize canonA a = p at hx ⊢
  generalize canonA b = q at hy ⊢
  simp only [hj1, hj2, At.c, ↓vcPre, ↓wit_get, ↓reduceIte, vcPost, vcStd, Nat.reduceEqDiff, reduceCtorEq, Nat.reduceAdd, Nat.reduceLeDiff, Int.reduceLT, Int.reduceLE, ↓u_setN]
  have hti : ((((σ.set i (Obj.box [AV.int IntKind.i64 a.org, AV.sl 2 (List.map Seg.c a.path), AV.int IntKind.u32 a.nxt, AV.bool a.hm, AV.int IntKind.u32 a.med, AV.bool a.hp, AV.int IntKind.u32 a.prf, AV.bool a.atm, AV.sl 1 (List.map cU a.cms)])).set j (Obj.box [AV.int IntKind.i64 b.org, AV.sl 2 (List.map Seg.c b.path), AV.int IntKind.u32 b.nxt, AV.bool b.hm, AV.int IntKind.u32 b.med, AV.bool b.hp, AV.int IntKind.u32 b.prf, AV.bool b.atm, AV.sl 1 (List.map cU b.cms)])).set i (Obj.box [AV.int IntKind.i64 p.org, AV.sl 2 (List.map Seg.c p.path), AV.int IntKind.u32 p.nxt, AV.bool p.hm, AV.int IntKind.u32 p.med, AV.bool p.hp, AV.int IntKind.u32 p.prf, AV.bool p.atm, AV.sl 1 (List.map cU p.cms)])).set j (Obj.box [AV.int IntKind.i64 q.org, AV.sl 2 (List.map Seg.c q.path), AV.int IntKind.u32 q.nxt, AV.bool q.hm, AV.int IntKind.u32 q.med, AV.bool q.hp, AV.int IntKind.u32 q.prf, AV.bool q.atm, AV.sl 1 (List.map cU q.cms)])) i = some (Obj.box [AV.int IntKind.i64 p.org, AV.sl 2 (List.map Seg.c p.path), AV.int IntKind.u32 p.nxt, AV.bool p.hm, AV.int IntKind.u32 p.med, AV.bool p.hp, AV.int IntKind.u32 p.prf, AV.bool p.atm, AV.sl 1 (List.map cU p.cms)]) := by rw [Store.set_ne _ _ hj2, Store.set_same]
  have htj : ((((σ.set i (Obj.box [AV.int IntKind.i64 a.org, AV.sl 2 (List.map Seg.c a.path), AV.int IntKind.u32 a.nxt, AV.bool a.hm, AV.int IntKind.u32 a.med, AV.bool a.hp, AV.int IntKind.u32 a.prf, AV.bool a.atm, AV.sl 1 (List.map cU a.cms)])).set j (Obj.box [AV.int IntKind.i64 b.org, AV.sl 2 (List.map Seg.c b.path), AV.int IntKind.u32 b.nxt, AV.bool b.hm, AV.int IntKind.u32 b.med, AV.bool b.hp, AV.int IntKind.u32 b.prf, AV.bool b.atm, AV.sl 1 (List.map cU b.cms)])).set i (Obj.box [AV.int IntKind.i64 p.org, AV.sl 2 (List.map Seg.c p.path), AV.int IntKind.u32 p.nxt, AV.bool p.hm, AV.int IntKind.u32 p.med, AV.bool p.hp, AV.int IntKind.u32 p.prf, AV.bool p.atm, AV.sl 1 (List.map cU p.cms)])).set j (Obj.box [AV.int IntKind.i64 q.org, AV.sl 2 (List.map Seg.c q.path), AV.int IntKind.u32 q.nxt, AV.bool q.hm, AV.int IntKind.u32 q.med, AV.bool q.hp, AV.int IntKind.u32 q.prf, AV.bool q.atm, AV.sl 1 (List.map cU q.cms)])) j = some (Obj.box [AV.int IntKind.i64 q.org, AV.sl 2 (List.map Seg.c q.path), AV.int IntKind.u32 q.nxt, AV.bool q.hm, AV.int IntKind.u32 q.med, AV.bool q.hp, AV.int IntKind.u32 q.prf, AV.bool q.atm, AV.sl 1 (List.map cU q.cms)]) := Store.set_same _ _ _
  have hts : Store.sub σ ((((σ.set i (Obj.box [AV.int IntKind.i64 a.org, AV.sl 2 (List.map Seg.c a.path), AV.int IntKind.u32 a.nxt, AV.bool a.hm, AV.int IntKind.u32 a.med, AV.bool a.hp, AV.int IntKind.u32 a.prf, AV.bool a.atm, AV.sl 1 (List.map cU a.cms)])).set j (Obj.box [AV.int IntKind.i64 b.org, AV.sl 2 (List.map Seg.c b.path), AV.int IntKind.u32 b.nxt, AV.bool b.hm, AV.int IntKind.u32 b.med, AV.bool b.hp, AV.int IntKind.u32 b.prf, AV.bool b.atm, AV.sl 1 (List.map cU b.cms)])).set i (Obj.box [AV.int IntKind.i64 p.org, AV.sl 2 (List.map Seg.c p.path), AV.int IntKind.u32 p.nxt, AV.bool p.hm, AV.int IntKind.u32 p.med, AV.bool p.hp, AV.int IntKind.u32 p.prf, AV.bool p.atm, AV.sl 1 (List.map cU p.cms)])).set j (Obj.box [AV.int IntKind.i64 q.org, AV.sl 2 (List.map Seg.c q.path), AV.int IntKind.u32 q.nxt, AV.bool q.hm, AV.int IntKind.u32 q.med, AV.bool q.hp, AV.int IntKind.u32 q.prf, AV.bool q.atm, AV.sl 1 (List.map cU q.cms)])) := sub_upd' (sub_upd' (sub_set2 hi hj hj1) hi) hj
  generalize ((((σ.set i (Obj.box [AV.int IntKind.i64 a.org, AV.sl 2 (List.map Seg.c a.path), AV.int IntKind.u32 a.nxt, AV.bool a.hm, AV.int IntKind.u32 a.med, AV.bool a.hp, AV.int IntKind.u32 a.prf, AV.bool a.atm, AV.sl 1 (List.map cU a.cms)])).set j (Obj.box [AV.int IntKind.i64 b.org, AV.sl 2 (List.map Seg.c b.path), AV.int IntKind.u32 b.nxt, AV.bool b.hm, AV.int IntKind.u32 b.med, AV.bool b.hp, AV.int IntKind.u32 b.prf, AV.bool b.atm, AV.sl 1 (List.map cU b.cms)])).set i (Obj.box [AV.int IntKind.i64 p.org, AV.sl 2 (List.map Seg.c p.path), AV.int IntKind.u32 p.nxt, AV.bool p.hm, AV.int IntKind.u32 p.med, AV.bool p.hp, AV.int IntKind.u32 p.prf, AV.bool p.atm, AV.sl 1 (List.map cU p.cms)])).set j (Obj.box [AV.int IntKind.i64 q.org, AV.sl 2 (List.map Seg.c q.path), AV.int IntKind.u32 q.nxt, AV.bool q.hm, AV.int IntKind.u32 q.med, AV.bool q.hp, AV.int IntKind.u32 q.prf, AV.bool q.atm, AV.sl 1 (List.map cU q.cms)])) = t at hti htj hts ⊢
  have nz : ∀ {bb : Bool} {E : Env}, sideF bb = cmpAs p q → @EndQ ((4, .int .i64 (sideF bb)) :: E) t ⟨Tst.F79.slots, fun r s => s = σ ∧ r = .int .i64 (cmpAs p q)⟩ := fun {bb E} h => EndQ.to σ _ rfl hts ⟨rfl, by rw [h]⟩
  refine ⟨fun g1 => (c126 _).Q ?_, fun g1 => (c63 _ _ hx.1 hy.1 hx.2.1 hy.2.1).Q ?_⟩
  · simp only [↓vcPre, ↓wit_get, ↓reduceIte, vcPost, vcStd, Nat.reduceEqDiff, reduceCtorEq, Nat.reduceAdd, Nat.reduceLeDiff, Int.reduceLT, Int.reduceLE, ↓u_setN]
    exact nz (by simp only [cmpAs, orL, cmpI_zero, truth_z, if_neg g1]; exact sideI g1)
  · simp only [hti, htj, ↓vcPre, ↓wit_get, ↓reduceIte, vcPost, vcStd, Nat.reduceEqDiff, reduceCtorEq, Nat.reduceAdd, Nat.reduceLeDiff, Int.reduceLT, Int.reduceLE, ↓u_setN]
    refine ⟨fun g2 => EndQ.to σ _ rfl hts ⟨rfl, by simp only [cmpAs, orL, cmpI_zero, truth_z, if_pos g1, if_neg g2]⟩, fun g2 => ⟨fun g3 => (c126 _).Q ?_, fun g3 => ?_⟩⟩
    · simp only [↓vcPre, ↓wit_get, ↓reduceIte, vcPost, vcStd, Nat.reduceEqDiff, reduceCtorEq, Nat.reduceAdd, Nat.reduceLeDiff, Int.reduceLT, Int.reduceLE, ↓u_setN]
      exact nz (by simp only [cmpAs, orL, cmpI_zero, truth_z, if_pos g1, if_pos g2, if_neg g3]; exact sideI g3)
    by_cases g4 : p.hm = q.hm
    case neg =>
      rw [bneT g4]
      simp only [↓vcPre, ↓wit_get, ↓reduceIte, vcPost, vcStd, Nat.reduceEqDiff, reduceCtorEq, Nat.reduceAdd, Nat.reduceLeDiff, Int.reduceLT, Int.reduceLE, ↓u_setN]
      refine (c126 _).Q ?_
      simp only [↓vcPre, ↓wit_get, ↓reduceIte, vcPost, vcStd, Nat.reduceEqDiff, reduceCtorEq, Nat.reduceAdd, Nat.reduceLeDiff, Int.reduceLT, Int.reduceLE, ↓u_setN]
      exact nz (by simp only [cmpAs, orL, cmpI_zero, truth_z, if_pos g1, if_pos g2, if_pos g3, if_neg g4]; exact sideB g4)
    rw [bneF g4]
    simp only [↓vcPre, ↓wit_get, ↓reduceIte, vcPost, vcStd, Nat.reduceEqDiff, reduceCtorEq, Nat.reduceAdd, Nat.reduceLeDiff, Int.reduceLT, Int.reduceLE, ↓u_setN]
    refine ⟨fun g5 => (c126 _).Q ?_, fun g5 => ?_⟩
    · simp only [↓vcPre, ↓wit_get, ↓reduceIte, vcPost, vcStd, Nat.reduceEqDiff, reduceCtorEq, Nat.reduceAdd, Nat.reduceLeDiff, Int.reduceLT, Int.reduceLE, ↓u_setN]
      exact nz (by simp only [cmpAs, orL, cmpI_zero, truth_z, if_pos g1, if_pos g2, if_pos g3, if_pos g4, if_neg g5]; exact sideI g5)
    by_cases g6 : p.hp = q.hp
    case neg =>
      rw [bneT g6]
      simp only [↓vcPre, ↓wit_get, ↓reduceIte, vcPost, vcStd, Nat.reduceEqDiff, reduceCtorEq, Nat.reduceAdd, Nat.reduceLeDiff, Int.reduceLT, Int.reduceLE, ↓u_setN]
      refine (c126 _).Q ?_
      simp only [↓vcPre, ↓wit_get, ↓reduceIte, vcPost, vcStd, Nat.reduceEqDiff, reduceCtorEq, Nat.reduceAdd, Nat.reduceLeDiff, Int.reduceLT, Int.reduceLE, ↓u_setN]
      exact nz (by simp only [cmpAs, orL, cmpI_zero, truth_z, if_pos g1, if_pos g2, if_pos g3, if_pos g4, if_pos g5, if_neg g6]; exact sideB g6)
    rw [bneF g6]
    simp only [↓vcPre, ↓wit_get, ↓reduceIte, vcPost, vcStd, Nat.reduceEqDiff, reduceCtorEq, Nat.reduceAdd, Nat.reduceLeDiff, Int.reduceLT, Int.reduceLE, ↓u_setN]
    refine ⟨fun g7 => (c126 _).Q ?_, fun g7 => ?_⟩
    · simp only [↓vcPre, ↓wit_get, ↓reduceIte, vcPost, vcStd, Nat.reduceEqDiff, reduceCtorEq, Nat.reduceAdd, Nat.reduceLeDiff, Int.reduceLT, Int.reduceLE, ↓u_setN]
      exact nz (by simp only [cmpAs, orL, cmpI_zero, truth_z, if_pos g1, if_pos g2, if_pos g3, if_pos g4, if_pos g5, if_pos g6, if_neg g7]; exact sideI g7)
    by_cases g8 : p.atm = q.atm
    case neg =>
      rw [bneT g8]
      simp only [↓vcPre, ↓wit_get, ↓reduceIte, vcPost, vcStd, Nat.reduceEqDiff, reduceCtorEq, Nat.reduceAdd, Nat.reduceLeDiff, Int.reduceLT, Int.reduceLE, ↓u_setN]
      refine (c126 _).Q ?_
      simp only [↓vcPre, ↓wit_get, ↓reduceIte, vcPost, vcStd, Nat.reduceEqDiff, reduceCtorEq, Nat.reduceAdd, Nat.reduceLeDiff, Int.reduceLT, Int.reduceLE, ↓u_setN]
      exact nz (by simp only [cmpAs, orL, cmpI_zero, truth_z, if_pos g1, if_pos g2, if_pos g3, if_pos g4, if_pos g5, if_pos g6, if_pos g7, if_neg g8]; exact sideB g8)
    rw [bneF g8]
    simp only [↓vcPre, ↓wit_get, ↓reduceIte, vcPost, vcStd, Nat.reduceEqDiff, reduceCtorEq, Nat.reduceAdd, Nat.reduceLeDiff, Int.reduceLT, Int.reduceLE, ↓u_setN]
    have hpc : p.cms.length ≤ 1000000 := hx.2.2
    have hqc : q.cms.length ≤ 1000000 := hy.2.2
    have hA : cmpAs p q = cmpG cmpI p.cms q.cms := by
      simp only [cmpAs, orL, cmpI_zero, truth_z, if_pos g1, if_pos g2, if_pos g3, if_pos g4, if_pos g5, if_pos g6, if_pos g7, if_pos g8]
      split
      · rename_i h; rw [h]
      · rfl
    refine LoopQ.inv (S := Nat) (fun k => [(2, .ptr i 0), (3, .ptr j 0), (6, .int .i64 (k : Int))]) (fun _ => t) (fun k => k ≤ p.cms.length ∧ k ≤ q.cms.length ∧ cmpG cmpI (p.cms.drop k) (q.cms.drop k) = cmpAs p q) (fun k => p.cms.length + 1 - k) 0 rfl (Store.sub_refl _) ⟨by omega, by omega, by rw [hA]; rfl⟩ ?_
    rintro k ⟨hk, hk2, htk⟩
    simp only [hti, htj, ↓vcPre, ↓wit_get, ↓reduceIte, vcPost, vcStd, Nat.reduceEqDiff, reduceCtorEq, Nat.reduceAdd, Nat.reduceLeDiff, Int.reduceLT, Int.reduceLE, ↓u_setN]
    have ek : IntKind.i64.wrap ((k : Int) + 1) = ((k + 1 : Nat) : Int) := by rw [wrap64 (by unfold I64; omega)]; omega
    have endL : ¬ ((p.cms.length : Int) = (q.cms.length : Int)) → (k = p.cms.length ∨ k = q.cms.length) → sideF (decide (p.cms.length < q.cms.length)) = cmpAs p q := fun hne hkk => by
      rw [← htk]
      by_cases e : k = p.cms.length
      · have h1 : p.cms.drop k = [] := List.drop_eq_nil_of_le (by omega)
        have h2 : k < q.cms.length := by omega
        rw [h1, List.drop_eq_getElem_cons h2, decide_eq_true (by omega)]; rfl
      · have h1 : q.cms.drop k = [] := List.drop_eq_nil_of_le (by omega)
        have h2 : k < p.cms.length := by omega
        rw [h1, List.drop_eq_getElem_cons h2, decide_eq_false (by omega)]; rfl
    have cls : ∀ {E : Env}, (k = p.cms.length ∨ k = q.cms.length) → (p.cms.length : Int) = (q.cms.length : Int) → @EndQ ((4, .int .i64 0) :: E) t ⟨Tst.F79.slots, fun r s => s = σ ∧ r = .int .i64 (cmpAs p q)⟩ := fun {E} h1 h2 => EndQ.to σ _ rfl hts ⟨rfl, by
      rw [← htk, List.drop_eq_nil_of_le (by omega), List.drop_eq_nil_of_le (by omega)]; rfl⟩
    refine ⟨fun c1 => ⟨fun c2 => ?_, fun c2 => ⟨fun h => (c126 _).Q ?_, fun h => cls (by omega) h⟩⟩, fun c1 => ⟨fun h => (c126 _).Q ?_, fun h => cls (by omega) h⟩⟩
    · refine ⟨c1, by simp [cU], ?_⟩
      simp only [cU, ↓vcPre, ↓wit_get, ↓reduceIte, vcPost, vcStd, Nat.reduceEqDiff, reduceCtorEq, Nat.reduceAdd, Nat.reduceLeDiff, Int.reduceLT, Int.reduceLE, ↓u_setN]
      have hs1 : cmpAs p q = if cmpI p.cms[k] q.cms[k] = 0 then cmpG cmpI (p.cms.drop (k + 1)) (q.cms.drop (k + 1)) else cmpI p.cms[k] q.cms[k] := by
        rw [← htk, List.drop_eq_getElem_cons c1, List.drop_eq_getElem_cons c2]; rfl
      refine ⟨c2, fun g9 => ⟨c1, c2, (c126 _).Q ?_⟩, fun g9 => ?_⟩
      · simp only [↓vcPre, ↓wit_get, ↓reduceIte, vcPost, vcStd, Nat.reduceEqDiff, reduceCtorEq, Nat.reduceAdd, Nat.reduceLeDiff, Int.reduceLT, Int.reduceLE, ↓u_setN]
        exact nz (by rw [hs1]; simp only [cmpI_zero, if_neg g9]; exact sideI g9)
      · rw [ek]
        refine NextQ.to (k + 1) rfl (Store.sub_refl _) (by omega) ⟨by omega, by omega, ?_⟩
        rw [hs1, if_pos ((cmpI_zero _ _).2 g9)]
    · simp only [↓vcPre, ↓wit_get, ↓reduceIte, vcPost, vcStd, Nat.reduceEqDiff, reduceCtorEq, Nat.reduceAdd, Nat.reduceLeDiff, Int.reduceLT, Int.reduceLE, ↓u_setN]
      exact nz (endL h (by omega))
    · simp only [↓vcPre, ↓wit_get, ↓reduceIte, vcPost, vcStd, Nat.reduceEqDiff, reduceCtorEq, Nat.reduceAdd, Nat.reduceLeDiff, Int.reduceLT, Int.reduceLE, ↓u_setN]
      exact nz (endL h (by omega))
theorem c80 (a b : At) (ha : a.ok) (hb : b.ok) : Pur Tryz.prog 80 [.agg a.c, .agg b.c] (.bool (decide (cmpAs (canonA a) (canonA b) < 0))) := by
  refine pur_of Tst.F80 (by simp [Tst.F80, Fn.mkX]) fun σ => ?_
  simp only [Tst.F80, Fn.mkX, Tst.b80]
  have e9 : ∀ x : At, x.c.length = 9 := fun _ => rfl
  have t9 : ∀ x : At, List.take 9 x.c = x.c := fun _ => rfl
  simp only [e9, t9, Nat.le_refl, ↓vcPre, ↓wit_get, ↓reduceIte, vcPost, vcStd, Nat.reduceEqDiff, reduceCtorEq, Nat.reduceAdd, Nat.reduceLeDiff, Int.reduceLT, Int.reduceLE, ↓u_setN]
  refine AllocQ.i0 fun i hi => ?_
  simp only [e9, t9, Nat.le_refl, ↓vcPre, ↓wit_get, ↓reduceIte, vcPost, vcStd, Nat.reduceEqDiff, reduceCtorEq, Nat.reduceAdd, Nat.reduceLeDiff, Int.reduceLT, Int.reduceLE, ↓u_setN]
  refine AllocQ.i1 fun j hj1 hj2 hj => ?_
  simp only [hj1, hj2, e9, t9, Nat.le_refl, ↓vcPre, ↓wit_get, ↓reduceIte, vcPost, vcStd, Nat.reduceEqDiff, reduceCtorEq, Nat.reduceAdd, Nat.reduceLeDiff, Int.reduceLT, Int.reduceLE, ↓u_setN]
  refine (c77 a b ha hb).Q ?_
  simp only [↓vcPre, ↓wit_get, ↓reduceIte, vcPost, vcStd, Nat.reduceEqDiff, reduceCtorEq, Nat.reduceAdd, Nat.reduceLeDiff, Int.reduceLT, Int.reduceLE, ↓u_setN]
  exact sub_set2 hi hj hj1
theorem c35 (n : Int) : Pur Tryz.prog 35 [.int .u32 n] (.bool (decide (goodN n))) := by
  refine pur_of Tst.F35 (by simp [Tst.F35, Fn.mkX]) fun σ => ?_
  simp only [Tst.F35, Fn.mkX, Tst.b35]
  have e : shrInt .u32 n 24 = n / 16777216 := by
    simp [shrInt, IntKind.bits, fdiv24]
  simp only [e, ↓vcPre, ↓wit_get, ↓reduceIte, vcPost, vcStd, Nat.reduceEqDiff, reduceCtorEq, Nat.reduceAdd, Nat.reduceLeDiff, Int.reduceLT, Int.reduceLE, ↓u_setN]
  (repeat' first
    | (refine ⟨fun _ => ?_, fun _ => ?_⟩)
    | (refine decide_eq_decide.2 ?_; unfold goodN; omega)
    | (symm; rw [decide_eq_false_iff_not]; unfold goodN; omega)
    | (symm; rw [decide_eq_true_iff]; unfold goodN; omega))
theorem c125 (l : List Seg) (hl : l.length ≤ 1000000) : Pur Tryz.prog 125 [.sl 2 (l.map Seg.c)] (.bool (decide (pathRight l))) := by
  refine pur_of Tst.F125 (by simp [Tst.F125, Fn.mkX]) fun σ => ?_
  simp only [Tst.F125, Fn.mkX, Tst.b125]
  simp only [↓vcPre, ↓wit_get, ↓reduceIte, vcPost, vcStd, Nat.reduceEqDiff, reduceCtorEq, Nat.reduceAdd, Nat.reduceLeDiff, Int.reduceLT, Int.reduceLE, ↓u_setN]
  refine LoopQ.inv (S := Nat) (fun k => [(0, .sl 2 (l.map Seg.c)), (3, .int .i64 (k : Int))]) (fun _ => σ) (fun k => k ≤ l.length ∧ ∀ s ∈ l.take k, segRight s) (fun k => l.length + 1 - k) 0 rfl (Store.sub_refl _) ⟨by omega, by simp⟩ ?_
  rintro k ⟨hk, hr⟩
  simp only [↓vcPre, ↓wit_get, ↓reduceIte, vcPost, vcStd, Nat.reduceEqDiff, reduceCtorEq, Nat.reduceAdd, Nat.reduceLeDiff, Int.reduceLT, Int.reduceLE, ↓u_setN]
  refine ⟨fun c1 => ?_, fun c1 => ?_⟩
  · have ek : IntKind.i64.wrap ((k : Int) + 1) = ((k + 1 : Nat) : Int) := by rw [wrap64 (by unfold I64; omega)]; omega
    refine ⟨c1, by simp [Seg.c], ?_⟩
    simp only [Seg.c, c1, ↓vcPre, ↓wit_get, ↓reduceIte, vcPost, vcStd, Nat.reduceEqDiff, reduceCtorEq, Nat.reduceAdd, Nat.reduceLeDiff, Int.reduceLT, Int.reduceLE, ↓u_setN]
    rw [ek]
    have no : ¬ segRight l[k] → false = decide (pathRight l) := fun h => by rw [decide_eq_false (fun h2 : pathRight l => h (h2.1 _ (List.getElem_mem c1)))]
    (repeat' first
      | (refine ⟨fun _ => ?_, fun _ => ?_⟩)
      | (refine no fun h => ?_; unfold segRight at h; omega))
    all_goals
      refine NextQ.to (k + 1) rfl (Store.sub_refl _) (by omega) ⟨by omega, fun s hs => ?_⟩
      rw [List.take_add_one, List.getElem?_eq_getElem c1] at hs
      rcases List.mem_append.1 hs with h | h
      · exact hr s h
      · simp at h; subst h; unfold segRight; omega
  · have e : l.take k = l := List.take_of_length_le (by omega)
    rw [e] at hr
    refine decide_eq_decide.2 ⟨fun h => ⟨hr, by omega⟩, fun h => ?_⟩
    have := h.2; omega
theorem c78 (a : At) (ha : a.ok) : Pur Tryz.prog 78 [.agg a.c] (.bool (decide (atRight a))) := by
  refine pur_of Tst.F78 (by simp [Tst.F78, Fn.mkX]) fun σ => ?_
  simp only [Tst.F78, Fn.mkX, Tst.b78]
  simp only [At.c, ↓vcPre, ↓wit_get, ↓reduceIte, vcPost, vcStd, Nat.reduceEqDiff, reduceCtorEq, Nat.reduceAdd, Nat.reduceLeDiff, Int.reduceLT, Int.reduceLE, ↓u_setN]
  refine AllocQ.i0 fun i hi => ?_
  have hsb := Store.sub_set σ i (.box a.c) hi
  have hTb : (σ.set i (.box a.c)) i = some (.box [.int .i64 a.org, .sl 2 (a.path.map Seg.c), .int .u32 a.nxt, .bool a.hm, .int .u32 a.med, .bool a.hp, .int .u32 a.prf, .bool a.atm, .sl 1 (a.cms.map cU)]) := Store.set_same _ _ _
  change bops _ _ _ (σ.set i (.box a.c)) _
  generalize σ.set i (.box a.c) = T at hsb hTb ⊢
  have no : ¬ atRight a → false = decide (atRight a) ∧ Store.sub σ T := fun h => ⟨by rw [decide_eq_false h], hsb⟩
  by_cases h1 : a.org < 0
  · simp only [hTb, h1, ↓vcPre, ↓wit_get, ↓reduceIte, vcPost, vcStd, Nat.reduceEqDiff, reduceCtorEq, Nat.reduceAdd, Nat.reduceLeDiff, Int.reduceLT, Int.reduceLE, ↓u_setN]
    exact no fun h => by have := h.1; omega
  by_cases h2 : 2 < a.org
  · simp only [hTb, h1, h2, ↓vcPre, ↓wit_get, ↓reduceIte, vcPost, vcStd, Nat.reduceEqDiff, reduceCtorEq, Nat.reduceAdd, Nat.reduceLeDiff, Int.reduceLT, Int.reduceLE, ↓u_setN]
    exact no fun h => by have := h.1; omega
  simp only [hTb, h1, h2, ↓vcPre, ↓wit_get, ↓reduceIte, vcPost, vcStd, Nat.reduceEqDiff, reduceCtorEq, Nat.reduceAdd, Nat.reduceLeDiff, Int.reduceLT, Int.reduceLE, ↓u_setN]
  refine (c125 a.path ha.1).Q ?_
  by_cases g1 : pathRight a.path
  case neg => rw [decide_eq_false g1]; simp only [hTb, ↓vcPre, ↓wit_get, ↓reduceIte, vcPost, vcStd, Nat.reduceEqDiff, reduceCtorEq, Nat.reduceAdd, Nat.reduceLeDiff, Int.reduceLT, Int.reduceLE, ↓u_setN]; exact no fun h => g1 h.2.1
  rw [decide_eq_true g1]
  simp only [hTb, ↓vcPre, ↓wit_get, ↓reduceIte, vcPost, vcStd, Nat.reduceEqDiff, reduceCtorEq, Nat.reduceAdd, Nat.reduceLeDiff, Int.reduceLT, Int.reduceLE, ↓u_setN]
  refine (c35 a.nxt).Q ?_
  by_cases g2 : goodN a.nxt
  case neg => rw [decide_eq_false g2]; simp only [hTb, ↓vcPre, ↓wit_get, ↓reduceIte, vcPost, vcStd, Nat.reduceEqDiff, reduceCtorEq, Nat.reduceAdd, Nat.reduceLeDiff, Int.reduceLT, Int.reduceLE, ↓u_setN]; exact no fun h => g2 h.2.2.1
  rw [decide_eq_true g2]
  by_cases g3 : a.hm = false → a.med = 0
  case neg =>
    have hm : a.hm = false := by cases h : a.hm <;> simp_all
    have hz : ¬ a.med = 0 := fun h => g3 fun _ => h
    simp only [hTb, hm, hz, ↓vcPre, ↓wit_get, ↓reduceIte, vcPost, vcStd, Nat.reduceEqDiff, reduceCtorEq, Nat.reduceAdd, Nat.reduceLeDiff, Int.reduceLT, Int.reduceLE, ↓u_setN]
    exact no fun h => g3 h.2.2.2.1
  by_cases g4 : a.hp = false → a.prf = 0
  case neg =>
    have hp : a.hp = false := by cases h : a.hp <;> simp_all
    have hz : ¬ a.prf = 0 := fun h => g4 fun _ => h
    cases hm : a.hm
    · have hz2 : a.med = 0 := g3 hm
      simp only [hTb, hm, hp, hz, hz2, ↓vcPre, ↓wit_get, ↓reduceIte, vcPost, vcStd, Nat.reduceEqDiff, reduceCtorEq, Nat.reduceAdd, Nat.reduceLeDiff, Int.reduceLT, Int.reduceLE, ↓u_setN]
      exact no fun h => g4 h.2.2.2.2.1
    · simp only [hTb, hm, hp, hz, ↓vcPre, ↓wit_get, ↓reduceIte, vcPost, vcStd, Nat.reduceEqDiff, reduceCtorEq, Nat.reduceAdd, Nat.reduceLeDiff, Int.reduceLT, Int.reduceLE, ↓u_setN]
      exact no fun h => g4 h.2.2.2.2.1
  cases hm : a.hm <;> cases hp : a.hp
  · have e1 := g3 hm
    have e2 := g4 hp
    simp only [hTb, hm, hp, e1, e2, ↓vcPre, ↓wit_get, ↓reduceIte, vcPost, vcStd, Nat.reduceEqDiff, reduceCtorEq, Nat.reduceAdd, Nat.reduceLeDiff, Int.reduceLT, Int.reduceLE, ↓u_setN]
    refine ⟨fun c => no fun h => by have := h.2.2.2.2.2.1; omega, fun c => ?_⟩
    refine LoopQ.inv (S := Nat) (fun k => [(1, .ptr i 0), (3, .int .i64 ((k + 1 : Nat) : Int))]) (fun _ => T) (fun k => k ≤ a.cms.length ∧ ∀ i, ∀ h : i + 1 < a.cms.length, i < k → a.cms[i] < a.cms[i + 1]) (fun k => a.cms.length + 1 - k) 0 rfl (Store.sub_refl _) ⟨by omega, fun i _ h => by omega⟩ ?_
    rintro k ⟨hk, hr⟩
    simp only [hTb, ↓vcPre, ↓wit_get, ↓reduceIte, vcPost, vcStd, Nat.reduceEqDiff, reduceCtorEq, Nat.reduceAdd, Nat.reduceLeDiff, Int.reduceLT, Int.reduceLE, ↓u_setN]
    refine ⟨fun c1 => ?_, fun c1 => ?_⟩
    · have ek : IntKind.i64.wrap (((k + 1 : Nat) : Int) + 1) = ((k + 1 + 1 : Nat) : Int) := by rw [wrap64 (by unfold I64; omega)]; omega
      have em : IntKind.i64.wrap (((k + 1 : Nat) : Int) - 1) = (k : Int) := by rw [wrap64 (by unfold I64; omega)]; omega
      rw [em]
      simp only [Int.toNat_natCast]
      refine ⟨by omega, by omega, by simp [cU], ?_⟩
      simp only [cU, ↓vcPre, ↓wit_get, ↓reduceIte, vcPost, vcStd, Nat.reduceEqDiff, reduceCtorEq, Nat.reduceAdd, Nat.reduceLeDiff, Int.reduceLT, Int.reduceLE, ↓u_setN]
      refine ⟨c1, fun g => ?_, fun g => ?_⟩
      · exact no fun h => by have := inc_pt.1 h.2.2.2.2.2.2 k (by omega); omega
      · rw [ek]
        refine NextQ.to (k + 1) rfl (Store.sub_refl _) (by omega) ⟨by omega, fun i hi hik => ?_⟩
        by_cases e : i = k
        · subst e; omega
        · exact hr i hi (by omega)
    · refine ⟨?_, hsb⟩
      symm
      rw [decide_eq_true_iff]
      exact ⟨⟨by omega, by omega⟩, g1, g2, g3, g4, by omega, inc_pt.2 fun i hi => hr i hi (by omega)⟩
  · have e1 := g3 hm
    simp only [hTb, hm, hp, e1, ↓vcPre, ↓wit_get, ↓reduceIte, vcPost, vcStd, Nat.reduceEqDiff, reduceCtorEq, Nat.reduceAdd, Nat.reduceLeDiff, Int.reduceLT, Int.reduceLE, ↓u_setN]
    refine ⟨fun c => no fun h => by have := h.2.2.2.2.2.1; omega, fun c => ?_⟩
    refine LoopQ.inv (S := Nat) (fun k => [(1, .ptr i 0), (3, .int .i64 ((k + 1 : Nat) : Int))]) (fun _ => T) (fun k => k ≤ a.cms.length ∧ ∀ i, ∀ h : i + 1 < a.cms.length, i < k → a.cms[i] < a.cms[i + 1]) (fun k => a.cms.length + 1 - k) 0 rfl (Store.sub_refl _) ⟨by omega, fun i _ h => by omega⟩ ?_
    rintro k ⟨hk, hr⟩
    simp only [hTb, ↓vcPre, ↓wit_get, ↓reduceIte, vcPost, vcStd, Nat.reduceEqDiff, reduceCtorEq, Nat.reduceAdd, Nat.reduceLeDiff, Int.reduceLT, Int.reduceLE, ↓u_setN]
    refine ⟨fun c1 => ?_, fun c1 => ?_⟩
    · have ek : IntKind.i64.wrap (((k + 1 : Nat) : Int) + 1) = ((k + 1 + 1 : Nat) : Int) := by rw [wrap64 (by unfold I64; omega)]; omega
      have em : IntKind.i64.wrap (((k + 1 : Nat) : Int) - 1) = (k : Int) := by rw [wrap64 (by unfold I64; omega)]; omega
      rw [em]
      simp only [Int.toNat_natCast]
      refine ⟨by omega, by omega, by simp [cU], ?_⟩
      simp only [cU, ↓vcPre, ↓wit_get, ↓reduceIte, vcPost, vcStd, Nat.reduceEqDiff, reduceCtorEq, Nat.reduceAdd, Nat.reduceLeDiff, Int.reduceLT, Int.reduceLE, ↓u_setN]
      refine ⟨c1, fun g => ?_, fun g => ?_⟩
      · exact no fun h => by have := inc_pt.1 h.2.2.2.2.2.2 k (by omega); omega
      · rw [ek]
        refine NextQ.to (k + 1) rfl (Store.sub_refl _) (by omega) ⟨by omega, fun i hi hik => ?_⟩
        by_cases e : i = k
        · subst e; omega
        · exact hr i hi (by omega)
    · refine ⟨?_, hsb⟩
      symm
      rw [decide_eq_true_iff]
      exact ⟨⟨by omega, by omega⟩, g1, g2, g3, g4, by omega, inc_pt.2 fun i hi => hr i hi (by omega)⟩
  · have e2 := g4 hp
    simp only [hTb, hm, hp, e2, ↓vcPre, ↓wit_get, ↓reduceIte, vcPost, vcStd, Nat.reduceEqDiff, reduceCtorEq, Nat.reduceAdd, Nat.reduceLeDiff, Int.reduceLT, Int.reduceLE, ↓u_setN]
    refine ⟨fun c => no fun h => by have := h.2.2.2.2.2.1; omega, fun c => ?_⟩
    refine LoopQ.inv (S := Nat) (fun k => [(1, .ptr i 0), (3, .int .i64 ((k + 1 : Nat) : Int))]) (fun _ => T) (fun k => k ≤ a.cms.length ∧ ∀ i, ∀ h : i + 1 < a.cms.length, i < k → a.cms[i] < a.cms[i + 1]) (fun k => a.cms.length + 1 - k) 0 rfl (Store.sub_refl _) ⟨by omega, fun i _ h => by omega⟩ ?_
    rintro k ⟨hk, hr⟩
    simp only [hTb, ↓vcPre, ↓wit_get, ↓reduceIte, vcPost, vcStd, Nat.reduceEqDiff, reduceCtorEq, Nat.reduceAdd, Nat.reduceLeDiff, Int.reduceLT, Int.reduceLE, ↓u_setN]
    refine ⟨fun c1 => ?_, fun c1 => ?_⟩
    · have ek : IntKind.i64.wrap (((k + 1 : Nat) : Int) + 1) = ((k + 1 + 1 : Nat) : Int) := by rw [wrap64 (by unfold I64; omega)]; omega
      have em : IntKind.i64.wrap (((k + 1 : Nat) : Int) - 1) = (k : Int) := by rw [wrap64 (by unfold I64; omega)]; omega
      rw [em]
      simp only [Int.toNat_natCast]
      refine ⟨by omega, by omega, by simp [cU], ?_⟩
      simp only [cU, ↓vcPre, ↓wit_get, ↓reduceIte, vcPost, vcStd, Nat.reduceEqDiff, reduceCtorEq, Nat.reduceAdd, Nat.reduceLeDiff, Int.reduceLT, Int.reduceLE, ↓u_setN]
      refine ⟨c1, fun g => ?_, fun g => ?_⟩
      · exact no fun h => by have := inc_pt.1 h.2.2.2.2.2.2 k (by omega); omega
      · rw [ek]
        refine NextQ.to (k + 1) rfl (Store.sub_refl _) (by omega) ⟨by omega, fun i hi hik => ?_⟩
        by_cases e : i = k
        · subst e; omega
        · exact hr i hi (by omega)
    · refine ⟨?_, hsb⟩
      symm
      rw [decide_eq_true_iff]
      exact ⟨⟨by omega, by omega⟩, g1, g2, g3, g4, by omega, inc_pt.2 fun i hi => hr i hi (by omega)⟩
  · simp only [hTb, hm, hp, ↓vcPre, ↓wit_get, ↓reduceIte, vcPost, vcStd, Nat.reduceEqDiff, reduceCtorEq, Nat.reduceAdd, Nat.reduceLeDiff, Int.reduceLT, Int.reduceLE, ↓u_setN]
    refine ⟨fun c => no fun h => by have := h.2.2.2.2.2.1; omega, fun c => ?_⟩
    refine LoopQ.inv (S := Nat) (fun k => [(1, .ptr i 0), (3, .int .i64 ((k + 1 : Nat) : Int))]) (fun _ => T) (fun k => k ≤ a.cms.length ∧ ∀ i, ∀ h : i + 1 < a.cms.length, i < k → a.cms[i] < a.cms[i + 1]) (fun k => a.cms.length + 1 - k) 0 rfl (Store.sub_refl _) ⟨by omega, fun i _ h => by omega⟩ ?_
    rintro k ⟨hk, hr⟩
    simp only [hTb, ↓vcPre, ↓wit_get, ↓reduceIte, vcPost, vcStd, Nat.reduceEqDiff, reduceCtorEq, Nat.reduceAdd, Nat.reduceLeDiff, Int.reduceLT, Int.reduceLE, ↓u_setN]
    refine ⟨fun c1 => ?_, fun c1 => ?_⟩
    · have ek : IntKind.i64.wrap (((k + 1 : Nat) : Int) + 1) = ((k + 1 + 1 : Nat) : Int) := by rw [wrap64 (by unfold I64; omega)]; omega
      have em : IntKind.i64.wrap (((k + 1 : Nat) : Int) - 1) = (k : Int) := by rw [wrap64 (by unfold I64; omega)]; omega
      rw [em]
      simp only [Int.toNat_natCast]
      refine ⟨by omega, by omega, by simp [cU], ?_⟩
      simp only [cU, ↓vcPre, ↓wit_get, ↓reduceIte, vcPost, vcStd, Nat.reduceEqDiff, reduceCtorEq, Nat.reduceAdd, Nat.reduceLeDiff, Int.reduceLT, Int.reduceLE, ↓u_setN]
      refine ⟨c1, fun g => ?_, fun g => ?_⟩
      · exact no fun h => by have := inc_pt.1 h.2.2.2.2.2.2 k (by omega); omega
      · rw [ek]
        refine NextQ.to (k + 1) rfl (Store.sub_refl _) (by omega) ⟨by omega, fun i hi hik => ?_⟩
        by_cases e : i = k
        · subst e; omega
        · exact hr i hi (by omega)
    · refine ⟨?_, hsb⟩
      symm
      rw [decide_eq_true_iff]
      exact ⟨⟨by omega, by omega⟩, g1, g2, g3, g4, by omega, inc_pt.2 fun i hi => hr i hi (by omega)⟩
end Go.Am

/- S97C -/
namespace Go.Am.Tsj
open Go.Proofs
/-- signpost/signpostref7.Encode -/
def t14_39 : BC := .seq (.seq (.ops [⟨some 39, none, .pure (.fld 8), [.t 1]⟩, ⟨some 40, none, .load (.ld 1 false), [.t 39]⟩, ⟨some 41, none, .pure (.len), [.t 40]⟩, ⟨some 42, none, .pure (.bin .gtr), [.t 41, .c (.int .i64 0)]⟩] [1, 3, 42]) (.cond (.t 42) (.seq (.ops [⟨some 4, none, .pure (.mov), [.c .nils]⟩] [1, 3, 4]) (.seq (.seq (.ops [⟨some 5, none, .pure (.mov), [.c (.int .i64 0)]⟩] [1, 3, 4, 5]) (.block 0 (.loop [1, 3, 4, 5] (.seq (.seq (.ops [⟨some 43, none, .pure (.mov), [.t 5]⟩, ⟨some 44, none, .pure (.fld 8), [.t 1]⟩, ⟨some 45, none, .load (.ld 1 false), [.t 44]⟩, ⟨some 46, none, .pure (.len), [.t 45]⟩, ⟨some 47, none, .pure (.bin .lss), [.t 43, .t 46]⟩] [1, 3, 4, 5, 47]) (.cond (.t 47) (.skip) (.exit 0))) (.seq (.block 1 (.ops [⟨some 50, none, .pure (.mov), [.t 4]⟩, ⟨some 51, none, .pure (.fld 8), [.t 1]⟩, ⟨some 52, none, .load (.ld 1 false), [.t 51]⟩, ⟨some 53, none, .pure (.mov), [.t 5]⟩, ⟨some 54, none, .pure (.idx 1), [.t 52, .t 53]⟩, ⟨some 55, none, .load (.ld 1 false), [.t 54]⟩, ⟨some 56, none, .loud (.call 44), [.t 50, .t 55]⟩, ⟨some 4, none, .pure (.mov), [.t 56]⟩] [1, 3, 4, 5])) (.ops [⟨some 48, none, .pure (.mov), [.t 5]⟩, ⟨some 49, none, .pure (.bin .add), [.t 48, .c (.int .i64 1)]⟩, ⟨some 5, none, .pure (.mov), [.t 49]⟩] [1, 3, 4, 5])))))) (.ops [⟨some 57, none, .pure (.mov), [.t 3]⟩, ⟨some 58, none, .pure (.mov), [.t 4]⟩, ⟨some 59, none, .loud (.call 42), [.t 57, .c (.int .i64 192), .c (.int .i64 8), .t 58]⟩, ⟨some 3, none, .pure (.mov), [.t 59]⟩] [3]))) (.skip))) (.seq (.ops [⟨some 60, none, .pure (.mov), [.t 3]⟩, ⟨some 2, none, .pure (.mov), [.t 60]⟩] [2]) (.ret))
def t14_35 : BC := .seq (.seq (.ops [⟨some 35, none, .pure (.fld 7), [.t 1]⟩, ⟨some 36, none, .load (.ld 1 false), [.t 35]⟩] [1, 3, 36]) (.cond (.t 36) (.ops [⟨some 37, none, .pure (.mov), [.t 3]⟩, ⟨some 38, none, .loud (.call 42), [.t 37, .c (.int .i64 64), .c (.int .i64 6), .c .nils]⟩, ⟨some 3, none, .pure (.mov), [.t 38]⟩] [1, 3]) (.skip))) t14_39
def t14_28 : BC := .seq (.seq (.ops [⟨some 28, none, .pure (.fld 5), [.t 1]⟩, ⟨some 29, none, .load (.ld 1 false), [.t 28]⟩] [1, 3, 29]) (.cond (.t 29) (.ops [⟨some 30, none, .pure (.mov), [.t 3]⟩, ⟨some 31, none, .pure (.fld 6), [.t 1]⟩, ⟨some 32, none, .load (.ld 1 false), [.t 31]⟩, ⟨some 33, none, .loud (.call 44), [.c .nils, .t 32]⟩, ⟨some 34, none, .loud (.call 42), [.t 30, .c (.int .i64 64), .c (.int .i64 5), .t 33]⟩, ⟨some 3, none, .pure (.mov), [.t 34]⟩] [1, 3]) (.skip))) t14_35
def t14_21 : BC := .seq (.seq (.ops [⟨some 21, none, .pure (.fld 3), [.t 1]⟩, ⟨some 22, none, .load (.ld 1 false), [.t 21]⟩] [1, 3, 22]) (.cond (.t 22) (.ops [⟨some 23, none, .pure (.mov), [.t 3]⟩, ⟨some 24, none, .pure (.fld 4), [.t 1]⟩, ⟨some 25, none, .load (.ld 1 false), [.t 24]⟩, ⟨some 26, none, .loud (.call 44), [.c .nils, .t 25]⟩, ⟨some 27, none, .loud (.call 42), [.t 23, .c (.int .i64 128), .c (.int .i64 4), .t 26]⟩, ⟨some 3, none, .pure (.mov), [.t 27]⟩] [1, 3]) (.skip))) t14_28
def b14 : BC := .seq (.ops [⟨some 1, none, .alloc (.box), [.t 0]⟩, ⟨some 2, none, .pure (.mov), [.c .nils]⟩] [1]) (.seq (.ops [⟨some 6, none, .pure (.fld 0), [.t 1]⟩, ⟨some 7, none, .load (.ld 1 false), [.t 6]⟩, ⟨some 8, none, .pure (.conv .u8), [.t 7]⟩, ⟨some 9, none, .alloc (.mksl 1 1), [.t 8]⟩, ⟨some 10, none, .loud (.call 42), [.c .nils, .c (.int .i64 64), .c (.int .i64 1), .t 9]⟩, ⟨some 3, none, .pure (.mov), [.t 10]⟩] [1, 3]) (.seq (.ops [⟨some 11, none, .pure (.mov), [.t 3]⟩, ⟨some 12, none, .pure (.fld 1), [.t 1]⟩, ⟨some 13, none, .load (.ld 1 false), [.t 12]⟩, ⟨some 14, none, .loud (.call 43), [.t 13]⟩, ⟨some 15, none, .loud (.call 42), [.t 11, .c (.int .i64 64), .c (.int .i64 2), .t 14]⟩, ⟨some 3, none, .pure (.mov), [.t 15]⟩] [1, 3]) (.seq (.ops [⟨some 16, none, .pure (.mov), [.t 3]⟩, ⟨some 17, none, .pure (.fld 2), [.t 1]⟩, ⟨some 18, none, .load (.ld 1 false), [.t 17]⟩, ⟨some 19, none, .loud (.call 44), [.c .nils, .t 18]⟩, ⟨some 20, none, .loud (.call 42), [.t 16, .c (.int .i64 64), .c (.int .i64 3), .t 19]⟩, ⟨some 3, none, .pure (.mov), [.t 20]⟩] [1, 3]) t14_21)))
def F14 : Fn Tryz.prog 14 := Fn.mkX false b14 [.t 2] 61 Tryz.f14 _ Tryz.func14 (by decide) rfl Tryz.ntmps14 (by kernel_rfl) (by kernel_rfl)
end Go.Am.Tsj

/- Q5 -/
namespace Go.Am
open Go.Proofs Go.Sort
theorem u_mks4 {k : IntKind} {a b c d : Int} : alv (.mksl 1 4) [.int k a, .int k b, .int k c, .int k d] = some (.arr 1 [[.int k a], [.int k b], [.int k c], [.int k d]], fun id => .os id 1 0 4) := by rfl
theorem u_mks3' {k : IntKind} {a b c : Int} : alv (.mksl 1 3) [.int k a, .int k b, .int k c] = some (.arr 1 [[.int k a], [.int k b], [.int k c]], fun id => .os id 1 0 3) := by rfl
theorem fdiv16 (x : Int) : x.fdiv 65536 = x / 65536 := Int.fdiv_eq_ediv_of_nonneg _ (by omega)
theorem fdiv8 (x : Int) : x.fdiv 256 = x / 256 := Int.fdiv_eq_ediv_of_nonneg _ (by omega)
theorem Own.new {esz i : Nat} {s : Store} {L : List (List AV)} (hi : s i = none) : Own esz s L (.os i esz 0 L.length) (s.set i (.arr esz L)) := .inr ⟨i, rfl, hi, Store.set_same _ _ _⟩
/-- Four bytes behind a copy. -/
theorem s44 {s : Store} {L : List Int} {v : AV} (hr : Rd 1 s (L.map cB) v) (hL : L.length ≤ 100000000) (n : Int) : ACalls Tryz.prog 44 [v, .int .u32 n] s (fun r s' => Store.sub s s' ∧ Own 1 s ((L ++ b4 n).map cB) r s') := by
  refine calls_of Tst.F44 (by simp [Tst.F44, Fn.mkX]) ?_
  simp only [Tst.F44, Fn.mkX, Tst.b44]
  simp only [↓vcPre, ↓wit_get, ↓reduceIte, vcPost, vcStd, Nat.reduceEqDiff, reduceCtorEq, Nat.reduceAdd, Nat.reduceLeDiff, Int.reduceLT, Int.reduceLE, ↓u_setN]
  refine AllocQ.i0 fun i hi => ?_
  simp only [↓vcPre, ↓wit_get, ↓reduceIte, vcPost, vcStd, Nat.reduceEqDiff, reduceCtorEq, Nat.reduceAdd, Nat.reduceLeDiff, Int.reduceLT, Int.reduceLE, ↓u_setN]
  have hsi := Store.sub_set s i (.arr 1 []) hi
  refine Own.appM (τ := s) hsi (Own.new (L := []) hi) (hr.1 _ hsi) (by simp; omega) fun v1 s1 hs1 ho1 => ?_
  simp only [u_mks4, ↓vcPre, ↓wit_get, ↓reduceIte, vcPost, vcStd, Nat.reduceEqDiff, reduceCtorEq, Nat.reduceAdd, Nat.reduceLeDiff, Int.reduceLT, Int.reduceLE, ↓u_setN]
  refine AllocQ.i0 fun b hb => ?_
  simp only [↓vcPre, ↓wit_get, ↓reduceIte, vcPost, vcStd, Nat.reduceEqDiff, reduceCtorEq, Nat.reduceAdd, Nat.reduceLeDiff, Int.reduceLT, Int.reduceLE, ↓u_setN]
  have hsb := Store.sub_set s1 b (.arr 1 [[.int .u8 (IntKind.u8.wrap (shrInt .u32 n 24))], [.int .u8 (IntKind.u8.wrap (shrInt .u32 n 16))], [.int .u8 (IntKind.u8.wrap (shrInt .u32 n 8))], [.int .u8 (IntKind.u8.wrap n)]]) hb
  refine Own.appM (τ := s) (Store.sub_trans hs1 hsb) (ho1.mono hsb) (slc_os0 (Store.set_same _ _ _) rfl) (by simp; omega) fun v2 s2 hs2 ho2 => ?_
  refine EndQ.to _ _ rfl (Store.sub_refl _) ⟨hs2, ?_⟩
  simpa [b4, cB, u8w, shrInt, IntKind.bits, fdiv24, fdiv16, fdiv8] using ho2
theorem s26 {s : Store} {L : List Int} {v : AV} (hr : Rd 1 s (L.map cB) v) (hL : L.length ≤ 100000000) (n : Int) : ACalls Tryz.prog 26 [v, .int .i64 n] s (fun r s' => Store.sub s s' ∧ Own 1 s ((L ++ [n / 256 % 256, n % 256]).map cB) r s') := by
  refine calls_of Tst.F26 (by simp [Tst.F26, Fn.mkX]) ?_
  simp only [Tst.F26, Fn.mkX, Tst.b26]
  simp only [↓vcPre, ↓wit_get, ↓reduceIte, vcPost, vcStd, Nat.reduceEqDiff, reduceCtorEq, Nat.reduceAdd, Nat.reduceLeDiff, Int.reduceLT, Int.reduceLE, ↓u_setN]
  refine AllocQ.i0 fun i hi => ?_
  simp only [↓vcPre, ↓wit_get, ↓reduceIte, vcPost, vcStd, Nat.reduceEqDiff, reduceCtorEq, Nat.reduceAdd, Nat.reduceLeDiff, Int.reduceLT, Int.reduceLE, ↓u_setN]
  have hsi := Store.sub_set s i (.arr 1 []) hi
  refine Own.appM (τ := s) hsi (Own.new (L := []) hi) (hr.1 _ hsi) (by simp; omega) fun v1 s1 hs1 ho1 => ?_
  refine AllocQ.i0 fun b hb => ?_
  simp only [↓vcPre, ↓wit_get, ↓reduceIte, vcPost, vcStd, Nat.reduceEqDiff, reduceCtorEq, Nat.reduceAdd, Nat.reduceLeDiff, Int.reduceLT, Int.reduceLE, ↓u_setN]
  have hsb := Store.sub_set s1 b (.arr 1 [[.int .u8 (IntKind.u8.wrap (shrInt .i64 n 8))], [.int .u8 (IntKind.u8.wrap n)]]) hb
  refine Own.appM (τ := s) (Store.sub_trans hs1 hsb) (ho1.mono hsb) (slc_os0 (Store.set_same _ _ _) rfl) (by simp; omega) fun v2 s2 hs2 ho2 => ?_
  refine EndQ.to _ _ rfl (Store.sub_refl _) ⟨hs2, ?_⟩
  simpa [cB, u8w, shrInt, IntKind.bits, fdiv8] using ho2
/-- A way, written. -/
theorem c43 (l : List Seg) (hl : l.length ≤ 10000) (ho : ∀ s ∈ l, s.ls.length ≤ 1000) : Pur Tryz.prog 43 [.sl 2 (l.map Seg.c)] (.sl 1 ((encPath l).map cB)) := by
  intro σ
  refine calls_of Tst.F43 (by simp [Tst.F43, Fn.mkX]) ?_
  simp only [Tst.F43, Fn.mkX, Tst.b43]
  have hsz : ∀ m : List Seg, (∀ s ∈ m, s.ls.length ≤ 1000) → (encPath m).length ≤ 4002 * m.length := by
    intro m
    induction m with
    | nil => intro _; simp [encPath]
    | cons s r ih =>
      intro h
      have h1 := ih fun x hx => h x (by simp [hx])
      have h2 := h s (by simp)
      have h3 := encW_len s.ls
      simp only [encPath, List.flatMap_cons, List.length_append, encSeg, List.length_cons, List.length_nil] at *
      omega
  simp only [↓vcPre, ↓wit_get, ↓reduceIte, vcPost, vcStd, Nat.reduceEqDiff, reduceCtorEq, Nat.reduceAdd, Nat.reduceLeDiff, Int.reduceLT, Int.reduceLE, ↓u_setN]
  refine LoopQ.inv (S := Nat × AV × Store) (fun q => [(0, .sl 2 (l.map Seg.c)), (3, q.2.1), (4, .int .i64 (q.1 : Int))]) (fun q => q.2.2) (fun q => q.1 ≤ l.length ∧ Store.sub σ q.2.2 ∧ Own 1 σ ((encPath (l.take q.1)).map cB) q.2.1 q.2.2) (fun q => l.length + 1 - q.1) (0, .nils, σ) rfl (Store.sub_refl _) ⟨by simp only; omega, Store.sub_refl _, by simpa [encPath] using Own.nil⟩ ?_
  rintro ⟨k, v, s⟩ ⟨hk, hs, hO⟩
  simp only at hk hs hO
  have hlk := hsz (l.take k) fun s h => ho s (List.mem_of_mem_take h)
  rw [List.length_take] at hlk
  simp only [↓vcPre, ↓wit_get, ↓reduceIte, vcPost, vcStd, Nat.reduceEqDiff, reduceCtorEq, Nat.reduceAdd, Nat.reduceLeDiff, Int.reduceLT, Int.reduceLE, ↓u_setN]
  refine ⟨fun c1 => ?_, fun c1 => ?_⟩
  · have ek : IntKind.i64.wrap ((k : Int) + 1) = ((k + 1 : Nat) : Int) := by rw [wrap64 (by unfold I64; omega)]; omega
    have hls := ho _ (List.getElem_mem c1)
    refine ⟨c1, c1, by simp [Seg.c], ?_⟩
    simp only [Seg.c, ↓vcPre, ↓wit_get, ↓reduceIte, vcPost, vcStd, Nat.reduceEqDiff, reduceCtorEq, Nat.reduceAdd, Nat.reduceLeDiff, Int.reduceLT, Int.reduceLE, ↓u_setN]
    refine AllocQ.i0 fun b hb => ?_
    simp only [↓vcPre, ↓wit_get, ↓reduceIte, vcPost, vcStd, Nat.reduceEqDiff, reduceCtorEq, Nat.reduceAdd, Nat.reduceLeDiff, Int.reduceLT, Int.reduceLE, ↓u_setN]
    have hsb := Store.sub_set s b (.arr 1 [[.int .u8 (IntKind.u8.wrap l[k].kind)], [.int .u8 (IntKind.u8.wrap (l[k].ls.length : Int))]]) hb
    refine Own.appM (τ := σ) (Store.sub_trans hs hsb) (hO.mono hsb) (slc_os0 (Store.set_same _ _ _) rfl) (by simp; omega) fun v1 s1 hs1 ho1 => ?_
    refine LoopQ.inv (S := Nat × AV × Store) (fun q => [(0, .sl 2 (l.map Seg.c)), (3, q.2.1), (4, .int .i64 (k : Int)), (5, .int .i64 (q.1 : Int))]) (fun q => q.2.2) (fun q => q.1 ≤ l[k].ls.length ∧ Store.sub σ q.2.2 ∧ Own 1 σ ((encPath (l.take k) ++ ([l[k].kind % 256, (l[k].ls.length : Int) % 256] ++ encW (l[k].ls.take q.1))).map cB) q.2.1 q.2.2) (fun q => l[k].ls.length + 1 - q.1) (0, v1, s1) rfl (Store.sub_refl _) ⟨by simp only; omega, hs1, by simpa [encW, cB, u8w] using ho1⟩ ?_
    rintro ⟨j, v2, s2⟩ ⟨hj, hs2, ho2⟩
    simp only at hj hs2 ho2
    have hle := encW_len (l[k].ls.take j)
    rw [List.length_take] at hle
    simp only [Seg.c, ↓vcPre, ↓wit_get, ↓reduceIte, vcPost, vcStd, Nat.reduceEqDiff, reduceCtorEq, Nat.reduceAdd, Nat.reduceLeDiff, Int.reduceLT, Int.reduceLE, ↓u_setN]
    refine ⟨c1, fun d1 => ?_, fun d1 => ?_⟩
    · have ej : IntKind.i64.wrap ((j : Int) + 1) = ((j + 1 : Nat) : Int) := by rw [wrap64 (by unfold I64; omega)]; omega
      refine ⟨c1, d1, by simp [cU], ?_⟩
      simp only [cU, ↓vcPre, ↓wit_get, ↓reduceIte, vcPost, vcStd, Nat.reduceEqDiff, reduceCtorEq, Nat.reduceAdd, Nat.reduceLeDiff, Int.reduceLT, Int.reduceLE, ↓u_setN]
      refine (s44 (Rd.own ho2) (by simp only [List.length_append, List.length_cons, List.length_nil]; omega) _).Q ?_
      rintro r s3 ⟨hs3, ho3⟩
      simp only [↓vcPre, ↓wit_get, ↓reduceIte, vcPost, vcStd, Nat.reduceEqDiff, reduceCtorEq, Nat.reduceAdd, Nat.reduceLeDiff, Int.reduceLT, Int.reduceLE, ↓u_setN]
      rw [ej]
      refine NextQ.to (j + 1, r, s3) rfl (Store.sub_refl _) (by simp only; omega) ⟨by simp only; omega, Store.sub_trans hs2 hs3, ?_⟩
      simp only
      rw [encW_take _ _ d1, ← List.append_assoc, ← List.append_assoc, List.append_assoc (encPath _)]
      exact ho3.weak hs2
    · have e : l[k].ls.take j = l[k].ls := List.take_of_length_le (by omega)
      rw [e] at ho2
      rw [ek]
      refine NextQ.to (k + 1, v2, s2) rfl (Store.sub_refl _) (by simp only; omega) ⟨by simp only; omega, hs2, ?_⟩
      simp only
      rw [encPath_take _ _ c1]
      exact ho2
  · have e : l.take k = l := List.take_of_length_le (by omega)
    rw [e] at hO
    exact EndQ.own rfl hO hs ⟨rfl, rfl⟩
theorem oneA_app (fl kind : Int) (M : List Int) (L : List Int) : (L ++ oneA fl kind M).length ≤ L.length + 4 + M.length := by
  rw [List.length_append]; have := oneA_le fl kind M; omega
/-- One attribute behind what there is. -/
theorem s42 {τ s : Store} (hτ : Store.sub τ s) {L M : List Int} {v wv : AV} (ho : Own 1 τ (L.map cB) v s) (hw : Rd 1 τ (M.map cB) wv) (hL : L.length ≤ 20000000) (hM : M.length ≤ 20000000) (fl k : Int) (hfl : fl = 64 ∨ fl = 128 ∨ fl = 192) (hk : 0 ≤ k ∧ k ≤ 8) :
    ACalls Tryz.prog 42 [v, .int .i64 fl, .int .i64 k, wv] s (fun r s' => Store.sub τ s' ∧ Own 1 τ ((L ++ oneA fl k M).map cB) r s') := by
  refine calls_of Tst.F42 (by simp [Tst.F42, Fn.mkX]) ?_
  simp only [Tst.F42, Fn.mkX, Tst.b42]
  have hlen : pv .len [wv] = some (.int .i64 (M.length : Int)) := by rw [hw.2]; simp
  have hor : bitInt .or .i64 fl 16 = fl + 16 ∧ fl % 256 = fl ∧ (fl + 16) % 256 = fl + 16 := by
    rcases hfl with h | h | h <;> rw [h] <;> decide
  have hk8 : k % 256 = k := by omega
  simp only [hlen, u_mks3', ↓vcPre, ↓wit_get, ↓reduceIte, vcPost, vcStd, Nat.reduceEqDiff, reduceCtorEq, Nat.reduceAdd, Nat.reduceLeDiff, Int.reduceLT, Int.reduceLE, ↓u_setN]
  refine ⟨fun c1 => ?_, fun c1 => ?_⟩
  · refine AllocQ.i0 fun b hb => ?_
    rw [hor.1]
    simp only [↓vcPre, ↓wit_get, ↓reduceIte, vcPost, vcStd, Nat.reduceEqDiff, reduceCtorEq, Nat.reduceAdd, Nat.reduceLeDiff, Int.reduceLT, Int.reduceLE, ↓u_setN]
    have hsb := Store.sub_set s b (.arr 1 [[.int .u8 (IntKind.u8.wrap (fl + 16))], [.int .u8 (IntKind.u8.wrap k)]]) hb
    refine Own.appM (τ := τ) (Store.sub_trans hτ hsb) (ho.mono hsb) (slc_os0 (Store.set_same _ _ _) rfl) (by simp; omega) fun v1 s1 hs1 ho1 => ?_
    simp only [hlen, ↓vcPre, ↓wit_get, ↓reduceIte, vcPost, vcStd, Nat.reduceEqDiff, reduceCtorEq, Nat.reduceAdd, Nat.reduceLeDiff, Int.reduceLT, Int.reduceLE, ↓u_setN]
    have ho1' : Own 1 τ ((L ++ [fl + 16, k]).map cB) v1 s1 := by simpa [cB, u8w, hor.2.2, hk8] using ho1
    refine (s26 (Rd.own ho1') (by simp; omega) _).Q ?_
    rintro r s2 ⟨hs2, ho2⟩
    simp only [↓vcPre, ↓wit_get, ↓reduceIte, vcPost, vcStd, Nat.reduceEqDiff, reduceCtorEq, Nat.reduceAdd, Nat.reduceLeDiff, Int.reduceLT, Int.reduceLE, ↓u_setN]
    have hs2' := Store.sub_trans hs1 hs2
    refine Own.appM (τ := τ) hs2' (ho2.weak hs1) (hw.1 _ hs2') (by simp; omega) fun v3 s3 hs3 ho3 => ?_
    refine EndQ.to _ _ rfl (Store.sub_refl _) ⟨hs3, ?_⟩
    unfold oneA
    rw [if_pos (by omega)]
    rw [← List.map_append] at ho3
    simpa using ho3
  · refine AllocQ.i0 fun b hb => ?_
    simp only [↓vcPre, ↓wit_get, ↓reduceIte, vcPost, vcStd, Nat.reduceEqDiff, reduceCtorEq, Nat.reduceAdd, Nat.reduceLeDiff, Int.reduceLT, Int.reduceLE, ↓u_setN]
    have hsb := Store.sub_set s b (.arr 1 [[.int .u8 (IntKind.u8.wrap fl)], [.int .u8 (IntKind.u8.wrap k)], [.int .u8 (IntKind.u8.wrap (M.length : Int))]]) hb
    refine Own.appM (τ := τ) (Store.sub_trans hτ hsb) (ho.mono hsb) (slc_os0 (Store.set_same _ _ _) rfl) (by simp; omega) fun v1 s1 hs1 ho1 => ?_
    refine Own.appM (τ := τ) hs1 ho1 (hw.1 _ hs1) (by simp; omega) fun v3 s3 hs3 ho3 => ?_
    refine EndQ.to _ _ rfl (Store.sub_refl _) ⟨hs3, ?_⟩
    have e : (M.length : Int) % 256 = (M.length : Int) := by omega
    unfold oneA
    rw [if_neg (by omega)]
    simpa [cB, u8w, hor.2.1, hk8, e] using ho3
end Go.Am

/- R2 -/
namespace Go.Am
open Go.Proofs Go.Sort
theorem Own.addG {esz e2 : Nat} {τ s s' : Store} {L M : List (List AV)} {v w : AV} (h : Own esz τ L v s) (hτ : Store.sub τ s) (hs : Store.sub s s') (hw : Own e2 s M w s') : ∃ τ', Store.sub τ τ' ∧ Store.sub τ' s' ∧ Own esz τ' L v s' ∧ Rd e2 τ' M w := by
  rcases hw with ⟨rfl, rfl⟩ | ⟨g, rfl, hg, hh⟩
  · exact ⟨τ, Store.sub_refl _, Store.sub_trans hτ hs, h.mono hs, Rd.nils⟩
  · refine ⟨τ.set g (.arr e2 M), Store.sub_set _ _ _ (sub_none hτ hg), fun j o hj => ?_, ?_, Rd.os (Store.set_same _ _ _)⟩
    · by_cases e : j = g
      · subst e; rw [Store.set_same] at hj; cases hj; exact hh
      · rw [Store.set_ne _ _ e] at hj; exact hs _ _ (hτ _ _ hj)
    · rcases h with h | ⟨k, a, b, c⟩
      · exact .inl h
      · have hkg : ¬ k = g := fun e => by rw [e, hg] at c; cases c
        exact .inr ⟨k, a, by rw [Store.set_ne _ _ hkg]; exact b, hs _ _ c⟩
theorem tail_renc8 (a : At) (h8 : a.cms.length ≤ 100000) {T s : Store} {i : Nat} {L : List Int} {v : AV} (hTi : T i = some (boxC a)) (hs : Store.sub T s) (h : Own 1 T (L.map cB) v s) (hL : L.length ≤ 9000000) {n r : Env → Store → Prop} {x : Nat → Env → Store → Prop}
    (hr : ∀ v' s', Store.sub T s' → Own 1 T ((L ++ (if a.cms = [] then [] else oneA 192 8 (encW a.cms))).map cB) v' s' → r [(2, v')] s') : bwp Tryz.prog Tsj.t14_39 [(1, .ptr i 0), (3, v)] s n r x := by
  simp only [Tsj.t14_39]
  have hi := hs _ _ hTi
  simp only [hi, boxC, ↓vcPre, ↓wit_get, ↓reduceIte, vcPost, vcStd, Nat.reduceEqDiff, reduceCtorEq, Nat.reduceAdd, Nat.reduceLeDiff, Int.reduceLT, Int.reduceLE, ↓u_setN]
  have hc := encW_len a.cms
  refine ⟨fun c1 => ?_, fun c1 => ?_⟩
  · obtain ⟨τ1, p1, p2, p3, p4⟩ : ∃ τ1, Store.sub T τ1 ∧ Store.sub τ1 s ∧ Own 1 T (L.map cB) v s ∧ ∀ t, Store.sub τ1 t → Own 1 T (L.map cB) v t := ⟨s, hs, Store.sub_refl _, h, fun t ht => h.mono ht⟩
    refine LoopQ.inv (S := Nat × AV × Store) (fun q => [(1, .ptr i 0), (3, v), (4, q.2.1), (5, .int .i64 (q.1 : Int))]) (fun q => q.2.2) (fun q => q.1 ≤ a.cms.length ∧ Store.sub s q.2.2 ∧ Own 1 s ((encW (a.cms.take q.1)).map cB) q.2.1 q.2.2) (fun q => a.cms.length + 1 - q.1) (0, .nils, s) rfl (Store.sub_refl _) ⟨by simp only; omega, Store.sub_refl _, by simpa [encW] using Own.nil⟩ ?_
    rintro ⟨k, w, s1⟩ ⟨hk, hs1, ho1⟩
    simp only at hk hs1 ho1
    have hle := encW_len (a.cms.take k)
    rw [List.length_take] at hle
    simp only [hs1 _ _ hi, boxC, ↓vcPre, ↓wit_get, ↓reduceIte, vcPost, vcStd, Nat.reduceEqDiff, reduceCtorEq, Nat.reduceAdd, Nat.reduceLeDiff, Int.reduceLT, Int.reduceLE, ↓u_setN]
    refine ⟨fun d1 => ?_, fun d1 => ?_⟩
    · have ek : IntKind.i64.wrap ((k : Int) + 1) = ((k + 1 : Nat) : Int) := by rw [wrap64 (by unfold I64; omega)]; omega
      refine ⟨d1, by simp [cU], ?_⟩
      simp only [cU, ↓vcPre, ↓wit_get, ↓reduceIte, vcPost, vcStd, Nat.reduceEqDiff, reduceCtorEq, Nat.reduceAdd, Nat.reduceLeDiff, Int.reduceLT, Int.reduceLE, ↓u_setN]
      refine (s44 (Rd.own ho1) (by omega) _).Q ?_
      rintro r' s2 ⟨k1, k2⟩
      simp only [↓vcPre, ↓wit_get, ↓reduceIte, vcPost, vcStd, Nat.reduceEqDiff, reduceCtorEq, Nat.reduceAdd, Nat.reduceLeDiff, Int.reduceLT, Int.reduceLE, ↓u_setN]
      rw [ek]
      refine NextQ.to (k + 1, r', s2) rfl (Store.sub_refl _) (by simp only; omega) ⟨by simp only; omega, Store.sub_trans hs1 k1, ?_⟩
      simp only
      rw [encW_take _ _ d1]
      exact k2.weak hs1
    · have e : a.cms.take k = a.cms := List.take_of_length_le (by omega)
      rw [e] at ho1
      obtain ⟨τ', q1, q2, q3, q4⟩ := Own.addG h hs hs1 ho1
      refine (s42 q2 q3 q4 (by omega) (by omega) 192 8 (by decide) (by decide)).Q ?_
      rintro r' s2 ⟨k1, k2⟩
      simp only [↓vcPre, ↓wit_get, ↓reduceIte, vcPost, vcStd, Nat.reduceEqDiff, reduceCtorEq, Nat.reduceAdd, Nat.reduceLeDiff, Int.reduceLT, Int.reduceLE, ↓u_setN]
      have := hr r' s2 (Store.sub_trans q1 k1)
      rw [if_neg (fun e => by rw [e] at c1; simp at c1)] at this
      exact this (k2.weak q1)
  · have := hr v s hs
    rw [if_pos (List.length_eq_zero_iff.1 (by omega)), List.append_nil] at this
    exact this h
theorem tail_renc6 (a : At) (h8 : a.cms.length ≤ 100000) {T s : Store} {i : Nat} {L : List Int} {v : AV} (hTi : T i = some (boxC a)) (hs : Store.sub T s) (h : Own 1 T (L.map cB) v s) (hL : L.length ≤ 8000000) {n r : Env → Store → Prop} {x : Nat → Env → Store → Prop}
    (hr : ∀ v' s', Store.sub T s' → Own 1 T ((L ++ (if a.atm then oneA 64 6 [] else []) ++ (if a.cms = [] then [] else oneA 192 8 (encW a.cms))).map cB) v' s' → r [(2, v')] s') : bwp Tryz.prog Tsj.t14_35 [(1, .ptr i 0), (3, v)] s n r x := by
  simp only [Tsj.t14_35]
  have hi := hs _ _ hTi
  cases g : a.atm
  · simp only [hi, boxC, g, ↓vcPre, ↓wit_get, ↓reduceIte, vcPost, vcStd, Nat.reduceEqDiff, reduceCtorEq, Nat.reduceAdd, Nat.reduceLeDiff, Int.reduceLT, Int.reduceLE, ↓u_setN]
    refine tail_renc8 a h8 hTi hs h (by omega) fun v' s' hs' ho' => ?_
    have := hr v' s' hs'
    rw [g] at this
    exact this (by simpa using ho')
  · simp only [hi, boxC, g, ↓vcPre, ↓wit_get, ↓reduceIte, vcPost, vcStd, Nat.reduceEqDiff, reduceCtorEq, Nat.reduceAdd, Nat.reduceLeDiff, Int.reduceLT, Int.reduceLE, ↓u_setN]
    refine (s42 hs h (M := []) Rd.nils (by omega) (by simp) 64 6 (by decide) (by decide)).Q ?_
    rintro r' s1 ⟨k1, k2⟩
    simp only [↓vcPre, ↓wit_get, ↓reduceIte, vcPost, vcStd, Nat.reduceEqDiff, reduceCtorEq, Nat.reduceAdd, Nat.reduceLeDiff, Int.reduceLT, Int.reduceLE, ↓u_setN]
    refine tail_renc8 a h8 hTi k1 k2 (by have := oneA_le 64 6 []; simp at this ⊢; omega) fun v' s' hs' ho' => ?_
    have := hr v' s' hs'
    rw [g] at this
    exact this ho'
theorem tail_renc5 (a : At) (h8 : a.cms.length ≤ 100000) {T s : Store} {i : Nat} {L : List Int} {v : AV} (hTi : T i = some (boxC a)) (hs : Store.sub T s) (h : Own 1 T (L.map cB) v s) (hL : L.length ≤ 7000000) {n r : Env → Store → Prop} {x : Nat → Env → Store → Prop}
    (hr : ∀ v' s', Store.sub T s' → Own 1 T ((L ++ (if a.hp then oneA 64 5 (b4 a.prf) else []) ++ (if a.atm then oneA 64 6 [] else []) ++ (if a.cms = [] then [] else oneA 192 8 (encW a.cms))).map cB) v' s' → r [(2, v')] s') : bwp Tryz.prog Tsj.t14_28 [(1, .ptr i 0), (3, v)] s n r x := by
  simp only [Tsj.t14_28]
  have hi := hs _ _ hTi
  cases g : a.hp
  · simp only [hi, boxC, g, ↓vcPre, ↓wit_get, ↓reduceIte, vcPost, vcStd, Nat.reduceEqDiff, reduceCtorEq, Nat.reduceAdd, Nat.reduceLeDiff, Int.reduceLT, Int.reduceLE, ↓u_setN]
    refine tail_renc6 a h8 hTi hs h (by omega) fun v' s' hs' ho' => ?_
    have := hr v' s' hs'
    rw [g] at this
    exact this (by simpa using ho')
  · have hTi5 := (hs) _ _ hTi
    simp only [hTi5, boxC, g, ↓vcPre, ↓wit_get, ↓reduceIte, vcPost, vcStd, Nat.reduceEqDiff, reduceCtorEq, Nat.reduceAdd, Nat.reduceLeDiff, Int.reduceLT, Int.reduceLE, ↓u_setN]
    refine (s44 (s := s) (L := []) Rd.nils (by simp) a.prf).Q ?_
    rintro r s' ⟨k1, k2⟩
    rw [List.nil_append] at k2
    obtain ⟨τ', q1, q2, q3, q4⟩ := Own.addG h (hs) k1 k2
    simp only [↓vcPre, ↓wit_get, ↓reduceIte, vcPost, vcStd, Nat.reduceEqDiff, reduceCtorEq, Nat.reduceAdd, Nat.reduceLeDiff, Int.reduceLT, Int.reduceLE, ↓u_setN]
    refine (s42 q2 q3 q4 (by omega) (by rw [b4_len]; omega) 64 5 (by decide) (by decide)).Q ?_
    rintro r s1 ⟨h1, k3⟩
    have h1 := Store.sub_trans q1 h1
    have k3 := Own.weak k3 q1
    simp only [↓vcPre, ↓wit_get, ↓reduceIte, vcPost, vcStd, Nat.reduceEqDiff, reduceCtorEq, Nat.reduceAdd, Nat.reduceLeDiff, Int.reduceLT, Int.reduceLE, ↓u_setN]
    refine tail_renc6 a h8 hTi h1 k3 (by have := oneA_app 64 5 (b4 a.prf) L; rw [b4_len] at this; omega) fun v' s' hs' ho' => ?_
    have := hr v' s' hs'
    rw [g] at this
    exact this ho'
theorem tail_renc4 (a : At) (h8 : a.cms.length ≤ 100000) {T s : Store} {i : Nat} {L : List Int} {v : AV} (hTi : T i = some (boxC a)) (hs : Store.sub T s) (h : Own 1 T (L.map cB) v s) (hL : L.length ≤ 6000000) {n r : Env → Store → Prop} {x : Nat → Env → Store → Prop}
    (hr : ∀ v' s', Store.sub T s' → Own 1 T ((L ++ (if a.hm then oneA 128 4 (b4 a.med) else []) ++ (if a.hp then oneA 64 5 (b4 a.prf) else []) ++ (if a.atm then oneA 64 6 [] else []) ++ (if a.cms = [] then [] else oneA 192 8 (encW a.cms))).map cB) v' s' → r [(2, v')] s') : bwp Tryz.prog Tsj.t14_21 [(1, .ptr i 0), (3, v)] s n r x := by
  simp only [Tsj.t14_21]
  have hi := hs _ _ hTi
  cases g : a.hm
  · simp only [hi, boxC, g, ↓vcPre, ↓wit_get, ↓reduceIte, vcPost, vcStd, Nat.reduceEqDiff, reduceCtorEq, Nat.reduceAdd, Nat.reduceLeDiff, Int.reduceLT, Int.reduceLE, ↓u_setN]
    refine tail_renc5 a h8 hTi hs h (by omega) fun v' s' hs' ho' => ?_
    have := hr v' s' hs'
    rw [g] at this
    exact this (by simpa using ho')
  · have hTi4 := (hs) _ _ hTi
    simp only [hTi4, boxC, g, ↓vcPre, ↓wit_get, ↓reduceIte, vcPost, vcStd, Nat.reduceEqDiff, reduceCtorEq, Nat.reduceAdd, Nat.reduceLeDiff, Int.reduceLT, Int.reduceLE, ↓u_setN]
    refine (s44 (s := s) (L := []) Rd.nils (by simp) a.med).Q ?_
    rintro r s' ⟨k1, k2⟩
    rw [List.nil_append] at k2
    obtain ⟨τ', q1, q2, q3, q4⟩ := Own.addG h (hs) k1 k2
    simp only [↓vcPre, ↓wit_get, ↓reduceIte, vcPost, vcStd, Nat.reduceEqDiff, reduceCtorEq, Nat.reduceAdd, Nat.reduceLeDiff, Int.reduceLT, Int.reduceLE, ↓u_setN]
    refine (s42 q2 q3 q4 (by omega) (by rw [b4_len]; omega) 128 4 (by decide) (by decide)).Q ?_
    rintro r s1 ⟨h1, k3⟩
    have h1 := Store.sub_trans q1 h1
    have k3 := Own.weak k3 q1
    simp only [↓vcPre, ↓wit_get, ↓reduceIte, vcPost, vcStd, Nat.reduceEqDiff, reduceCtorEq, Nat.reduceAdd, Nat.reduceLeDiff, Int.reduceLT, Int.reduceLE, ↓u_setN]
    refine tail_renc5 a h8 hTi h1 k3 (by have := oneA_app 128 4 (b4 a.med) L; rw [b4_len] at this; omega) fun v' s' hs' ho' => ?_
    have := hr v' s' hs'
    rw [g] at this
    exact this ho'
/-- Few enough to be written. -/
def encOk (a : At) : Prop := a.path.length ≤ 1000 ∧ (∀ s ∈ a.path, s.ls.length ≤ 1000) ∧ a.cms.length ≤ 1000
theorem encPath_few : ∀ (m : List Seg), (∀ s ∈ m, s.ls.length ≤ 1000) → (encPath m).length ≤ 4002 * m.length := by
  intro m
  induction m with
  | nil => intro _; simp [encPath]
  | cons s r ih =>
    intro h
    have h1 := ih fun x hx => h x (by simp [hx])
    have h2 := h s (by simp)
    have h3 := encW_len s.ls
    simp only [encPath, List.flatMap_cons, List.length_append, encSeg, List.length_cons, List.length_nil] at *
    omega
/-- Attributes, written as the document says; what is written is owned. -/
theorem s14 (a : At) (ha : encOk a) (σ : Store) : ACalls Tryz.prog 14 [.agg a.c] σ (fun r s => Store.sub σ s ∧ Own 1 σ ((encA a).map cB) r s) := by
  refine calls_of Tsj.F14 (by simp [Tsj.F14, Fn.mkX]) ?_
  simp only [Tsj.F14, Fn.mkX, Tsj.b14]
  have e9 : ∀ x : At, x.c.length = 9 := fun _ => rfl
  obtain ⟨a1, a2, a3⟩ := ha
  have hpl := encPath_few a.path a2
  simp only [↓vcPre, ↓wit_get, ↓reduceIte, vcPost, vcStd, Nat.reduceEqDiff, reduceCtorEq, Nat.reduceAdd, Nat.reduceLeDiff, Int.reduceLT, Int.reduceLE, ↓u_setN]
  refine AllocQ.i0 fun i hi => ?_
  have hsb := Store.sub_set σ i (.box a.c) hi
  have hTi : (σ.set i (.box a.c)) i = some (boxC a) := Store.set_same _ _ _
  change bops _ _ _ (σ.set i (.box a.c)) _
  generalize σ.set i (.box a.c) = T at hsb hTi ⊢
  simp only [hTi, boxC, ↓vcPre, ↓wit_get, ↓reduceIte, vcPost, vcStd, Nat.reduceEqDiff, reduceCtorEq, Nat.reduceAdd, Nat.reduceLeDiff, Int.reduceLT, Int.reduceLE, ↓u_setN]
  refine AllocQ.i0 fun b hb => ?_
  simp only [↓vcPre, ↓wit_get, ↓reduceIte, vcPost, vcStd, Nat.reduceEqDiff, reduceCtorEq, Nat.reduceAdd, Nat.reduceLeDiff, Int.reduceLT, Int.reduceLE, ↓u_setN]
  have hTb := Store.sub_set T b (.arr 1 [cB (IntKind.u8.wrap a.org)]) hb
  refine (s42 (τ := T.set b (.arr 1 [cB (IntKind.u8.wrap a.org)])) (L := []) (M := [IntKind.u8.wrap a.org]) (Store.sub_refl _) Own.nil (Rd.os (Store.set_same _ _ _)) (by simp) (by simp) 64 1 (by decide) (by decide)).Q ?_
  rintro r s1 ⟨h1, m1⟩
  have h1 := Store.sub_trans hTb h1
  have m1 := Own.weak m1 hTb
  have l1 := oneA_app 64 1 [IntKind.u8.wrap a.org] []
  simp only [List.length_nil, List.length_cons] at l1
  simp only [h1 _ _ hTi, boxC, ↓vcPre, ↓wit_get, ↓reduceIte, vcPost, vcStd, Nat.reduceEqDiff, reduceCtorEq, Nat.reduceAdd, Nat.reduceLeDiff, Int.reduceLT, Int.reduceLE, ↓u_setN]
  refine (c43 a.path (by omega) a2).Q ?_
  simp only [↓vcPre, ↓wit_get, ↓reduceIte, vcPost, vcStd, Nat.reduceEqDiff, reduceCtorEq, Nat.reduceAdd, Nat.reduceLeDiff, Int.reduceLT, Int.reduceLE, ↓u_setN]
  refine (s42 h1 m1 (Rd.sl (L := (encPath a.path).map cB)) (by omega) (by omega) 64 2 (by decide) (by decide)).Q ?_
  rintro r s2 ⟨h2, m2⟩
  have l2 := oneA_app 64 2 (encPath a.path) ([] ++ oneA 64 1 [IntKind.u8.wrap a.org])
  simp only [↓vcPre, ↓wit_get, ↓reduceIte, vcPost, vcStd, Nat.reduceEqDiff, reduceCtorEq, Nat.reduceAdd, Nat.reduceLeDiff, Int.reduceLT, Int.reduceLE, ↓u_setN]
  have hTi3 := (h2) _ _ hTi
  simp only [hTi3, boxC, e9, ↓vcPre, ↓wit_get, ↓reduceIte, vcPost, vcStd, Nat.reduceEqDiff, reduceCtorEq, Nat.reduceAdd, Nat.reduceLeDiff, Int.reduceLT, Int.reduceLE, ↓u_setN]
  refine (s44 (s := s2) (L := []) Rd.nils (by simp) a.nxt).Q ?_
  rintro r s' ⟨k1, k2⟩
  rw [List.nil_append] at k2
  obtain ⟨τ', q1, q2, q3, q4⟩ := Own.addG m2 (h2) k1 k2
  simp only [↓vcPre, ↓wit_get, ↓reduceIte, vcPost, vcStd, Nat.reduceEqDiff, reduceCtorEq, Nat.reduceAdd, Nat.reduceLeDiff, Int.reduceLT, Int.reduceLE, ↓u_setN]
  refine (s42 q2 q3 q4 (by omega) (by rw [b4_len]; omega) 64 3 (by decide) (by decide)).Q ?_
  rintro r s3 ⟨h1, k3⟩
  have h1 := Store.sub_trans q1 h1
  have k3 := Own.weak k3 q1
  have l3 := oneA_app 64 3 (b4 a.nxt) ([] ++ oneA 64 1 [IntKind.u8.wrap a.org] ++ oneA 64 2 (encPath a.path))
  rw [b4_len] at l3
  simp only [↓vcPre, ↓wit_get, ↓reduceIte, vcPost, vcStd, Nat.reduceEqDiff, reduceCtorEq, Nat.reduceAdd, Nat.reduceLeDiff, Int.reduceLT, Int.reduceLE, ↓u_setN]
  refine tail_renc4 a (by omega) hTi h1 k3 (by omega) fun v' s' hs' ho' => ?_
  refine EndQ.to s' _ rfl (Store.sub_refl _) ⟨Store.sub_trans hsb hs', ?_⟩
  have := ho'.weak hsb
  simpa [encA, u8w] using this
end Go.Am

/- W0 -/
namespace Go.Am
open Go.Proofs Go.Sort
theorem c19 (n lo hi : Int) (h1 : I64 n) (h2 : 0 ≤ lo) (h3 : lo ≤ hi) (h4 : hi < 4294967296) : Pur Tryz.prog 19 [.int .i64 n, .int .i64 lo, .int .i64 hi] (.int .i64 (lo + (n % (hi - lo + 1)))) := by
  refine pur_of Tst.F19 (by simp [Tst.F19, Fn.mkX]) fun σ => ?_
  simp only [Tst.F19, Fn.mkX, Tst.b19]
  simp only [↓vcPre, ↓wit_get, ↓reduceIte, vcPost, vcStd, Nat.reduceEqDiff, reduceCtorEq, Nat.reduceAdd, Nat.reduceLeDiff, Int.reduceLT, Int.reduceLE, ↓u_setN]
  have w : ∀ {x : Int}, -9223372036854775808 ≤ x → x ≤ 9223372036854775807 → IntKind.i64.wrap x = x := fun a b => wrap64 ⟨a, b⟩
  rw [w (x := hi - lo) (by omega) (by omega), w (x := hi - lo + 1) (by omega) (by omega)]
  have hm : 0 < hi - lo + 1 := by omega
  generalize hd : hi - lo + 1 = d at *
  have he : n % d = if n.tmod d < 0 then n.tmod d + d else n.tmod d := by
    rw [Int.tmod_eq_emod]
    have := Int.emod_nonneg n (b := d) (by omega)
    have := Int.emod_lt_of_pos n (b := d) (by omega)
    split <;> split <;> omega
  have b1 := Int.emod_nonneg n (b := d) (by omega)
  have b2 := Int.emod_lt_of_pos n (b := d) (by omega)
  refine ⟨by omega, fun hn => ?_, fun hn => ?_⟩
  · rw [if_pos hn] at he
    rw [w (x := n.tmod d + hi) (by omega) (by omega), w (x := n.tmod d + hi - lo) (by omega) (by omega), w (x := n.tmod d + hi - lo + 1) (by omega) (by omega), w (by omega) (by omega)]; omega
  · rw [if_neg hn] at he
    rw [w (by omega) (by omega)]; omega
end Go.Am

/- S79C -/
namespace Go.Am.Tsm
open Go.Proofs
/-- signpost/signpostkeep.Right -/
def t15_60 : BC := .seq (.ops [⟨some 60, none, .pure (.mov), [.t 3]⟩, ⟨some 61, none, .pure (.fld 1), [.t 1]⟩, ⟨none, none, .loud (.st 1), [.t 61, .t 60]⟩] [1, 2]) (.seq (.seq (.ops [⟨some 62, none, .pure (.fld 8), [.t 1]⟩, ⟨some 63, none, .load (.ld 1 false), [.t 62]⟩, ⟨some 64, none, .pure (.len), [.t 63]⟩, ⟨some 65, none, .pure (.bin .gtr), [.t 64, .c (.int .i64 5)]⟩] [1, 2, 65]) (.cond (.t 65) (.ops [⟨some 66, none, .pure (.fld 8), [.t 1]⟩, ⟨some 67, none, .load (.ld 1 false), [.t 66]⟩, ⟨some 68, none, .pure (.slice 1 false true), [.t 67, .c (.int .i64 5)]⟩, ⟨some 69, none, .pure (.fld 8), [.t 1]⟩, ⟨none, none, .loud (.st 1), [.t 69, .t 68]⟩] [1, 2]) (.skip))) (.seq (.ops [⟨some 70, none, .load (.ld 9 true), [.t 1]⟩, ⟨some 71, none, .loud (.call 46), [.t 70]⟩, ⟨none, none, .loud (.st 9), [.t 2, .t 71]⟩] [2]) (.ret)))
def t15_3 : BC := .seq (.ops [⟨some 3, none, .pure (.mov), [.c .nils]⟩] [1, 2, 3]) (.seq (.seq (.ops [⟨some 4, none, .pure (.mov), [.c (.int .i64 0)]⟩] [1, 2, 3, 4]) (.block 0 (.loop [1, 2, 3, 4] (.seq (.seq (.ops [⟨some 18, none, .pure (.mov), [.t 4]⟩, ⟨some 19, none, .pure (.fld 1), [.t 1]⟩, ⟨some 20, none, .load (.ld 1 false), [.t 19]⟩, ⟨some 21, none, .pure (.len), [.t 20]⟩, ⟨some 22, none, .pure (.bin .lss), [.t 18, .t 21]⟩, ⟨some 23, none, .pure (.mov), [.t 22]⟩, ⟨some 24, some (23, true), .pure (.mov), [.t 4]⟩, ⟨some 25, some (23, true), .pure (.bin .lss), [.t 24, .c (.int .i64 4)]⟩, ⟨some 26, none, .pick, [.t 23, .t 25, .c (.bool false)]⟩] [1, 2, 3, 4, 26]) (.cond (.t 26) (.skip) (.exit 0))) (.seq (.block 1 (.seq (.ops [⟨some 29, none, .pure (.fld 1), [.t 1]⟩, ⟨some 30, none, .load (.ld 1 false), [.t 29]⟩, ⟨some 31, none, .pure (.mov), [.t 4]⟩, ⟨some 32, none, .pure (.idx 2), [.t 30, .t 31]⟩, ⟨some 33, none, .load (.ld 2 true), [.t 32]⟩, ⟨some 5, none, .alloc (.alloc [(.int .i64 0), .nils]), []⟩, ⟨none, none, .loud (.st 2), [.t 5, .t 33]⟩] [1, 2, 3, 4, 5]) (.seq (.seq (.ops [⟨some 34, none, .pure (.fld 1), [.t 5]⟩, ⟨some 35, none, .load (.ld 1 false), [.t 34]⟩, ⟨some 36, none, .pure (.len), [.t 35]⟩, ⟨some 37, none, .pure (.bin .gtr), [.t 36, .c (.int .i64 5)]⟩] [1, 2, 3, 4, 5, 37]) (.cond (.t 37) (.ops [⟨some 38, none, .pure (.fld 1), [.t 5]⟩, ⟨some 39, none, .load (.ld 1 false), [.t 38]⟩, ⟨some 40, none, .pure (.slice 1 false true), [.t 39, .c (.int .i64 5)]⟩, ⟨some 41, none, .pure (.fld 1), [.t 5]⟩, ⟨none, none, .loud (.st 1), [.t 41, .t 40]⟩] [1, 2, 3, 4, 5]) (.skip))) (.seq (.ops [⟨some 42, none, .pure (.fld 1), [.t 5]⟩, ⟨some 43, none, .load (.ld 1 false), [.t 42]⟩, ⟨some 44, none, .pure (.len), [.t 43]⟩, ⟨some 45, none, .pure (.bin .gtr), [.t 44, .c (.int .i64 0)]⟩, ⟨some 46, none, .pure (.mov), [.t 45]⟩, ⟨some 47, some (46, true), .pure (.fld 0), [.t 5]⟩, ⟨some 48, some (46, true), .load (.ld 1 false), [.t 47]⟩, ⟨some 49, some (46, true), .pure (.bin .eql), [.t 48, .c (.int .i64 1)]⟩, ⟨some 50, some (46, true), .pure (.mov), [.t 49]⟩, ⟨some 51, some (50, false), .pure (.fld 0), [.t 5]⟩, ⟨some 52, some (50, false), .load (.ld 1 false), [.t 51]⟩, ⟨some 53, some (50, false), .pure (.bin .eql), [.t 52, .c (.int .i64 2)]⟩, ⟨some 54, some (46, true), .pick, [.t 50, .c (.bool true), .t 53]⟩, ⟨some 55, none, .pick, [.t 46, .t 54, .c (.bool false)]⟩] [1, 2, 3, 4, 5, 55]) (.cond (.t 55) (.ops [⟨some 56, none, .pure (.mov), [.t 3]⟩, ⟨some 57, none, .load (.ld 2 true), [.t 5]⟩, ⟨some 58, none, .alloc (.mksl 2 1), [.t 57]⟩, ⟨some 59, none, .loud (.app 2 32), [.t 56, .t 58]⟩, ⟨some 3, none, .pure (.mov), [.t 59]⟩] [1, 2, 3, 4]) (.skip)))))) (.ops [⟨some 27, none, .pure (.mov), [.t 4]⟩, ⟨some 28, none, .pure (.bin .add), [.t 27, .c (.int .i64 1)]⟩, ⟨some 4, none, .pure (.mov), [.t 28]⟩] [1, 2, 3, 4])))))) t15_60)
def b15 : BC := .seq (.ops [⟨some 1, none, .alloc (.box), [.t 0]⟩, ⟨some 2, none, .alloc (.alloc [(.int .i64 0), .nils, (.int .u32 0), (.bool false), (.int .u32 0), (.bool false), (.int .u32 0), (.bool false), .nils]), []⟩] [1, 2]) (.seq (.ops [⟨some 6, none, .pure (.fld 0), [.t 1]⟩, ⟨some 7, none, .load (.ld 1 false), [.t 6]⟩, ⟨some 8, none, .loud (.call 19), [.t 7, .c (.int .i64 0), .c (.int .i64 2)]⟩, ⟨some 9, none, .pure (.fld 0), [.t 1]⟩, ⟨none, none, .loud (.st 1), [.t 9, .t 8]⟩] [1, 2]) (.seq (.seq (.ops [⟨some 10, none, .pure (.fld 2), [.t 1]⟩, ⟨some 11, none, .load (.ld 1 false), [.t 10]⟩, ⟨some 12, none, .loud (.call 35), [.t 11]⟩, ⟨some 13, none, .pure (.not), [.t 12]⟩] [1, 2, 13]) (.cond (.t 13) (.ops [⟨some 14, none, .pure (.fld 2), [.t 1]⟩, ⟨some 15, none, .load (.ld 1 false), [.t 14]⟩, ⟨some 16, none, .loud (.call 45), [.t 15]⟩, ⟨some 17, none, .pure (.fld 2), [.t 1]⟩, ⟨none, none, .loud (.st 1), [.t 17, .t 16]⟩] [1, 2]) (.skip))) t15_3))
def F15 : Fn Tryz.prog 15 := Fn.mkX false b15 [.c 2 9 true] 72 Tryz.f15 _ Tryz.func15 (by decide) rfl Tryz.ntmps15 (by kernel_rfl) (by kernel_rfl)
end Go.Am.Tsm

/- R3 -/
namespace Go.Am
open Go.Proofs Go.Sort
def nextF (a : Int) : Int := bitInt .or .u32 3221225984 (Int.tmod a 6)
theorem c45 (a : Int) : Pur Tryz.prog 45 [.int .u32 a] (.int .u32 (nextF a)) := by
  refine pur_of Tst.F45 (by simp [Tst.F45, Fn.mkX]) fun σ => ?_
  simp only [Tst.F45, Fn.mkX, Tst.b45]
  simp only [↓vcPre, ↓wit_get, ↓reduceIte, vcPost, vcStd, Nat.reduceEqDiff, reduceCtorEq, Nat.reduceAdd, Nat.reduceLeDiff, Int.reduceLT, Int.reduceLE, ↓u_setN]
  exact ⟨by omega, rfl⟩
def cutS (s : Seg) : Seg := { s with ls := s.ls.take 5 }
def okS (s : Seg) : Bool := decide (0 < s.ls.length ∧ (s.kind = 1 ∨ s.kind = 2))
def rightP (l : List Seg) : List Seg := ((l.take 4).map cutS).filter okS
/-- Attributes that are right, as near to some as may be. -/
def rightK (a : At) : At := canonA { a with org := a.org % 3, nxt := if goodN a.nxt then a.nxt else nextF a.nxt, path := rightP a.path, cms := a.cms.take 5 }
/-- A call with parts of which one is owned: it is lent for good. -/
theorem argOwn {f : Nat} {cells : List AV} (k esz : Nat) {τ s : Store} {L : List (List AV)} {v R : AV} (hs : Store.sub τ s) (ho : Own esz τ L v s) (hk : cells[k]? = some v) (hf : ∀ c ∈ cells.set k (.sl esz L), c.flat = true)
    (h : ∀ σ', ACalls Tryz.prog f [.agg (cells.set k (.sl esz L))] σ' (fun r s' => s' = σ' ∧ r = R)) : ACalls Tryz.prog f [.agg cells] s (fun r s' => r = R ∧ Store.sub τ s' ∧ ∀ j o, s j = some o → (∀ M, o ≠ .arr esz M) → s' j = some o) := by
  refine ACalls.weakArgs (h s).1 (WeakL.pos 0 rfl (Weak.agg ?_))
  rcases ho with ⟨rfl, rfl⟩ | ⟨g, rfl, hg, hh⟩
  · refine WeakL.nil k esz hk (WeakL.pure ⟨hf, WeakL.pure ?_⟩)
    exact (h s).mono fun r s' ⟨a, b⟩ => ⟨b, a ▸ hs, fun j o hj _ => a ▸ hj⟩
  · refine WeakL.freeze k hk hh (by omega) (WeakL.pure ?_)
    simp only [List.drop_zero, List.take_length]
    refine ⟨hf, WeakL.pure ?_⟩
    refine (h (s.del g)).mono fun r s' ⟨a, b⟩ => ⟨b, a ▸ sub_del hs hg, fun j o hj hn => ?_⟩
    rw [a, Store.del_ne _ (fun e => by rw [e, hh] at hj; cases hj; exact hn _ rfl)]
    exact hj
def boxV (a : At) (v : AV) : Obj := .box [.int .i64 a.org, v, .int .u32 a.nxt, .bool a.hm, .int .u32 a.med, .bool a.hp, .int .u32 a.prf, .bool a.atm, .sl 1 (a.cms.map cU)]
theorem tail_kr2 (a : At) (ha : a.ok) {σ s : Store} {i j : Nat} (hij : ¬ i = j) (hi0 : σ i = none) (hj0 : σ j = none) {v z : AV} {w : List AV} (hs : Store.sub σ s) (hi : s i = some (boxV a z)) (hj : s j = some (.box w)) (hw : w.length = 9) (P : List Seg) (hP : P.length ≤ 1000000 ∧ ∀ s ∈ P, s.ok) (ho : Own 2 σ (P.map Seg.c) v s) {n r : Env → Store → Prop} {x : Nat → Env → Store → Prop}
    (hr : ∀ s', Store.sub σ s' → s' j = some (.box (canonA { a with path := P, cms := a.cms.take 5 }).c) → r [(2, .ptr j 0)] s') : bwp Tryz.prog Tsm.t15_60 [(1, .ptr i 0), (2, .ptr j 0), (3, v)] s n r x := by
  simp only [Tsm.t15_60]
  have hji : ¬ j = i := fun e => hij e.symm
  have hvc := ho.cell
  rw [boxV] at hi
  simp only [hi, hvc.1, hvc.2, ↓vcPre, ↓wit_get, ↓reduceIte, vcPost, vcStd, Nat.reduceEqDiff, reduceCtorEq, Nat.reduceAdd, Nat.reduceLeDiff, Int.reduceLT, Int.reduceLE, ↓u_setN]
  have ho2 := ho.setId (o' := boxV a v) hi (fun M e => by cases e)
  have hi2 : (s.set i (boxV a v)) i = some (boxV a v) := Store.set_same _ _ _
  have hj2 : (s.set i (boxV a v)) j = some (.box w) := by rw [Store.set_ne _ _ hji]; exact hj
  have hs2 : Store.sub σ (s.set i (boxV a v)) := sub_upd' hs hi0
  have e9 : ∀ x : At, x.c.length = 9 := fun _ => rfl
  have fin : ∀ (c : List Int) (T : Store), c = a.cms.take 5 → Store.sub σ T → T j = some (.box w) → Own 2 σ (P.map Seg.c) v T → ACalls Tryz.prog 46 [.agg [.int .i64 a.org, v, .int .u32 a.nxt, .bool a.hm, .int .u32 a.med, .bool a.hp, .int .u32 a.prf, .bool a.atm, .sl 1 (c.map cU)]] T
      (fun r s' => r = .agg (canonA { a with path := P, cms := a.cms.take 5 }).c ∧ Store.sub σ s' ∧ s' j = some (.box w)) := fun c T hc hT hTj hTo => by
    subst hc
    refine (argOwn 1 2 hT hTo rfl (fun c hc => ?_) (fun σ' => (c46 { a with path := P, cms := a.cms.take 5 } ⟨hP.1, hP.2, by simp; omega⟩ σ'))).mono fun r s' ⟨h1, h2, h3⟩ => ⟨h1, h2, h3 j _ hTj (fun M e => by cases e)⟩
    simp at hc
    rcases hc with rfl | rfl | rfl | rfl | rfl | rfl | rfl | rfl | rfl <;> rfl
  have ends : ∀ s', Store.sub σ s' → s' j = some (.box w) → wit (splice 0 (canonA { a with path := P, cms := a.cms.take 5 }).c w) (fun cs => r [(2, .ptr j 0)] (s'.set j (.box cs))) := fun s' h1 h2 => by
    rw [splice_all _ _ (by rw [hw]; rfl), wit_some]
    exact hr _ (sub_upd' h1 hj0) (Store.set_same _ _ _)
  refine ⟨fun g1 => ⟨⟨by simp only [Option.getD_some]; omega, by simp only [Option.getD_some]; omega⟩, ?_⟩, fun g1 => ?_⟩
  · have e5 : List.drop (Int.toNat 0) (List.take ((some (5 : Int)).getD (a.cms.length : Int)).toNat (a.cms.map cU)) = (a.cms.take 5).map cU := by rw [List.map_take]; rfl
    rw [e5]
    have h3 : Store.sub σ (((s.set i (boxV a v)).set i (.box [.int .i64 a.org, v, .int .u32 a.nxt, .bool a.hm, .int .u32 a.med, .bool a.hp, .int .u32 a.prf, .bool a.atm, .sl 1 ((a.cms.take 5).map cU)]))) := sub_upd' hs2 hi0
    refine (fin _ _ rfl h3 (by rw [Store.set_ne _ _ hji]; exact hj2) (ho2.setId hi2 (fun M e => by cases e))).Q ?_
    rintro r' s' ⟨rfl, k1, k2⟩
    simp only [e9, k2, ↓vcPre, ↓wit_get, ↓reduceIte, vcPost, vcStd, Nat.reduceEqDiff, reduceCtorEq, Nat.reduceAdd, Nat.reduceLeDiff, Int.reduceLT, Int.reduceLE, ↓u_setN]
    exact ends s' k1 k2
  · refine (fin _ _ (List.take_of_length_le (by omega)).symm hs2 hj2 ho2).Q ?_
    rintro r' s' ⟨rfl, k1, k2⟩
    simp only [e9, k2, ↓vcPre, ↓wit_get, ↓reduceIte, vcPost, vcStd, Nat.reduceEqDiff, reduceCtorEq, Nat.reduceAdd, Nat.reduceLeDiff, Int.reduceLT, Int.reduceLE, ↓u_setN]
    exact ends s' k1 k2
theorem rightP_few (l : List Seg) (h : ∀ s ∈ l, s.ok) : (rightP l).length ≤ 1000000 ∧ ∀ s ∈ rightP l, s.ok := by
  constructor
  · have := List.length_filter_le okS ((l.take 4).map cutS)
    unfold rightP
    simp at this ⊢; omega
  · intro s hs
    simp only [rightP, List.mem_filter, List.mem_map] at hs
    obtain ⟨⟨t, _, rfl⟩, _⟩ := hs
    simp [Seg.ok, cutS]; omega
theorem tail_kr1 (a : At) (ha : a.ok) {σ s : Store} {i j : Nat} (hij : ¬ i = j) (hi0 : σ i = none) (hj0 : σ j = none) {w : List AV} (hs : Store.sub σ s) (hi : s i = some (boxV a (.sl 2 (a.path.map Seg.c)))) (hj : s j = some (.box w)) (hw : w.length = 9) {n r : Env → Store → Prop} {x : Nat → Env → Store → Prop}
    (hr : ∀ s', Store.sub σ s' → s' j = some (.box (canonA { a with path := rightP a.path, cms := a.cms.take 5 }).c) → r [(2, .ptr j 0)] s') : bwp Tryz.prog Tsm.t15_3 [(1, .ptr i 0), (2, .ptr j 0)] s n r x := by
  simp only [Tsm.t15_3]
  simp only [↓vcPre, ↓wit_get, ↓reduceIte, vcPost, vcStd, Nat.reduceEqDiff, reduceCtorEq, Nat.reduceAdd, Nat.reduceLeDiff, Int.reduceLT, Int.reduceLE, ↓u_setN]
  refine LoopQ.inv (S := Nat × AV × Store) (fun q => [(1, .ptr i 0), (2, .ptr j 0), (3, q.2.1), (4, .int .i64 (q.1 : Int))]) (fun q => q.2.2) (fun q => q.1 ≤ a.path.length ∧ q.1 ≤ 4 ∧ Store.sub s q.2.2 ∧ Own 2 s ((((a.path.take q.1).map cutS).filter okS).map Seg.c) q.2.1 q.2.2) (fun q => 5 - q.1) (0, .nils, s) rfl (Store.sub_refl _) ⟨by simp only; omega, by simp only; omega, Store.sub_refl _, .nil⟩ ?_
  rintro ⟨k, v, s1⟩ ⟨hk, hk4, hs1, ho1⟩
  simp only at hk hk4 hs1 ho1
  have hi1 := hs1 _ _ hi
  rw [boxV] at hi1
  simp only [hi1, ↓vcPre, ↓wit_get, ↓reduceIte, vcPost, vcStd, Nat.reduceEqDiff, reduceCtorEq, Nat.reduceAdd, Nat.reduceLeDiff, Int.reduceLT, Int.reduceLE, ↓u_setN]
  refine ⟨fun c1 => ⟨fun c2 => ?_, fun c2 => ?_⟩, fun c1 => ?_⟩
  · have ek : IntKind.i64.wrap ((k : Int) + 1) = ((k + 1 : Nat) : Int) := by rw [wrap64 (by unfold I64; omega)]; omega
    refine ⟨c1, by simp [Seg.c], ?_⟩
    refine AllocQ.i0 fun b hb => ?_
    simp only [Seg.c, Store.set_set, ↓vcPre, ↓wit_get, ↓reduceIte, vcPost, vcStd, Nat.reduceEqDiff, reduceCtorEq, Nat.reduceAdd, Nat.reduceLeDiff, Int.reduceLT, Int.reduceLE, ↓u_setN]
    have hl5 : List.drop (Int.toNat 0) (List.take ((some (5 : Int)).getD (a.path[k].ls.length : Int)).toNat (a.path[k].ls.map cU)) = (a.path[k].ls.take 5).map cU := by rw [List.map_take]; rfl
    rw [hl5, ek]
    simp only [Option.getD_some]
    have filt : ((a.path.take (k + 1)).map cutS).filter okS = ((a.path.take k).map cutS).filter okS ++ (if okS (cutS a.path[k]) then [cutS a.path[k]] else []) := by
      rw [List.take_add_one, List.getElem?_eq_getElem c1, Option.toList_some, List.map_append, List.filter_append]
      congr 1
      simp only [List.map_cons, List.map_nil, List.filter_cons, List.filter_nil]
    have hpl : (((a.path.take k).map cutS).filter okS).length ≤ 4 := by
      have := List.length_filter_le okS ((a.path.take k).map cutS)
      simp at this ⊢; omega
    have yes : ∀ (c : List AV), c = (cutS a.path[k]).c → okS (cutS a.path[k]) = true → ∀ T d, T = s1.set b (.box c) → T d = none → appwp 2 32 v (.os d 2 0 1) (T.set d (.arr 2 [c])) (fun v' s' => @NextQ [(1, .ptr i 0), (2, .ptr j 0), (3, v'), (4, .int .i64 ((k + 1 : Nat) : Int))] s' ⟨fun e' σ' => ∃ s', e' = [(1, .ptr i 0), (2, .ptr j 0), (3, (s' : Nat × AV × Store).2.1), (4, .int .i64 (s'.1 : Int))] ∧ Store.sub s'.2.2 σ' ∧ 5 - s'.1 < 5 - k ∧ (s'.1 ≤ a.path.length ∧ s'.1 ≤ 4 ∧ Store.sub s s'.2.2 ∧ Own 2 s ((((a.path.take s'.1).map cutS).filter okS).map Seg.c) s'.2.1 s'.2.2)⟩) := by
      intro c hc hok T d hT hd
      subst hT
      have hsb := Store.sub_trans (Store.sub_set s1 b (.box c) hb) (Store.sub_set _ d (.arr 2 [c]) hd)
      refine Own.app (τ := s) (Store.sub_trans hs1 hsb) (ho1.mono hsb) (slc_os0 (Store.set_same _ _ _) rfl) (by rw [List.length_map]; omega) fun v' s' k1 k2 => ?_
      refine NextQ.to (st := fun q : Nat × AV × Store => q.2.2) (env := fun q => [(1, .ptr i 0), (2, .ptr j 0), (3, q.2.1), (4, .int .i64 (q.1 : Int))]) (m := fun q => 5 - q.1) (s := (k, v, s1)) (k + 1, v', s') rfl (Store.sub_refl _) (by simp only; omega) ⟨by simp only; omega, by simp only; omega, k1, ?_⟩
      simp only
      rw [filt, hok, List.map_append, if_pos rfl]
      rw [hc] at k2
      exact k2
    have no : ∀ T, Store.sub s1 T → okS (cutS a.path[k]) = false → @NextQ [(1, .ptr i 0), (2, .ptr j 0), (3, v), (4, .int .i64 ((k + 1 : Nat) : Int))] T ⟨fun e' σ' => ∃ s', e' = [(1, .ptr i 0), (2, .ptr j 0), (3, (s' : Nat × AV × Store).2.1), (4, .int .i64 (s'.1 : Int))] ∧ Store.sub s'.2.2 σ' ∧ 5 - s'.1 < 5 - k ∧ (s'.1 ≤ a.path.length ∧ s'.1 ≤ 4 ∧ Store.sub s s'.2.2 ∧ Own 2 s ((((a.path.take s'.1).map cutS).filter okS).map Seg.c) s'.2.1 s'.2.2)⟩ := by
      intro T hT hok
      refine NextQ.to (st := fun q : Nat × AV × Store => q.2.2) (env := fun q => [(1, .ptr i 0), (2, .ptr j 0), (3, q.2.1), (4, .int .i64 (q.1 : Int))]) (m := fun q => 5 - q.1) (s := (k, v, s1)) (k + 1, v, T) rfl (Store.sub_refl _) (by simp only; omega) ⟨by simp only; omega, by simp only; omega, Store.sub_trans hs1 hT, ?_⟩
      simp only
      rw [filt, hok]
      simpa using ho1.mono hT
    have okl : okS (cutS a.path[k]) = decide (0 < (a.path[k].ls.take 5).length ∧ (a.path[k].kind = 1 ∨ a.path[k].kind = 2)) := rfl
    have hlt : (a.path[k].ls.take 5).length = min 5 a.path[k].ls.length := List.length_take
    refine ⟨fun g1 => ⟨by omega, ?_⟩, fun g1 => ?_⟩
    · rw [List.length_map]
      refine ⟨fun g2 => ⟨fun g3 => ⟨fun g4 => ?_, fun g4 => ?_⟩, fun g3 => ?_⟩, fun g2 => ?_⟩
      · refine AllocQ.i0 fun d hd => ?_
        simp only [↓vcPre, ↓wit_get, ↓reduceIte, vcPost, vcStd, Nat.reduceEqDiff, reduceCtorEq, Nat.reduceAdd, Nat.reduceLeDiff, Int.reduceLT, Int.reduceLE, ↓u_setN]
        rw [ek]
        exact yes _ rfl (by rw [okl, decide_eq_true_eq]; omega) _ d rfl hd
      · exact no _ (Store.sub_set _ _ _ hb) (by rw [okl, decide_eq_false_iff_not]; omega)
      · refine AllocQ.i0 fun d hd => ?_
        simp only [↓vcPre, ↓wit_get, ↓reduceIte, vcPost, vcStd, Nat.reduceEqDiff, reduceCtorEq, Nat.reduceAdd, Nat.reduceLeDiff, Int.reduceLT, Int.reduceLE, ↓u_setN]
        rw [ek]
        exact yes _ rfl (by rw [okl, decide_eq_true_eq]; omega) _ d rfl hd
      · exact no _ (Store.sub_set _ _ _ hb) (by rw [okl, decide_eq_false_iff_not]; omega)
    · have hcc : [AV.int .i64 a.path[k].kind, .sl 1 (a.path[k].ls.map cU)] = (cutS a.path[k]).c := by
        have : a.path[k].ls.take 5 = a.path[k].ls := List.take_of_length_le (by omega)
        simp [cutS, Seg.c, this]
      refine ⟨fun g2 => ⟨fun g3 => ⟨fun g4 => ?_, fun g4 => ?_⟩, fun g3 => ?_⟩, fun g2 => ?_⟩
      · refine AllocQ.i0 fun d hd => ?_
        simp only [↓vcPre, ↓wit_get, ↓reduceIte, vcPost, vcStd, Nat.reduceEqDiff, reduceCtorEq, Nat.reduceAdd, Nat.reduceLeDiff, Int.reduceLT, Int.reduceLE, ↓u_setN]
        rw [ek]
        exact yes _ hcc (by rw [okl, decide_eq_true_eq]; omega) _ d rfl hd
      · exact no _ (Store.sub_set _ _ _ hb) (by rw [okl, decide_eq_false_iff_not]; omega)
      · refine AllocQ.i0 fun d hd => ?_
        simp only [↓vcPre, ↓wit_get, ↓reduceIte, vcPost, vcStd, Nat.reduceEqDiff, reduceCtorEq, Nat.reduceAdd, Nat.reduceLeDiff, Int.reduceLT, Int.reduceLE, ↓u_setN]
        rw [ek]
        exact yes _ hcc (by rw [okl, decide_eq_true_eq]; omega) _ d rfl hd
      · exact no _ (Store.sub_set _ _ _ hb) (by rw [okl, decide_eq_false_iff_not]; omega)
  all_goals
    have e : a.path.take k = a.path.take 4 := by
      by_cases h : k = 4
      · rw [h]
      · rw [List.take_of_length_le (by omega), List.take_of_length_le (by omega)]
    rw [e] at ho1
    exact tail_kr2 a ha hij hi0 hj0 (Store.sub_trans hs hs1) hi1 (hs1 _ _ hj) hw (rightP a.path) (rightP_few _ ha.2.1) (ho1.weak hs) hr
set_option maxHeartbeats 400000 in
theorem c15 (a : At) (ha : a.ok) (h64 : I64 a.org) : Pur Tryz.prog 15 [.agg a.c] (.agg (rightK a).c) := by
  intro σ
  refine calls_of Tsm.F15 (by simp [Tsm.F15, Fn.mkX]) ?_
  simp only [Tsm.F15, Fn.mkX, Tsm.b15]
  simp only [At.c, ↓vcPre, ↓wit_get, ↓reduceIte, vcPost, vcStd, Nat.reduceEqDiff, reduceCtorEq, Nat.reduceAdd, Nat.reduceLeDiff, Int.reduceLT, Int.reduceLE, ↓u_setN]
  refine AllocQ.i0 fun i hi => ?_
  simp only [At.c, ↓vcPre, ↓wit_get, ↓reduceIte, vcPost, vcStd, Nat.reduceEqDiff, reduceCtorEq, Nat.reduceAdd, Nat.reduceLeDiff, Int.reduceLT, Int.reduceLE, ↓u_setN]
  refine AllocQ.i1 fun j hj1 hj2 hj => ?_
  simp only [hj1, hj2, ↓vcPre, ↓wit_get, ↓reduceIte, vcPost, vcStd, Nat.reduceEqDiff, reduceCtorEq, Nat.reduceAdd, Nat.reduceLeDiff, Int.reduceLT, Int.reduceLE, ↓u_setN]
  refine (c19 a.org 0 2 h64 (by omega) (by omega) (by omega)).Q ?_
  rw [show (0 : Int) + a.org % (2 - 0 + 1) = a.org % 3 by omega]
  simp only [hj1, hj2, ↓vcPre, ↓wit_get, ↓reduceIte, vcPost, vcStd, Nat.reduceEqDiff, reduceCtorEq, Nat.reduceAdd, Nat.reduceLeDiff, Int.reduceLT, Int.reduceLE, ↓u_setN]
  refine (c35 a.nxt).Q ?_
  have key : ∀ (m : Int) (t : Store) (z : List AV) (xx : Nat → Env → Store → Prop) (nn : Env → Store → Prop), z.length = 9 → m = (if goodN a.nxt then a.nxt else nextF a.nxt) → t i = some (boxV { a with org := a.org % 3, nxt := m } (.sl 2 (a.path.map Seg.c))) → t j = some (.box z) → Store.sub σ t →
      bwp Tryz.prog Tsm.t15_3 [(1, .ptr i 0), (2, .ptr j 0)] t nn (fun e s => @EndQ e s ⟨Tsm.F15.slots, fun r s => s = σ ∧ r = .agg (rightK a).c⟩) xx := by
    intro m t z xx nn hz hm h1 h2 h3
    subst hm
    refine tail_kr1 { a with org := a.org % 3, nxt := if goodN a.nxt then a.nxt else nextF a.nxt } ⟨ha.1, ha.2.1, ha.2.2⟩ hj2 hi hj h3 h1 h2 hz fun s' k1 k2 => ?_
    refine EndQ.to σ (.agg (rightK a).c) ?_ k1 ⟨rfl, rfl⟩
    show Env.res [(2, AV.ptr j 0)] s' [RS.c 2 9 true] = _
    have e9 : ∀ x : At, x.c.length = 9 := fun _ => rfl
    have t9 : ∀ x : At, List.take 9 x.c = x.c := fun _ => rfl
    simp only [k2, e9, t9, Nat.le_refl, ↓vcPre, ↓wit_get, ↓reduceIte, vcPost, vcStd, Nat.reduceEqDiff, reduceCtorEq, Nat.reduceAdd, Nat.reduceLeDiff, Int.reduceLT, Int.reduceLE, ↓u_setN]
    rfl
  have hs2 := sub_set2 (o := Obj.box a.c) (p := .box zCells) hi hj hj1
  by_cases g : goodN a.nxt
  · rw [decide_eq_true g]
    simp only [hj1, hj2, ↓vcPre, ↓wit_get, ↓reduceIte, vcPost, vcStd, Nat.reduceEqDiff, reduceCtorEq, Nat.reduceAdd, Nat.reduceLeDiff, Int.reduceLT, Int.reduceLE, ↓u_setN]
    refine key a.nxt _ zCells _ _ rfl (by rw [if_pos g]) (by rw [Store.set_same]; rfl) (by rw [Store.set_ne _ _ hj1, Store.set_same]; rfl) (sub_upd' hs2 hi)
  · rw [decide_eq_false g]
    simp only [hj1, hj2, ↓vcPre, ↓wit_get, ↓reduceIte, vcPost, vcStd, Nat.reduceEqDiff, reduceCtorEq, Nat.reduceAdd, Nat.reduceLeDiff, Int.reduceLT, Int.reduceLE, ↓u_setN]
    refine (c45 a.nxt).Q ?_
    simp only [hj1, hj2, ↓vcPre, ↓wit_get, ↓reduceIte, vcPost, vcStd, Nat.reduceEqDiff, reduceCtorEq, Nat.reduceAdd, Nat.reduceLeDiff, Int.reduceLT, Int.reduceLE, ↓u_setN]
    refine key (nextF a.nxt) _ zCells _ _ rfl (by rw [if_neg g]) (by rw [Store.set_same]; rfl) (by rw [Store.set_ne _ _ hj1, Store.set_ne _ _ hj1, Store.set_same]; rfl) (sub_upd' (sub_upd' hs2 hi) hi)
end Go.Am

/- K7 -/
namespace Go.Am.TstRun20
open Go.Am Go.Proofs
def table : T ((f : Nat) × Held Tryz.prog f) := (.node (.node (.node (.node (.node (.node .leaf (some ⟨31, .fn Tst.F31⟩) (.node (.node .leaf (some ⟨159, .fn Tst.F159⟩) .leaf) none .leaf)) none (.node (.node (.node .leaf (some ⟨143, .fn Tst.F143⟩) .leaf) none .leaf) none (.node (.node .leaf (some ⟨175, .fn Tst.F175⟩) .leaf) (some ⟨111, .fn Tst.F111⟩) .leaf))) none (.node (.node (.node .leaf (some ⟨71, .fn Tst.F71⟩) .leaf) none (.node (.node .leaf (some ⟨167, .fn Tst.F167⟩) .leaf) none .leaf)) none (.node (.node (.node .leaf (some ⟨151, .fn Tst.F151⟩) .leaf) none .leaf) (some ⟨55, .fn Tst.F55⟩) .leaf))) none (.node (.node (.node .leaf none (.node (.node .leaf (some ⟨163, .fn Tst.F163⟩) .leaf) none .leaf)) none (.node (.node (.node .leaf (some ⟨147, .fn Tst.F147⟩) .leaf) none .leaf) none (.node (.node .leaf (some ⟨179, .fn Tst.F179⟩) .leaf) (some ⟨115, .fn Tst.F115⟩) .leaf))) none (.node (.node (.node (.node .leaf (some ⟨139, .fn Tst.F139⟩) .leaf) (some ⟨75, .fn Tst.F75⟩) .leaf) none (.node (.node .leaf (some ⟨171, .fn Tst.F171⟩) .leaf) none .leaf)) none (.node .leaf (some ⟨59, .fn Tst.F59⟩) .leaf)))) none (.node (.node (.node (.node .leaf (some ⟨33, .fn Tst.F33⟩) (.node (.node .leaf (some ⟨161, .fn Tst.F161⟩) .leaf) none .leaf)) none (.node (.node (.node .leaf (some ⟨145, .fn Tst.F145⟩) .leaf) none .leaf) none (.node (.node .leaf (some ⟨177, .fn Tst.F177⟩) .leaf) (some ⟨113, .fn Tst.F113⟩) .leaf))) none (.node (.node (.node (.node .leaf (some ⟨137, .fn Tst.F137⟩) .leaf) (some ⟨73, .fn Tst.F73⟩) .leaf) none (.node (.node .leaf (some ⟨169, .fn Tst.F169⟩) .leaf) none .leaf)) none (.node (.node (.node .leaf (some ⟨153, .fn Tst.F153⟩) .leaf) none .leaf) (some ⟨57, .fn Tst.F57⟩) .leaf))) none (.node (.node (.node .leaf none (.node (.node .leaf (some ⟨165, .fn Tst.F165⟩) .leaf) (some ⟨101, .fn Tst.F101⟩) .leaf)) none (.node (.node (.node .leaf (some ⟨149, .fn Tst.F149⟩) .leaf) none .leaf) none (.node .leaf (some ⟨117, .fn Tst.F117⟩) .leaf))) none (.node (.node (.node (.node .leaf (some ⟨141, .fn Tst.F141⟩) .leaf) none .leaf) none (.node (.node .leaf (some ⟨173, .fn Tst.F173⟩) .leaf) none .leaf)) none .leaf)))) none (.node (.node (.node (.node (.node .leaf none (.node (.node .leaf (some ⟨160, .fn Tst.F160⟩) .leaf) none .leaf)) none (.node (.node (.node .leaf (some ⟨144, .fn Tst.F144⟩) .leaf) none .leaf) none (.node (.node .leaf (some ⟨176, .fn Tst.F176⟩) .leaf) (some ⟨112, .fn Tst.F112⟩) .leaf))) none (.node (.node (.node (.node .leaf (some ⟨136, .fn Tst.F136⟩) .leaf) (some ⟨72, .fn Tst.F72⟩) .leaf) none (.node (.node .leaf (some ⟨168, .fn Tst.F168⟩) .leaf) none .leaf)) none (.node (.node (.node .leaf (some ⟨152, .fn Tst.F152⟩) .leaf) none .leaf) (some ⟨56, .fn Tst.F56⟩) .leaf))) none (.node (.node (.node .leaf none (.node (.node .leaf (some ⟨164, .rule (seqRule 152 .u32 4) AS.rule_ok⟩) .leaf) (some ⟨100, .fn Tst.F100⟩) .leaf)) (some ⟨20, .fn Tst.F20⟩) (.node (.node (.node .leaf (some ⟨148, .fn Tst.F148⟩) .leaf) none .leaf) none (.node (.node .leaf (some ⟨180, .fn Tst.F180⟩) .leaf) (some ⟨116, .fn Tst.F116⟩) .leaf))) none (.node (.node (.node (.node .leaf (some ⟨140, .fn Tst.F140⟩) .leaf) (some ⟨76, .fn Tst.F76⟩) .leaf) none (.node (.node .leaf (some ⟨172, .fn Tst.F172⟩) .leaf) none .leaf)) none (.node (.node (.node .leaf (some ⟨156, .fn Tst.F156⟩) .leaf) none .leaf) none .leaf)))) none (.node (.node (.node (.node .leaf (some ⟨34, .fn Tst.F34⟩) (.node (.node .leaf (some ⟨162, .fn Tst.F162⟩) .leaf) none .leaf)) none (.node (.node (.node .leaf (some ⟨146, .fn Tst.F146⟩) .leaf) none .leaf) none (.node (.node .leaf (some ⟨178, .fn Tst.F178⟩) .leaf) (some ⟨114, .fn Tst.F114⟩) .leaf))) none (.node (.node (.node (.node .leaf (some ⟨138, .fn Tst.F138⟩) .leaf) (some ⟨74, .fn Tst.F74⟩) .leaf) none (.node (.node .leaf (some ⟨170, .fn Tst.F170⟩) .leaf) (some ⟨106, .fn Tst.F106⟩) .leaf)) none (.node .leaf (some ⟨58, .fn Tst.F58⟩) .leaf))) none (.node (.node (.node .leaf none (.node .leaf (some ⟨102, .fn Tst.F102⟩) .leaf)) none (.node (.node (.node .leaf (some ⟨150, .fn Tst.F150⟩) .leaf) none .leaf) none (.node .leaf (some ⟨118, .fn Tst.F118⟩) .leaf))) none (.node (.node (.node (.node .leaf (some ⟨142, .fn Tst.F142⟩) .leaf) none .leaf) none (.node (.node .leaf (some ⟨174, .fn Tst.F174⟩) .leaf) (some ⟨110, .fn Tst.F110⟩) .leaf)) none .leaf)))))
theorem ran : isTrue (runF (tabOf table) 100000 20 []) = true := by kernel_rfl
theorem says : ACalls Tryz.prog 20 [] (fun _ => none) (fun b _ => b = .bool true) := says_true ran
theorem c20 : Pur Tryz.prog 20 [] (.bool true) := pur_true says
end Go.Am.TstRun20

/- S78C -/
namespace Go.Am.Tsn
open Go.Proofs
/-- signpost/signpostlaw7.same -/
def t36_18 : BC := .seq (.ops [⟨some 18, none, .load (.ld 9 true), [.t 2]⟩, ⟨some 20, none, .load (.ld 9 true), [.t 2]⟩, ⟨some 19, none, .qcall 65, [.t 18]⟩, ⟨some 21, none, .qcall 78, [.t 20]⟩, ⟨some 22, none, .pure (.eqb false), [.t 19, .t 21]⟩, ⟨some 23, none, .pure (.mov), [.t 22]⟩, ⟨some 24, some (23, true), .load (.ld 9 true), [.t 2]⟩, ⟨some 26, some (23, true), .load (.ld 9 true), [.t 2]⟩, ⟨some 25, some (23, true), .qcall 76, [.t 24]⟩, ⟨some 27, some (23, true), .qcall 46, [.t 26]⟩, ⟨some 28, some (23, true), .qcall 29, [.t 25, .t 27]⟩, ⟨some 29, none, .pick, [.t 23, .t 28, .c (.bool false)]⟩, ⟨some 30, none, .pure (.mov), [.t 29]⟩, ⟨some 31, some (30, true), .load (.ld 9 true), [.t 2]⟩, ⟨some 32, some (30, true), .load (.ld 9 true), [.t 3]⟩, ⟨some 34, some (30, true), .load (.ld 9 true), [.t 2]⟩, ⟨some 35, some (30, true), .load (.ld 9 true), [.t 3]⟩, ⟨some 33, some (30, true), .qcall 32, [.t 31, .t 32]⟩, ⟨some 36, some (30, true), .qcall 79, [.t 34, .t 35]⟩, ⟨some 37, some (30, true), .pure (.bin .eql), [.t 36, .c (.int .i64 0)]⟩, ⟨some 38, some (30, true), .pure (.eqb false), [.t 33, .t 37]⟩, ⟨some 39, none, .pick, [.t 30, .t 38, .c (.bool false)]⟩, ⟨some 40, none, .pure (.mov), [.t 39]⟩, ⟨some 41, some (40, true), .load (.ld 9 true), [.t 2]⟩, ⟨some 42, some (40, true), .load (.ld 9 true), [.t 3]⟩, ⟨some 44, some (40, true), .load (.ld 9 true), [.t 2]⟩, ⟨some 45, some (40, true), .load (.ld 9 true), [.t 3]⟩, ⟨some 43, some (40, true), .qcall 80, [.t 41, .t 42]⟩, ⟨some 46, some (40, true), .qcall 79, [.t 44, .t 45]⟩, ⟨some 47, some (40, true), .pure (.bin .lss), [.t 46, .c (.int .i64 0)]⟩, ⟨some 48, some (40, true), .pure (.eqb false), [.t 43, .t 47]⟩, ⟨some 49, none, .pick, [.t 40, .t 48, .c (.bool false)]⟩, ⟨some 50, none, .pure (.mov), [.t 49]⟩, ⟨some 51, some (50, true), .pure (.mov), [.t 5]⟩, ⟨some 53, some (50, true), .pure (.mov), [.t 8]⟩, ⟨some 52, some (50, true), .load (.str), [.t 51]⟩, ⟨some 54, some (50, true), .load (.str), [.t 53]⟩, ⟨some 55, some (50, true), .pure (.eqs false), [.t 52, .t 54]⟩, ⟨some 56, none, .pick, [.t 50, .t 55, .c (.bool false)]⟩, ⟨some 57, none, .pure (.mov), [.t 56]⟩, ⟨some 58, some (57, true), .pure (.mov), [.t 6]⟩, ⟨some 59, some (57, true), .pure (.mov), [.t 7]⟩, ⟨some 60, some (57, true), .pure (.bin .eql), [.t 58, .t 59]⟩, ⟨some 61, none, .pick, [.t 57, .t 60, .c (.bool false)]⟩, ⟨some 4, none, .pure (.mov), [.t 61]⟩] [4]) (.ret)
def b36 : BC := .seq (.ops [⟨some 2, none, .alloc (.box), [.t 0]⟩, ⟨some 3, none, .alloc (.box), [.t 1]⟩, ⟨some 4, none, .pure (.mov), [.c (.bool false)]⟩] [2, 3]) (.seq (.ops [⟨some 10, none, .load (.ld 9 true), [.t 2]⟩, ⟨some 11, none, .loud (.call 30), [.t 10]⟩, ⟨some 9, none, .pure (.mov), [.t 11]⟩, ⟨some 12, none, .pure (.ext 0), [.t 9]⟩, ⟨some 13, none, .pure (.ext 1), [.t 9]⟩, ⟨some 5, none, .pure (.mov), [.t 12]⟩, ⟨some 6, none, .pure (.mov), [.t 13]⟩] [2, 3, 5, 6]) (.seq (.ops [⟨some 7, none, .pure (.mov), [.c (.int .i64 0)]⟩] [2, 3, 5, 6, 7]) (.seq (.ops [⟨some 8, none, .pure (.mov), [.c .nils]⟩] [2, 3, 5, 6, 7, 8]) (.seq (.seq (.ops [⟨some 14, none, .load (.ld 9 true), [.t 2]⟩, ⟨some 15, none, .loud (.call 78), [.t 14]⟩] [2, 3, 5, 6, 7, 8, 15]) (.cond (.t 15) (.ops [⟨some 16, none, .load (.ld 9 true), [.t 2]⟩, ⟨some 17, none, .loud (.call 14), [.t 16]⟩, ⟨some 8, none, .pure (.mov), [.t 17]⟩] [2, 3, 5, 6, 7, 8]) (.ops [⟨some 7, none, .pure (.mov), [.c (.int .i64 12)]⟩] [2, 3, 5, 6, 7, 8]))) t36_18))))
def F36 : Fn Tryz.prog 36 := Fn.mkX false b36 [.t 4] 62 Tryz.f36 _ Tryz.func36 (by decide) rfl Tryz.ntmps36 (by kernel_rfl) (by kernel_rfl)
end Go.Am.Tsn

/- R4 -/
namespace Go.Am
open Go.Proofs Go.Sort
def byL (L : List Int) : List UInt8 := L.map fun n => UInt8.ofNat n.toNat
theorem toBytes_c : ∀ (L : List Int) (acc : List UInt8), toBytes (L.map cB) acc = some (acc.reverse ++ byL L)
  | [], acc => by simp [toBytes, byL]
  | x :: L, acc => by
    show toBytes ([.int .u8 x] :: L.map cB) acc = _
    simp only [toBytes]
    rw [toBytes_c L]; simp [byL]
theorem ld_str {τ : Store} {L : List Int} {v : AV} (h : Rd 1 τ (L.map cB) v) {t : Store} (ht : Store.sub τ t) : ldv .str [v] t = some (.str ⟨(byL L).toArray⟩) := by
  simp only [ldv, h.1 t ht, Option.bind_some, toBytes_c, List.reverse_nil, List.nil_append, Option.map_some]
theorem u_eqs {a b : List UInt8} : pv (.eqs false) [.str ⟨a.toArray⟩, .str ⟨b.toArray⟩] = some (.bool (a == b)) := by
  simp [pv, pEqs]
theorem beqR (b : Bool) : (b == b) = true := by cases b <;> rfl
theorem beqL (l : List UInt8) : (l == l) = true := by simp
set_option maxHeartbeats 600000 in
/-- Both tell the same of attributes. -/
theorem c36 (a b : At) (ha : a.ok) (hb : b.ok) (he : encOk a) : Pur Tryz.prog 36 [.agg a.c, .agg b.c] (.bool true) := by
  refine pur_of Tsn.F36 (by simp [Tsn.F36, Fn.mkX]) fun σ => ?_
  simp only [Tsn.F36, Fn.mkX, Tsn.b36]
  have e9 : ∀ x : At, x.c.length = 9 := fun _ => rfl
  have t9 : ∀ x : At, List.take 9 x.c = x.c := fun _ => rfl
  simp only [↓vcPre, ↓wit_get, ↓reduceIte, vcPost, vcStd, Nat.reduceEqDiff, reduceCtorEq, Nat.reduceAdd, Nat.reduceLeDiff, Int.reduceLT, Int.reduceLE, ↓u_setN]
  refine AllocQ.i0 fun i hi => ?_
  simp only [↓vcPre, ↓wit_get, ↓reduceIte, vcPost, vcStd, Nat.reduceEqDiff, reduceCtorEq, Nat.reduceAdd, Nat.reduceLeDiff, Int.reduceLT, Int.reduceLE, ↓u_setN]
  refine AllocQ.i1 fun j hj1 hj2 hj => ?_
  have hs2 := sub_set2 (o := Obj.box a.c) (p := Obj.box b.c) hi hj hj1
  have hTi : ((σ.set i (.box a.c)).set j (.box b.c)) i = some (.box a.c) := by rw [Store.set_ne _ _ hj2, Store.set_same]
  have hTj : ((σ.set i (.box a.c)).set j (.box b.c)) j = some (.box b.c) := Store.set_same _ _ _
  change bops _ _ _ ((σ.set i (.box a.c)).set j (.box b.c)) _
  generalize (σ.set i (.box a.c)).set j (.box b.c) = T at hs2 hTi hTj ⊢
  simp only [hTi, hTj, e9, t9, Nat.le_refl, ↓vcPre, ↓wit_get, ↓reduceIte, vcPost, vcStd, Nat.reduceEqDiff, reduceCtorEq, Nat.reduceAdd, Nat.reduceLeDiff, Int.reduceLT, Int.reduceLE, ↓u_setN]
  refine (c30 a ha).Q ?_
  simp only [hTi, hTj, e9, t9, Nat.le_refl, ↓vcPre, ↓wit_get, ↓reduceIte, vcPost, vcStd, Nat.reduceEqDiff, reduceCtorEq, Nat.reduceAdd, Nat.reduceLeDiff, Int.reduceLT, Int.reduceLE, ↓u_setN]
  refine (c78 a ha).Q ?_
  have hca := canonA_ok ha
  have rest : ∀ (s : Store) (y : AV) (n : Int) (L : List Int), Store.sub T s → Rd 1 s (L.map cB) y → (if atRight a then encA a else []) = L → n = (if atRight a then 0 else 12) →
      bwp Tryz.prog Tsn.t36_18 [(2, .ptr i 0), (3, .ptr j 0), (5, .sl 1 ((if atRight a then encA a else []).map cB)), (6, .int .i64 (if atRight a then 0 else 12)), (7, .int .i64 n), (8, y)] s (fun e τ => e.res τ Tsn.F36.slots = some (.bool true) ∧ Store.sub σ τ) (fun e τ => e.res τ Tsn.F36.slots = some (.bool true) ∧ Store.sub σ τ) (fun _ _ _ => False) := by
    intro s y n L hs hy hL hn
    subst hL hn
    simp only [Tsn.t36_18]
    have hi1 := hs _ _ hTi
    have hj1 := hs _ _ hTj
    have hx : Rd 1 s ((if atRight a then encA a else []).map cB) (.sl 1 ((if atRight a then encA a else []).map cB)) := Rd.sl
    have l1 := ld_str hx (Store.sub_refl s)
    have l2 := ld_str hy (Store.sub_refl s)
    simp only [hi1, hj1, e9, t9, Nat.le_refl, ↓vcPre, ↓wit_get, ↓reduceIte, vcPost, vcStd, Nat.reduceEqDiff, reduceCtorEq, Nat.reduceAdd, Nat.reduceLeDiff, Int.reduceLT, Int.reduceLE, ↓u_setN]
    refine (c65 a ha).q' ?_
    simp only [↓vcPre, ↓wit_get, ↓reduceIte, vcPost, vcStd, Nat.reduceEqDiff, reduceCtorEq, Nat.reduceAdd, Nat.reduceLeDiff, Int.reduceLT, Int.reduceLE, ↓u_setN]
    refine (c78 a ha).q' ?_
    simp only [beqR, hi1, hj1, e9, t9, Nat.le_refl, ↓vcPre, ↓wit_get, ↓reduceIte, vcPost, vcStd, Nat.reduceEqDiff, reduceCtorEq, Nat.reduceAdd, Nat.reduceLeDiff, Int.reduceLT, Int.reduceLE, ↓u_setN]
    refine (c76 a ha).q' ?_
    simp only [↓vcPre, ↓wit_get, ↓reduceIte, vcPost, vcStd, Nat.reduceEqDiff, reduceCtorEq, Nat.reduceAdd, Nat.reduceLeDiff, Int.reduceLT, Int.reduceLE, ↓u_setN]
    refine (c46 a ha).q' ?_
    simp only [↓vcPre, ↓wit_get, ↓reduceIte, vcPost, vcStd, Nat.reduceEqDiff, reduceCtorEq, Nat.reduceAdd, Nat.reduceLeDiff, Int.reduceLT, Int.reduceLE, ↓u_setN]
    refine (c29 _ _ hca hca).q' ?_
    rw [show decide (canonA a = canonA a) = true by simp]
    simp only [hi1, hj1, e9, t9, Nat.le_refl, ↓vcPre, ↓wit_get, ↓reduceIte, vcPost, vcStd, Nat.reduceEqDiff, reduceCtorEq, Nat.reduceAdd, Nat.reduceLeDiff, Int.reduceLT, Int.reduceLE, ↓u_setN]
    refine (c32 a b ha hb).q' ?_
    simp only [↓vcPre, ↓wit_get, ↓reduceIte, vcPost, vcStd, Nat.reduceEqDiff, reduceCtorEq, Nat.reduceAdd, Nat.reduceLeDiff, Int.reduceLT, Int.reduceLE, ↓u_setN]
    refine (x_rord a b ha hb _).Q ?_
    rintro r s' ⟨rfl, rfl⟩
    refine ⟨Store.sub_refl _, ?_⟩
    simp only [beqR, hi1, hj1, e9, t9, Nat.le_refl, ↓vcPre, ↓wit_get, ↓reduceIte, vcPost, vcStd, Nat.reduceEqDiff, reduceCtorEq, Nat.reduceAdd, Nat.reduceLeDiff, Int.reduceLT, Int.reduceLE, ↓u_setN]
    refine (c80 a b ha hb).q' ?_
    simp only [↓vcPre, ↓wit_get, ↓reduceIte, vcPost, vcStd, Nat.reduceEqDiff, reduceCtorEq, Nat.reduceAdd, Nat.reduceLeDiff, Int.reduceLT, Int.reduceLE, ↓u_setN]
    refine (x_rord a b ha hb _).Q ?_
    rintro r s'' ⟨rfl, rfl⟩
    refine ⟨Store.sub_refl _, ?_⟩
    simp only [beqR, l1, l2, u_eqs, beqL, ↓vcPre, ↓wit_get, ↓reduceIte, vcPost, vcStd, Nat.reduceEqDiff, reduceCtorEq, Nat.reduceAdd, Nat.reduceLeDiff, Int.reduceLT, Int.reduceLE, ↓u_setN]
    exact ⟨rfl, Store.sub_trans hs2 hs⟩
  by_cases hr : atRight a
  · have hd : decide (atRight a) = true := by simp [hr]
    rw [hd]
    simp only [hTi, hTj, e9, t9, Nat.le_refl, ↓vcPre, ↓wit_get, ↓reduceIte, vcPost, vcStd, Nat.reduceEqDiff, reduceCtorEq, Nat.reduceAdd, Nat.reduceLeDiff, Int.reduceLT, Int.reduceLE, ↓u_setN]
    refine (s14 a he _).Q ?_
    rintro r s ⟨hs, ho⟩
    have := rest s r 0 (encA a) hs (Rd.own ho) (by rw [if_pos hr]) (by rw [if_pos hr])
    simp only [↓vcPre, ↓wit_get, ↓reduceIte, vcPost, vcStd, Nat.reduceEqDiff, reduceCtorEq, Nat.reduceAdd, Nat.reduceLeDiff, Int.reduceLT, Int.reduceLE, ↓u_setN]
    exact this
  · have hd : decide (atRight a) = false := by simp [hr]
    rw [hd]
    have := rest T .nils 12 [] (Store.sub_refl _) Rd.nils (by rw [if_neg hr]) (by rw [if_neg hr])
    simp only [↓vcPre, ↓wit_get, ↓reduceIte, vcPost, vcStd, Nat.reduceEqDiff, reduceCtorEq, Nat.reduceAdd, Nat.reduceLeDiff, Int.reduceLT, Int.reduceLE, ↓u_setN]
    exact this
end Go.Am

/- S77C -/
namespace Go.Am.Tso
open Go.Proofs
/-- signpost/signpostlaw7.AttrTells -/
def b9 : BC := .seq (.ops [⟨some 2, none, .alloc (.box), [.t 0]⟩, ⟨some 3, none, .alloc (.box), [.t 1]⟩, ⟨some 4, none, .pure (.mov), [.c (.bool false)]⟩] [2, 3]) (.seq (.ops [⟨some 7, none, .load (.ld 9 true), [.t 2]⟩, ⟨some 9, none, .load (.ld 9 true), [.t 3]⟩, ⟨some 8, none, .qcall 16, [.t 7]⟩, ⟨some 10, none, .qcall 16, [.t 9]⟩, ⟨none, none, .loud (.st 9), [.t 2, .t 8]⟩, ⟨none, none, .loud (.st 9), [.t 3, .t 10]⟩] [2, 3]) (.seq (.ops [⟨some 11, none, .load (.ld 9 true), [.t 2]⟩, ⟨some 13, none, .load (.ld 9 true), [.t 3]⟩, ⟨some 12, none, .qcall 15, [.t 11]⟩, ⟨some 14, none, .qcall 15, [.t 13]⟩, ⟨some 5, none, .alloc (.alloc [(.int .i64 0), .nils, (.int .u32 0), (.bool false), (.int .u32 0), (.bool false), (.int .u32 0), (.bool false), .nils]), []⟩, ⟨some 6, none, .alloc (.alloc [(.int .i64 0), .nils, (.int .u32 0), (.bool false), (.int .u32 0), (.bool false), (.int .u32 0), (.bool false), .nils]), []⟩, ⟨none, none, .loud (.st 9), [.t 5, .t 12]⟩, ⟨none, none, .loud (.st 9), [.t 6, .t 14]⟩] [2, 3, 5, 6]) (.seq (.ops [⟨some 15, none, .load (.ld 9 true), [.t 2]⟩, ⟨some 16, none, .load (.ld 9 true), [.t 3]⟩, ⟨some 17, none, .loud (.call 36), [.t 15, .t 16]⟩, ⟨some 18, none, .pure (.mov), [.t 17]⟩, ⟨some 19, some (18, true), .load (.ld 9 true), [.t 5]⟩, ⟨some 20, some (18, true), .load (.ld 9 true), [.t 6]⟩, ⟨some 21, some (18, true), .loud (.call 36), [.t 19, .t 20]⟩, ⟨some 22, none, .pick, [.t 18, .t 21, .c (.bool false)]⟩, ⟨some 23, none, .pure (.mov), [.t 22]⟩, ⟨some 24, some (23, true), .load (.ld 9 true), [.t 5]⟩, ⟨some 25, some (23, true), .load (.ld 9 true), [.t 2]⟩, ⟨some 26, some (23, true), .loud (.call 36), [.t 24, .t 25]⟩, ⟨some 27, none, .pick, [.t 23, .t 26, .c (.bool false)]⟩, ⟨some 28, none, .pure (.mov), [.t 27]⟩, ⟨some 29, some (28, true), .load (.ld 9 true), [.t 3]⟩, ⟨some 30, some (28, true), .load (.ld 9 true), [.t 6]⟩, ⟨some 31, some (28, true), .loud (.call 36), [.t 29, .t 30]⟩, ⟨some 32, none, .pick, [.t 28, .t 31, .c (.bool false)]⟩, ⟨some 33, none, .pure (.mov), [.t 32]⟩, ⟨some 34, some (33, true), .loud (.call 20), []⟩, ⟨some 35, none, .pick, [.t 33, .t 34, .c (.bool false)]⟩, ⟨some 4, none, .pure (.mov), [.t 35]⟩] [4]) (.ret))))
def F9 : Fn Tryz.prog 9 := Fn.mkX false b9 [.t 4] 36 Tryz.f9 _ Tryz.func9 (by decide) rfl Tryz.ntmps9 (by kernel_rfl) (by kernel_rfl)
end Go.Am.Tso

/- R5 -/
namespace Go.Am
open Go.Proofs Go.Sort
theorem cutS_len (s : Seg) : (cutS s).ls.length ≤ 5 := by
  unfold cutS
  simp only [List.length_take]
  omega
theorem shortA_enc (a : At) : encOk (shortA a) := by
  refine ⟨by simp only [shortA, List.length_map, List.length_take]; omega, fun s hs => ?_, by simp only [shortA, List.length_take]; omega⟩
  simp only [shortA, List.mem_map] at hs
  obtain ⟨x, _, rfl⟩ := hs
  simp only [shortS, List.length_take]; omega
theorem encOk.ok {a : At} (h : encOk a) : a.ok := ⟨by have := h.1; omega, fun s hs => by have := h.2.1 s hs; show s.ls.length ≤ _; omega, by have := h.2.2; omega⟩
theorem rightK_enc (a : At) : encOk (rightK a) := by
  refine ⟨?_, fun s hs => ?_, ?_⟩
  · have := List.length_filter_le okS ((a.path.take 4).map cutS)
    simp only [rightK, canonA, rightP]
    simp only [List.length_map, List.length_take] at this
    omega
  · simp only [rightK, canonA, rightP] at hs
    have h2 := (List.mem_filter.mp hs).1
    simp only [List.mem_map] at h2
    obtain ⟨x, _, rfl⟩ := h2
    have := cutS_len x
    omega
  · simp only [rightK, canonA]
    have := canonC_len (a.cms.take 5)
    simp only [List.length_take] at this
    omega
def zA : List AV := [.int .i64 0, .nils, .int .u32 0, .bool false, .int .u32 0, .bool false, .int .u32 0, .bool false, .nils]
set_option maxHeartbeats 400000 in
theorem lawTells (a b : At) (ha : I64 a.org) (hb : I64 b.org) : Pur Tryz.prog 9 [.agg a.c, .agg b.c] (.bool true) := by
  refine pur_of Tso.F9 (by simp [Tso.F9, Fn.mkX]) fun σ => ?_
  simp only [Tso.F9, Fn.mkX, Tso.b9]
  have e9 : ∀ x : At, x.c.length = 9 := fun _ => rfl
  have t9 : ∀ x : At, List.take 9 x.c = x.c := fun _ => rfl
  have sp : ∀ x y : At, splice 0 x.c y.c = some x.c := fun _ _ => rfl
  have spz : ∀ x : At, splice 0 x.c [.int .i64 0, .nils, .int .u32 0, .bool false, .int .u32 0, .bool false, .int .u32 0, .bool false, .nils] = some x.c := fun _ => rfl
  simp only [↓vcPre, ↓wit_get, ↓reduceIte, vcPost, vcStd, Nat.reduceEqDiff, reduceCtorEq, Nat.reduceAdd, Nat.reduceLeDiff, Int.reduceLT, Int.reduceLE, ↓u_setN]
  refine AllocQ.i0 fun i hi => ?_
  simp only [↓vcPre, ↓wit_get, ↓reduceIte, vcPost, vcStd, Nat.reduceEqDiff, reduceCtorEq, Nat.reduceAdd, Nat.reduceLeDiff, Int.reduceLT, Int.reduceLE, ↓u_setN]
  refine AllocQ.i1 fun j hj1 hj2 hj => ?_
  simp only [hj1, hj2, e9, t9, Nat.le_refl, ↓vcPre, ↓wit_get, ↓reduceIte, vcPost, vcStd, Nat.reduceEqDiff, reduceCtorEq, Nat.reduceAdd, Nat.reduceLeDiff, Int.reduceLT, Int.reduceLE, ↓u_setN]
  refine (c16 a).q' ?_
  simp only [↓vcPre, ↓wit_get, ↓reduceIte, vcPost, vcStd, Nat.reduceEqDiff, reduceCtorEq, Nat.reduceAdd, Nat.reduceLeDiff, Int.reduceLT, Int.reduceLE, ↓u_setN]
  refine (c16 b).q' ?_
  simp only [hj1, hj2, e9, t9, Nat.le_refl, ↓vcPre, ↓wit_get, ↓reduceIte, vcPost, vcStd, Nat.reduceEqDiff, reduceCtorEq, Nat.reduceAdd, Nat.reduceLeDiff, Int.reduceLT, Int.reduceLE, ↓u_setN]
  have sa := shortA_enc a
  have sb := shortA_enc b
  generalize hA : shortA a = A at sa ⊢
  generalize hB : shortA b = B at sb ⊢
  have oA : I64 A.org := by rw [← hA]; exact ha
  have oB : I64 B.org := by rw [← hB]; exact hb
  simp only [hj1, hj2, e9, t9, sp, Nat.le_refl, ↓vcPre, ↓wit_get, ↓reduceIte, vcPost, vcStd, Nat.reduceEqDiff, reduceCtorEq, Nat.reduceAdd, Nat.reduceLeDiff, Int.reduceLT, Int.reduceLE, ↓u_setN]
  refine (c15 A sa.ok oA).q' ?_
  simp only [↓vcPre, ↓wit_get, ↓reduceIte, vcPost, vcStd, Nat.reduceEqDiff, reduceCtorEq, Nat.reduceAdd, Nat.reduceLeDiff, Int.reduceLT, Int.reduceLE, ↓u_setN]
  refine (c15 B sb.ok oB).q' ?_
  have hs2 := sub_upd' (o := Obj.box B.c) (sub_upd' (o := Obj.box A.c) (sub_set2 (o := Obj.box a.c) (p := Obj.box b.c) hi hj hj1) hi) hj
  have hTi : ((((σ.set i (.box a.c)).set j (.box b.c)).set i (.box A.c)).set j (.box B.c)) i = some (.box A.c) := by rw [Store.set_ne _ _ hj2, Store.set_same]
  have hTj : ((((σ.set i (.box a.c)).set j (.box b.c)).set i (.box A.c)).set j (.box B.c)) j = some (.box B.c) := Store.set_same _ _ _
  generalize (((σ.set i (.box a.c)).set j (.box b.c)).set i (.box A.c)).set j (.box B.c) = T at hs2 hTi hTj ⊢
  simp only [↓vcPre, ↓wit_get, ↓reduceIte, vcPost, vcStd, Nat.reduceEqDiff, reduceCtorEq, Nat.reduceAdd, Nat.reduceLeDiff, Int.reduceLT, Int.reduceLE, ↓u_setN]
  refine AllocQ.i0 fun p hp => ?_
  simp only [↓vcPre, ↓wit_get, ↓reduceIte, vcPost, vcStd, Nat.reduceEqDiff, reduceCtorEq, Nat.reduceAdd, Nat.reduceLeDiff, Int.reduceLT, Int.reduceLE, ↓u_setN]
  refine AllocQ.i1 fun q hq1 hq2 hq => ?_
  simp only [hq1, hq2, spz, ↓vcPre, ↓wit_get, ↓reduceIte, vcPost, vcStd, Nat.reduceEqDiff, reduceCtorEq, Nat.reduceAdd, Nat.reduceLeDiff, Int.reduceLT, Int.reduceLE, ↓u_setN]
  rw [show [AV.int .i64 0, .nils, .int .u32 0, .bool false, .int .u32 0, .bool false, .int .u32 0, .bool false, .nils] = zA from rfl]
  refine ⟨rfl, rfl, ?_⟩
  generalize hU : (((T.set p (.box zA)).set q (.box zA)).set p (.box (rightK A).c)).set q (.box (rightK B).c) = U
  have hs3 : Store.sub T U := by
    rw [← hU]
    exact sub_upd' (o := Obj.box (rightK B).c) (sub_upd' (o := Obj.box (rightK A).c) (sub_set2 (o := Obj.box zA) (p := Obj.box zA) hp hq hq1) hp) hq
  have hUp : U p = some (.box (rightK A).c) := by rw [← hU, Store.set_ne _ _ hq2, Store.set_same]
  have hUq : U q = some (.box (rightK B).c) := by rw [← hU]; exact Store.set_same _ _ _
  have hUi := hs3 _ _ hTi
  have hUj := hs3 _ _ hTj
  have hs4 := Store.sub_trans hs2 hs3
  have ra := rightK_enc A
  have rb := rightK_enc B
  simp only [hUi, hUj, e9, t9, Nat.le_refl, ↓vcPre, ↓wit_get, ↓reduceIte, vcPost, vcStd, Nat.reduceEqDiff, reduceCtorEq, Nat.reduceAdd, Nat.reduceLeDiff, Int.reduceLT, Int.reduceLE, ↓u_setN]
  refine (c36 A B sa.ok sb.ok sa).Q ?_
  simp only [hUp, hUq, e9, t9, Nat.le_refl, ↓vcPre, ↓wit_get, ↓reduceIte, vcPost, vcStd, Nat.reduceEqDiff, reduceCtorEq, Nat.reduceAdd, Nat.reduceLeDiff, Int.reduceLT, Int.reduceLE, ↓u_setN]
  refine (c36 _ _ ra.ok rb.ok ra).Q ?_
  simp only [hUp, hUi, e9, t9, Nat.le_refl, ↓vcPre, ↓wit_get, ↓reduceIte, vcPost, vcStd, Nat.reduceEqDiff, reduceCtorEq, Nat.reduceAdd, Nat.reduceLeDiff, Int.reduceLT, Int.reduceLE, ↓u_setN]
  refine (c36 _ _ ra.ok sa.ok ra).Q ?_
  simp only [hUq, hUj, e9, t9, Nat.le_refl, ↓vcPre, ↓wit_get, ↓reduceIte, vcPost, vcStd, Nat.reduceEqDiff, reduceCtorEq, Nat.reduceAdd, Nat.reduceLeDiff, Int.reduceLT, Int.reduceLE, ↓u_setN]
  refine (c36 _ _ sb.ok rb.ok sb).Q ?_
  simp only [↓vcPre, ↓wit_get, ↓reduceIte, vcPost, vcStd, Nat.reduceEqDiff, reduceCtorEq, Nat.reduceAdd, Nat.reduceLeDiff, Int.reduceLT, Int.reduceLE, ↓u_setN]
  refine TstRun20.c20.Q ?_
  simp only [↓vcPre, ↓wit_get, ↓reduceIte, vcPost, vcStd, Nat.reduceEqDiff, reduceCtorEq, Nat.reduceAdd, Nat.reduceLeDiff, Int.reduceLT, Int.reduceLE, ↓u_setN]
  exact hs4
end Go.Am

/- DZ -/
namespace Go.Am
open Go.Proofs
theorem imp_agg {G : Gh} {w : World} {xs ys : List AV} {cs : Array Value} (h : ImpL xs ys) (hv : VRel G w (.agg xs) (.agg cs)) : VRel G w (.agg ys) (.agg cs) := by
  cases hv with
  | agg hl hf hv =>
    refine .agg (by rw [← h.length]; exact hl) h.flat fun k hk hk' => ?_
    obtain ⟨b, hb, hr⟩ := h.get k _ (List.getElem?_eq_getElem (by rw [h.length]; exact hk))
    rw [List.getElem?_eq_getElem hk] at hb; cases hb
    exact hr.2 _ _ _ (hv k (by rw [h.length]; exact hk) hk')
theorem dU (xs : List AV) (h : TOk Tryz.prog 1 23 xs) : ∃ r : Int, ImpL xs (cU r) ∧ True := by
  obtain ⟨m1, rfl, g1, g2⟩ := TOk.int Tryz.underlying23 h
  exact ⟨m1, ImpL.one rfl, trivial⟩
theorem dSeg (xs : List AV) (h : TOk Tryz.prog 3 63 xs) : ∃ r : Seg, ImpL xs r.c ∧ True := by
  obtain ⟨a, b, rfl, h1, c, d, rfl, h2, rfl⟩ := TOk.struct (ts := [3, 24]) Tryz.underlying63 rfl h
  obtain ⟨m1, rfl, g1, g2⟩ := TOk.int Tryz.underlying3 h1
  obtain ⟨rs, hr, _⟩ := TOk.slI (sz := 1) (by_ := 4) Tryz.underlying24 (by kernel_rfl) (by kernel_rfl) cU (fun _ => True) dU h2
  exact ⟨⟨m1, rs⟩, (ImpL.one rfl).append (hr.append .nil), trivial⟩
theorem dAt (xs : List AV) (h : TOk Tryz.prog 5 26 xs) : ∃ r : At, ImpL xs r.c ∧ I64 r.org := by
  obtain ⟨a1, b1, rfl, h1, a2, b2, rfl, h2, a3, b3, rfl, h3, a4, b4, rfl, h4, a5, b5, rfl, h5, a6, b6, rfl, h6, a7, b7, rfl, h7, a8, b8, rfl, h8, a9, b9, rfl, h9, rfl⟩ := TOk.struct (ts := [3, 22, 23, 4, 23, 4, 23, 4, 24]) Tryz.underlying26 rfl h
  obtain ⟨m1, rfl, g1, g2⟩ := TOk.int Tryz.underlying3 h1
  obtain ⟨rs, hr, _⟩ := TOk.slI (sz := 2) (by_ := 32) Tryz.underlying22 (by kernel_rfl) (by kernel_rfl) Seg.c (fun _ => True) dSeg h2
  obtain ⟨m3, rfl, _, _⟩ := TOk.int Tryz.underlying23 h3
  obtain ⟨m4, rfl⟩ := TOk.bool Tryz.underlying4 h4
  obtain ⟨m5, rfl, _, _⟩ := TOk.int Tryz.underlying23 h5
  obtain ⟨m6, rfl⟩ := TOk.bool Tryz.underlying4 h6
  obtain ⟨m7, rfl, _, _⟩ := TOk.int Tryz.underlying23 h7
  obtain ⟨m8, rfl⟩ := TOk.bool Tryz.underlying4 h8
  obtain ⟨cs, hc, _⟩ := TOk.slI (sz := 1) (by_ := 4) Tryz.underlying24 (by kernel_rfl) (by kernel_rfl) cU (fun _ => True) (fun x hx => by
    obtain ⟨m1, rfl, g1, g2⟩ := TOk.int Tryz.underlying23 hx
    exact ⟨m1, ImpL.one rfl, trivial⟩) h9
  exact ⟨⟨m1, rs, m3, m4, m5, m6, m7, m8, cs⟩, (ImpL.one rfl).append (hr.append ((ImpL.one rfl).append ((ImpL.one rfl).append ((ImpL.one rfl).append ((ImpL.one rfl).append ((ImpL.one rfl).append ((ImpL.one rfl).append (hc.append .nil)))))))), ⟨g1, g2⟩⟩
theorem aAt {w : World} {a : List AV} {v : Array Value} (hr : VRel (G0 w) w (.agg a) (.agg v)) (h : TOk Tryz.prog 5 26 a) : ∃ r : At, VRel (G0 w) w (.agg r.c) (.agg v) ∧ I64 r.org := by
  obtain ⟨r, hi, ho⟩ := dAt _ h
  exact ⟨r, imp_agg hi hr, ho⟩
theorem lawTells2 (a : At) (ha : I64 a.org) (b : At) (hb : I64 b.org) : Pur Tryz.prog 9 [.agg a.c, .agg b.c] (.bool true) := lawTells a b ha hb
end Go.Am
