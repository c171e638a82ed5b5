/- A part of the proof: a logic for calls over plain values, and the functions that the law reaches, each walked once. -/
import Derived.Test.YtjmkofmkkpenmaaPE24
set_option linter.unusedVariables false
set_option linter.unusedSimpArgs false
set_option linter.unusedSectionVars false

namespace Go.Am.Tst
open Go.Proofs
/-- signpost/signpostbook.Within -/
def b11 : BC := .seq (.ops [⟨some 6, none, .pure (.mov), [.c (.int .i64 0)]⟩] [0, 1, 2]) (.seq (.ops [⟨some 7, none, .pure (.mov), [.t 0]⟩, ⟨some 8, none, .pure (.mov), [.t 2]⟩, ⟨some 9, none, .pure (.mov), [.t 1]⟩, ⟨some 10, none, .pure (.bin .sub), [.t 8, .t 9]⟩, ⟨some 11, none, .pure (.bin .add), [.t 10, .c (.int .i64 1)]⟩, ⟨some 12, none, .pure (.bin .rem), [.t 7, .t 11]⟩, ⟨some 0, none, .pure (.mov), [.t 12]⟩] [0, 1, 2]) (.seq (.seq (.ops [⟨some 13, none, .pure (.mov), [.t 0]⟩, ⟨some 14, none, .pure (.bin .lss), [.t 13, .c (.int .i64 0)]⟩] [0, 1, 2, 14]) (.cond (.t 14) (.ops [⟨some 15, none, .pure (.mov), [.t 0]⟩, ⟨some 16, none, .pure (.mov), [.t 2]⟩, ⟨some 17, none, .pure (.bin .add), [.t 15, .t 16]⟩, ⟨some 18, none, .pure (.mov), [.t 1]⟩, ⟨some 19, none, .pure (.bin .sub), [.t 17, .t 18]⟩, ⟨some 20, none, .pure (.bin .add), [.t 19, .c (.int .i64 1)]⟩, ⟨some 0, none, .pure (.mov), [.t 20]⟩] [0, 1]) (.skip))) (.seq (.ops [⟨some 21, none, .pure (.mov), [.t 1]⟩, ⟨some 22, none, .pure (.mov), [.t 0]⟩, ⟨some 23, none, .pure (.bin .add), [.t 21, .t 22]⟩, ⟨some 6, none, .pure (.mov), [.t 23]⟩] [6]) (.ret))))
def F11 : Fn Try.prog 11 := Fn.mkX false b11 [.t 6] 24 Try.f11 _ Try.func11 (by decide) rfl Try.ntmps11 (by kernel_rfl) (by kernel_rfl)
/-- signpost/attr.Decode -/
def b12 : BC := .seq (.ops [⟨some 4, none, .alloc (.alloc [(.int .i64 0), .nils, (.int .u32 0), (.bool false), (.int .u32 0), (.bool false), (.int .u32 0), (.bool false), .nils]), []⟩, ⟨some 5, none, .pure (.mov), [.c .nils]⟩, ⟨some 6, none, .alloc (.alloc [(.int .i64 0), (.int .i64 0), .nils]), []⟩] [0, 1, 4, 6]) (.seq (.ops [⟨some 7, none, .alloc (.alloc [(.int .i64 0), .nils, (.int .u32 0), (.bool false), (.int .u32 0), (.bool false), (.int .u32 0), (.bool false), .nils]), []⟩] [0, 1, 4, 6, 7]) (.seq (.ops [⟨some 8, none, .pure (.mov), [.c .nils]⟩] [0, 1, 4, 6, 7, 8]) (.seq (.ops [⟨some 17, none, .alloc (.mkmap), []⟩, ⟨some 9, none, .pure (.mov), [.t 17]⟩] [0, 1, 4, 6, 7, 8, 9]) (.seq (.skip) (.seq (.block 0 (.loop [0, 1, 4, 6, 7, 8, 9] (.seq (.seq (.ops [⟨some 18, none, .pure (.mov), [.t 0]⟩, ⟨some 19, none, .pure (.len), [.t 18]⟩, ⟨some 20, none, .pure (.bin .gtr), [.t 19, .c (.int .i64 0)]⟩] [0, 1, 4, 6, 7, 8, 9, 20]) (.cond (.t 20) (.skip) (.exit 0))) (.block 1 (.seq (.ops [⟨some 22, none, .pure (.mov), [.t 0]⟩, ⟨some 23, none, .loud (.call 25), [.t 22]⟩, ⟨some 21, none, .pure (.mov), [.t 23]⟩, ⟨some 24, none, .pure (.ext 0), [.t 21]⟩, ⟨some 25, none, .pure (.ext 1), [.t 21]⟩, ⟨some 26, none, .pure (.ext 2), [.t 21]⟩, ⟨some 10, none, .alloc (.alloc [(.int .i64 0), (.int .i64 0), .nils, .nils]), []⟩, ⟨none, none, .loud (.st 4), [.t 10, .t 24]⟩, ⟨some 11, none, .pure (.mov), [.t 25]⟩, ⟨some 12, none, .pure (.mov), [.t 26]⟩] [1, 4, 6, 7, 8, 9, 10, 11, 12]) (.seq (.seq (.ops [⟨some 27, none, .pure (.mov), [.t 12]⟩, ⟨some 28, none, .pure (.not), [.t 27]⟩, ⟨some 29, none, .pure (.mov), [.t 28]⟩, ⟨some 30, some (29, false), .pure (.mov), [.t 9]⟩, ⟨some 31, some (29, false), .pure (.fld 1), [.t 10]⟩, ⟨some 32, some (29, false), .load (.ld 1 false), [.t 31]⟩, ⟨some 33, some (29, false), .load (.look false (.int .i64) (.bool false)), [.t 30, .t 32]⟩, ⟨some 34, none, .pick, [.t 29, .c (.bool true), .t 33]⟩] [1, 4, 6, 7, 8, 9, 10, 11, 34]) (.cond (.t 34) (.seq (.ops [⟨some 35, none, .pure (.build [(.int .i64 0), .nils, (.int .u32 0), (.bool false), (.int .u32 0), (.bool false), (.int .u32 0), (.bool false), .nils] []), []⟩, ⟨some 36, none, .loud (.call 26), [.c (.int .i64 1), .c .nils]⟩, ⟨none, none, .loud (.st 9), [.t 4, .t 35]⟩, ⟨some 5, none, .pure (.mov), [.c .nils]⟩, ⟨none, none, .loud (.st 3), [.t 6, .t 36]⟩] [4, 5, 6]) (.ret)) (.skip))) (.seq (.ops [⟨some 37, none, .pure (.mov), [.t 11]⟩, ⟨some 0, none, .pure (.mov), [.t 37]⟩] [0, 1, 4, 6, 7, 8, 9, 10]) (.seq (.ops [⟨some 38, none, .pure (.mov), [.t 9]⟩, ⟨some 39, none, .pure (.fld 1), [.t 10]⟩, ⟨some 40, none, .load (.ld 1 false), [.t 39]⟩, ⟨none, none, .loud (.mupd (.int .i64)), [.t 38, .t 40, .c (.bool true)]⟩] [0, 1, 4, 6, 7, 8, 9, 10]) (.seq (.seq (.ops [⟨some 41, none, .pure (.fld 1), [.t 10]⟩, ⟨some 42, none, .load (.ld 1 false), [.t 41]⟩, ⟨some 43, none, .pure (.bin .eql), [.t 42, .c (.int .i64 5)]⟩, ⟨some 44, none, .pure (.mov), [.t 43]⟩, ⟨some 45, some (44, true), .pure (.mov), [.t 1]⟩, ⟨some 46, some (44, true), .pure (.not), [.t 45]⟩, ⟨some 47, none, .pick, [.t 44, .t 46, .c (.bool false)]⟩] [0, 1, 4, 6, 7, 8, 9, 10, 47]) (.cond (.t 47) (.exit 1) (.skip))) (.seq (.seq (.ops [⟨some 49, none, .pure (.fld 1), [.t 10]⟩, ⟨some 50, none, .load (.ld 1 false), [.t 49]⟩, ⟨some 51, none, .loud (.call 27), [.t 50]⟩, ⟨some 48, none, .pure (.mov), [.t 51]⟩, ⟨some 52, none, .pure (.ext 0), [.t 48]⟩, ⟨some 53, none, .pure (.ext 1), [.t 48]⟩, ⟨some 54, none, .pure (.ext 2), [.t 48]⟩, ⟨some 13, none, .pure (.mov), [.t 52]⟩, ⟨some 14, none, .pure (.mov), [.t 53]⟩, ⟨some 15, none, .pure (.mov), [.t 54]⟩] [0, 1, 4, 6, 7, 8, 9, 10, 15]) (.seq (.ops [⟨some 55, none, .pure (.mov), [.t 15]⟩, ⟨some 56, none, .pure (.not), [.t 55]⟩] [0, 1, 4, 6, 7, 8, 9, 10, 56]) (.cond (.t 56) (.seq (.seq (.ops [⟨some 57, none, .pure (.fld 0), [.t 10]⟩, ⟨some 58, none, .load (.ld 1 false), [.t 57]⟩, ⟨some 59, none, .pure (.bin .and), [.t 58, .c (.int .i64 128)]⟩, ⟨some 60, none, .pure (.bin .eql), [.t 59, .c (.int .i64 0)]⟩] [0, 1, 4, 6, 7, 8, 9, 10, 60]) (.cond (.t 60) (.seq (.ops [⟨some 61, none, .pure (.build [(.int .i64 0), .nils, (.int .u32 0), (.bool false), (.int .u32 0), (.bool false), (.int .u32 0), (.bool false), .nils] []), []⟩, ⟨some 62, none, .pure (.fld 3), [.t 10]⟩, ⟨some 63, none, .load (.ld 1 false), [.t 62]⟩, ⟨some 64, none, .loud (.call 26), [.c (.int .i64 2), .t 63]⟩, ⟨none, none, .loud (.st 9), [.t 4, .t 61]⟩, ⟨some 5, none, .pure (.mov), [.c .nils]⟩, ⟨none, none, .loud (.st 3), [.t 6, .t 64]⟩] [4, 5, 6]) (.ret)) (.skip))) (.seq (.ops [⟨some 65, none, .pure (.mov), [.t 8]⟩, ⟨some 66, none, .pure (.fld 1), [.t 10]⟩, ⟨some 67, none, .load (.ld 1 false), [.t 66]⟩, ⟨some 68, none, .alloc (.mksl 1 1), [.t 67]⟩, ⟨some 69, none, .loud (.app 1 8), [.t 65, .t 68]⟩, ⟨some 8, none, .pure (.mov), [.t 69]⟩] [0, 1, 4, 6, 7, 8, 9]) (.exit 1))) (.skip)))) (.seq (.seq (.ops [⟨some 70, none, .load (.ld 4 true), [.t 10]⟩, ⟨some 71, none, .loud (.call 28), [.t 7, .t 70]⟩, ⟨some 16, none, .alloc (.alloc [(.int .i64 0), (.int .i64 0), .nils]), []⟩, ⟨none, none, .loud (.st 3), [.t 16, .t 71]⟩] [0, 1, 4, 6, 7, 8, 9, 10, 16]) (.seq (.ops [⟨some 72, none, .pure (.fld 0), [.t 16]⟩, ⟨some 73, none, .load (.ld 1 false), [.t 72]⟩, ⟨some 74, none, .pure (.bin .neq), [.t 73, .c (.int .i64 0)]⟩] [0, 1, 4, 6, 7, 8, 9, 10, 16, 74]) (.cond (.t 74) (.seq (.seq (.ops [⟨some 75, none, .pure (.build [(.int .i64 0), .nils, (.int .u32 0), (.bool false), (.int .u32 0), (.bool false), (.int .u32 0), (.bool false), .nils] []), []⟩] [4, 6, 16, 75]) (.both (.seq (.ops [⟨some 76, none, .load (.ld 3 true), [.t 16]⟩] [4, 6, 75, 76]) (.seq (.ops [⟨none, none, .loud (.st 9), [.t 4, .t 75]⟩] [4, 6, 76]) (.seq (.ops [⟨some 5, none, .pure (.mov), [.c .nils]⟩] [4, 5, 6, 76]) (.seq (.ops [⟨none, none, .loud (.st 3), [.t 6, .t 76]⟩] [4, 5, 6]) (.ops [] [4, 5, 6]))))) (.both (.seq (.ops [⟨none, none, .loud (.st 9), [.t 4, .t 75]⟩] [4, 6, 16]) (.seq (.ops [⟨some 5, none, .pure (.mov), [.c .nils]⟩] [4, 5, 6, 16]) (.seq (.ops [⟨some 76, none, .load (.ld 3 true), [.t 16]⟩] [4, 5, 6, 76]) (.seq (.ops [⟨none, none, .loud (.st 3), [.t 6, .t 76]⟩] [4, 5, 6]) (.ops [] [4, 5, 6]))))) (.top)))) (.ret)) (.skip)))) (.ops [⟨some 77, none, .pure (.mov), [.t 8]⟩, ⟨some 78, none, .pure (.fld 1), [.t 10]⟩, ⟨some 79, none, .load (.ld 1 false), [.t 78]⟩, ⟨some 80, none, .alloc (.mksl 1 1), [.t 79]⟩, ⟨some 81, none, .loud (.app 1 8), [.t 77, .t 80]⟩, ⟨some 8, none, .pure (.mov), [.t 81]⟩] [0, 1, 4, 6, 7, 8, 9])))))))))))) (.seq (.ops [⟨some 82, none, .pure (.mov), [.t 8]⟩, ⟨some 83, none, .loud (.call 29), [.t 82]⟩] [4, 6, 7, 8]) (.seq (.ops [⟨some 84, none, .load (.ld 9 true), [.t 7]⟩, ⟨some 85, none, .loud (.call 17), [.t 84]⟩, ⟨some 86, none, .pure (.mov), [.t 8]⟩, ⟨some 87, none, .pure (.build [(.int .i64 0), (.int .i64 0), .nils] []), []⟩, ⟨none, none, .loud (.st 9), [.t 4, .t 85]⟩, ⟨some 5, none, .pure (.mov), [.t 86]⟩, ⟨none, none, .loud (.st 3), [.t 6, .t 87]⟩] [4, 5, 6]) (.ret))))))))
def F12 : Fn Try.prog 12 := Fn.mkX false b12 [.c 4 9 true, .t 5, .c 6 3 true] 88 Try.f12 _ Try.func12 (by decide) rfl Try.ntmps12 (by kernel_rfl) (by kernel_rfl)
/-- signpost/signpostbook.Same[int] -/
def b14 : BC := .seq (.ops [⟨some 4, none, .pure (.mov), [.c (.bool false)]⟩] [0, 1]) (.seq (.seq (.ops [⟨some 6, none, .pure (.mov), [.t 0]⟩, ⟨some 7, none, .pure (.len), [.t 6]⟩, ⟨some 8, none, .pure (.mov), [.t 1]⟩, ⟨some 9, none, .pure (.len), [.t 8]⟩, ⟨some 10, none, .pure (.bin .neq), [.t 7, .t 9]⟩] [0, 1, 10]) (.cond (.t 10) (.seq (.ops [⟨some 4, none, .pure (.mov), [.c (.bool false)]⟩] [4]) (.ret)) (.skip))) (.seq (.seq (.ops [⟨some 5, none, .pure (.mov), [.c (.int .i64 0)]⟩] [0, 1, 5]) (.block 0 (.loop [0, 1, 5] (.seq (.seq (.ops [⟨some 11, none, .pure (.mov), [.t 5]⟩, ⟨some 12, none, .pure (.mov), [.t 0]⟩, ⟨some 13, none, .pure (.len), [.t 12]⟩, ⟨some 14, none, .pure (.bin .lss), [.t 11, .t 13]⟩] [0, 1, 5, 14]) (.cond (.t 14) (.skip) (.exit 0))) (.seq (.block 1 (.seq (.ops [⟨some 17, none, .pure (.mov), [.t 0]⟩, ⟨some 18, none, .pure (.mov), [.t 5]⟩, ⟨some 19, none, .pure (.idx 1), [.t 17, .t 18]⟩, ⟨some 21, none, .pure (.mov), [.t 1]⟩, ⟨some 22, none, .pure (.mov), [.t 5]⟩, ⟨some 23, none, .pure (.idx 1), [.t 21, .t 22]⟩, ⟨some 20, none, .load (.ld 1 false), [.t 19]⟩, ⟨some 24, none, .load (.ld 1 false), [.t 23]⟩, ⟨some 25, none, .pure (.bin .neq), [.t 20, .t 24]⟩] [0, 1, 5, 25]) (.cond (.t 25) (.seq (.ops [⟨some 4, none, .pure (.mov), [.c (.bool false)]⟩] [4]) (.ret)) (.skip)))) (.ops [⟨some 15, none, .pure (.mov), [.t 5]⟩, ⟨some 16, none, .pure (.bin .add), [.t 15, .c (.int .i64 1)]⟩, ⟨some 5, none, .pure (.mov), [.t 16]⟩] [0, 1, 5])))))) (.seq (.ops [⟨some 4, none, .pure (.mov), [.c (.bool true)]⟩] [4]) (.ret))))
def F14 : Fn Try.prog 14 := Fn.mkX false b14 [.t 4] 26 Try.f14 _ Try.func14 (by decide) rfl Try.ntmps14 (by kernel_rfl) (by kernel_rfl)
/-- signpost/signpostlaw7.known -/
def b15 : BC := .seq (.ops [⟨some 0, none, .pure (.mov), [.c (.bool false)]⟩] []) (.seq (.ops [⟨some 8, none, .alloc (.mksl 1 4), [.c (.int .u8 64), .c (.int .u8 1), .c (.int .u8 1), .c (.int .u8 3)]⟩, ⟨some 9, none, .loud (.call 12), [.t 8, .c (.bool false)]⟩, ⟨some 7, none, .pure (.mov), [.t 9]⟩, ⟨some 10, none, .pure (.ext 0), [.t 7]⟩, ⟨some 11, none, .pure (.ext 1), [.t 7]⟩, ⟨some 12, none, .pure (.ext 2), [.t 7]⟩, ⟨some 1, none, .alloc (.alloc [(.int .i64 0), .nils, (.int .u32 0), (.bool false), (.int .u32 0), (.bool false), (.int .u32 0), (.bool false), .nils]), []⟩, ⟨some 3, none, .alloc (.alloc [(.int .i64 0), (.int .i64 0), .nils]), []⟩, ⟨none, none, .loud (.st 9), [.t 1, .t 10]⟩, ⟨some 2, none, .pure (.mov), [.t 11]⟩, ⟨none, none, .loud (.st 3), [.t 3, .t 12]⟩] [3]) (.seq (.ops [⟨some 14, none, .alloc (.mksl 1 4), [.c (.int .u8 64), .c (.int .u8 1), .c (.int .u8 1), .c (.int .u8 2)]⟩, ⟨some 15, none, .loud (.call 12), [.t 14, .c (.bool false)]⟩, ⟨some 13, none, .pure (.mov), [.t 15]⟩, ⟨some 16, none, .pure (.ext 0), [.t 13]⟩, ⟨some 17, none, .pure (.ext 1), [.t 13]⟩, ⟨some 18, none, .pure (.ext 2), [.t 13]⟩, ⟨some 4, none, .alloc (.alloc [(.int .i64 0), .nils, (.int .u32 0), (.bool false), (.int .u32 0), (.bool false), (.int .u32 0), (.bool false), .nils]), []⟩, ⟨some 6, none, .alloc (.alloc [(.int .i64 0), (.int .i64 0), .nils]), []⟩, ⟨none, none, .loud (.st 9), [.t 4, .t 16]⟩, ⟨some 5, none, .pure (.mov), [.t 17]⟩, ⟨none, none, .loud (.st 3), [.t 6, .t 18]⟩] [3, 4, 5, 6]) (.seq (.ops [⟨some 19, none, .pure (.fld 0), [.t 3]⟩, ⟨some 20, none, .load (.ld 1 false), [.t 19]⟩, ⟨some 21, none, .pure (.bin .eql), [.t 20, .c (.int .i64 3)]⟩, ⟨some 22, none, .pure (.mov), [.t 21]⟩, ⟨some 23, some (22, true), .pure (.fld 1), [.t 3]⟩, ⟨some 24, some (22, true), .load (.ld 1 false), [.t 23]⟩, ⟨some 25, some (22, true), .pure (.bin .eql), [.t 24, .c (.int .i64 6)]⟩, ⟨some 26, none, .pick, [.t 22, .t 25, .c (.bool false)]⟩, ⟨some 27, none, .pure (.mov), [.t 26]⟩, ⟨some 28, some (27, true), .pure (.fld 2), [.t 3]⟩, ⟨some 29, some (27, true), .load (.ld 1 false), [.t 28]⟩, ⟨some 30, some (27, true), .load (.str), [.t 29]⟩, ⟨some 31, some (27, true), .pure (.eqs false), [.t 30, .c (.str ⟨[64, 1, 1, 3].toArray⟩)]⟩, ⟨some 32, none, .pick, [.t 27, .t 31, .c (.bool false)]⟩, ⟨some 33, none, .pure (.mov), [.t 32]⟩, ⟨some 34, some (33, true), .pure (.fld 0), [.t 4]⟩, ⟨some 35, some (33, true), .load (.ld 1 false), [.t 34]⟩, ⟨some 36, some (33, true), .pure (.bin .eql), [.t 35, .c (.int .i64 2)]⟩, ⟨some 37, none, .pick, [.t 33, .t 36, .c (.bool false)]⟩, ⟨some 38, none, .pure (.mov), [.t 37]⟩, ⟨some 39, some (38, true), .pure (.mov), [.t 5]⟩, ⟨some 40, some (38, true), .alloc (.mksl 1 1), [.c (.int .i64 1)]⟩, ⟨some 41, some (38, true), .loud (.call 14), [.t 39, .t 40]⟩, ⟨some 42, none, .pick, [.t 38, .t 41, .c (.bool false)]⟩, ⟨some 43, none, .pure (.mov), [.t 42]⟩, ⟨some 44, some (43, true), .pure (.fld 0), [.t 6]⟩, ⟨some 45, some (43, true), .load (.ld 1 false), [.t 44]⟩, ⟨some 46, some (43, true), .pure (.bin .eql), [.t 45, .c (.int .i64 0)]⟩, ⟨some 47, none, .pick, [.t 43, .t 46, .c (.bool false)]⟩, ⟨some 48, none, .pure (.mov), [.t 47]⟩, ⟨some 49, some (48, true), .loud (.call 31), [.c (.int .u32 16777216)]⟩, ⟨some 50, none, .pick, [.t 48, .t 49, .c (.bool false)]⟩, ⟨some 51, none, .pure (.mov), [.t 50]⟩, ⟨some 52, some (51, true), .loud (.call 31), [.c (.int .u32 2130706433)]⟩, ⟨some 53, some (51, true), .pure (.not), [.t 52]⟩, ⟨some 54, none, .pick, [.t 51, .t 53, .c (.bool false)]⟩, ⟨some 0, none, .pure (.mov), [.t 54]⟩] [0]) (.ret))))
def F15 : Fn Try.prog 15 := Fn.mkX false b15 [.t 0] 55 Try.f15 _ Try.func15 (by decide) rfl Try.ntmps15 (by kernel_rfl) (by kernel_rfl)
/-- signpost/attr.Less -/
def b16 : BC := .seq (.ops [⟨some 2, none, .alloc (.box), [.t 0]⟩, ⟨some 3, none, .alloc (.box), [.t 1]⟩, ⟨some 4, none, .pure (.mov), [.c (.bool false)]⟩] [2, 3]) (.seq (.ops [⟨some 5, none, .load (.ld 9 true), [.t 2]⟩, ⟨some 6, none, .load (.ld 9 true), [.t 3]⟩, ⟨some 7, none, .loud (.call 30), [.t 5, .t 6]⟩, ⟨some 8, none, .pure (.bin .lss), [.t 7, .c (.int .i64 0)]⟩, ⟨some 4, none, .pure (.mov), [.t 8]⟩] [4]) (.ret))
def F16 : Fn Try.prog 16 := Fn.mkX false b16 [.t 4] 9 Try.f16 _ Try.func16 (by decide) rfl Try.ntmps16 (by kernel_rfl) (by kernel_rfl)
/-- signpost/attr.Canon -/
def b17 : BC := .seq (.ops [⟨some 1, none, .alloc (.box), [.t 0]⟩, ⟨some 2, none, .alloc (.alloc [(.int .i64 0), .nils, (.int .u32 0), (.bool false), (.int .u32 0), (.bool false), (.int .u32 0), (.bool false), .nils]), []⟩] [1, 2]) (.seq (.ops [⟨some 3, none, .pure (.fld 1), [.t 1]⟩, ⟨some 4, none, .load (.ld 1 false), [.t 3]⟩, ⟨some 5, none, .loud (.call 32), [.t 4]⟩, ⟨some 6, none, .pure (.fld 1), [.t 1]⟩, ⟨none, none, .loud (.st 1), [.t 6, .t 5]⟩] [1, 2]) (.seq (.seq (.ops [⟨some 7, none, .pure (.fld 3), [.t 1]⟩, ⟨some 8, none, .load (.ld 1 false), [.t 7]⟩, ⟨some 9, none, .pure (.not), [.t 8]⟩] [1, 2, 9]) (.cond (.t 9) (.ops [⟨some 10, none, .pure (.fld 4), [.t 1]⟩, ⟨none, none, .loud (.st 1), [.t 10, .c (.int .u32 0)]⟩] [1, 2]) (.skip))) (.seq (.seq (.ops [⟨some 11, none, .pure (.fld 5), [.t 1]⟩, ⟨some 12, none, .load (.ld 1 false), [.t 11]⟩, ⟨some 13, none, .pure (.not), [.t 12]⟩] [1, 2, 13]) (.cond (.t 13) (.ops [⟨some 14, none, .pure (.fld 6), [.t 1]⟩, ⟨none, none, .loud (.st 1), [.t 14, .c (.int .u32 0)]⟩] [1, 2]) (.skip))) (.seq (.ops [⟨some 15, none, .pure (.fld 8), [.t 1]⟩, ⟨some 16, none, .load (.ld 1 false), [.t 15]⟩, ⟨some 17, none, .loud (.call 35), [.t 16]⟩, ⟨some 18, none, .loud (.call 34), [.t 17]⟩, ⟨some 19, none, .loud (.call 33), [.t 18]⟩, ⟨some 20, none, .pure (.fld 8), [.t 1]⟩, ⟨none, none, .loud (.st 1), [.t 20, .t 19]⟩] [1, 2]) (.seq (.ops [⟨some 21, none, .load (.ld 9 true), [.t 1]⟩, ⟨none, none, .loud (.st 9), [.t 2, .t 21]⟩] [2]) (.ret))))))
def F17 : Fn Try.prog 17 := Fn.mkX false b17 [.c 2 9 true] 22 Try.f17 _ Try.func17 (by decide) rfl Try.ntmps17 (by kernel_rfl) (by kernel_rfl)
/-- signpost/signpostkeep.Attrs -/
def b18 : BC := .seq (.ops [⟨some 2, none, .alloc (.box), [.t 0]⟩, ⟨some 3, none, .alloc (.box), [.t 1]⟩, ⟨some 4, none, .pure (.mov), [.c (.bool false)]⟩] [2, 3]) (.seq (.ops [⟨some 5, none, .pure (.fld 0), [.t 2]⟩, ⟨some 6, none, .load (.ld 1 false), [.t 5]⟩, ⟨some 7, none, .pure (.fld 0), [.t 3]⟩, ⟨some 8, none, .load (.ld 1 false), [.t 7]⟩, ⟨some 9, none, .pure (.bin .eql), [.t 6, .t 8]⟩, ⟨some 10, none, .pure (.mov), [.t 9]⟩, ⟨some 11, some (10, true), .pure (.fld 1), [.t 2]⟩, ⟨some 12, some (10, true), .load (.ld 1 false), [.t 11]⟩, ⟨some 13, some (10, true), .pure (.fld 1), [.t 3]⟩, ⟨some 14, some (10, true), .load (.ld 1 false), [.t 13]⟩, ⟨some 15, some (10, true), .loud (.call 36), [.t 12, .t 14]⟩, ⟨some 16, some (10, true), .pure (.bin .eql), [.t 15, .c (.int .i64 0)]⟩, ⟨some 17, none, .pick, [.t 10, .t 16, .c (.bool false)]⟩, ⟨some 18, none, .pure (.mov), [.t 17]⟩, ⟨some 19, some (18, true), .pure (.fld 2), [.t 2]⟩, ⟨some 20, some (18, true), .load (.ld 1 false), [.t 19]⟩, ⟨some 21, some (18, true), .pure (.fld 2), [.t 3]⟩, ⟨some 22, some (18, true), .load (.ld 1 false), [.t 21]⟩, ⟨some 23, some (18, true), .pure (.bin .eql), [.t 20, .t 22]⟩, ⟨some 24, none, .pick, [.t 18, .t 23, .c (.bool false)]⟩, ⟨some 25, none, .pure (.mov), [.t 24]⟩, ⟨some 26, some (25, true), .pure (.fld 3), [.t 2]⟩, ⟨some 27, some (25, true), .load (.ld 1 false), [.t 26]⟩, ⟨some 28, some (25, true), .pure (.fld 3), [.t 3]⟩, ⟨some 29, some (25, true), .load (.ld 1 false), [.t 28]⟩, ⟨some 30, some (25, true), .pure (.eqb false), [.t 27, .t 29]⟩, ⟨some 31, none, .pick, [.t 25, .t 30, .c (.bool false)]⟩, ⟨some 32, none, .pure (.mov), [.t 31]⟩, ⟨some 33, some (32, true), .pure (.fld 4), [.t 2]⟩, ⟨some 34, some (32, true), .load (.ld 1 false), [.t 33]⟩, ⟨some 35, some (32, true), .pure (.fld 4), [.t 3]⟩, ⟨some 36, some (32, true), .load (.ld 1 false), [.t 35]⟩, ⟨some 37, some (32, true), .pure (.bin .eql), [.t 34, .t 36]⟩, ⟨some 38, none, .pick, [.t 32, .t 37, .c (.bool false)]⟩, ⟨some 39, none, .pure (.mov), [.t 38]⟩, ⟨some 40, some (39, true), .pure (.fld 5), [.t 2]⟩, ⟨some 41, some (39, true), .load (.ld 1 false), [.t 40]⟩, ⟨some 42, some (39, true), .pure (.fld 5), [.t 3]⟩, ⟨some 43, some (39, true), .load (.ld 1 false), [.t 42]⟩, ⟨some 44, some (39, true), .pure (.eqb false), [.t 41, .t 43]⟩, ⟨some 45, none, .pick, [.t 39, .t 44, .c (.bool false)]⟩, ⟨some 46, none, .pure (.mov), [.t 45]⟩, ⟨some 47, some (46, true), .pure (.fld 6), [.t 2]⟩, ⟨some 48, some (46, true), .load (.ld 1 false), [.t 47]⟩, ⟨some 49, some (46, true), .pure (.fld 6), [.t 3]⟩, ⟨some 50, some (46, true), .load (.ld 1 false), [.t 49]⟩, ⟨some 51, some (46, true), .pure (.bin .eql), [.t 48, .t 50]⟩, ⟨some 52, none, .pick, [.t 46, .t 51, .c (.bool false)]⟩, ⟨some 53, none, .pure (.mov), [.t 52]⟩, ⟨some 54, some (53, true), .pure (.fld 7), [.t 2]⟩, ⟨some 55, some (53, true), .load (.ld 1 false), [.t 54]⟩, ⟨some 56, some (53, true), .pure (.fld 7), [.t 3]⟩, ⟨some 57, some (53, true), .load (.ld 1 false), [.t 56]⟩, ⟨some 58, some (53, true), .pure (.eqb false), [.t 55, .t 57]⟩, ⟨some 59, none, .pick, [.t 53, .t 58, .c (.bool false)]⟩, ⟨some 60, none, .pure (.mov), [.t 59]⟩, ⟨some 61, some (60, true), .pure (.fld 8), [.t 2]⟩, ⟨some 62, some (60, true), .load (.ld 1 false), [.t 61]⟩, ⟨some 63, some (60, true), .pure (.fld 8), [.t 3]⟩, ⟨some 64, some (60, true), .load (.ld 1 false), [.t 63]⟩, ⟨some 65, some (60, true), .loud (.call 37), [.t 62, .t 64]⟩, ⟨some 66, none, .pick, [.t 60, .t 65, .c (.bool false)]⟩, ⟨some 4, none, .pure (.mov), [.t 66]⟩] [4]) (.ret))
def F18 : Fn Try.prog 18 := Fn.mkX false b18 [.t 4] 67 Try.f18 _ Try.func18 (by decide) rfl Try.ntmps18 (by kernel_rfl) (by kernel_rfl)
/-- signpost/attr.cut -/
def b25 : BC := .seq (.ops [⟨some 2, none, .alloc (.alloc [(.int .i64 0), (.int .i64 0), .nils, .nils]), []⟩, ⟨some 3, none, .pure (.mov), [.c .nils]⟩, ⟨some 4, none, .pure (.mov), [.c (.bool false)]⟩] [0, 2]) (.seq (.ops [⟨some 9, none, .pure (.mov), [.t 0]⟩, ⟨some 10, none, .loud (.call 41), [.t 9]⟩, ⟨some 5, none, .pure (.mov), [.t 10]⟩] [0, 2, 5]) (.seq (.ops [⟨some 11, none, .pure (.mov), [.t 5]⟩, ⟨some 12, none, .loud (.call 42), [.t 11]⟩, ⟨some 13, none, .pure (.mov), [.t 5]⟩, ⟨some 14, none, .loud (.call 42), [.t 13]⟩, ⟨some 15, none, .pure (.build [(.int .i64 0), (.int .i64 0), .nils, .nils] [(0, 1), (1, 1)]), [.t 12, .t 14]⟩, ⟨some 6, none, .alloc (.alloc [(.int .i64 0), (.int .i64 0), .nils, .nils]), []⟩, ⟨none, none, .loud (.st 4), [.t 6, .t 15]⟩] [0, 2, 5, 6]) (.seq (.ops [⟨some 7, none, .pure (.mov), [.c (.int .i64 0)]⟩] [0, 2, 5, 6]) (.seq (.seq (.ops [⟨some 16, none, .pure (.fld 0), [.t 6]⟩, ⟨some 17, none, .load (.ld 1 false), [.t 16]⟩, ⟨some 18, none, .pure (.bin .and), [.t 17, .c (.int .i64 16)]⟩, ⟨some 19, none, .pure (.bin .neq), [.t 18, .c (.int .i64 0)]⟩] [0, 2, 5, 6, 19]) (.cond (.t 19) (.ops [⟨some 20, none, .pure (.mov), [.t 5]⟩, ⟨some 21, none, .loud (.call 43), [.t 20]⟩, ⟨some 7, none, .pure (.mov), [.t 21]⟩] [0, 2, 5, 6, 7]) (.ops [⟨some 22, none, .pure (.mov), [.t 5]⟩, ⟨some 23, none, .loud (.call 42), [.t 22]⟩, ⟨some 7, none, .pure (.mov), [.t 23]⟩] [0, 2, 5, 6, 7]))) (.seq (.ops [⟨some 24, none, .pure (.mov), [.t 5]⟩, ⟨some 25, none, .pure (.mov), [.t 7]⟩, ⟨some 26, none, .loud (.call 44), [.t 24, .t 25]⟩, ⟨some 27, none, .pure (.fld 2), [.t 6]⟩, ⟨none, none, .loud (.st 1), [.t 27, .t 26]⟩] [0, 2, 5, 6]) (.seq (.seq (.ops [⟨some 28, none, .pure (.mov), [.t 5]⟩, ⟨some 29, none, .loud (.call 45), [.t 28]⟩, ⟨some 30, none, .pure (.not), [.t 29]⟩] [0, 2, 5, 6, 30]) (.cond (.t 30) (.seq (.ops [⟨some 31, none, .pure (.build [(.int .i64 0), (.int .i64 0), .nils, .nils] []), []⟩, ⟨none, none, .loud (.st 4), [.t 2, .t 31]⟩, ⟨some 3, none, .pure (.mov), [.c .nils]⟩, ⟨some 4, none, .pure (.mov), [.c (.bool false)]⟩] [2, 3, 4]) (.ret)) (.skip))) (.seq (.ops [⟨some 32, none, .pure (.mov), [.t 0]⟩, ⟨some 33, none, .pure (.len), [.t 32]⟩, ⟨some 34, none, .pure (.mov), [.t 5]⟩, ⟨some 35, none, .loud (.call 46), [.t 34]⟩, ⟨some 36, none, .pure (.bin .sub), [.t 33, .t 35]⟩, ⟨some 8, none, .pure (.mov), [.t 36]⟩] [0, 2, 6, 8]) (.seq (.ops [⟨some 37, none, .pure (.mov), [.t 0]⟩, ⟨some 38, none, .pure (.mov), [.t 8]⟩, ⟨some 39, none, .pure (.slice 1 false true), [.t 37, .t 38]⟩, ⟨some 40, none, .pure (.fld 3), [.t 6]⟩, ⟨none, none, .loud (.st 1), [.t 40, .t 39]⟩] [0, 2, 6, 8]) (.seq (.ops [⟨some 42, none, .pure (.mov), [.t 0]⟩, ⟨some 43, none, .pure (.mov), [.t 8]⟩, ⟨some 44, none, .pure (.slice 1 true false), [.t 42, .t 43]⟩, ⟨some 41, none, .load (.ld 4 true), [.t 6]⟩, ⟨none, none, .loud (.st 4), [.t 2, .t 41]⟩, ⟨some 3, none, .pure (.mov), [.t 44]⟩, ⟨some 4, none, .pure (.mov), [.c (.bool true)]⟩] [2, 3, 4]) (.ret))))))))))
def F25 : Fn Try.prog 25 := Fn.mkX false b25 [.c 2 4 true, .t 3, .t 4] 45 Try.f25 _ Try.func25 (by decide) rfl Try.ntmps25 (by kernel_rfl) (by kernel_rfl)
/-- signpost/attr.note -/
def b26 : BC := .seq (.ops [⟨some 4, none, .alloc (.alloc [(.int .i64 0), (.int .i64 0), .nils]), []⟩] [0, 1, 4]) (.seq (.ops [⟨some 5, none, .pure (.mov), [.t 0]⟩, ⟨some 6, none, .pure (.mov), [.t 1]⟩, ⟨some 7, none, .loud (.call 47), [.t 6]⟩, ⟨some 8, none, .pure (.build [(.int .i64 0), (.int .i64 0), .nils] [(0, 1), (1, 1), (2, 1)]), [.c (.int .i64 3), .t 5, .t 7]⟩, ⟨none, none, .loud (.st 3), [.t 4, .t 8]⟩] [4]) (.ret))
def F26 : Fn Try.prog 26 := Fn.mkX false b26 [.c 4 3 true] 9 Try.f26 _ Try.func26 (by decide) rfl Try.ntmps26 (by kernel_rfl) (by kernel_rfl)
/-- signpost/attr.of -/
def b27 : BC := .seq (.ops [⟨some 2, none, .pure (.mov), [.c (.int .i64 0)]⟩, ⟨some 3, none, .pure (.mov), [.c (.int .i64 0)]⟩, ⟨some 4, none, .pure (.mov), [.c (.bool false)]⟩] [0]) (.seq (.seq (.ops [⟨some 5, none, .pure (.mov), [.t 0]⟩] [5]) (.block 0 (.seq (.ops [⟨some 7, none, .pure (.bin .eql), [.t 5, .c (.int .i64 1)]⟩, ⟨some 6, none, .pure (.mov), [.t 7]⟩] [5, 6]) (.cond (.t 6) (.seq (.ops [⟨some 2, none, .pure (.mov), [.c (.int .i64 64)]⟩, ⟨some 3, none, .pure (.mov), [.c (.int .i64 1)]⟩, ⟨some 4, none, .pure (.mov), [.c (.bool true)]⟩] [2, 3, 4]) (.ret)) (.seq (.ops [⟨some 9, none, .pure (.bin .eql), [.t 5, .c (.int .i64 2)]⟩, ⟨some 8, none, .pure (.mov), [.t 9]⟩] [5, 8]) (.cond (.t 8) (.seq (.ops [⟨some 2, none, .pure (.mov), [.c (.int .i64 64)]⟩, ⟨some 3, none, .pure (.mov), [.c (.int .i64 (-1))]⟩, ⟨some 4, none, .pure (.mov), [.c (.bool true)]⟩] [2, 3, 4]) (.ret)) (.seq (.ops [⟨some 11, none, .pure (.bin .eql), [.t 5, .c (.int .i64 3)]⟩, ⟨some 10, none, .pure (.mov), [.t 11]⟩] [5, 10]) (.cond (.t 10) (.seq (.ops [⟨some 2, none, .pure (.mov), [.c (.int .i64 64)]⟩, ⟨some 3, none, .pure (.mov), [.c (.int .i64 4)]⟩, ⟨some 4, none, .pure (.mov), [.c (.bool true)]⟩] [2, 3, 4]) (.ret)) (.seq (.ops [⟨some 13, none, .pure (.bin .eql), [.t 5, .c (.int .i64 4)]⟩, ⟨some 12, none, .pure (.mov), [.t 13]⟩] [5, 12]) (.cond (.t 12) (.seq (.ops [⟨some 2, none, .pure (.mov), [.c (.int .i64 128)]⟩, ⟨some 3, none, .pure (.mov), [.c (.int .i64 4)]⟩, ⟨some 4, none, .pure (.mov), [.c (.bool true)]⟩] [2, 3, 4]) (.ret)) (.seq (.ops [⟨some 15, none, .pure (.bin .eql), [.t 5, .c (.int .i64 5)]⟩, ⟨some 14, none, .pure (.mov), [.t 15]⟩] [5, 14]) (.cond (.t 14) (.seq (.ops [⟨some 2, none, .pure (.mov), [.c (.int .i64 64)]⟩, ⟨some 3, none, .pure (.mov), [.c (.int .i64 4)]⟩, ⟨some 4, none, .pure (.mov), [.c (.bool true)]⟩] [2, 3, 4]) (.ret)) (.seq (.ops [⟨some 17, none, .pure (.bin .eql), [.t 5, .c (.int .i64 6)]⟩, ⟨some 16, none, .pure (.mov), [.t 17]⟩] [5, 16]) (.cond (.t 16) (.seq (.ops [⟨some 2, none, .pure (.mov), [.c (.int .i64 64)]⟩, ⟨some 3, none, .pure (.mov), [.c (.int .i64 0)]⟩, ⟨some 4, none, .pure (.mov), [.c (.bool true)]⟩] [2, 3, 4]) (.ret)) (.seq (.ops [⟨some 19, none, .pure (.bin .eql), [.t 5, .c (.int .i64 8)]⟩, ⟨some 18, none, .pure (.mov), [.t 19]⟩] [18]) (.cond (.t 18) (.seq (.ops [⟨some 2, none, .pure (.mov), [.c (.int .i64 192)]⟩, ⟨some 3, none, .pure (.mov), [.c (.int .i64 (-4))]⟩, ⟨some 4, none, .pure (.mov), [.c (.bool true)]⟩] [2, 3, 4]) (.ret)) (.skip))))))))))))))))) (.seq (.ops [⟨some 2, none, .pure (.mov), [.c (.int .i64 0)]⟩, ⟨some 3, none, .pure (.mov), [.c (.int .i64 0)]⟩, ⟨some 4, none, .pure (.mov), [.c (.bool false)]⟩] [2, 3, 4]) (.ret)))
def F27 : Fn Try.prog 27 := Fn.mkX false b27 [.t 2, .t 3, .t 4] 20 Try.f27 _ Try.func27 (by decide) rfl Try.ntmps27 (by kernel_rfl) (by kernel_rfl)
/-- signpost/attr.read -/
def b28 : BC := .seq (.ops [⟨some 3, none, .alloc (.box), [.t 1]⟩, ⟨some 4, none, .alloc (.alloc [(.int .i64 0), (.int .i64 0), .nils]), []⟩] [0, 3, 4]) (.seq (.ops [⟨some 11, none, .pure (.fld 1), [.t 3]⟩, ⟨some 12, none, .load (.ld 1 false), [.t 11]⟩, ⟨some 13, none, .loud (.call 27), [.t 12]⟩, ⟨some 10, none, .pure (.mov), [.t 13]⟩, ⟨some 14, none, .pure (.ext 0), [.t 10]⟩, ⟨some 15, none, .pure (.ext 1), [.t 10]⟩, ⟨some 16, none, .pure (.ext 2), [.t 10]⟩, ⟨some 5, none, .pure (.mov), [.t 14]⟩, ⟨some 6, none, .pure (.mov), [.t 15]⟩, ⟨some 7, none, .pure (.mov), [.t 16]⟩] [0, 3, 4, 5, 6]) (.seq (.block 0 (.seq (.ops [⟨some 18, none, .pure (.fld 0), [.t 3]⟩, ⟨some 19, none, .load (.ld 1 false), [.t 18]⟩, ⟨some 20, none, .pure (.bin .and), [.t 19, .c (.int .i64 192)]⟩, ⟨some 21, none, .pure (.mov), [.t 5]⟩, ⟨some 22, none, .pure (.bin .neq), [.t 20, .t 21]⟩, ⟨some 23, none, .pure (.mov), [.t 22]⟩, ⟨some 24, some (23, false), .pure (.fld 0), [.t 3]⟩, ⟨some 25, some (23, false), .load (.ld 1 false), [.t 24]⟩, ⟨some 26, some (23, false), .pure (.bin .and), [.t 25, .c (.int .i64 32)]⟩, ⟨some 27, some (23, false), .pure (.bin .neq), [.t 26, .c (.int .i64 0)]⟩, ⟨some 28, some (23, false), .pure (.mov), [.t 27]⟩, ⟨some 29, some (28, true), .pure (.fld 1), [.t 3]⟩, ⟨some 30, some (28, true), .load (.ld 1 false), [.t 29]⟩, ⟨some 31, some (28, true), .pure (.bin .neq), [.t 30, .c (.int .i64 8)]⟩, ⟨some 32, some (23, false), .pick, [.t 28, .t 31, .c (.bool false)]⟩, ⟨some 33, none, .pick, [.t 23, .c (.bool true), .t 32]⟩, ⟨some 17, none, .pure (.mov), [.t 33]⟩] [0, 3, 4, 6, 17]) (.cond (.t 17) (.seq (.ops [⟨some 34, none, .pure (.fld 3), [.t 3]⟩, ⟨some 35, none, .load (.ld 1 false), [.t 34]⟩, ⟨some 36, none, .loud (.call 26), [.c (.int .i64 4), .t 35]⟩, ⟨none, none, .loud (.st 3), [.t 4, .t 36]⟩] [4]) (.ret)) (.seq (.ops [⟨some 38, none, .pure (.mov), [.t 6]⟩, ⟨some 39, none, .pure (.fld 2), [.t 3]⟩, ⟨some 40, none, .load (.ld 1 false), [.t 39]⟩, ⟨some 41, none, .pure (.len), [.t 40]⟩, ⟨some 42, none, .loud (.call 48), [.t 38, .t 41]⟩, ⟨some 43, none, .pure (.not), [.t 42]⟩, ⟨some 37, none, .pure (.mov), [.t 43]⟩] [0, 3, 4, 37]) (.cond (.t 37) (.seq (.ops [⟨some 44, none, .pure (.fld 3), [.t 3]⟩, ⟨some 45, none, .load (.ld 1 false), [.t 44]⟩, ⟨some 46, none, .loud (.call 26), [.c (.int .i64 5), .t 45]⟩, ⟨none, none, .loud (.st 3), [.t 4, .t 46]⟩] [4]) (.ret)) (.skip)))))) (.seq (.ops [⟨some 47, none, .pure (.fld 2), [.t 3]⟩, ⟨some 48, none, .load (.ld 1 false), [.t 47]⟩, ⟨some 49, none, .loud (.call 49), [.t 48]⟩, ⟨some 8, none, .pure (.mov), [.t 49]⟩] [0, 3, 4, 8]) (.seq (.seq (.ops [⟨some 50, none, .pure (.fld 1), [.t 3]⟩, ⟨some 51, none, .load (.ld 1 false), [.t 50]⟩] [0, 3, 4, 8, 51]) (.block 1 (.seq (.ops [⟨some 63, none, .pure (.bin .eql), [.t 51, .c (.int .i64 1)]⟩, ⟨some 62, none, .pure (.mov), [.t 63]⟩] [0, 3, 4, 8, 51, 62]) (.cond (.t 62) (.seq (.ops [⟨some 64, none, .pure (.mov), [.t 0]⟩, ⟨some 65, none, .pure (.fld 2), [.t 3]⟩, ⟨some 66, none, .load (.ld 1 false), [.t 65]⟩, ⟨some 67, none, .pure (.idx 1), [.t 66, .c (.int .i64 0)]⟩, ⟨some 68, none, .load (.ld 1 false), [.t 67]⟩, ⟨some 69, none, .pure (.conv .i64), [.t 68]⟩, ⟨some 70, none, .pure (.nilchk), [.t 64]⟩, ⟨some 71, none, .pure (.fld 0), [.t 70]⟩, ⟨none, none, .loud (.st 1), [.t 71, .t 69]⟩] [0, 3, 4]) (.seq (.ops [⟨some 72, none, .pure (.mov), [.t 0]⟩, ⟨some 73, none, .pure (.nilchk), [.t 72]⟩, ⟨some 74, none, .pure (.fld 0), [.t 73]⟩, ⟨some 75, none, .load (.ld 1 false), [.t 74]⟩, ⟨some 76, none, .pure (.bin .gtr), [.t 75, .c (.int .i64 2)]⟩] [3, 4, 76]) (.cond (.t 76) (.seq (.ops [⟨some 77, none, .pure (.fld 3), [.t 3]⟩, ⟨some 78, none, .load (.ld 1 false), [.t 77]⟩, ⟨some 79, none, .loud (.call 26), [.c (.int .i64 6), .t 78]⟩, ⟨none, none, .loud (.st 3), [.t 4, .t 79]⟩] [4]) (.ret)) (.skip)))) (.seq (.ops [⟨some 81, none, .pure (.bin .eql), [.t 51, .c (.int .i64 2)]⟩, ⟨some 80, none, .pure (.mov), [.t 81]⟩] [0, 3, 4, 8, 51, 80]) (.cond (.t 80) (.seq (.ops [⟨some 9, none, .pure (.mov), [.c (.bool false)]⟩] [0, 3, 4]) (.seq (.ops [⟨some 83, none, .pure (.mov), [.t 0]⟩, ⟨some 84, none, .pure (.fld 2), [.t 3]⟩, ⟨some 85, none, .load (.ld 1 false), [.t 84]⟩, ⟨some 86, none, .loud (.call 50), [.t 85]⟩, ⟨some 82, none, .pure (.mov), [.t 86]⟩, ⟨some 87, none, .pure (.ext 0), [.t 82]⟩, ⟨some 88, none, .pure (.ext 1), [.t 82]⟩, ⟨some 89, none, .pure (.nilchk), [.t 83]⟩, ⟨some 90, none, .pure (.fld 1), [.t 89]⟩, ⟨none, none, .loud (.st 1), [.t 90, .t 87]⟩, ⟨some 9, none, .pure (.mov), [.t 88]⟩] [4, 9]) (.seq (.ops [⟨some 91, none, .pure (.mov), [.t 9]⟩, ⟨some 92, none, .pure (.not), [.t 91]⟩] [4, 92]) (.cond (.t 92) (.seq (.ops [⟨some 93, none, .loud (.call 26), [.c (.int .i64 11), .c .nils]⟩, ⟨none, none, .loud (.st 3), [.t 4, .t 93]⟩] [4]) (.ret)) (.skip))))) (.seq (.ops [⟨some 95, none, .pure (.bin .eql), [.t 51, .c (.int .i64 3)]⟩, ⟨some 94, none, .pure (.mov), [.t 95]⟩] [0, 3, 4, 8, 51, 94]) (.cond (.t 94) (.seq (.ops [⟨some 96, none, .pure (.mov), [.t 0]⟩, ⟨some 97, none, .pure (.mov), [.t 8]⟩, ⟨some 98, none, .pure (.idx 1), [.t 97, .c (.int .i64 0)]⟩, ⟨some 99, none, .load (.ld 1 false), [.t 98]⟩, ⟨some 100, none, .pure (.nilchk), [.t 96]⟩, ⟨some 101, none, .pure (.fld 2), [.t 100]⟩, ⟨none, none, .loud (.st 1), [.t 101, .t 99]⟩] [0, 3, 4]) (.seq (.ops [⟨some 102, none, .pure (.mov), [.t 0]⟩, ⟨some 103, none, .pure (.nilchk), [.t 102]⟩, ⟨some 104, none, .pure (.fld 2), [.t 103]⟩, ⟨some 105, none, .load (.ld 1 false), [.t 104]⟩, ⟨some 106, none, .loud (.call 31), [.t 105]⟩, ⟨some 107, none, .pure (.not), [.t 106]⟩] [3, 4, 107]) (.cond (.t 107) (.seq (.ops [⟨some 108, none, .pure (.fld 3), [.t 3]⟩, ⟨some 109, none, .load (.ld 1 false), [.t 108]⟩, ⟨some 110, none, .loud (.call 26), [.c (.int .i64 8), .t 109]⟩, ⟨none, none, .loud (.st 3), [.t 4, .t 110]⟩] [4]) (.ret)) (.skip)))) (.seq (.ops [⟨some 112, none, .pure (.bin .eql), [.t 51, .c (.int .i64 4)]⟩, ⟨some 111, none, .pure (.mov), [.t 112]⟩] [0, 3, 4, 8, 51, 111]) (.cond (.t 111) (.ops [⟨some 113, none, .pure (.mov), [.t 0]⟩, ⟨some 114, none, .pure (.mov), [.t 0]⟩, ⟨some 115, none, .pure (.mov), [.t 8]⟩, ⟨some 116, none, .pure (.idx 1), [.t 115, .c (.int .i64 0)]⟩, ⟨some 117, none, .load (.ld 1 false), [.t 116]⟩, ⟨some 118, none, .pure (.nilchk), [.t 113]⟩, ⟨some 119, none, .pure (.fld 3), [.t 118]⟩, ⟨none, none, .loud (.st 1), [.t 119, .c (.bool true)]⟩, ⟨some 120, none, .pure (.nilchk), [.t 114]⟩, ⟨some 121, none, .pure (.fld 4), [.t 120]⟩, ⟨none, none, .loud (.st 1), [.t 121, .t 117]⟩] [4]) (.seq (.ops [⟨some 123, none, .pure (.bin .eql), [.t 51, .c (.int .i64 5)]⟩, ⟨some 122, none, .pure (.mov), [.t 123]⟩] [0, 3, 4, 8, 51, 122]) (.cond (.t 122) (.ops [⟨some 124, none, .pure (.mov), [.t 0]⟩, ⟨some 125, none, .pure (.mov), [.t 0]⟩, ⟨some 126, none, .pure (.mov), [.t 8]⟩, ⟨some 127, none, .pure (.idx 1), [.t 126, .c (.int .i64 0)]⟩, ⟨some 128, none, .load (.ld 1 false), [.t 127]⟩, ⟨some 129, none, .pure (.nilchk), [.t 124]⟩, ⟨some 130, none, .pure (.fld 5), [.t 129]⟩, ⟨none, none, .loud (.st 1), [.t 130, .c (.bool true)]⟩, ⟨some 131, none, .pure (.nilchk), [.t 125]⟩, ⟨some 132, none, .pure (.fld 6), [.t 131]⟩, ⟨none, none, .loud (.st 1), [.t 132, .t 128]⟩] [4]) (.seq (.ops [⟨some 134, none, .pure (.bin .eql), [.t 51, .c (.int .i64 6)]⟩, ⟨some 133, none, .pure (.mov), [.t 134]⟩] [0, 3, 4, 8, 133]) (.cond (.t 133) (.ops [⟨some 135, none, .pure (.mov), [.t 0]⟩, ⟨some 136, none, .pure (.nilchk), [.t 135]⟩, ⟨some 137, none, .pure (.fld 7), [.t 136]⟩, ⟨none, none, .loud (.st 1), [.t 137, .c (.bool true)]⟩] [4]) (.seq (.ops [⟨some 52, none, .pure (.mov), [.t 0]⟩, ⟨some 53, none, .pure (.mov), [.t 8]⟩, ⟨some 54, none, .pure (.nilchk), [.t 52]⟩, ⟨some 55, none, .pure (.fld 8), [.t 54]⟩, ⟨none, none, .loud (.st 1), [.t 55, .t 53]⟩] [3, 4, 8]) (.seq (.ops [⟨some 56, none, .pure (.mov), [.t 8]⟩, ⟨some 57, none, .pure (.len), [.t 56]⟩, ⟨some 58, none, .pure (.bin .gtr), [.t 57, .c (.int .i64 32)]⟩] [3, 4, 58]) (.cond (.t 58) (.seq (.ops [⟨some 59, none, .pure (.fld 3), [.t 3]⟩, ⟨some 60, none, .load (.ld 1 false), [.t 59]⟩, ⟨some 61, none, .loud (.call 26), [.c (.int .i64 9), .t 60]⟩, ⟨none, none, .loud (.st 3), [.t 4, .t 61]⟩] [4]) (.ret)) (.skip)))))))))))))))))) (.seq (.ops [⟨some 138, none, .pure (.build [(.int .i64 0), (.int .i64 0), .nils] []), []⟩, ⟨none, none, .loud (.st 3), [.t 4, .t 138]⟩] [4]) (.ret))))))
def F28 : Fn Try.prog 28 := Fn.mkX false b28 [.c 4 3 true] 139 Try.f28 _ Try.func28 (by decide) rfl Try.ntmps28 (by kernel_rfl) (by kernel_rfl)
/-- slices.Sort[[]int,int] -/
def b29 : BC := .seq (.ops [⟨some 3, none, .pure (.mov), [.t 0]⟩, ⟨some 4, none, .pure (.len), [.t 3]⟩, ⟨some 2, none, .pure (.mov), [.t 4]⟩] [0, 2]) (.ops [⟨some 5, none, .pure (.mov), [.t 0]⟩, ⟨some 6, none, .pure (.mov), [.t 2]⟩, ⟨some 7, none, .pure (.mov), [.t 2]⟩, ⟨some 8, none, .pure (.conv .u64), [.t 7]⟩, ⟨some 9, none, .loud (.call 52), [.t 8]⟩, ⟨some 10, none, .loud (.call 51), [.t 5, .c (.int .i64 0), .t 6, .t 9]⟩] [])
def F29 : Fn Try.prog 29 := Fn.mkX false b29 [] 11 Try.f29 _ Try.func29 (by decide) rfl Try.ntmps29 (by kernel_rfl) (by kernel_rfl)
/-- signpost/attr.Good -/
def b31 : BC := .seq (.ops [⟨some 2, none, .pure (.mov), [.c (.bool false)]⟩] [0]) (.seq (.ops [⟨some 4, none, .pure (.mov), [.t 0]⟩, ⟨some 5, none, .pure (.bin .shr), [.t 4, .c (.int .u64 24)]⟩, ⟨some 3, none, .pure (.mov), [.t 5]⟩] [3]) (.seq (.ops [⟨some 6, none, .pure (.mov), [.t 3]⟩, ⟨some 7, none, .pure (.bin .neq), [.t 6, .c (.int .u32 0)]⟩, ⟨some 8, none, .pure (.mov), [.t 7]⟩, ⟨some 9, some (8, true), .pure (.mov), [.t 3]⟩, ⟨some 10, some (8, true), .pure (.bin .neq), [.t 9, .c (.int .u32 127)]⟩, ⟨some 11, none, .pick, [.t 8, .t 10, .c (.bool false)]⟩, ⟨some 12, none, .pure (.mov), [.t 11]⟩, ⟨some 13, some (12, true), .pure (.mov), [.t 3]⟩, ⟨some 14, some (12, true), .pure (.bin .lss), [.t 13, .c (.int .u32 224)]⟩, ⟨some 15, none, .pick, [.t 12, .t 14, .c (.bool false)]⟩, ⟨some 2, none, .pure (.mov), [.t 15]⟩] [2]) (.ret)))
def F31 : Fn Try.prog 31 := Fn.mkX false b31 [.t 2] 16 Try.f31 _ Try.func31 (by decide) rfl Try.ntmps31 (by kernel_rfl) (by kernel_rfl)
/-- signpost/signpostref6.Order -/
def b36 : BC := .seq (.ops [⟨some 4, none, .pure (.mov), [.c (.int .i64 0)]⟩] [0, 1]) (.seq (.seq (.ops [⟨some 5, none, .pure (.mov), [.c (.int .i64 0)]⟩] [0, 1, 5]) (.block 0 (.loop [0, 1, 5] (.seq (.seq (.ops [⟨some 7, none, .pure (.mov), [.t 5]⟩, ⟨some 8, none, .pure (.mov), [.t 0]⟩, ⟨some 9, none, .pure (.len), [.t 8]⟩, ⟨some 10, none, .pure (.bin .lss), [.t 7, .t 9]⟩, ⟨some 11, none, .pure (.mov), [.t 10]⟩, ⟨some 12, some (11, true), .pure (.mov), [.t 5]⟩, ⟨some 13, some (11, true), .pure (.mov), [.t 1]⟩, ⟨some 14, some (11, true), .pure (.len), [.t 13]⟩, ⟨some 15, some (11, true), .pure (.bin .lss), [.t 12, .t 14]⟩, ⟨some 16, none, .pick, [.t 11, .t 15, .c (.bool false)]⟩] [0, 1, 5, 16]) (.cond (.t 16) (.skip) (.exit 0))) (.seq (.block 1 (.seq (.seq (.ops [⟨some 19, none, .pure (.mov), [.t 0]⟩, ⟨some 20, none, .pure (.mov), [.t 5]⟩, ⟨some 21, none, .pure (.idx 2), [.t 19, .t 20]⟩, ⟨some 22, none, .pure (.fld 0), [.t 21]⟩, ⟨some 24, none, .pure (.mov), [.t 1]⟩, ⟨some 25, none, .pure (.mov), [.t 5]⟩, ⟨some 26, none, .pure (.idx 2), [.t 24, .t 25]⟩, ⟨some 27, none, .pure (.fld 0), [.t 26]⟩, ⟨some 23, none, .load (.ld 1 false), [.t 22]⟩, ⟨some 28, none, .load (.ld 1 false), [.t 27]⟩, ⟨some 29, none, .pure (.bin .neq), [.t 23, .t 28]⟩] [0, 1, 5, 29]) (.cond (.t 29) (.seq (.ops [⟨some 30, none, .pure (.mov), [.t 0]⟩, ⟨some 31, none, .pure (.mov), [.t 5]⟩, ⟨some 32, none, .pure (.idx 2), [.t 30, .t 31]⟩, ⟨some 33, none, .pure (.fld 0), [.t 32]⟩, ⟨some 35, none, .pure (.mov), [.t 1]⟩, ⟨some 36, none, .pure (.mov), [.t 5]⟩, ⟨some 37, none, .pure (.idx 2), [.t 35, .t 36]⟩, ⟨some 38, none, .pure (.fld 0), [.t 37]⟩, ⟨some 34, none, .load (.ld 1 false), [.t 33]⟩, ⟨some 39, none, .load (.ld 1 false), [.t 38]⟩, ⟨some 40, none, .pure (.bin .lss), [.t 34, .t 39]⟩, ⟨some 41, none, .loud (.call 63), [.t 40]⟩, ⟨some 4, none, .pure (.mov), [.t 41]⟩] [4]) (.ret)) (.skip))) (.seq (.seq (.ops [⟨some 42, none, .pure (.mov), [.t 0]⟩, ⟨some 43, none, .pure (.mov), [.t 5]⟩, ⟨some 44, none, .pure (.idx 2), [.t 42, .t 43]⟩, ⟨some 45, none, .pure (.fld 1), [.t 44]⟩, ⟨some 48, none, .pure (.mov), [.t 1]⟩, ⟨some 49, none, .pure (.mov), [.t 5]⟩, ⟨some 50, none, .pure (.idx 2), [.t 48, .t 49]⟩, ⟨some 51, none, .pure (.fld 1), [.t 50]⟩, ⟨some 46, none, .load (.ld 1 false), [.t 45]⟩, ⟨some 47, none, .pure (.len), [.t 46]⟩, ⟨some 52, none, .load (.ld 1 false), [.t 51]⟩, ⟨some 53, none, .pure (.len), [.t 52]⟩, ⟨some 54, none, .pure (.bin .neq), [.t 47, .t 53]⟩] [0, 1, 5, 54]) (.cond (.t 54) (.seq (.ops [⟨some 55, none, .pure (.mov), [.t 0]⟩, ⟨some 56, none, .pure (.mov), [.t 5]⟩, ⟨some 57, none, .pure (.idx 2), [.t 55, .t 56]⟩, ⟨some 58, none, .pure (.fld 1), [.t 57]⟩, ⟨some 61, none, .pure (.mov), [.t 1]⟩, ⟨some 62, none, .pure (.mov), [.t 5]⟩, ⟨some 63, none, .pure (.idx 2), [.t 61, .t 62]⟩, ⟨some 64, none, .pure (.fld 1), [.t 63]⟩, ⟨some 59, none, .load (.ld 1 false), [.t 58]⟩, ⟨some 60, none, .pure (.len), [.t 59]⟩, ⟨some 65, none, .load (.ld 1 false), [.t 64]⟩, ⟨some 66, none, .pure (.len), [.t 65]⟩, ⟨some 67, none, .pure (.bin .lss), [.t 60, .t 66]⟩, ⟨some 68, none, .loud (.call 63), [.t 67]⟩, ⟨some 4, none, .pure (.mov), [.t 68]⟩] [4]) (.ret)) (.skip))) (.seq (.ops [⟨some 6, none, .pure (.mov), [.c (.int .i64 0)]⟩] [0, 1, 5, 6]) (.block 2 (.loop [0, 1, 5, 6] (.seq (.seq (.ops [⟨some 69, none, .pure (.mov), [.t 6]⟩, ⟨some 70, none, .pure (.mov), [.t 0]⟩, ⟨some 71, none, .pure (.mov), [.t 5]⟩, ⟨some 72, none, .pure (.idx 2), [.t 70, .t 71]⟩, ⟨some 73, none, .pure (.fld 1), [.t 72]⟩, ⟨some 74, none, .load (.ld 1 false), [.t 73]⟩, ⟨some 75, none, .pure (.len), [.t 74]⟩, ⟨some 76, none, .pure (.bin .lss), [.t 69, .t 75]⟩] [0, 1, 5, 6, 76]) (.cond (.t 76) (.skip) (.exit 2))) (.seq (.block 3 (.seq (.ops [⟨some 79, none, .pure (.mov), [.t 0]⟩, ⟨some 80, none, .pure (.mov), [.t 5]⟩, ⟨some 81, none, .pure (.idx 2), [.t 79, .t 80]⟩, ⟨some 82, none, .pure (.fld 1), [.t 81]⟩, ⟨some 84, none, .pure (.mov), [.t 6]⟩, ⟨some 87, none, .pure (.mov), [.t 1]⟩, ⟨some 88, none, .pure (.mov), [.t 5]⟩, ⟨some 89, none, .pure (.idx 2), [.t 87, .t 88]⟩, ⟨some 90, none, .pure (.fld 1), [.t 89]⟩, ⟨some 92, none, .pure (.mov), [.t 6]⟩, ⟨some 83, none, .load (.ld 1 false), [.t 82]⟩, ⟨some 85, none, .pure (.idx 1), [.t 83, .t 84]⟩, ⟨some 86, none, .load (.ld 1 false), [.t 85]⟩, ⟨some 91, none, .load (.ld 1 false), [.t 90]⟩, ⟨some 93, none, .pure (.idx 1), [.t 91, .t 92]⟩, ⟨some 94, none, .load (.ld 1 false), [.t 93]⟩, ⟨some 95, none, .pure (.bin .neq), [.t 86, .t 94]⟩] [0, 1, 5, 6, 95]) (.cond (.t 95) (.seq (.ops [⟨some 96, none, .pure (.mov), [.t 0]⟩, ⟨some 97, none, .pure (.mov), [.t 5]⟩, ⟨some 98, none, .pure (.idx 2), [.t 96, .t 97]⟩, ⟨some 99, none, .pure (.fld 1), [.t 98]⟩, ⟨some 101, none, .pure (.mov), [.t 6]⟩, ⟨some 104, none, .pure (.mov), [.t 1]⟩, ⟨some 105, none, .pure (.mov), [.t 5]⟩, ⟨some 106, none, .pure (.idx 2), [.t 104, .t 105]⟩, ⟨some 107, none, .pure (.fld 1), [.t 106]⟩, ⟨some 109, none, .pure (.mov), [.t 6]⟩, ⟨some 100, none, .load (.ld 1 false), [.t 99]⟩, ⟨some 102, none, .pure (.idx 1), [.t 100, .t 101]⟩, ⟨some 103, none, .load (.ld 1 false), [.t 102]⟩, ⟨some 108, none, .load (.ld 1 false), [.t 107]⟩, ⟨some 110, none, .pure (.idx 1), [.t 108, .t 109]⟩, ⟨some 111, none, .load (.ld 1 false), [.t 110]⟩, ⟨some 112, none, .pure (.bin .lss), [.t 103, .t 111]⟩, ⟨some 113, none, .loud (.call 63), [.t 112]⟩, ⟨some 4, none, .pure (.mov), [.t 113]⟩] [4]) (.ret)) (.skip)))) (.ops [⟨some 77, none, .pure (.mov), [.t 6]⟩, ⟨some 78, none, .pure (.bin .add), [.t 77, .c (.int .i64 1)]⟩, ⟨some 6, none, .pure (.mov), [.t 78]⟩] [0, 1, 5, 6]))))))))) (.ops [⟨some 17, none, .pure (.mov), [.t 5]⟩, ⟨some 18, none, .pure (.bin .add), [.t 17, .c (.int .i64 1)]⟩, ⟨some 5, none, .pure (.mov), [.t 18]⟩] [0, 1, 5])))))) (.seq (.seq (.ops [⟨some 114, none, .pure (.mov), [.t 0]⟩, ⟨some 115, none, .pure (.len), [.t 114]⟩, ⟨some 116, none, .pure (.mov), [.t 1]⟩, ⟨some 117, none, .pure (.len), [.t 116]⟩, ⟨some 118, none, .pure (.bin .neq), [.t 115, .t 117]⟩] [0, 1, 118]) (.cond (.t 118) (.seq (.ops [⟨some 119, none, .pure (.mov), [.t 0]⟩, ⟨some 120, none, .pure (.len), [.t 119]⟩, ⟨some 121, none, .pure (.mov), [.t 1]⟩, ⟨some 122, none, .pure (.len), [.t 121]⟩, ⟨some 123, none, .pure (.bin .lss), [.t 120, .t 122]⟩, ⟨some 124, none, .loud (.call 63), [.t 123]⟩, ⟨some 4, none, .pure (.mov), [.t 124]⟩] [4]) (.ret)) (.skip))) (.seq (.ops [⟨some 4, none, .pure (.mov), [.c (.int .i64 0)]⟩] [4]) (.ret))))
def F36 : Fn Try.prog 36 := Fn.mkX false b36 [.t 4] 125 Try.f36 _ Try.func36 (by decide) rfl Try.ntmps36 (by kernel_rfl) (by kernel_rfl)
/-- signpost/signpostbook.Same[uint32] -/
def b37 : BC := .seq (.ops [⟨some 4, none, .pure (.mov), [.c (.bool false)]⟩] [0, 1]) (.seq (.seq (.ops [⟨some 6, none, .pure (.mov), [.t 0]⟩, ⟨some 7, none, .pure (.len), [.t 6]⟩, ⟨some 8, none, .pure (.mov), [.t 1]⟩, ⟨some 9, none, .pure (.len), [.t 8]⟩, ⟨some 10, none, .pure (.bin .neq), [.t 7, .t 9]⟩] [0, 1, 10]) (.cond (.t 10) (.seq (.ops [⟨some 4, none, .pure (.mov), [.c (.bool false)]⟩] [4]) (.ret)) (.skip))) (.seq (.seq (.ops [⟨some 5, none, .pure (.mov), [.c (.int .i64 0)]⟩] [0, 1, 5]) (.block 0 (.loop [0, 1, 5] (.seq (.seq (.ops [⟨some 11, none, .pure (.mov), [.t 5]⟩, ⟨some 12, none, .pure (.mov), [.t 0]⟩, ⟨some 13, none, .pure (.len), [.t 12]⟩, ⟨some 14, none, .pure (.bin .lss), [.t 11, .t 13]⟩] [0, 1, 5, 14]) (.cond (.t 14) (.skip) (.exit 0))) (.seq (.block 1 (.seq (.ops [⟨some 17, none, .pure (.mov), [.t 0]⟩, ⟨some 18, none, .pure (.mov), [.t 5]⟩, ⟨some 19, none, .pure (.idx 1), [.t 17, .t 18]⟩, ⟨some 21, none, .pure (.mov), [.t 1]⟩, ⟨some 22, none, .pure (.mov), [.t 5]⟩, ⟨some 23, none, .pure (.idx 1), [.t 21, .t 22]⟩, ⟨some 20, none, .load (.ld 1 false), [.t 19]⟩, ⟨some 24, none, .load (.ld 1 false), [.t 23]⟩, ⟨some 25, none, .pure (.bin .neq), [.t 20, .t 24]⟩] [0, 1, 5, 25]) (.cond (.t 25) (.seq (.ops [⟨some 4, none, .pure (.mov), [.c (.bool false)]⟩] [4]) (.ret)) (.skip)))) (.ops [⟨some 15, none, .pure (.mov), [.t 5]⟩, ⟨some 16, none, .pure (.bin .add), [.t 15, .c (.int .i64 1)]⟩, ⟨some 5, none, .pure (.mov), [.t 16]⟩] [0, 1, 5])))))) (.seq (.ops [⟨some 4, none, .pure (.mov), [.c (.bool true)]⟩] [4]) (.ret))))
def F37 : Fn Try.prog 37 := Fn.mkX false b37 [.t 4] 26 Try.f37 _ Try.func37 (by decide) rfl Try.ntmps37 (by kernel_rfl) (by kernel_rfl)
/-- signpost/wire.NewReader -/
def b41 : BC := .seq (.ops [⟨some 2, none, .pure (.mov), [.c .nil]⟩] [0]) (.seq (.ops [⟨some 3, none, .pure (.mov), [.t 0]⟩, ⟨some 4, none, .loud (.call 47), [.t 3]⟩, ⟨some 5, none, .pure (.build [.nils, (.bool false)] [(0, 1)]), [.t 4]⟩, ⟨some 6, none, .alloc (.box), [.t 5]⟩, ⟨some 2, none, .pure (.mov), [.t 6]⟩] [2]) (.ret))
def F41 : Fn Try.prog 41 := Fn.mkX false b41 [.t 2] 7 Try.f41 _ Try.func41 (by decide) rfl Try.ntmps41 (by kernel_rfl) (by kernel_rfl)
/-- (*signpost/wire.Reader).U8 -/
def b42 : BC := .seq (.ops [⟨some 2, none, .pure (.mov), [.c (.int .i64 0)]⟩] [0]) (.seq (.ops [⟨some 3, none, .pure (.mov), [.t 0]⟩, ⟨some 4, none, .loud (.call 64), [.t 3, .c (.int .i64 1)]⟩, ⟨some 5, none, .pure (.conv .i64), [.t 4]⟩, ⟨some 2, none, .pure (.mov), [.t 5]⟩] [2]) (.ret))
def F42 : Fn Try.prog 42 := Fn.mkX false b42 [.t 2] 6 Try.f42 _ Try.func42 (by decide) rfl Try.ntmps42 (by kernel_rfl) (by kernel_rfl)
/-- (*signpost/wire.Reader).U16 -/
def b43 : BC := .seq (.ops [⟨some 2, none, .pure (.mov), [.c (.int .i64 0)]⟩] [0]) (.seq (.ops [⟨some 3, none, .pure (.mov), [.t 0]⟩, ⟨some 4, none, .loud (.call 64), [.t 3, .c (.int .i64 2)]⟩, ⟨some 5, none, .pure (.conv .i64), [.t 4]⟩, ⟨some 2, none, .pure (.mov), [.t 5]⟩] [2]) (.ret))
def F43 : Fn Try.prog 43 := Fn.mkX false b43 [.t 2] 6 Try.f43 _ Try.func43 (by decide) rfl Try.ntmps43 (by kernel_rfl) (by kernel_rfl)
/-- (*signpost/wire.Reader).Raw -/
def b44 : BC := .seq (.ops [⟨some 4, none, .pure (.mov), [.c .nils]⟩] [0, 1]) (.seq (.ops [⟨some 6, none, .pure (.mov), [.t 0]⟩, ⟨some 7, none, .pure (.mov), [.t 0]⟩, ⟨some 8, none, .pure (.nilchk), [.t 7]⟩, ⟨some 9, none, .pure (.fld 1), [.t 8]⟩, ⟨some 10, none, .load (.ld 1 false), [.t 9]⟩, ⟨some 11, none, .pure (.mov), [.t 10]⟩, ⟨some 12, some (11, false), .pure (.mov), [.t 1]⟩, ⟨some 13, some (11, false), .pure (.mov), [.t 0]⟩, ⟨some 14, some (11, false), .pure (.nilchk), [.t 13]⟩, ⟨some 15, some (11, false), .pure (.fld 0), [.t 14]⟩, ⟨some 16, some (11, false), .load (.ld 1 false), [.t 15]⟩, ⟨some 17, some (11, false), .pure (.len), [.t 16]⟩, ⟨some 18, some (11, false), .pure (.bin .gtr), [.t 12, .t 17]⟩, ⟨some 19, none, .pick, [.t 11, .c (.bool true), .t 18]⟩, ⟨some 20, none, .pure (.nilchk), [.t 6]⟩, ⟨some 21, none, .pure (.fld 1), [.t 20]⟩, ⟨none, none, .loud (.st 1), [.t 21, .t 19]⟩] [0, 1]) (.seq (.seq (.ops [⟨some 22, none, .pure (.mov), [.t 0]⟩, ⟨some 23, none, .pure (.nilchk), [.t 22]⟩, ⟨some 24, none, .pure (.fld 1), [.t 23]⟩, ⟨some 25, none, .load (.ld 1 false), [.t 24]⟩, ⟨some 26, none, .pure (.mov), [.t 25]⟩, ⟨some 27, some (26, false), .pure (.mov), [.t 1]⟩, ⟨some 28, some (26, false), .pure (.bin .lss), [.t 27, .c (.int .i64 1)]⟩, ⟨some 29, none, .pick, [.t 26, .c (.bool true), .t 28]⟩] [0, 1, 29]) (.cond (.t 29) (.seq (.ops [⟨some 4, none, .pure (.mov), [.c .nils]⟩] [4]) (.ret)) (.skip))) (.seq (.ops [⟨some 30, none, .pure (.mov), [.t 0]⟩, ⟨some 31, none, .pure (.nilchk), [.t 30]⟩, ⟨some 32, none, .pure (.fld 0), [.t 31]⟩, ⟨some 33, none, .load (.ld 1 false), [.t 32]⟩, ⟨some 34, none, .pure (.mov), [.t 1]⟩, ⟨some 35, none, .pure (.slice 1 false true), [.t 33, .t 34]⟩, ⟨some 36, none, .loud (.call 47), [.t 35]⟩, ⟨some 5, none, .pure (.mov), [.t 36]⟩] [0, 1, 5]) (.seq (.ops [⟨some 37, none, .pure (.mov), [.t 0]⟩, ⟨some 38, none, .pure (.mov), [.t 0]⟩, ⟨some 39, none, .pure (.nilchk), [.t 38]⟩, ⟨some 40, none, .pure (.fld 0), [.t 39]⟩, ⟨some 41, none, .load (.ld 1 false), [.t 40]⟩, ⟨some 42, none, .pure (.mov), [.t 1]⟩, ⟨some 43, none, .pure (.slice 1 true false), [.t 41, .t 42]⟩, ⟨some 44, none, .pure (.nilchk), [.t 37]⟩, ⟨some 45, none, .pure (.fld 0), [.t 44]⟩, ⟨none, none, .loud (.st 1), [.t 45, .t 43]⟩] [5]) (.seq (.ops [⟨some 46, none, .pure (.mov), [.t 5]⟩, ⟨some 4, none, .pure (.mov), [.t 46]⟩] [4]) (.ret))))))
def F44 : Fn Try.prog 44 := Fn.mkX false b44 [.t 4] 47 Try.f44 _ Try.func44 (by decide) rfl Try.ntmps44 (by kernel_rfl) (by kernel_rfl)
/-- (*signpost/wire.Reader).Fine -/
def b45 : BC := .seq (.ops [⟨some 2, none, .pure (.mov), [.c (.bool false)]⟩] [0]) (.seq (.ops [⟨some 3, none, .pure (.mov), [.t 0]⟩, ⟨some 4, none, .pure (.nilchk), [.t 3]⟩, ⟨some 5, none, .pure (.fld 1), [.t 4]⟩, ⟨some 6, none, .load (.ld 1 false), [.t 5]⟩, ⟨some 7, none, .pure (.not), [.t 6]⟩, ⟨some 2, none, .pure (.mov), [.t 7]⟩] [2]) (.ret))
def F45 : Fn Try.prog 45 := Fn.mkX false b45 [.t 2] 8 Try.f45 _ Try.func45 (by decide) rfl Try.ntmps45 (by kernel_rfl) (by kernel_rfl)
/-- (*signpost/wire.Reader).Left -/
def b46 : BC := .seq (.ops [⟨some 2, none, .pure (.mov), [.c (.int .i64 0)]⟩] [0]) (.seq (.seq (.ops [⟨some 3, none, .pure (.mov), [.t 0]⟩, ⟨some 4, none, .pure (.nilchk), [.t 3]⟩, ⟨some 5, none, .pure (.fld 1), [.t 4]⟩, ⟨some 6, none, .load (.ld 1 false), [.t 5]⟩] [0, 6]) (.cond (.t 6) (.seq (.ops [⟨some 2, none, .pure (.mov), [.c (.int .i64 0)]⟩] [2]) (.ret)) (.skip))) (.seq (.ops [⟨some 7, none, .pure (.mov), [.t 0]⟩, ⟨some 8, none, .pure (.nilchk), [.t 7]⟩, ⟨some 9, none, .pure (.fld 0), [.t 8]⟩, ⟨some 10, none, .load (.ld 1 false), [.t 9]⟩, ⟨some 11, none, .pure (.len), [.t 10]⟩, ⟨some 2, none, .pure (.mov), [.t 11]⟩] [2]) (.ret)))
def F46 : Fn Try.prog 46 := Fn.mkX false b46 [.t 2] 12 Try.f46 _ Try.func46 (by decide) rfl Try.ntmps46 (by kernel_rfl) (by kernel_rfl)
/-- slices.Clone[[]byte,byte] -/
def b47 : BC := .seq (.ops [⟨some 2, none, .pure (.mov), [.c .nils]⟩] [0]) (.seq (.seq (.ops [⟨some 3, none, .pure (.mov), [.t 0]⟩, ⟨some 4, none, .loud (.nilq false), [.t 3]⟩] [0, 4]) (.cond (.t 4) (.seq (.ops [⟨some 2, none, .pure (.mov), [.c .nils]⟩] [2]) (.ret)) (.skip))) (.seq (.ops [⟨some 5, none, .alloc (.mksl 1 0), []⟩, ⟨some 6, none, .pure (.mov), [.t 0]⟩, ⟨some 7, none, .loud (.app 1 1), [.t 5, .t 6]⟩, ⟨some 2, none, .pure (.mov), [.t 7]⟩] [2]) (.ret)))
def F47 : Fn Try.prog 47 := Fn.mkX false b47 [.t 2] 8 Try.f47 _ Try.func47 (by decide) rfl Try.ntmps47 (by kernel_rfl) (by kernel_rfl)
/-- signpost/attr.fits -/
def b48 : BC := .seq (.ops [⟨some 4, none, .pure (.mov), [.c (.bool false)]⟩] [0, 1]) (.seq (.seq (.ops [⟨some 5, none, .pure (.mov), [.t 0]⟩, ⟨some 6, none, .pure (.bin .lss), [.t 5, .c (.int .i64 0)]⟩] [0, 1, 6]) (.cond (.t 6) (.seq (.ops [⟨some 7, none, .pure (.mov), [.t 1]⟩, ⟨some 8, none, .pure (.mov), [.t 0]⟩, ⟨some 9, none, .pure (.neg), [.t 8]⟩, ⟨some 10, none, .pure (.bin .rem), [.t 7, .t 9]⟩, ⟨some 11, none, .pure (.bin .eql), [.t 10, .c (.int .i64 0)]⟩, ⟨some 4, none, .pure (.mov), [.t 11]⟩] [4]) (.ret)) (.skip))) (.seq (.ops [⟨some 12, none, .pure (.mov), [.t 1]⟩, ⟨some 13, none, .pure (.mov), [.t 0]⟩, ⟨some 14, none, .pure (.bin .eql), [.t 12, .t 13]⟩, ⟨some 4, none, .pure (.mov), [.t 14]⟩] [4]) (.ret)))
def F48 : Fn Try.prog 48 := Fn.mkX false b48 [.t 4] 15 Try.f48 _ Try.func48 (by decide) rfl Try.ntmps48 (by kernel_rfl) (by kernel_rfl)
/-- signpost/attr.list -/
def b49 : BC := .seq (.ops [⟨some 2, none, .pure (.mov), [.c .nils]⟩] [0]) (.seq (.ops [⟨some 5, none, .pure (.mov), [.t 0]⟩, ⟨some 6, none, .loud (.call 41), [.t 5]⟩, ⟨some 3, none, .pure (.mov), [.t 6]⟩] [3]) (.seq (.ops [⟨some 4, none, .pure (.mov), [.c .nils]⟩] [3, 4]) (.seq (.block 0 (.loop [3, 4] (.seq (.seq (.ops [⟨some 7, none, .pure (.mov), [.t 3]⟩, ⟨some 8, none, .loud (.call 46), [.t 7]⟩, ⟨some 9, none, .pure (.bin .gtr), [.t 8, .c (.int .i64 0)]⟩] [3, 4, 9]) (.cond (.t 9) (.skip) (.exit 0))) (.block 1 (.ops [⟨some 10, none, .pure (.mov), [.t 4]⟩, ⟨some 11, none, .pure (.mov), [.t 3]⟩, ⟨some 12, none, .loud (.call 65), [.t 11]⟩, ⟨some 13, none, .alloc (.mksl 1 1), [.t 12]⟩, ⟨some 14, none, .loud (.app 1 4), [.t 10, .t 13]⟩, ⟨some 4, none, .pure (.mov), [.t 14]⟩] [3, 4]))))) (.seq (.ops [⟨some 15, none, .pure (.mov), [.t 4]⟩, ⟨some 2, none, .pure (.mov), [.t 15]⟩] [2]) (.ret)))))
def F49 : Fn Try.prog 49 := Fn.mkX false b49 [.t 2] 16 Try.f49 _ Try.func49 (by decide) rfl Try.ntmps49 (by kernel_rfl) (by kernel_rfl)
/-- signpost/aspath.Decode -/
def b50 : BC := .seq (.ops [⟨some 2, none, .pure (.mov), [.c .nils]⟩, ⟨some 3, none, .pure (.mov), [.c (.bool false)]⟩] [0]) (.seq (.ops [⟨some 8, none, .pure (.mov), [.t 0]⟩, ⟨some 9, none, .loud (.call 41), [.t 8]⟩, ⟨some 4, none, .pure (.mov), [.t 9]⟩] [4]) (.seq (.ops [⟨some 5, none, .pure (.mov), [.c .nils]⟩] [4, 5]) (.seq (.block 0 (.loop [4, 5] (.seq (.seq (.ops [⟨some 10, none, .pure (.mov), [.t 4]⟩, ⟨some 11, none, .loud (.call 46), [.t 10]⟩, ⟨some 12, none, .pure (.bin .gtr), [.t 11, .c (.int .i64 0)]⟩] [4, 5, 12]) (.cond (.t 12) (.skip) (.exit 0))) (.block 1 (.seq (.ops [⟨some 13, none, .pure (.mov), [.t 4]⟩, ⟨some 14, none, .loud (.call 42), [.t 13]⟩, ⟨some 15, none, .pure (.build [(.int .i64 0), .nils] [(0, 1)]), [.t 14]⟩, ⟨some 6, none, .alloc (.alloc [(.int .i64 0), .nils]), []⟩, ⟨none, none, .loud (.st 2), [.t 6, .t 15]⟩] [4, 5, 6]) (.seq (.ops [⟨some 16, none, .pure (.mov), [.t 4]⟩, ⟨some 17, none, .loud (.call 42), [.t 16]⟩, ⟨some 7, none, .pure (.mov), [.t 17]⟩] [4, 5, 6, 7]) (.seq (.seq (.ops [⟨some 18, none, .pure (.mov), [.t 7]⟩, ⟨some 19, none, .pure (.bin .mul), [.t 18, .c (.int .i64 4)]⟩, ⟨some 20, none, .pure (.mov), [.t 4]⟩, ⟨some 21, none, .loud (.call 46), [.t 20]⟩, ⟨some 22, none, .pure (.bin .gtr), [.t 19, .t 21]⟩] [4, 5, 6, 7, 22]) (.cond (.t 22) (.seq (.ops [⟨some 2, none, .pure (.mov), [.c .nils]⟩, ⟨some 3, none, .pure (.mov), [.c (.bool false)]⟩] [2, 3]) (.ret)) (.skip))) (.seq (.seq (.ops [⟨some 23, none, .pure (.mov), [.t 7]⟩, ⟨some 24, none, .pure (.mov), [.c (.int .i64 0)]⟩] [4, 5, 6, 23, 24]) (.block 2 (.loop [4, 5, 6, 23, 24] (.seq (.ops [⟨some 25, none, .pure (.bin .lss), [.t 24, .t 23]⟩] [4, 5, 6, 23, 24, 25]) (.seq (.cond (.t 25) (.skip) (.exit 2)) (.seq (.block 3 (.ops [⟨some 26, none, .pure (.fld 1), [.t 6]⟩, ⟨some 28, none, .pure (.mov), [.t 4]⟩, ⟨some 27, none, .load (.ld 1 false), [.t 26]⟩, ⟨some 29, none, .qcall 65, [.t 28]⟩, ⟨some 30, none, .alloc (.mksl 1 1), [.t 29]⟩, ⟨some 31, none, .loud (.app 1 4), [.t 27, .t 30]⟩, ⟨some 32, none, .pure (.fld 1), [.t 6]⟩, ⟨none, none, .loud (.st 1), [.t 32, .t 31]⟩] [4, 5, 6, 23, 24])) (.ops [⟨some 33, none, .pure (.bin .add), [.t 24, .c (.int .i64 1)]⟩, ⟨some 24, none, .pure (.mov), [.t 33]⟩] [4, 5, 6, 23, 24]))))))) (.ops [⟨some 34, none, .pure (.mov), [.t 5]⟩, ⟨some 35, none, .load (.ld 2 true), [.t 6]⟩, ⟨some 36, none, .alloc (.mksl 2 1), [.t 35]⟩, ⟨some 37, none, .loud (.app 2 32), [.t 34, .t 36]⟩, ⟨some 5, none, .pure (.mov), [.t 37]⟩] [4, 5]))))))))) (.seq (.seq (.ops [⟨some 38, none, .pure (.mov), [.t 4]⟩, ⟨some 39, none, .loud (.call 45), [.t 38]⟩, ⟨some 40, none, .pure (.not), [.t 39]⟩, ⟨some 41, none, .pure (.mov), [.t 40]⟩, ⟨some 42, some (41, false), .pure (.mov), [.t 5]⟩, ⟨some 43, some (41, false), .loud (.call 66), [.t 42]⟩, ⟨some 44, some (41, false), .pure (.not), [.t 43]⟩, ⟨some 45, none, .pick, [.t 41, .c (.bool true), .t 44]⟩] [5, 45]) (.cond (.t 45) (.seq (.ops [⟨some 2, none, .pure (.mov), [.c .nils]⟩, ⟨some 3, none, .pure (.mov), [.c (.bool false)]⟩] [2, 3]) (.ret)) (.skip))) (.seq (.ops [⟨some 46, none, .pure (.mov), [.t 5]⟩, ⟨some 2, none, .pure (.mov), [.t 46]⟩, ⟨some 3, none, .pure (.mov), [.c (.bool true)]⟩] [2, 3]) (.ret))))))
def F50 : Fn Try.prog 50 := Fn.mkX false b50 [.t 2, .t 3] 47 Try.f50 _ Try.func50 (by decide) rfl Try.ntmps50 (by kernel_rfl) (by kernel_rfl)
/-- slices.pdqsortOrdered[int] -/
def b51 : BC := .seq (.ops [⟨some 8, none, .pure (.mov), [.c (.bool true)]⟩] [0, 1, 2, 3, 8]) (.seq (.ops [⟨some 9, none, .pure (.mov), [.c (.bool true)]⟩] [0, 1, 2, 3, 8, 9]) (.block 0 (.loop [0, 1, 2, 3, 8, 9] (.block 1 (.seq (.ops [⟨some 19, none, .pure (.mov), [.t 2]⟩, ⟨some 20, none, .pure (.mov), [.t 1]⟩, ⟨some 21, none, .pure (.bin .sub), [.t 19, .t 20]⟩, ⟨some 10, none, .pure (.mov), [.t 21]⟩] [0, 1, 2, 3, 8, 9, 10]) (.seq (.seq (.ops [⟨some 22, none, .pure (.mov), [.t 10]⟩, ⟨some 23, none, .pure (.bin .leq), [.t 22, .c (.int .i64 12)]⟩] [0, 1, 2, 3, 8, 9, 10, 23]) (.cond (.t 23) (.seq (.ops [⟨some 24, none, .pure (.mov), [.t 0]⟩, ⟨some 25, none, .pure (.mov), [.t 1]⟩, ⟨some 26, none, .pure (.mov), [.t 2]⟩, ⟨some 27, none, .loud (.call 67), [.t 24, .t 25, .t 26]⟩] []) (.ret)) (.skip))) (.seq (.seq (.ops [⟨some 28, none, .pure (.mov), [.t 3]⟩, ⟨some 29, none, .pure (.bin .eql), [.t 28, .c (.int .i64 0)]⟩] [0, 1, 2, 3, 8, 9, 10, 29]) (.cond (.t 29) (.seq (.ops [⟨some 30, none, .pure (.mov), [.t 0]⟩, ⟨some 31, none, .pure (.mov), [.t 1]⟩, ⟨some 32, none, .pure (.mov), [.t 2]⟩, ⟨some 33, none, .loud (.call 68), [.t 30, .t 31, .t 32]⟩] []) (.ret)) (.skip))) (.seq (.seq (.ops [⟨some 34, none, .pure (.mov), [.t 8]⟩, ⟨some 35, none, .pure (.not), [.t 34]⟩] [0, 1, 2, 3, 8, 9, 10, 35]) (.cond (.t 35) (.seq (.ops [⟨some 36, none, .pure (.mov), [.t 0]⟩, ⟨some 37, none, .pure (.mov), [.t 1]⟩, ⟨some 38, none, .pure (.mov), [.t 2]⟩, ⟨some 39, none, .loud (.call 69), [.t 36, .t 37, .t 38]⟩] [0, 1, 2, 3, 8, 9, 10]) (.ops [⟨some 40, none, .pure (.mov), [.t 3]⟩, ⟨some 41, none, .pure (.bin .sub), [.t 40, .c (.int .i64 1)]⟩, ⟨some 3, none, .pure (.mov), [.t 41]⟩] [0, 1, 2, 3, 8, 9, 10])) (.skip))) (.seq (.ops [⟨some 43, none, .pure (.mov), [.t 0]⟩, ⟨some 44, none, .pure (.mov), [.t 1]⟩, ⟨some 45, none, .pure (.mov), [.t 2]⟩, ⟨some 46, none, .loud (.call 70), [.t 43, .t 44, .t 45]⟩, ⟨some 42, none, .pure (.mov), [.t 46]⟩, ⟨some 47, none, .pure (.ext 0), [.t 42]⟩, ⟨some 48, none, .pure (.ext 1), [.t 42]⟩, ⟨some 11, none, .pure (.mov), [.t 47]⟩, ⟨some 12, none, .pure (.mov), [.t 48]⟩] [0, 1, 2, 3, 8, 9, 10, 11, 12]) (.seq (.seq (.ops [⟨some 49, none, .pure (.mov), [.t 12]⟩, ⟨some 50, none, .pure (.bin .eql), [.t 49, .c (.int .i64 2)]⟩] [0, 1, 2, 3, 8, 9, 10, 11, 12, 50]) (.cond (.t 50) (.seq (.ops [⟨some 51, none, .pure (.mov), [.t 0]⟩, ⟨some 52, none, .pure (.mov), [.t 1]⟩, ⟨some 53, none, .pure (.mov), [.t 2]⟩, ⟨some 54, none, .loud (.call 71), [.t 51, .t 52, .t 53]⟩] [0, 1, 2, 3, 8, 9, 10, 11]) (.seq (.ops [⟨some 55, none, .pure (.mov), [.t 2]⟩, ⟨some 56, none, .pure (.bin .sub), [.t 55, .c (.int .i64 1)]⟩, ⟨some 57, none, .pure (.mov), [.t 11]⟩, ⟨some 58, none, .pure (.mov), [.t 1]⟩, ⟨some 59, none, .pure (.bin .sub), [.t 57, .t 58]⟩, ⟨some 60, none, .pure (.bin .sub), [.t 56, .t 59]⟩, ⟨some 11, none, .pure (.mov), [.t 60]⟩] [0, 1, 2, 3, 8, 9, 10, 11]) (.ops [⟨some 12, none, .pure (.mov), [.c (.int .i64 1)]⟩] [0, 1, 2, 3, 8, 9, 10, 11, 12]))) (.skip))) (.seq (.seq (.ops [⟨some 61, none, .pure (.mov), [.t 8]⟩, ⟨some 62, none, .pure (.mov), [.t 61]⟩, ⟨some 63, some (62, true), .pure (.mov), [.t 9]⟩, ⟨some 64, none, .pick, [.t 62, .t 63, .c (.bool false)]⟩, ⟨some 65, none, .pure (.mov), [.t 64]⟩, ⟨some 66, some (65, true), .pure (.mov), [.t 12]⟩, ⟨some 67, some (65, true), .pure (.bin .eql), [.t 66, .c (.int .i64 1)]⟩, ⟨some 68, none, .pick, [.t 65, .t 67, .c (.bool false)]⟩] [0, 1, 2, 3, 8, 9, 10, 11, 68]) (.cond (.t 68) (.seq (.ops [⟨some 69, none, .pure (.mov), [.t 0]⟩, ⟨some 70, none, .pure (.mov), [.t 1]⟩, ⟨some 71, none, .pure (.mov), [.t 2]⟩, ⟨some 72, none, .loud (.call 72), [.t 69, .t 70, .t 71]⟩] [0, 1, 2, 3, 8, 9, 10, 11, 72]) (.cond (.t 72) (.ret) (.skip))) (.skip))) (.seq (.seq (.ops [⟨some 73, none, .pure (.mov), [.t 1]⟩, ⟨some 74, none, .pure (.bin .gtr), [.t 73, .c (.int .i64 0)]⟩, ⟨some 75, none, .pure (.mov), [.t 74]⟩, ⟨some 76, some (75, true), .pure (.mov), [.t 0]⟩, ⟨some 77, some (75, true), .pure (.mov), [.t 1]⟩, ⟨some 78, some (75, true), .pure (.bin .sub), [.t 77, .c (.int .i64 1)]⟩, ⟨some 79, some (75, true), .pure (.idx 1), [.t 76, .t 78]⟩, ⟨some 81, some (75, true), .pure (.mov), [.t 0]⟩, ⟨some 82, some (75, true), .pure (.mov), [.t 11]⟩, ⟨some 83, some (75, true), .pure (.idx 1), [.t 81, .t 82]⟩, ⟨some 80, some (75, true), .load (.ld 1 false), [.t 79]⟩, ⟨some 84, some (75, true), .load (.ld 1 false), [.t 83]⟩, ⟨some 85, some (75, true), .loud (.call 73), [.t 80, .t 84]⟩, ⟨some 86, some (75, true), .pure (.not), [.t 85]⟩, ⟨some 87, none, .pick, [.t 75, .t 86, .c (.bool false)]⟩] [0, 1, 2, 3, 8, 9, 10, 11, 87]) (.cond (.t 87) (.seq (.ops [⟨some 88, none, .pure (.mov), [.t 0]⟩, ⟨some 89, none, .pure (.mov), [.t 1]⟩, ⟨some 90, none, .pure (.mov), [.t 2]⟩, ⟨some 91, none, .pure (.mov), [.t 11]⟩, ⟨some 92, none, .loud (.call 74), [.t 88, .t 89, .t 90, .t 91]⟩, ⟨some 13, none, .pure (.mov), [.t 92]⟩] [0, 2, 3, 8, 9, 13]) (.seq (.ops [⟨some 93, none, .pure (.mov), [.t 13]⟩, ⟨some 1, none, .pure (.mov), [.t 93]⟩] [0, 1, 2, 3, 8, 9]) (.exit 1))) (.skip))) (.seq (.ops [⟨some 95, none, .pure (.mov), [.t 0]⟩, ⟨some 96, none, .pure (.mov), [.t 1]⟩, ⟨some 97, none, .pure (.mov), [.t 2]⟩, ⟨some 98, none, .pure (.mov), [.t 11]⟩, ⟨some 99, none, .loud (.call 75), [.t 95, .t 96, .t 97, .t 98]⟩, ⟨some 94, none, .pure (.mov), [.t 99]⟩, ⟨some 100, none, .pure (.ext 0), [.t 94]⟩, ⟨some 101, none, .pure (.ext 1), [.t 94]⟩, ⟨some 14, none, .pure (.mov), [.t 100]⟩, ⟨some 15, none, .pure (.mov), [.t 101]⟩] [0, 1, 2, 3, 10, 14, 15]) (.seq (.ops [⟨some 102, none, .pure (.mov), [.t 15]⟩, ⟨some 9, none, .pure (.mov), [.t 102]⟩] [0, 1, 2, 3, 9, 10, 14]) (.seq (.ops [⟨some 103, none, .pure (.mov), [.t 14]⟩, ⟨some 104, none, .pure (.mov), [.t 1]⟩, ⟨some 105, none, .pure (.bin .sub), [.t 103, .t 104]⟩, ⟨some 106, none, .pure (.mov), [.t 2]⟩, ⟨some 107, none, .pure (.mov), [.t 14]⟩, ⟨some 108, none, .pure (.bin .sub), [.t 106, .t 107]⟩, ⟨some 16, none, .pure (.mov), [.t 105]⟩, ⟨some 17, none, .pure (.mov), [.t 108]⟩] [0, 1, 2, 3, 9, 10, 14, 16, 17]) (.seq (.ops [⟨some 109, none, .pure (.mov), [.t 10]⟩, ⟨some 110, none, .pure (.bin .quo), [.t 109, .c (.int .i64 8)]⟩, ⟨some 18, none, .pure (.mov), [.t 110]⟩] [0, 1, 2, 3, 9, 14, 16, 17, 18]) (.seq (.ops [⟨some 111, none, .pure (.mov), [.t 16]⟩, ⟨some 112, none, .pure (.mov), [.t 17]⟩, ⟨some 113, none, .pure (.bin .lss), [.t 111, .t 112]⟩] [0, 1, 2, 3, 9, 14, 16, 17, 18, 113]) (.cond (.t 113) (.seq (.ops [⟨some 114, none, .pure (.mov), [.t 16]⟩, ⟨some 115, none, .pure (.mov), [.t 18]⟩, ⟨some 116, none, .pure (.bin .geq), [.t 114, .t 115]⟩, ⟨some 8, none, .pure (.mov), [.t 116]⟩] [0, 1, 2, 3, 8, 9, 14]) (.seq (.ops [⟨some 117, none, .pure (.mov), [.t 0]⟩, ⟨some 118, none, .pure (.mov), [.t 1]⟩, ⟨some 119, none, .pure (.mov), [.t 14]⟩, ⟨some 120, none, .pure (.mov), [.t 3]⟩, ⟨some 121, none, .loud (.call 51), [.t 117, .t 118, .t 119, .t 120]⟩] [0, 2, 3, 8, 9, 14]) (.ops [⟨some 122, none, .pure (.mov), [.t 14]⟩, ⟨some 123, none, .pure (.bin .add), [.t 122, .c (.int .i64 1)]⟩, ⟨some 1, none, .pure (.mov), [.t 123]⟩] [0, 1, 2, 3, 8, 9]))) (.seq (.ops [⟨some 124, none, .pure (.mov), [.t 17]⟩, ⟨some 125, none, .pure (.mov), [.t 18]⟩, ⟨some 126, none, .pure (.bin .geq), [.t 124, .t 125]⟩, ⟨some 8, none, .pure (.mov), [.t 126]⟩] [0, 1, 2, 3, 8, 9, 14]) (.seq (.ops [⟨some 127, none, .pure (.mov), [.t 0]⟩, ⟨some 128, none, .pure (.mov), [.t 14]⟩, ⟨some 129, none, .pure (.bin .add), [.t 128, .c (.int .i64 1)]⟩, ⟨some 130, none, .pure (.mov), [.t 2]⟩, ⟨some 131, none, .pure (.mov), [.t 3]⟩, ⟨some 132, none, .loud (.call 51), [.t 127, .t 129, .t 130, .t 131]⟩] [0, 1, 3, 8, 9, 14]) (.ops [⟨some 133, none, .pure (.mov), [.t 14]⟩, ⟨some 2, none, .pure (.mov), [.t 133]⟩] [0, 1, 2, 3, 8, 9])))))))))))))))))))))
def F51 : Fn Try.prog 51 := Fn.mkX false b51 [] 134 Try.f51 _ Try.func51 (by decide) rfl Try.ntmps51 (by kernel_rfl) (by kernel_rfl)
/-- slices.Values[[]uint32,uint32]$1 -/
def b62 : BC := .seq (.ops [⟨some 5, none, .load (.ld 1 false), [.t 1]⟩, ⟨some 6, none, .pure (.len), [.t 5]⟩, ⟨some 7, none, .pure (.mov), [.c (.int .i64 0)]⟩] [0, 5, 6, 7]) (.block 0 (.loop [0, 5, 6, 7] (.seq (.ops [⟨some 8, none, .pure (.bin .lss), [.t 7, .t 6]⟩] [0, 5, 6, 7, 8]) (.seq (.cond (.t 8) (.skip) (.exit 0)) (.seq (.block 1 (.seq (.ops [⟨some 9, none, .pure (.idx 1), [.t 5, .t 7]⟩, ⟨some 10, none, .load (.ld 1 false), [.t 9]⟩, ⟨some 4, none, .pure (.mov), [.t 10]⟩] [0, 4, 5, 6, 7]) (.seq (.ops [⟨some 11, none, .pure (.mov), [.t 0]⟩, ⟨some 12, none, .pure (.mov), [.t 4]⟩, ⟨some 13, none, .loud (.callv), [.t 11, .t 12]⟩, ⟨some 14, none, .pure (.not), [.t 13]⟩] [0, 5, 6, 7, 14]) (.cond (.t 14) (.ret) (.skip))))) (.ops [⟨some 15, none, .pure (.bin .add), [.t 7, .c (.int .i64 1)]⟩, ⟨some 7, none, .pure (.mov), [.t 15]⟩] [0, 5, 6, 7]))))))
def F62 : Fn Try.prog 62 := Fn.mkX false b62 [] 16 Try.f62 _ Try.func62 (by decide) rfl Try.ntmps62 (by kernel_rfl) (by kernel_rfl)
/-- signpost/signpostref6.side -/
def b63 : BC := .seq (.ops [⟨some 2, none, .pure (.mov), [.c (.int .i64 0)]⟩] [0]) (.seq (.seq (.ops [⟨some 3, none, .pure (.mov), [.t 0]⟩] [3]) (.cond (.t 3) (.seq (.ops [⟨some 2, none, .pure (.mov), [.c (.int .i64 (-1))]⟩] [2]) (.ret)) (.skip))) (.seq (.ops [⟨some 2, none, .pure (.mov), [.c (.int .i64 1)]⟩] [2]) (.ret)))
def F63 : Fn Try.prog 63 := Fn.mkX false b63 [.t 2] 4 Try.f63 _ Try.func63 (by decide) rfl Try.ntmps63 (by kernel_rfl) (by kernel_rfl)
/-- (*signpost/wire.Reader).get -/
def b64 : BC := .seq (.ops [⟨some 4, none, .pure (.mov), [.c (.int .u64 0)]⟩] [0, 1]) (.seq (.ops [⟨some 5, none, .pure (.mov), [.c (.int .u64 0)]⟩] [0, 1, 5]) (.seq (.seq (.ops [⟨some 8, none, .pure (.mov), [.t 0]⟩, ⟨some 9, none, .pure (.mov), [.t 1]⟩, ⟨some 10, none, .loud (.call 44), [.t 8, .t 9]⟩, ⟨some 11, none, .pure (.len), [.t 10]⟩, ⟨some 12, none, .pure (.mov), [.c (.int .i64 0)]⟩] [5, 10, 11, 12]) (.block 0 (.loop [5, 10, 11, 12] (.seq (.ops [⟨some 13, none, .pure (.bin .lss), [.t 12, .t 11]⟩] [5, 10, 11, 12, 13]) (.seq (.cond (.t 13) (.skip) (.exit 0)) (.seq (.block 1 (.seq (.ops [⟨some 14, none, .pure (.idx 1), [.t 10, .t 12]⟩, ⟨some 15, none, .load (.ld 1 false), [.t 14]⟩, ⟨some 7, none, .pure (.mov), [.t 15]⟩] [5, 7, 10, 11, 12]) (.ops [⟨some 16, none, .pure (.mov), [.t 5]⟩, ⟨some 17, none, .pure (.bin .shl), [.t 16, .c (.int .u64 8)]⟩, ⟨some 18, none, .pure (.mov), [.t 7]⟩, ⟨some 19, none, .pure (.conv .u64), [.t 18]⟩, ⟨some 20, none, .pure (.bin .or), [.t 17, .t 19]⟩, ⟨some 5, none, .pure (.mov), [.t 20]⟩] [5, 10, 11, 12]))) (.ops [⟨some 21, none, .pure (.bin .add), [.t 12, .c (.int .i64 1)]⟩, ⟨some 12, none, .pure (.mov), [.t 21]⟩] [5, 10, 11, 12]))))))) (.seq (.ops [⟨some 22, none, .pure (.mov), [.t 5]⟩, ⟨some 4, none, .pure (.mov), [.t 22]⟩] [4]) (.ret))))
def F64 : Fn Try.prog 64 := Fn.mkX false b64 [.t 4] 23 Try.f64 _ Try.func64 (by decide) rfl Try.ntmps64 (by kernel_rfl) (by kernel_rfl)
/-- (*signpost/wire.Reader).U32 -/
def b65 : BC := .seq (.ops [⟨some 2, none, .pure (.mov), [.c (.int .u32 0)]⟩] [0]) (.seq (.ops [⟨some 3, none, .pure (.mov), [.t 0]⟩, ⟨some 4, none, .loud (.call 64), [.t 3, .c (.int .i64 4)]⟩, ⟨some 5, none, .pure (.conv .u32), [.t 4]⟩, ⟨some 2, none, .pure (.mov), [.t 5]⟩] [2]) (.ret))
def F65 : Fn Try.prog 65 := Fn.mkX false b65 [.t 2] 6 Try.f65 _ Try.func65 (by decide) rfl Try.ntmps65 (by kernel_rfl) (by kernel_rfl)
/-- signpost/aspath.Right -/
def b66 : BC := .seq (.ops [⟨some 2, none, .pure (.mov), [.c (.bool false)]⟩] [0]) (.seq (.seq (.ops [⟨some 5, none, .pure (.mov), [.t 0]⟩, ⟨some 6, none, .pure (.len), [.t 5]⟩, ⟨some 7, none, .pure (.mov), [.c (.int .i64 0)]⟩] [0, 5, 6, 7]) (.block 0 (.loop [0, 5, 6, 7] (.seq (.ops [⟨some 8, none, .pure (.bin .lss), [.t 7, .t 6]⟩] [0, 5, 6, 7, 8]) (.seq (.cond (.t 8) (.skip) (.exit 0)) (.seq (.block 1 (.seq (.ops [⟨some 9, none, .pure (.idx 2), [.t 5, .t 7]⟩, ⟨some 10, none, .load (.ld 2 true), [.t 9]⟩, ⟨some 4, none, .alloc (.alloc [(.int .i64 0), .nils]), []⟩, ⟨none, none, .loud (.st 2), [.t 4, .t 10]⟩] [0, 4, 5, 6, 7]) (.seq (.ops [⟨some 11, none, .load (.ld 2 true), [.t 4]⟩, ⟨some 12, none, .loud (.call 84), [.t 11]⟩, ⟨some 13, none, .pure (.not), [.t 12]⟩] [0, 5, 6, 7, 13]) (.cond (.t 13) (.seq (.ops [⟨some 2, none, .pure (.mov), [.c (.bool false)]⟩] [2]) (.ret)) (.skip))))) (.ops [⟨some 14, none, .pure (.bin .add), [.t 7, .c (.int .i64 1)]⟩, ⟨some 7, none, .pure (.mov), [.t 14]⟩] [0, 5, 6, 7]))))))) (.seq (.ops [⟨some 15, none, .pure (.mov), [.t 0]⟩, ⟨some 16, none, .pure (.len), [.t 15]⟩, ⟨some 17, none, .pure (.bin .leq), [.t 16, .c (.int .i64 16)]⟩, ⟨some 2, none, .pure (.mov), [.t 17]⟩] [2]) (.ret)))
def F66 : Fn Try.prog 66 := Fn.mkX false b66 [.t 2] 18 Try.f66 _ Try.func66 (by decide) rfl Try.ntmps66 (by kernel_rfl) (by kernel_rfl)
/-- slices.insertionSortOrdered[int] -/
def b67 : BC := .seq (.ops [⟨some 8, none, .pure (.mov), [.t 1]⟩, ⟨some 9, none, .pure (.bin .add), [.t 8, .c (.int .i64 1)]⟩, ⟨some 6, none, .pure (.mov), [.t 9]⟩] [0, 1, 2, 6]) (.block 0 (.loop [0, 1, 2, 6] (.seq (.seq (.ops [⟨some 10, none, .pure (.mov), [.t 6]⟩, ⟨some 11, none, .pure (.mov), [.t 2]⟩, ⟨some 12, none, .pure (.bin .lss), [.t 10, .t 11]⟩] [0, 1, 2, 6, 12]) (.cond (.t 12) (.skip) (.exit 0))) (.seq (.block 1 (.seq (.ops [⟨some 15, none, .pure (.mov), [.t 6]⟩, ⟨some 7, none, .pure (.mov), [.t 15]⟩] [0, 1, 2, 6, 7]) (.block 2 (.loop [0, 1, 2, 6, 7] (.seq (.seq (.ops [⟨some 16, none, .pure (.mov), [.t 7]⟩, ⟨some 17, none, .pure (.mov), [.t 1]⟩, ⟨some 18, none, .pure (.bin .gtr), [.t 16, .t 17]⟩, ⟨some 19, none, .pure (.mov), [.t 18]⟩, ⟨some 20, some (19, true), .pure (.mov), [.t 0]⟩, ⟨some 21, some (19, true), .pure (.mov), [.t 7]⟩, ⟨some 22, some (19, true), .pure (.idx 1), [.t 20, .t 21]⟩, ⟨some 24, some (19, true), .pure (.mov), [.t 0]⟩, ⟨some 25, some (19, true), .pure (.mov), [.t 7]⟩, ⟨some 26, some (19, true), .pure (.bin .sub), [.t 25, .c (.int .i64 1)]⟩, ⟨some 27, some (19, true), .pure (.idx 1), [.t 24, .t 26]⟩, ⟨some 23, some (19, true), .load (.ld 1 false), [.t 22]⟩, ⟨some 28, some (19, true), .load (.ld 1 false), [.t 27]⟩, ⟨some 29, some (19, true), .loud (.call 73), [.t 23, .t 28]⟩, ⟨some 30, none, .pick, [.t 19, .t 29, .c (.bool false)]⟩] [0, 1, 2, 6, 7, 30]) (.cond (.t 30) (.skip) (.exit 2))) (.seq (.block 3 (.ops [⟨some 33, none, .pure (.mov), [.t 0]⟩, ⟨some 34, none, .pure (.mov), [.t 7]⟩, ⟨some 35, none, .pure (.mov), [.t 0]⟩, ⟨some 36, none, .pure (.mov), [.t 7]⟩, ⟨some 37, none, .pure (.bin .sub), [.t 36, .c (.int .i64 1)]⟩, ⟨some 38, none, .pure (.mov), [.t 0]⟩, ⟨some 39, none, .pure (.mov), [.t 7]⟩, ⟨some 40, none, .pure (.bin .sub), [.t 39, .c (.int .i64 1)]⟩, ⟨some 41, none, .pure (.idx 1), [.t 38, .t 40]⟩, ⟨some 43, none, .pure (.mov), [.t 0]⟩, ⟨some 44, none, .pure (.mov), [.t 7]⟩, ⟨some 45, none, .pure (.idx 1), [.t 43, .t 44]⟩, ⟨some 42, none, .load (.ld 1 false), [.t 41]⟩, ⟨some 46, none, .load (.ld 1 false), [.t 45]⟩, ⟨some 47, none, .pure (.idx 1), [.t 33, .t 34]⟩, ⟨none, none, .loud (.st 1), [.t 47, .t 42]⟩, ⟨some 48, none, .pure (.idx 1), [.t 35, .t 37]⟩, ⟨none, none, .loud (.st 1), [.t 48, .t 46]⟩] [0, 1, 2, 6, 7])) (.ops [⟨some 31, none, .pure (.mov), [.t 7]⟩, ⟨some 32, none, .pure (.bin .sub), [.t 31, .c (.int .i64 1)]⟩, ⟨some 7, none, .pure (.mov), [.t 32]⟩] [0, 1, 2, 6, 7]))))))) (.ops [⟨some 13, none, .pure (.mov), [.t 6]⟩, ⟨some 14, none, .pure (.bin .add), [.t 13, .c (.int .i64 1)]⟩, ⟨some 6, none, .pure (.mov), [.t 14]⟩] [0, 1, 2, 6])))))
def F67 : Fn Try.prog 67 := Fn.mkX false b67 [] 49 Try.f67 _ Try.func67 (by decide) rfl Try.ntmps67 (by kernel_rfl) (by kernel_rfl)
/-- slices.heapSortOrdered[int] -/
def b68 : BC := .seq (.ops [⟨some 11, none, .pure (.mov), [.t 1]⟩, ⟨some 6, none, .pure (.mov), [.t 11]⟩] [0, 1, 2, 6]) (.seq (.ops [⟨some 7, none, .pure (.mov), [.c (.int .i64 0)]⟩] [0, 1, 2, 6, 7]) (.seq (.ops [⟨some 12, none, .pure (.mov), [.t 2]⟩, ⟨some 13, none, .pure (.mov), [.t 1]⟩, ⟨some 14, none, .pure (.bin .sub), [.t 12, .t 13]⟩, ⟨some 8, none, .pure (.mov), [.t 14]⟩] [0, 6, 7, 8]) (.seq (.seq (.ops [⟨some 15, none, .pure (.mov), [.t 8]⟩, ⟨some 16, none, .pure (.bin .sub), [.t 15, .c (.int .i64 1)]⟩, ⟨some 17, none, .pure (.bin .quo), [.t 16, .c (.int .i64 2)]⟩, ⟨some 9, none, .pure (.mov), [.t 17]⟩] [0, 6, 7, 8, 9]) (.block 0 (.loop [0, 6, 7, 8, 9] (.seq (.seq (.ops [⟨some 18, none, .pure (.mov), [.t 9]⟩, ⟨some 19, none, .pure (.bin .geq), [.t 18, .c (.int .i64 0)]⟩] [0, 6, 7, 8, 9, 19]) (.cond (.t 19) (.skip) (.exit 0))) (.seq (.block 1 (.ops [⟨some 22, none, .pure (.mov), [.t 0]⟩, ⟨some 23, none, .pure (.mov), [.t 9]⟩, ⟨some 24, none, .pure (.mov), [.t 8]⟩, ⟨some 25, none, .pure (.mov), [.t 6]⟩, ⟨some 26, none, .loud (.call 85), [.t 22, .t 23, .t 24, .t 25]⟩] [0, 6, 7, 8, 9])) (.ops [⟨some 20, none, .pure (.mov), [.t 9]⟩, ⟨some 21, none, .pure (.bin .sub), [.t 20, .c (.int .i64 1)]⟩, ⟨some 9, none, .pure (.mov), [.t 21]⟩] [0, 6, 7, 8, 9])))))) (.seq (.ops [⟨some 27, none, .pure (.mov), [.t 8]⟩, ⟨some 28, none, .pure (.bin .sub), [.t 27, .c (.int .i64 1)]⟩, ⟨some 10, none, .pure (.mov), [.t 28]⟩] [0, 6, 7, 10]) (.block 2 (.loop [0, 6, 7, 10] (.seq (.seq (.ops [⟨some 29, none, .pure (.mov), [.t 10]⟩, ⟨some 30, none, .pure (.bin .geq), [.t 29, .c (.int .i64 0)]⟩] [0, 6, 7, 10, 30]) (.cond (.t 30) (.skip) (.exit 2))) (.seq (.block 3 (.seq (.ops [⟨some 33, none, .pure (.mov), [.t 0]⟩, ⟨some 34, none, .pure (.mov), [.t 6]⟩, ⟨some 35, none, .pure (.mov), [.t 0]⟩, ⟨some 36, none, .pure (.mov), [.t 6]⟩, ⟨some 37, none, .pure (.mov), [.t 10]⟩, ⟨some 38, none, .pure (.bin .add), [.t 36, .t 37]⟩, ⟨some 39, none, .pure (.mov), [.t 0]⟩, ⟨some 40, none, .pure (.mov), [.t 6]⟩, ⟨some 41, none, .pure (.mov), [.t 10]⟩, ⟨some 42, none, .pure (.bin .add), [.t 40, .t 41]⟩, ⟨some 43, none, .pure (.idx 1), [.t 39, .t 42]⟩, ⟨some 45, none, .pure (.mov), [.t 0]⟩, ⟨some 46, none, .pure (.mov), [.t 6]⟩, ⟨some 47, none, .pure (.idx 1), [.t 45, .t 46]⟩, ⟨some 44, none, .load (.ld 1 false), [.t 43]⟩, ⟨some 48, none, .load (.ld 1 false), [.t 47]⟩, ⟨some 49, none, .pure (.idx 1), [.t 33, .t 34]⟩, ⟨none, none, .loud (.st 1), [.t 49, .t 44]⟩, ⟨some 50, none, .pure (.idx 1), [.t 35, .t 38]⟩, ⟨none, none, .loud (.st 1), [.t 50, .t 48]⟩] [0, 6, 7, 10]) (.ops [⟨some 51, none, .pure (.mov), [.t 0]⟩, ⟨some 52, none, .pure (.mov), [.t 7]⟩, ⟨some 53, none, .pure (.mov), [.t 10]⟩, ⟨some 54, none, .pure (.mov), [.t 6]⟩, ⟨some 55, none, .loud (.call 85), [.t 51, .t 52, .t 53, .t 54]⟩] [0, 6, 7, 10]))) (.ops [⟨some 31, none, .pure (.mov), [.t 10]⟩, ⟨some 32, none, .pure (.bin .sub), [.t 31, .c (.int .i64 1)]⟩, ⟨some 10, none, .pure (.mov), [.t 32]⟩] [0, 6, 7, 10])))))))))
def F68 : Fn Try.prog 68 := Fn.mkX false b68 [] 56 Try.f68 _ Try.func68 (by decide) rfl Try.ntmps68 (by kernel_rfl) (by kernel_rfl)
/-- slices.breakPatternsOrdered[int] -/
def b69 : BC := .seq (.ops [⟨some 11, none, .pure (.mov), [.t 2]⟩, ⟨some 12, none, .pure (.mov), [.t 1]⟩, ⟨some 13, none, .pure (.bin .sub), [.t 11, .t 12]⟩, ⟨some 6, none, .pure (.mov), [.t 13]⟩] [0, 1, 6]) (.seq (.ops [⟨some 14, none, .pure (.mov), [.t 6]⟩, ⟨some 15, none, .pure (.bin .geq), [.t 14, .c (.int .i64 8)]⟩] [0, 1, 6, 15]) (.cond (.t 15) (.seq (.ops [⟨some 16, none, .pure (.mov), [.t 6]⟩, ⟨some 17, none, .pure (.conv .u64), [.t 16]⟩, ⟨some 7, none, .alloc (.alloc [(.int .u64 0)]), []⟩, ⟨none, none, .loud (.st 1), [.t 7, .t 17]⟩] [0, 1, 6, 7]) (.seq (.ops [⟨some 18, none, .pure (.mov), [.t 6]⟩, ⟨some 19, none, .loud (.call 86), [.t 18]⟩, ⟨some 8, none, .pure (.mov), [.t 19]⟩] [0, 1, 6, 7, 8]) (.seq (.ops [⟨some 20, none, .pure (.mov), [.t 1]⟩, ⟨some 21, none, .pure (.mov), [.t 6]⟩, ⟨some 22, none, .pure (.bin .quo), [.t 21, .c (.int .i64 4)]⟩, ⟨some 23, none, .pure (.bin .mul), [.t 22, .c (.int .i64 2)]⟩, ⟨some 24, none, .pure (.bin .add), [.t 20, .t 23]⟩, ⟨some 25, none, .pure (.bin .sub), [.t 24, .c (.int .i64 1)]⟩, ⟨some 9, none, .pure (.mov), [.t 25]⟩] [0, 1, 6, 7, 8, 9]) (.block 0 (.loop [0, 1, 6, 7, 8, 9] (.seq (.seq (.ops [⟨some 26, none, .pure (.mov), [.t 9]⟩, ⟨some 27, none, .pure (.mov), [.t 1]⟩, ⟨some 28, none, .pure (.mov), [.t 6]⟩, ⟨some 29, none, .pure (.bin .quo), [.t 28, .c (.int .i64 4)]⟩, ⟨some 30, none, .pure (.bin .mul), [.t 29, .c (.int .i64 2)]⟩, ⟨some 31, none, .pure (.bin .add), [.t 27, .t 30]⟩, ⟨some 32, none, .pure (.bin .add), [.t 31, .c (.int .i64 1)]⟩, ⟨some 33, none, .pure (.bin .leq), [.t 26, .t 32]⟩] [0, 1, 6, 7, 8, 9, 33]) (.cond (.t 33) (.skip) (.exit 0))) (.seq (.block 1 (.seq (.ops [⟨some 36, none, .loud (.call 87), [.t 7]⟩, ⟨some 37, none, .pure (.mov), [.t 8]⟩, ⟨some 38, none, .pure (.bin .sub), [.t 37, .c (.int .u64 1)]⟩, ⟨some 39, none, .pure (.bin .and), [.t 36, .t 38]⟩, ⟨some 40, none, .pure (.conv .i64), [.t 39]⟩, ⟨some 10, none, .pure (.mov), [.t 40]⟩] [0, 1, 6, 7, 8, 9, 10]) (.seq (.seq (.ops [⟨some 41, none, .pure (.mov), [.t 10]⟩, ⟨some 42, none, .pure (.mov), [.t 6]⟩, ⟨some 43, none, .pure (.bin .geq), [.t 41, .t 42]⟩] [0, 1, 6, 7, 8, 9, 10, 43]) (.cond (.t 43) (.ops [⟨some 44, none, .pure (.mov), [.t 10]⟩, ⟨some 45, none, .pure (.mov), [.t 6]⟩, ⟨some 46, none, .pure (.bin .sub), [.t 44, .t 45]⟩, ⟨some 10, none, .pure (.mov), [.t 46]⟩] [0, 1, 6, 7, 8, 9, 10]) (.skip))) (.ops [⟨some 47, none, .pure (.mov), [.t 0]⟩, ⟨some 48, none, .pure (.mov), [.t 9]⟩, ⟨some 49, none, .pure (.mov), [.t 0]⟩, ⟨some 50, none, .pure (.mov), [.t 1]⟩, ⟨some 51, none, .pure (.mov), [.t 10]⟩, ⟨some 52, none, .pure (.bin .add), [.t 50, .t 51]⟩, ⟨some 53, none, .pure (.mov), [.t 0]⟩, ⟨some 54, none, .pure (.mov), [.t 1]⟩, ⟨some 55, none, .pure (.mov), [.t 10]⟩, ⟨some 56, none, .pure (.bin .add), [.t 54, .t 55]⟩, ⟨some 57, none, .pure (.idx 1), [.t 53, .t 56]⟩, ⟨some 59, none, .pure (.mov), [.t 0]⟩, ⟨some 60, none, .pure (.mov), [.t 9]⟩, ⟨some 61, none, .pure (.idx 1), [.t 59, .t 60]⟩, ⟨some 58, none, .load (.ld 1 false), [.t 57]⟩, ⟨some 62, none, .load (.ld 1 false), [.t 61]⟩, ⟨some 63, none, .pure (.idx 1), [.t 47, .t 48]⟩, ⟨none, none, .loud (.st 1), [.t 63, .t 58]⟩, ⟨some 64, none, .pure (.idx 1), [.t 49, .t 52]⟩, ⟨none, none, .loud (.st 1), [.t 64, .t 62]⟩] [0, 1, 6, 7, 8, 9])))) (.ops [⟨some 34, none, .pure (.mov), [.t 9]⟩, ⟨some 35, none, .pure (.bin .add), [.t 34, .c (.int .i64 1)]⟩, ⟨some 9, none, .pure (.mov), [.t 35]⟩] [0, 1, 6, 7, 8, 9])))))))) (.skip)))
def F69 : Fn Try.prog 69 := Fn.mkX false b69 [] 65 Try.f69 _ Try.func69 (by decide) rfl Try.ntmps69 (by kernel_rfl) (by kernel_rfl)
/-- slices.choosePivotOrdered[int] -/
def b70 : BC := .seq (.ops [⟨some 6, none, .pure (.mov), [.c (.int .i64 0)]⟩, ⟨some 7, none, .pure (.mov), [.c (.int .i64 0)]⟩] [0, 1, 2]) (.seq (.ops [⟨some 13, none, .pure (.mov), [.t 2]⟩, ⟨some 14, none, .pure (.mov), [.t 1]⟩, ⟨some 15, none, .pure (.bin .sub), [.t 13, .t 14]⟩, ⟨some 8, none, .pure (.mov), [.t 15]⟩] [0, 1, 8]) (.seq (.ops [⟨some 9, none, .alloc (.alloc [(.int .i64 0)]), []⟩] [0, 1, 8, 9]) (.seq (.ops [⟨some 16, none, .pure (.mov), [.t 1]⟩, ⟨some 17, none, .pure (.mov), [.t 8]⟩, ⟨some 18, none, .pure (.bin .quo), [.t 17, .c (.int .i64 4)]⟩, ⟨some 19, none, .pure (.bin .mul), [.t 18, .c (.int .i64 1)]⟩, ⟨some 20, none, .pure (.bin .add), [.t 16, .t 19]⟩, ⟨some 10, none, .pure (.mov), [.t 20]⟩] [0, 1, 8, 9, 10]) (.seq (.ops [⟨some 21, none, .pure (.mov), [.t 1]⟩, ⟨some 22, none, .pure (.mov), [.t 8]⟩, ⟨some 23, none, .pure (.bin .quo), [.t 22, .c (.int .i64 4)]⟩, ⟨some 24, none, .pure (.bin .mul), [.t 23, .c (.int .i64 2)]⟩, ⟨some 25, none, .pure (.bin .add), [.t 21, .t 24]⟩, ⟨some 11, none, .pure (.mov), [.t 25]⟩] [0, 1, 8, 9, 10, 11]) (.seq (.ops [⟨some 26, none, .pure (.mov), [.t 1]⟩, ⟨some 27, none, .pure (.mov), [.t 8]⟩, ⟨some 28, none, .pure (.bin .quo), [.t 27, .c (.int .i64 4)]⟩, ⟨some 29, none, .pure (.bin .mul), [.t 28, .c (.int .i64 3)]⟩, ⟨some 30, none, .pure (.bin .add), [.t 26, .t 29]⟩, ⟨some 12, none, .pure (.mov), [.t 30]⟩] [0, 8, 9, 10, 11, 12]) (.seq (.seq (.ops [⟨some 31, none, .pure (.mov), [.t 8]⟩, ⟨some 32, none, .pure (.bin .geq), [.t 31, .c (.int .i64 8)]⟩] [0, 8, 9, 10, 11, 12, 32]) (.cond (.t 32) (.seq (.seq (.ops [⟨some 33, none, .pure (.mov), [.t 8]⟩, ⟨some 34, none, .pure (.bin .geq), [.t 33, .c (.int .i64 50)]⟩] [0, 9, 10, 11, 12, 34]) (.cond (.t 34) (.seq (.ops [⟨some 35, none, .pure (.mov), [.t 0]⟩, ⟨some 36, none, .pure (.mov), [.t 10]⟩, ⟨some 37, none, .loud (.call 88), [.t 35, .t 36, .t 9]⟩, ⟨some 10, none, .pure (.mov), [.t 37]⟩] [0, 9, 10, 11, 12]) (.seq (.ops [⟨some 38, none, .pure (.mov), [.t 0]⟩, ⟨some 39, none, .pure (.mov), [.t 11]⟩, ⟨some 40, none, .loud (.call 88), [.t 38, .t 39, .t 9]⟩, ⟨some 11, none, .pure (.mov), [.t 40]⟩] [0, 9, 10, 11, 12]) (.ops [⟨some 41, none, .pure (.mov), [.t 0]⟩, ⟨some 42, none, .pure (.mov), [.t 12]⟩, ⟨some 43, none, .loud (.call 88), [.t 41, .t 42, .t 9]⟩, ⟨some 12, none, .pure (.mov), [.t 43]⟩] [0, 9, 10, 11, 12]))) (.skip))) (.ops [⟨some 44, none, .pure (.mov), [.t 0]⟩, ⟨some 45, none, .pure (.mov), [.t 10]⟩, ⟨some 46, none, .pure (.mov), [.t 11]⟩, ⟨some 47, none, .pure (.mov), [.t 12]⟩, ⟨some 48, none, .loud (.call 89), [.t 44, .t 45, .t 46, .t 47, .t 9]⟩, ⟨some 11, none, .pure (.mov), [.t 48]⟩] [9, 11])) (.skip))) (.seq (.ops [⟨some 49, none, .load (.ld 1 false), [.t 9]⟩] [11, 49]) (.block 0 (.seq (.ops [⟨some 52, none, .pure (.bin .eql), [.t 49, .c (.int .i64 0)]⟩, ⟨some 51, none, .pure (.mov), [.t 52]⟩] [11, 49, 51]) (.cond (.t 51) (.seq (.ops [⟨some 53, none, .pure (.mov), [.t 11]⟩, ⟨some 6, none, .pure (.mov), [.t 53]⟩, ⟨some 7, none, .pure (.mov), [.c (.int .i64 1)]⟩] [6, 7]) (.ret)) (.seq (.ops [⟨some 55, none, .pure (.bin .eql), [.t 49, .c (.int .i64 12)]⟩, ⟨some 54, none, .pure (.mov), [.t 55]⟩] [11, 54]) (.cond (.t 54) (.seq (.ops [⟨some 56, none, .pure (.mov), [.t 11]⟩, ⟨some 6, none, .pure (.mov), [.t 56]⟩, ⟨some 7, none, .pure (.mov), [.c (.int .i64 2)]⟩] [6, 7]) (.ret)) (.seq (.ops [⟨some 50, none, .pure (.mov), [.t 11]⟩, ⟨some 6, none, .pure (.mov), [.t 50]⟩, ⟨some 7, none, .pure (.mov), [.c (.int .i64 0)]⟩] [6, 7]) (.ret))))))))))))))
def F70 : Fn Try.prog 70 := Fn.mkX false b70 [.t 6, .t 7] 57 Try.f70 _ Try.func70 (by decide) rfl Try.ntmps70 (by kernel_rfl) (by kernel_rfl)
/-- slices.reverseRangeOrdered[int] -/
def b71 : BC := .seq (.ops [⟨some 8, none, .pure (.mov), [.t 1]⟩, ⟨some 6, none, .pure (.mov), [.t 8]⟩] [0, 2, 6]) (.seq (.ops [⟨some 9, none, .pure (.mov), [.t 2]⟩, ⟨some 10, none, .pure (.bin .sub), [.t 9, .c (.int .i64 1)]⟩, ⟨some 7, none, .pure (.mov), [.t 10]⟩] [0, 6, 7]) (.block 0 (.loop [0, 6, 7] (.seq (.seq (.ops [⟨some 11, none, .pure (.mov), [.t 6]⟩, ⟨some 12, none, .pure (.mov), [.t 7]⟩, ⟨some 13, none, .pure (.bin .lss), [.t 11, .t 12]⟩] [0, 6, 7, 13]) (.cond (.t 13) (.skip) (.exit 0))) (.block 1 (.seq (.ops [⟨some 14, none, .pure (.mov), [.t 0]⟩, ⟨some 15, none, .pure (.mov), [.t 6]⟩, ⟨some 16, none, .pure (.mov), [.t 0]⟩, ⟨some 17, none, .pure (.mov), [.t 7]⟩, ⟨some 18, none, .pure (.mov), [.t 0]⟩, ⟨some 19, none, .pure (.mov), [.t 7]⟩, ⟨some 20, none, .pure (.idx 1), [.t 18, .t 19]⟩, ⟨some 22, none, .pure (.mov), [.t 0]⟩, ⟨some 23, none, .pure (.mov), [.t 6]⟩, ⟨some 24, none, .pure (.idx 1), [.t 22, .t 23]⟩, ⟨some 21, none, .load (.ld 1 false), [.t 20]⟩, ⟨some 25, none, .load (.ld 1 false), [.t 24]⟩, ⟨some 26, none, .pure (.idx 1), [.t 14, .t 15]⟩, ⟨none, none, .loud (.st 1), [.t 26, .t 21]⟩, ⟨some 27, none, .pure (.idx 1), [.t 16, .t 17]⟩, ⟨none, none, .loud (.st 1), [.t 27, .t 25]⟩] [0, 6, 7]) (.seq (.ops [⟨some 28, none, .pure (.mov), [.t 6]⟩, ⟨some 29, none, .pure (.bin .add), [.t 28, .c (.int .i64 1)]⟩, ⟨some 6, none, .pure (.mov), [.t 29]⟩] [0, 6, 7]) (.ops [⟨some 30, none, .pure (.mov), [.t 7]⟩, ⟨some 31, none, .pure (.bin .sub), [.t 30, .c (.int .i64 1)]⟩, ⟨some 7, none, .pure (.mov), [.t 31]⟩] [0, 6, 7]))))))))
def F71 : Fn Try.prog 71 := Fn.mkX false b71 [] 32 Try.f71 _ Try.func71 (by decide) rfl Try.ntmps71 (by kernel_rfl) (by kernel_rfl)
/-- slices.partialInsertionSortOrdered[int] -/
def b72 : BC := .seq (.ops [⟨some 6, none, .pure (.mov), [.c (.bool false)]⟩] [0, 1, 2]) (.seq (.ops [⟨some 11, none, .pure (.mov), [.t 1]⟩, ⟨some 12, none, .pure (.bin .add), [.t 11, .c (.int .i64 1)]⟩, ⟨some 7, none, .pure (.mov), [.t 12]⟩] [0, 1, 2, 7]) (.seq (.seq (.ops [⟨some 8, none, .pure (.mov), [.c (.int .i64 0)]⟩] [0, 1, 2, 7, 8]) (.block 0 (.loop [0, 1, 2, 7, 8] (.seq (.seq (.ops [⟨some 13, none, .pure (.mov), [.t 8]⟩, ⟨some 14, none, .pure (.bin .lss), [.t 13, .c (.int .i64 5)]⟩] [0, 1, 2, 7, 8, 14]) (.cond (.t 14) (.skip) (.exit 0))) (.seq (.block 1 (.seq (.block 2 (.loop [0, 1, 2, 7, 8] (.seq (.seq (.ops [⟨some 17, none, .pure (.mov), [.t 7]⟩, ⟨some 18, none, .pure (.mov), [.t 2]⟩, ⟨some 19, none, .pure (.bin .lss), [.t 17, .t 18]⟩, ⟨some 20, none, .pure (.mov), [.t 19]⟩, ⟨some 21, some (20, true), .pure (.mov), [.t 0]⟩, ⟨some 22, some (20, true), .pure (.mov), [.t 7]⟩, ⟨some 23, some (20, true), .pure (.idx 1), [.t 21, .t 22]⟩, ⟨some 25, some (20, true), .pure (.mov), [.t 0]⟩, ⟨some 26, some (20, true), .pure (.mov), [.t 7]⟩, ⟨some 27, some (20, true), .pure (.bin .sub), [.t 26, .c (.int .i64 1)]⟩, ⟨some 28, some (20, true), .pure (.idx 1), [.t 25, .t 27]⟩, ⟨some 24, some (20, true), .load (.ld 1 false), [.t 23]⟩, ⟨some 29, some (20, true), .load (.ld 1 false), [.t 28]⟩, ⟨some 30, some (20, true), .loud (.call 73), [.t 24, .t 29]⟩, ⟨some 31, some (20, true), .pure (.not), [.t 30]⟩, ⟨some 32, none, .pick, [.t 20, .t 31, .c (.bool false)]⟩] [0, 1, 2, 7, 8, 32]) (.cond (.t 32) (.skip) (.exit 2))) (.block 3 (.ops [⟨some 33, none, .pure (.mov), [.t 7]⟩, ⟨some 34, none, .pure (.bin .add), [.t 33, .c (.int .i64 1)]⟩, ⟨some 7, none, .pure (.mov), [.t 34]⟩] [0, 1, 2, 7, 8]))))) (.seq (.seq (.ops [⟨some 35, none, .pure (.mov), [.t 7]⟩, ⟨some 36, none, .pure (.mov), [.t 2]⟩, ⟨some 37, none, .pure (.bin .eql), [.t 35, .t 36]⟩] [0, 1, 2, 7, 8, 37]) (.cond (.t 37) (.seq (.ops [⟨some 6, none, .pure (.mov), [.c (.bool true)]⟩] [6]) (.ret)) (.skip))) (.seq (.seq (.ops [⟨some 38, none, .pure (.mov), [.t 2]⟩, ⟨some 39, none, .pure (.mov), [.t 1]⟩, ⟨some 40, none, .pure (.bin .sub), [.t 38, .t 39]⟩, ⟨some 41, none, .pure (.bin .lss), [.t 40, .c (.int .i64 50)]⟩] [0, 1, 2, 7, 8, 41]) (.cond (.t 41) (.seq (.ops [⟨some 6, none, .pure (.mov), [.c (.bool false)]⟩] [6]) (.ret)) (.skip))) (.seq (.ops [⟨some 42, none, .pure (.mov), [.t 0]⟩, ⟨some 43, none, .pure (.mov), [.t 7]⟩, ⟨some 44, none, .pure (.mov), [.t 0]⟩, ⟨some 45, none, .pure (.mov), [.t 7]⟩, ⟨some 46, none, .pure (.bin .sub), [.t 45, .c (.int .i64 1)]⟩, ⟨some 47, none, .pure (.mov), [.t 0]⟩, ⟨some 48, none, .pure (.mov), [.t 7]⟩, ⟨some 49, none, .pure (.bin .sub), [.t 48, .c (.int .i64 1)]⟩, ⟨some 50, none, .pure (.idx 1), [.t 47, .t 49]⟩, ⟨some 52, none, .pure (.mov), [.t 0]⟩, ⟨some 53, none, .pure (.mov), [.t 7]⟩, ⟨some 54, none, .pure (.idx 1), [.t 52, .t 53]⟩, ⟨some 51, none, .load (.ld 1 false), [.t 50]⟩, ⟨some 55, none, .load (.ld 1 false), [.t 54]⟩, ⟨some 56, none, .pure (.idx 1), [.t 42, .t 43]⟩, ⟨none, none, .loud (.st 1), [.t 56, .t 51]⟩, ⟨some 57, none, .pure (.idx 1), [.t 44, .t 46]⟩, ⟨none, none, .loud (.st 1), [.t 57, .t 55]⟩] [0, 1, 2, 7, 8]) (.seq (.seq (.ops [⟨some 58, none, .pure (.mov), [.t 7]⟩, ⟨some 59, none, .pure (.mov), [.t 1]⟩, ⟨some 60, none, .pure (.bin .sub), [.t 58, .t 59]⟩, ⟨some 61, none, .pure (.bin .geq), [.t 60, .c (.int .i64 2)]⟩] [0, 1, 2, 7, 8, 61]) (.cond (.t 61) (.seq (.ops [⟨some 62, none, .pure (.mov), [.t 7]⟩, ⟨some 63, none, .pure (.bin .sub), [.t 62, .c (.int .i64 1)]⟩, ⟨some 9, none, .pure (.mov), [.t 63]⟩] [0, 1, 2, 7, 8, 9]) (.block 4 (.loop [0, 1, 2, 7, 8, 9] (.seq (.seq (.ops [⟨some 64, none, .pure (.mov), [.t 9]⟩, ⟨some 65, none, .pure (.bin .geq), [.t 64, .c (.int .i64 1)]⟩] [0, 1, 2, 7, 8, 9, 65]) (.cond (.t 65) (.skip) (.exit 4))) (.seq (.block 5 (.seq (.seq (.ops [⟨some 68, none, .pure (.mov), [.t 0]⟩, ⟨some 69, none, .pure (.mov), [.t 9]⟩, ⟨some 70, none, .pure (.idx 1), [.t 68, .t 69]⟩, ⟨some 72, none, .pure (.mov), [.t 0]⟩, ⟨some 73, none, .pure (.mov), [.t 9]⟩, ⟨some 74, none, .pure (.bin .sub), [.t 73, .c (.int .i64 1)]⟩, ⟨some 75, none, .pure (.idx 1), [.t 72, .t 74]⟩, ⟨some 71, none, .load (.ld 1 false), [.t 70]⟩, ⟨some 76, none, .load (.ld 1 false), [.t 75]⟩, ⟨some 77, none, .loud (.call 73), [.t 71, .t 76]⟩, ⟨some 78, none, .pure (.not), [.t 77]⟩] [0, 1, 2, 7, 8, 9, 78]) (.cond (.t 78) (.exit 4) (.skip))) (.ops [⟨some 79, none, .pure (.mov), [.t 0]⟩, ⟨some 80, none, .pure (.mov), [.t 9]⟩, ⟨some 81, none, .pure (.mov), [.t 0]⟩, ⟨some 82, none, .pure (.mov), [.t 9]⟩, ⟨some 83, none, .pure (.bin .sub), [.t 82, .c (.int .i64 1)]⟩, ⟨some 84, none, .pure (.mov), [.t 0]⟩, ⟨some 85, none, .pure (.mov), [.t 9]⟩, ⟨some 86, none, .pure (.bin .sub), [.t 85, .c (.int .i64 1)]⟩, ⟨some 87, none, .pure (.idx 1), [.t 84, .t 86]⟩, ⟨some 89, none, .pure (.mov), [.t 0]⟩, ⟨some 90, none, .pure (.mov), [.t 9]⟩, ⟨some 91, none, .pure (.idx 1), [.t 89, .t 90]⟩, ⟨some 88, none, .load (.ld 1 false), [.t 87]⟩, ⟨some 92, none, .load (.ld 1 false), [.t 91]⟩, ⟨some 93, none, .pure (.idx 1), [.t 79, .t 80]⟩, ⟨none, none, .loud (.st 1), [.t 93, .t 88]⟩, ⟨some 94, none, .pure (.idx 1), [.t 81, .t 83]⟩, ⟨none, none, .loud (.st 1), [.t 94, .t 92]⟩] [0, 1, 2, 7, 8, 9]))) (.ops [⟨some 66, none, .pure (.mov), [.t 9]⟩, ⟨some 67, none, .pure (.bin .sub), [.t 66, .c (.int .i64 1)]⟩, ⟨some 9, none, .pure (.mov), [.t 67]⟩] [0, 1, 2, 7, 8, 9])))))) (.skip))) (.seq (.ops [⟨some 95, none, .pure (.mov), [.t 2]⟩, ⟨some 96, none, .pure (.mov), [.t 7]⟩, ⟨some 97, none, .pure (.bin .sub), [.t 95, .t 96]⟩, ⟨some 98, none, .pure (.bin .geq), [.t 97, .c (.int .i64 2)]⟩] [0, 1, 2, 7, 8, 98]) (.cond (.t 98) (.seq (.ops [⟨some 99, none, .pure (.mov), [.t 7]⟩, ⟨some 100, none, .pure (.bin .add), [.t 99, .c (.int .i64 1)]⟩, ⟨some 10, none, .pure (.mov), [.t 100]⟩] [0, 1, 2, 7, 8, 10]) (.block 6 (.loop [0, 1, 2, 7, 8, 10] (.seq (.seq (.ops [⟨some 101, none, .pure (.mov), [.t 10]⟩, ⟨some 102, none, .pure (.mov), [.t 2]⟩, ⟨some 103, none, .pure (.bin .lss), [.t 101, .t 102]⟩] [0, 1, 2, 7, 8, 10, 103]) (.cond (.t 103) (.skip) (.exit 6))) (.seq (.block 7 (.seq (.seq (.ops [⟨some 106, none, .pure (.mov), [.t 0]⟩, ⟨some 107, none, .pure (.mov), [.t 10]⟩, ⟨some 108, none, .pure (.idx 1), [.t 106, .t 107]⟩, ⟨some 110, none, .pure (.mov), [.t 0]⟩, ⟨some 111, none, .pure (.mov), [.t 10]⟩, ⟨some 112, none, .pure (.bin .sub), [.t 111, .c (.int .i64 1)]⟩, ⟨some 113, none, .pure (.idx 1), [.t 110, .t 112]⟩, ⟨some 109, none, .load (.ld 1 false), [.t 108]⟩, ⟨some 114, none, .load (.ld 1 false), [.t 113]⟩, ⟨some 115, none, .loud (.call 73), [.t 109, .t 114]⟩, ⟨some 116, none, .pure (.not), [.t 115]⟩] [0, 1, 2, 7, 8, 10, 116]) (.cond (.t 116) (.exit 6) (.skip))) (.ops [⟨some 117, none, .pure (.mov), [.t 0]⟩, ⟨some 118, none, .pure (.mov), [.t 10]⟩, ⟨some 119, none, .pure (.mov), [.t 0]⟩, ⟨some 120, none, .pure (.mov), [.t 10]⟩, ⟨some 121, none, .pure (.bin .sub), [.t 120, .c (.int .i64 1)]⟩, ⟨some 122, none, .pure (.mov), [.t 0]⟩, ⟨some 123, none, .pure (.mov), [.t 10]⟩, ⟨some 124, none, .pure (.bin .sub), [.t 123, .c (.int .i64 1)]⟩, ⟨some 125, none, .pure (.idx 1), [.t 122, .t 124]⟩, ⟨some 127, none, .pure (.mov), [.t 0]⟩, ⟨some 128, none, .pure (.mov), [.t 10]⟩, ⟨some 129, none, .pure (.idx 1), [.t 127, .t 128]⟩, ⟨some 126, none, .load (.ld 1 false), [.t 125]⟩, ⟨some 130, none, .load (.ld 1 false), [.t 129]⟩, ⟨some 131, none, .pure (.idx 1), [.t 117, .t 118]⟩, ⟨none, none, .loud (.st 1), [.t 131, .t 126]⟩, ⟨some 132, none, .pure (.idx 1), [.t 119, .t 121]⟩, ⟨none, none, .loud (.st 1), [.t 132, .t 130]⟩] [0, 1, 2, 7, 8, 10]))) (.ops [⟨some 104, none, .pure (.mov), [.t 10]⟩, ⟨some 105, none, .pure (.bin .add), [.t 104, .c (.int .i64 1)]⟩, ⟨some 10, none, .pure (.mov), [.t 105]⟩] [0, 1, 2, 7, 8, 10])))))) (.skip))))))))) (.ops [⟨some 15, none, .pure (.mov), [.t 8]⟩, ⟨some 16, none, .pure (.bin .add), [.t 15, .c (.int .i64 1)]⟩, ⟨some 8, none, .pure (.mov), [.t 16]⟩] [0, 1, 2, 7, 8])))))) (.seq (.ops [⟨some 6, none, .pure (.mov), [.c (.bool false)]⟩] [6]) (.ret))))
def F72 : Fn Try.prog 72 := Fn.mkX false b72 [.t 6] 133 Try.f72 _ Try.func72 (by decide) rfl Try.ntmps72 (by kernel_rfl) (by kernel_rfl)
/-- cmp.Less[int] -/
def b73 : BC := .seq (.ops [⟨some 4, none, .pure (.mov), [.c (.bool false)]⟩] [0, 1]) (.seq (.ops [⟨some 5, none, .pure (.mov), [.t 0]⟩, ⟨some 6, none, .loud (.call 78), [.t 5]⟩, ⟨some 7, none, .pure (.mov), [.t 6]⟩, ⟨some 8, some (7, true), .pure (.mov), [.t 1]⟩, ⟨some 9, some (7, true), .loud (.call 78), [.t 8]⟩, ⟨some 10, some (7, true), .pure (.not), [.t 9]⟩, ⟨some 11, none, .pick, [.t 7, .t 10, .c (.bool false)]⟩, ⟨some 12, none, .pure (.mov), [.t 11]⟩, ⟨some 13, some (12, false), .pure (.mov), [.t 0]⟩, ⟨some 14, some (12, false), .pure (.mov), [.t 1]⟩, ⟨some 15, some (12, false), .pure (.bin .lss), [.t 13, .t 14]⟩, ⟨some 16, none, .pick, [.t 12, .c (.bool true), .t 15]⟩, ⟨some 4, none, .pure (.mov), [.t 16]⟩] [4]) (.ret))
def F73 : Fn Try.prog 73 := Fn.mkX false b73 [.t 4] 17 Try.f73 _ Try.func73 (by decide) rfl Try.ntmps73 (by kernel_rfl) (by kernel_rfl)
/-- slices.partitionEqualOrdered[int] -/
def b74 : BC := .seq (.ops [⟨some 8, none, .pure (.mov), [.c (.int .i64 0)]⟩] [0, 1, 2, 3]) (.seq (.ops [⟨some 11, none, .pure (.mov), [.t 0]⟩, ⟨some 12, none, .pure (.mov), [.t 1]⟩, ⟨some 13, none, .pure (.mov), [.t 0]⟩, ⟨some 14, none, .pure (.mov), [.t 3]⟩, ⟨some 15, none, .pure (.mov), [.t 0]⟩, ⟨some 16, none, .pure (.mov), [.t 3]⟩, ⟨some 17, none, .pure (.idx 1), [.t 15, .t 16]⟩, ⟨some 19, none, .pure (.mov), [.t 0]⟩, ⟨some 20, none, .pure (.mov), [.t 1]⟩, ⟨some 21, none, .pure (.idx 1), [.t 19, .t 20]⟩, ⟨some 18, none, .load (.ld 1 false), [.t 17]⟩, ⟨some 22, none, .load (.ld 1 false), [.t 21]⟩, ⟨some 23, none, .pure (.idx 1), [.t 11, .t 12]⟩, ⟨none, none, .loud (.st 1), [.t 23, .t 18]⟩, ⟨some 24, none, .pure (.idx 1), [.t 13, .t 14]⟩, ⟨none, none, .loud (.st 1), [.t 24, .t 22]⟩] [0, 1, 2]) (.seq (.ops [⟨some 25, none, .pure (.mov), [.t 1]⟩, ⟨some 26, none, .pure (.bin .add), [.t 25, .c (.int .i64 1)]⟩, ⟨some 27, none, .pure (.mov), [.t 2]⟩, ⟨some 28, none, .pure (.bin .sub), [.t 27, .c (.int .i64 1)]⟩, ⟨some 9, none, .pure (.mov), [.t 26]⟩, ⟨some 10, none, .pure (.mov), [.t 28]⟩] [0, 1, 9, 10]) (.seq (.block 0 (.loop [0, 1, 9, 10] (.block 1 (.seq (.block 2 (.loop [0, 1, 9, 10] (.seq (.seq (.ops [⟨some 29, none, .pure (.mov), [.t 9]⟩, ⟨some 30, none, .pure (.mov), [.t 10]⟩, ⟨some 31, none, .pure (.bin .leq), [.t 29, .t 30]⟩, ⟨some 32, none, .pure (.mov), [.t 31]⟩, ⟨some 33, some (32, true), .pure (.mov), [.t 0]⟩, ⟨some 34, some (32, true), .pure (.mov), [.t 1]⟩, ⟨some 35, some (32, true), .pure (.idx 1), [.t 33, .t 34]⟩, ⟨some 37, some (32, true), .pure (.mov), [.t 0]⟩, ⟨some 38, some (32, true), .pure (.mov), [.t 9]⟩, ⟨some 39, some (32, true), .pure (.idx 1), [.t 37, .t 38]⟩, ⟨some 36, some (32, true), .load (.ld 1 false), [.t 35]⟩, ⟨some 40, some (32, true), .load (.ld 1 false), [.t 39]⟩, ⟨some 41, some (32, true), .loud (.call 73), [.t 36, .t 40]⟩, ⟨some 42, some (32, true), .pure (.not), [.t 41]⟩, ⟨some 43, none, .pick, [.t 32, .t 42, .c (.bool false)]⟩] [0, 1, 9, 10, 43]) (.cond (.t 43) (.skip) (.exit 2))) (.block 3 (.ops [⟨some 44, none, .pure (.mov), [.t 9]⟩, ⟨some 45, none, .pure (.bin .add), [.t 44, .c (.int .i64 1)]⟩, ⟨some 9, none, .pure (.mov), [.t 45]⟩] [0, 1, 9, 10]))))) (.seq (.block 4 (.loop [0, 1, 9, 10] (.seq (.seq (.ops [⟨some 46, none, .pure (.mov), [.t 9]⟩, ⟨some 47, none, .pure (.mov), [.t 10]⟩, ⟨some 48, none, .pure (.bin .leq), [.t 46, .t 47]⟩, ⟨some 49, none, .pure (.mov), [.t 48]⟩, ⟨some 50, some (49, true), .pure (.mov), [.t 0]⟩, ⟨some 51, some (49, true), .pure (.mov), [.t 1]⟩, ⟨some 52, some (49, true), .pure (.idx 1), [.t 50, .t 51]⟩, ⟨some 54, some (49, true), .pure (.mov), [.t 0]⟩, ⟨some 55, some (49, true), .pure (.mov), [.t 10]⟩, ⟨some 56, some (49, true), .pure (.idx 1), [.t 54, .t 55]⟩, ⟨some 53, some (49, true), .load (.ld 1 false), [.t 52]⟩, ⟨some 57, some (49, true), .load (.ld 1 false), [.t 56]⟩, ⟨some 58, some (49, true), .loud (.call 73), [.t 53, .t 57]⟩, ⟨some 59, none, .pick, [.t 49, .t 58, .c (.bool false)]⟩] [0, 1, 9, 10, 59]) (.cond (.t 59) (.skip) (.exit 4))) (.block 5 (.ops [⟨some 60, none, .pure (.mov), [.t 10]⟩, ⟨some 61, none, .pure (.bin .sub), [.t 60, .c (.int .i64 1)]⟩, ⟨some 10, none, .pure (.mov), [.t 61]⟩] [0, 1, 9, 10]))))) (.seq (.seq (.ops [⟨some 62, none, .pure (.mov), [.t 9]⟩, ⟨some 63, none, .pure (.mov), [.t 10]⟩, ⟨some 64, none, .pure (.bin .gtr), [.t 62, .t 63]⟩] [0, 1, 9, 10, 64]) (.cond (.t 64) (.exit 0) (.skip))) (.seq (.ops [⟨some 65, none, .pure (.mov), [.t 0]⟩, ⟨some 66, none, .pure (.mov), [.t 9]⟩, ⟨some 67, none, .pure (.mov), [.t 0]⟩, ⟨some 68, none, .pure (.mov), [.t 10]⟩, ⟨some 69, none, .pure (.mov), [.t 0]⟩, ⟨some 70, none, .pure (.mov), [.t 10]⟩, ⟨some 71, none, .pure (.idx 1), [.t 69, .t 70]⟩, ⟨some 73, none, .pure (.mov), [.t 0]⟩, ⟨some 74, none, .pure (.mov), [.t 9]⟩, ⟨some 75, none, .pure (.idx 1), [.t 73, .t 74]⟩, ⟨some 72, none, .load (.ld 1 false), [.t 71]⟩, ⟨some 76, none, .load (.ld 1 false), [.t 75]⟩, ⟨some 77, none, .pure (.idx 1), [.t 65, .t 66]⟩, ⟨none, none, .loud (.st 1), [.t 77, .t 72]⟩, ⟨some 78, none, .pure (.idx 1), [.t 67, .t 68]⟩, ⟨none, none, .loud (.st 1), [.t 78, .t 76]⟩] [0, 1, 9, 10]) (.seq (.ops [⟨some 79, none, .pure (.mov), [.t 9]⟩, ⟨some 80, none, .pure (.bin .add), [.t 79, .c (.int .i64 1)]⟩, ⟨some 9, none, .pure (.mov), [.t 80]⟩] [0, 1, 9, 10]) (.ops [⟨some 81, none, .pure (.mov), [.t 10]⟩, ⟨some 82, none, .pure (.bin .sub), [.t 81, .c (.int .i64 1)]⟩, ⟨some 10, none, .pure (.mov), [.t 82]⟩] [0, 1, 9, 10]))))))))) (.seq (.ops [⟨some 83, none, .pure (.mov), [.t 9]⟩, ⟨some 8, none, .pure (.mov), [.t 83]⟩] [8]) (.ret)))))
def F74 : Fn Try.prog 74 := Fn.mkX false b74 [.t 8] 84 Try.f74 _ Try.func74 (by decide) rfl Try.ntmps74 (by kernel_rfl) (by kernel_rfl)
/-- slices.partitionOrdered[int] -/
def b75 : BC := .seq (.ops [⟨some 8, none, .pure (.mov), [.c (.int .i64 0)]⟩, ⟨some 9, none, .pure (.mov), [.c (.bool false)]⟩] [0, 1, 2, 3]) (.seq (.ops [⟨some 12, none, .pure (.mov), [.t 0]⟩, ⟨some 13, none, .pure (.mov), [.t 1]⟩, ⟨some 14, none, .pure (.mov), [.t 0]⟩, ⟨some 15, none, .pure (.mov), [.t 3]⟩, ⟨some 16, none, .pure (.mov), [.t 0]⟩, ⟨some 17, none, .pure (.mov), [.t 3]⟩, ⟨some 18, none, .pure (.idx 1), [.t 16, .t 17]⟩, ⟨some 20, none, .pure (.mov), [.t 0]⟩, ⟨some 21, none, .pure (.mov), [.t 1]⟩, ⟨some 22, none, .pure (.idx 1), [.t 20, .t 21]⟩, ⟨some 19, none, .load (.ld 1 false), [.t 18]⟩, ⟨some 23, none, .load (.ld 1 false), [.t 22]⟩, ⟨some 24, none, .pure (.idx 1), [.t 12, .t 13]⟩, ⟨none, none, .loud (.st 1), [.t 24, .t 19]⟩, ⟨some 25, none, .pure (.idx 1), [.t 14, .t 15]⟩, ⟨none, none, .loud (.st 1), [.t 25, .t 23]⟩] [0, 1, 2]) (.seq (.ops [⟨some 26, none, .pure (.mov), [.t 1]⟩, ⟨some 27, none, .pure (.bin .add), [.t 26, .c (.int .i64 1)]⟩, ⟨some 28, none, .pure (.mov), [.t 2]⟩, ⟨some 29, none, .pure (.bin .sub), [.t 28, .c (.int .i64 1)]⟩, ⟨some 10, none, .pure (.mov), [.t 27]⟩, ⟨some 11, none, .pure (.mov), [.t 29]⟩] [0, 1, 10, 11]) (.seq (.block 0 (.loop [0, 1, 10, 11] (.seq (.seq (.ops [⟨some 30, none, .pure (.mov), [.t 10]⟩, ⟨some 31, none, .pure (.mov), [.t 11]⟩, ⟨some 32, none, .pure (.bin .leq), [.t 30, .t 31]⟩, ⟨some 33, none, .pure (.mov), [.t 32]⟩, ⟨some 34, some (33, true), .pure (.mov), [.t 0]⟩, ⟨some 35, some (33, true), .pure (.mov), [.t 10]⟩, ⟨some 36, some (33, true), .pure (.idx 1), [.t 34, .t 35]⟩, ⟨some 38, some (33, true), .pure (.mov), [.t 0]⟩, ⟨some 39, some (33, true), .pure (.mov), [.t 1]⟩, ⟨some 40, some (33, true), .pure (.idx 1), [.t 38, .t 39]⟩, ⟨some 37, some (33, true), .load (.ld 1 false), [.t 36]⟩, ⟨some 41, some (33, true), .load (.ld 1 false), [.t 40]⟩, ⟨some 42, some (33, true), .loud (.call 73), [.t 37, .t 41]⟩, ⟨some 43, none, .pick, [.t 33, .t 42, .c (.bool false)]⟩] [0, 1, 10, 11, 43]) (.cond (.t 43) (.skip) (.exit 0))) (.block 1 (.ops [⟨some 44, none, .pure (.mov), [.t 10]⟩, ⟨some 45, none, .pure (.bin .add), [.t 44, .c (.int .i64 1)]⟩, ⟨some 10, none, .pure (.mov), [.t 45]⟩] [0, 1, 10, 11]))))) (.seq (.block 2 (.loop [0, 1, 10, 11] (.seq (.seq (.ops [⟨some 46, none, .pure (.mov), [.t 10]⟩, ⟨some 47, none, .pure (.mov), [.t 11]⟩, ⟨some 48, none, .pure (.bin .leq), [.t 46, .t 47]⟩, ⟨some 49, none, .pure (.mov), [.t 48]⟩, ⟨some 50, some (49, true), .pure (.mov), [.t 0]⟩, ⟨some 51, some (49, true), .pure (.mov), [.t 11]⟩, ⟨some 52, some (49, true), .pure (.idx 1), [.t 50, .t 51]⟩, ⟨some 54, some (49, true), .pure (.mov), [.t 0]⟩, ⟨some 55, some (49, true), .pure (.mov), [.t 1]⟩, ⟨some 56, some (49, true), .pure (.idx 1), [.t 54, .t 55]⟩, ⟨some 53, some (49, true), .load (.ld 1 false), [.t 52]⟩, ⟨some 57, some (49, true), .load (.ld 1 false), [.t 56]⟩, ⟨some 58, some (49, true), .loud (.call 73), [.t 53, .t 57]⟩, ⟨some 59, some (49, true), .pure (.not), [.t 58]⟩, ⟨some 60, none, .pick, [.t 49, .t 59, .c (.bool false)]⟩] [0, 1, 10, 11, 60]) (.cond (.t 60) (.skip) (.exit 2))) (.block 3 (.ops [⟨some 61, none, .pure (.mov), [.t 11]⟩, ⟨some 62, none, .pure (.bin .sub), [.t 61, .c (.int .i64 1)]⟩, ⟨some 11, none, .pure (.mov), [.t 62]⟩] [0, 1, 10, 11]))))) (.seq (.seq (.ops [⟨some 63, none, .pure (.mov), [.t 10]⟩, ⟨some 64, none, .pure (.mov), [.t 11]⟩, ⟨some 65, none, .pure (.bin .gtr), [.t 63, .t 64]⟩] [0, 1, 10, 11, 65]) (.cond (.t 65) (.seq (.ops [⟨some 66, none, .pure (.mov), [.t 0]⟩, ⟨some 67, none, .pure (.mov), [.t 11]⟩, ⟨some 68, none, .pure (.mov), [.t 0]⟩, ⟨some 69, none, .pure (.mov), [.t 1]⟩, ⟨some 70, none, .pure (.mov), [.t 0]⟩, ⟨some 71, none, .pure (.mov), [.t 1]⟩, ⟨some 72, none, .pure (.idx 1), [.t 70, .t 71]⟩, ⟨some 74, none, .pure (.mov), [.t 0]⟩, ⟨some 75, none, .pure (.mov), [.t 11]⟩, ⟨some 76, none, .pure (.idx 1), [.t 74, .t 75]⟩, ⟨some 73, none, .load (.ld 1 false), [.t 72]⟩, ⟨some 77, none, .load (.ld 1 false), [.t 76]⟩, ⟨some 78, none, .pure (.idx 1), [.t 66, .t 67]⟩, ⟨none, none, .loud (.st 1), [.t 78, .t 73]⟩, ⟨some 79, none, .pure (.idx 1), [.t 68, .t 69]⟩, ⟨none, none, .loud (.st 1), [.t 79, .t 77]⟩] [11]) (.seq (.ops [⟨some 80, none, .pure (.mov), [.t 11]⟩, ⟨some 8, none, .pure (.mov), [.t 80]⟩, ⟨some 9, none, .pure (.mov), [.c (.bool true)]⟩] [8, 9]) (.ret))) (.skip))) (.seq (.ops [⟨some 81, none, .pure (.mov), [.t 0]⟩, ⟨some 82, none, .pure (.mov), [.t 10]⟩, ⟨some 83, none, .pure (.mov), [.t 0]⟩, ⟨some 84, none, .pure (.mov), [.t 11]⟩, ⟨some 85, none, .pure (.mov), [.t 0]⟩, ⟨some 86, none, .pure (.mov), [.t 11]⟩, ⟨some 87, none, .pure (.idx 1), [.t 85, .t 86]⟩, ⟨some 89, none, .pure (.mov), [.t 0]⟩, ⟨some 90, none, .pure (.mov), [.t 10]⟩, ⟨some 91, none, .pure (.idx 1), [.t 89, .t 90]⟩, ⟨some 88, none, .load (.ld 1 false), [.t 87]⟩, ⟨some 92, none, .load (.ld 1 false), [.t 91]⟩, ⟨some 93, none, .pure (.idx 1), [.t 81, .t 82]⟩, ⟨none, none, .loud (.st 1), [.t 93, .t 88]⟩, ⟨some 94, none, .pure (.idx 1), [.t 83, .t 84]⟩, ⟨none, none, .loud (.st 1), [.t 94, .t 92]⟩] [0, 1, 10, 11]) (.seq (.ops [⟨some 95, none, .pure (.mov), [.t 10]⟩, ⟨some 96, none, .pure (.bin .add), [.t 95, .c (.int .i64 1)]⟩, ⟨some 10, none, .pure (.mov), [.t 96]⟩] [0, 1, 10, 11]) (.seq (.ops [⟨some 97, none, .pure (.mov), [.t 11]⟩, ⟨some 98, none, .pure (.bin .sub), [.t 97, .c (.int .i64 1)]⟩, ⟨some 11, none, .pure (.mov), [.t 98]⟩] [0, 1, 10, 11]) (.seq (.block 4 (.loop [0, 1, 10, 11] (.block 5 (.seq (.block 6 (.loop [0, 1, 10, 11] (.seq (.seq (.ops [⟨some 99, none, .pure (.mov), [.t 10]⟩, ⟨some 100, none, .pure (.mov), [.t 11]⟩, ⟨some 101, none, .pure (.bin .leq), [.t 99, .t 100]⟩, ⟨some 102, none, .pure (.mov), [.t 101]⟩, ⟨some 103, some (102, true), .pure (.mov), [.t 0]⟩, ⟨some 104, some (102, true), .pure (.mov), [.t 10]⟩, ⟨some 105, some (102, true), .pure (.idx 1), [.t 103, .t 104]⟩, ⟨some 107, some (102, true), .pure (.mov), [.t 0]⟩, ⟨some 108, some (102, true), .pure (.mov), [.t 1]⟩, ⟨some 109, some (102, true), .pure (.idx 1), [.t 107, .t 108]⟩, ⟨some 106, some (102, true), .load (.ld 1 false), [.t 105]⟩, ⟨some 110, some (102, true), .load (.ld 1 false), [.t 109]⟩, ⟨some 111, some (102, true), .loud (.call 73), [.t 106, .t 110]⟩, ⟨some 112, none, .pick, [.t 102, .t 111, .c (.bool false)]⟩] [0, 1, 10, 11, 112]) (.cond (.t 112) (.skip) (.exit 6))) (.block 7 (.ops [⟨some 113, none, .pure (.mov), [.t 10]⟩, ⟨some 114, none, .pure (.bin .add), [.t 113, .c (.int .i64 1)]⟩, ⟨some 10, none, .pure (.mov), [.t 114]⟩] [0, 1, 10, 11]))))) (.seq (.block 8 (.loop [0, 1, 10, 11] (.seq (.seq (.ops [⟨some 115, none, .pure (.mov), [.t 10]⟩, ⟨some 116, none, .pure (.mov), [.t 11]⟩, ⟨some 117, none, .pure (.bin .leq), [.t 115, .t 116]⟩, ⟨some 118, none, .pure (.mov), [.t 117]⟩, ⟨some 119, some (118, true), .pure (.mov), [.t 0]⟩, ⟨some 120, some (118, true), .pure (.mov), [.t 11]⟩, ⟨some 121, some (118, true), .pure (.idx 1), [.t 119, .t 120]⟩, ⟨some 123, some (118, true), .pure (.mov), [.t 0]⟩, ⟨some 124, some (118, true), .pure (.mov), [.t 1]⟩, ⟨some 125, some (118, true), .pure (.idx 1), [.t 123, .t 124]⟩, ⟨some 122, some (118, true), .load (.ld 1 false), [.t 121]⟩, ⟨some 126, some (118, true), .load (.ld 1 false), [.t 125]⟩, ⟨some 127, some (118, true), .loud (.call 73), [.t 122, .t 126]⟩, ⟨some 128, some (118, true), .pure (.not), [.t 127]⟩, ⟨some 129, none, .pick, [.t 118, .t 128, .c (.bool false)]⟩] [0, 1, 10, 11, 129]) (.cond (.t 129) (.skip) (.exit 8))) (.block 9 (.ops [⟨some 130, none, .pure (.mov), [.t 11]⟩, ⟨some 131, none, .pure (.bin .sub), [.t 130, .c (.int .i64 1)]⟩, ⟨some 11, none, .pure (.mov), [.t 131]⟩] [0, 1, 10, 11]))))) (.seq (.seq (.ops [⟨some 132, none, .pure (.mov), [.t 10]⟩, ⟨some 133, none, .pure (.mov), [.t 11]⟩, ⟨some 134, none, .pure (.bin .gtr), [.t 132, .t 133]⟩] [0, 1, 10, 11, 134]) (.cond (.t 134) (.exit 4) (.skip))) (.seq (.ops [⟨some 135, none, .pure (.mov), [.t 0]⟩, ⟨some 136, none, .pure (.mov), [.t 10]⟩, ⟨some 137, none, .pure (.mov), [.t 0]⟩, ⟨some 138, none, .pure (.mov), [.t 11]⟩, ⟨some 139, none, .pure (.mov), [.t 0]⟩, ⟨some 140, none, .pure (.mov), [.t 11]⟩, ⟨some 141, none, .pure (.idx 1), [.t 139, .t 140]⟩, ⟨some 143, none, .pure (.mov), [.t 0]⟩, ⟨some 144, none, .pure (.mov), [.t 10]⟩, ⟨some 145, none, .pure (.idx 1), [.t 143, .t 144]⟩, ⟨some 142, none, .load (.ld 1 false), [.t 141]⟩, ⟨some 146, none, .load (.ld 1 false), [.t 145]⟩, ⟨some 147, none, .pure (.idx 1), [.t 135, .t 136]⟩, ⟨none, none, .loud (.st 1), [.t 147, .t 142]⟩, ⟨some 148, none, .pure (.idx 1), [.t 137, .t 138]⟩, ⟨none, none, .loud (.st 1), [.t 148, .t 146]⟩] [0, 1, 10, 11]) (.seq (.ops [⟨some 149, none, .pure (.mov), [.t 10]⟩, ⟨some 150, none, .pure (.bin .add), [.t 149, .c (.int .i64 1)]⟩, ⟨some 10, none, .pure (.mov), [.t 150]⟩] [0, 1, 10, 11]) (.ops [⟨some 151, none, .pure (.mov), [.t 11]⟩, ⟨some 152, none, .pure (.bin .sub), [.t 151, .c (.int .i64 1)]⟩, ⟨some 11, none, .pure (.mov), [.t 152]⟩] [0, 1, 10, 11]))))))))) (.seq (.ops [⟨some 153, none, .pure (.mov), [.t 0]⟩, ⟨some 154, none, .pure (.mov), [.t 11]⟩, ⟨some 155, none, .pure (.mov), [.t 0]⟩, ⟨some 156, none, .pure (.mov), [.t 1]⟩, ⟨some 157, none, .pure (.mov), [.t 0]⟩, ⟨some 158, none, .pure (.mov), [.t 1]⟩, ⟨some 159, none, .pure (.idx 1), [.t 157, .t 158]⟩, ⟨some 161, none, .pure (.mov), [.t 0]⟩, ⟨some 162, none, .pure (.mov), [.t 11]⟩, ⟨some 163, none, .pure (.idx 1), [.t 161, .t 162]⟩, ⟨some 160, none, .load (.ld 1 false), [.t 159]⟩, ⟨some 164, none, .load (.ld 1 false), [.t 163]⟩, ⟨some 165, none, .pure (.idx 1), [.t 153, .t 154]⟩, ⟨none, none, .loud (.st 1), [.t 165, .t 160]⟩, ⟨some 166, none, .pure (.idx 1), [.t 155, .t 156]⟩, ⟨none, none, .loud (.st 1), [.t 166, .t 164]⟩] [11]) (.seq (.ops [⟨some 167, none, .pure (.mov), [.t 11]⟩, ⟨some 8, none, .pure (.mov), [.t 167]⟩, ⟨some 9, none, .pure (.mov), [.c (.bool false)]⟩] [8, 9]) (.ret))))))))))))
def F75 : Fn Try.prog 75 := Fn.mkX false b75 [.t 8, .t 9] 168 Try.f75 _ Try.func75 (by decide) rfl Try.ntmps75 (by kernel_rfl) (by kernel_rfl)
/-- math/bits.Len32 -/
def b76 : BC := .seq (.ops [⟨some 2, none, .pure (.mov), [.c (.int .i64 0)]⟩] [0, 2]) (.seq (.seq (.ops [⟨some 3, none, .pure (.mov), [.t 0]⟩, ⟨some 4, none, .pure (.bin .geq), [.t 3, .c (.int .u32 65536)]⟩] [0, 2, 4]) (.cond (.t 4) (.seq (.ops [⟨some 5, none, .pure (.mov), [.t 0]⟩, ⟨some 6, none, .pure (.bin .shr), [.t 5, .c (.int .u64 16)]⟩, ⟨some 0, none, .pure (.mov), [.t 6]⟩] [0]) (.ops [⟨some 2, none, .pure (.mov), [.c (.int .i64 16)]⟩] [0, 2])) (.skip))) (.seq (.seq (.ops [⟨some 7, none, .pure (.mov), [.t 0]⟩, ⟨some 8, none, .pure (.bin .geq), [.t 7, .c (.int .u32 256)]⟩] [0, 2, 8]) (.cond (.t 8) (.seq (.ops [⟨some 9, none, .pure (.mov), [.t 0]⟩, ⟨some 10, none, .pure (.bin .shr), [.t 9, .c (.int .u64 8)]⟩, ⟨some 0, none, .pure (.mov), [.t 10]⟩] [0, 2]) (.ops [⟨some 11, none, .pure (.mov), [.t 2]⟩, ⟨some 12, none, .pure (.bin .add), [.t 11, .c (.int .i64 8)]⟩, ⟨some 2, none, .pure (.mov), [.t 12]⟩] [0, 2])) (.skip))) (.seq (.ops [⟨some 13, none, .pure (.mov), [.t 2]⟩, ⟨some 14, none, .pure (.mov), [.t 0]⟩, ⟨some 15, none, .pure (.conv .u8), [.t 14]⟩, ⟨some 16, none, .pure (.idxs), [.c (.str str0), .t 15]⟩, ⟨some 17, none, .pure (.conv .i64), [.t 16]⟩, ⟨some 18, none, .pure (.bin .add), [.t 13, .t 17]⟩, ⟨some 2, none, .pure (.mov), [.t 18]⟩] [2]) (.ret))))
def F76 : Fn Try.prog 76 := Fn.mkX false b76 [.t 2] 19 Try.f76 _ Try.func76 (by decide) rfl Try.ntmps76 (by kernel_rfl) (by kernel_rfl)
/-- signpost/aspath.right -/
def b84 : BC := .seq (.ops [⟨some 1, none, .alloc (.box), [.t 0]⟩, ⟨some 2, none, .pure (.mov), [.c (.bool false)]⟩] [1]) (.seq (.ops [⟨some 3, none, .pure (.fld 0), [.t 1]⟩, ⟨some 4, none, .load (.ld 1 false), [.t 3]⟩, ⟨some 5, none, .pure (.bin .eql), [.t 4, .c (.int .i64 1)]⟩, ⟨some 6, none, .pure (.mov), [.t 5]⟩, ⟨some 7, some (6, false), .pure (.fld 0), [.t 1]⟩, ⟨some 8, some (6, false), .load (.ld 1 false), [.t 7]⟩, ⟨some 9, some (6, false), .pure (.bin .eql), [.t 8, .c (.int .i64 2)]⟩, ⟨some 10, none, .pick, [.t 6, .c (.bool true), .t 9]⟩, ⟨some 11, none, .pure (.mov), [.t 10]⟩, ⟨some 12, some (11, true), .pure (.fld 1), [.t 1]⟩, ⟨some 13, some (11, true), .load (.ld 1 false), [.t 12]⟩, ⟨some 14, some (11, true), .pure (.len), [.t 13]⟩, ⟨some 15, some (11, true), .pure (.bin .geq), [.t 14, .c (.int .i64 1)]⟩, ⟨some 16, none, .pick, [.t 11, .t 15, .c (.bool false)]⟩, ⟨some 17, none, .pure (.mov), [.t 16]⟩, ⟨some 18, some (17, true), .pure (.fld 1), [.t 1]⟩, ⟨some 19, some (17, true), .load (.ld 1 false), [.t 18]⟩, ⟨some 20, some (17, true), .pure (.len), [.t 19]⟩, ⟨some 21, some (17, true), .pure (.bin .leq), [.t 20, .c (.int .i64 255)]⟩, ⟨some 22, none, .pick, [.t 17, .t 21, .c (.bool false)]⟩, ⟨some 2, none, .pure (.mov), [.t 22]⟩] [2]) (.ret))
def F84 : Fn Try.prog 84 := Fn.mkX false b84 [.t 2] 23 Try.f84 _ Try.func84 (by decide) rfl Try.ntmps84 (by kernel_rfl) (by kernel_rfl)
/-- slices.siftDownOrdered[int] -/
def b85 : BC := .seq (.ops [⟨some 10, none, .pure (.mov), [.t 1]⟩, ⟨some 8, none, .pure (.mov), [.t 10]⟩] [0, 2, 3, 8]) (.block 0 (.loop [0, 2, 3, 8] (.block 1 (.seq (.ops [⟨some 11, none, .pure (.mov), [.t 8]⟩, ⟨some 12, none, .pure (.bin .mul), [.c (.int .i64 2), .t 11]⟩, ⟨some 13, none, .pure (.bin .add), [.t 12, .c (.int .i64 1)]⟩, ⟨some 9, none, .pure (.mov), [.t 13]⟩] [0, 2, 3, 8, 9]) (.seq (.seq (.ops [⟨some 14, none, .pure (.mov), [.t 9]⟩, ⟨some 15, none, .pure (.mov), [.t 2]⟩, ⟨some 16, none, .pure (.bin .geq), [.t 14, .t 15]⟩] [0, 2, 3, 8, 9, 16]) (.cond (.t 16) (.exit 0) (.skip))) (.seq (.seq (.ops [⟨some 17, none, .pure (.mov), [.t 9]⟩, ⟨some 18, none, .pure (.bin .add), [.t 17, .c (.int .i64 1)]⟩, ⟨some 19, none, .pure (.mov), [.t 2]⟩, ⟨some 20, none, .pure (.bin .lss), [.t 18, .t 19]⟩, ⟨some 21, none, .pure (.mov), [.t 20]⟩, ⟨some 22, some (21, true), .pure (.mov), [.t 0]⟩, ⟨some 23, some (21, true), .pure (.mov), [.t 3]⟩, ⟨some 24, some (21, true), .pure (.mov), [.t 9]⟩, ⟨some 25, some (21, true), .pure (.bin .add), [.t 23, .t 24]⟩, ⟨some 26, some (21, true), .pure (.idx 1), [.t 22, .t 25]⟩, ⟨some 28, some (21, true), .pure (.mov), [.t 0]⟩, ⟨some 29, some (21, true), .pure (.mov), [.t 3]⟩, ⟨some 30, some (21, true), .pure (.mov), [.t 9]⟩, ⟨some 31, some (21, true), .pure (.bin .add), [.t 29, .t 30]⟩, ⟨some 32, some (21, true), .pure (.bin .add), [.t 31, .c (.int .i64 1)]⟩, ⟨some 33, some (21, true), .pure (.idx 1), [.t 28, .t 32]⟩, ⟨some 27, some (21, true), .load (.ld 1 false), [.t 26]⟩, ⟨some 34, some (21, true), .load (.ld 1 false), [.t 33]⟩, ⟨some 35, some (21, true), .loud (.call 73), [.t 27, .t 34]⟩, ⟨some 36, none, .pick, [.t 21, .t 35, .c (.bool false)]⟩] [0, 2, 3, 8, 9, 36]) (.cond (.t 36) (.ops [⟨some 37, none, .pure (.mov), [.t 9]⟩, ⟨some 38, none, .pure (.bin .add), [.t 37, .c (.int .i64 1)]⟩, ⟨some 9, none, .pure (.mov), [.t 38]⟩] [0, 2, 3, 8, 9]) (.skip))) (.seq (.seq (.ops [⟨some 39, none, .pure (.mov), [.t 0]⟩, ⟨some 40, none, .pure (.mov), [.t 3]⟩, ⟨some 41, none, .pure (.mov), [.t 8]⟩, ⟨some 42, none, .pure (.bin .add), [.t 40, .t 41]⟩, ⟨some 43, none, .pure (.idx 1), [.t 39, .t 42]⟩, ⟨some 45, none, .pure (.mov), [.t 0]⟩, ⟨some 46, none, .pure (.mov), [.t 3]⟩, ⟨some 47, none, .pure (.mov), [.t 9]⟩, ⟨some 48, none, .pure (.bin .add), [.t 46, .t 47]⟩, ⟨some 49, none, .pure (.idx 1), [.t 45, .t 48]⟩, ⟨some 44, none, .load (.ld 1 false), [.t 43]⟩, ⟨some 50, none, .load (.ld 1 false), [.t 49]⟩, ⟨some 51, none, .loud (.call 73), [.t 44, .t 50]⟩, ⟨some 52, none, .pure (.not), [.t 51]⟩] [0, 2, 3, 8, 9, 52]) (.cond (.t 52) (.ret) (.skip))) (.seq (.ops [⟨some 53, none, .pure (.mov), [.t 0]⟩, ⟨some 54, none, .pure (.mov), [.t 3]⟩, ⟨some 55, none, .pure (.mov), [.t 8]⟩, ⟨some 56, none, .pure (.bin .add), [.t 54, .t 55]⟩, ⟨some 57, none, .pure (.mov), [.t 0]⟩, ⟨some 58, none, .pure (.mov), [.t 3]⟩, ⟨some 59, none, .pure (.mov), [.t 9]⟩, ⟨some 60, none, .pure (.bin .add), [.t 58, .t 59]⟩, ⟨some 61, none, .pure (.mov), [.t 0]⟩, ⟨some 62, none, .pure (.mov), [.t 3]⟩, ⟨some 63, none, .pure (.mov), [.t 9]⟩, ⟨some 64, none, .pure (.bin .add), [.t 62, .t 63]⟩, ⟨some 65, none, .pure (.idx 1), [.t 61, .t 64]⟩, ⟨some 67, none, .pure (.mov), [.t 0]⟩, ⟨some 68, none, .pure (.mov), [.t 3]⟩, ⟨some 69, none, .pure (.mov), [.t 8]⟩, ⟨some 70, none, .pure (.bin .add), [.t 68, .t 69]⟩, ⟨some 71, none, .pure (.idx 1), [.t 67, .t 70]⟩, ⟨some 66, none, .load (.ld 1 false), [.t 65]⟩, ⟨some 72, none, .load (.ld 1 false), [.t 71]⟩, ⟨some 73, none, .pure (.idx 1), [.t 53, .t 56]⟩, ⟨none, none, .loud (.st 1), [.t 73, .t 66]⟩, ⟨some 74, none, .pure (.idx 1), [.t 57, .t 60]⟩, ⟨none, none, .loud (.st 1), [.t 74, .t 72]⟩] [0, 2, 3, 9]) (.ops [⟨some 75, none, .pure (.mov), [.t 9]⟩, ⟨some 8, none, .pure (.mov), [.t 75]⟩] [0, 2, 3, 8])))))))))
def F85 : Fn Try.prog 85 := Fn.mkX false b85 [] 76 Try.f85 _ Try.func85 (by decide) rfl Try.ntmps85 (by kernel_rfl) (by kernel_rfl)
/-- slices.medianAdjacentOrdered[int] -/
def b88 : BC := .seq (.ops [⟨some 6, none, .pure (.mov), [.c (.int .i64 0)]⟩] [0, 1, 2]) (.seq (.ops [⟨some 7, none, .pure (.mov), [.t 0]⟩, ⟨some 8, none, .pure (.mov), [.t 1]⟩, ⟨some 9, none, .pure (.bin .sub), [.t 8, .c (.int .i64 1)]⟩, ⟨some 10, none, .pure (.mov), [.t 1]⟩, ⟨some 11, none, .pure (.mov), [.t 1]⟩, ⟨some 12, none, .pure (.bin .add), [.t 11, .c (.int .i64 1)]⟩, ⟨some 13, none, .pure (.mov), [.t 2]⟩, ⟨some 14, none, .loud (.call 89), [.t 7, .t 9, .t 10, .t 12, .t 13]⟩, ⟨some 6, none, .pure (.mov), [.t 14]⟩] [6]) (.ret))
def F88 : Fn Try.prog 88 := Fn.mkX false b88 [.t 6] 15 Try.f88 _ Try.func88 (by decide) rfl Try.ntmps88 (by kernel_rfl) (by kernel_rfl)
/-- slices.medianOrdered[int] -/
def b89 : BC := .seq (.ops [⟨some 10, none, .pure (.mov), [.c (.int .i64 0)]⟩] [0, 1, 2, 3, 4]) (.seq (.ops [⟨some 12, none, .pure (.mov), [.t 0]⟩, ⟨some 13, none, .pure (.mov), [.t 1]⟩, ⟨some 14, none, .pure (.mov), [.t 2]⟩, ⟨some 15, none, .pure (.mov), [.t 4]⟩, ⟨some 16, none, .loud (.call 99), [.t 12, .t 13, .t 14, .t 15]⟩, ⟨some 11, none, .pure (.mov), [.t 16]⟩, ⟨some 17, none, .pure (.ext 0), [.t 11]⟩, ⟨some 18, none, .pure (.ext 1), [.t 11]⟩, ⟨some 1, none, .pure (.mov), [.t 17]⟩, ⟨some 2, none, .pure (.mov), [.t 18]⟩] [0, 1, 2, 3, 4]) (.seq (.ops [⟨some 20, none, .pure (.mov), [.t 0]⟩, ⟨some 21, none, .pure (.mov), [.t 2]⟩, ⟨some 22, none, .pure (.mov), [.t 3]⟩, ⟨some 23, none, .pure (.mov), [.t 4]⟩, ⟨some 24, none, .loud (.call 99), [.t 20, .t 21, .t 22, .t 23]⟩, ⟨some 19, none, .pure (.mov), [.t 24]⟩, ⟨some 25, none, .pure (.ext 0), [.t 19]⟩, ⟨some 26, none, .pure (.ext 1), [.t 19]⟩, ⟨some 2, none, .pure (.mov), [.t 25]⟩, ⟨some 3, none, .pure (.mov), [.t 26]⟩] [0, 1, 2, 4]) (.seq (.ops [⟨some 28, none, .pure (.mov), [.t 0]⟩, ⟨some 29, none, .pure (.mov), [.t 1]⟩, ⟨some 30, none, .pure (.mov), [.t 2]⟩, ⟨some 31, none, .pure (.mov), [.t 4]⟩, ⟨some 32, none, .loud (.call 99), [.t 28, .t 29, .t 30, .t 31]⟩, ⟨some 27, none, .pure (.mov), [.t 32]⟩, ⟨some 33, none, .pure (.ext 0), [.t 27]⟩, ⟨some 34, none, .pure (.ext 1), [.t 27]⟩, ⟨some 1, none, .pure (.mov), [.t 33]⟩, ⟨some 2, none, .pure (.mov), [.t 34]⟩] [2]) (.seq (.ops [⟨some 35, none, .pure (.mov), [.t 2]⟩, ⟨some 10, none, .pure (.mov), [.t 35]⟩] [10]) (.ret)))))
def F89 : Fn Try.prog 89 := Fn.mkX false b89 [.t 10] 36 Try.f89 _ Try.func89 (by decide) rfl Try.ntmps89 (by kernel_rfl) (by kernel_rfl)
/-- slices.order2Ordered[int] -/
def b99 : BC := .seq (.ops [⟨some 8, none, .pure (.mov), [.c (.int .i64 0)]⟩, ⟨some 9, none, .pure (.mov), [.c (.int .i64 0)]⟩] [0, 1, 2, 3]) (.seq (.seq (.ops [⟨some 10, none, .pure (.mov), [.t 0]⟩, ⟨some 11, none, .pure (.mov), [.t 2]⟩, ⟨some 12, none, .pure (.idx 1), [.t 10, .t 11]⟩, ⟨some 14, none, .pure (.mov), [.t 0]⟩, ⟨some 15, none, .pure (.mov), [.t 1]⟩, ⟨some 16, none, .pure (.idx 1), [.t 14, .t 15]⟩, ⟨some 13, none, .load (.ld 1 false), [.t 12]⟩, ⟨some 17, none, .load (.ld 1 false), [.t 16]⟩, ⟨some 18, none, .loud (.call 73), [.t 13, .t 17]⟩] [1, 2, 3, 18]) (.cond (.t 18) (.seq (.ops [⟨some 19, none, .pure (.mov), [.t 3]⟩, ⟨some 20, none, .pure (.nilchk), [.t 19]⟩, ⟨some 21, none, .load (.ld 1 false), [.t 20]⟩, ⟨some 22, none, .pure (.bin .add), [.t 21, .c (.int .i64 1)]⟩, ⟨some 23, none, .pure (.nilchk), [.t 19]⟩, ⟨none, none, .loud (.st 1), [.t 23, .t 22]⟩] [1, 2]) (.seq (.ops [⟨some 24, none, .pure (.mov), [.t 2]⟩, ⟨some 25, none, .pure (.mov), [.t 1]⟩, ⟨some 8, none, .pure (.mov), [.t 24]⟩, ⟨some 9, none, .pure (.mov), [.t 25]⟩] [8, 9]) (.ret))) (.skip))) (.seq (.ops [⟨some 26, none, .pure (.mov), [.t 1]⟩, ⟨some 27, none, .pure (.mov), [.t 2]⟩, ⟨some 8, none, .pure (.mov), [.t 26]⟩, ⟨some 9, none, .pure (.mov), [.t 27]⟩] [8, 9]) (.ret)))
def F99 : Fn Try.prog 99 := Fn.mkX false b99 [.t 8, .t 9] 28 Try.f99 _ Try.func99 (by decide) rfl Try.ntmps99 (by kernel_rfl) (by kernel_rfl)
end Go.Am.Tst

/- B1z -/
namespace Go.Am
open Go.Proofs Go.Sort

def sideF (b : Bool) : Int := if b then -1 else 1
theorem c63 (b : Bool) : Pur Try.prog 63 [.bool b] (.int .i64 (sideF b)) := by
  refine pur_of Tst.F63 (by simp [Tst.F63, Fn.mkX]) fun σ => ?_
  simp only [Tst.F63, Fn.mkX, Tst.b63]
  cases b <;> simp only [↓vcPre, ↓wit_get, ↓reduceIte, vcPost, vcStd, Nat.reduceEqDiff, reduceCtorEq, Nat.reduceAdd, Nat.reduceLeDiff, Int.reduceLT, Int.reduceLE, ↓u_setN] <;> rfl
theorem c37 (l m : List Int) (h : l.length ≤ 1000000) : Pur Try.prog 37 [.sl 1 (l.map cU), .sl 1 (m.map cU)] (.bool (decide (l = m))) := by
  refine pur_of Tst.F37 (by simp [Tst.F37, Fn.mkX]) fun σ => ?_
  simp only [Tst.F37, Fn.mkX, Tst.b37]
  simp only [↓vcPre, ↓wit_get, ↓reduceIte, vcPost, vcStd, Nat.reduceEqDiff, reduceCtorEq, Nat.reduceAdd, Nat.reduceLeDiff, Int.reduceLT, Int.reduceLE, ↓u_setN]
  refine ⟨fun h1 => (decide_eq_false (fun e => h1 (by rw [e]))).symm, fun h1 => ?_⟩
  have hl : l.length = m.length := by omega
  refine LoopQ.inv (S := Nat) (fun k => [(0, .sl 1 (l.map cU)), (1, .sl 1 (m.map cU)), (5, .int .i64 (k : Int))]) (fun _ => σ) (fun k => k ≤ l.length ∧ ∀ i (hi : i < l.length), i < k → l[i] = m[i]'(by omega)) (fun k => l.length + 1 - k) 0 rfl (Store.sub_refl _) ⟨by omega, fun i _ h => by omega⟩ ?_
  rintro k ⟨hk, hp⟩
  simp only [↓vcPre, ↓wit_get, ↓reduceIte, vcPost, vcStd, Nat.reduceEqDiff, reduceCtorEq, Nat.reduceAdd, Nat.reduceLeDiff, Int.reduceLT, Int.reduceLE, ↓u_setN]
  refine ⟨fun c1 => ?_, fun c1 => ?_⟩
  · have ek : IntKind.i64.wrap ((k : Int) + 1) = ((k + 1 : Nat) : Int) := by rw [wrap64 (by unfold I64; omega)]; omega
    refine ⟨c1, by omega, by simp [cU], ?_⟩
    simp only [cU, ↓vcPre, ↓wit_get, ↓reduceIte, vcPost, vcStd, Nat.reduceEqDiff, reduceCtorEq, Nat.reduceAdd, Nat.reduceLeDiff, Int.reduceLT, Int.reduceLE, ↓u_setN]
    refine ⟨fun g1 => ?_, fun g1 => ?_⟩
    · refine (decide_eq_false fun e => g1 ?_).symm
      subst e; rfl
    · rw [ek]
      refine NextQ.to (k + 1) rfl (Store.sub_refl _) (by omega) ⟨by omega, fun i hi hik => ?_⟩
      by_cases hik' : i = k
      · subst hik'; exact g1
      · exact hp i hi (by omega)
  · exact (decide_eq_true (List.ext_getElem hl fun i hi hi' => hp i hi (by omega))).symm
theorem c36 (l m : List Seg) (hl : l.length ≤ 1000000) (hm : m.length ≤ 1000000) (hlo : ∀ s ∈ l, s.ok) (hmo : ∀ s ∈ m, s.ok) : Pur Try.prog 36 [.sl 2 (l.map Seg.c), .sl 2 (m.map Seg.c)] (.int .i64 (cmpPath l m)) := by
  refine pur_of Tst.F36 (by simp [Tst.F36, Fn.mkX]) fun σ => ?_
  simp only [Tst.F36, Fn.mkX, Tst.b36]
  simp only [↓vcPre, ↓wit_get, ↓reduceIte, vcPost, vcStd, Nat.reduceEqDiff, reduceCtorEq, Nat.reduceAdd, Nat.reduceLeDiff, Int.reduceLT, Int.reduceLE, ↓u_setN]
  refine LoopQ.inv (S := Nat) (fun k => [(0, .sl 2 (l.map Seg.c)), (1, .sl 2 (m.map Seg.c)), (5, .int .i64 (k : Int))]) (fun _ => σ) (fun k => k ≤ l.length ∧ k ≤ m.length ∧ cmpG cmpSeg (l.drop k) (m.drop k) = cmpPath l m) (fun k => l.length + 1 - k) 0 rfl (Store.sub_refl _) ⟨by omega, by omega, rfl⟩ ?_
  rintro k ⟨hk, hk2, ho⟩
  simp only [↓vcPre, ↓wit_get, ↓reduceIte, vcPost, vcStd, Nat.reduceEqDiff, reduceCtorEq, Nat.reduceAdd, Nat.reduceLeDiff, Int.reduceLT, Int.reduceLE, ↓u_setN]
  have hside : ∀ x y : Int, x ≠ y → sideF (decide (x < y)) = cmpI x y := fun x y h => by
    unfold sideF cmpI
    by_cases h1 : x < y
    · simp [h1]
    · have h2 : y < x := by omega
      simp [h1, h2]
  have he1 : (k = l.length ∨ k = m.length) → ¬ (l.length : Int) = (m.length : Int) → sideF (decide (l.length < m.length)) = cmpPath l m := fun hkk h1 => by
    rw [← ho]
    by_cases h2 : l.length < m.length
    · rw [show List.drop k l = [] from List.drop_eq_nil_of_le (by omega), List.drop_eq_getElem_cons (l := m) (by omega)]
      simp [sideF, cmpG, h2]
    · rw [show List.drop k m = [] from List.drop_eq_nil_of_le (by omega), List.drop_eq_getElem_cons (l := l) (by omega)]
      simp [sideF, cmpG, h2]
  have he2 : (k = l.length ∨ k = m.length) → (l.length : Int) = (m.length : Int) → 0 = cmpPath l m := fun hkk h1 => by
    rw [← ho, show List.drop k l = [] from List.drop_eq_nil_of_le (by omega), show List.drop k m = [] from List.drop_eq_nil_of_le (by omega)]
    rfl
  refine ⟨fun c1 => ⟨fun c2 => ?_, fun c2 => ?_⟩, fun c1 => ?_⟩
  · rw [List.drop_eq_getElem_cons c1, List.drop_eq_getElem_cons c2] at ho
    simp only [cmpG] at ho
    refine ⟨c1, c2, by simp [Seg.c], ?_⟩
    have hxo := hlo _ (List.getElem_mem c1)
    have hyo := hmo _ (List.getElem_mem c2)
    have hc1 : cmpSeg l[k] m[k] = orL [cmpI l[k].kind m[k].kind, cmpI l[k].ls.length m[k].ls.length, cmpG cmpI l[k].ls m[k].ls] := rfl
    simp only [Seg.c, ↓vcPre, ↓wit_get, ↓reduceIte, vcPost, vcStd, Nat.reduceEqDiff, reduceCtorEq, Nat.reduceAdd, Nat.reduceLeDiff, Int.reduceLT, Int.reduceLE, ↓u_setN]
    refine ⟨fun g1 => ⟨c1, c2, (c63 _).Q ?_⟩, fun g1 => ⟨c1, c2, fun g2 => ⟨c1, c2, (c63 _).Q ?_⟩, fun g2 => ?_⟩⟩
    · have hz : cmpI l[k].kind m[k].kind ≠ 0 := fun e => g1 (cmpI_z.1 e)
      have h1 : cmpSeg l[k] m[k] = cmpI l[k].kind m[k].kind := by rw [hc1]; simp only [orL]; rw [if_neg hz]
      simp only [↓vcPre, ↓wit_get, ↓reduceIte, vcPost, vcStd, Nat.reduceEqDiff, reduceCtorEq, Nat.reduceAdd, Nat.reduceLeDiff, Int.reduceLT, Int.reduceLE, ↓u_setN]
      rw [hside _ _ g1, ← ho, if_neg (by rw [h1]; exact hz), h1]
    · have hz : cmpI l[k].ls.length m[k].ls.length ≠ 0 := fun e => g2 (cmpI_z.1 e)
      have h1 : cmpSeg l[k] m[k] = cmpI l[k].ls.length m[k].ls.length := by rw [hc1]; simp only [orL]; rw [if_pos (cmpI_z.2 g1), if_neg hz]
      have h2 := hside _ _ g2
      simp only [Int.ofNat_lt] at h2
      simp only [↓vcPre, ↓wit_get, ↓reduceIte, vcPost, vcStd, Nat.reduceEqDiff, reduceCtorEq, Nat.reduceAdd, Nat.reduceLeDiff, Int.reduceLT, Int.reduceLE, ↓u_setN]
      rw [h2, ← ho, if_neg (by rw [h1]; exact hz), h1]
    · have h1 : cmpSeg l[k] m[k] = cmpG cmpI l[k].ls m[k].ls := by
        rw [hc1]; simp only [orL]; rw [if_pos (cmpI_z.2 g1), if_pos (cmpI_z.2 g2)]
        split
        · rename_i h; rw [h]
        · rfl
      rw [h1] at ho
      unfold Seg.ok at hxo hyo
      refine LoopQ.inv (S := Nat) (fun j => [(0, .sl 2 (l.map Seg.c)), (1, .sl 2 (m.map Seg.c)), (5, .int .i64 (k : Int)), (6, .int .i64 (j : Int))]) (fun _ => σ) (fun j => j ≤ l[k].ls.length ∧ cmpG cmpI (l[k].ls.drop j) (m[k].ls.drop j) = cmpG cmpI l[k].ls m[k].ls) (fun j => l[k].ls.length + 1 - j) 0 rfl (Store.sub_refl _) ⟨by omega, rfl⟩ ?_
      rintro j ⟨hj, hjo⟩
      simp only [Seg.c, ↓vcPre, ↓wit_get, ↓reduceIte, vcPost, vcStd, Nat.reduceEqDiff, reduceCtorEq, Nat.reduceAdd, Nat.reduceLeDiff, Int.reduceLT, Int.reduceLE, ↓u_setN]
      have hjl : IntKind.i64.wrap ((j : Int) + 1) = ((j + 1 : Nat) : Int) := by rw [wrap64 (by unfold I64; omega)]; omega
      have hkl : IntKind.i64.wrap ((k : Int) + 1) = ((k + 1 : Nat) : Int) := by rw [wrap64 (by unfold I64; omega)]; omega
      refine ⟨c1, fun d1 => ?_, fun d1 => ?_⟩
      · have d2 : j < m[k].ls.length := by omega
        rw [List.drop_eq_getElem_cons d1, List.drop_eq_getElem_cons d2] at hjo
        simp only [cmpG] at hjo
        refine ⟨c1, c2, d1, by simp [cU], ?_⟩
        simp only [cU, ↓vcPre, ↓wit_get, ↓reduceIte, vcPost, vcStd, Nat.reduceEqDiff, reduceCtorEq, Nat.reduceAdd, Nat.reduceLeDiff, Int.reduceLT, Int.reduceLE, ↓u_setN]
        refine ⟨d2, fun e1 => ⟨c1, c2, d1, d2, (c63 _).Q ?_⟩, fun e1 => ?_⟩
        · have hz : cmpI l[k].ls[j] m[k].ls[j] ≠ 0 := fun e => e1 (cmpI_z.1 e)
          rw [if_neg hz] at hjo
          simp only [↓vcPre, ↓wit_get, ↓reduceIte, vcPost, vcStd, Nat.reduceEqDiff, reduceCtorEq, Nat.reduceAdd, Nat.reduceLeDiff, Int.reduceLT, Int.reduceLE, ↓u_setN]
          rw [hside _ _ e1, ← ho, ← hjo, if_neg hz]
        · rw [if_pos (cmpI_z.2 e1)] at hjo
          rw [hjl]
          exact NextQ.to (j + 1) rfl (Store.sub_refl _) (by omega) ⟨by omega, hjo⟩
      · rw [show List.drop j l[k].ls = [] from List.drop_eq_nil_of_le (by omega), show List.drop j m[k].ls = [] from List.drop_eq_nil_of_le (by omega)] at hjo
        have h0 : cmpG cmpI l[k].ls m[k].ls = 0 := by rw [← hjo]; rfl
        rw [if_pos h0] at ho
        rw [hkl]
        exact NextQ.to (k + 1) rfl (Store.sub_refl _) (by omega) ⟨by omega, by omega, ho⟩
  · refine ⟨fun h1 => (c63 _).Q ?_, he2 (by omega)⟩
    simp only [↓vcPre, ↓wit_get, ↓reduceIte, vcPost, vcStd, Nat.reduceEqDiff, reduceCtorEq, Nat.reduceAdd, Nat.reduceLeDiff, Int.reduceLT, Int.reduceLE, ↓u_setN]
    rw [he1 (by omega) h1]
  · refine ⟨fun h1 => (c63 _).Q ?_, he2 (by omega)⟩
    simp only [↓vcPre, ↓wit_get, ↓reduceIte, vcPost, vcStd, Nat.reduceEqDiff, reduceCtorEq, Nat.reduceAdd, Nat.reduceLeDiff, Int.reduceLT, Int.reduceLE, ↓u_setN]
    rw [he1 (by omega) h1]

theorem beq_dec (p q : Bool) : (p == q) = decide (p = q) := by cases p <;> cases q <;> rfl
theorem c18 (a b : At) (ha : a.ok) (hb : b.ok) : Pur Try.prog 18 [.agg a.c, .agg b.c] (.bool (decide (a = b))) := by
  refine pur_of Tst.F18 (by simp [Tst.F18, Fn.mkX]) fun σ => ?_
  simp only [Tst.F18, Fn.mkX, Tst.b18, At.c]
  simp only [↓vcPre, ↓wit_get, ↓reduceIte, vcPost, vcStd, Nat.reduceEqDiff, reduceCtorEq, Nat.reduceAdd, Nat.reduceLeDiff, Int.reduceLT, Int.reduceLE, ↓u_setN]
  refine AllocQ.i0 fun i hi => ?_
  simp only [↓vcPre, ↓wit_get, ↓reduceIte, vcPost, vcStd, Nat.reduceEqDiff, reduceCtorEq, Nat.reduceAdd, Nat.reduceLeDiff, Int.reduceLT, Int.reduceLE, ↓u_setN]
  refine AllocQ.i1 fun j hj1 hj2 hj => ?_
  simp only [hj1, hj2, ↓vcPre, ↓wit_get, ↓reduceIte, vcPost, vcStd, Nat.reduceEqDiff, reduceCtorEq, Nat.reduceAdd, Nat.reduceLeDiff, Int.reduceLT, Int.reduceLE, ↓u_setN]
  have hsub := sub_set2 (s := σ) (o := (Obj.box [AV.int IntKind.i64 a.org, AV.sl 2 (List.map Seg.c a.path), AV.int IntKind.u32 a.nxt, AV.bool a.hm, AV.int IntKind.u32 a.med, AV.bool a.hp, AV.int IntKind.u32 a.prf, AV.bool a.atm, AV.sl 1 (List.map cU a.cms)])) (p := (Obj.box [AV.int IntKind.i64 b.org, AV.sl 2 (List.map Seg.c b.path), AV.int IntKind.u32 b.nxt, AV.bool b.hm, AV.int IntKind.u32 b.med, AV.bool b.hp, AV.int IntKind.u32 b.prf, AV.bool b.atm, AV.sl 1 (List.map cU b.cms)])) hi hj hj1
  refine ⟨fun g1 => (c36 _ _ ha.1 hb.1 ha.2.1 hb.2.1).Q ?_, fun g1 => ⟨(decide_eq_false (by rintro rfl; exact g1 rfl)).symm, hsub⟩⟩
  simp only [hj1, hj2, beq_dec, ↓vcPre, ↓wit_get, ↓reduceIte, vcPost, vcStd, Nat.reduceEqDiff, reduceCtorEq, Nat.reduceAdd, Nat.reduceLeDiff, Int.reduceLT, Int.reduceLE, ↓u_setN]
  refine ⟨fun g2 => ⟨fun g3 => ⟨fun g4 => ⟨fun g5 => ⟨fun g6 => ⟨fun g7 => ⟨fun g8 => (c37 _ _ ha.2.2).Q ?_, fun g8 => ⟨(decide_eq_false (by rintro rfl; exact g8 rfl)).symm, hsub⟩⟩, fun g7 => ⟨(decide_eq_false (by rintro rfl; exact g7 rfl)).symm, hsub⟩⟩, fun g6 => ⟨(decide_eq_false (by rintro rfl; exact g6 rfl)).symm, hsub⟩⟩, fun g5 => ⟨(decide_eq_false (by rintro rfl; exact g5 rfl)).symm, hsub⟩⟩, fun g4 => ⟨(decide_eq_false (by rintro rfl; exact g4 rfl)).symm, hsub⟩⟩, fun g3 => ⟨(decide_eq_false (by rintro rfl; exact g3 rfl)).symm, hsub⟩⟩, fun g2 => ⟨(decide_eq_false (by rintro rfl; exact g2 (cmpPath_z.2 rfl))).symm, hsub⟩⟩
  simp only [↓vcPre, ↓wit_get, ↓reduceIte, vcPost, vcStd, Nat.reduceEqDiff, reduceCtorEq, Nat.reduceAdd, Nat.reduceLeDiff, Int.reduceLT, Int.reduceLE, ↓u_setN]
  refine ⟨?_, hsub⟩
  rw [Bool.eq_iff_iff, decide_eq_true_eq, decide_eq_true_eq]
  have g2' := cmpPath_z.1 g2
  constructor
  · intro h; cases a; cases b; simp_all
  · rintro rfl; rfl
def shortS (s : Seg) : Seg := { s with ls := s.ls.take 6 }
def shortA (a : At) : At := { a with path := (a.path.take 18).map shortS, cms := a.cms.take 34 }
theorem short_t (l : List Seg) : List.drop (Int.toNat 0) (List.take ((some (18 : Int)).getD ↑l.length).toNat (List.map Seg.c l)) = (l.take 18).map Seg.c := by rw [List.map_take]; rfl
/-- The loop of Short, and what is behind it. -/
theorem tail_short (E : Env) (a : At) (hp : a.path.length ≤ 18) {σ t : Store} {i j : Nat} {z : List AV} {n rr : Env → Store → Prop} {x : Nat → Env → Store → Prop} (hi : t i = some (.box a.c)) (hj : t j = some (.box z)) (hz : z.length = 9) (hij : ¬ i = j) (hσi : σ i = none) (hσj : σ j = none) (hsub : Store.sub σ t)
    (hret : ∀ s v, Store.sub σ s → Own 2 σ ((a.path.map shortS).map Seg.c) v s → s j = some (.box [.int .i64 a.org, v, .int .u32 a.nxt, .bool a.hm, .int .u32 a.med, .bool a.hp, .int .u32 a.prf, .bool a.atm, .sl 1 ((a.cms.take 34).map cU)]) → rr [(2, .ptr j 0)] s) :
    bwp Try.prog Tsd.t8_3 ((1, .ptr i 0) :: (2, .ptr j 0) :: E) t n rr x := by
  simp only [Tsd.t8_3]
  have hji : ¬ j = i := fun e => hij e.symm
  simp only [↓vcPre, ↓wit_get, ↓reduceIte, vcPost, vcStd, Nat.reduceEqDiff, reduceCtorEq, Nat.reduceAdd, Nat.reduceLeDiff, Int.reduceLT, Int.reduceLE, ↓u_setN]
  obtain ⟨τ, q1, q2, q3, q4⟩ : ∃ τ, Store.sub σ τ ∧ Store.sub τ t ∧ τ i = some (.box a.c) ∧ τ j = some (.box z) := ⟨t, hsub, Store.sub_refl _, hi, hj⟩
  refine LoopQ.inv (S := Nat × AV × Store) (fun q => [(1, .ptr i 0), (2, .ptr j 0), (3, q.2.1), (4, .int .i64 (q.1 : Int))]) (fun q => q.2.2) (fun q => q.1 ≤ a.path.length ∧ Store.sub τ q.2.2 ∧ Own 2 τ (((a.path.take q.1).map shortS).map Seg.c) q.2.1 q.2.2) (fun q => a.path.length + 1 - q.1) (0, .nils, t) rfl (Store.sub_refl _) ⟨by simp only; omega, q2, .nil⟩ ?_
  rintro ⟨k, v, s⟩ ⟨hk, hs, ho⟩
  simp only at hk hs ho
  have hsi := hs _ _ q3
  have hsj := hs _ _ q4
  simp only [hsi, At.c, ↓vcPre, ↓wit_get, ↓reduceIte, vcPost, vcStd, Nat.reduceEqDiff, reduceCtorEq, Nat.reduceAdd, Nat.reduceLeDiff, Int.reduceLT, Int.reduceLE, ↓u_setN]
  refine ⟨fun c1 => ?_, fun c1 => ?_⟩
  · have ek : IntKind.i64.wrap ((k : Int) + 1) = ((k + 1 : Nat) : Int) := by rw [wrap64 (by unfold I64; omega)]; omega
    refine ⟨c1, by simp [Seg.c], ?_⟩
    refine AllocQ.i0 fun b hb => ?_
    simp only [Seg.c, ↓vcPre, ↓wit_get, ↓reduceIte, vcPost, vcStd, Nat.reduceEqDiff, reduceCtorEq, Nat.reduceAdd, Nat.reduceLeDiff, Int.reduceLT, Int.reduceLE, ↓u_setN]
    have key : ∀ (E : Env) (T : Store) (n' rr' : Env → Store → Prop) (x' : Nat → Env → Store → Prop), T b = some (.box (shortS a.path[k]).c) → Store.sub s T →
        (∀ v' s', Store.sub τ s' → Own 2 τ (((a.path.take (k + 1)).map shortS).map Seg.c) v' s' → n' [(1, .ptr i 0), (2, .ptr j 0), (3, v'), (4, .int .i64 (k : Int))] s') →
        bwp Try.prog Tsd.t8_34 ((1, .ptr i 0) :: (2, .ptr j 0) :: (3, v) :: (4, .int .i64 (k : Int)) :: (5, .ptr b 0) :: E) T n' rr' x' := by
      intro E T n' rr' x' hT hsT hn
      simp only [Tsd.t8_34]
      simp only [hT, Seg.c, ↓vcPre, ↓wit_get, ↓reduceIte, vcPost, vcStd, Nat.reduceEqDiff, reduceCtorEq, Nat.reduceAdd, Nat.reduceLeDiff, Int.reduceLT, Int.reduceLE, ↓u_setN]
      refine AllocQ.i0 fun g hg => ?_
      simp only [↓vcPre, ↓wit_get, ↓reduceIte, vcPost, vcStd, Nat.reduceEqDiff, reduceCtorEq, Nat.reduceAdd, Nat.reduceLeDiff, Int.reduceLT, Int.reduceLE, ↓u_setN]
      have hsg := Store.sub_set T g (.arr 2 [[.int .i64 (shortS a.path[k]).kind, .sl 1 ((shortS a.path[k]).ls.map cU)]]) hg
      refine Own.app (τ := τ) (Store.sub_trans hs (Store.sub_trans hsT hsg)) (ho.mono (Store.sub_trans hsT hsg)) (slc_os0 (Store.set_same _ _ _) rfl) (by simp; omega) fun v' s' hs' ho'' => ?_
      refine hn v' s' hs' ?_
      simp only [List.take_add_one, List.getElem?_eq_getElem c1, Option.toList_some, List.map_append, List.map_cons, List.map_nil]
      exact ho''
    refine ⟨fun g1 => ⟨by simp only [Option.getD_some]; omega, ?_⟩, fun g1 => ?_⟩
    · refine key _ _ _ _ _ ?_ ?_ fun v' s' h1 h2 => ?_
      · rw [Store.set_same]
        simp only [shortS, Seg.c, List.map_take]; rfl
      · rw [Store.set_set, Store.set_set]; exact Store.sub_set _ _ _ hb
      simp only [ek, ↓vcPre, ↓wit_get, ↓reduceIte, vcPost, vcStd, Nat.reduceEqDiff, reduceCtorEq, Nat.reduceAdd, Nat.reduceLeDiff, Int.reduceLT, Int.reduceLE, ↓u_setN]
      exact NextQ.to (k + 1, v', s') rfl (Store.sub_refl _) (by simp only; omega) ⟨by simp only; omega, h1, h2⟩
    · refine key _ _ _ _ _ ?_ ?_ fun v' s' h1 h2 => ?_
      · rw [Store.set_same]
        have : a.path[k].ls.take 6 = a.path[k].ls := List.take_of_length_le (by omega)
        simp only [shortS, Seg.c, this]
      · rw [Store.set_set]; exact Store.sub_set _ _ _ hb
      simp only [ek, ↓vcPre, ↓wit_get, ↓reduceIte, vcPost, vcStd, Nat.reduceEqDiff, reduceCtorEq, Nat.reduceAdd, Nat.reduceLeDiff, Int.reduceLT, Int.reduceLE, ↓u_setN]
      exact NextQ.to (k + 1, v', s') rfl (Store.sub_refl _) (by simp only; omega) ⟨by simp only; omega, h1, h2⟩
  · have hkl : a.path.take k = a.path := List.take_of_length_le (by omega)
    rw [hkl] at ho
    have hv : v.isTup = false ∧ v.cells = [v] := by
      rcases ho with ⟨_, rfl⟩ | ⟨g, rfl, _, _⟩ <;> exact ⟨rfl, rfl⟩
    have fin : ∀ X Y : Obj, ∀ vv : List AV, Y = .box vv → vv = [.int .i64 a.org, v, .int .u32 a.nxt, .bool a.hm, .int .u32 a.med, .bool a.hp, .int .u32 a.prf, .bool a.atm, .sl 1 ((a.cms.take 34).map cU)] → rr [(2, .ptr j 0)] ((s.set i X).set j Y) := by
      rintro X Y vv rfl rfl
      refine hret _ v (sub_upd' (sub_upd' (Store.sub_trans q1 hs) hσi) hσj) ?_ (Store.set_same _ _ _)
      rcases ho.weak q1 with h | ⟨g, h1, h2, h3⟩
      · exact .inl h
      · refine .inr ⟨g, h1, h2, ?_⟩
        have hgi : ¬ g = i := fun e => by rw [e, hsi] at h3; cases h3
        have hgj : ¬ g = j := fun e => by rw [e, hsj] at h3; cases h3
        rw [Store.set_ne _ _ hgj, Store.set_ne _ _ hgi]; exact h3
    simp only [hv.1, hv.2, hsi, hsj, hij, hji, At.c, hz, ↓vcPre, ↓wit_get, ↓reduceIte, vcPost, vcStd, Nat.reduceEqDiff, reduceCtorEq, Nat.reduceAdd, Nat.reduceLeDiff, Int.reduceLT, Int.reduceLE, ↓u_setN]
    refine ⟨fun g1 => ⟨by simp only [Option.getD_some]; omega, ?_⟩, fun g1 => ?_⟩
    · rw [splice_all _ _ (by simp [hz]), wit_some, Store.set_set]
      refine fin _ _ _ rfl ?_
      simp only [List.map_take]; rfl
    · rw [splice_all _ _ (by simp [hz]), wit_some]
      have : a.cms.take 34 = a.cms := List.take_of_length_le (by omega)
      exact fin _ _ _ rfl (by rw [this])
/-- An end with parts, one of which is what was collected. -/
theorem EndQ.aggOwn {esz : Nat} {slots : List RS} {Q : AV → Store → Prop} {e : Env} {σ τ : Store} {L : List (List AV)} {cells : List AV} (k : Nat) {v : AV} (h1 : e.res τ slots = some (.agg cells)) (hk : cells[k]? = some v) (ho : Own esz σ L v τ) (hs : Store.sub σ τ)
    (hf : ∀ c ∈ cells.set k (.sl esz L), c.flat = true) (hQ : Q (.agg (cells.set k (.sl esz L))) σ) : @EndQ e τ ⟨slots, Q⟩ := by
  unfold EndQ
  rcases ho with ⟨rfl, rfl⟩ | ⟨g, rfl, hg, hh⟩
  · exact ⟨_, h1, Weak.agg (WeakL.nil k esz hk (WeakL.forget hs (WeakL.pure ⟨hf, hQ⟩)))⟩
  · refine ⟨_, h1, Weak.agg (WeakL.freeze k hk hh (by omega) (WeakL.forget (σ' := σ) (fun i o hi => ?_) (WeakL.pure ?_)))⟩
    · rw [Store.del_ne _ (fun e => by subst e; rw [hg] at hi; cases hi)]; exact hs i o hi
    · simp only [List.drop_zero, List.take_length]; exact ⟨hf, hQ⟩
theorem c8 (a : At) : Pur Try.prog 8 [.agg a.c] (.agg (shortA a).c) := by
  intro σ
  refine calls_of Tsd.F8 (by simp [Tsd.F8, Fn.mkX]) ?_
  simp only [Tsd.F8, Fn.mkX, Tsd.b8]
  simp only [At.c, ↓vcPre, ↓wit_get, ↓reduceIte, vcPost, vcStd, Nat.reduceEqDiff, reduceCtorEq, Nat.reduceAdd, Nat.reduceLeDiff, Int.reduceLT, Int.reduceLE, ↓u_setN]
  refine AllocQ.i0 fun i hi => ?_
  simp only [At.c, ↓vcPre, ↓wit_get, ↓reduceIte, vcPost, vcStd, Nat.reduceEqDiff, reduceCtorEq, Nat.reduceAdd, Nat.reduceLeDiff, Int.reduceLT, Int.reduceLE, ↓u_setN]
  refine AllocQ.i1 fun j hj1 hj2 hj => ?_
  simp only [hj1, hj2, short_t, ↓vcPre, ↓wit_get, ↓reduceIte, vcPost, vcStd, Nat.reduceEqDiff, reduceCtorEq, Nat.reduceAdd, Nat.reduceLeDiff, Int.reduceLT, Int.reduceLE, ↓u_setN]
  have key : ∀ (E : Env) (t : Store) (n : Env → Store → Prop) (x : Nat → Env → Store → Prop) (z : List AV), z.length = 9 → t i = some (.box ({ a with path := a.path.take 18 } : At).c) → t j = some (.box z) → Store.sub σ t →
      bwp Try.prog Tsd.t8_3 ((1, .ptr i 0) :: (2, .ptr j 0) :: E) t n (fun e s => @EndQ e s ⟨Tsd.F8.slots, fun r s => s = σ ∧ r = .agg (shortA a).c⟩) x := by
    intro E t n x z hz h1 h2 h3
    refine tail_short E { a with path := a.path.take 18 } (by simp; omega) h1 h2 hz hj2 hi hj h3 ?_
    intro s v hs ho hsj
    refine EndQ.aggOwn 1 (L := ((a.path.take 18).map shortS).map Seg.c) (v := v) (cells := [.int .i64 a.org, v, .int .u32 a.nxt, .bool a.hm, .int .u32 a.med, .bool a.hp, .int .u32 a.prf, .bool a.atm, .sl 1 ((a.cms.take 34).map cU)]) ?_ rfl ho hs ?_ ⟨rfl, rfl⟩
    · show Env.res [(2, AV.ptr j 0)] s [RS.c 2 9 true] = _
      simp only [hsj, ↓vcPre, ↓wit_get, ↓reduceIte, vcPost, vcStd, Nat.reduceEqDiff, reduceCtorEq, Nat.reduceAdd, Nat.reduceLeDiff, Int.reduceLT, Int.reduceLE, ↓u_setN]
    · intro c hc
      simp at hc
      rcases hc with rfl | rfl | rfl | rfl | rfl | rfl | rfl | rfl | rfl <;> rfl
  refine ⟨fun g1 => ⟨by simp only [Option.getD_some]; omega, ?_⟩, fun g1 => ?_⟩
  · refine key _ _ _ _ _ ?_ ?_ (by rw [Store.set_ne _ _ hj1, Store.set_same]) (sub_upd' (sub_set2 hi hj hj1) hi)
    · rfl
    · rw [Store.set_same]; rfl
  · have : a.path.take 18 = a.path := List.take_of_length_le (by omega)
    refine key _ _ _ _ _ ?_ ?_ (Store.set_same _ _ _) (sub_set2 hi hj hj1)
    · rfl
    · rw [Store.set_ne _ _ hj2, Store.set_same, this]; rfl
end Go.Am

/- P1 -/
namespace Go.Am
/-- Comparing: a total order, up to those that are alike. -/
structure PO {α : Type} (f : α → α → Int) : Prop where
  anti : ∀ a b, f b a < 0 ↔ 0 < f a b
  tr : ∀ a b c, f a b ≤ 0 → f b c ≤ 0 → f a c ≤ 0
theorem PO.z {α : Type} {f : α → α → Int} (h : PO f) {a b : α} (e : f a b = 0) : f b a = 0 := by
  have h1 := h.anti a b; have h2 := h.anti b a; omega
theorem PO.lt {α : Type} {f : α → α → Int} (h : PO f) {a b c : α} (h1 : f a b < 0) (h2 : f b c ≤ 0) : f a c < 0 := by
  apply Classical.byContradiction; intro hn
  have a1 := h.anti a c; have a2 := h.anti c a; have a3 := h.anti a b; have a4 := h.anti b a
  have := h.tr b c a h2 (by omega)
  omega
theorem PO.lt' {α : Type} {f : α → α → Int} (h : PO f) {a b c : α} (h1 : f a b ≤ 0) (h2 : f b c < 0) : f a c < 0 := by
  apply Classical.byContradiction; intro hn
  have a1 := h.anti a c; have a2 := h.anti c a; have a3 := h.anti b c; have a4 := h.anti c b
  have := h.tr c a b (by omega) h1
  omega
def lex {α : Type} (f g : α → α → Int) (a b : α) : Int := if f a b = 0 then g a b else f a b
theorem PO.lex {α : Type} {f g : α → α → Int} (hf : PO f) (hg : PO g) : PO (lex f g) where
  anti a b := by
    have h1 := hf.anti a b; have h2 := hf.anti b a; have h3 := hg.anti a b
    unfold Am.lex
    by_cases e : f a b = 0
    · rw [if_pos e, if_pos (hf.z e)]; exact h3
    · rw [if_neg e, if_neg (fun e' => e (hf.z e'))]; exact h1
  tr a b c := by
    unfold Am.lex
    intro h1 h2
    by_cases e1 : f a b = 0 <;> by_cases e2 : f b c = 0
    · rw [if_pos e1] at h1; rw [if_pos e2] at h2
      have h3 := hf.tr a b c (by omega) (by omega)
      have h4 := hf.tr c b a (by rw [hf.z e2]; omega) (by rw [hf.z e1]; omega)
      have h5 := hf.anti a c; have h6 := hf.anti c a
      rw [if_pos (by omega)]; exact hg.tr a b c h1 h2
    · rw [if_neg e2] at h2
      have := hf.lt' (a := a) (b := b) (c := c) (by omega) (by omega)
      rw [if_neg (by omega)]; omega
    · rw [if_neg e1] at h1
      have := hf.lt (a := a) (b := b) (c := c) (by omega) (by omega)
      rw [if_neg (by omega)]; omega
    · rw [if_neg e1] at h1; rw [if_neg e2] at h2
      have := hf.lt (a := a) (b := b) (c := c) (by omega) (by omega)
      rw [if_neg (by omega)]; omega
theorem PO.key {α β : Type} {f : β → β → Int} (k : α → β) (h : PO f) : PO fun a b => f (k a) (k b) := ⟨fun _ _ => h.anti _ _, fun _ _ _ => h.tr _ _ _⟩
theorem PO.cmpI : PO cmpI := ⟨fun a b => by unfold Am.cmpI; split <;> split <;> (try split) <;> (try split) <;> omega, fun a b c => by unfold Am.cmpI; split <;> split <;> (try split) <;> (try split) <;> (try split) <;> omega⟩
theorem PO.truth : PO fun a b : Bool => IntKind.i64.wrap (truthF a - truthF b) := ⟨by decide, by decide⟩
theorem PO.zero {α : Type} : PO fun _ _ : α => (0 : Int) := ⟨fun _ _ => by omega, fun _ _ _ _ _ => by omega⟩
theorem PO.list {α : Type} {f : α → α → Int} (h : PO f) : PO (cmpG f) where
  anti := by
    intro a
    induction a with
    | nil => intro b; cases b <;> simp [cmpG]
    | cons x r ih =>
      intro b
      cases b with
      | nil => simp [cmpG]
      | cons y s =>
        have h1 := h.anti x y; have h2 := h.anti y x
        simp only [cmpG]
        by_cases e : f x y = 0
        · rw [if_pos e, if_pos (h.z e)]; exact ih s
        · rw [if_neg e, if_neg (fun e' => e (h.z e'))]; exact h1
  tr := by
    intro a
    induction a with
    | nil => intro b c _ _; cases c <;> simp [cmpG]
    | cons x r ih =>
      intro b c
      cases b with
      | nil => intro h1; simp [cmpG] at h1
      | cons y s =>
        cases c with
        | nil => intro _ h2; simp [cmpG] at h2
        | cons z t =>
          simp only [cmpG]
          intro h1 h2
          by_cases e1 : f x y = 0 <;> by_cases e2 : f y z = 0
          · rw [if_pos e1] at h1; rw [if_pos e2] at h2
            have h3 := h.tr x y z (by omega) (by omega)
            have h4 := h.tr z y x (by rw [h.z e2]; omega) (by rw [h.z e1]; omega)
            have h5 := h.anti x z; have h6 := h.anti z x
            rw [if_pos (by omega)]; exact ih s t h1 h2
          · rw [if_neg e2] at h2
            have := h.lt' (a := x) (b := y) (c := z) (by omega) (by omega)
            rw [if_neg (by omega)]; omega
          · rw [if_neg e1] at h1
            have := h.lt (a := x) (b := y) (c := z) (by omega) (by omega)
            rw [if_neg (by omega)]; omega
          · rw [if_neg e1] at h1; rw [if_neg e2] at h2
            have := h.lt (a := x) (b := y) (c := z) (by omega) (by omega)
            rw [if_neg (by omega)]; omega
theorem PO.congr {α : Type} {f g : α → α → Int} (h : PO f) (e : ∀ a b, g a b = f a b) : PO g := ⟨fun a b => by rw [e, e]; exact h.anti a b, fun a b c => by rw [e, e, e]; exact h.tr a b c⟩
theorem PO.seg : PO cmpSeg := by
  refine (PO.lex (PO.key Seg.kind PO.cmpI) (PO.lex (PO.key (fun s : Seg => (s.ls.length : Int)) PO.cmpI) (PO.lex (PO.key Seg.ls PO.cmpI.list) PO.zero))).congr fun a b => ?_
  simp only [cmpSeg, orL]; rfl
theorem PO.path : PO cmpPath := PO.seg.list
theorem PO.at : PO cmpAs := by
  refine (PO.lex (PO.key At.org PO.cmpI) (PO.lex (PO.key At.path PO.path) (PO.lex (PO.key At.nxt PO.cmpI) (PO.lex (PO.key At.hm PO.truth) (PO.lex (PO.key At.med PO.cmpI) (PO.lex (PO.key At.hp PO.truth) (PO.lex (PO.key At.prf PO.cmpI) (PO.lex (PO.key At.atm PO.truth) (PO.lex (PO.key At.cms PO.cmpI.list) PO.zero))))))))).congr fun a b => ?_
  simp only [cmpAs, orL]; rfl
theorem canonC_perm {l m : List Int} (h : l.Perm m) : canonC l = canonC m := inc_ext (canonC_inc l) (canonC_inc m) fun x => by rw [canonC_mem, canonC_mem]; exact h.mem_iff
theorem canonC_turn (l : List Int) (k : Nat) : canonC (l.drop k ++ l.take k) = canonC l := canonC_perm (by
  have : (l.drop k ++ l.take k).Perm (l.take k ++ l.drop k) := List.perm_append_comm
  rwa [List.take_append_drop] at this)
end Go.Am

/- W0 -/
namespace Go.Am
open Go.Proofs Go.Sort
theorem c11 (n lo hi : Int) (h1 : I64 n) (h2 : 0 ≤ lo) (h3 : lo ≤ hi) (h4 : hi < 4294967296) : Pur Try.prog 11 [.int .i64 n, .int .i64 lo, .int .i64 hi] (.int .i64 (lo + (n % (hi - lo + 1)))) := by
  refine pur_of Tst.F11 (by simp [Tst.F11, Fn.mkX]) fun σ => ?_
  simp only [Tst.F11, Fn.mkX, Tst.b11]
  simp only [↓vcPre, ↓wit_get, ↓reduceIte, vcPost, vcStd, Nat.reduceEqDiff, reduceCtorEq, Nat.reduceAdd, Nat.reduceLeDiff, Int.reduceLT, Int.reduceLE, ↓u_setN]
  have w : ∀ {x : Int}, -9223372036854775808 ≤ x → x ≤ 9223372036854775807 → IntKind.i64.wrap x = x := fun a b => wrap64 ⟨a, b⟩
  rw [w (x := hi - lo) (by omega) (by omega), w (x := hi - lo + 1) (by omega) (by omega)]
  have hm : 0 < hi - lo + 1 := by omega
  generalize hd : hi - lo + 1 = d at *
  have he : n % d = if n.tmod d < 0 then n.tmod d + d else n.tmod d := by
    rw [Int.tmod_eq_emod]
    have := Int.emod_nonneg n (b := d) (by omega)
    have := Int.emod_lt_of_pos n (b := d) (by omega)
    split <;> split <;> omega
  have b1 := Int.emod_nonneg n (b := d) (by omega)
  have b2 := Int.emod_lt_of_pos n (b := d) (by omega)
  refine ⟨by omega, fun hn => ?_, fun hn => ?_⟩
  · rw [if_pos hn] at he
    rw [w (x := n.tmod d + hi) (by omega) (by omega), w (x := n.tmod d + hi - lo) (by omega) (by omega), w (x := n.tmod d + hi - lo + 1) (by omega) (by omega), w (by omega) (by omega)]; omega
  · rw [if_neg hn] at he
    rw [w (by omega) (by omega)]; omega
end Go.Am

/- K7 -/
namespace Go.Am.TstRun15
open Go.Am Go.Proofs
def table : T ((f : Nat) × Held Try.prog f) := (.node (.node (.node (.node (.node (.node .leaf (some ⟨31, .fn Tst.F31⟩) (.node .leaf (some ⟨95, .fn Tst.F95⟩) .leaf)) (some ⟨15, .fn Tst.F15⟩) (.node .leaf (some ⟨47, .fn Tst.F47⟩) .leaf)) none (.node (.node (.node .leaf (some ⟨71, .fn Tst.F71⟩) .leaf) none (.node .leaf (some ⟨103, .fn Tst.F103⟩) .leaf)) none (.node (.node .leaf (some ⟨87, .fn Tst.F87⟩) .leaf) none .leaf))) none (.node (.node (.node (.node .leaf (some ⟨67, .fn Tst.F67⟩) .leaf) (some ⟨35, .fn Tst.F35⟩) (.node .leaf (some ⟨99, .fn Tst.F99⟩) .leaf)) none (.node (.node .leaf (some ⟨83, .fn Tst.F83⟩) .leaf) (some ⟨51, .fn Tst.F51⟩) .leaf)) none (.node (.node (.node .leaf (some ⟨75, .fn Tst.F75⟩) .leaf) (some ⟨43, .fn Tst.F43⟩) .leaf) (some ⟨27, .fn Tst.F27⟩) (.node (.node .leaf (some ⟨91, .fn Tst.F91⟩) .leaf) (some ⟨59, .fn Tst.F59⟩) .leaf)))) none (.node (.node (.node (.node (.node .leaf (some ⟨65, .fn Tst.F65⟩) .leaf) (some ⟨33, .fn Tst.F33⟩) (.node .leaf (some ⟨97, .fn Tst.F97⟩) .leaf)) (some ⟨17, .fn Tst.F17⟩) (.node (.node .leaf (some ⟨81, .fn Tst.F81⟩) .leaf) (some ⟨49, .fn Tst.F49⟩) .leaf)) none (.node (.node (.node .leaf (some ⟨73, .fn Tst.F73⟩) .leaf) (some ⟨41, .fn Tst.F41⟩) .leaf) (some ⟨25, .fn Tst.F25⟩) (.node (.node .leaf (some ⟨89, .fn Tst.F89⟩) .leaf) none .leaf))) none (.node (.node (.node (.node .leaf (some ⟨69, .fn Tst.F69⟩) .leaf) none (.node .leaf (some ⟨101, .fn Tst.F101⟩) .leaf)) none (.node (.node .leaf (some ⟨85, .fn Tst.F85⟩) .leaf) none .leaf)) none (.node (.node (.node .leaf (some ⟨77, .fn Tst.F77⟩) .leaf) (some ⟨45, .fn Tst.F45⟩) .leaf) (some ⟨29, .fn Tst.F29⟩) (.node (.node .leaf (some ⟨93, .fn Tst.F93⟩) .leaf) (some ⟨61, .fn Tst.F61⟩) .leaf))))) none (.node (.node (.node (.node (.node (.node .leaf (some ⟨64, .fn Tst.F64⟩) .leaf) (some ⟨32, .fn Tst.F32⟩) (.node .leaf (some ⟨96, .fn Tst.F96⟩) .leaf)) none (.node .leaf (some ⟨48, .fn Tst.F48⟩) .leaf)) none (.node (.node (.node .leaf (some ⟨72, .fn Tst.F72⟩) .leaf) none .leaf) none (.node (.node .leaf (some ⟨88, .fn Tst.F88⟩) .leaf) none .leaf))) none (.node (.node (.node (.node .leaf (some ⟨68, .fn Tst.F68⟩) .leaf) none (.node .leaf (some ⟨100, .fn Tst.F100⟩) .leaf)) none (.node (.node .leaf (some ⟨84, .fn Tst.F84⟩) .leaf) (some ⟨52, .fn Tst.F52⟩) .leaf)) (some ⟨12, .fn Tst.F12⟩) (.node (.node (.node .leaf (some ⟨76, .fn Tst.F76⟩) .leaf) (some ⟨44, .fn Tst.F44⟩) .leaf) (some ⟨28, .fn Tst.F28⟩) (.node (.node .leaf (some ⟨92, .fn Tst.F92⟩) .leaf) (some ⟨60, .fn Tst.F60⟩) .leaf)))) none (.node (.node (.node (.node (.node .leaf (some ⟨66, .fn Tst.F66⟩) .leaf) (some ⟨34, .fn Tst.F34⟩) (.node .leaf (some ⟨98, .fn Tst.F98⟩) .leaf)) none (.node (.node .leaf (some ⟨82, .rule (seqRule 62 .u32 4) AS.rule_ok⟩) .leaf) (some ⟨50, .fn Tst.F50⟩) .leaf)) none (.node (.node (.node .leaf (some ⟨74, .fn Tst.F74⟩) .leaf) (some ⟨42, .fn Tst.F42⟩) .leaf) (some ⟨26, .fn Tst.F26⟩) (.node (.node .leaf (some ⟨90, .fn Tst.F90⟩) .leaf) none .leaf))) none (.node (.node (.node (.node .leaf (some ⟨70, .fn Tst.F70⟩) .leaf) none (.node .leaf (some ⟨102, .fn Tst.F102⟩) .leaf)) none (.node (.node .leaf (some ⟨86, .fn Tst.F86⟩) .leaf) none .leaf)) (some ⟨14, .fn Tst.F14⟩) (.node (.node (.node .leaf (some ⟨78, .fn Tst.F78⟩) .leaf) (some ⟨46, .fn Tst.F46⟩) .leaf) none (.node (.node .leaf (some ⟨94, .fn Tst.F94⟩) .leaf) (some ⟨62, .fn Tst.F62⟩) .leaf))))))
theorem ran : isTrue (runF (tabOf table) 100000 15 []) = true := by kernel_rfl
theorem says : ACalls Try.prog 15 [] (fun _ => none) (fun b _ => b = .bool true) := says_true ran
theorem c15 : Pur Try.prog 15 [] (.bool true) := pur_true says
end Go.Am.TstRun15

/- S77C -/
namespace Go.Am.Tso
open Go.Proofs
/-- signpost/signpostlaw7.AttrOrder -/
def t6_92 : BC := .seq (.ops [⟨some 92, none, .load (.ld 9 true), [.t 10]⟩, ⟨some 93, none, .load (.ld 9 true), [.t 4]⟩, ⟨some 94, none, .loud (.call 13), [.t 92, .t 93]⟩, ⟨some 95, none, .pure (.mov), [.t 94]⟩, ⟨some 96, some (95, true), .loud (.call 15), []⟩, ⟨some 97, none, .pick, [.t 95, .t 96, .c (.bool false)]⟩, ⟨some 8, none, .pure (.mov), [.t 97]⟩] [8]) (.ret)
def t6_91 : BC := .seq (.ops [⟨some 91, none, .pure (.fld 8), [.t 10]⟩] [4, 10, 90, 91]) (.seq (.ops [⟨none, none, .loud (.st 1), [.t 91, .t 90]⟩] [4, 10]) (.ops [] [4, 10]))
def t6_56 : BC := .seq (.ops [⟨some 56, none, .load (.ld 9 true), [.t 4]⟩, ⟨some 57, none, .loud (.call 17), [.t 56]⟩, ⟨some 9, none, .alloc (.alloc [(.int .i64 0), .nils, (.int .u32 0), (.bool false), (.int .u32 0), (.bool false), (.int .u32 0), (.bool false), .nils]), []⟩, ⟨none, none, .loud (.st 9), [.t 9, .t 57]⟩] [3, 4, 9]) (.seq (.seq (.ops [⟨some 58, none, .load (.ld 9 true), [.t 9]⟩, ⟨some 59, none, .load (.ld 9 true), [.t 4]⟩, ⟨some 60, none, .qcall 13, [.t 58, .t 59]⟩, ⟨some 61, none, .pure (.not), [.t 60]⟩, ⟨some 62, none, .pure (.mov), [.t 61]⟩, ⟨some 63, some (62, false), .load (.ld 9 true), [.t 9]⟩, ⟨some 65, some (62, false), .load (.ld 9 true), [.t 9]⟩, ⟨some 64, some (62, false), .qcall 17, [.t 63]⟩, ⟨some 66, some (62, false), .qcall 18, [.t 64, .t 65]⟩, ⟨some 67, some (62, false), .pure (.not), [.t 66]⟩, ⟨some 68, none, .pick, [.t 62, .c (.bool true), .t 67]⟩] [3, 4, 68]) (.cond (.t 68) (.seq (.ops [⟨some 8, none, .pure (.mov), [.c (.bool false)]⟩] [8]) (.ret)) (.skip))) (.seq (.ops [⟨some 69, none, .load (.ld 9 true), [.t 4]⟩, ⟨some 10, none, .alloc (.alloc [(.int .i64 0), .nils, (.int .u32 0), (.bool false), (.int .u32 0), (.bool false), (.int .u32 0), (.bool false), .nils]), []⟩, ⟨none, none, .loud (.st 9), [.t 10, .t 69]⟩] [3, 4, 10]) (.seq (.seq (.ops [⟨some 70, none, .pure (.fld 8), [.t 4]⟩, ⟨some 71, none, .load (.ld 1 false), [.t 70]⟩, ⟨some 72, none, .pure (.len), [.t 71]⟩, ⟨some 73, none, .pure (.bin .gtr), [.t 72, .c (.int .i64 0)]⟩] [3, 4, 10, 73]) (.cond (.t 73) (.seq (.ops [⟨some 74, none, .pure (.mov), [.t 3]⟩, ⟨some 75, none, .pure (.fld 8), [.t 4]⟩, ⟨some 76, none, .load (.ld 1 false), [.t 75]⟩, ⟨some 77, none, .pure (.len), [.t 76]⟩, ⟨some 78, none, .pure (.bin .sub), [.t 77, .c (.int .i64 1)]⟩, ⟨some 79, none, .loud (.call 11), [.t 74, .c (.int .i64 0), .t 78]⟩, ⟨some 11, none, .pure (.mov), [.t 79]⟩] [4, 10, 11]) (.seq (.ops [⟨some 81, none, .pure (.fld 8), [.t 4]⟩] [4, 10, 11, 81]) (.seq (.ops [⟨some 83, none, .pure (.mov), [.t 11]⟩] [4, 10, 11, 81, 83]) (.seq (.ops [⟨some 86, none, .pure (.fld 8), [.t 4]⟩] [4, 10, 11, 81, 83, 86]) (.seq (.ops [⟨some 88, none, .pure (.mov), [.t 11]⟩] [4, 10, 81, 83, 86, 88]) (.seq (.ops [⟨some 82, none, .load (.ld 1 false), [.t 81]⟩] [4, 10, 82, 83, 86, 88]) (.seq (.ops [⟨some 84, none, .pure (.slice 1 true false), [.t 82, .t 83]⟩] [4, 10, 84, 86, 88]) (.both (.seq (.ops [⟨some 80, none, .alloc (.mksl 1 0), []⟩] [4, 10, 80, 84, 86, 88]) (.both (.seq (.ops [⟨some 85, none, .loud (.app 1 4), [.t 80, .t 84]⟩] [4, 10, 85, 86, 88]) (.seq (.ops [⟨some 87, none, .load (.ld 1 false), [.t 86]⟩] [4, 10, 85, 87, 88]) (.seq (.ops [⟨some 89, none, .pure (.slice 1 false true), [.t 87, .t 88]⟩] [4, 10, 85, 89]) (.seq (.ops [⟨some 90, none, .loud (.app 1 4), [.t 85, .t 89]⟩] [4, 10, 90]) t6_91)))) (.both (.seq (.ops [⟨some 87, none, .load (.ld 1 false), [.t 86]⟩] [4, 10, 80, 84, 87, 88]) (.seq (.ops [⟨some 89, none, .pure (.slice 1 false true), [.t 87, .t 88]⟩] [4, 10, 80, 84, 89]) (.seq (.ops [⟨some 85, none, .loud (.app 1 4), [.t 80, .t 84]⟩] [4, 10, 85, 89]) (.seq (.ops [⟨some 90, none, .loud (.app 1 4), [.t 85, .t 89]⟩] [4, 10, 90]) (.seq (.ops [⟨some 91, none, .pure (.fld 8), [.t 10]⟩] [4, 10, 90, 91]) (.seq (.ops [⟨none, none, .loud (.st 1), [.t 91, .t 90]⟩] [4, 10]) (.ops [] [4, 10]))))))) (.top)))) (.both (.seq (.ops [⟨some 87, none, .load (.ld 1 false), [.t 86]⟩] [4, 10, 84, 87, 88]) (.seq (.ops [⟨some 89, none, .pure (.slice 1 false true), [.t 87, .t 88]⟩] [4, 10, 84, 89]) (.seq (.ops [⟨some 80, none, .alloc (.mksl 1 0), []⟩] [4, 10, 80, 84, 89]) (.seq (.ops [⟨some 85, none, .loud (.app 1 4), [.t 80, .t 84]⟩] [4, 10, 85, 89]) (.seq (.ops [⟨some 90, none, .loud (.app 1 4), [.t 85, .t 89]⟩] [4, 10, 90]) (.seq (.ops [⟨some 91, none, .pure (.fld 8), [.t 10]⟩] [4, 10, 90, 91]) (.seq (.ops [⟨none, none, .loud (.st 1), [.t 91, .t 90]⟩] [4, 10]) (.ops [] [4, 10])))))))) (.top)))))))))) (.skip))) t6_92)))
def b6 : BC := .seq (.ops [⟨some 4, none, .alloc (.box), [.t 0]⟩, ⟨some 5, none, .alloc (.box), [.t 1]⟩, ⟨some 6, none, .alloc (.box), [.t 2]⟩, ⟨some 8, none, .pure (.mov), [.c (.bool false)]⟩] [3, 4, 5, 6]) (.seq (.ops [⟨some 12, none, .load (.ld 9 true), [.t 4]⟩, ⟨some 14, none, .load (.ld 9 true), [.t 5]⟩, ⟨some 16, none, .load (.ld 9 true), [.t 6]⟩, ⟨some 13, none, .qcall 8, [.t 12]⟩, ⟨some 15, none, .qcall 8, [.t 14]⟩, ⟨some 17, none, .qcall 8, [.t 16]⟩, ⟨none, none, .loud (.st 9), [.t 4, .t 13]⟩, ⟨none, none, .loud (.st 9), [.t 5, .t 15]⟩, ⟨none, none, .loud (.st 9), [.t 6, .t 17]⟩] [3, 4, 5, 6]) (.seq (.seq (.ops [⟨some 18, none, .load (.ld 9 true), [.t 4]⟩, ⟨some 19, none, .load (.ld 9 true), [.t 5]⟩, ⟨some 21, none, .load (.ld 9 true), [.t 4]⟩, ⟨some 22, none, .load (.ld 9 true), [.t 5]⟩, ⟨some 20, none, .qcall 13, [.t 18, .t 19]⟩, ⟨some 23, none, .qcall 16, [.t 21, .t 22]⟩, ⟨some 24, none, .pure (.mov), [.t 23]⟩, ⟨some 25, some (24, false), .load (.ld 9 true), [.t 5]⟩, ⟨some 26, some (24, false), .load (.ld 9 true), [.t 4]⟩, ⟨some 27, some (24, false), .qcall 16, [.t 25, .t 26]⟩, ⟨some 28, none, .pick, [.t 24, .c (.bool true), .t 27]⟩, ⟨some 29, none, .pure (.eqb false), [.t 20, .t 28]⟩, ⟨some 30, none, .pure (.mov), [.t 29]⟩, ⟨some 31, some (30, false), .load (.ld 9 true), [.t 4]⟩, ⟨some 32, some (30, false), .load (.ld 9 true), [.t 5]⟩, ⟨some 33, some (30, false), .qcall 16, [.t 31, .t 32]⟩, ⟨some 34, some (30, false), .pure (.mov), [.t 33]⟩, ⟨some 35, some (34, true), .load (.ld 9 true), [.t 5]⟩, ⟨some 36, some (34, true), .load (.ld 9 true), [.t 4]⟩, ⟨some 37, some (34, true), .qcall 16, [.t 35, .t 36]⟩, ⟨some 38, some (30, false), .pick, [.t 34, .t 37, .c (.bool false)]⟩, ⟨some 39, none, .pick, [.t 30, .c (.bool true), .t 38]⟩, ⟨some 40, none, .pure (.mov), [.t 39]⟩, ⟨some 41, some (40, false), .load (.ld 9 true), [.t 4]⟩, ⟨some 42, some (40, false), .load (.ld 9 true), [.t 5]⟩, ⟨some 43, some (40, false), .qcall 16, [.t 41, .t 42]⟩, ⟨some 44, some (40, false), .pure (.mov), [.t 43]⟩, ⟨some 45, some (44, true), .load (.ld 9 true), [.t 5]⟩, ⟨some 46, some (44, true), .load (.ld 9 true), [.t 6]⟩, ⟨some 47, some (44, true), .qcall 16, [.t 45, .t 46]⟩, ⟨some 48, some (40, false), .pick, [.t 44, .t 47, .c (.bool false)]⟩, ⟨some 49, some (40, false), .pure (.mov), [.t 48]⟩, ⟨some 50, some (49, true), .load (.ld 9 true), [.t 4]⟩, ⟨some 51, some (49, true), .load (.ld 9 true), [.t 6]⟩, ⟨some 52, some (49, true), .qcall 16, [.t 50, .t 51]⟩, ⟨some 53, some (49, true), .pure (.not), [.t 52]⟩, ⟨some 54, some (40, false), .pick, [.t 49, .t 53, .c (.bool false)]⟩, ⟨some 55, none, .pick, [.t 40, .c (.bool true), .t 54]⟩] [3, 4, 55]) (.cond (.t 55) (.seq (.ops [⟨some 8, none, .pure (.mov), [.c (.bool false)]⟩] [8]) (.ret)) (.skip))) t6_56))
def F6 : Fn Try.prog 6 := Fn.mkX false b6 [.t 8] 98 Try.f6 _ Try.func6 (by decide) rfl Try.ntmps6 (by kernel_rfl) (by kernel_rfl)
end Go.Am.Tso

/- P2 -/
namespace Go.Am
/-- Four bytes. -/
def b4 (n : Int) : List Int := [n / 16777216 % 256, n / 65536 % 256, n / 256 % 256, n % 256]
def U8s (l : List Int) : Prop := ∀ x ∈ l, 0 ≤ x ∧ x < 256
theorem U8s.append {l m : List Int} (h : U8s l) (h' : U8s m) : U8s (l ++ m) := fun x hx => (List.mem_append.1 hx).elim (h x) (h' x)
theorem U8s.take {l : List Int} (h : U8s l) (n : Nat) : U8s (l.take n) := fun x hx => h x (List.mem_of_mem_take hx)
theorem U8s.drop {l : List Int} (h : U8s l) (n : Nat) : U8s (l.drop n) := fun x hx => h x (List.mem_of_mem_drop hx)
def segRight (s : Seg) : Prop := (s.kind = 1 ∨ s.kind = 2) ∧ 1 ≤ s.ls.length ∧ s.ls.length ≤ 255
instance (s : Seg) : Decidable (segRight s) := inferInstanceAs (Decidable (_ ∧ _ ∧ _))
def pathRight (l : List Seg) : Prop := (∀ s ∈ l, segRight s) ∧ l.length ≤ 16
instance (l : List Seg) : Decidable (pathRight l) := inferInstanceAs (Decidable (_ ∧ _))
def goodN (n : Int) : Prop := n / 16777216 ≠ 0 ∧ n / 16777216 ≠ 127 ∧ n / 16777216 < 224
instance (n : Int) : Decidable (goodN n) := inferInstanceAs (Decidable (_ ∧ _ ∧ _))
/-- An attribute, as it stands. -/
structure Ch where
  fl : Int
  kind : Int
  val : List Int
  all : List Int
  rest : List Int
def fitsOf (k : Int) (n : Nat) : Prop := (k = 1 → n = 1) ∧ (k = 3 ∨ k = 4 ∨ k = 5 → n = 4) ∧ (k = 6 → n = 0) ∧ (k = 8 → n % 4 = 0)
instance (k : Int) (n : Nat) : Decidable (fitsOf k n) := inferInstanceAs (Decidable (_ ∧ _ ∧ _ ∧ _))
end Go.Am

/- Q1 -/
namespace Go.Am
open Go.Proofs Go.Sort
def cB (n : Int) : List AV := [.int .u8 n]
/-- What is written so far. -/
def WI (τ : Store) (id : Nat) (L : List Int) (s : Store) : Prop := τ id = none ∧ Store.sub τ s ∧ ∃ v, s id = some (.box [v]) ∧ Own 1 τ (L.map cB) v s
theorem WI.mono {τ s s' : Store} {id : Nat} {L : List Int} (h : WI τ id L s) (hs : Store.sub s s') : WI τ id L s' := by
  obtain ⟨h1, h2, v, h3, h4⟩ := h
  exact ⟨h1, Store.sub_trans h2 hs, v, hs _ _ h3, h4.mono hs⟩
/-- It lies on what else there is. -/
theorem WI.write {τ s s' : Store} {id : Nat} {L M : List Int} {v : AV} (h : WI τ id L s) (hs : Store.sub (s.del id) s' ) (hid : s' id = some (.box [v])) (ho : Own 1 (s.del id) (M.map cB) v s') : WI τ id M s' := by
  obtain ⟨h1, h2, _⟩ := h
  have h3 : Store.sub τ (s.del id) := sub_del h2 h1
  exact ⟨h1, Store.sub_trans h3 hs, v, hid, ho.weak h3⟩
theorem Own.setId {esz : Nat} {τ s : Store} {L : List (List AV)} {v : AV} {id : Nat} {o o' : Obj} (h : Own esz τ L v s) (hid : s id = some o) (ho : ∀ M, o ≠ .arr esz M) : Own esz τ L v (s.set id o') := by
  rcases h with h | ⟨g, h1, h2, h3⟩
  · exact .inl h
  · have hgi : ¬ g = id := fun e => by rw [e, hid] at h3; cases h3; exact ho _ rfl
    exact .inr ⟨g, h1, h2, by rw [Store.set_ne _ _ hgi]; exact h3⟩
theorem Own.cell {esz : Nat} {τ s : Store} {L : List (List AV)} {v : AV} (h : Own esz τ L v s) : v.isTup = false ∧ v.cells = [v] := by
  rcases h with ⟨_, rfl⟩ | ⟨g, rfl, _⟩ <;> exact ⟨rfl, rfl⟩
/-- A slice that can be read, as long as what it lies in stays. -/
def Rd (esz : Nat) (τ : Store) (L : List (List AV)) (v : AV) : Prop := (∀ t, Store.sub τ t → slc t esz v = some L) ∧ pv .len [v] = some (.int .i64 L.length)
theorem Rd.mono {esz : Nat} {τ τ' : Store} {L : List (List AV)} {v : AV} (h : Rd esz τ L v) (hs : Store.sub τ τ') : Rd esz τ' L v := ⟨fun t ht => h.1 t (Store.sub_trans hs ht), h.2⟩
theorem Rd.sl {esz : Nat} {τ : Store} {L : List (List AV)} : Rd esz τ L (.sl esz L) := ⟨fun _ _ => slc_sl, by simp [pv, pLen]⟩
theorem Rd.nils {esz : Nat} {τ : Store} : Rd esz τ [] .nils := ⟨fun _ _ => rfl, rfl⟩
theorem Rd.os {esz g : Nat} {τ : Store} {L : List (List AV)} (h : τ g = some (.arr esz L)) : Rd esz τ L (.os g esz 0 L.length) := ⟨fun t ht => slc_os0 (ht _ _ h) rfl, by simp [pv, pLen]⟩
theorem Rd.own {esz : Nat} {τ s : Store} {L : List (List AV)} {v : AV} (h : Own esz τ L v s) : Rd esz s L v := by
  rcases h with ⟨rfl, rfl⟩ | ⟨g, rfl, _, h⟩
  · exact Rd.nils
  · exact Rd.os h
/-- So many more at once. -/
theorem Own.appM {esz bytes : Nat} {τ s : Store} {L ys : List (List AV)} {v wv : AV} {K : AV → Store → Prop} (hsub : Store.sub τ s) (ho : Own esz τ L v s) (hw : slc s esz wv = some ys) (hsz : (L.length + ys.length) * bytes ≤ 140737488355328)
    (h : ∀ v' s', Store.sub τ s' → Own esz τ (L ++ ys) v' s' → K v' s') : appwp esz bytes v wv s K := by
  rcases ho with ⟨rfl, rfl⟩ | ⟨g, rfl, hg, hs⟩
  · refine app_nil hw (by simpa using hsz) (fun h0 => ?_) (fun _ j hj => ?_)
    · exact h _ _ hsub (.inl ⟨by simpa using h0, rfl⟩)
    · exact h _ _ (sub_upd' hsub (sub_none hsub hj)) (.inr ⟨j, rfl, sub_none hsub hj, Store.set_same _ _ _⟩)
  · refine app_os (slc_os0 hs rfl) hw hsz fun j hj => ?_
    have hτ : τ j = none := sub_none hsub hj
    refine h _ _ (fun x q hx => ?_) (.inr ⟨j, by simp, hτ, by rw [Store.set_same]⟩)
    have hxj : x ≠ j := fun e => by subst e; rw [hτ] at hx; cases hx
    have hxg : x ≠ g := fun e => by subst e; rw [hg] at hx; cases hx
    rw [Store.set_ne _ _ hxj, Store.del_ne _ hxg]; exact hsub x q hx
/-- .. of a slice that a box holds. -/
theorem WI.appM {τ s : Store} {id : Nat} {L : List Int} {ys : List (List AV)} {v wv : AV} {K : AV → Store → Prop} (h1 : τ id = none) (h2 : Store.sub τ s) (h3 : s id = some (.box [v])) (h4 : Own 1 τ (L.map cB) v s) (hw : slc s 1 wv = some ys) (hsz : L.length + ys.length ≤ 100000000)
    (h : ∀ v' s', s' id = some (.box [v]) → Own 1 τ (L.map cB ++ ys) v' s' → Store.sub τ s' → K v' s') : appwp 1 1 v wv s K := by
  obtain ⟨τ0, q1, q2, q3, q4⟩ : ∃ τ0, Store.sub τ τ0 ∧ Store.sub τ0 s ∧ τ0 id = some (.box [v]) ∧ Own 1 τ0 (L.map cB) v s := by
    rcases h4 with ⟨hk, hv⟩ | ⟨g, hv, hg, hs⟩
    · exact ⟨s, h2, Store.sub_refl _, h3, .inl ⟨hk, hv⟩⟩
    · have hgi : ¬ id = g := fun e => by subst e; rw [hs] at h3; cases h3
      exact ⟨s.del g, sub_del h2 hg, sub_delr _ _, by rw [Store.del_ne _ hgi]; exact h3, .inr ⟨g, hv, by simp, hs⟩⟩
  refine Own.appM (τ := τ0) q2 q4 hw (by simp; omega) fun v' s' hs' ho' => ?_
  exact h v' s' (hs' _ _ q3) (ho'.weak q1) (Store.sub_trans q1 hs')
/-- Bytes, written behind. -/
theorem Rd.cases {esz : Nat} {σ : Store} {L : List (List AV)} {v : AV} (h : Rd esz σ L v) : (v = .nils ∧ L = []) ∨ v = .sl esz L ∨ ∃ g o n, v = .os g esz o n := by
  have h1 := h.1 σ (Store.sub_refl _)
  unfold slc at h1
  split at h1
  · exact .inl ⟨rfl, by cases h1; rfl⟩
  · split at h1
    · rename_i e; subst e; cases h1; exact .inr (.inl rfl)
    · cases h1
  · split at h1
    · split at h1
      · rename_i e; obtain ⟨rfl, _, _⟩ := e; exact .inr (.inr ⟨_, _, _, rfl⟩)
      · cases h1
    · cases h1
  · cases h1
theorem Rd.at {esz : Nat} {τ : Store} {L : List (List AV)} {v : AV} (h : Rd esz τ L v) {k : Nat} (hk : k < L.length) : ∃ p, pv (.idx esz) [v, .int .i64 (k : Int)] = some p ∧ ∀ t, Store.sub τ t → ∀ n, rd t n p = takeN 0 n L[k] := by
  rcases h.cases with ⟨rfl, h0⟩ | rfl | ⟨g, o, n, rfl⟩
  · subst h0; simp at hk
  · refine ⟨.ep L[k], by simp [pv, pIdx, hk], fun t _ n => rfl⟩
  · have hl := h.2
    simp only [pv, pLen, Option.some.injEq, AV.int.injEq, true_and] at hl
    refine ⟨.aptr g esz (o + k) 0, by simp [pv, pIdx]; omega, fun t ht m => ?_⟩
    have h1 := h.1 t ht
    unfold slc at h1
    simp only at h1
    split at h1
    · rename_i e2 es hg
      split at h1
      · rename_i e; obtain ⟨_, rfl, hle⟩ := e
        have h2 := Option.some.inj h1
        have h3 : es[o + k]? = some L[k] := by
          have h4 : ((es.drop o).take n)[k]? = some L[k] := by rw [h2]; exact List.getElem?_eq_getElem hk
          rw [List.getElem?_take_of_lt (by omega), List.getElem?_drop] at h4
          exact h4
        simp only [rd, hg, if_true, h3, Option.bind_some]
      · cases h1
    · cases h1
end Go.Am

/- XO -/
namespace Go.Am
open Go.Proofs Go.Sort
theorem c16 (a b : At) (ha : a.ok) (hb : b.ok) : Pur Try.prog 16 [.agg a.c, .agg b.c] (.bool (decide (cmpAs (canonA a) (canonA b) < 0))) := by
  refine pur_of Tst.F16 (by simp [Tst.F16, Fn.mkX]) fun σ => ?_
  simp only [Tst.F16, Fn.mkX, Tst.b16]
  have e9 : ∀ x : At, x.c.length = 9 := fun _ => rfl
  have t9 : ∀ x : At, List.take 9 x.c = x.c := fun _ => rfl
  simp only [e9, t9, Nat.le_refl, ↓vcPre, ↓wit_get, ↓reduceIte, vcPost, vcStd, Nat.reduceEqDiff, reduceCtorEq, Nat.reduceAdd, Nat.reduceLeDiff, Int.reduceLT, Int.reduceLE, ↓u_setN]
  refine AllocQ.i0 fun i hi => ?_
  simp only [e9, t9, Nat.le_refl, ↓vcPre, ↓wit_get, ↓reduceIte, vcPost, vcStd, Nat.reduceEqDiff, reduceCtorEq, Nat.reduceAdd, Nat.reduceLeDiff, Int.reduceLT, Int.reduceLE, ↓u_setN]
  refine AllocQ.i1 fun j hj1 hj2 hj => ?_
  simp only [hj1, hj2, e9, t9, Nat.le_refl, ↓vcPre, ↓wit_get, ↓reduceIte, vcPost, vcStd, Nat.reduceEqDiff, reduceCtorEq, Nat.reduceAdd, Nat.reduceLeDiff, Int.reduceLT, Int.reduceLE, ↓u_setN]
  refine (c30 a b ha hb).Q ?_
  simp only [↓vcPre, ↓wit_get, ↓reduceIte, vcPost, vcStd, Nat.reduceEqDiff, reduceCtorEq, Nat.reduceAdd, Nat.reduceLeDiff, Int.reduceLT, Int.reduceLE, ↓u_setN]
  exact sub_set2 hi hj hj1
/-- A call with parts of which one is owned: it is lent for good. -/
theorem argOwn2 {f : Nat} {b : AV} {cells : List AV} (k esz : Nat) {τ s : Store} {L : List (List AV)} {v R : AV} (hs : Store.sub τ s) (ho : Own esz τ L v s) (hk : cells[k]? = some v) (hf : ∀ c ∈ cells.set k (.sl esz L), c.flat = true)
    (h : ∀ σ', ACalls Try.prog f [.agg (cells.set k (.sl esz L)), b] σ' (fun r s' => s' = σ' ∧ r = R)) : ACalls Try.prog f [.agg cells, b] s (fun r s' => r = R ∧ Store.sub τ s' ∧ ∀ j o, s j = some o → (∀ M, o ≠ .arr esz M) → s' j = some o) := by
  refine ACalls.weakArgs (h s).1 (WeakL.pos 0 rfl (Weak.agg ?_))
  rcases ho with ⟨rfl, rfl⟩ | ⟨g, rfl, hg, hh⟩
  · refine WeakL.nil k esz hk (WeakL.pure ⟨hf, WeakL.pure ?_⟩)
    exact (h s).mono fun r s' ⟨a, b⟩ => ⟨b, a ▸ hs, fun j o hj _ => a ▸ hj⟩
  · refine WeakL.freeze k hk hh (by omega) (WeakL.pure ?_)
    simp only [List.drop_zero, List.take_length]
    refine ⟨hf, WeakL.pure ?_⟩
    refine (h (s.del g)).mono fun r s' ⟨a, b⟩ => ⟨b, a ▸ sub_del hs hg, fun j o hj hn => ?_⟩
    rw [a, Store.del_ne _ (fun e => by rw [e, hh] at hj; cases hj; exact hn _ rfl)]
    exact hj
theorem Own.new {esz i : Nat} {s : Store} {L : List (List AV)} (hi : s i = none) : Own esz s L (.os i esz 0 L.length) (s.set i (.arr esz L)) := .inr ⟨i, rfl, hi, Store.set_same _ _ _⟩
theorem PO.self {α : Type} {f : α → α → Int} (h : PO f) (a : α) : f a a = 0 := by
  have h1 := h.anti a a
  omega
def zA : List AV := [.int .i64 0, .nils, .int .u32 0, .bool false, .int .u32 0, .bool false, .int .u32 0, .bool false, .nils]
def fewOk (a : At) : Prop := a.path.length ≤ 1000 ∧ (∀ s ∈ a.path, s.ls.length ≤ 1000) ∧ a.cms.length ≤ 1000
theorem shortA_few (a : At) : fewOk (shortA a) := by
  refine ⟨by simp only [shortA, List.length_map, List.length_take]; omega, fun s hs => ?_, by simp only [shortA, List.length_take]; omega⟩
  simp only [shortA, List.mem_map] at hs
  obtain ⟨x, _, rfl⟩ := hs
  simp only [shortS, List.length_take]; omega
theorem fewOk.ok {a : At} (h : fewOk a) : a.ok := ⟨by have := h.1; omega, fun s hs => by have := h.2.1 s hs; show s.ls.length ≤ _; omega, by have := h.2.2; omega⟩
theorem tail92 (a y : At) (ha : a.ok) (hy : y.ok) (he : canonA y = canonA a) {σ s : Store} {i q : Nat} {v : AV} (hs : Store.sub σ s) (hi : s i = some (.box a.c)) (hq : s q = some (.box [.int .i64 y.org, .sl 2 (y.path.map Seg.c), .int .u32 y.nxt, .bool y.hm, .int .u32 y.med, .bool y.hp, .int .u32 y.prf, .bool y.atm, v])) (ho : Own 1 σ (y.cms.map cU) v s) {x : Nat → Env → Store → Prop} {n : Env → Store → Prop} :
    bwp Try.prog Tso.t6_92 [(4, .ptr i 0), (10, .ptr q 0)] s n (fun e τ => e.res τ Tso.F6.slots = some (.bool true) ∧ Store.sub σ τ) x := by
  simp only [Tso.t6_92]
  have e9 : ∀ x : At, x.c.length = 9 := fun _ => rfl
  have t9 : ∀ x : At, List.take 9 x.c = x.c := fun _ => rfl
  simp only [hi, hq, e9, t9, Nat.le_refl, ↓vcPre, ↓wit_get, ↓reduceIte, vcPost, vcStd, Nat.reduceEqDiff, reduceCtorEq, Nat.reduceAdd, Nat.reduceLeDiff, Int.reduceLT, Int.reduceLE, ↓u_setN]
  have hc : Pur Try.prog 13 [.agg y.c, .agg a.c] (.bool true) := by
    have := c13 y a hy ha
    rwa [he, PO.at.self, decide_eq_true rfl] at this
  refine (argOwn2 (cells := y.cO v) 8 1 hs ho rfl (fun c hc => ?_) (fun σ' => hc σ')).Q ?_
  · simp only [At.cO, List.set, List.mem_cons, List.not_mem_nil, or_false] at hc
    rcases hc with rfl | rfl | rfl | rfl | rfl | rfl | rfl | rfl | rfl <;> rfl
  rintro r s' ⟨rfl, h1, h2⟩
  simp only [↓vcPre, ↓wit_get, ↓reduceIte, vcPost, vcStd, Nat.reduceEqDiff, reduceCtorEq, Nat.reduceAdd, Nat.reduceLeDiff, Int.reduceLT, Int.reduceLE, ↓u_setN]
  refine TstRun15.c15.Q ?_
  simp only [↓vcPre, ↓wit_get, ↓reduceIte, vcPost, vcStd, Nat.reduceEqDiff, reduceCtorEq, Nat.reduceAdd, Nat.reduceLeDiff, Int.reduceLT, Int.reduceLE, ↓u_setN]
  exact ⟨rfl, h1⟩
theorem tail92n (c m : AV) (a : At) (ha : a.ok) {σ s : Store} {i q : Nat} (hs : Store.sub σ s) (hi : s i = some (.box a.c)) (hq : s q = some (.box a.c)) {x : Nat → Env → Store → Prop} {n : Env → Store → Prop} :
    bwp Try.prog Tso.t6_92 [(3, m), (4, .ptr i 0), (10, .ptr q 0), (73, c)] s n (fun e τ => e.res τ Tso.F6.slots = some (.bool true) ∧ Store.sub σ τ) x := by
  simp only [Tso.t6_92]
  have e9 : ∀ x : At, x.c.length = 9 := fun _ => rfl
  have t9 : ∀ x : At, List.take 9 x.c = x.c := fun _ => rfl
  simp only [hi, hq, e9, t9, Nat.le_refl, ↓vcPre, ↓wit_get, ↓reduceIte, vcPost, vcStd, Nat.reduceEqDiff, reduceCtorEq, Nat.reduceAdd, Nat.reduceLeDiff, Int.reduceLT, Int.reduceLE, ↓u_setN]
  have hc : Pur Try.prog 13 [.agg a.c, .agg a.c] (.bool true) := by
    have := c13 a a ha ha
    rwa [PO.at.self, decide_eq_true rfl] at this
  refine hc.Q ?_
  simp only [↓vcPre, ↓wit_get, ↓reduceIte, vcPost, vcStd, Nat.reduceEqDiff, reduceCtorEq, Nat.reduceAdd, Nat.reduceLeDiff, Int.reduceLT, Int.reduceLE, ↓u_setN]
  refine TstRun15.c15.Q ?_
  simp only [↓vcPre, ↓wit_get, ↓reduceIte, vcPost, vcStd, Nat.reduceEqDiff, reduceCtorEq, Nat.reduceAdd, Nat.reduceLeDiff, Int.reduceLT, Int.reduceLE, ↓u_setN]
  exact ⟨rfl, hs⟩
set_option maxHeartbeats 600000 in
theorem tail56 (a : At) (fa : fewOk a) (turn : Int) (ht : I64 turn) {σ s : Store} {i : Nat} (hs : Store.sub σ s) (hi : s i = some (.box a.c)) {x : Nat → Env → Store → Prop} {n : Env → Store → Prop} :
    bwp Try.prog Tso.t6_56 [(3, .int .i64 turn), (4, .ptr i 0)] s n (fun e τ => e.res τ Tso.F6.slots = some (.bool true) ∧ Store.sub σ τ) x := by
  have ha := fa.ok
  have hca := canonA_ok ha
  simp only [Tso.t6_56]
  have e9 : ∀ x : At, x.c.length = 9 := fun _ => rfl
  have t9 : ∀ x : At, List.take 9 x.c = x.c := fun _ => rfl
  have spz : ∀ x : At, splice 0 x.c [.int .i64 0, .nils, .int .u32 0, .bool false, .int .u32 0, .bool false, .int .u32 0, .bool false, .nils] = some x.c := fun _ => rfl
  have spZ : ∀ x : At, splice 0 x.c zA = some x.c := fun _ => rfl
  simp only [hi, e9, t9, Nat.le_refl, ↓vcPre, ↓wit_get, ↓reduceIte, vcPost, vcStd, Nat.reduceEqDiff, reduceCtorEq, Nat.reduceAdd, Nat.reduceLeDiff, Int.reduceLT, Int.reduceLE, ↓u_setN]
  refine (c17 a ha).Q ?_
  simp only [↓vcPre, ↓wit_get, ↓reduceIte, vcPost, vcStd, Nat.reduceEqDiff, reduceCtorEq, Nat.reduceAdd, Nat.reduceLeDiff, Int.reduceLT, Int.reduceLE, ↓u_setN]
  refine AllocQ.i0 fun p hp => ?_
  simp only [spz, ↓vcPre, ↓wit_get, ↓reduceIte, vcPost, vcStd, Nat.reduceEqDiff, reduceCtorEq, Nat.reduceAdd, Nat.reduceLeDiff, Int.reduceLT, Int.reduceLE, ↓u_setN]
  have hpi : ¬ p = i := fun e => by rw [e, hi] at hp; cases hp
  have hip : ¬ i = p := fun e => hpi e.symm
  simp only [hi, e9, t9, hpi, hip, Nat.le_refl, ↓vcPre, ↓wit_get, ↓reduceIte, vcPost, vcStd, Nat.reduceEqDiff, reduceCtorEq, Nat.reduceAdd, Nat.reduceLeDiff, Int.reduceLT, Int.reduceLE, ↓u_setN]
  have hs1 : Pur Try.prog 13 [.agg (canonA a).c, .agg a.c] (.bool true) := by
    have := c13 (canonA a) a hca ha
    rwa [canonA_idem, PO.at.self, decide_eq_true rfl] at this
  refine hs1.q' ?_
  simp only [e9, t9, Nat.le_refl, ↓vcPre, ↓wit_get, ↓reduceIte, vcPost, vcStd, Nat.reduceEqDiff, reduceCtorEq, Nat.reduceAdd, Nat.reduceLeDiff, Int.reduceLT, Int.reduceLE, ↓u_setN]
  refine (c17 (canonA a) hca).q' ?_
  simp only [↓vcPre, ↓wit_get, ↓reduceIte, vcPost, vcStd, Nat.reduceEqDiff, reduceCtorEq, Nat.reduceAdd, Nat.reduceLeDiff, Int.reduceLT, Int.reduceLE, ↓u_setN]
  refine (c18 _ _ (canonA_ok hca) hca).q' ?_
  rw [canonA_idem, decide_eq_true rfl]
  simp only [↓vcPre, ↓wit_get, ↓reduceIte, vcPost, vcStd, Nat.reduceEqDiff, reduceCtorEq, Nat.reduceAdd, Nat.reduceLeDiff, Int.reduceLT, Int.reduceLE, ↓u_setN]
  rw [show [AV.int .i64 0, .nils, .int .u32 0, .bool false, .int .u32 0, .bool false, .int .u32 0, .bool false, .nils] = zA from rfl]
  generalize hU : (s.set p (.box zA)).set p (.box (canonA a).c) = U
  have hs2 : Store.sub s U := by rw [← hU]; exact sub_upd' (Store.sub_set _ _ _ hp) hp
  have hUi := hs2 _ _ hi
  have hs3 := Store.sub_trans hs hs2
  clear hU
  simp only [hUi, e9, t9, Nat.le_refl, ↓vcPre, ↓wit_get, ↓reduceIte, vcPost, vcStd, Nat.reduceEqDiff, reduceCtorEq, Nat.reduceAdd, Nat.reduceLeDiff, Int.reduceLT, Int.reduceLE, ↓u_setN]
  refine AllocQ.i0 fun q hq => ?_
  have hqi : ¬ q = i := fun e => by rw [e, hUi] at hq; cases hq
  have hiq : ¬ i = q := fun e => hqi e.symm
  have d8 : List.take 1 (List.drop 8 a.c) = [.sl 1 (a.cms.map cU)] := rfl
  simp only [spZ, hUi, hqi, hiq, e9, t9, d8, Nat.le_refl, ↓vcPre, ↓wit_get, ↓reduceIte, vcPost, vcStd, Nat.reduceEqDiff, reduceCtorEq, Nat.reduceAdd, Nat.reduceLeDiff, Int.reduceLT, Int.reduceLE, ↓u_setN]
  generalize hV : (U.set q (.box zA)).set q (.box a.c) = V
  have hVq : V q = some (.box a.c) := by rw [← hV]; exact Store.set_same _ _ _
  have hs4 : Store.sub U V := by rw [← hV]; exact sub_upd' (Store.sub_set _ _ _ hq) hq
  have hVi := hs4 _ _ hUi
  have hs5 := Store.sub_trans hs3 hs4
  have hfew := fa.2.2
  refine ⟨fun c1 => ?_, fun c1 => tail92n _ _ a ha hs5 hVi hVq⟩
  have w : IntKind.i64.wrap ((a.cms.length : Int) - 1) = (a.cms.length : Int) - 1 := wrap64 (by unfold I64; omega)
  rw [w]
  refine (c11 turn 0 ((a.cms.length : Int) - 1) ht (by omega) (by omega) (by omega)).Q ?_
  obtain ⟨k, hk, hk2⟩ : ∃ k : Nat, (0 : Int) + turn % ((a.cms.length : Int) - 1 - 0 + 1) = k ∧ k < a.cms.length := by
    have h1 := Int.emod_nonneg turn (b := (a.cms.length : Int) - 1 - 0 + 1) (by omega)
    have h2 := Int.emod_lt_of_pos turn (b := (a.cms.length : Int) - 1 - 0 + 1) (by omega)
    exact ⟨(turn % ((a.cms.length : Int) - 1 - 0 + 1)).toNat, by omega, by omega⟩
  rw [hk]
  simp only [hVi, e9, t9, d8, Nat.le_refl, ↓vcPre, ↓wit_get, ↓reduceIte, vcPost, vcStd, Nat.reduceEqDiff, reduceCtorEq, Nat.reduceAdd, Nat.reduceLeDiff, Int.reduceLT, Int.reduceLE, ↓u_setN]
  have hσq : σ q = none := sub_none hs3 hq
  have fin : ∀ (v : AV) (t : Store), Store.sub V t → Own 1 V ((a.cms.drop k ++ a.cms.take k).map cU) v t → v.isTup = false ∧ v.cells.length = 1 ∧ wit (boxO (t q)) fun b => wit (splice 8 v.cells b) fun b => bwp Try.prog Tso.t6_92 [(4, .ptr i 0), (10, .ptr q 0)] (t.set q (.box b)) n (fun e τ => e.res τ Tso.F6.slots = some (.bool true) ∧ Store.sub σ τ) x := by
    intro v t hVt ho
    have hvc := ho.cell
    have htq := hVt _ _ hVq
    have hti := hVt _ _ hVi
    have d8s : splice 8 [v] a.c = some (a.cO v) := rfl
    simp only [hvc.1, hvc.2, htq, d8s, ↓vcPre, ↓wit_get, ↓reduceIte, vcPost, vcStd, Nat.reduceEqDiff, reduceCtorEq, Nat.reduceAdd, Nat.reduceLeDiff, Int.reduceLT, Int.reduceLE, ↓u_setN]
    refine tail92 a { a with cms := a.cms.drop k ++ a.cms.take k } ha ⟨ha.1, ha.2.1, by simp only [List.length_append, List.length_drop, List.length_take]; omega⟩ ?_ (sub_upd' (Store.sub_trans hs5 hVt) hσq) (by rw [Store.set_ne _ _ hiq]; exact hti) (Store.set_same _ _ _) ((ho.weak hs5).setId htq (fun M e => by cases e))
    simp only [canonA, canonC_turn]
  have e1 : (a.cms.drop k).map cU = List.drop k (List.take ((none : Option Int).getD (a.cms.length : Int)).toNat (a.cms.map cU)) := by
    rw [List.map_drop]; simp only [Option.getD_none, Int.toNat_natCast]; rw [List.take_of_length_le (by simp)]
  have e2 : (a.cms.take k).map cU = List.drop (Int.toNat 0) (List.take ((some (k : Int)).getD (a.cms.length : Int)).toNat (a.cms.map cU)) := by
    simp [List.map_take]
  rw [← e1, ← e2]
  refine ⟨by simp; omega, ?_, by simp; omega, ?_⟩
  · refine AllocQ.i0 fun b hb => ?_
    have hsb := Store.sub_set V b (.arr 1 []) hb
    simp only [↓vcPre, ↓wit_get, ↓reduceIte, vcPost, vcStd, Nat.reduceEqDiff, reduceCtorEq, Nat.reduceAdd, Nat.reduceLeDiff, Int.reduceLT, Int.reduceLE, ↓u_setN]
    have hbi := hsb _ _ hVi
    refine ⟨?_, ?_⟩
    · refine Own.appM (τ := V) hsb (Own.new (L := []) hb) slc_sl (by simp; omega) fun v1 s1 hs1 ho1 => ?_
      simp only [hs1 _ _ hVi, e9, t9, d8, Nat.le_refl, ↓vcPre, ↓wit_get, ↓reduceIte, vcPost, vcStd, Nat.reduceEqDiff, reduceCtorEq, Nat.reduceAdd, Nat.reduceLeDiff, Int.reduceLT, Int.reduceLE, ↓u_setN]
      rw [← e2]
      refine ⟨by simp; omega, ?_⟩
      refine Own.appM (τ := V) hs1 ho1 slc_sl (by simp; omega) fun v2 s2 hs2 ho2 => ?_
      simp only [Tso.t6_91]
      simp only [↓vcPre, ↓wit_get, ↓reduceIte, vcPost, vcStd, Nat.reduceEqDiff, reduceCtorEq, Nat.reduceAdd, Nat.reduceLeDiff, Int.reduceLT, Int.reduceLE, ↓u_setN]
      exact fin _ _ hs2 (by simpa using ho2)
    · simp only [hbi, e9, t9, d8, Nat.le_refl, ↓vcPre, ↓wit_get, ↓reduceIte, vcPost, vcStd, Nat.reduceEqDiff, reduceCtorEq, Nat.reduceAdd, Nat.reduceLeDiff, Int.reduceLT, Int.reduceLE, ↓u_setN]
      rw [← e2]
      refine ⟨by simp; omega, ?_⟩
      refine Own.appM (τ := V) hsb (Own.new (L := []) hb) slc_sl (by simp; omega) fun v1 s1 hs1 ho1 => ?_
      refine Own.appM (τ := V) hs1 ho1 slc_sl (by simp; omega) fun v2 s2 hs2 ho2 => ?_
      exact fin _ _ hs2 (by simpa using ho2)
  · refine AllocQ.i0 fun b hb => ?_
    have hsb := Store.sub_set V b (.arr 1 []) hb
    simp only [↓vcPre, ↓wit_get, ↓reduceIte, vcPost, vcStd, Nat.reduceEqDiff, reduceCtorEq, Nat.reduceAdd, Nat.reduceLeDiff, Int.reduceLT, Int.reduceLE, ↓u_setN]
    refine Own.appM (τ := V) hsb (Own.new (L := []) hb) slc_sl (by simp; omega) fun v1 s1 hs1 ho1 => ?_
    refine Own.appM (τ := V) hs1 ho1 slc_sl (by simp; omega) fun v2 s2 hs2 ho2 => ?_
    exact fin _ _ hs2 (by simpa using ho2)
theorem lawOrder (a b c : At) (turn : Int) (ht : I64 turn) : Pur Try.prog 6 [.agg a.c, .agg b.c, .agg c.c, .int .i64 turn] (.bool true) := by
  refine pur_of Tso.F6 (by simp [Tso.F6, Fn.mkX]) fun σ => ?_
  simp only [Tso.F6, Fn.mkX, Tso.b6]
  have e9 : ∀ x : At, x.c.length = 9 := fun _ => rfl
  have t9 : ∀ x : At, List.take 9 x.c = x.c := fun _ => rfl
  have sp : ∀ x y : At, splice 0 x.c y.c = some x.c := fun _ _ => rfl
  simp only [↓vcPre, ↓wit_get, ↓reduceIte, vcPost, vcStd, Nat.reduceEqDiff, reduceCtorEq, Nat.reduceAdd, Nat.reduceLeDiff, Int.reduceLT, Int.reduceLE, ↓u_setN]
  refine AllocQ.i0 fun i hi => ?_
  simp only [↓vcPre, ↓wit_get, ↓reduceIte, vcPost, vcStd, Nat.reduceEqDiff, reduceCtorEq, Nat.reduceAdd, Nat.reduceLeDiff, Int.reduceLT, Int.reduceLE, ↓u_setN]
  refine AllocQ.i1 fun j hj1 hj2 hj => ?_
  simp only [↓vcPre, ↓wit_get, ↓reduceIte, vcPost, vcStd, Nat.reduceEqDiff, reduceCtorEq, Nat.reduceAdd, Nat.reduceLeDiff, Int.reduceLT, Int.reduceLE, ↓u_setN]
  refine AllocQ.i2 fun k hk1 hk2 hk3 hk4 hk => ?_
  simp only [hj1, hj2, hk1, hk2, hk3, hk4, e9, t9, sp, Nat.le_refl, ↓vcPre, ↓wit_get, ↓reduceIte, vcPost, vcStd, Nat.reduceEqDiff, reduceCtorEq, Nat.reduceAdd, Nat.reduceLeDiff, Int.reduceLT, Int.reduceLE, ↓u_setN]
  refine (c8 a).q' ?_
  simp only [↓vcPre, ↓wit_get, ↓reduceIte, vcPost, vcStd, Nat.reduceEqDiff, reduceCtorEq, Nat.reduceAdd, Nat.reduceLeDiff, Int.reduceLT, Int.reduceLE, ↓u_setN]
  refine (c8 b).q' ?_
  simp only [↓vcPre, ↓wit_get, ↓reduceIte, vcPost, vcStd, Nat.reduceEqDiff, reduceCtorEq, Nat.reduceAdd, Nat.reduceLeDiff, Int.reduceLT, Int.reduceLE, ↓u_setN]
  refine (c8 c).q' ?_
  simp only [hj1, hj2, hk1, hk2, hk3, hk4, e9, t9, sp, Nat.le_refl, ↓vcPre, ↓wit_get, ↓reduceIte, vcPost, vcStd, Nat.reduceEqDiff, reduceCtorEq, Nat.reduceAdd, Nat.reduceLeDiff, Int.reduceLT, Int.reduceLE, ↓u_setN]
  have sa := shortA_few a
  have sb := shortA_few b
  have sc := shortA_few c
  generalize shortA a = A at sa ⊢
  generalize shortA b = B at sb ⊢
  generalize shortA c = C at sc ⊢
  have hs2 : Store.sub σ ((((((σ.set i (.box a.c)).set j (.box b.c)).set k (.box c.c)).set i (.box A.c)).set j (.box B.c)).set k (.box C.c)) :=
    sub_upd' (sub_upd' (sub_upd' (sub_upd' (sub_upd' (sub_upd' (Store.sub_refl _) hi) hj) hk) hi) hj) hk
  have hTi : ((((((σ.set i (.box a.c)).set j (.box b.c)).set k (.box c.c)).set i (.box A.c)).set j (.box B.c)).set k (.box C.c)) i = some (.box A.c) := by rw [Store.set_ne _ _ hk2, Store.set_ne _ _ hj2, Store.set_same]
  have hTj : ((((((σ.set i (.box a.c)).set j (.box b.c)).set k (.box c.c)).set i (.box A.c)).set j (.box B.c)).set k (.box C.c)) j = some (.box B.c) := by rw [Store.set_ne _ _ hk4, Store.set_same]
  have hTk : ((((((σ.set i (.box a.c)).set j (.box b.c)).set k (.box c.c)).set i (.box A.c)).set j (.box B.c)).set k (.box C.c)) k = some (.box C.c) := Store.set_same _ _ _
  generalize ((((((σ.set i (.box a.c)).set j (.box b.c)).set k (.box c.c)).set i (.box A.c)).set j (.box B.c)).set k (.box C.c)) = T at hs2 hTi hTj hTk ⊢
  have bft : (false == true) = false := rfl
  have btf : (true == false) = false := rfl
  have bff : (false == false) = true := rfl
  have btt : (true == true) = true := rfl
  have pS := c13 A B sa.ok sb.ok
  have pL := c16 A B sa.ok sb.ok
  have pM := c16 B A sb.ok sa.ok
  have pN := c16 B C sb.ok sc.ok
  have pZ := c16 A C sa.ok sc.ok
  have o1 := PO.at.anti (canonA A) (canonA B)
  rcases Int.lt_trichotomy (cmpAs (canonA A) (canonA B)) 0 with h | h | h
  · rw [decide_eq_false (by omega)] at pS
    rw [decide_eq_true h] at pL
    rw [decide_eq_false (by omega)] at pM
    refine pS.q' ?_
    simp only [hTi, hTj, hTk, e9, t9, Nat.le_refl, bft, btf, bff, btt, ↓vcPre, ↓wit_get, ↓reduceIte, vcPost, vcStd, Nat.reduceEqDiff, reduceCtorEq, Nat.reduceAdd, Nat.reduceLeDiff, Int.reduceLT, Int.reduceLE, ↓u_setN]
    refine pL.q' ?_
    simp only [hTi, hTj, hTk, e9, t9, Nat.le_refl, bft, btf, bff, btt, ↓vcPre, ↓wit_get, ↓reduceIte, vcPost, vcStd, Nat.reduceEqDiff, reduceCtorEq, Nat.reduceAdd, Nat.reduceLeDiff, Int.reduceLT, Int.reduceLE, ↓u_setN]
    refine pL.q' ?_
    simp only [hTi, hTj, hTk, e9, t9, Nat.le_refl, bft, btf, bff, btt, ↓vcPre, ↓wit_get, ↓reduceIte, vcPost, vcStd, Nat.reduceEqDiff, reduceCtorEq, Nat.reduceAdd, Nat.reduceLeDiff, Int.reduceLT, Int.reduceLE, ↓u_setN]
    by_cases h2 : cmpAs (canonA B) (canonA C) < 0
    · rw [decide_eq_true h2] at pN
      rw [decide_eq_true (PO.at.lt h (by omega))] at pZ
      refine pM.q' ?_
      simp only [hTi, hTj, hTk, e9, t9, Nat.le_refl, bft, btf, bff, btt, ↓vcPre, ↓wit_get, ↓reduceIte, vcPost, vcStd, Nat.reduceEqDiff, reduceCtorEq, Nat.reduceAdd, Nat.reduceLeDiff, Int.reduceLT, Int.reduceLE, ↓u_setN]
      refine pL.q' ?_
      simp only [hTi, hTj, hTk, e9, t9, Nat.le_refl, bft, btf, bff, btt, ↓vcPre, ↓wit_get, ↓reduceIte, vcPost, vcStd, Nat.reduceEqDiff, reduceCtorEq, Nat.reduceAdd, Nat.reduceLeDiff, Int.reduceLT, Int.reduceLE, ↓u_setN]
      refine pN.q' ?_
      simp only [hTi, hTj, hTk, e9, t9, Nat.le_refl, bft, btf, bff, btt, ↓vcPre, ↓wit_get, ↓reduceIte, vcPost, vcStd, Nat.reduceEqDiff, reduceCtorEq, Nat.reduceAdd, Nat.reduceLeDiff, Int.reduceLT, Int.reduceLE, ↓u_setN]
      refine pZ.q' ?_
      simp only [hTi, hTj, hTk, e9, t9, Nat.le_refl, bft, btf, bff, btt, ↓vcPre, ↓wit_get, ↓reduceIte, vcPost, vcStd, Nat.reduceEqDiff, reduceCtorEq, Nat.reduceAdd, Nat.reduceLeDiff, Int.reduceLT, Int.reduceLE, ↓u_setN]
      exact tail56 A sa turn ht hs2 hTi
    · rw [decide_eq_false h2] at pN
      refine pM.q' ?_
      simp only [hTi, hTj, hTk, e9, t9, Nat.le_refl, bft, btf, bff, btt, ↓vcPre, ↓wit_get, ↓reduceIte, vcPost, vcStd, Nat.reduceEqDiff, reduceCtorEq, Nat.reduceAdd, Nat.reduceLeDiff, Int.reduceLT, Int.reduceLE, ↓u_setN]
      refine pL.q' ?_
      simp only [hTi, hTj, hTk, e9, t9, Nat.le_refl, bft, btf, bff, btt, ↓vcPre, ↓wit_get, ↓reduceIte, vcPost, vcStd, Nat.reduceEqDiff, reduceCtorEq, Nat.reduceAdd, Nat.reduceLeDiff, Int.reduceLT, Int.reduceLE, ↓u_setN]
      refine pN.q' ?_
      simp only [hTi, hTj, hTk, e9, t9, Nat.le_refl, bft, btf, bff, btt, ↓vcPre, ↓wit_get, ↓reduceIte, vcPost, vcStd, Nat.reduceEqDiff, reduceCtorEq, Nat.reduceAdd, Nat.reduceLeDiff, Int.reduceLT, Int.reduceLE, ↓u_setN]
      exact tail56 A sa turn ht hs2 hTi
  · rw [decide_eq_true h] at pS
    rw [decide_eq_false (by omega)] at pL
    rw [decide_eq_false (by omega)] at pM
    refine pS.q' ?_
    simp only [hTi, hTj, hTk, e9, t9, Nat.le_refl, bft, btf, bff, btt, ↓vcPre, ↓wit_get, ↓reduceIte, vcPost, vcStd, Nat.reduceEqDiff, reduceCtorEq, Nat.reduceAdd, Nat.reduceLeDiff, Int.reduceLT, Int.reduceLE, ↓u_setN]
    refine pL.q' ?_
    simp only [hTi, hTj, hTk, e9, t9, Nat.le_refl, bft, btf, bff, btt, ↓vcPre, ↓wit_get, ↓reduceIte, vcPost, vcStd, Nat.reduceEqDiff, reduceCtorEq, Nat.reduceAdd, Nat.reduceLeDiff, Int.reduceLT, Int.reduceLE, ↓u_setN]
    refine pM.q' ?_
    simp only [hTi, hTj, hTk, e9, t9, Nat.le_refl, bft, btf, bff, btt, ↓vcPre, ↓wit_get, ↓reduceIte, vcPost, vcStd, Nat.reduceEqDiff, reduceCtorEq, Nat.reduceAdd, Nat.reduceLeDiff, Int.reduceLT, Int.reduceLE, ↓u_setN]
    refine pL.q' ?_
    simp only [hTi, hTj, hTk, e9, t9, Nat.le_refl, bft, btf, bff, btt, ↓vcPre, ↓wit_get, ↓reduceIte, vcPost, vcStd, Nat.reduceEqDiff, reduceCtorEq, Nat.reduceAdd, Nat.reduceLeDiff, Int.reduceLT, Int.reduceLE, ↓u_setN]
    refine pL.q' ?_
    simp only [hTi, hTj, hTk, e9, t9, Nat.le_refl, bft, btf, bff, btt, ↓vcPre, ↓wit_get, ↓reduceIte, vcPost, vcStd, Nat.reduceEqDiff, reduceCtorEq, Nat.reduceAdd, Nat.reduceLeDiff, Int.reduceLT, Int.reduceLE, ↓u_setN]
    exact tail56 A sa turn ht hs2 hTi
  · rw [decide_eq_false (by omega)] at pS
    rw [decide_eq_false (by omega)] at pL
    rw [decide_eq_true (by omega)] at pM
    refine pS.q' ?_
    simp only [hTi, hTj, hTk, e9, t9, Nat.le_refl, bft, btf, bff, btt, ↓vcPre, ↓wit_get, ↓reduceIte, vcPost, vcStd, Nat.reduceEqDiff, reduceCtorEq, Nat.reduceAdd, Nat.reduceLeDiff, Int.reduceLT, Int.reduceLE, ↓u_setN]
    refine pL.q' ?_
    simp only [hTi, hTj, hTk, e9, t9, Nat.le_refl, bft, btf, bff, btt, ↓vcPre, ↓wit_get, ↓reduceIte, vcPost, vcStd, Nat.reduceEqDiff, reduceCtorEq, Nat.reduceAdd, Nat.reduceLeDiff, Int.reduceLT, Int.reduceLE, ↓u_setN]
    refine pM.q' ?_
    simp only [hTi, hTj, hTk, e9, t9, Nat.le_refl, bft, btf, bff, btt, ↓vcPre, ↓wit_get, ↓reduceIte, vcPost, vcStd, Nat.reduceEqDiff, reduceCtorEq, Nat.reduceAdd, Nat.reduceLeDiff, Int.reduceLT, Int.reduceLE, ↓u_setN]
    refine pL.q' ?_
    simp only [hTi, hTj, hTk, e9, t9, Nat.le_refl, bft, btf, bff, btt, ↓vcPre, ↓wit_get, ↓reduceIte, vcPost, vcStd, Nat.reduceEqDiff, reduceCtorEq, Nat.reduceAdd, Nat.reduceLeDiff, Int.reduceLT, Int.reduceLE, ↓u_setN]
    refine pL.q' ?_
    simp only [hTi, hTj, hTk, e9, t9, Nat.le_refl, bft, btf, bff, btt, ↓vcPre, ↓wit_get, ↓reduceIte, vcPost, vcStd, Nat.reduceEqDiff, reduceCtorEq, Nat.reduceAdd, Nat.reduceLeDiff, Int.reduceLT, Int.reduceLE, ↓u_setN]
    exact tail56 A sa turn ht hs2 hTi
end Go.Am

/- DX -/
namespace Go.Am
open Go.Proofs
theorem imp_agg {G : Gh} {w : World} {xs ys : List AV} {cs : Array Value} (h : ImpL xs ys) (hv : VRel G w (.agg xs) (.agg cs)) : VRel G w (.agg ys) (.agg cs) := by
  cases hv with
  | agg hl hf hv =>
    refine .agg (by rw [← h.length]; exact hl) h.flat fun k hk hk' => ?_
    obtain ⟨b, hb, hr⟩ := h.get k _ (List.getElem?_eq_getElem (by rw [h.length]; exact hk))
    rw [List.getElem?_eq_getElem hk] at hb; cases hb
    exact hr.2 _ _ _ (hv k (by rw [h.length]; exact hk) hk')
theorem dU (xs : List AV) (h : TOk Try.prog 1 23 xs) : ∃ r : Int, ImpL xs (cU r) ∧ True := by
  obtain ⟨m1, rfl, g1, g2⟩ := TOk.int Try.underlying23 h
  exact ⟨m1, ImpL.one rfl, trivial⟩
theorem dSeg (xs : List AV) (h : TOk Try.prog 3 49 xs) : ∃ r : Seg, ImpL xs r.c ∧ True := by
  obtain ⟨a, b, rfl, h1, c, d, rfl, h2, rfl⟩ := TOk.struct (ts := [3, 24]) Try.underlying49 rfl h
  obtain ⟨m1, rfl, g1, g2⟩ := TOk.int Try.underlying3 h1
  obtain ⟨rs, hr, _⟩ := TOk.slI (sz := 1) (by_ := 4) Try.underlying24 (by kernel_rfl) (by kernel_rfl) cU (fun _ => True) dU h2
  exact ⟨⟨m1, rs⟩, (ImpL.one rfl).append (hr.append .nil), trivial⟩
theorem dAt (xs : List AV) (h : TOk Try.prog 5 26 xs) : ∃ r : At, ImpL xs r.c ∧ I64 r.org := by
  obtain ⟨a1, b1, rfl, h1, a2, b2, rfl, h2, a3, b3, rfl, h3, a4, b4, rfl, h4, a5, b5, rfl, h5, a6, b6, rfl, h6, a7, b7, rfl, h7, a8, b8, rfl, h8, a9, b9, rfl, h9, rfl⟩ := TOk.struct (ts := [3, 22, 23, 4, 23, 4, 23, 4, 24]) Try.underlying26 rfl h
  obtain ⟨m1, rfl, g1, g2⟩ := TOk.int Try.underlying3 h1
  obtain ⟨rs, hr, _⟩ := TOk.slI (sz := 2) (by_ := 32) Try.underlying22 (by kernel_rfl) (by kernel_rfl) Seg.c (fun _ => True) dSeg h2
  obtain ⟨m3, rfl, _, _⟩ := TOk.int Try.underlying23 h3
  obtain ⟨m4, rfl⟩ := TOk.bool Try.underlying4 h4
  obtain ⟨m5, rfl, _, _⟩ := TOk.int Try.underlying23 h5
  obtain ⟨m6, rfl⟩ := TOk.bool Try.underlying4 h6
  obtain ⟨m7, rfl, _, _⟩ := TOk.int Try.underlying23 h7
  obtain ⟨m8, rfl⟩ := TOk.bool Try.underlying4 h8
  obtain ⟨cs, hc, _⟩ := TOk.slI (sz := 1) (by_ := 4) Try.underlying24 (by kernel_rfl) (by kernel_rfl) cU (fun _ => True) (fun x hx => by
    obtain ⟨m1, rfl, g1, g2⟩ := TOk.int Try.underlying23 hx
    exact ⟨m1, ImpL.one rfl, trivial⟩) h9
  exact ⟨⟨m1, rs, m3, m4, m5, m6, m7, m8, cs⟩, (ImpL.one rfl).append (hr.append ((ImpL.one rfl).append ((ImpL.one rfl).append ((ImpL.one rfl).append ((ImpL.one rfl).append ((ImpL.one rfl).append ((ImpL.one rfl).append (hc.append .nil)))))))), ⟨g1, g2⟩⟩
theorem aAt {w : World} {a : List AV} {v : Array Value} (hr : VRel (G0 w) w (.agg a) (.agg v)) (h : TOk Try.prog 5 26 a) : ∃ r : At, VRel (G0 w) w (.agg r.c) (.agg v) ∧ I64 r.org := by
  obtain ⟨r, hi, ho⟩ := dAt _ h
  exact ⟨r, imp_agg hi hr, ho⟩
theorem wfI {n : Int} (h : (Lit.int .i64 n).wf = true) : I64 n := by
  simp only [Lit.wf, Bool.and_eq_true, decide_eq_true_eq] at h
  exact h
theorem lawOrder2 (a : At) (_ : I64 a.org) (b : At) (_ : I64 b.org) (c : At) (_ : I64 c.org) (t : Int) (ht : I64 t) : Pur Try.prog 6 [.agg a.c, .agg b.c, .agg c.c, .int .i64 t] (.bool true) := lawOrder a b c t ht
end Go.Am
