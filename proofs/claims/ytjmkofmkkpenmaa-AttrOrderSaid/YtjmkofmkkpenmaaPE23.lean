/- A part of the proof: a logic for calls over plain values, and the functions that the law reaches, each walked once. -/
import Derived.Test.YtjmkofmkkpenmaaPE22
import Derived.Laws.Bits64b
import Derived.Sort.AssemblyPlain
set_option linter.unusedVariables false
set_option linter.unusedSimpArgs false
set_option linter.unusedSectionVars false

namespace Go.Am.Tst
open Go.Proofs
/-- slices.Sort[[]uint32,uint32] -/
def b61 : BC := .seq (.ops [⟨some 3, none, .pure (.mov), [.t 0]⟩, ⟨some 4, none, .pure (.len), [.t 3]⟩, ⟨some 2, none, .pure (.mov), [.t 4]⟩] [0, 2]) (.ops [⟨some 5, none, .pure (.mov), [.t 0]⟩, ⟨some 6, none, .pure (.mov), [.t 2]⟩, ⟨some 7, none, .pure (.mov), [.t 2]⟩, ⟨some 8, none, .pure (.conv .u64), [.t 7]⟩, ⟨some 9, none, .loud (.call 52), [.t 8]⟩, ⟨some 10, none, .loud (.call 83), [.t 5, .c (.int .i64 0), .t 6, .t 9]⟩] [])
def F61 : Fn Try.prog 61 := Fn.mkX false b61 [] 11 Try.f61 _ Try.func61 (by decide) rfl Try.ntmps61 (by kernel_rfl) (by kernel_rfl)
/-- slices.pdqsortOrdered[uint32] -/
def b83 : BC := .seq (.ops [⟨some 8, none, .pure (.mov), [.c (.bool true)]⟩] [0, 1, 2, 3, 8]) (.seq (.ops [⟨some 9, none, .pure (.mov), [.c (.bool true)]⟩] [0, 1, 2, 3, 8, 9]) (.block 0 (.loop [0, 1, 2, 3, 8, 9] (.block 1 (.seq (.ops [⟨some 19, none, .pure (.mov), [.t 2]⟩, ⟨some 20, none, .pure (.mov), [.t 1]⟩, ⟨some 21, none, .pure (.bin .sub), [.t 19, .t 20]⟩, ⟨some 10, none, .pure (.mov), [.t 21]⟩] [0, 1, 2, 3, 8, 9, 10]) (.seq (.seq (.ops [⟨some 22, none, .pure (.mov), [.t 10]⟩, ⟨some 23, none, .pure (.bin .leq), [.t 22, .c (.int .i64 12)]⟩] [0, 1, 2, 3, 8, 9, 10, 23]) (.cond (.t 23) (.seq (.ops [⟨some 24, none, .pure (.mov), [.t 0]⟩, ⟨some 25, none, .pure (.mov), [.t 1]⟩, ⟨some 26, none, .pure (.mov), [.t 2]⟩, ⟨some 27, none, .loud (.call 90), [.t 24, .t 25, .t 26]⟩] []) (.ret)) (.skip))) (.seq (.seq (.ops [⟨some 28, none, .pure (.mov), [.t 3]⟩, ⟨some 29, none, .pure (.bin .eql), [.t 28, .c (.int .i64 0)]⟩] [0, 1, 2, 3, 8, 9, 10, 29]) (.cond (.t 29) (.seq (.ops [⟨some 30, none, .pure (.mov), [.t 0]⟩, ⟨some 31, none, .pure (.mov), [.t 1]⟩, ⟨some 32, none, .pure (.mov), [.t 2]⟩, ⟨some 33, none, .loud (.call 91), [.t 30, .t 31, .t 32]⟩] []) (.ret)) (.skip))) (.seq (.seq (.ops [⟨some 34, none, .pure (.mov), [.t 8]⟩, ⟨some 35, none, .pure (.not), [.t 34]⟩] [0, 1, 2, 3, 8, 9, 10, 35]) (.cond (.t 35) (.seq (.ops [⟨some 36, none, .pure (.mov), [.t 0]⟩, ⟨some 37, none, .pure (.mov), [.t 1]⟩, ⟨some 38, none, .pure (.mov), [.t 2]⟩, ⟨some 39, none, .loud (.call 92), [.t 36, .t 37, .t 38]⟩] [0, 1, 2, 3, 8, 9, 10]) (.ops [⟨some 40, none, .pure (.mov), [.t 3]⟩, ⟨some 41, none, .pure (.bin .sub), [.t 40, .c (.int .i64 1)]⟩, ⟨some 3, none, .pure (.mov), [.t 41]⟩] [0, 1, 2, 3, 8, 9, 10])) (.skip))) (.seq (.ops [⟨some 43, none, .pure (.mov), [.t 0]⟩, ⟨some 44, none, .pure (.mov), [.t 1]⟩, ⟨some 45, none, .pure (.mov), [.t 2]⟩, ⟨some 46, none, .loud (.call 93), [.t 43, .t 44, .t 45]⟩, ⟨some 42, none, .pure (.mov), [.t 46]⟩, ⟨some 47, none, .pure (.ext 0), [.t 42]⟩, ⟨some 48, none, .pure (.ext 1), [.t 42]⟩, ⟨some 11, none, .pure (.mov), [.t 47]⟩, ⟨some 12, none, .pure (.mov), [.t 48]⟩] [0, 1, 2, 3, 8, 9, 10, 11, 12]) (.seq (.seq (.ops [⟨some 49, none, .pure (.mov), [.t 12]⟩, ⟨some 50, none, .pure (.bin .eql), [.t 49, .c (.int .i64 2)]⟩] [0, 1, 2, 3, 8, 9, 10, 11, 12, 50]) (.cond (.t 50) (.seq (.ops [⟨some 51, none, .pure (.mov), [.t 0]⟩, ⟨some 52, none, .pure (.mov), [.t 1]⟩, ⟨some 53, none, .pure (.mov), [.t 2]⟩, ⟨some 54, none, .loud (.call 94), [.t 51, .t 52, .t 53]⟩] [0, 1, 2, 3, 8, 9, 10, 11]) (.seq (.ops [⟨some 55, none, .pure (.mov), [.t 2]⟩, ⟨some 56, none, .pure (.bin .sub), [.t 55, .c (.int .i64 1)]⟩, ⟨some 57, none, .pure (.mov), [.t 11]⟩, ⟨some 58, none, .pure (.mov), [.t 1]⟩, ⟨some 59, none, .pure (.bin .sub), [.t 57, .t 58]⟩, ⟨some 60, none, .pure (.bin .sub), [.t 56, .t 59]⟩, ⟨some 11, none, .pure (.mov), [.t 60]⟩] [0, 1, 2, 3, 8, 9, 10, 11]) (.ops [⟨some 12, none, .pure (.mov), [.c (.int .i64 1)]⟩] [0, 1, 2, 3, 8, 9, 10, 11, 12]))) (.skip))) (.seq (.seq (.ops [⟨some 61, none, .pure (.mov), [.t 8]⟩, ⟨some 62, none, .pure (.mov), [.t 61]⟩, ⟨some 63, some (62, true), .pure (.mov), [.t 9]⟩, ⟨some 64, none, .pick, [.t 62, .t 63, .c (.bool false)]⟩, ⟨some 65, none, .pure (.mov), [.t 64]⟩, ⟨some 66, some (65, true), .pure (.mov), [.t 12]⟩, ⟨some 67, some (65, true), .pure (.bin .eql), [.t 66, .c (.int .i64 1)]⟩, ⟨some 68, none, .pick, [.t 65, .t 67, .c (.bool false)]⟩] [0, 1, 2, 3, 8, 9, 10, 11, 68]) (.cond (.t 68) (.seq (.ops [⟨some 69, none, .pure (.mov), [.t 0]⟩, ⟨some 70, none, .pure (.mov), [.t 1]⟩, ⟨some 71, none, .pure (.mov), [.t 2]⟩, ⟨some 72, none, .loud (.call 95), [.t 69, .t 70, .t 71]⟩] [0, 1, 2, 3, 8, 9, 10, 11, 72]) (.cond (.t 72) (.ret) (.skip))) (.skip))) (.seq (.seq (.ops [⟨some 73, none, .pure (.mov), [.t 1]⟩, ⟨some 74, none, .pure (.bin .gtr), [.t 73, .c (.int .i64 0)]⟩, ⟨some 75, none, .pure (.mov), [.t 74]⟩, ⟨some 76, some (75, true), .pure (.mov), [.t 0]⟩, ⟨some 77, some (75, true), .pure (.mov), [.t 1]⟩, ⟨some 78, some (75, true), .pure (.bin .sub), [.t 77, .c (.int .i64 1)]⟩, ⟨some 79, some (75, true), .pure (.idx 1), [.t 76, .t 78]⟩, ⟨some 81, some (75, true), .pure (.mov), [.t 0]⟩, ⟨some 82, some (75, true), .pure (.mov), [.t 11]⟩, ⟨some 83, some (75, true), .pure (.idx 1), [.t 81, .t 82]⟩, ⟨some 80, some (75, true), .load (.ld 1 false), [.t 79]⟩, ⟨some 84, some (75, true), .load (.ld 1 false), [.t 83]⟩, ⟨some 85, some (75, true), .loud (.call 96), [.t 80, .t 84]⟩, ⟨some 86, some (75, true), .pure (.not), [.t 85]⟩, ⟨some 87, none, .pick, [.t 75, .t 86, .c (.bool false)]⟩] [0, 1, 2, 3, 8, 9, 10, 11, 87]) (.cond (.t 87) (.seq (.ops [⟨some 88, none, .pure (.mov), [.t 0]⟩, ⟨some 89, none, .pure (.mov), [.t 1]⟩, ⟨some 90, none, .pure (.mov), [.t 2]⟩, ⟨some 91, none, .pure (.mov), [.t 11]⟩, ⟨some 92, none, .loud (.call 97), [.t 88, .t 89, .t 90, .t 91]⟩, ⟨some 13, none, .pure (.mov), [.t 92]⟩] [0, 2, 3, 8, 9, 13]) (.seq (.ops [⟨some 93, none, .pure (.mov), [.t 13]⟩, ⟨some 1, none, .pure (.mov), [.t 93]⟩] [0, 1, 2, 3, 8, 9]) (.exit 1))) (.skip))) (.seq (.ops [⟨some 95, none, .pure (.mov), [.t 0]⟩, ⟨some 96, none, .pure (.mov), [.t 1]⟩, ⟨some 97, none, .pure (.mov), [.t 2]⟩, ⟨some 98, none, .pure (.mov), [.t 11]⟩, ⟨some 99, none, .loud (.call 98), [.t 95, .t 96, .t 97, .t 98]⟩, ⟨some 94, none, .pure (.mov), [.t 99]⟩, ⟨some 100, none, .pure (.ext 0), [.t 94]⟩, ⟨some 101, none, .pure (.ext 1), [.t 94]⟩, ⟨some 14, none, .pure (.mov), [.t 100]⟩, ⟨some 15, none, .pure (.mov), [.t 101]⟩] [0, 1, 2, 3, 10, 14, 15]) (.seq (.ops [⟨some 102, none, .pure (.mov), [.t 15]⟩, ⟨some 9, none, .pure (.mov), [.t 102]⟩] [0, 1, 2, 3, 9, 10, 14]) (.seq (.ops [⟨some 103, none, .pure (.mov), [.t 14]⟩, ⟨some 104, none, .pure (.mov), [.t 1]⟩, ⟨some 105, none, .pure (.bin .sub), [.t 103, .t 104]⟩, ⟨some 106, none, .pure (.mov), [.t 2]⟩, ⟨some 107, none, .pure (.mov), [.t 14]⟩, ⟨some 108, none, .pure (.bin .sub), [.t 106, .t 107]⟩, ⟨some 16, none, .pure (.mov), [.t 105]⟩, ⟨some 17, none, .pure (.mov), [.t 108]⟩] [0, 1, 2, 3, 9, 10, 14, 16, 17]) (.seq (.ops [⟨some 109, none, .pure (.mov), [.t 10]⟩, ⟨some 110, none, .pure (.bin .quo), [.t 109, .c (.int .i64 8)]⟩, ⟨some 18, none, .pure (.mov), [.t 110]⟩] [0, 1, 2, 3, 9, 14, 16, 17, 18]) (.seq (.ops [⟨some 111, none, .pure (.mov), [.t 16]⟩, ⟨some 112, none, .pure (.mov), [.t 17]⟩, ⟨some 113, none, .pure (.bin .lss), [.t 111, .t 112]⟩] [0, 1, 2, 3, 9, 14, 16, 17, 18, 113]) (.cond (.t 113) (.seq (.ops [⟨some 114, none, .pure (.mov), [.t 16]⟩, ⟨some 115, none, .pure (.mov), [.t 18]⟩, ⟨some 116, none, .pure (.bin .geq), [.t 114, .t 115]⟩, ⟨some 8, none, .pure (.mov), [.t 116]⟩] [0, 1, 2, 3, 8, 9, 14]) (.seq (.ops [⟨some 117, none, .pure (.mov), [.t 0]⟩, ⟨some 118, none, .pure (.mov), [.t 1]⟩, ⟨some 119, none, .pure (.mov), [.t 14]⟩, ⟨some 120, none, .pure (.mov), [.t 3]⟩, ⟨some 121, none, .loud (.call 83), [.t 117, .t 118, .t 119, .t 120]⟩] [0, 2, 3, 8, 9, 14]) (.ops [⟨some 122, none, .pure (.mov), [.t 14]⟩, ⟨some 123, none, .pure (.bin .add), [.t 122, .c (.int .i64 1)]⟩, ⟨some 1, none, .pure (.mov), [.t 123]⟩] [0, 1, 2, 3, 8, 9]))) (.seq (.ops [⟨some 124, none, .pure (.mov), [.t 17]⟩, ⟨some 125, none, .pure (.mov), [.t 18]⟩, ⟨some 126, none, .pure (.bin .geq), [.t 124, .t 125]⟩, ⟨some 8, none, .pure (.mov), [.t 126]⟩] [0, 1, 2, 3, 8, 9, 14]) (.seq (.ops [⟨some 127, none, .pure (.mov), [.t 0]⟩, ⟨some 128, none, .pure (.mov), [.t 14]⟩, ⟨some 129, none, .pure (.bin .add), [.t 128, .c (.int .i64 1)]⟩, ⟨some 130, none, .pure (.mov), [.t 2]⟩, ⟨some 131, none, .pure (.mov), [.t 3]⟩, ⟨some 132, none, .loud (.call 83), [.t 127, .t 129, .t 130, .t 131]⟩] [0, 1, 3, 8, 9, 14]) (.ops [⟨some 133, none, .pure (.mov), [.t 14]⟩, ⟨some 2, none, .pure (.mov), [.t 133]⟩] [0, 1, 2, 3, 8, 9])))))))))))))))))))))
def F83 : Fn Try.prog 83 := Fn.mkX false b83 [] 134 Try.f83 _ Try.func83 (by decide) rfl Try.ntmps83 (by kernel_rfl) (by kernel_rfl)
/-- slices.breakPatternsOrdered[uint32] -/
def b92 : BC := .seq (.ops [⟨some 11, none, .pure (.mov), [.t 2]⟩, ⟨some 12, none, .pure (.mov), [.t 1]⟩, ⟨some 13, none, .pure (.bin .sub), [.t 11, .t 12]⟩, ⟨some 6, none, .pure (.mov), [.t 13]⟩] [0, 1, 6]) (.seq (.ops [⟨some 14, none, .pure (.mov), [.t 6]⟩, ⟨some 15, none, .pure (.bin .geq), [.t 14, .c (.int .i64 8)]⟩] [0, 1, 6, 15]) (.cond (.t 15) (.seq (.ops [⟨some 16, none, .pure (.mov), [.t 6]⟩, ⟨some 17, none, .pure (.conv .u64), [.t 16]⟩, ⟨some 7, none, .alloc (.alloc [(.int .u64 0)]), []⟩, ⟨none, none, .loud (.st 1), [.t 7, .t 17]⟩] [0, 1, 6, 7]) (.seq (.ops [⟨some 18, none, .pure (.mov), [.t 6]⟩, ⟨some 19, none, .loud (.call 86), [.t 18]⟩, ⟨some 8, none, .pure (.mov), [.t 19]⟩] [0, 1, 6, 7, 8]) (.seq (.ops [⟨some 20, none, .pure (.mov), [.t 1]⟩, ⟨some 21, none, .pure (.mov), [.t 6]⟩, ⟨some 22, none, .pure (.bin .quo), [.t 21, .c (.int .i64 4)]⟩, ⟨some 23, none, .pure (.bin .mul), [.t 22, .c (.int .i64 2)]⟩, ⟨some 24, none, .pure (.bin .add), [.t 20, .t 23]⟩, ⟨some 25, none, .pure (.bin .sub), [.t 24, .c (.int .i64 1)]⟩, ⟨some 9, none, .pure (.mov), [.t 25]⟩] [0, 1, 6, 7, 8, 9]) (.block 0 (.loop [0, 1, 6, 7, 8, 9] (.seq (.seq (.ops [⟨some 26, none, .pure (.mov), [.t 9]⟩, ⟨some 27, none, .pure (.mov), [.t 1]⟩, ⟨some 28, none, .pure (.mov), [.t 6]⟩, ⟨some 29, none, .pure (.bin .quo), [.t 28, .c (.int .i64 4)]⟩, ⟨some 30, none, .pure (.bin .mul), [.t 29, .c (.int .i64 2)]⟩, ⟨some 31, none, .pure (.bin .add), [.t 27, .t 30]⟩, ⟨some 32, none, .pure (.bin .add), [.t 31, .c (.int .i64 1)]⟩, ⟨some 33, none, .pure (.bin .leq), [.t 26, .t 32]⟩] [0, 1, 6, 7, 8, 9, 33]) (.cond (.t 33) (.skip) (.exit 0))) (.seq (.block 1 (.seq (.ops [⟨some 36, none, .loud (.call 87), [.t 7]⟩, ⟨some 37, none, .pure (.mov), [.t 8]⟩, ⟨some 38, none, .pure (.bin .sub), [.t 37, .c (.int .u64 1)]⟩, ⟨some 39, none, .pure (.bin .and), [.t 36, .t 38]⟩, ⟨some 40, none, .pure (.conv .i64), [.t 39]⟩, ⟨some 10, none, .pure (.mov), [.t 40]⟩] [0, 1, 6, 7, 8, 9, 10]) (.seq (.seq (.ops [⟨some 41, none, .pure (.mov), [.t 10]⟩, ⟨some 42, none, .pure (.mov), [.t 6]⟩, ⟨some 43, none, .pure (.bin .geq), [.t 41, .t 42]⟩] [0, 1, 6, 7, 8, 9, 10, 43]) (.cond (.t 43) (.ops [⟨some 44, none, .pure (.mov), [.t 10]⟩, ⟨some 45, none, .pure (.mov), [.t 6]⟩, ⟨some 46, none, .pure (.bin .sub), [.t 44, .t 45]⟩, ⟨some 10, none, .pure (.mov), [.t 46]⟩] [0, 1, 6, 7, 8, 9, 10]) (.skip))) (.ops [⟨some 47, none, .pure (.mov), [.t 0]⟩, ⟨some 48, none, .pure (.mov), [.t 9]⟩, ⟨some 49, none, .pure (.mov), [.t 0]⟩, ⟨some 50, none, .pure (.mov), [.t 1]⟩, ⟨some 51, none, .pure (.mov), [.t 10]⟩, ⟨some 52, none, .pure (.bin .add), [.t 50, .t 51]⟩, ⟨some 53, none, .pure (.mov), [.t 0]⟩, ⟨some 54, none, .pure (.mov), [.t 1]⟩, ⟨some 55, none, .pure (.mov), [.t 10]⟩, ⟨some 56, none, .pure (.bin .add), [.t 54, .t 55]⟩, ⟨some 57, none, .pure (.idx 1), [.t 53, .t 56]⟩, ⟨some 59, none, .pure (.mov), [.t 0]⟩, ⟨some 60, none, .pure (.mov), [.t 9]⟩, ⟨some 61, none, .pure (.idx 1), [.t 59, .t 60]⟩, ⟨some 58, none, .load (.ld 1 false), [.t 57]⟩, ⟨some 62, none, .load (.ld 1 false), [.t 61]⟩, ⟨some 63, none, .pure (.idx 1), [.t 47, .t 48]⟩, ⟨none, none, .loud (.st 1), [.t 63, .t 58]⟩, ⟨some 64, none, .pure (.idx 1), [.t 49, .t 52]⟩, ⟨none, none, .loud (.st 1), [.t 64, .t 62]⟩] [0, 1, 6, 7, 8, 9])))) (.ops [⟨some 34, none, .pure (.mov), [.t 9]⟩, ⟨some 35, none, .pure (.bin .add), [.t 34, .c (.int .i64 1)]⟩, ⟨some 9, none, .pure (.mov), [.t 35]⟩] [0, 1, 6, 7, 8, 9])))))))) (.skip)))
def F92 : Fn Try.prog 92 := Fn.mkX false b92 [] 65 Try.f92 _ Try.func92 (by decide) rfl Try.ntmps92 (by kernel_rfl) (by kernel_rfl)
end Go.Am.Tst

/- O9 -/
namespace Go.Am
open Go.Proofs Go.Sort
set_option linter.unusedSectionVars false
section
variable (lt : Int → Int → Bool)
def pdqC (d3 : Array Int) (pivot a b limit : Nat) (wb wp : Bool) : Array Int :=
  if a > 0 && !lt d3[a - 1]! d3[pivot]! then
    (if a < (partitionEqual lt d3 a b pivot).1 ∧ (partitionEqual lt d3 a b pivot).1 ≤ b then pdq lt (partitionEqual lt d3 a b pivot).2 (partitionEqual lt d3 a b pivot).1 b limit wb wp else (partitionEqual lt d3 a b pivot).2)
  else
    (if a ≤ (partition lt d3 a b pivot).1 ∧ (partition lt d3 a b pivot).1 < b then
      (if (partition lt d3 a b pivot).1 - a < b - (partition lt d3 a b pivot).1 then
        pdq lt (pdq lt (partition lt d3 a b pivot).2.2 a (partition lt d3 a b pivot).1 limit true true) ((partition lt d3 a b pivot).1 + 1) b limit (decide ((partition lt d3 a b pivot).1 - a ≥ (b - a) / 8)) (partition lt d3 a b pivot).2.1
      else
        pdq lt (pdq lt (partition lt d3 a b pivot).2.2 ((partition lt d3 a b pivot).1 + 1) b limit true true) a (partition lt d3 a b pivot).1 limit (decide (b - (partition lt d3 a b pivot).1 ≥ (b - a) / 8)) (partition lt d3 a b pivot).2.1)
    else (partition lt d3 a b pivot).2.2)
def pdqB (d2 : Array Int) (pivot : Nat) (hint : Hint) (a b limit : Nat) (wb wp : Bool) : Array Int :=
  if wb && wp && hint = .increasing then
    (if (partialInsertionSort lt d2 a b).2 then (partialInsertionSort lt d2 a b).1 else pdqC lt (partialInsertionSort lt d2 a b).1 pivot a b limit wb wp)
  else pdqC lt d2 pivot a b limit wb wp
def pdqA (d1 : Array Int) (a b limit : Nat) (wb wp : Bool) : Array Int :=
  if (choosePivot lt d1 a b).2 = .decreasing then pdqB lt (reverseRange d1 a b) ((b - 1) - ((choosePivot lt d1 a b).1 - a)) .increasing a b limit wb wp
  else pdqB lt d1 (choosePivot lt d1 a b).1 (choosePivot lt d1 a b).2 a b limit wb wp
theorem pdq_eq (d : Array Int) (a b limit : Nat) (wb wp : Bool) : pdq lt d a b limit wb wp =
    if b - a ≤ 12 then insertionSort lt d a b else if limit = 0 then heapSort lt d a b else
    if wb then pdqA lt d a b limit wb wp else pdqA lt (breakPatterns d a b) a b (limit - 1) wb wp := by
  rw [pdq]
  split
  · rfl
  · split
    · rfl
    · cases wb
      · simp only [Bool.not_false, if_true, Bool.false_eq_true, if_false, pdqA, Bool.false_and]
        split
        · simp only [pdqB, pdqC, Bool.false_and, Bool.false_eq_true, if_false, dite_eq_ite]
        · simp only [pdqB, pdqC, Bool.false_and, Bool.false_eq_true, if_false, dite_eq_ite]
      · simp only [Bool.not_true, Bool.false_eq_true, if_false, if_true, pdqA, Bool.true_and]
        split
        · simp only [pdqB, pdqC, Bool.true_and, dite_eq_ite]
          split <;> simp
        · simp only [pdqB, pdqC, Bool.true_and, dite_eq_ite]
          split <;> simp
theorem pdq_size (hO : SWO lt) : ∀ (m : Nat) (d : Array Int) (a b limit : Nat) (wb wp : Bool), b - a < m → a ≤ b → b ≤ d.size → (pdq lt d a b limit wb wp).size = d.size
  | 0, d, a, b, limit, wb, wp, h, _, _ => by omega
  | m + 1, d, a, b, limit, wb, wp, h, hab, hb => by
    have hC : ∀ (d3 : Array Int) (p l2 : Nat), d3.size = d.size → a ≤ p → p < b → (pdqC lt d3 p a b l2 wb wp).size = d.size := by
      intro d3 p l2 h3 hp1 hp2
      rw [pdqC]
      split
      · split
        · rename_i hr
          rw [pdq_size hO m _ _ _ _ _ _ (by omega) hr.2 (by rw [partitionEqual_size]; omega), partitionEqual_size, h3]
        · rw [partitionEqual_size, h3]
      · obtain ⟨r1, r2, r3, _⟩ := partition_holds lt hO d3 a b p hp1 hp2 (by omega)
        have r4 := r3.1
        generalize partition lt d3 a b p = R at *
        rw [if_pos ⟨r1, r2⟩]
        split
        · rw [pdq_size hO m _ _ _ _ _ _ (by omega) (by omega) (by rw [pdq_size hO m _ _ _ _ _ _ (by omega) (by omega) (by omega)]; omega), pdq_size hO m _ _ _ _ _ _ (by omega) (by omega) (by omega)]; omega
        · rw [pdq_size hO m _ _ _ _ _ _ (by omega) (by omega) (by rw [pdq_size hO m _ _ _ _ _ _ (by omega) (by omega) (by omega)]; omega), pdq_size hO m _ _ _ _ _ _ (by omega) (by omega) (by omega)]; omega
    have hB : ∀ (d2 : Array Int) (p l2 : Nat) (hh : Hint), d2.size = d.size → a ≤ p → p < b → (pdqB lt d2 p hh a b l2 wb wp).size = d.size := by
      intro d2 p l2 hh h2 hp1 hp2
      rw [pdqB]
      split
      · split
        · rw [partialInsertionSort, partialIns_size, h2]
        · exact hC _ _ _ (by rw [partialInsertionSort, partialIns_size, h2]) hp1 hp2
      · exact hC _ _ _ h2 hp1 hp2
    have hA : ∀ (d1 : Array Int) (l2 : Nat), d1.size = d.size → a < b → (pdqA lt d1 a b l2 wb wp).size = d.size := by
      intro d1 l2 h1 hlt
      obtain ⟨p1, p2⟩ := choosePivot_holds lt d1 a b hlt
      rw [pdqA]
      split
      · exact hB _ _ _ _ (by rw [reverseRange, reverseLoop_size, h1]) (by omega) (by omega)
      · exact hB _ _ _ _ h1 p1 p2
    rw [pdq_eq]
    split
    · exact (insertionSort_holds hO d a b hab hb).1.1
    · split
      · exact (heapSort_holds hO d a b hab hb).1.1
      · split
        · exact hA _ _ rfl (by omega)
        · exact hA _ _ (breakPatterns_holds d a b hab hb).1 (by omega)
end
set_option maxHeartbeats 4000000 in
set_option maxRecDepth 20000 in
theorem s83 (hc : LessU) (hO : SWO ltU) (σ : Store) (id : Nat) (n : Nat) (hs : n < 2305843009213693952)
    (h72 : ∀ (d : Array Int) (a b : Nat), d.size = n → a ≤ b → b ≤ n → ACalls Try.prog 92 [.os id 1 0 n, .int .i64 a, .int .i64 b] (σ.set id (arrA 1 cU d)) (fun r s => r = .tup [] ∧ s = σ.set id (arrA 1 cU (breakPatterns d a b)))) :
    ∀ (w : Nat) (d : Array Int) (a b limit : Nat), d.size = n → b - a < w → a ≤ b → b ≤ n → limit < 1000 →
    ACalls Try.prog 83 [.os id 1 0 n, .int .i64 a, .int .i64 b, .int .i64 limit] (σ.set id (arrA 1 cU d)) (fun r s => r = .tup [] ∧ s = σ.set id (arrA 1 cU (pdq ltU d a b limit true true))) := by
  intro w
  induction w with
  | zero => intro d a b limit h1 h2; omega
  | succ w ih =>
  intro d a b limit hd hw hab hb hl
  refine calls_of Tst.F83 (by simp [Tst.F83, Fn.mkX]) ?_
  simp only [Tst.F83, Fn.mkX, Tst.b83]

  simp only [cU, s_setU, ↓vcPre, ↓s_get, ↓reduceIte, vcPost, vcStd, Store.set_set, s_arr, s_setL, s_fold, swp_size, Nat.le_refl, Nat.zero_add, Array.size_setIfInBounds, Nat.reduceEqDiff, reduceCtorEq, Nat.reduceAdd, Nat.reduceLeDiff, Int.reduceLT, Int.reduceLE, ↓u_setN]
  refine LoopQ.inv (S := Nat × Nat × Nat × Bool × Bool × Array Int) (fun s => [(0, .os id 1 0 n), (1, .int .i64 s.1), (2, .int .i64 s.2.1), (3, .int .i64 s.2.2.1), (8, .bool s.2.2.2.1), (9, .bool s.2.2.2.2.1)]) (fun s => σ.set id (arrA 1 cU s.2.2.2.2.2))
    (fun s => s.2.2.2.2.2.size = n ∧ s.1 ≤ s.2.1 ∧ s.2.1 ≤ n ∧ s.2.2.1 < 1000 ∧ s.2.1 - s.1 ≤ b - a ∧ pdq ltU s.2.2.2.2.2 s.1 s.2.1 s.2.2.1 s.2.2.2.1 s.2.2.2.2.1 = pdq ltU d a b limit true true) (fun s => s.2.1 - s.1) (a, b, limit, true, true, d) rfl (Store.sub_refl _)
    ⟨hd, hab, hb, hl, Nat.le_refl _, rfl⟩ ?_
  rintro ⟨a1, b1, lm, wb, wp, d1⟩ ⟨g1, g2, g3, g4, g5, g6⟩
  simp only at g1 g2 g3 g4 g5 g6
  have eL : IntKind.i64.wrap ((b1 : Int) - a1) = ((b1 - a1 : Nat) : Int) := wI (by omega) (by omega)
  simp only [cU, s_setU, g1, eL, ↓vcPre, ↓s_get, ↓reduceIte, vcPost, vcStd, Store.set_set, s_arr, s_setL, s_fold, swp_size, Nat.le_refl, Nat.zero_add, Array.size_setIfInBounds, Nat.reduceEqDiff, reduceCtorEq, Nat.reduceAdd, Nat.reduceLeDiff, Int.reduceLT, Int.reduceLE, ↓u_setN]
  rw [pdq_eq] at g6
  refine ⟨fun q1 => ?_, fun q1 => ⟨fun q2 => ?_, fun q2 => ?_⟩⟩
  · rw [if_pos (by omega)] at g6
    have h := s90 hc d1 a1 b1 g2 (by omega) (by omega) σ id
    rw [g1] at h
    refine h.Q ?_
    rintro r s ⟨rfl, rfl⟩
    simp only [↓vcPre, ↓wit_get, ↓reduceIte, vcPost, vcStd, Nat.reduceEqDiff, reduceCtorEq, Nat.reduceAdd, Nat.reduceLeDiff, Int.reduceLT, Int.reduceLE, ↓u_setN]
    exact EndQ.to _ _ rfl (Store.sub_refl _) ⟨rfl, by rw [g6]⟩
  · rw [if_neg (by omega), if_pos (by omega)] at g6
    have h := s91 hc d1 a1 b1 g2 (by omega) (by omega) σ id
    rw [g1] at h
    refine h.Q ?_
    rintro r s ⟨rfl, rfl⟩
    simp only [↓vcPre, ↓wit_get, ↓reduceIte, vcPost, vcStd, Nat.reduceEqDiff, reduceCtorEq, Nat.reduceAdd, Nat.reduceLeDiff, Int.reduceLT, Int.reduceLE, ↓u_setN]
    exact EndQ.to _ _ rfl (Store.sub_refl _) ⟨rfl, by rw [g6]⟩
  · rw [if_neg (by omega), if_neg (by omega)] at g6
    have e1 : IntKind.i64.wrap ((lm : Int) - 1) = ((lm - 1 : Nat) : Int) := wI (by omega) (by omega)
    cases wb
    · simp only [↓vcPre, ↓wit_get, ↓reduceIte, vcPost, vcStd, Nat.reduceEqDiff, reduceCtorEq, Nat.reduceAdd, Nat.reduceLeDiff, Int.reduceLT, Int.reduceLE, ↓u_setN]
      refine (h72 d1 a1 b1 g1 g2 g3).Q ?_
      rintro r s ⟨rfl, rfl⟩
      simp only [e1, ↓vcPre, ↓wit_get, ↓reduceIte, vcPost, vcStd, Nat.reduceEqDiff, reduceCtorEq, Nat.reduceAdd, Nat.reduceLeDiff, Int.reduceLT, Int.reduceLE, ↓u_setN]
      rw [if_neg (by simp)] at g6
      obtain ⟨d2, hd2⟩ : ∃ x, x = breakPatterns d1 a1 b1 := ⟨_, rfl⟩
      rw [← hd2] at g6 ⊢
      have k1 : d2.size = n := by
        rw [hd2, (breakPatterns_holds d1 a1 b1 g2 (by omega)).1]; exact g1
      have hA := s93 hc d2 a1 b1 (by omega) (by omega) (by omega) σ id
      rw [k1] at hA
      refine hA.Q ?_
      rintro r s ⟨rfl, rfl⟩
      obtain ⟨pv1, pv2⟩ := choosePivot_holds ltU d2 a1 b1 (by omega)
      rw [pdqA] at g6
      clear hA
      generalize choosePivot ltU d2 a1 b1 = R at *
      obtain ⟨p, hh⟩ := R
      simp only at pv1 pv2 g6
      cases hh
      · rw [if_neg (by decide)] at g6
        simp only [cU, s_setU, k1, eL, e1, ↓vcPre, ↓s_get, ↓reduceIte, vcPost, vcStd, Store.set_set, s_arr, s_setL, s_fold, swp_size, Nat.le_refl, Nat.zero_add, Array.size_setIfInBounds, Nat.reduceEqDiff, reduceCtorEq, Nat.reduceAdd, Nat.reduceLeDiff, Int.reduceLT, Int.reduceLE, ↓u_setN]
        refine ⟨fun z => (by exfalso; omega), fun _ => ?_⟩
        obtain ⟨d3, hd3⟩ : ∃ x, x = d2 := ⟨_, rfl⟩
        rw [← hd3] at g6 ⊢
        have k3 : d3.size = n := by rw [hd3]; exact k1
        have pw1 := pv1
        have pw2 := pv2
        rw [pdqB, if_neg (by simp)] at g6
        rw [pdqC] at g6
        refine ⟨fun c1 => ?_, fun c1 => ?_⟩
        · have f1 : IntKind.i64.wrap ((a1 : Int) - 1) = ((a1 - 1 : Nat) : Int) := wI (by omega) (by omega)
          simp only [f1, Int.toNat_natCast]
          and_intros <;> try omega
          refine (hc _ _).Q ?_
          simp only [cU, s_setU, k3, eL, e1, f1, ↓vcPre, ↓s_get, ↓reduceIte, vcPost, vcStd, Store.set_set, s_arr, s_setL, s_fold, swp_size, Nat.le_refl, Nat.zero_add, Array.size_setIfInBounds, Nat.reduceEqDiff, reduceCtorEq, Nat.reduceAdd, Nat.reduceLeDiff, Int.reduceLT, Int.reduceLE, ↓u_setN]
          refine ⟨fun c2 => ?_, fun c2 => ?_⟩
          · have hlt : ltU d3[a1 - 1]! d3[p]! = false := decide_eq_false c2
            rw [if_pos (by simp [hlt]; omega)] at g6
            have h76 := s97 hc d3 a1 b1 p pw1 pw2 (by omega) (by omega) σ id
            rw [k3] at h76
            refine h76.Q ?_
            rintro r s ⟨rfl, rfl⟩
            obtain ⟨r1, r2⟩ := partitionEqual_range ltU d3 a1 b1 p (by omega)
            have r3 := partitionEqual_size ltU d3 a1 b1 p
            clear h76
            generalize partitionEqual ltU d3 a1 b1 p = R at *
            obtain ⟨mid, d4⟩ := R
            simp only at r1 r2 r3 g6
            rw [if_pos ⟨r1, r2⟩] at g6
            simp only [cU, s_setU, k3, eL, e1, f1, ↓vcPre, ↓s_get, ↓reduceIte, vcPost, vcStd, Store.set_set, s_arr, s_setL, s_fold, swp_size, Nat.le_refl, Nat.zero_add, Array.size_setIfInBounds, Nat.reduceEqDiff, reduceCtorEq, Nat.reduceAdd, Nat.reduceLeDiff, Int.reduceLT, Int.reduceLE, ↓u_setN]
            refine NextQ.to (mid, b1, (lm - 1), false, wp, d4) ?_ ?_ ?_ ?_
            · rfl
            · exact Store.sub_refl _
            · simp only; omega
            · exact ⟨by simp only; omega, by simp only; omega, g3, by simp only; omega, by simp only; omega, g6⟩
          · have hlt : ltU d3[a1 - 1]! d3[p]! = true := decide_eq_true (by omega)
            rw [if_neg (by simp [hlt])] at g6
            have hP := s98 hc d3 a1 b1 p pw1 pw2 (by omega) (by omega) σ id
            rw [k3] at hP
            refine hP.Q ?_
            rintro r s ⟨rfl, rfl⟩
            obtain ⟨r1, r2, r3, _⟩ := partition_holds ltU hO d3 a1 b1 p pw1 pw2 (by omega)
            clear hP
            generalize partition ltU d3 a1 b1 p = R at *
            obtain ⟨mid, ap, d4⟩ := R
            simp only at r1 r2 r3 g6
            have k4 : d4.size = n := by rw [r3.1]; exact k3
            rw [if_pos ⟨r1, r2⟩] at g6
            have f2 : IntKind.i64.wrap ((mid : Int) - a1) = ((mid - a1 : Nat) : Int) := wI (by omega) (by omega)
            have f3 : IntKind.i64.wrap ((b1 : Int) - mid) = ((b1 - mid : Nat) : Int) := wI (by omega) (by omega)
            have f4 : IntKind.i64.wrap ((mid : Int) + 1) = ((mid + 1 : Nat) : Int) := wI (by omega) (by omega)
            have f5 : IntKind.i64.wrap (((b1 - a1 : Nat) : Int).tdiv 8) = (((b1 - a1) / 8 : Nat) : Int) := wI (by rw [Int.tdiv_eq_ediv_of_nonneg (by omega)]; omega) (by omega)
            simp only [cU, s_setU, k4, eL, e1, f2, f3, f4, f5, ↓vcPre, ↓s_get, ↓reduceIte, vcPost, vcStd, Store.set_set, s_arr, s_setL, s_fold, swp_size, Nat.le_refl, Nat.zero_add, Array.size_setIfInBounds, Nat.reduceEqDiff, reduceCtorEq, Nat.reduceAdd, Nat.reduceLeDiff, Int.reduceLT, Int.reduceLE, ↓u_setN]
            refine ⟨by omega, fun z => ?_, fun z => ?_⟩
            · rw [if_pos (by omega)] at g6
              have hI := ih d4 a1 mid (lm - 1) k4 (by omega) (by omega) (by omega) (by omega)
              have k5 : (pdq ltU d4 a1 mid (lm - 1) true true).size = n := by rw [pdq_size _ hO _ _ _ _ _ _ _ (Nat.lt_succ_self _) (by omega) (by omega)]; exact k4
              generalize pdq ltU d4 a1 mid (lm - 1) true true = D at hI k5 g6
              refine hI.Q ?_
              intro r s hrs
              have hr1 := hrs.1
              have hs1 := hrs.2
              clear hrs
              subst hr1
              subst hs1
              simp only [cU, s_setU, k5, eL, e1, f2, f3, f4, f5, ↓vcPre, ↓s_get, ↓reduceIte, vcPost, vcStd, Store.set_set, s_arr, s_setL, s_fold, swp_size, Nat.le_refl, Nat.zero_add, Array.size_setIfInBounds, Nat.reduceEqDiff, reduceCtorEq, Nat.reduceAdd, Nat.reduceLeDiff, Int.reduceLT, Int.reduceLE, ↓u_setN]
              refine NextQ.to (mid + 1, b1, (lm - 1), decide ((b1 - a1) / 8 ≤ mid - a1), ap, D) ?_ ?_ ?_ ?_
              · simp only [Int.ofNat_le]
              · exact Store.sub_refl _
              · simp only; omega
              · exact ⟨k5, by simp only; omega, g3, by simp only; omega, by simp only; omega, g6⟩
            · rw [if_neg (by omega)] at g6
              have hI := ih d4 (mid + 1) b1 (lm - 1) k4 (by omega) (by omega) (by omega) (by omega)
              have k5 : (pdq ltU d4 (mid + 1) b1 (lm - 1) true true).size = n := by rw [pdq_size _ hO _ _ _ _ _ _ _ (Nat.lt_succ_self _) (by omega) (by omega)]; exact k4
              generalize pdq ltU d4 (mid + 1) b1 (lm - 1) true true = D at hI k5 g6
              refine hI.Q ?_
              intro r s hrs
              have hr1 := hrs.1
              have hs1 := hrs.2
              clear hrs
              subst hr1
              subst hs1
              simp only [cU, s_setU, k5, eL, e1, f2, f3, f4, f5, ↓vcPre, ↓s_get, ↓reduceIte, vcPost, vcStd, Store.set_set, s_arr, s_setL, s_fold, swp_size, Nat.le_refl, Nat.zero_add, Array.size_setIfInBounds, Nat.reduceEqDiff, reduceCtorEq, Nat.reduceAdd, Nat.reduceLeDiff, Int.reduceLT, Int.reduceLE, ↓u_setN]
              refine NextQ.to (a1, mid, (lm - 1), decide ((b1 - a1) / 8 ≤ b1 - mid), ap, D) ?_ ?_ ?_ ?_
              · simp only [Int.ofNat_le]
              · exact Store.sub_refl _
              · simp only; omega
              · exact ⟨k5, by simp only; omega, by simp only; omega, by simp only; omega, by simp only; omega, g6⟩
        · rw [if_neg (by simp; omega)] at g6
          have hP := s98 hc d3 a1 b1 p pw1 pw2 (by omega) (by omega) σ id
          rw [k3] at hP
          refine hP.Q ?_
          rintro r s ⟨rfl, rfl⟩
          obtain ⟨r1, r2, r3, _⟩ := partition_holds ltU hO d3 a1 b1 p pw1 pw2 (by omega)
          clear hP
          generalize partition ltU d3 a1 b1 p = R at *
          obtain ⟨mid, ap, d4⟩ := R
          simp only at r1 r2 r3 g6
          have k4 : d4.size = n := by rw [r3.1]; exact k3
          rw [if_pos ⟨r1, r2⟩] at g6
          have f2 : IntKind.i64.wrap ((mid : Int) - a1) = ((mid - a1 : Nat) : Int) := wI (by omega) (by omega)
          have f3 : IntKind.i64.wrap ((b1 : Int) - mid) = ((b1 - mid : Nat) : Int) := wI (by omega) (by omega)
          have f4 : IntKind.i64.wrap ((mid : Int) + 1) = ((mid + 1 : Nat) : Int) := wI (by omega) (by omega)
          have f5 : IntKind.i64.wrap (((b1 - a1 : Nat) : Int).tdiv 8) = (((b1 - a1) / 8 : Nat) : Int) := wI (by rw [Int.tdiv_eq_ediv_of_nonneg (by omega)]; omega) (by omega)
          simp only [cU, s_setU, k4, eL, e1, f2, f3, f4, f5, ↓vcPre, ↓s_get, ↓reduceIte, vcPost, vcStd, Store.set_set, s_arr, s_setL, s_fold, swp_size, Nat.le_refl, Nat.zero_add, Array.size_setIfInBounds, Nat.reduceEqDiff, reduceCtorEq, Nat.reduceAdd, Nat.reduceLeDiff, Int.reduceLT, Int.reduceLE, ↓u_setN]
          refine ⟨by omega, fun z => ?_, fun z => ?_⟩
          · rw [if_pos (by omega)] at g6
            have hI := ih d4 a1 mid (lm - 1) k4 (by omega) (by omega) (by omega) (by omega)
            have k5 : (pdq ltU d4 a1 mid (lm - 1) true true).size = n := by rw [pdq_size _ hO _ _ _ _ _ _ _ (Nat.lt_succ_self _) (by omega) (by omega)]; exact k4
            generalize pdq ltU d4 a1 mid (lm - 1) true true = D at hI k5 g6
            refine hI.Q ?_
            intro r s hrs
            have hr1 := hrs.1
            have hs1 := hrs.2
            clear hrs
            subst hr1
            subst hs1
            simp only [cU, s_setU, k5, eL, e1, f2, f3, f4, f5, ↓vcPre, ↓s_get, ↓reduceIte, vcPost, vcStd, Store.set_set, s_arr, s_setL, s_fold, swp_size, Nat.le_refl, Nat.zero_add, Array.size_setIfInBounds, Nat.reduceEqDiff, reduceCtorEq, Nat.reduceAdd, Nat.reduceLeDiff, Int.reduceLT, Int.reduceLE, ↓u_setN]
            refine NextQ.to (mid + 1, b1, (lm - 1), decide ((b1 - a1) / 8 ≤ mid - a1), ap, D) ?_ ?_ ?_ ?_
            · simp only [Int.ofNat_le]
            · exact Store.sub_refl _
            · simp only; omega
            · exact ⟨k5, by simp only; omega, g3, by simp only; omega, by simp only; omega, g6⟩
          · rw [if_neg (by omega)] at g6
            have hI := ih d4 (mid + 1) b1 (lm - 1) k4 (by omega) (by omega) (by omega) (by omega)
            have k5 : (pdq ltU d4 (mid + 1) b1 (lm - 1) true true).size = n := by rw [pdq_size _ hO _ _ _ _ _ _ _ (Nat.lt_succ_self _) (by omega) (by omega)]; exact k4
            generalize pdq ltU d4 (mid + 1) b1 (lm - 1) true true = D at hI k5 g6
            refine hI.Q ?_
            intro r s hrs
            have hr1 := hrs.1
            have hs1 := hrs.2
            clear hrs
            subst hr1
            subst hs1
            simp only [cU, s_setU, k5, eL, e1, f2, f3, f4, f5, ↓vcPre, ↓s_get, ↓reduceIte, vcPost, vcStd, Store.set_set, s_arr, s_setL, s_fold, swp_size, Nat.le_refl, Nat.zero_add, Array.size_setIfInBounds, Nat.reduceEqDiff, reduceCtorEq, Nat.reduceAdd, Nat.reduceLeDiff, Int.reduceLT, Int.reduceLE, ↓u_setN]
            refine NextQ.to (a1, mid, (lm - 1), decide ((b1 - a1) / 8 ≤ b1 - mid), ap, D) ?_ ?_ ?_ ?_
            · simp only [Int.ofNat_le]
            · exact Store.sub_refl _
            · simp only; omega
            · exact ⟨k5, by simp only; omega, by simp only; omega, by simp only; omega, by simp only; omega, g6⟩
      · rw [if_neg (by decide)] at g6
        simp only [cU, s_setU, k1, eL, e1, ↓vcPre, ↓s_get, ↓reduceIte, vcPost, vcStd, Store.set_set, s_arr, s_setL, s_fold, swp_size, Nat.le_refl, Nat.zero_add, Array.size_setIfInBounds, Nat.reduceEqDiff, reduceCtorEq, Nat.reduceAdd, Nat.reduceLeDiff, Int.reduceLT, Int.reduceLE, ↓u_setN]
        refine ⟨fun z => (by exfalso; omega), fun _ => ?_⟩
        obtain ⟨d3, hd3⟩ : ∃ x, x = d2 := ⟨_, rfl⟩
        rw [← hd3] at g6 ⊢
        have k3 : d3.size = n := by rw [hd3]; exact k1
        have pw1 := pv1
        have pw2 := pv2
        rw [pdqB, if_neg (by simp)] at g6
        rw [pdqC] at g6
        refine ⟨fun c1 => ?_, fun c1 => ?_⟩
        · have f1 : IntKind.i64.wrap ((a1 : Int) - 1) = ((a1 - 1 : Nat) : Int) := wI (by omega) (by omega)
          simp only [f1, Int.toNat_natCast]
          and_intros <;> try omega
          refine (hc _ _).Q ?_
          simp only [cU, s_setU, k3, eL, e1, f1, ↓vcPre, ↓s_get, ↓reduceIte, vcPost, vcStd, Store.set_set, s_arr, s_setL, s_fold, swp_size, Nat.le_refl, Nat.zero_add, Array.size_setIfInBounds, Nat.reduceEqDiff, reduceCtorEq, Nat.reduceAdd, Nat.reduceLeDiff, Int.reduceLT, Int.reduceLE, ↓u_setN]
          refine ⟨fun c2 => ?_, fun c2 => ?_⟩
          · have hlt : ltU d3[a1 - 1]! d3[p]! = false := decide_eq_false c2
            rw [if_pos (by simp [hlt]; omega)] at g6
            have h76 := s97 hc d3 a1 b1 p pw1 pw2 (by omega) (by omega) σ id
            rw [k3] at h76
            refine h76.Q ?_
            rintro r s ⟨rfl, rfl⟩
            obtain ⟨r1, r2⟩ := partitionEqual_range ltU d3 a1 b1 p (by omega)
            have r3 := partitionEqual_size ltU d3 a1 b1 p
            clear h76
            generalize partitionEqual ltU d3 a1 b1 p = R at *
            obtain ⟨mid, d4⟩ := R
            simp only at r1 r2 r3 g6
            rw [if_pos ⟨r1, r2⟩] at g6
            simp only [cU, s_setU, k3, eL, e1, f1, ↓vcPre, ↓s_get, ↓reduceIte, vcPost, vcStd, Store.set_set, s_arr, s_setL, s_fold, swp_size, Nat.le_refl, Nat.zero_add, Array.size_setIfInBounds, Nat.reduceEqDiff, reduceCtorEq, Nat.reduceAdd, Nat.reduceLeDiff, Int.reduceLT, Int.reduceLE, ↓u_setN]
            refine NextQ.to (mid, b1, (lm - 1), false, wp, d4) ?_ ?_ ?_ ?_
            · rfl
            · exact Store.sub_refl _
            · simp only; omega
            · exact ⟨by simp only; omega, by simp only; omega, g3, by simp only; omega, by simp only; omega, g6⟩
          · have hlt : ltU d3[a1 - 1]! d3[p]! = true := decide_eq_true (by omega)
            rw [if_neg (by simp [hlt])] at g6
            have hP := s98 hc d3 a1 b1 p pw1 pw2 (by omega) (by omega) σ id
            rw [k3] at hP
            refine hP.Q ?_
            rintro r s ⟨rfl, rfl⟩
            obtain ⟨r1, r2, r3, _⟩ := partition_holds ltU hO d3 a1 b1 p pw1 pw2 (by omega)
            clear hP
            generalize partition ltU d3 a1 b1 p = R at *
            obtain ⟨mid, ap, d4⟩ := R
            simp only at r1 r2 r3 g6
            have k4 : d4.size = n := by rw [r3.1]; exact k3
            rw [if_pos ⟨r1, r2⟩] at g6
            have f2 : IntKind.i64.wrap ((mid : Int) - a1) = ((mid - a1 : Nat) : Int) := wI (by omega) (by omega)
            have f3 : IntKind.i64.wrap ((b1 : Int) - mid) = ((b1 - mid : Nat) : Int) := wI (by omega) (by omega)
            have f4 : IntKind.i64.wrap ((mid : Int) + 1) = ((mid + 1 : Nat) : Int) := wI (by omega) (by omega)
            have f5 : IntKind.i64.wrap (((b1 - a1 : Nat) : Int).tdiv 8) = (((b1 - a1) / 8 : Nat) : Int) := wI (by rw [Int.tdiv_eq_ediv_of_nonneg (by omega)]; omega) (by omega)
            simp only [cU, s_setU, k4, eL, e1, f2, f3, f4, f5, ↓vcPre, ↓s_get, ↓reduceIte, vcPost, vcStd, Store.set_set, s_arr, s_setL, s_fold, swp_size, Nat.le_refl, Nat.zero_add, Array.size_setIfInBounds, Nat.reduceEqDiff, reduceCtorEq, Nat.reduceAdd, Nat.reduceLeDiff, Int.reduceLT, Int.reduceLE, ↓u_setN]
            refine ⟨by omega, fun z => ?_, fun z => ?_⟩
            · rw [if_pos (by omega)] at g6
              have hI := ih d4 a1 mid (lm - 1) k4 (by omega) (by omega) (by omega) (by omega)
              have k5 : (pdq ltU d4 a1 mid (lm - 1) true true).size = n := by rw [pdq_size _ hO _ _ _ _ _ _ _ (Nat.lt_succ_self _) (by omega) (by omega)]; exact k4
              generalize pdq ltU d4 a1 mid (lm - 1) true true = D at hI k5 g6
              refine hI.Q ?_
              intro r s hrs
              have hr1 := hrs.1
              have hs1 := hrs.2
              clear hrs
              subst hr1
              subst hs1
              simp only [cU, s_setU, k5, eL, e1, f2, f3, f4, f5, ↓vcPre, ↓s_get, ↓reduceIte, vcPost, vcStd, Store.set_set, s_arr, s_setL, s_fold, swp_size, Nat.le_refl, Nat.zero_add, Array.size_setIfInBounds, Nat.reduceEqDiff, reduceCtorEq, Nat.reduceAdd, Nat.reduceLeDiff, Int.reduceLT, Int.reduceLE, ↓u_setN]
              refine NextQ.to (mid + 1, b1, (lm - 1), decide ((b1 - a1) / 8 ≤ mid - a1), ap, D) ?_ ?_ ?_ ?_
              · simp only [Int.ofNat_le]
              · exact Store.sub_refl _
              · simp only; omega
              · exact ⟨k5, by simp only; omega, g3, by simp only; omega, by simp only; omega, g6⟩
            · rw [if_neg (by omega)] at g6
              have hI := ih d4 (mid + 1) b1 (lm - 1) k4 (by omega) (by omega) (by omega) (by omega)
              have k5 : (pdq ltU d4 (mid + 1) b1 (lm - 1) true true).size = n := by rw [pdq_size _ hO _ _ _ _ _ _ _ (Nat.lt_succ_self _) (by omega) (by omega)]; exact k4
              generalize pdq ltU d4 (mid + 1) b1 (lm - 1) true true = D at hI k5 g6
              refine hI.Q ?_
              intro r s hrs
              have hr1 := hrs.1
              have hs1 := hrs.2
              clear hrs
              subst hr1
              subst hs1
              simp only [cU, s_setU, k5, eL, e1, f2, f3, f4, f5, ↓vcPre, ↓s_get, ↓reduceIte, vcPost, vcStd, Store.set_set, s_arr, s_setL, s_fold, swp_size, Nat.le_refl, Nat.zero_add, Array.size_setIfInBounds, Nat.reduceEqDiff, reduceCtorEq, Nat.reduceAdd, Nat.reduceLeDiff, Int.reduceLT, Int.reduceLE, ↓u_setN]
              refine NextQ.to (a1, mid, (lm - 1), decide ((b1 - a1) / 8 ≤ b1 - mid), ap, D) ?_ ?_ ?_ ?_
              · simp only [Int.ofNat_le]
              · exact Store.sub_refl _
              · simp only; omega
              · exact ⟨k5, by simp only; omega, by simp only; omega, by simp only; omega, by simp only; omega, g6⟩
        · rw [if_neg (by simp; omega)] at g6
          have hP := s98 hc d3 a1 b1 p pw1 pw2 (by omega) (by omega) σ id
          rw [k3] at hP
          refine hP.Q ?_
          rintro r s ⟨rfl, rfl⟩
          obtain ⟨r1, r2, r3, _⟩ := partition_holds ltU hO d3 a1 b1 p pw1 pw2 (by omega)
          clear hP
          generalize partition ltU d3 a1 b1 p = R at *
          obtain ⟨mid, ap, d4⟩ := R
          simp only at r1 r2 r3 g6
          have k4 : d4.size = n := by rw [r3.1]; exact k3
          rw [if_pos ⟨r1, r2⟩] at g6
          have f2 : IntKind.i64.wrap ((mid : Int) - a1) = ((mid - a1 : Nat) : Int) := wI (by omega) (by omega)
          have f3 : IntKind.i64.wrap ((b1 : Int) - mid) = ((b1 - mid : Nat) : Int) := wI (by omega) (by omega)
          have f4 : IntKind.i64.wrap ((mid : Int) + 1) = ((mid + 1 : Nat) : Int) := wI (by omega) (by omega)
          have f5 : IntKind.i64.wrap (((b1 - a1 : Nat) : Int).tdiv 8) = (((b1 - a1) / 8 : Nat) : Int) := wI (by rw [Int.tdiv_eq_ediv_of_nonneg (by omega)]; omega) (by omega)
          simp only [cU, s_setU, k4, eL, e1, f2, f3, f4, f5, ↓vcPre, ↓s_get, ↓reduceIte, vcPost, vcStd, Store.set_set, s_arr, s_setL, s_fold, swp_size, Nat.le_refl, Nat.zero_add, Array.size_setIfInBounds, Nat.reduceEqDiff, reduceCtorEq, Nat.reduceAdd, Nat.reduceLeDiff, Int.reduceLT, Int.reduceLE, ↓u_setN]
          refine ⟨by omega, fun z => ?_, fun z => ?_⟩
          · rw [if_pos (by omega)] at g6
            have hI := ih d4 a1 mid (lm - 1) k4 (by omega) (by omega) (by omega) (by omega)
            have k5 : (pdq ltU d4 a1 mid (lm - 1) true true).size = n := by rw [pdq_size _ hO _ _ _ _ _ _ _ (Nat.lt_succ_self _) (by omega) (by omega)]; exact k4
            generalize pdq ltU d4 a1 mid (lm - 1) true true = D at hI k5 g6
            refine hI.Q ?_
            intro r s hrs
            have hr1 := hrs.1
            have hs1 := hrs.2
            clear hrs
            subst hr1
            subst hs1
            simp only [cU, s_setU, k5, eL, e1, f2, f3, f4, f5, ↓vcPre, ↓s_get, ↓reduceIte, vcPost, vcStd, Store.set_set, s_arr, s_setL, s_fold, swp_size, Nat.le_refl, Nat.zero_add, Array.size_setIfInBounds, Nat.reduceEqDiff, reduceCtorEq, Nat.reduceAdd, Nat.reduceLeDiff, Int.reduceLT, Int.reduceLE, ↓u_setN]
            refine NextQ.to (mid + 1, b1, (lm - 1), decide ((b1 - a1) / 8 ≤ mid - a1), ap, D) ?_ ?_ ?_ ?_
            · simp only [Int.ofNat_le]
            · exact Store.sub_refl _
            · simp only; omega
            · exact ⟨k5, by simp only; omega, g3, by simp only; omega, by simp only; omega, g6⟩
          · rw [if_neg (by omega)] at g6
            have hI := ih d4 (mid + 1) b1 (lm - 1) k4 (by omega) (by omega) (by omega) (by omega)
            have k5 : (pdq ltU d4 (mid + 1) b1 (lm - 1) true true).size = n := by rw [pdq_size _ hO _ _ _ _ _ _ _ (Nat.lt_succ_self _) (by omega) (by omega)]; exact k4
            generalize pdq ltU d4 (mid + 1) b1 (lm - 1) true true = D at hI k5 g6
            refine hI.Q ?_
            intro r s hrs
            have hr1 := hrs.1
            have hs1 := hrs.2
            clear hrs
            subst hr1
            subst hs1
            simp only [cU, s_setU, k5, eL, e1, f2, f3, f4, f5, ↓vcPre, ↓s_get, ↓reduceIte, vcPost, vcStd, Store.set_set, s_arr, s_setL, s_fold, swp_size, Nat.le_refl, Nat.zero_add, Array.size_setIfInBounds, Nat.reduceEqDiff, reduceCtorEq, Nat.reduceAdd, Nat.reduceLeDiff, Int.reduceLT, Int.reduceLE, ↓u_setN]
            refine NextQ.to (a1, mid, (lm - 1), decide ((b1 - a1) / 8 ≤ b1 - mid), ap, D) ?_ ?_ ?_ ?_
            · simp only [Int.ofNat_le]
            · exact Store.sub_refl _
            · simp only; omega
            · exact ⟨k5, by simp only; omega, by simp only; omega, by simp only; omega, by simp only; omega, g6⟩
      · rw [if_pos rfl] at g6
        have f6 : IntKind.i64.wrap ((b1 : Int) - 1) = ((b1 - 1 : Nat) : Int) := wI (by omega) (by omega)
        have f7 : IntKind.i64.wrap ((p : Int) - a1) = ((p - a1 : Nat) : Int) := wI (by omega) (by omega)
        have f8 : IntKind.i64.wrap (((b1 - 1 : Nat) : Int) - ((p - a1 : Nat) : Int)) = ((b1 - 1 - (p - a1) : Nat) : Int) := wI (by omega) (by omega)
        simp only [cU, s_setU, k1, eL, e1, ↓vcPre, ↓s_get, ↓reduceIte, vcPost, vcStd, Store.set_set, s_arr, s_setL, s_fold, swp_size, Nat.le_refl, Nat.zero_add, Array.size_setIfInBounds, Nat.reduceEqDiff, reduceCtorEq, Nat.reduceAdd, Nat.reduceLeDiff, Int.reduceLT, Int.reduceLE, ↓u_setN]
        have h74 := s94 hc d2 a1 b1 g2 (by omega) (by omega) σ id
        rw [k1] at h74
        refine h74.Q ?_
        intro r s hrs
        have hr1 := hrs.1
        have hs1 := hrs.2
        clear hrs
        subst hr1
        subst hs1
        obtain ⟨d3, hd3⟩ : ∃ x, x = reverseRange d2 a1 b1 := ⟨_, rfl⟩
        rw [← hd3] at g6 ⊢
        have k3 : d3.size = n := by rw [hd3, reverseRange, reverseLoop_size]; exact k1
        simp only [cU, s_setU, k3, eL, e1, f6, f7, f8, ↓vcPre, ↓s_get, ↓reduceIte, vcPost, vcStd, Store.set_set, s_arr, s_setL, s_fold, swp_size, Nat.le_refl, Nat.zero_add, Array.size_setIfInBounds, Nat.reduceEqDiff, reduceCtorEq, Nat.reduceAdd, Nat.reduceLeDiff, Int.reduceLT, Int.reduceLE, ↓u_setN]
        have pw1 : a1 ≤ b1 - 1 - (p - a1) := by omega
        have pw2 : b1 - 1 - (p - a1) < b1 := by omega
        generalize b1 - 1 - (p - a1) = p at *
        rw [pdqB, if_neg (by simp)] at g6
        rw [pdqC] at g6
        refine ⟨fun c1 => ?_, fun c1 => ?_⟩
        · have f1 : IntKind.i64.wrap ((a1 : Int) - 1) = ((a1 - 1 : Nat) : Int) := wI (by omega) (by omega)
          simp only [f1, Int.toNat_natCast]
          and_intros <;> try omega
          refine (hc _ _).Q ?_
          simp only [cU, s_setU, k3, eL, e1, f1, ↓vcPre, ↓s_get, ↓reduceIte, vcPost, vcStd, Store.set_set, s_arr, s_setL, s_fold, swp_size, Nat.le_refl, Nat.zero_add, Array.size_setIfInBounds, Nat.reduceEqDiff, reduceCtorEq, Nat.reduceAdd, Nat.reduceLeDiff, Int.reduceLT, Int.reduceLE, ↓u_setN]
          refine ⟨fun c2 => ?_, fun c2 => ?_⟩
          · have hlt : ltU d3[a1 - 1]! d3[p]! = false := decide_eq_false c2
            rw [if_pos (by simp [hlt]; omega)] at g6
            have h76 := s97 hc d3 a1 b1 p pw1 pw2 (by omega) (by omega) σ id
            rw [k3] at h76
            refine h76.Q ?_
            rintro r s ⟨rfl, rfl⟩
            obtain ⟨r1, r2⟩ := partitionEqual_range ltU d3 a1 b1 p (by omega)
            have r3 := partitionEqual_size ltU d3 a1 b1 p
            clear h76
            generalize partitionEqual ltU d3 a1 b1 p = R at *
            obtain ⟨mid, d4⟩ := R
            simp only at r1 r2 r3 g6
            rw [if_pos ⟨r1, r2⟩] at g6
            simp only [cU, s_setU, k3, eL, e1, f1, ↓vcPre, ↓s_get, ↓reduceIte, vcPost, vcStd, Store.set_set, s_arr, s_setL, s_fold, swp_size, Nat.le_refl, Nat.zero_add, Array.size_setIfInBounds, Nat.reduceEqDiff, reduceCtorEq, Nat.reduceAdd, Nat.reduceLeDiff, Int.reduceLT, Int.reduceLE, ↓u_setN]
            refine NextQ.to (mid, b1, (lm - 1), false, wp, d4) ?_ ?_ ?_ ?_
            · rfl
            · exact Store.sub_refl _
            · simp only; omega
            · exact ⟨by simp only; omega, by simp only; omega, g3, by simp only; omega, by simp only; omega, g6⟩
          · have hlt : ltU d3[a1 - 1]! d3[p]! = true := decide_eq_true (by omega)
            rw [if_neg (by simp [hlt])] at g6
            have hP := s98 hc d3 a1 b1 p pw1 pw2 (by omega) (by omega) σ id
            rw [k3] at hP
            refine hP.Q ?_
            rintro r s ⟨rfl, rfl⟩
            obtain ⟨r1, r2, r3, _⟩ := partition_holds ltU hO d3 a1 b1 p pw1 pw2 (by omega)
            clear hP
            generalize partition ltU d3 a1 b1 p = R at *
            obtain ⟨mid, ap, d4⟩ := R
            simp only at r1 r2 r3 g6
            have k4 : d4.size = n := by rw [r3.1]; exact k3
            rw [if_pos ⟨r1, r2⟩] at g6
            have f2 : IntKind.i64.wrap ((mid : Int) - a1) = ((mid - a1 : Nat) : Int) := wI (by omega) (by omega)
            have f3 : IntKind.i64.wrap ((b1 : Int) - mid) = ((b1 - mid : Nat) : Int) := wI (by omega) (by omega)
            have f4 : IntKind.i64.wrap ((mid : Int) + 1) = ((mid + 1 : Nat) : Int) := wI (by omega) (by omega)
            have f5 : IntKind.i64.wrap (((b1 - a1 : Nat) : Int).tdiv 8) = (((b1 - a1) / 8 : Nat) : Int) := wI (by rw [Int.tdiv_eq_ediv_of_nonneg (by omega)]; omega) (by omega)
            simp only [cU, s_setU, k4, eL, e1, f2, f3, f4, f5, ↓vcPre, ↓s_get, ↓reduceIte, vcPost, vcStd, Store.set_set, s_arr, s_setL, s_fold, swp_size, Nat.le_refl, Nat.zero_add, Array.size_setIfInBounds, Nat.reduceEqDiff, reduceCtorEq, Nat.reduceAdd, Nat.reduceLeDiff, Int.reduceLT, Int.reduceLE, ↓u_setN]
            refine ⟨by omega, fun z => ?_, fun z => ?_⟩
            · rw [if_pos (by omega)] at g6
              have hI := ih d4 a1 mid (lm - 1) k4 (by omega) (by omega) (by omega) (by omega)
              have k5 : (pdq ltU d4 a1 mid (lm - 1) true true).size = n := by rw [pdq_size _ hO _ _ _ _ _ _ _ (Nat.lt_succ_self _) (by omega) (by omega)]; exact k4
              generalize pdq ltU d4 a1 mid (lm - 1) true true = D at hI k5 g6
              refine hI.Q ?_
              intro r s hrs
              have hr1 := hrs.1
              have hs1 := hrs.2
              clear hrs
              subst hr1
              subst hs1
              simp only [cU, s_setU, k5, eL, e1, f2, f3, f4, f5, ↓vcPre, ↓s_get, ↓reduceIte, vcPost, vcStd, Store.set_set, s_arr, s_setL, s_fold, swp_size, Nat.le_refl, Nat.zero_add, Array.size_setIfInBounds, Nat.reduceEqDiff, reduceCtorEq, Nat.reduceAdd, Nat.reduceLeDiff, Int.reduceLT, Int.reduceLE, ↓u_setN]
              refine NextQ.to (mid + 1, b1, (lm - 1), decide ((b1 - a1) / 8 ≤ mid - a1), ap, D) ?_ ?_ ?_ ?_
              · simp only [Int.ofNat_le]
              · exact Store.sub_refl _
              · simp only; omega
              · exact ⟨k5, by simp only; omega, g3, by simp only; omega, by simp only; omega, g6⟩
            · rw [if_neg (by omega)] at g6
              have hI := ih d4 (mid + 1) b1 (lm - 1) k4 (by omega) (by omega) (by omega) (by omega)
              have k5 : (pdq ltU d4 (mid + 1) b1 (lm - 1) true true).size = n := by rw [pdq_size _ hO _ _ _ _ _ _ _ (Nat.lt_succ_self _) (by omega) (by omega)]; exact k4
              generalize pdq ltU d4 (mid + 1) b1 (lm - 1) true true = D at hI k5 g6
              refine hI.Q ?_
              intro r s hrs
              have hr1 := hrs.1
              have hs1 := hrs.2
              clear hrs
              subst hr1
              subst hs1
              simp only [cU, s_setU, k5, eL, e1, f2, f3, f4, f5, ↓vcPre, ↓s_get, ↓reduceIte, vcPost, vcStd, Store.set_set, s_arr, s_setL, s_fold, swp_size, Nat.le_refl, Nat.zero_add, Array.size_setIfInBounds, Nat.reduceEqDiff, reduceCtorEq, Nat.reduceAdd, Nat.reduceLeDiff, Int.reduceLT, Int.reduceLE, ↓u_setN]
              refine NextQ.to (a1, mid, (lm - 1), decide ((b1 - a1) / 8 ≤ b1 - mid), ap, D) ?_ ?_ ?_ ?_
              · simp only [Int.ofNat_le]
              · exact Store.sub_refl _
              · simp only; omega
              · exact ⟨k5, by simp only; omega, by simp only; omega, by simp only; omega, by simp only; omega, g6⟩
        · rw [if_neg (by simp; omega)] at g6
          have hP := s98 hc d3 a1 b1 p pw1 pw2 (by omega) (by omega) σ id
          rw [k3] at hP
          refine hP.Q ?_
          rintro r s ⟨rfl, rfl⟩
          obtain ⟨r1, r2, r3, _⟩ := partition_holds ltU hO d3 a1 b1 p pw1 pw2 (by omega)
          clear hP
          generalize partition ltU d3 a1 b1 p = R at *
          obtain ⟨mid, ap, d4⟩ := R
          simp only at r1 r2 r3 g6
          have k4 : d4.size = n := by rw [r3.1]; exact k3
          rw [if_pos ⟨r1, r2⟩] at g6
          have f2 : IntKind.i64.wrap ((mid : Int) - a1) = ((mid - a1 : Nat) : Int) := wI (by omega) (by omega)
          have f3 : IntKind.i64.wrap ((b1 : Int) - mid) = ((b1 - mid : Nat) : Int) := wI (by omega) (by omega)
          have f4 : IntKind.i64.wrap ((mid : Int) + 1) = ((mid + 1 : Nat) : Int) := wI (by omega) (by omega)
          have f5 : IntKind.i64.wrap (((b1 - a1 : Nat) : Int).tdiv 8) = (((b1 - a1) / 8 : Nat) : Int) := wI (by rw [Int.tdiv_eq_ediv_of_nonneg (by omega)]; omega) (by omega)
          simp only [cU, s_setU, k4, eL, e1, f2, f3, f4, f5, ↓vcPre, ↓s_get, ↓reduceIte, vcPost, vcStd, Store.set_set, s_arr, s_setL, s_fold, swp_size, Nat.le_refl, Nat.zero_add, Array.size_setIfInBounds, Nat.reduceEqDiff, reduceCtorEq, Nat.reduceAdd, Nat.reduceLeDiff, Int.reduceLT, Int.reduceLE, ↓u_setN]
          refine ⟨by omega, fun z => ?_, fun z => ?_⟩
          · rw [if_pos (by omega)] at g6
            have hI := ih d4 a1 mid (lm - 1) k4 (by omega) (by omega) (by omega) (by omega)
            have k5 : (pdq ltU d4 a1 mid (lm - 1) true true).size = n := by rw [pdq_size _ hO _ _ _ _ _ _ _ (Nat.lt_succ_self _) (by omega) (by omega)]; exact k4
            generalize pdq ltU d4 a1 mid (lm - 1) true true = D at hI k5 g6
            refine hI.Q ?_
            intro r s hrs
            have hr1 := hrs.1
            have hs1 := hrs.2
            clear hrs
            subst hr1
            subst hs1
            simp only [cU, s_setU, k5, eL, e1, f2, f3, f4, f5, ↓vcPre, ↓s_get, ↓reduceIte, vcPost, vcStd, Store.set_set, s_arr, s_setL, s_fold, swp_size, Nat.le_refl, Nat.zero_add, Array.size_setIfInBounds, Nat.reduceEqDiff, reduceCtorEq, Nat.reduceAdd, Nat.reduceLeDiff, Int.reduceLT, Int.reduceLE, ↓u_setN]
            refine NextQ.to (mid + 1, b1, (lm - 1), decide ((b1 - a1) / 8 ≤ mid - a1), ap, D) ?_ ?_ ?_ ?_
            · simp only [Int.ofNat_le]
            · exact Store.sub_refl _
            · simp only; omega
            · exact ⟨k5, by simp only; omega, g3, by simp only; omega, by simp only; omega, g6⟩
          · rw [if_neg (by omega)] at g6
            have hI := ih d4 (mid + 1) b1 (lm - 1) k4 (by omega) (by omega) (by omega) (by omega)
            have k5 : (pdq ltU d4 (mid + 1) b1 (lm - 1) true true).size = n := by rw [pdq_size _ hO _ _ _ _ _ _ _ (Nat.lt_succ_self _) (by omega) (by omega)]; exact k4
            generalize pdq ltU d4 (mid + 1) b1 (lm - 1) true true = D at hI k5 g6
            refine hI.Q ?_
            intro r s hrs
            have hr1 := hrs.1
            have hs1 := hrs.2
            clear hrs
            subst hr1
            subst hs1
            simp only [cU, s_setU, k5, eL, e1, f2, f3, f4, f5, ↓vcPre, ↓s_get, ↓reduceIte, vcPost, vcStd, Store.set_set, s_arr, s_setL, s_fold, swp_size, Nat.le_refl, Nat.zero_add, Array.size_setIfInBounds, Nat.reduceEqDiff, reduceCtorEq, Nat.reduceAdd, Nat.reduceLeDiff, Int.reduceLT, Int.reduceLE, ↓u_setN]
            refine NextQ.to (a1, mid, (lm - 1), decide ((b1 - a1) / 8 ≤ b1 - mid), ap, D) ?_ ?_ ?_ ?_
            · simp only [Int.ofNat_le]
            · exact Store.sub_refl _
            · simp only; omega
            · exact ⟨k5, by simp only; omega, by simp only; omega, by simp only; omega, by simp only; omega, g6⟩
    · simp only [↓vcPre, ↓wit_get, ↓reduceIte, vcPost, vcStd, Nat.reduceEqDiff, reduceCtorEq, Nat.reduceAdd, Nat.reduceLeDiff, Int.reduceLT, Int.reduceLE, ↓u_setN]
      rw [if_pos rfl] at g6
      obtain ⟨d2, hd2⟩ : ∃ x, x = d1 := ⟨_, rfl⟩
      rw [← hd2] at g6 ⊢
      have k1 : d2.size = n := by rw [hd2]; exact g1
      cases wp
      · have hA := s93 hc d2 a1 b1 (by omega) (by omega) (by omega) σ id
        rw [k1] at hA
        refine hA.Q ?_
        rintro r s ⟨rfl, rfl⟩
        obtain ⟨pv1, pv2⟩ := choosePivot_holds ltU d2 a1 b1 (by omega)
        rw [pdqA] at g6
        clear hA
        generalize choosePivot ltU d2 a1 b1 = R at *
        obtain ⟨p, hh⟩ := R
        simp only at pv1 pv2 g6
        cases hh
        · rw [if_neg (by decide)] at g6
          simp only [cU, s_setU, k1, eL, e1, ↓vcPre, ↓s_get, ↓reduceIte, vcPost, vcStd, Store.set_set, s_arr, s_setL, s_fold, swp_size, Nat.le_refl, Nat.zero_add, Array.size_setIfInBounds, Nat.reduceEqDiff, reduceCtorEq, Nat.reduceAdd, Nat.reduceLeDiff, Int.reduceLT, Int.reduceLE, ↓u_setN]
          refine ⟨fun z => (by exfalso; omega), fun _ => ?_⟩
          obtain ⟨d3, hd3⟩ : ∃ x, x = d2 := ⟨_, rfl⟩
          rw [← hd3] at g6 ⊢
          have k3 : d3.size = n := by rw [hd3]; exact k1
          have pw1 := pv1
          have pw2 := pv2
          rw [pdqB, if_neg (by simp)] at g6
          rw [pdqC] at g6
          refine ⟨fun c1 => ?_, fun c1 => ?_⟩
          · have f1 : IntKind.i64.wrap ((a1 : Int) - 1) = ((a1 - 1 : Nat) : Int) := wI (by omega) (by omega)
            simp only [f1, Int.toNat_natCast]
            and_intros <;> try omega
            refine (hc _ _).Q ?_
            simp only [cU, s_setU, k3, eL, e1, f1, ↓vcPre, ↓s_get, ↓reduceIte, vcPost, vcStd, Store.set_set, s_arr, s_setL, s_fold, swp_size, Nat.le_refl, Nat.zero_add, Array.size_setIfInBounds, Nat.reduceEqDiff, reduceCtorEq, Nat.reduceAdd, Nat.reduceLeDiff, Int.reduceLT, Int.reduceLE, ↓u_setN]
            refine ⟨fun c2 => ?_, fun c2 => ?_⟩
            · have hlt : ltU d3[a1 - 1]! d3[p]! = false := decide_eq_false c2
              rw [if_pos (by simp [hlt]; omega)] at g6
              have h76 := s97 hc d3 a1 b1 p pw1 pw2 (by omega) (by omega) σ id
              rw [k3] at h76
              refine h76.Q ?_
              rintro r s ⟨rfl, rfl⟩
              obtain ⟨r1, r2⟩ := partitionEqual_range ltU d3 a1 b1 p (by omega)
              have r3 := partitionEqual_size ltU d3 a1 b1 p
              clear h76
              generalize partitionEqual ltU d3 a1 b1 p = R at *
              obtain ⟨mid, d4⟩ := R
              simp only at r1 r2 r3 g6
              rw [if_pos ⟨r1, r2⟩] at g6
              simp only [cU, s_setU, k3, eL, e1, f1, ↓vcPre, ↓s_get, ↓reduceIte, vcPost, vcStd, Store.set_set, s_arr, s_setL, s_fold, swp_size, Nat.le_refl, Nat.zero_add, Array.size_setIfInBounds, Nat.reduceEqDiff, reduceCtorEq, Nat.reduceAdd, Nat.reduceLeDiff, Int.reduceLT, Int.reduceLE, ↓u_setN]
              refine NextQ.to (mid, b1, lm, true, false, d4) ?_ ?_ ?_ ?_
              · rfl
              · exact Store.sub_refl _
              · simp only; omega
              · exact ⟨by simp only; omega, by simp only; omega, g3, by simp only; omega, by simp only; omega, g6⟩
            · have hlt : ltU d3[a1 - 1]! d3[p]! = true := decide_eq_true (by omega)
              rw [if_neg (by simp [hlt])] at g6
              have hP := s98 hc d3 a1 b1 p pw1 pw2 (by omega) (by omega) σ id
              rw [k3] at hP
              refine hP.Q ?_
              rintro r s ⟨rfl, rfl⟩
              obtain ⟨r1, r2, r3, _⟩ := partition_holds ltU hO d3 a1 b1 p pw1 pw2 (by omega)
              clear hP
              generalize partition ltU d3 a1 b1 p = R at *
              obtain ⟨mid, ap, d4⟩ := R
              simp only at r1 r2 r3 g6
              have k4 : d4.size = n := by rw [r3.1]; exact k3
              rw [if_pos ⟨r1, r2⟩] at g6
              have f2 : IntKind.i64.wrap ((mid : Int) - a1) = ((mid - a1 : Nat) : Int) := wI (by omega) (by omega)
              have f3 : IntKind.i64.wrap ((b1 : Int) - mid) = ((b1 - mid : Nat) : Int) := wI (by omega) (by omega)
              have f4 : IntKind.i64.wrap ((mid : Int) + 1) = ((mid + 1 : Nat) : Int) := wI (by omega) (by omega)
              have f5 : IntKind.i64.wrap (((b1 - a1 : Nat) : Int).tdiv 8) = (((b1 - a1) / 8 : Nat) : Int) := wI (by rw [Int.tdiv_eq_ediv_of_nonneg (by omega)]; omega) (by omega)
              simp only [cU, s_setU, k4, eL, e1, f2, f3, f4, f5, ↓vcPre, ↓s_get, ↓reduceIte, vcPost, vcStd, Store.set_set, s_arr, s_setL, s_fold, swp_size, Nat.le_refl, Nat.zero_add, Array.size_setIfInBounds, Nat.reduceEqDiff, reduceCtorEq, Nat.reduceAdd, Nat.reduceLeDiff, Int.reduceLT, Int.reduceLE, ↓u_setN]
              refine ⟨by omega, fun z => ?_, fun z => ?_⟩
              · rw [if_pos (by omega)] at g6
                have hI := ih d4 a1 mid lm k4 (by omega) (by omega) (by omega) (by omega)
                have k5 : (pdq ltU d4 a1 mid lm true true).size = n := by rw [pdq_size _ hO _ _ _ _ _ _ _ (Nat.lt_succ_self _) (by omega) (by omega)]; exact k4
                generalize pdq ltU d4 a1 mid lm true true = D at hI k5 g6
                refine hI.Q ?_
                intro r s hrs
                have hr1 := hrs.1
                have hs1 := hrs.2
                clear hrs
                subst hr1
                subst hs1
                simp only [cU, s_setU, k5, eL, e1, f2, f3, f4, f5, ↓vcPre, ↓s_get, ↓reduceIte, vcPost, vcStd, Store.set_set, s_arr, s_setL, s_fold, swp_size, Nat.le_refl, Nat.zero_add, Array.size_setIfInBounds, Nat.reduceEqDiff, reduceCtorEq, Nat.reduceAdd, Nat.reduceLeDiff, Int.reduceLT, Int.reduceLE, ↓u_setN]
                refine NextQ.to (mid + 1, b1, lm, decide ((b1 - a1) / 8 ≤ mid - a1), ap, D) ?_ ?_ ?_ ?_
                · simp only [Int.ofNat_le]
                · exact Store.sub_refl _
                · simp only; omega
                · exact ⟨k5, by simp only; omega, g3, by simp only; omega, by simp only; omega, g6⟩
              · rw [if_neg (by omega)] at g6
                have hI := ih d4 (mid + 1) b1 lm k4 (by omega) (by omega) (by omega) (by omega)
                have k5 : (pdq ltU d4 (mid + 1) b1 lm true true).size = n := by rw [pdq_size _ hO _ _ _ _ _ _ _ (Nat.lt_succ_self _) (by omega) (by omega)]; exact k4
                generalize pdq ltU d4 (mid + 1) b1 lm true true = D at hI k5 g6
                refine hI.Q ?_
                intro r s hrs
                have hr1 := hrs.1
                have hs1 := hrs.2
                clear hrs
                subst hr1
                subst hs1
                simp only [cU, s_setU, k5, eL, e1, f2, f3, f4, f5, ↓vcPre, ↓s_get, ↓reduceIte, vcPost, vcStd, Store.set_set, s_arr, s_setL, s_fold, swp_size, Nat.le_refl, Nat.zero_add, Array.size_setIfInBounds, Nat.reduceEqDiff, reduceCtorEq, Nat.reduceAdd, Nat.reduceLeDiff, Int.reduceLT, Int.reduceLE, ↓u_setN]
                refine NextQ.to (a1, mid, lm, decide ((b1 - a1) / 8 ≤ b1 - mid), ap, D) ?_ ?_ ?_ ?_
                · simp only [Int.ofNat_le]
                · exact Store.sub_refl _
                · simp only; omega
                · exact ⟨k5, by simp only; omega, by simp only; omega, by simp only; omega, by simp only; omega, g6⟩
          · rw [if_neg (by simp; omega)] at g6
            have hP := s98 hc d3 a1 b1 p pw1 pw2 (by omega) (by omega) σ id
            rw [k3] at hP
            refine hP.Q ?_
            rintro r s ⟨rfl, rfl⟩
            obtain ⟨r1, r2, r3, _⟩ := partition_holds ltU hO d3 a1 b1 p pw1 pw2 (by omega)
            clear hP
            generalize partition ltU d3 a1 b1 p = R at *
            obtain ⟨mid, ap, d4⟩ := R
            simp only at r1 r2 r3 g6
            have k4 : d4.size = n := by rw [r3.1]; exact k3
            rw [if_pos ⟨r1, r2⟩] at g6
            have f2 : IntKind.i64.wrap ((mid : Int) - a1) = ((mid - a1 : Nat) : Int) := wI (by omega) (by omega)
            have f3 : IntKind.i64.wrap ((b1 : Int) - mid) = ((b1 - mid : Nat) : Int) := wI (by omega) (by omega)
            have f4 : IntKind.i64.wrap ((mid : Int) + 1) = ((mid + 1 : Nat) : Int) := wI (by omega) (by omega)
            have f5 : IntKind.i64.wrap (((b1 - a1 : Nat) : Int).tdiv 8) = (((b1 - a1) / 8 : Nat) : Int) := wI (by rw [Int.tdiv_eq_ediv_of_nonneg (by omega)]; omega) (by omega)
            simp only [cU, s_setU, k4, eL, e1, f2, f3, f4, f5, ↓vcPre, ↓s_get, ↓reduceIte, vcPost, vcStd, Store.set_set, s_arr, s_setL, s_fold, swp_size, Nat.le_refl, Nat.zero_add, Array.size_setIfInBounds, Nat.reduceEqDiff, reduceCtorEq, Nat.reduceAdd, Nat.reduceLeDiff, Int.reduceLT, Int.reduceLE, ↓u_setN]
            refine ⟨by omega, fun z => ?_, fun z => ?_⟩
            · rw [if_pos (by omega)] at g6
              have hI := ih d4 a1 mid lm k4 (by omega) (by omega) (by omega) (by omega)
              have k5 : (pdq ltU d4 a1 mid lm true true).size = n := by rw [pdq_size _ hO _ _ _ _ _ _ _ (Nat.lt_succ_self _) (by omega) (by omega)]; exact k4
              generalize pdq ltU d4 a1 mid lm true true = D at hI k5 g6
              refine hI.Q ?_
              intro r s hrs
              have hr1 := hrs.1
              have hs1 := hrs.2
              clear hrs
              subst hr1
              subst hs1
              simp only [cU, s_setU, k5, eL, e1, f2, f3, f4, f5, ↓vcPre, ↓s_get, ↓reduceIte, vcPost, vcStd, Store.set_set, s_arr, s_setL, s_fold, swp_size, Nat.le_refl, Nat.zero_add, Array.size_setIfInBounds, Nat.reduceEqDiff, reduceCtorEq, Nat.reduceAdd, Nat.reduceLeDiff, Int.reduceLT, Int.reduceLE, ↓u_setN]
              refine NextQ.to (mid + 1, b1, lm, decide ((b1 - a1) / 8 ≤ mid - a1), ap, D) ?_ ?_ ?_ ?_
              · simp only [Int.ofNat_le]
              · exact Store.sub_refl _
              · simp only; omega
              · exact ⟨k5, by simp only; omega, g3, by simp only; omega, by simp only; omega, g6⟩
            · rw [if_neg (by omega)] at g6
              have hI := ih d4 (mid + 1) b1 lm k4 (by omega) (by omega) (by omega) (by omega)
              have k5 : (pdq ltU d4 (mid + 1) b1 lm true true).size = n := by rw [pdq_size _ hO _ _ _ _ _ _ _ (Nat.lt_succ_self _) (by omega) (by omega)]; exact k4
              generalize pdq ltU d4 (mid + 1) b1 lm true true = D at hI k5 g6
              refine hI.Q ?_
              intro r s hrs
              have hr1 := hrs.1
              have hs1 := hrs.2
              clear hrs
              subst hr1
              subst hs1
              simp only [cU, s_setU, k5, eL, e1, f2, f3, f4, f5, ↓vcPre, ↓s_get, ↓reduceIte, vcPost, vcStd, Store.set_set, s_arr, s_setL, s_fold, swp_size, Nat.le_refl, Nat.zero_add, Array.size_setIfInBounds, Nat.reduceEqDiff, reduceCtorEq, Nat.reduceAdd, Nat.reduceLeDiff, Int.reduceLT, Int.reduceLE, ↓u_setN]
              refine NextQ.to (a1, mid, lm, decide ((b1 - a1) / 8 ≤ b1 - mid), ap, D) ?_ ?_ ?_ ?_
              · simp only [Int.ofNat_le]
              · exact Store.sub_refl _
              · simp only; omega
              · exact ⟨k5, by simp only; omega, by simp only; omega, by simp only; omega, by simp only; omega, g6⟩
        · rw [if_neg (by decide)] at g6
          simp only [cU, s_setU, k1, eL, e1, ↓vcPre, ↓s_get, ↓reduceIte, vcPost, vcStd, Store.set_set, s_arr, s_setL, s_fold, swp_size, Nat.le_refl, Nat.zero_add, Array.size_setIfInBounds, Nat.reduceEqDiff, reduceCtorEq, Nat.reduceAdd, Nat.reduceLeDiff, Int.reduceLT, Int.reduceLE, ↓u_setN]
          refine ⟨fun z => (by exfalso; omega), fun _ => ?_⟩
          obtain ⟨d3, hd3⟩ : ∃ x, x = d2 := ⟨_, rfl⟩
          rw [← hd3] at g6 ⊢
          have k3 : d3.size = n := by rw [hd3]; exact k1
          have pw1 := pv1
          have pw2 := pv2
          rw [pdqB, if_neg (by simp)] at g6
          rw [pdqC] at g6
          refine ⟨fun c1 => ?_, fun c1 => ?_⟩
          · have f1 : IntKind.i64.wrap ((a1 : Int) - 1) = ((a1 - 1 : Nat) : Int) := wI (by omega) (by omega)
            simp only [f1, Int.toNat_natCast]
            and_intros <;> try omega
            refine (hc _ _).Q ?_
            simp only [cU, s_setU, k3, eL, e1, f1, ↓vcPre, ↓s_get, ↓reduceIte, vcPost, vcStd, Store.set_set, s_arr, s_setL, s_fold, swp_size, Nat.le_refl, Nat.zero_add, Array.size_setIfInBounds, Nat.reduceEqDiff, reduceCtorEq, Nat.reduceAdd, Nat.reduceLeDiff, Int.reduceLT, Int.reduceLE, ↓u_setN]
            refine ⟨fun c2 => ?_, fun c2 => ?_⟩
            · have hlt : ltU d3[a1 - 1]! d3[p]! = false := decide_eq_false c2
              rw [if_pos (by simp [hlt]; omega)] at g6
              have h76 := s97 hc d3 a1 b1 p pw1 pw2 (by omega) (by omega) σ id
              rw [k3] at h76
              refine h76.Q ?_
              rintro r s ⟨rfl, rfl⟩
              obtain ⟨r1, r2⟩ := partitionEqual_range ltU d3 a1 b1 p (by omega)
              have r3 := partitionEqual_size ltU d3 a1 b1 p
              clear h76
              generalize partitionEqual ltU d3 a1 b1 p = R at *
              obtain ⟨mid, d4⟩ := R
              simp only at r1 r2 r3 g6
              rw [if_pos ⟨r1, r2⟩] at g6
              simp only [cU, s_setU, k3, eL, e1, f1, ↓vcPre, ↓s_get, ↓reduceIte, vcPost, vcStd, Store.set_set, s_arr, s_setL, s_fold, swp_size, Nat.le_refl, Nat.zero_add, Array.size_setIfInBounds, Nat.reduceEqDiff, reduceCtorEq, Nat.reduceAdd, Nat.reduceLeDiff, Int.reduceLT, Int.reduceLE, ↓u_setN]
              refine NextQ.to (mid, b1, lm, true, false, d4) ?_ ?_ ?_ ?_
              · rfl
              · exact Store.sub_refl _
              · simp only; omega
              · exact ⟨by simp only; omega, by simp only; omega, g3, by simp only; omega, by simp only; omega, g6⟩
            · have hlt : ltU d3[a1 - 1]! d3[p]! = true := decide_eq_true (by omega)
              rw [if_neg (by simp [hlt])] at g6
              have hP := s98 hc d3 a1 b1 p pw1 pw2 (by omega) (by omega) σ id
              rw [k3] at hP
              refine hP.Q ?_
              rintro r s ⟨rfl, rfl⟩
              obtain ⟨r1, r2, r3, _⟩ := partition_holds ltU hO d3 a1 b1 p pw1 pw2 (by omega)
              clear hP
              generalize partition ltU d3 a1 b1 p = R at *
              obtain ⟨mid, ap, d4⟩ := R
              simp only at r1 r2 r3 g6
              have k4 : d4.size = n := by rw [r3.1]; exact k3
              rw [if_pos ⟨r1, r2⟩] at g6
              have f2 : IntKind.i64.wrap ((mid : Int) - a1) = ((mid - a1 : Nat) : Int) := wI (by omega) (by omega)
              have f3 : IntKind.i64.wrap ((b1 : Int) - mid) = ((b1 - mid : Nat) : Int) := wI (by omega) (by omega)
              have f4 : IntKind.i64.wrap ((mid : Int) + 1) = ((mid + 1 : Nat) : Int) := wI (by omega) (by omega)
              have f5 : IntKind.i64.wrap (((b1 - a1 : Nat) : Int).tdiv 8) = (((b1 - a1) / 8 : Nat) : Int) := wI (by rw [Int.tdiv_eq_ediv_of_nonneg (by omega)]; omega) (by omega)
              simp only [cU, s_setU, k4, eL, e1, f2, f3, f4, f5, ↓vcPre, ↓s_get, ↓reduceIte, vcPost, vcStd, Store.set_set, s_arr, s_setL, s_fold, swp_size, Nat.le_refl, Nat.zero_add, Array.size_setIfInBounds, Nat.reduceEqDiff, reduceCtorEq, Nat.reduceAdd, Nat.reduceLeDiff, Int.reduceLT, Int.reduceLE, ↓u_setN]
              refine ⟨by omega, fun z => ?_, fun z => ?_⟩
              · rw [if_pos (by omega)] at g6
                have hI := ih d4 a1 mid lm k4 (by omega) (by omega) (by omega) (by omega)
                have k5 : (pdq ltU d4 a1 mid lm true true).size = n := by rw [pdq_size _ hO _ _ _ _ _ _ _ (Nat.lt_succ_self _) (by omega) (by omega)]; exact k4
                generalize pdq ltU d4 a1 mid lm true true = D at hI k5 g6
                refine hI.Q ?_
                intro r s hrs
                have hr1 := hrs.1
                have hs1 := hrs.2
                clear hrs
                subst hr1
                subst hs1
                simp only [cU, s_setU, k5, eL, e1, f2, f3, f4, f5, ↓vcPre, ↓s_get, ↓reduceIte, vcPost, vcStd, Store.set_set, s_arr, s_setL, s_fold, swp_size, Nat.le_refl, Nat.zero_add, Array.size_setIfInBounds, Nat.reduceEqDiff, reduceCtorEq, Nat.reduceAdd, Nat.reduceLeDiff, Int.reduceLT, Int.reduceLE, ↓u_setN]
                refine NextQ.to (mid + 1, b1, lm, decide ((b1 - a1) / 8 ≤ mid - a1), ap, D) ?_ ?_ ?_ ?_
                · simp only [Int.ofNat_le]
                · exact Store.sub_refl _
                · simp only; omega
                · exact ⟨k5, by simp only; omega, g3, by simp only; omega, by simp only; omega, g6⟩
              · rw [if_neg (by omega)] at g6
                have hI := ih d4 (mid + 1) b1 lm k4 (by omega) (by omega) (by omega) (by omega)
                have k5 : (pdq ltU d4 (mid + 1) b1 lm true true).size = n := by rw [pdq_size _ hO _ _ _ _ _ _ _ (Nat.lt_succ_self _) (by omega) (by omega)]; exact k4
                generalize pdq ltU d4 (mid + 1) b1 lm true true = D at hI k5 g6
                refine hI.Q ?_
                intro r s hrs
                have hr1 := hrs.1
                have hs1 := hrs.2
                clear hrs
                subst hr1
                subst hs1
                simp only [cU, s_setU, k5, eL, e1, f2, f3, f4, f5, ↓vcPre, ↓s_get, ↓reduceIte, vcPost, vcStd, Store.set_set, s_arr, s_setL, s_fold, swp_size, Nat.le_refl, Nat.zero_add, Array.size_setIfInBounds, Nat.reduceEqDiff, reduceCtorEq, Nat.reduceAdd, Nat.reduceLeDiff, Int.reduceLT, Int.reduceLE, ↓u_setN]
                refine NextQ.to (a1, mid, lm, decide ((b1 - a1) / 8 ≤ b1 - mid), ap, D) ?_ ?_ ?_ ?_
                · simp only [Int.ofNat_le]
                · exact Store.sub_refl _
                · simp only; omega
                · exact ⟨k5, by simp only; omega, by simp only; omega, by simp only; omega, by simp only; omega, g6⟩
          · rw [if_neg (by simp; omega)] at g6
            have hP := s98 hc d3 a1 b1 p pw1 pw2 (by omega) (by omega) σ id
            rw [k3] at hP
            refine hP.Q ?_
            rintro r s ⟨rfl, rfl⟩
            obtain ⟨r1, r2, r3, _⟩ := partition_holds ltU hO d3 a1 b1 p pw1 pw2 (by omega)
            clear hP
            generalize partition ltU d3 a1 b1 p = R at *
            obtain ⟨mid, ap, d4⟩ := R
            simp only at r1 r2 r3 g6
            have k4 : d4.size = n := by rw [r3.1]; exact k3
            rw [if_pos ⟨r1, r2⟩] at g6
            have f2 : IntKind.i64.wrap ((mid : Int) - a1) = ((mid - a1 : Nat) : Int) := wI (by omega) (by omega)
            have f3 : IntKind.i64.wrap ((b1 : Int) - mid) = ((b1 - mid : Nat) : Int) := wI (by omega) (by omega)
            have f4 : IntKind.i64.wrap ((mid : Int) + 1) = ((mid + 1 : Nat) : Int) := wI (by omega) (by omega)
            have f5 : IntKind.i64.wrap (((b1 - a1 : Nat) : Int).tdiv 8) = (((b1 - a1) / 8 : Nat) : Int) := wI (by rw [Int.tdiv_eq_ediv_of_nonneg (by omega)]; omega) (by omega)
            simp only [cU, s_setU, k4, eL, e1, f2, f3, f4, f5, ↓vcPre, ↓s_get, ↓reduceIte, vcPost, vcStd, Store.set_set, s_arr, s_setL, s_fold, swp_size, Nat.le_refl, Nat.zero_add, Array.size_setIfInBounds, Nat.reduceEqDiff, reduceCtorEq, Nat.reduceAdd, Nat.reduceLeDiff, Int.reduceLT, Int.reduceLE, ↓u_setN]
            refine ⟨by omega, fun z => ?_, fun z => ?_⟩
            · rw [if_pos (by omega)] at g6
              have hI := ih d4 a1 mid lm k4 (by omega) (by omega) (by omega) (by omega)
              have k5 : (pdq ltU d4 a1 mid lm true true).size = n := by rw [pdq_size _ hO _ _ _ _ _ _ _ (Nat.lt_succ_self _) (by omega) (by omega)]; exact k4
              generalize pdq ltU d4 a1 mid lm true true = D at hI k5 g6
              refine hI.Q ?_
              intro r s hrs
              have hr1 := hrs.1
              have hs1 := hrs.2
              clear hrs
              subst hr1
              subst hs1
              simp only [cU, s_setU, k5, eL, e1, f2, f3, f4, f5, ↓vcPre, ↓s_get, ↓reduceIte, vcPost, vcStd, Store.set_set, s_arr, s_setL, s_fold, swp_size, Nat.le_refl, Nat.zero_add, Array.size_setIfInBounds, Nat.reduceEqDiff, reduceCtorEq, Nat.reduceAdd, Nat.reduceLeDiff, Int.reduceLT, Int.reduceLE, ↓u_setN]
              refine NextQ.to (mid + 1, b1, lm, decide ((b1 - a1) / 8 ≤ mid - a1), ap, D) ?_ ?_ ?_ ?_
              · simp only [Int.ofNat_le]
              · exact Store.sub_refl _
              · simp only; omega
              · exact ⟨k5, by simp only; omega, g3, by simp only; omega, by simp only; omega, g6⟩
            · rw [if_neg (by omega)] at g6
              have hI := ih d4 (mid + 1) b1 lm k4 (by omega) (by omega) (by omega) (by omega)
              have k5 : (pdq ltU d4 (mid + 1) b1 lm true true).size = n := by rw [pdq_size _ hO _ _ _ _ _ _ _ (Nat.lt_succ_self _) (by omega) (by omega)]; exact k4
              generalize pdq ltU d4 (mid + 1) b1 lm true true = D at hI k5 g6
              refine hI.Q ?_
              intro r s hrs
              have hr1 := hrs.1
              have hs1 := hrs.2
              clear hrs
              subst hr1
              subst hs1
              simp only [cU, s_setU, k5, eL, e1, f2, f3, f4, f5, ↓vcPre, ↓s_get, ↓reduceIte, vcPost, vcStd, Store.set_set, s_arr, s_setL, s_fold, swp_size, Nat.le_refl, Nat.zero_add, Array.size_setIfInBounds, Nat.reduceEqDiff, reduceCtorEq, Nat.reduceAdd, Nat.reduceLeDiff, Int.reduceLT, Int.reduceLE, ↓u_setN]
              refine NextQ.to (a1, mid, lm, decide ((b1 - a1) / 8 ≤ b1 - mid), ap, D) ?_ ?_ ?_ ?_
              · simp only [Int.ofNat_le]
              · exact Store.sub_refl _
              · simp only; omega
              · exact ⟨k5, by simp only; omega, by simp only; omega, by simp only; omega, by simp only; omega, g6⟩
        · rw [if_pos rfl] at g6
          have f6 : IntKind.i64.wrap ((b1 : Int) - 1) = ((b1 - 1 : Nat) : Int) := wI (by omega) (by omega)
          have f7 : IntKind.i64.wrap ((p : Int) - a1) = ((p - a1 : Nat) : Int) := wI (by omega) (by omega)
          have f8 : IntKind.i64.wrap (((b1 - 1 : Nat) : Int) - ((p - a1 : Nat) : Int)) = ((b1 - 1 - (p - a1) : Nat) : Int) := wI (by omega) (by omega)
          simp only [cU, s_setU, k1, eL, e1, ↓vcPre, ↓s_get, ↓reduceIte, vcPost, vcStd, Store.set_set, s_arr, s_setL, s_fold, swp_size, Nat.le_refl, Nat.zero_add, Array.size_setIfInBounds, Nat.reduceEqDiff, reduceCtorEq, Nat.reduceAdd, Nat.reduceLeDiff, Int.reduceLT, Int.reduceLE, ↓u_setN]
          have h74 := s94 hc d2 a1 b1 g2 (by omega) (by omega) σ id
          rw [k1] at h74
          refine h74.Q ?_
          intro r s hrs
          have hr1 := hrs.1
          have hs1 := hrs.2
          clear hrs
          subst hr1
          subst hs1
          obtain ⟨d3, hd3⟩ : ∃ x, x = reverseRange d2 a1 b1 := ⟨_, rfl⟩
          rw [← hd3] at g6 ⊢
          have k3 : d3.size = n := by rw [hd3, reverseRange, reverseLoop_size]; exact k1
          simp only [cU, s_setU, k3, eL, e1, f6, f7, f8, ↓vcPre, ↓s_get, ↓reduceIte, vcPost, vcStd, Store.set_set, s_arr, s_setL, s_fold, swp_size, Nat.le_refl, Nat.zero_add, Array.size_setIfInBounds, Nat.reduceEqDiff, reduceCtorEq, Nat.reduceAdd, Nat.reduceLeDiff, Int.reduceLT, Int.reduceLE, ↓u_setN]
          have pw1 : a1 ≤ b1 - 1 - (p - a1) := by omega
          have pw2 : b1 - 1 - (p - a1) < b1 := by omega
          generalize b1 - 1 - (p - a1) = p at *
          rw [pdqB, if_neg (by simp)] at g6
          rw [pdqC] at g6
          refine ⟨fun c1 => ?_, fun c1 => ?_⟩
          · have f1 : IntKind.i64.wrap ((a1 : Int) - 1) = ((a1 - 1 : Nat) : Int) := wI (by omega) (by omega)
            simp only [f1, Int.toNat_natCast]
            and_intros <;> try omega
            refine (hc _ _).Q ?_
            simp only [cU, s_setU, k3, eL, e1, f1, ↓vcPre, ↓s_get, ↓reduceIte, vcPost, vcStd, Store.set_set, s_arr, s_setL, s_fold, swp_size, Nat.le_refl, Nat.zero_add, Array.size_setIfInBounds, Nat.reduceEqDiff, reduceCtorEq, Nat.reduceAdd, Nat.reduceLeDiff, Int.reduceLT, Int.reduceLE, ↓u_setN]
            refine ⟨fun c2 => ?_, fun c2 => ?_⟩
            · have hlt : ltU d3[a1 - 1]! d3[p]! = false := decide_eq_false c2
              rw [if_pos (by simp [hlt]; omega)] at g6
              have h76 := s97 hc d3 a1 b1 p pw1 pw2 (by omega) (by omega) σ id
              rw [k3] at h76
              refine h76.Q ?_
              rintro r s ⟨rfl, rfl⟩
              obtain ⟨r1, r2⟩ := partitionEqual_range ltU d3 a1 b1 p (by omega)
              have r3 := partitionEqual_size ltU d3 a1 b1 p
              clear h76
              generalize partitionEqual ltU d3 a1 b1 p = R at *
              obtain ⟨mid, d4⟩ := R
              simp only at r1 r2 r3 g6
              rw [if_pos ⟨r1, r2⟩] at g6
              simp only [cU, s_setU, k3, eL, e1, f1, ↓vcPre, ↓s_get, ↓reduceIte, vcPost, vcStd, Store.set_set, s_arr, s_setL, s_fold, swp_size, Nat.le_refl, Nat.zero_add, Array.size_setIfInBounds, Nat.reduceEqDiff, reduceCtorEq, Nat.reduceAdd, Nat.reduceLeDiff, Int.reduceLT, Int.reduceLE, ↓u_setN]
              refine NextQ.to (mid, b1, lm, true, false, d4) ?_ ?_ ?_ ?_
              · rfl
              · exact Store.sub_refl _
              · simp only; omega
              · exact ⟨by simp only; omega, by simp only; omega, g3, by simp only; omega, by simp only; omega, g6⟩
            · have hlt : ltU d3[a1 - 1]! d3[p]! = true := decide_eq_true (by omega)
              rw [if_neg (by simp [hlt])] at g6
              have hP := s98 hc d3 a1 b1 p pw1 pw2 (by omega) (by omega) σ id
              rw [k3] at hP
              refine hP.Q ?_
              rintro r s ⟨rfl, rfl⟩
              obtain ⟨r1, r2, r3, _⟩ := partition_holds ltU hO d3 a1 b1 p pw1 pw2 (by omega)
              clear hP
              generalize partition ltU d3 a1 b1 p = R at *
              obtain ⟨mid, ap, d4⟩ := R
              simp only at r1 r2 r3 g6
              have k4 : d4.size = n := by rw [r3.1]; exact k3
              rw [if_pos ⟨r1, r2⟩] at g6
              have f2 : IntKind.i64.wrap ((mid : Int) - a1) = ((mid - a1 : Nat) : Int) := wI (by omega) (by omega)
              have f3 : IntKind.i64.wrap ((b1 : Int) - mid) = ((b1 - mid : Nat) : Int) := wI (by omega) (by omega)
              have f4 : IntKind.i64.wrap ((mid : Int) + 1) = ((mid + 1 : Nat) : Int) := wI (by omega) (by omega)
              have f5 : IntKind.i64.wrap (((b1 - a1 : Nat) : Int).tdiv 8) = (((b1 - a1) / 8 : Nat) : Int) := wI (by rw [Int.tdiv_eq_ediv_of_nonneg (by omega)]; omega) (by omega)
              simp only [cU, s_setU, k4, eL, e1, f2, f3, f4, f5, ↓vcPre, ↓s_get, ↓reduceIte, vcPost, vcStd, Store.set_set, s_arr, s_setL, s_fold, swp_size, Nat.le_refl, Nat.zero_add, Array.size_setIfInBounds, Nat.reduceEqDiff, reduceCtorEq, Nat.reduceAdd, Nat.reduceLeDiff, Int.reduceLT, Int.reduceLE, ↓u_setN]
              refine ⟨by omega, fun z => ?_, fun z => ?_⟩
              · rw [if_pos (by omega)] at g6
                have hI := ih d4 a1 mid lm k4 (by omega) (by omega) (by omega) (by omega)
                have k5 : (pdq ltU d4 a1 mid lm true true).size = n := by rw [pdq_size _ hO _ _ _ _ _ _ _ (Nat.lt_succ_self _) (by omega) (by omega)]; exact k4
                generalize pdq ltU d4 a1 mid lm true true = D at hI k5 g6
                refine hI.Q ?_
                intro r s hrs
                have hr1 := hrs.1
                have hs1 := hrs.2
                clear hrs
                subst hr1
                subst hs1
                simp only [cU, s_setU, k5, eL, e1, f2, f3, f4, f5, ↓vcPre, ↓s_get, ↓reduceIte, vcPost, vcStd, Store.set_set, s_arr, s_setL, s_fold, swp_size, Nat.le_refl, Nat.zero_add, Array.size_setIfInBounds, Nat.reduceEqDiff, reduceCtorEq, Nat.reduceAdd, Nat.reduceLeDiff, Int.reduceLT, Int.reduceLE, ↓u_setN]
                refine NextQ.to (mid + 1, b1, lm, decide ((b1 - a1) / 8 ≤ mid - a1), ap, D) ?_ ?_ ?_ ?_
                · simp only [Int.ofNat_le]
                · exact Store.sub_refl _
                · simp only; omega
                · exact ⟨k5, by simp only; omega, g3, by simp only; omega, by simp only; omega, g6⟩
              · rw [if_neg (by omega)] at g6
                have hI := ih d4 (mid + 1) b1 lm k4 (by omega) (by omega) (by omega) (by omega)
                have k5 : (pdq ltU d4 (mid + 1) b1 lm true true).size = n := by rw [pdq_size _ hO _ _ _ _ _ _ _ (Nat.lt_succ_self _) (by omega) (by omega)]; exact k4
                generalize pdq ltU d4 (mid + 1) b1 lm true true = D at hI k5 g6
                refine hI.Q ?_
                intro r s hrs
                have hr1 := hrs.1
                have hs1 := hrs.2
                clear hrs
                subst hr1
                subst hs1
                simp only [cU, s_setU, k5, eL, e1, f2, f3, f4, f5, ↓vcPre, ↓s_get, ↓reduceIte, vcPost, vcStd, Store.set_set, s_arr, s_setL, s_fold, swp_size, Nat.le_refl, Nat.zero_add, Array.size_setIfInBounds, Nat.reduceEqDiff, reduceCtorEq, Nat.reduceAdd, Nat.reduceLeDiff, Int.reduceLT, Int.reduceLE, ↓u_setN]
                refine NextQ.to (a1, mid, lm, decide ((b1 - a1) / 8 ≤ b1 - mid), ap, D) ?_ ?_ ?_ ?_
                · simp only [Int.ofNat_le]
                · exact Store.sub_refl _
                · simp only; omega
                · exact ⟨k5, by simp only; omega, by simp only; omega, by simp only; omega, by simp only; omega, g6⟩
          · rw [if_neg (by simp; omega)] at g6
            have hP := s98 hc d3 a1 b1 p pw1 pw2 (by omega) (by omega) σ id
            rw [k3] at hP
            refine hP.Q ?_
            rintro r s ⟨rfl, rfl⟩
            obtain ⟨r1, r2, r3, _⟩ := partition_holds ltU hO d3 a1 b1 p pw1 pw2 (by omega)
            clear hP
            generalize partition ltU d3 a1 b1 p = R at *
            obtain ⟨mid, ap, d4⟩ := R
            simp only at r1 r2 r3 g6
            have k4 : d4.size = n := by rw [r3.1]; exact k3
            rw [if_pos ⟨r1, r2⟩] at g6
            have f2 : IntKind.i64.wrap ((mid : Int) - a1) = ((mid - a1 : Nat) : Int) := wI (by omega) (by omega)
            have f3 : IntKind.i64.wrap ((b1 : Int) - mid) = ((b1 - mid : Nat) : Int) := wI (by omega) (by omega)
            have f4 : IntKind.i64.wrap ((mid : Int) + 1) = ((mid + 1 : Nat) : Int) := wI (by omega) (by omega)
            have f5 : IntKind.i64.wrap (((b1 - a1 : Nat) : Int).tdiv 8) = (((b1 - a1) / 8 : Nat) : Int) := wI (by rw [Int.tdiv_eq_ediv_of_nonneg (by omega)]; omega) (by omega)
            simp only [cU, s_setU, k4, eL, e1, f2, f3, f4, f5, ↓vcPre, ↓s_get, ↓reduceIte, vcPost, vcStd, Store.set_set, s_arr, s_setL, s_fold, swp_size, Nat.le_refl, Nat.zero_add, Array.size_setIfInBounds, Nat.reduceEqDiff, reduceCtorEq, Nat.reduceAdd, Nat.reduceLeDiff, Int.reduceLT, Int.reduceLE, ↓u_setN]
            refine ⟨by omega, fun z => ?_, fun z => ?_⟩
            · rw [if_pos (by omega)] at g6
              have hI := ih d4 a1 mid lm k4 (by omega) (by omega) (by omega) (by omega)
              have k5 : (pdq ltU d4 a1 mid lm true true).size = n := by rw [pdq_size _ hO _ _ _ _ _ _ _ (Nat.lt_succ_self _) (by omega) (by omega)]; exact k4
              generalize pdq ltU d4 a1 mid lm true true = D at hI k5 g6
              refine hI.Q ?_
              intro r s hrs
              have hr1 := hrs.1
              have hs1 := hrs.2
              clear hrs
              subst hr1
              subst hs1
              simp only [cU, s_setU, k5, eL, e1, f2, f3, f4, f5, ↓vcPre, ↓s_get, ↓reduceIte, vcPost, vcStd, Store.set_set, s_arr, s_setL, s_fold, swp_size, Nat.le_refl, Nat.zero_add, Array.size_setIfInBounds, Nat.reduceEqDiff, reduceCtorEq, Nat.reduceAdd, Nat.reduceLeDiff, Int.reduceLT, Int.reduceLE, ↓u_setN]
              refine NextQ.to (mid + 1, b1, lm, decide ((b1 - a1) / 8 ≤ mid - a1), ap, D) ?_ ?_ ?_ ?_
              · simp only [Int.ofNat_le]
              · exact Store.sub_refl _
              · simp only; omega
              · exact ⟨k5, by simp only; omega, g3, by simp only; omega, by simp only; omega, g6⟩
            · rw [if_neg (by omega)] at g6
              have hI := ih d4 (mid + 1) b1 lm k4 (by omega) (by omega) (by omega) (by omega)
              have k5 : (pdq ltU d4 (mid + 1) b1 lm true true).size = n := by rw [pdq_size _ hO _ _ _ _ _ _ _ (Nat.lt_succ_self _) (by omega) (by omega)]; exact k4
              generalize pdq ltU d4 (mid + 1) b1 lm true true = D at hI k5 g6
              refine hI.Q ?_
              intro r s hrs
              have hr1 := hrs.1
              have hs1 := hrs.2
              clear hrs
              subst hr1
              subst hs1
              simp only [cU, s_setU, k5, eL, e1, f2, f3, f4, f5, ↓vcPre, ↓s_get, ↓reduceIte, vcPost, vcStd, Store.set_set, s_arr, s_setL, s_fold, swp_size, Nat.le_refl, Nat.zero_add, Array.size_setIfInBounds, Nat.reduceEqDiff, reduceCtorEq, Nat.reduceAdd, Nat.reduceLeDiff, Int.reduceLT, Int.reduceLE, ↓u_setN]
              refine NextQ.to (a1, mid, lm, decide ((b1 - a1) / 8 ≤ b1 - mid), ap, D) ?_ ?_ ?_ ?_
              · simp only [Int.ofNat_le]
              · exact Store.sub_refl _
              · simp only; omega
              · exact ⟨k5, by simp only; omega, by simp only; omega, by simp only; omega, by simp only; omega, g6⟩
      · have hA := s93 hc d2 a1 b1 (by omega) (by omega) (by omega) σ id
        rw [k1] at hA
        refine hA.Q ?_
        rintro r s ⟨rfl, rfl⟩
        obtain ⟨pv1, pv2⟩ := choosePivot_holds ltU d2 a1 b1 (by omega)
        rw [pdqA] at g6
        clear hA
        generalize choosePivot ltU d2 a1 b1 = R at *
        obtain ⟨p, hh⟩ := R
        simp only at pv1 pv2 g6
        cases hh
        · rw [if_neg (by decide)] at g6
          simp only [cU, s_setU, k1, eL, e1, ↓vcPre, ↓s_get, ↓reduceIte, vcPost, vcStd, Store.set_set, s_arr, s_setL, s_fold, swp_size, Nat.le_refl, Nat.zero_add, Array.size_setIfInBounds, Nat.reduceEqDiff, reduceCtorEq, Nat.reduceAdd, Nat.reduceLeDiff, Int.reduceLT, Int.reduceLE, ↓u_setN]
          refine ⟨fun z => (by exfalso; omega), fun _ => ?_⟩
          obtain ⟨d3, hd3⟩ : ∃ x, x = d2 := ⟨_, rfl⟩
          rw [← hd3] at g6 ⊢
          have k3 : d3.size = n := by rw [hd3]; exact k1
          have pw1 := pv1
          have pw2 := pv2
          rw [pdqB, if_neg (by simp)] at g6
          refine ⟨fun z => (by exfalso; omega), fun _ => ?_⟩
          rw [pdqC] at g6
          refine ⟨fun c1 => ?_, fun c1 => ?_⟩
          · have f1 : IntKind.i64.wrap ((a1 : Int) - 1) = ((a1 - 1 : Nat) : Int) := wI (by omega) (by omega)
            simp only [f1, Int.toNat_natCast]
            and_intros <;> try omega
            refine (hc _ _).Q ?_
            simp only [cU, s_setU, k3, eL, e1, f1, ↓vcPre, ↓s_get, ↓reduceIte, vcPost, vcStd, Store.set_set, s_arr, s_setL, s_fold, swp_size, Nat.le_refl, Nat.zero_add, Array.size_setIfInBounds, Nat.reduceEqDiff, reduceCtorEq, Nat.reduceAdd, Nat.reduceLeDiff, Int.reduceLT, Int.reduceLE, ↓u_setN]
            refine ⟨fun c2 => ?_, fun c2 => ?_⟩
            · have hlt : ltU d3[a1 - 1]! d3[p]! = false := decide_eq_false c2
              rw [if_pos (by simp [hlt]; omega)] at g6
              have h76 := s97 hc d3 a1 b1 p pw1 pw2 (by omega) (by omega) σ id
              rw [k3] at h76
              refine h76.Q ?_
              rintro r s ⟨rfl, rfl⟩
              obtain ⟨r1, r2⟩ := partitionEqual_range ltU d3 a1 b1 p (by omega)
              have r3 := partitionEqual_size ltU d3 a1 b1 p
              clear h76
              generalize partitionEqual ltU d3 a1 b1 p = R at *
              obtain ⟨mid, d4⟩ := R
              simp only at r1 r2 r3 g6
              rw [if_pos ⟨r1, r2⟩] at g6
              simp only [cU, s_setU, k3, eL, e1, f1, ↓vcPre, ↓s_get, ↓reduceIte, vcPost, vcStd, Store.set_set, s_arr, s_setL, s_fold, swp_size, Nat.le_refl, Nat.zero_add, Array.size_setIfInBounds, Nat.reduceEqDiff, reduceCtorEq, Nat.reduceAdd, Nat.reduceLeDiff, Int.reduceLT, Int.reduceLE, ↓u_setN]
              refine NextQ.to (mid, b1, lm, true, true, d4) ?_ ?_ ?_ ?_
              · rfl
              · exact Store.sub_refl _
              · simp only; omega
              · exact ⟨by simp only; omega, by simp only; omega, g3, by simp only; omega, by simp only; omega, g6⟩
            · have hlt : ltU d3[a1 - 1]! d3[p]! = true := decide_eq_true (by omega)
              rw [if_neg (by simp [hlt])] at g6
              have hP := s98 hc d3 a1 b1 p pw1 pw2 (by omega) (by omega) σ id
              rw [k3] at hP
              refine hP.Q ?_
              rintro r s ⟨rfl, rfl⟩
              obtain ⟨r1, r2, r3, _⟩ := partition_holds ltU hO d3 a1 b1 p pw1 pw2 (by omega)
              clear hP
              generalize partition ltU d3 a1 b1 p = R at *
              obtain ⟨mid, ap, d4⟩ := R
              simp only at r1 r2 r3 g6
              have k4 : d4.size = n := by rw [r3.1]; exact k3
              rw [if_pos ⟨r1, r2⟩] at g6
              have f2 : IntKind.i64.wrap ((mid : Int) - a1) = ((mid - a1 : Nat) : Int) := wI (by omega) (by omega)
              have f3 : IntKind.i64.wrap ((b1 : Int) - mid) = ((b1 - mid : Nat) : Int) := wI (by omega) (by omega)
              have f4 : IntKind.i64.wrap ((mid : Int) + 1) = ((mid + 1 : Nat) : Int) := wI (by omega) (by omega)
              have f5 : IntKind.i64.wrap (((b1 - a1 : Nat) : Int).tdiv 8) = (((b1 - a1) / 8 : Nat) : Int) := wI (by rw [Int.tdiv_eq_ediv_of_nonneg (by omega)]; omega) (by omega)
              simp only [cU, s_setU, k4, eL, e1, f2, f3, f4, f5, ↓vcPre, ↓s_get, ↓reduceIte, vcPost, vcStd, Store.set_set, s_arr, s_setL, s_fold, swp_size, Nat.le_refl, Nat.zero_add, Array.size_setIfInBounds, Nat.reduceEqDiff, reduceCtorEq, Nat.reduceAdd, Nat.reduceLeDiff, Int.reduceLT, Int.reduceLE, ↓u_setN]
              refine ⟨by omega, fun z => ?_, fun z => ?_⟩
              · rw [if_pos (by omega)] at g6
                have hI := ih d4 a1 mid lm k4 (by omega) (by omega) (by omega) (by omega)
                have k5 : (pdq ltU d4 a1 mid lm true true).size = n := by rw [pdq_size _ hO _ _ _ _ _ _ _ (Nat.lt_succ_self _) (by omega) (by omega)]; exact k4
                generalize pdq ltU d4 a1 mid lm true true = D at hI k5 g6
                refine hI.Q ?_
                intro r s hrs
                have hr1 := hrs.1
                have hs1 := hrs.2
                clear hrs
                subst hr1
                subst hs1
                simp only [cU, s_setU, k5, eL, e1, f2, f3, f4, f5, ↓vcPre, ↓s_get, ↓reduceIte, vcPost, vcStd, Store.set_set, s_arr, s_setL, s_fold, swp_size, Nat.le_refl, Nat.zero_add, Array.size_setIfInBounds, Nat.reduceEqDiff, reduceCtorEq, Nat.reduceAdd, Nat.reduceLeDiff, Int.reduceLT, Int.reduceLE, ↓u_setN]
                refine NextQ.to (mid + 1, b1, lm, decide ((b1 - a1) / 8 ≤ mid - a1), ap, D) ?_ ?_ ?_ ?_
                · simp only [Int.ofNat_le]
                · exact Store.sub_refl _
                · simp only; omega
                · exact ⟨k5, by simp only; omega, g3, by simp only; omega, by simp only; omega, g6⟩
              · rw [if_neg (by omega)] at g6
                have hI := ih d4 (mid + 1) b1 lm k4 (by omega) (by omega) (by omega) (by omega)
                have k5 : (pdq ltU d4 (mid + 1) b1 lm true true).size = n := by rw [pdq_size _ hO _ _ _ _ _ _ _ (Nat.lt_succ_self _) (by omega) (by omega)]; exact k4
                generalize pdq ltU d4 (mid + 1) b1 lm true true = D at hI k5 g6
                refine hI.Q ?_
                intro r s hrs
                have hr1 := hrs.1
                have hs1 := hrs.2
                clear hrs
                subst hr1
                subst hs1
                simp only [cU, s_setU, k5, eL, e1, f2, f3, f4, f5, ↓vcPre, ↓s_get, ↓reduceIte, vcPost, vcStd, Store.set_set, s_arr, s_setL, s_fold, swp_size, Nat.le_refl, Nat.zero_add, Array.size_setIfInBounds, Nat.reduceEqDiff, reduceCtorEq, Nat.reduceAdd, Nat.reduceLeDiff, Int.reduceLT, Int.reduceLE, ↓u_setN]
                refine NextQ.to (a1, mid, lm, decide ((b1 - a1) / 8 ≤ b1 - mid), ap, D) ?_ ?_ ?_ ?_
                · simp only [Int.ofNat_le]
                · exact Store.sub_refl _
                · simp only; omega
                · exact ⟨k5, by simp only; omega, by simp only; omega, by simp only; omega, by simp only; omega, g6⟩
          · rw [if_neg (by simp; omega)] at g6
            have hP := s98 hc d3 a1 b1 p pw1 pw2 (by omega) (by omega) σ id
            rw [k3] at hP
            refine hP.Q ?_
            rintro r s ⟨rfl, rfl⟩
            obtain ⟨r1, r2, r3, _⟩ := partition_holds ltU hO d3 a1 b1 p pw1 pw2 (by omega)
            clear hP
            generalize partition ltU d3 a1 b1 p = R at *
            obtain ⟨mid, ap, d4⟩ := R
            simp only at r1 r2 r3 g6
            have k4 : d4.size = n := by rw [r3.1]; exact k3
            rw [if_pos ⟨r1, r2⟩] at g6
            have f2 : IntKind.i64.wrap ((mid : Int) - a1) = ((mid - a1 : Nat) : Int) := wI (by omega) (by omega)
            have f3 : IntKind.i64.wrap ((b1 : Int) - mid) = ((b1 - mid : Nat) : Int) := wI (by omega) (by omega)
            have f4 : IntKind.i64.wrap ((mid : Int) + 1) = ((mid + 1 : Nat) : Int) := wI (by omega) (by omega)
            have f5 : IntKind.i64.wrap (((b1 - a1 : Nat) : Int).tdiv 8) = (((b1 - a1) / 8 : Nat) : Int) := wI (by rw [Int.tdiv_eq_ediv_of_nonneg (by omega)]; omega) (by omega)
            simp only [cU, s_setU, k4, eL, e1, f2, f3, f4, f5, ↓vcPre, ↓s_get, ↓reduceIte, vcPost, vcStd, Store.set_set, s_arr, s_setL, s_fold, swp_size, Nat.le_refl, Nat.zero_add, Array.size_setIfInBounds, Nat.reduceEqDiff, reduceCtorEq, Nat.reduceAdd, Nat.reduceLeDiff, Int.reduceLT, Int.reduceLE, ↓u_setN]
            refine ⟨by omega, fun z => ?_, fun z => ?_⟩
            · rw [if_pos (by omega)] at g6
              have hI := ih d4 a1 mid lm k4 (by omega) (by omega) (by omega) (by omega)
              have k5 : (pdq ltU d4 a1 mid lm true true).size = n := by rw [pdq_size _ hO _ _ _ _ _ _ _ (Nat.lt_succ_self _) (by omega) (by omega)]; exact k4
              generalize pdq ltU d4 a1 mid lm true true = D at hI k5 g6
              refine hI.Q ?_
              intro r s hrs
              have hr1 := hrs.1
              have hs1 := hrs.2
              clear hrs
              subst hr1
              subst hs1
              simp only [cU, s_setU, k5, eL, e1, f2, f3, f4, f5, ↓vcPre, ↓s_get, ↓reduceIte, vcPost, vcStd, Store.set_set, s_arr, s_setL, s_fold, swp_size, Nat.le_refl, Nat.zero_add, Array.size_setIfInBounds, Nat.reduceEqDiff, reduceCtorEq, Nat.reduceAdd, Nat.reduceLeDiff, Int.reduceLT, Int.reduceLE, ↓u_setN]
              refine NextQ.to (mid + 1, b1, lm, decide ((b1 - a1) / 8 ≤ mid - a1), ap, D) ?_ ?_ ?_ ?_
              · simp only [Int.ofNat_le]
              · exact Store.sub_refl _
              · simp only; omega
              · exact ⟨k5, by simp only; omega, g3, by simp only; omega, by simp only; omega, g6⟩
            · rw [if_neg (by omega)] at g6
              have hI := ih d4 (mid + 1) b1 lm k4 (by omega) (by omega) (by omega) (by omega)
              have k5 : (pdq ltU d4 (mid + 1) b1 lm true true).size = n := by rw [pdq_size _ hO _ _ _ _ _ _ _ (Nat.lt_succ_self _) (by omega) (by omega)]; exact k4
              generalize pdq ltU d4 (mid + 1) b1 lm true true = D at hI k5 g6
              refine hI.Q ?_
              intro r s hrs
              have hr1 := hrs.1
              have hs1 := hrs.2
              clear hrs
              subst hr1
              subst hs1
              simp only [cU, s_setU, k5, eL, e1, f2, f3, f4, f5, ↓vcPre, ↓s_get, ↓reduceIte, vcPost, vcStd, Store.set_set, s_arr, s_setL, s_fold, swp_size, Nat.le_refl, Nat.zero_add, Array.size_setIfInBounds, Nat.reduceEqDiff, reduceCtorEq, Nat.reduceAdd, Nat.reduceLeDiff, Int.reduceLT, Int.reduceLE, ↓u_setN]
              refine NextQ.to (a1, mid, lm, decide ((b1 - a1) / 8 ≤ b1 - mid), ap, D) ?_ ?_ ?_ ?_
              · simp only [Int.ofNat_le]
              · exact Store.sub_refl _
              · simp only; omega
              · exact ⟨k5, by simp only; omega, by simp only; omega, by simp only; omega, by simp only; omega, g6⟩
        · rw [if_neg (by decide)] at g6
          simp only [cU, s_setU, k1, eL, e1, ↓vcPre, ↓s_get, ↓reduceIte, vcPost, vcStd, Store.set_set, s_arr, s_setL, s_fold, swp_size, Nat.le_refl, Nat.zero_add, Array.size_setIfInBounds, Nat.reduceEqDiff, reduceCtorEq, Nat.reduceAdd, Nat.reduceLeDiff, Int.reduceLT, Int.reduceLE, ↓u_setN]
          refine ⟨fun z => (by exfalso; omega), fun _ => ?_⟩
          obtain ⟨d3, hd3⟩ : ∃ x, x = d2 := ⟨_, rfl⟩
          rw [← hd3] at g6 ⊢
          have k3 : d3.size = n := by rw [hd3]; exact k1
          have pw1 := pv1
          have pw2 := pv2
          rw [pdqB, if_pos (by simp)] at g6
          have h75 := s95 hc d3 a1 b1 (by omega) (by omega) (by omega) σ id
          have k7 : (partialInsertionSort ltU d3 a1 b1).1.size = n := by rw [partialInsertionSort, partialIns_size]; exact k3
          rw [k3] at h75
          generalize partialInsertionSort ltU d3 a1 b1 = R at h75 k7 g6
          refine h75.Q ?_
          intro r s hrs
          have hr1 := hrs.1
          have hs1 := hrs.2
          clear hrs
          subst hr1
          subst hs1
          clear h75
          obtain ⟨d3, pb⟩ := R
          have k3 : d3.size = n := k7
          simp only at g6
          cases pb
          · rw [if_neg (by simp)] at g6
            simp only [cU, s_setU, k3, eL, e1, ↓vcPre, ↓s_get, ↓reduceIte, vcPost, vcStd, Store.set_set, s_arr, s_setL, s_fold, swp_size, Nat.le_refl, Nat.zero_add, Array.size_setIfInBounds, Nat.reduceEqDiff, reduceCtorEq, Nat.reduceAdd, Nat.reduceLeDiff, Int.reduceLT, Int.reduceLE, ↓u_setN]
            rw [pdqC] at g6
            refine ⟨fun c1 => ?_, fun c1 => ?_⟩
            · have f1 : IntKind.i64.wrap ((a1 : Int) - 1) = ((a1 - 1 : Nat) : Int) := wI (by omega) (by omega)
              simp only [f1, Int.toNat_natCast]
              and_intros <;> try omega
              refine (hc _ _).Q ?_
              simp only [cU, s_setU, k3, eL, e1, f1, ↓vcPre, ↓s_get, ↓reduceIte, vcPost, vcStd, Store.set_set, s_arr, s_setL, s_fold, swp_size, Nat.le_refl, Nat.zero_add, Array.size_setIfInBounds, Nat.reduceEqDiff, reduceCtorEq, Nat.reduceAdd, Nat.reduceLeDiff, Int.reduceLT, Int.reduceLE, ↓u_setN]
              refine ⟨fun c2 => ?_, fun c2 => ?_⟩
              · have hlt : ltU d3[a1 - 1]! d3[p]! = false := decide_eq_false c2
                rw [if_pos (by simp [hlt]; omega)] at g6
                have h76 := s97 hc d3 a1 b1 p pw1 pw2 (by omega) (by omega) σ id
                rw [k3] at h76
                refine h76.Q ?_
                rintro r s ⟨rfl, rfl⟩
                obtain ⟨r1, r2⟩ := partitionEqual_range ltU d3 a1 b1 p (by omega)
                have r3 := partitionEqual_size ltU d3 a1 b1 p
                clear h76
                generalize partitionEqual ltU d3 a1 b1 p = R at *
                obtain ⟨mid, d4⟩ := R
                simp only at r1 r2 r3 g6
                rw [if_pos ⟨r1, r2⟩] at g6
                simp only [cU, s_setU, k3, eL, e1, f1, ↓vcPre, ↓s_get, ↓reduceIte, vcPost, vcStd, Store.set_set, s_arr, s_setL, s_fold, swp_size, Nat.le_refl, Nat.zero_add, Array.size_setIfInBounds, Nat.reduceEqDiff, reduceCtorEq, Nat.reduceAdd, Nat.reduceLeDiff, Int.reduceLT, Int.reduceLE, ↓u_setN]
                refine NextQ.to (mid, b1, lm, true, true, d4) ?_ ?_ ?_ ?_
                · rfl
                · exact Store.sub_refl _
                · simp only; omega
                · exact ⟨by simp only; omega, by simp only; omega, g3, by simp only; omega, by simp only; omega, g6⟩
              · have hlt : ltU d3[a1 - 1]! d3[p]! = true := decide_eq_true (by omega)
                rw [if_neg (by simp [hlt])] at g6
                have hP := s98 hc d3 a1 b1 p pw1 pw2 (by omega) (by omega) σ id
                rw [k3] at hP
                refine hP.Q ?_
                rintro r s ⟨rfl, rfl⟩
                obtain ⟨r1, r2, r3, _⟩ := partition_holds ltU hO d3 a1 b1 p pw1 pw2 (by omega)
                clear hP
                generalize partition ltU d3 a1 b1 p = R at *
                obtain ⟨mid, ap, d4⟩ := R
                simp only at r1 r2 r3 g6
                have k4 : d4.size = n := by rw [r3.1]; exact k3
                rw [if_pos ⟨r1, r2⟩] at g6
                have f2 : IntKind.i64.wrap ((mid : Int) - a1) = ((mid - a1 : Nat) : Int) := wI (by omega) (by omega)
                have f3 : IntKind.i64.wrap ((b1 : Int) - mid) = ((b1 - mid : Nat) : Int) := wI (by omega) (by omega)
                have f4 : IntKind.i64.wrap ((mid : Int) + 1) = ((mid + 1 : Nat) : Int) := wI (by omega) (by omega)
                have f5 : IntKind.i64.wrap (((b1 - a1 : Nat) : Int).tdiv 8) = (((b1 - a1) / 8 : Nat) : Int) := wI (by rw [Int.tdiv_eq_ediv_of_nonneg (by omega)]; omega) (by omega)
                simp only [cU, s_setU, k4, eL, e1, f2, f3, f4, f5, ↓vcPre, ↓s_get, ↓reduceIte, vcPost, vcStd, Store.set_set, s_arr, s_setL, s_fold, swp_size, Nat.le_refl, Nat.zero_add, Array.size_setIfInBounds, Nat.reduceEqDiff, reduceCtorEq, Nat.reduceAdd, Nat.reduceLeDiff, Int.reduceLT, Int.reduceLE, ↓u_setN]
                refine ⟨by omega, fun z => ?_, fun z => ?_⟩
                · rw [if_pos (by omega)] at g6
                  have hI := ih d4 a1 mid lm k4 (by omega) (by omega) (by omega) (by omega)
                  have k5 : (pdq ltU d4 a1 mid lm true true).size = n := by rw [pdq_size _ hO _ _ _ _ _ _ _ (Nat.lt_succ_self _) (by omega) (by omega)]; exact k4
                  generalize pdq ltU d4 a1 mid lm true true = D at hI k5 g6
                  refine hI.Q ?_
                  intro r s hrs
                  have hr1 := hrs.1
                  have hs1 := hrs.2
                  clear hrs
                  subst hr1
                  subst hs1
                  simp only [cU, s_setU, k5, eL, e1, f2, f3, f4, f5, ↓vcPre, ↓s_get, ↓reduceIte, vcPost, vcStd, Store.set_set, s_arr, s_setL, s_fold, swp_size, Nat.le_refl, Nat.zero_add, Array.size_setIfInBounds, Nat.reduceEqDiff, reduceCtorEq, Nat.reduceAdd, Nat.reduceLeDiff, Int.reduceLT, Int.reduceLE, ↓u_setN]
                  refine NextQ.to (mid + 1, b1, lm, decide ((b1 - a1) / 8 ≤ mid - a1), ap, D) ?_ ?_ ?_ ?_
                  · simp only [Int.ofNat_le]
                  · exact Store.sub_refl _
                  · simp only; omega
                  · exact ⟨k5, by simp only; omega, g3, by simp only; omega, by simp only; omega, g6⟩
                · rw [if_neg (by omega)] at g6
                  have hI := ih d4 (mid + 1) b1 lm k4 (by omega) (by omega) (by omega) (by omega)
                  have k5 : (pdq ltU d4 (mid + 1) b1 lm true true).size = n := by rw [pdq_size _ hO _ _ _ _ _ _ _ (Nat.lt_succ_self _) (by omega) (by omega)]; exact k4
                  generalize pdq ltU d4 (mid + 1) b1 lm true true = D at hI k5 g6
                  refine hI.Q ?_
                  intro r s hrs
                  have hr1 := hrs.1
                  have hs1 := hrs.2
                  clear hrs
                  subst hr1
                  subst hs1
                  simp only [cU, s_setU, k5, eL, e1, f2, f3, f4, f5, ↓vcPre, ↓s_get, ↓reduceIte, vcPost, vcStd, Store.set_set, s_arr, s_setL, s_fold, swp_size, Nat.le_refl, Nat.zero_add, Array.size_setIfInBounds, Nat.reduceEqDiff, reduceCtorEq, Nat.reduceAdd, Nat.reduceLeDiff, Int.reduceLT, Int.reduceLE, ↓u_setN]
                  refine NextQ.to (a1, mid, lm, decide ((b1 - a1) / 8 ≤ b1 - mid), ap, D) ?_ ?_ ?_ ?_
                  · simp only [Int.ofNat_le]
                  · exact Store.sub_refl _
                  · simp only; omega
                  · exact ⟨k5, by simp only; omega, by simp only; omega, by simp only; omega, by simp only; omega, g6⟩
            · rw [if_neg (by simp; omega)] at g6
              have hP := s98 hc d3 a1 b1 p pw1 pw2 (by omega) (by omega) σ id
              rw [k3] at hP
              refine hP.Q ?_
              rintro r s ⟨rfl, rfl⟩
              obtain ⟨r1, r2, r3, _⟩ := partition_holds ltU hO d3 a1 b1 p pw1 pw2 (by omega)
              clear hP
              generalize partition ltU d3 a1 b1 p = R at *
              obtain ⟨mid, ap, d4⟩ := R
              simp only at r1 r2 r3 g6
              have k4 : d4.size = n := by rw [r3.1]; exact k3
              rw [if_pos ⟨r1, r2⟩] at g6
              have f2 : IntKind.i64.wrap ((mid : Int) - a1) = ((mid - a1 : Nat) : Int) := wI (by omega) (by omega)
              have f3 : IntKind.i64.wrap ((b1 : Int) - mid) = ((b1 - mid : Nat) : Int) := wI (by omega) (by omega)
              have f4 : IntKind.i64.wrap ((mid : Int) + 1) = ((mid + 1 : Nat) : Int) := wI (by omega) (by omega)
              have f5 : IntKind.i64.wrap (((b1 - a1 : Nat) : Int).tdiv 8) = (((b1 - a1) / 8 : Nat) : Int) := wI (by rw [Int.tdiv_eq_ediv_of_nonneg (by omega)]; omega) (by omega)
              simp only [cU, s_setU, k4, eL, e1, f2, f3, f4, f5, ↓vcPre, ↓s_get, ↓reduceIte, vcPost, vcStd, Store.set_set, s_arr, s_setL, s_fold, swp_size, Nat.le_refl, Nat.zero_add, Array.size_setIfInBounds, Nat.reduceEqDiff, reduceCtorEq, Nat.reduceAdd, Nat.reduceLeDiff, Int.reduceLT, Int.reduceLE, ↓u_setN]
              refine ⟨by omega, fun z => ?_, fun z => ?_⟩
              · rw [if_pos (by omega)] at g6
                have hI := ih d4 a1 mid lm k4 (by omega) (by omega) (by omega) (by omega)
                have k5 : (pdq ltU d4 a1 mid lm true true).size = n := by rw [pdq_size _ hO _ _ _ _ _ _ _ (Nat.lt_succ_self _) (by omega) (by omega)]; exact k4
                generalize pdq ltU d4 a1 mid lm true true = D at hI k5 g6
                refine hI.Q ?_
                intro r s hrs
                have hr1 := hrs.1
                have hs1 := hrs.2
                clear hrs
                subst hr1
                subst hs1
                simp only [cU, s_setU, k5, eL, e1, f2, f3, f4, f5, ↓vcPre, ↓s_get, ↓reduceIte, vcPost, vcStd, Store.set_set, s_arr, s_setL, s_fold, swp_size, Nat.le_refl, Nat.zero_add, Array.size_setIfInBounds, Nat.reduceEqDiff, reduceCtorEq, Nat.reduceAdd, Nat.reduceLeDiff, Int.reduceLT, Int.reduceLE, ↓u_setN]
                refine NextQ.to (mid + 1, b1, lm, decide ((b1 - a1) / 8 ≤ mid - a1), ap, D) ?_ ?_ ?_ ?_
                · simp only [Int.ofNat_le]
                · exact Store.sub_refl _
                · simp only; omega
                · exact ⟨k5, by simp only; omega, g3, by simp only; omega, by simp only; omega, g6⟩
              · rw [if_neg (by omega)] at g6
                have hI := ih d4 (mid + 1) b1 lm k4 (by omega) (by omega) (by omega) (by omega)
                have k5 : (pdq ltU d4 (mid + 1) b1 lm true true).size = n := by rw [pdq_size _ hO _ _ _ _ _ _ _ (Nat.lt_succ_self _) (by omega) (by omega)]; exact k4
                generalize pdq ltU d4 (mid + 1) b1 lm true true = D at hI k5 g6
                refine hI.Q ?_
                intro r s hrs
                have hr1 := hrs.1
                have hs1 := hrs.2
                clear hrs
                subst hr1
                subst hs1
                simp only [cU, s_setU, k5, eL, e1, f2, f3, f4, f5, ↓vcPre, ↓s_get, ↓reduceIte, vcPost, vcStd, Store.set_set, s_arr, s_setL, s_fold, swp_size, Nat.le_refl, Nat.zero_add, Array.size_setIfInBounds, Nat.reduceEqDiff, reduceCtorEq, Nat.reduceAdd, Nat.reduceLeDiff, Int.reduceLT, Int.reduceLE, ↓u_setN]
                refine NextQ.to (a1, mid, lm, decide ((b1 - a1) / 8 ≤ b1 - mid), ap, D) ?_ ?_ ?_ ?_
                · simp only [Int.ofNat_le]
                · exact Store.sub_refl _
                · simp only; omega
                · exact ⟨k5, by simp only; omega, by simp only; omega, by simp only; omega, by simp only; omega, g6⟩
          · rw [if_pos rfl] at g6
            simp only [cU, s_setU, k3, eL, e1, ↓vcPre, ↓s_get, ↓reduceIte, vcPost, vcStd, Store.set_set, s_arr, s_setL, s_fold, swp_size, Nat.le_refl, Nat.zero_add, Array.size_setIfInBounds, Nat.reduceEqDiff, reduceCtorEq, Nat.reduceAdd, Nat.reduceLeDiff, Int.reduceLT, Int.reduceLE, ↓u_setN]
            exact EndQ.to _ _ rfl (Store.sub_refl _) ⟨rfl, by rw [g6]⟩
        · rw [if_pos rfl] at g6
          have f6 : IntKind.i64.wrap ((b1 : Int) - 1) = ((b1 - 1 : Nat) : Int) := wI (by omega) (by omega)
          have f7 : IntKind.i64.wrap ((p : Int) - a1) = ((p - a1 : Nat) : Int) := wI (by omega) (by omega)
          have f8 : IntKind.i64.wrap (((b1 - 1 : Nat) : Int) - ((p - a1 : Nat) : Int)) = ((b1 - 1 - (p - a1) : Nat) : Int) := wI (by omega) (by omega)
          simp only [cU, s_setU, k1, eL, e1, ↓vcPre, ↓s_get, ↓reduceIte, vcPost, vcStd, Store.set_set, s_arr, s_setL, s_fold, swp_size, Nat.le_refl, Nat.zero_add, Array.size_setIfInBounds, Nat.reduceEqDiff, reduceCtorEq, Nat.reduceAdd, Nat.reduceLeDiff, Int.reduceLT, Int.reduceLE, ↓u_setN]
          have h74 := s94 hc d2 a1 b1 g2 (by omega) (by omega) σ id
          rw [k1] at h74
          refine h74.Q ?_
          intro r s hrs
          have hr1 := hrs.1
          have hs1 := hrs.2
          clear hrs
          subst hr1
          subst hs1
          obtain ⟨d3, hd3⟩ : ∃ x, x = reverseRange d2 a1 b1 := ⟨_, rfl⟩
          rw [← hd3] at g6 ⊢
          have k3 : d3.size = n := by rw [hd3, reverseRange, reverseLoop_size]; exact k1
          simp only [cU, s_setU, k3, eL, e1, f6, f7, f8, ↓vcPre, ↓s_get, ↓reduceIte, vcPost, vcStd, Store.set_set, s_arr, s_setL, s_fold, swp_size, Nat.le_refl, Nat.zero_add, Array.size_setIfInBounds, Nat.reduceEqDiff, reduceCtorEq, Nat.reduceAdd, Nat.reduceLeDiff, Int.reduceLT, Int.reduceLE, ↓u_setN]
          have pw1 : a1 ≤ b1 - 1 - (p - a1) := by omega
          have pw2 : b1 - 1 - (p - a1) < b1 := by omega
          generalize b1 - 1 - (p - a1) = p at *
          rw [pdqB, if_pos (by simp)] at g6
          have h75 := s95 hc d3 a1 b1 (by omega) (by omega) (by omega) σ id
          have k7 : (partialInsertionSort ltU d3 a1 b1).1.size = n := by rw [partialInsertionSort, partialIns_size]; exact k3
          rw [k3] at h75
          generalize partialInsertionSort ltU d3 a1 b1 = R at h75 k7 g6
          refine h75.Q ?_
          intro r s hrs
          have hr1 := hrs.1
          have hs1 := hrs.2
          clear hrs
          subst hr1
          subst hs1
          clear h75
          obtain ⟨d3, pb⟩ := R
          have k3 : d3.size = n := k7
          simp only at g6
          cases pb
          · rw [if_neg (by simp)] at g6
            simp only [cU, s_setU, k3, eL, e1, ↓vcPre, ↓s_get, ↓reduceIte, vcPost, vcStd, Store.set_set, s_arr, s_setL, s_fold, swp_size, Nat.le_refl, Nat.zero_add, Array.size_setIfInBounds, Nat.reduceEqDiff, reduceCtorEq, Nat.reduceAdd, Nat.reduceLeDiff, Int.reduceLT, Int.reduceLE, ↓u_setN]
            rw [pdqC] at g6
            refine ⟨fun c1 => ?_, fun c1 => ?_⟩
            · have f1 : IntKind.i64.wrap ((a1 : Int) - 1) = ((a1 - 1 : Nat) : Int) := wI (by omega) (by omega)
              simp only [f1, Int.toNat_natCast]
              and_intros <;> try omega
              refine (hc _ _).Q ?_
              simp only [cU, s_setU, k3, eL, e1, f1, ↓vcPre, ↓s_get, ↓reduceIte, vcPost, vcStd, Store.set_set, s_arr, s_setL, s_fold, swp_size, Nat.le_refl, Nat.zero_add, Array.size_setIfInBounds, Nat.reduceEqDiff, reduceCtorEq, Nat.reduceAdd, Nat.reduceLeDiff, Int.reduceLT, Int.reduceLE, ↓u_setN]
              refine ⟨fun c2 => ?_, fun c2 => ?_⟩
              · have hlt : ltU d3[a1 - 1]! d3[p]! = false := decide_eq_false c2
                rw [if_pos (by simp [hlt]; omega)] at g6
                have h76 := s97 hc d3 a1 b1 p pw1 pw2 (by omega) (by omega) σ id
                rw [k3] at h76
                refine h76.Q ?_
                rintro r s ⟨rfl, rfl⟩
                obtain ⟨r1, r2⟩ := partitionEqual_range ltU d3 a1 b1 p (by omega)
                have r3 := partitionEqual_size ltU d3 a1 b1 p
                clear h76
                generalize partitionEqual ltU d3 a1 b1 p = R at *
                obtain ⟨mid, d4⟩ := R
                simp only at r1 r2 r3 g6
                rw [if_pos ⟨r1, r2⟩] at g6
                simp only [cU, s_setU, k3, eL, e1, f1, ↓vcPre, ↓s_get, ↓reduceIte, vcPost, vcStd, Store.set_set, s_arr, s_setL, s_fold, swp_size, Nat.le_refl, Nat.zero_add, Array.size_setIfInBounds, Nat.reduceEqDiff, reduceCtorEq, Nat.reduceAdd, Nat.reduceLeDiff, Int.reduceLT, Int.reduceLE, ↓u_setN]
                refine NextQ.to (mid, b1, lm, true, true, d4) ?_ ?_ ?_ ?_
                · rfl
                · exact Store.sub_refl _
                · simp only; omega
                · exact ⟨by simp only; omega, by simp only; omega, g3, by simp only; omega, by simp only; omega, g6⟩
              · have hlt : ltU d3[a1 - 1]! d3[p]! = true := decide_eq_true (by omega)
                rw [if_neg (by simp [hlt])] at g6
                have hP := s98 hc d3 a1 b1 p pw1 pw2 (by omega) (by omega) σ id
                rw [k3] at hP
                refine hP.Q ?_
                rintro r s ⟨rfl, rfl⟩
                obtain ⟨r1, r2, r3, _⟩ := partition_holds ltU hO d3 a1 b1 p pw1 pw2 (by omega)
                clear hP
                generalize partition ltU d3 a1 b1 p = R at *
                obtain ⟨mid, ap, d4⟩ := R
                simp only at r1 r2 r3 g6
                have k4 : d4.size = n := by rw [r3.1]; exact k3
                rw [if_pos ⟨r1, r2⟩] at g6
                have f2 : IntKind.i64.wrap ((mid : Int) - a1) = ((mid - a1 : Nat) : Int) := wI (by omega) (by omega)
                have f3 : IntKind.i64.wrap ((b1 : Int) - mid) = ((b1 - mid : Nat) : Int) := wI (by omega) (by omega)
                have f4 : IntKind.i64.wrap ((mid : Int) + 1) = ((mid + 1 : Nat) : Int) := wI (by omega) (by omega)
                have f5 : IntKind.i64.wrap (((b1 - a1 : Nat) : Int).tdiv 8) = (((b1 - a1) / 8 : Nat) : Int) := wI (by rw [Int.tdiv_eq_ediv_of_nonneg (by omega)]; omega) (by omega)
                simp only [cU, s_setU, k4, eL, e1, f2, f3, f4, f5, ↓vcPre, ↓s_get, ↓reduceIte, vcPost, vcStd, Store.set_set, s_arr, s_setL, s_fold, swp_size, Nat.le_refl, Nat.zero_add, Array.size_setIfInBounds, Nat.reduceEqDiff, reduceCtorEq, Nat.reduceAdd, Nat.reduceLeDiff, Int.reduceLT, Int.reduceLE, ↓u_setN]
                refine ⟨by omega, fun z => ?_, fun z => ?_⟩
                · rw [if_pos (by omega)] at g6
                  have hI := ih d4 a1 mid lm k4 (by omega) (by omega) (by omega) (by omega)
                  have k5 : (pdq ltU d4 a1 mid lm true true).size = n := by rw [pdq_size _ hO _ _ _ _ _ _ _ (Nat.lt_succ_self _) (by omega) (by omega)]; exact k4
                  generalize pdq ltU d4 a1 mid lm true true = D at hI k5 g6
                  refine hI.Q ?_
                  intro r s hrs
                  have hr1 := hrs.1
                  have hs1 := hrs.2
                  clear hrs
                  subst hr1
                  subst hs1
                  simp only [cU, s_setU, k5, eL, e1, f2, f3, f4, f5, ↓vcPre, ↓s_get, ↓reduceIte, vcPost, vcStd, Store.set_set, s_arr, s_setL, s_fold, swp_size, Nat.le_refl, Nat.zero_add, Array.size_setIfInBounds, Nat.reduceEqDiff, reduceCtorEq, Nat.reduceAdd, Nat.reduceLeDiff, Int.reduceLT, Int.reduceLE, ↓u_setN]
                  refine NextQ.to (mid + 1, b1, lm, decide ((b1 - a1) / 8 ≤ mid - a1), ap, D) ?_ ?_ ?_ ?_
                  · simp only [Int.ofNat_le]
                  · exact Store.sub_refl _
                  · simp only; omega
                  · exact ⟨k5, by simp only; omega, g3, by simp only; omega, by simp only; omega, g6⟩
                · rw [if_neg (by omega)] at g6
                  have hI := ih d4 (mid + 1) b1 lm k4 (by omega) (by omega) (by omega) (by omega)
                  have k5 : (pdq ltU d4 (mid + 1) b1 lm true true).size = n := by rw [pdq_size _ hO _ _ _ _ _ _ _ (Nat.lt_succ_self _) (by omega) (by omega)]; exact k4
                  generalize pdq ltU d4 (mid + 1) b1 lm true true = D at hI k5 g6
                  refine hI.Q ?_
                  intro r s hrs
                  have hr1 := hrs.1
                  have hs1 := hrs.2
                  clear hrs
                  subst hr1
                  subst hs1
                  simp only [cU, s_setU, k5, eL, e1, f2, f3, f4, f5, ↓vcPre, ↓s_get, ↓reduceIte, vcPost, vcStd, Store.set_set, s_arr, s_setL, s_fold, swp_size, Nat.le_refl, Nat.zero_add, Array.size_setIfInBounds, Nat.reduceEqDiff, reduceCtorEq, Nat.reduceAdd, Nat.reduceLeDiff, Int.reduceLT, Int.reduceLE, ↓u_setN]
                  refine NextQ.to (a1, mid, lm, decide ((b1 - a1) / 8 ≤ b1 - mid), ap, D) ?_ ?_ ?_ ?_
                  · simp only [Int.ofNat_le]
                  · exact Store.sub_refl _
                  · simp only; omega
                  · exact ⟨k5, by simp only; omega, by simp only; omega, by simp only; omega, by simp only; omega, g6⟩
            · rw [if_neg (by simp; omega)] at g6
              have hP := s98 hc d3 a1 b1 p pw1 pw2 (by omega) (by omega) σ id
              rw [k3] at hP
              refine hP.Q ?_
              rintro r s ⟨rfl, rfl⟩
              obtain ⟨r1, r2, r3, _⟩ := partition_holds ltU hO d3 a1 b1 p pw1 pw2 (by omega)
              clear hP
              generalize partition ltU d3 a1 b1 p = R at *
              obtain ⟨mid, ap, d4⟩ := R
              simp only at r1 r2 r3 g6
              have k4 : d4.size = n := by rw [r3.1]; exact k3
              rw [if_pos ⟨r1, r2⟩] at g6
              have f2 : IntKind.i64.wrap ((mid : Int) - a1) = ((mid - a1 : Nat) : Int) := wI (by omega) (by omega)
              have f3 : IntKind.i64.wrap ((b1 : Int) - mid) = ((b1 - mid : Nat) : Int) := wI (by omega) (by omega)
              have f4 : IntKind.i64.wrap ((mid : Int) + 1) = ((mid + 1 : Nat) : Int) := wI (by omega) (by omega)
              have f5 : IntKind.i64.wrap (((b1 - a1 : Nat) : Int).tdiv 8) = (((b1 - a1) / 8 : Nat) : Int) := wI (by rw [Int.tdiv_eq_ediv_of_nonneg (by omega)]; omega) (by omega)
              simp only [cU, s_setU, k4, eL, e1, f2, f3, f4, f5, ↓vcPre, ↓s_get, ↓reduceIte, vcPost, vcStd, Store.set_set, s_arr, s_setL, s_fold, swp_size, Nat.le_refl, Nat.zero_add, Array.size_setIfInBounds, Nat.reduceEqDiff, reduceCtorEq, Nat.reduceAdd, Nat.reduceLeDiff, Int.reduceLT, Int.reduceLE, ↓u_setN]
              refine ⟨by omega, fun z => ?_, fun z => ?_⟩
              · rw [if_pos (by omega)] at g6
                have hI := ih d4 a1 mid lm k4 (by omega) (by omega) (by omega) (by omega)
                have k5 : (pdq ltU d4 a1 mid lm true true).size = n := by rw [pdq_size _ hO _ _ _ _ _ _ _ (Nat.lt_succ_self _) (by omega) (by omega)]; exact k4
                generalize pdq ltU d4 a1 mid lm true true = D at hI k5 g6
                refine hI.Q ?_
                intro r s hrs
                have hr1 := hrs.1
                have hs1 := hrs.2
                clear hrs
                subst hr1
                subst hs1
                simp only [cU, s_setU, k5, eL, e1, f2, f3, f4, f5, ↓vcPre, ↓s_get, ↓reduceIte, vcPost, vcStd, Store.set_set, s_arr, s_setL, s_fold, swp_size, Nat.le_refl, Nat.zero_add, Array.size_setIfInBounds, Nat.reduceEqDiff, reduceCtorEq, Nat.reduceAdd, Nat.reduceLeDiff, Int.reduceLT, Int.reduceLE, ↓u_setN]
                refine NextQ.to (mid + 1, b1, lm, decide ((b1 - a1) / 8 ≤ mid - a1), ap, D) ?_ ?_ ?_ ?_
                · simp only [Int.ofNat_le]
                · exact Store.sub_refl _
                · simp only; omega
                · exact ⟨k5, by simp only; omega, g3, by simp only; omega, by simp only; omega, g6⟩
              · rw [if_neg (by omega)] at g6
                have hI := ih d4 (mid + 1) b1 lm k4 (by omega) (by omega) (by omega) (by omega)
                have k5 : (pdq ltU d4 (mid + 1) b1 lm true true).size = n := by rw [pdq_size _ hO _ _ _ _ _ _ _ (Nat.lt_succ_self _) (by omega) (by omega)]; exact k4
                generalize pdq ltU d4 (mid + 1) b1 lm true true = D at hI k5 g6
                refine hI.Q ?_
                intro r s hrs
                have hr1 := hrs.1
                have hs1 := hrs.2
                clear hrs
                subst hr1
                subst hs1
                simp only [cU, s_setU, k5, eL, e1, f2, f3, f4, f5, ↓vcPre, ↓s_get, ↓reduceIte, vcPost, vcStd, Store.set_set, s_arr, s_setL, s_fold, swp_size, Nat.le_refl, Nat.zero_add, Array.size_setIfInBounds, Nat.reduceEqDiff, reduceCtorEq, Nat.reduceAdd, Nat.reduceLeDiff, Int.reduceLT, Int.reduceLE, ↓u_setN]
                refine NextQ.to (a1, mid, lm, decide ((b1 - a1) / 8 ≤ b1 - mid), ap, D) ?_ ?_ ?_ ?_
                · simp only [Int.ofNat_le]
                · exact Store.sub_refl _
                · simp only; omega
                · exact ⟨k5, by simp only; omega, by simp only; omega, by simp only; omega, by simp only; omega, g6⟩
          · rw [if_pos rfl] at g6
            simp only [cU, s_setU, k3, eL, e1, ↓vcPre, ↓s_get, ↓reduceIte, vcPost, vcStd, Store.set_set, s_arr, s_setL, s_fold, swp_size, Nat.le_refl, Nat.zero_add, Array.size_setIfInBounds, Nat.reduceEqDiff, reduceCtorEq, Nat.reduceAdd, Nat.reduceLeDiff, Int.reduceLT, Int.reduceLE, ↓u_setN]
            exact EndQ.to _ _ rfl (Store.sub_refl _) ⟨rfl, by rw [g6]⟩
end Go.Am

/- O10b -/
namespace Go.Am
open Go.Proofs Go.Sort
section
/-- So many rounds are left; t have been made. -/
def bpR (a L M i0 : Nat) : Nat → Nat → UInt64 × Array Int → Array Int
  | 0, _, st => st.2
  | k + 1, t, st => bpR a L M i0 k (t + 1) (breakStep a L M st (i0 + t))
theorem bp_eq (d : Array Int) (a L : Nat) (h8 : 8 ≤ L) : breakPatterns d a (a + L) = bpR a L (1 <<< bitsLen L) (a + L / 4 * 2 - 1) 3 0 (UInt64.ofNat L, d) := by
  unfold breakPatterns
  simp only [Nat.add_sub_cancel_left]
  rw [if_pos h8]
  rfl
theorem bpR_step (a L M i0 t : Nat) (r : UInt64) (d : Array Int) (o : Nat) (ht : t < 3) (ho : (if (xorNext r).toNat &&& (M - 1) ≥ L then ((xorNext r).toNat &&& (M - 1)) - L else (xorNext r).toNat &&& (M - 1)) = o) :
    bpR a L M i0 (3 - t) t (r, d) = bpR a L M i0 (3 - (t + 1)) (t + 1) (xorNext r, swp d (i0 + t) (a + o)) := by
  rw [show 3 - t = (3 - (t + 1)) + 1 by omega, bpR]
  unfold breakStep
  simp only [ho]
end
section
set_option maxRecDepth 20000 in
theorem s92 (hc : LessU) (σ : Store) (id : Nat) (n : Nat) (hs : n < 2305843009213693952) (d : Array Int) (a b : Nat) (hd : d.size = n) (hab : a ≤ b) (hb : b ≤ n) :
    ACalls Try.prog 92 [.os id 1 0 n, .int .i64 a, .int .i64 b] (σ.set id (arrA 1 cU d)) (fun r s => r = .tup [] ∧ s = σ.set id (arrA 1 cU (breakPatterns d a b))) := by
  refine calls_of Tst.F92 (by simp [Tst.F92, Fn.mkX]) ?_
  simp only [Tst.F92, Fn.mkX, Tst.b92]
  obtain ⟨L, rfl⟩ : ∃ L, b = a + L := ⟨b - a, by omega⟩
  have e1 : IntKind.i64.wrap (((a + L : Nat) : Int) - a) = (L : Int) := wI (by omega) (by omega)
  simp only [cU, s_setU, hd, e1, ↓vcPre, ↓s_get, ↓reduceIte, vcPost, vcStd, Store.set_set, s_arr, s_setL, s_fold, swp_size, Nat.le_refl, Nat.zero_add, Array.size_setIfInBounds, Nat.reduceEqDiff, reduceCtorEq, Nat.reduceAdd, Nat.reduceLeDiff, Int.reduceLT, Int.reduceLE, ↓u_setN]
  refine ⟨fun h8 => ?_, fun h8 => ?_⟩
  · have h8' : 8 ≤ L := by omega
    have e2 : IntKind.u64.wrap (L : Int) = L := w_u64 (by omega)
    refine AllocQ.i1 fun i hi1 hi2 hi3 => ?_
    simp only [cU, s_setU, hd, e1, e2, ↓vcPre, ↓s_get, ↓reduceIte, vcPost, vcStd, Store.set_set, s_arr, s_setL, s_fold, swp_size, Nat.le_refl, Nat.zero_add, Array.size_setIfInBounds, Nat.reduceEqDiff, reduceCtorEq, Nat.reduceAdd, Nat.reduceLeDiff, Int.reduceLT, Int.reduceLE, ↓u_setN]
    refine (c86 L (by omega)).Q ?_
    obtain ⟨M, hM⟩ : ∃ M : Nat, M = 1 <<< bitsLen L := ⟨_, rfl⟩
    have hM1 : 1 ≤ M := by rw [hM, Nat.one_shiftLeft]; exact Nat.two_pow_pos _
    have hM2 : M ≤ 2 * L := by rw [hM, Nat.one_shiftLeft]; exact two_pow_bitsLen_le (by omega)
    rw [← hM]
    have q1 : IntKind.i64.wrap ((L : Int).tdiv 4) = ((L / 4 : Nat) : Int) := wI (by rw [Int.tdiv_eq_ediv_of_nonneg (by omega)]; omega) (by omega)
    have q2 : IntKind.i64.wrap (((L / 4 : Nat) : Int) * 2) = ((L / 4 * 2 : Nat) : Int) := wI (by omega) (by omega)
    have q3 : IntKind.i64.wrap ((a : Int) + ((L / 4 * 2 : Nat) : Int)) = ((a + L / 4 * 2 : Nat) : Int) := wI (by omega) (by omega)
    have q4 : IntKind.i64.wrap (((a + L / 4 * 2 : Nat) : Int) - 1) = ((a + L / 4 * 2 - 1 : Nat) : Int) := wI (by omega) (by omega)
    have q5 : IntKind.i64.wrap (((a + L / 4 * 2 : Nat) : Int) + 1) = ((a + L / 4 * 2 + 1 : Nat) : Int) := wI (by omega) (by omega)
    simp only [cU, s_setU, hd, e1, e2, q1, q2, q3, q4, ↓vcPre, ↓s_get, ↓reduceIte, vcPost, vcStd, Store.set_set, s_arr, s_setL, s_fold, swp_size, Nat.le_refl, Nat.zero_add, Array.size_setIfInBounds, Nat.reduceEqDiff, reduceCtorEq, Nat.reduceAdd, Nat.reduceLeDiff, Int.reduceLT, Int.reduceLE, ↓u_setN]
    obtain ⟨i0, hi0⟩ : ∃ i0, i0 = a + L / 4 * 2 - 1 := ⟨_, rfl⟩
    rw [← hi0]
    have hb0 := bp_eq d a L h8'
    rw [← hM, ← hi0] at hb0
    refine ⟨by decide, ?_⟩
    refine LoopQ.inv (S := Nat × UInt64 × Array Int) (fun s => [(0, .os id 1 0 n), (1, .int .i64 a), (6, .int .i64 L), (7, .ptr i 0), (8, .int .u64 M), (9, .int .i64 ((i0 + s.1 : Nat) : Int))])
      (fun s => (σ.set id (arrA 1 cU s.2.2)).set i (.box [.int .u64 (s.2.1.toNat : Int)]))
      (fun s => s.1 ≤ 3 ∧ s.2.2.size = n ∧ bpR a L M i0 (3 - s.1) s.1 (s.2.1, s.2.2) = breakPatterns d a (a + L)) (fun s => 3 - s.1) (0, UInt64.ofNat L, d) ?_ ?_ ⟨by simp only; omega, hd, hb0.symm⟩ ?_
    · simp only [Nat.add_zero]
    · simp only [UInt64.toNat_ofNat']
      rw [show L % 2 ^ 64 = L by omega]
      exact Store.sub_refl _
    · rintro ⟨t, r, d1⟩ ⟨h1, h2, h3⟩
      simp only at h1 h2 h3
      simp only [cU, s_setU, h2, q1, q2, q3, q5, ↓vcPre, ↓s_get, ↓reduceIte, vcPost, vcStd, Store.set_set, s_arr, s_setL, s_fold, swp_size, Nat.le_refl, Nat.zero_add, Array.size_setIfInBounds, Nat.reduceEqDiff, reduceCtorEq, Nat.reduceAdd, Nat.reduceLeDiff, Int.reduceLT, Int.reduceLE, ↓u_setN]
      refine ⟨by decide, fun c1 => ?_, fun c1 => ?_⟩
      · have ht : t < 3 := by omega
        refine (s87 r.toNat (UInt64.toNat_lt r) _ i (by simp [Store.set])).Q ?_
        intro r1 s1 hrs
        have hr1 := hrs.1
        have hs1 := hrs.2
        clear hrs
        subst hr1
        subst hs1
        rw [← xorNext_toNat r]
        obtain ⟨o1, ho1⟩ : ∃ o1, o1 = (xorNext r).toNat &&& (M - 1) := ⟨_, rfl⟩
        have lo1 : o1 ≤ M - 1 := by rw [ho1]; exact Nat.and_le_right
        have u1 : IntKind.u64.wrap ((M : Int) - 1) = ((M - 1 : Nat) : Int) := by rw [show ((M : Int) - 1) = ((M - 1 : Nat) : Int) by omega]; exact w_u64 (by omega)
        have u2 : bitInt .and .u64 (((xorNext r).toNat : Nat) : Int) ((M - 1 : Nat) : Int) = (o1 : Int) := by
          rw [ho1, ← bits_and_u64_nat _ _ (UInt64.toNat_lt _) (by omega)]; rfl
        have u3 : IntKind.i64.wrap (o1 : Int) = o1 := w_i64 (by omega)
        simp only [cU, s_setU, h2, q1, q2, q3, q5, u1, u2, u3, Store.set_set, ↓vcPre, ↓s_get, ↓reduceIte, vcPost, vcStd, Store.set_set, s_arr, s_setL, s_fold, swp_size, Nat.le_refl, Nat.zero_add, Array.size_setIfInBounds, Nat.reduceEqDiff, reduceCtorEq, Nat.reduceAdd, Nat.reduceLeDiff, Int.reduceLT, Int.reduceLE, ↓u_setN]
        have hrd : ∀ X Y : Obj, ((σ.set id X).set i Y) id = some X := fun X Y => by rw [Store.set_ne _ _ hi2]; simp [Store.set]
        have hst : ∀ X Y Z : Obj, ((σ.set id X).set i Y).set id Z = (σ.set id Z).set i Y := fun X Y Z => by
          rw [Store.set_comm (σ.set id X) Y Z hi1, Store.set_set]
        have w1 : IntKind.i64.wrap (((i0 + t : Nat) : Int) + 1) = ((i0 + (t + 1) : Nat) : Int) := wI (by omega) (by omega)
        have p1 : i0 + t < n := by omega
        refine ⟨fun c2 => ?_, fun c2 => ?_⟩
        · have v1 : IntKind.i64.wrap ((o1 : Int) - L) = ((o1 - L : Nat) : Int) := wI (by omega) (by omega)
          have v2 : IntKind.i64.wrap ((a : Int) + ((o1 - L : Nat) : Int)) = ((a + (o1 - L) : Nat) : Int) := wI (by omega) (by omega)
          have p2 : a + (o1 - L) < n := by omega
          rw [bpR_step a L M i0 t r d1 (o1 - L) ht (by rw [← ho1, if_pos (by omega)])] at h3
          simp only [cU, s_setU, h2, hrd, hst, v1, v2, w1, ↓vcPre, ↓s_get, ↓reduceIte, vcPost, vcStd, Store.set_set, s_arr, s_setL, s_fold, swp_size, Nat.le_refl, Nat.zero_add, Array.size_setIfInBounds, Nat.reduceEqDiff, reduceCtorEq, Nat.reduceAdd, Nat.reduceLeDiff, Int.reduceLT, Int.reduceLE, ↓u_setN]
          and_intros <;> try omega
          refine NextQ.to (t + 1, xorNext r, swp d1 (i0 + t) (a + (o1 - L))) ?_ ?_ ?_ ?_
          · rfl
          · exact Store.sub_refl _
          · simp only; omega
          · exact ⟨by simp only; omega, by simp only [swp_size]; exact h2, h3⟩
        · have v2 : IntKind.i64.wrap ((a : Int) + (o1 : Int)) = ((a + o1 : Nat) : Int) := wI (by omega) (by omega)
          have p2 : a + o1 < n := by omega
          rw [bpR_step a L M i0 t r d1 o1 ht (by rw [← ho1, if_neg (by omega)])] at h3
          simp only [cU, s_setU, h2, hrd, hst, v2, w1, ↓vcPre, ↓s_get, ↓reduceIte, vcPost, vcStd, Store.set_set, s_arr, s_setL, s_fold, swp_size, Nat.le_refl, Nat.zero_add, Array.size_setIfInBounds, Nat.reduceEqDiff, reduceCtorEq, Nat.reduceAdd, Nat.reduceLeDiff, Int.reduceLT, Int.reduceLE, ↓u_setN]
          and_intros <;> try omega
          refine NextQ.to (t + 1, xorNext r, swp d1 (i0 + t) (a + o1)) ?_ ?_ ?_ ?_
          · rfl
          · exact Store.sub_refl _
          · simp only; omega
          · exact ⟨by simp only; omega, by simp only [swp_size]; exact h2, h3⟩
      · have ht : t = 3 := by omega
        subst ht
        exact EndQ.to (σ.set id (arrA 1 cU d1)) (.tup []) rfl (Store.sub_set _ _ _ (by rw [Store.set_ne _ _ hi1]; exact hi3)) ⟨rfl, by rw [← h3]; rfl⟩
  · have : breakPatterns d a (a + L) = d := by
      unfold breakPatterns
      simp only [Nat.add_sub_cancel_left]
      rw [if_neg (by omega)]
    exact EndQ.to _ _ rfl (Store.sub_refl _) ⟨rfl, by rw [this]⟩
end
end Go.Am

/- O11 -/
namespace Go.Am
open Go.Proofs Go.Sort
section
/-- slices.SortFunc, on what is owned. -/
theorem s61 (hc : LessU) (hO : SWO ltU) (d : Array Int) (hs : d.size < 2305843009213693952) (σ : Store) (id : Nat) :
    ACalls Try.prog 61 [.os id 1 0 d.size] (σ.set id (arrA 1 cU d)) (fun r s => r = .tup [] ∧ s = σ.set id (arrA 1 cU (pdq ltU d 0 d.size (bitsLen d.size) true true))) := by
  refine calls_of Tst.F61 (by simp [Tst.F61, Fn.mkX]) ?_
  simp only [Tst.F61, Fn.mkX, Tst.b61]
  simp only [w_u64 (n := d.size) (by omega), ↓vcPre, ↓s_get, ↓reduceIte, vcPost, vcStd, Store.set_set, s_arr, s_setL, s_fold, swp_size, Nat.le_refl, Nat.zero_add, Array.size_setIfInBounds, Nat.reduceEqDiff, reduceCtorEq, Nat.reduceAdd, Nat.reduceLeDiff, Int.reduceLT, Int.reduceLE, ↓u_setN]
  refine (c52 d.size (by omega)).Q ?_
  simp only [hs, ↓vcPre, ↓s_get, ↓reduceIte, vcPost, vcStd, Store.set_set, s_arr, s_setL, s_fold, swp_size, Nat.le_refl, Nat.zero_add, Array.size_setIfInBounds, Nat.reduceEqDiff, reduceCtorEq, Nat.reduceAdd, Nat.reduceLeDiff, Int.reduceLT, Int.reduceLE, ↓u_setN]
  have hl : bitsLen d.size ≤ 61 := (bitsLen_le_iff d.size 61).2 (by omega)
  have h := s83 hc hO σ id d.size hs (fun d' a b h1 h2 h3 => s92 hc σ id d.size hs d' a b h1 h2 h3) (d.size + 1) d 0 d.size (bitsLen d.size) rfl (by omega) (by omega) (by omega) (by omega)
  refine h.Q ?_
  intro r s hrs
  have hr1 := hrs.1
  have hs1 := hrs.2
  clear hrs h
  subst hr1
  subst hs1
  simp only [hs, ↓vcPre, ↓s_get, ↓reduceIte, vcPost, vcStd, Store.set_set, s_arr, s_setL, s_fold, swp_size, Nat.le_refl, Nat.zero_add, Array.size_setIfInBounds, Nat.reduceEqDiff, reduceCtorEq, Nat.reduceAdd, Nat.reduceLeDiff, Int.reduceLT, Int.reduceLE, ↓u_setN]
  exact EndQ.to _ _ rfl (Store.sub_refl _) ⟨rfl, rfl⟩
end
end Go.Am
