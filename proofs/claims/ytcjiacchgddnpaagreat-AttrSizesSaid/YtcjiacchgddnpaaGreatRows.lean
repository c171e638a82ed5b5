/-
  No cell of these rows narrows 'for every input' (looked for: loops, veiled, ifaces, maps, wideKeys, modest, calm, conditions, laid).
  DERIVED. THE GIVEN ROWS OF THIS SEAT. 8 by the template 'for every input the law returns true; each argument reads behind the call as it read before'; 0 by the template 'total and deterministic' (their statements: YtcjiacchgddnpaaGreatTotals.lean).
  GIVEN WITH THE SEED: the statements are not yours to turn. If you find one false, say at which input.
  Laid BY PROGRAM, IN A SANDBOX (cutbox-rows.mjs): the forced cells as the released guide's own fill.sh prints them over the translation 7b87a938feb84f9c… (all of the seat's roots in one cut). By AI agents, Wed Nov 11 2026. No macro, syntax, notation, axiom, sorry.
-/
import Derived.Test.YtcjiacchgddnpaaGreatChecked
import GoSem.Claim
import GoSem.ClaimJoined
import GoSem.ClaimMapViews
import Derived.JoinedTies
import Derived.KernelRfl
namespace Go.Proofs.YtcjiacchgddnpaaGreat
/- THE CELL 'sum', in the pinned program and in every row, IS THE sha256 OF THE DUMP (.gsa) THAT YtcjiacchgddnpaaGreatProg.lean LOADS. Nothing in Lean hashes anything: it is a label: what it is worth is what the hold of that sum in a sandbox is worth. -/
noncomputable def Tryz.pinned : Pinned := { name := "ytcjiacchgddnpaagreat", sum := "7b87a938feb84f9cafe2de8c9393a144bee1889c72000c06ee86b748034d2988", checked := Tryz.checked }
namespace Rows
def none {H : Type} : Left H := { results := [], args := [] }

/-- 'signpostlaw7.AttrReads': WHATEVER THE INPUT: true; the input reads as it did. -/
def attrReadsSpec : ChangeSpec := { name := "attrReads", fn := fun _ => fun
  | [d1, d2, d3, d4, d5] => { results := [.lit (.bool true)], args := [d1, d2, d3, d4, d5] }
  | _ => none }
def attrReadsRow : OpenClaim := { program := "ytcjiacchgddnpaagreat", sum := "7b87a938feb84f9cafe2de8c9393a144bee1889c72000c06ee86b748034d2988", func := "signpost/signpostlaw7.AttrReads", spec := "attrReads", unfollowed := true, recurses := true, apart := false }
def AttrReadsSaid : Prop := attrReadsRow.holds Tryz.pinned (OpenSpec.ofChange attrReadsSpec)

/-- ITS FALSE NEIGHBOUR: 'it returns false'. Refute it at one input. -/
def attrReadsWrong : ChangeSpec := { name := "attrReads", fn := fun _ => fun
  | [d1, d2, d3, d4, d5] => { results := [.lit (.bool false)], args := [d1, d2, d3, d4, d5] }
  | _ => none }
def AttrReadsWrongFalsely : Prop := attrReadsRow.holds Tryz.pinned (OpenSpec.ofChange attrReadsWrong)

/-- 'signpostlaw9.UpdateReads': WHATEVER THE INPUT: true; the input reads as it did. -/
def updateReadsSpec : ChangeSpec := { name := "updateReads", fn := fun _ => fun
  | [d1, d2, d3, d4, d5] => { results := [.lit (.bool true)], args := [d1, d2, d3, d4, d5] }
  | _ => none }
def updateReadsRow : OpenClaim := { program := "ytcjiacchgddnpaagreat", sum := "7b87a938feb84f9cafe2de8c9393a144bee1889c72000c06ee86b748034d2988", func := "signpost/signpostlaw9.UpdateReads", spec := "updateReads", unfollowed := true, recurses := true, apart := false }
def UpdateReadsSaid : Prop := updateReadsRow.holds Tryz.pinned (OpenSpec.ofChange updateReadsSpec)

/-- ITS FALSE NEIGHBOUR: 'it returns false'. Refute it at one input. -/
def updateReadsWrong : ChangeSpec := { name := "updateReads", fn := fun _ => fun
  | [d1, d2, d3, d4, d5] => { results := [.lit (.bool false)], args := [d1, d2, d3, d4, d5] }
  | _ => none }
def UpdateReadsWrongFalsely : Prop := updateReadsRow.holds Tryz.pinned (OpenSpec.ofChange updateReadsWrong)

/-- 'signpostlaw9.UpdateGone': WHATEVER THE INPUT: true; the input reads as it did. -/
def updateGoneSpec : ChangeSpec := { name := "updateGone", fn := fun _ => fun
  | [d1, d2] => { results := [.lit (.bool true)], args := [d1, d2] }
  | _ => none }
def updateGoneRow : OpenClaim := { program := "ytcjiacchgddnpaagreat", sum := "7b87a938feb84f9cafe2de8c9393a144bee1889c72000c06ee86b748034d2988", func := "signpost/signpostlaw9.UpdateGone", spec := "updateGone", unfollowed := true, recurses := true, apart := false }
def UpdateGoneSaid : Prop := updateGoneRow.holds Tryz.pinned (OpenSpec.ofChange updateGoneSpec)

/-- ITS FALSE NEIGHBOUR: 'it returns false'. Refute it at one input. -/
def updateGoneWrong : ChangeSpec := { name := "updateGone", fn := fun _ => fun
  | [d1, d2] => { results := [.lit (.bool false)], args := [d1, d2] }
  | _ => none }
def UpdateGoneWrongFalsely : Prop := updateGoneRow.holds Tryz.pinned (OpenSpec.ofChange updateGoneWrong)

/-- 'signpostlaw7.AttrBack': WHATEVER THE INPUT: true; the input reads as it did. -/
def attrBackSpec : ChangeSpec := { name := "attrBack", fn := fun _ => fun
  | [d1, d2] => { results := [.lit (.bool true)], args := [d1, d2] }
  | _ => none }
def attrBackRow : OpenClaim := { program := "ytcjiacchgddnpaagreat", sum := "7b87a938feb84f9cafe2de8c9393a144bee1889c72000c06ee86b748034d2988", func := "signpost/signpostlaw7.AttrBack", spec := "attrBack", unfollowed := true, recurses := true, apart := false }
def AttrBackSaid : Prop := attrBackRow.holds Tryz.pinned (OpenSpec.ofChange attrBackSpec)

/-- ITS FALSE NEIGHBOUR: 'it returns false'. Refute it at one input. -/
def attrBackWrong : ChangeSpec := { name := "attrBack", fn := fun _ => fun
  | [d1, d2] => { results := [.lit (.bool false)], args := [d1, d2] }
  | _ => none }
def AttrBackWrongFalsely : Prop := attrBackRow.holds Tryz.pinned (OpenSpec.ofChange attrBackWrong)

/-- 'signpostlaw7.AttrSizes': WHATEVER THE INPUT: true; the input reads as it did. -/
def attrSizesSpec : ChangeSpec := { name := "attrSizes", fn := fun _ => fun
  | [d1, d2] => { results := [.lit (.bool true)], args := [d1, d2] }
  | _ => none }
def attrSizesRow : OpenClaim := { program := "ytcjiacchgddnpaagreat", sum := "7b87a938feb84f9cafe2de8c9393a144bee1889c72000c06ee86b748034d2988", func := "signpost/signpostlaw7.AttrSizes", spec := "attrSizes", unfollowed := true, recurses := true, apart := false }
def AttrSizesSaid : Prop := attrSizesRow.holds Tryz.pinned (OpenSpec.ofChange attrSizesSpec)

/-- ITS FALSE NEIGHBOUR: 'it returns false'. Refute it at one input. -/
def attrSizesWrong : ChangeSpec := { name := "attrSizes", fn := fun _ => fun
  | [d1, d2] => { results := [.lit (.bool false)], args := [d1, d2] }
  | _ => none }
def AttrSizesWrongFalsely : Prop := attrSizesRow.holds Tryz.pinned (OpenSpec.ofChange attrSizesWrong)

/-- 'signpostlaw7.AttrNumbers': WHATEVER THE INPUT: true; the input reads as it did. -/
def attrNumbersSpec : ChangeSpec := { name := "attrNumbers", fn := fun _ => fun
  | [] => { results := [.lit (.bool true)], args := [] }
  | _ => none }
def attrNumbersRow : OpenClaim := { program := "ytcjiacchgddnpaagreat", sum := "7b87a938feb84f9cafe2de8c9393a144bee1889c72000c06ee86b748034d2988", func := "signpost/signpostlaw7.AttrNumbers", spec := "attrNumbers", unfollowed := true, recurses := true, apart := false }
def AttrNumbersSaid : Prop := attrNumbersRow.holds Tryz.pinned (OpenSpec.ofChange attrNumbersSpec)

/-- ITS FALSE NEIGHBOUR: 'it returns false'. Refute it at one input. -/
def attrNumbersWrong : ChangeSpec := { name := "attrNumbers", fn := fun _ => fun
  | [] => { results := [.lit (.bool false)], args := [] }
  | _ => none }
def AttrNumbersWrongFalsely : Prop := attrNumbersRow.holds Tryz.pinned (OpenSpec.ofChange attrNumbersWrong)

/-- 'signpostlaw7.AttrTells': WHATEVER THE INPUT: true; the input reads as it did. -/
def attrTellsSpec : ChangeSpec := { name := "attrTells", fn := fun _ => fun
  | [d1, d2] => { results := [.lit (.bool true)], args := [d1, d2] }
  | _ => none }
def attrTellsRow : OpenClaim := { program := "ytcjiacchgddnpaagreat", sum := "7b87a938feb84f9cafe2de8c9393a144bee1889c72000c06ee86b748034d2988", func := "signpost/signpostlaw7.AttrTells", spec := "attrTells", unfollowed := true, recurses := true, apart := false }
def AttrTellsSaid : Prop := attrTellsRow.holds Tryz.pinned (OpenSpec.ofChange attrTellsSpec)

/-- ITS FALSE NEIGHBOUR: 'it returns false'. Refute it at one input. -/
def attrTellsWrong : ChangeSpec := { name := "attrTells", fn := fun _ => fun
  | [d1, d2] => { results := [.lit (.bool false)], args := [d1, d2] }
  | _ => none }
def AttrTellsWrongFalsely : Prop := attrTellsRow.holds Tryz.pinned (OpenSpec.ofChange attrTellsWrong)

/-- 'signpostlaw9.UpdateNumbers': WHATEVER THE INPUT: true; the input reads as it did. -/
def updateNumbersSpec : ChangeSpec := { name := "updateNumbers", fn := fun _ => fun
  | [] => { results := [.lit (.bool true)], args := [] }
  | _ => none }
def updateNumbersRow : OpenClaim := { program := "ytcjiacchgddnpaagreat", sum := "7b87a938feb84f9cafe2de8c9393a144bee1889c72000c06ee86b748034d2988", func := "signpost/signpostlaw9.UpdateNumbers", spec := "updateNumbers", unfollowed := true, recurses := true, apart := false }
def UpdateNumbersSaid : Prop := updateNumbersRow.holds Tryz.pinned (OpenSpec.ofChange updateNumbersSpec)

/-- ITS FALSE NEIGHBOUR: 'it returns false'. Refute it at one input. -/
def updateNumbersWrong : ChangeSpec := { name := "updateNumbers", fn := fun _ => fun
  | [] => { results := [.lit (.bool false)], args := [] }
  | _ => none }
def UpdateNumbersWrongFalsely : Prop := updateNumbersRow.holds Tryz.pinned (OpenSpec.ofChange updateNumbersWrong)

/- THE SECOND FORM. 'bulk': how many values and letters a reading holds, each counted each time it is reached (what is shared counts as often as it is met; a slice's spare places count too). A statement '..UptoSaid' is the law's where the arguments, and the package variables that the reading takes, are together of bulk at most 1048576: NARROWER than '..Said'. Prove '..Said' where nothing that the law and all that it calls make is longer than what came in: it says more and counts as full. Else prove '..UptoSaid'. A law counts once. -/
mutual
def uptoBulk {H : Type} : DataW H → Nat
  | .lit (.string bytes) => bytes.length + 1
  | .lit _ => 1
  | .nil => 1
  | .ptr d => uptoBulk d + 1
  | .slice elems spare => uptoBulkAll elems + uptoBulkAll spare + 1
  | .agg parts => uptoBulkAll parts + 1
  | .iface _ d => uptoBulk d + 1
  | .map entries => uptoBulkEntries entries + 1
  | .held _ => 1
def uptoBulkAll {H : Type} : List (DataW H) → Nat
  | [] => 0
  | d :: r => uptoBulk d + uptoBulkAll r
def uptoBulkEntries {H : Type} : List (Lit × DataW H) → Nat
  | [] => 0
  | x :: r => uptoBulkEntry x + uptoBulkEntries r
def uptoBulkEntry {H : Type} : Lit × DataW H → Nat
  | (.string bytes, d) => bytes.length + uptoBulk d + 1
  | (_, d) => uptoBulk d + 1
 end
def uptoSmall : (H : Type) → List (DataW H) → Bool := fun _ ds => decide (uptoBulkAll ds ≤ 1048576)
def OpenSpec.upto (s : _root_.Go.ChangeSpec) : _root_.Go.OpenSpec := { _root_.Go.OpenSpec.ofChange s with cond := some uptoSmall }

/-- 'signpostlaw7.AttrReads', WHERE WHAT IT READS IS OF BULK AT MOST 1048576: true; the input reads as it did. -/
def attrReadsUptoRow : OpenClaim := { program := "ytcjiacchgddnpaagreat", sum := "7b87a938feb84f9cafe2de8c9393a144bee1889c72000c06ee86b748034d2988", func := "signpost/signpostlaw7.AttrReads", spec := "attrReads", unfollowed := true, recurses := true, apart := false, narrowed := true }
def AttrReadsUptoSaid : Prop := attrReadsUptoRow.holds Tryz.pinned (OpenSpec.upto attrReadsSpec)

/-- 'signpostlaw9.UpdateReads', WHERE WHAT IT READS IS OF BULK AT MOST 1048576: true; the input reads as it did. -/
def updateReadsUptoRow : OpenClaim := { program := "ytcjiacchgddnpaagreat", sum := "7b87a938feb84f9cafe2de8c9393a144bee1889c72000c06ee86b748034d2988", func := "signpost/signpostlaw9.UpdateReads", spec := "updateReads", unfollowed := true, recurses := true, apart := false, narrowed := true }
def UpdateReadsUptoSaid : Prop := updateReadsUptoRow.holds Tryz.pinned (OpenSpec.upto updateReadsSpec)

/-- 'signpostlaw9.UpdateGone', WHERE WHAT IT READS IS OF BULK AT MOST 1048576: true; the input reads as it did. -/
def updateGoneUptoRow : OpenClaim := { program := "ytcjiacchgddnpaagreat", sum := "7b87a938feb84f9cafe2de8c9393a144bee1889c72000c06ee86b748034d2988", func := "signpost/signpostlaw9.UpdateGone", spec := "updateGone", unfollowed := true, recurses := true, apart := false, narrowed := true }
def UpdateGoneUptoSaid : Prop := updateGoneUptoRow.holds Tryz.pinned (OpenSpec.upto updateGoneSpec)

/-- 'signpostlaw7.AttrBack', WHERE WHAT IT READS IS OF BULK AT MOST 1048576: true; the input reads as it did. -/
def attrBackUptoRow : OpenClaim := { program := "ytcjiacchgddnpaagreat", sum := "7b87a938feb84f9cafe2de8c9393a144bee1889c72000c06ee86b748034d2988", func := "signpost/signpostlaw7.AttrBack", spec := "attrBack", unfollowed := true, recurses := true, apart := false, narrowed := true }
def AttrBackUptoSaid : Prop := attrBackUptoRow.holds Tryz.pinned (OpenSpec.upto attrBackSpec)

/-- 'signpostlaw7.AttrSizes', WHERE WHAT IT READS IS OF BULK AT MOST 1048576: true; the input reads as it did. -/
def attrSizesUptoRow : OpenClaim := { program := "ytcjiacchgddnpaagreat", sum := "7b87a938feb84f9cafe2de8c9393a144bee1889c72000c06ee86b748034d2988", func := "signpost/signpostlaw7.AttrSizes", spec := "attrSizes", unfollowed := true, recurses := true, apart := false, narrowed := true }
def AttrSizesUptoSaid : Prop := attrSizesUptoRow.holds Tryz.pinned (OpenSpec.upto attrSizesSpec)

/-- 'signpostlaw7.AttrNumbers', WHERE WHAT IT READS IS OF BULK AT MOST 1048576: true; the input reads as it did. -/
def attrNumbersUptoRow : OpenClaim := { program := "ytcjiacchgddnpaagreat", sum := "7b87a938feb84f9cafe2de8c9393a144bee1889c72000c06ee86b748034d2988", func := "signpost/signpostlaw7.AttrNumbers", spec := "attrNumbers", unfollowed := true, recurses := true, apart := false, narrowed := true }
def AttrNumbersUptoSaid : Prop := attrNumbersUptoRow.holds Tryz.pinned (OpenSpec.upto attrNumbersSpec)

/-- 'signpostlaw7.AttrTells', WHERE WHAT IT READS IS OF BULK AT MOST 1048576: true; the input reads as it did. -/
def attrTellsUptoRow : OpenClaim := { program := "ytcjiacchgddnpaagreat", sum := "7b87a938feb84f9cafe2de8c9393a144bee1889c72000c06ee86b748034d2988", func := "signpost/signpostlaw7.AttrTells", spec := "attrTells", unfollowed := true, recurses := true, apart := false, narrowed := true }
def AttrTellsUptoSaid : Prop := attrTellsUptoRow.holds Tryz.pinned (OpenSpec.upto attrTellsSpec)

/-- 'signpostlaw9.UpdateNumbers', WHERE WHAT IT READS IS OF BULK AT MOST 1048576: true; the input reads as it did. -/
def updateNumbersUptoRow : OpenClaim := { program := "ytcjiacchgddnpaagreat", sum := "7b87a938feb84f9cafe2de8c9393a144bee1889c72000c06ee86b748034d2988", func := "signpost/signpostlaw9.UpdateNumbers", spec := "updateNumbers", unfollowed := true, recurses := true, apart := false, narrowed := true }
def UpdateNumbersUptoSaid : Prop := updateNumbersUptoRow.holds Tryz.pinned (OpenSpec.upto updateNumbersSpec)

end Rows
end Go.Proofs.YtcjiacchgddnpaaGreat
