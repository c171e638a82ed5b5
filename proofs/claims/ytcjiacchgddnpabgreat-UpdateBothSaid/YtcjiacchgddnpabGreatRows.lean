/-
  No cell of these rows narrows 'for every input' (looked for: loops, veiled, ifaces, maps, wideKeys, modest, calm, conditions, laid).
  DERIVED. THE GIVEN ROWS OF THIS SEAT. 3 by the template 'for every input the law returns true; each argument reads behind the call as it read before'; 0 by the template 'total and deterministic' (their statements: YtcjiacchgddnpabGreatTotals.lean).
  GIVEN WITH THE SEED: the statements are not yours to turn. If you find one false, say at which input.
  Laid BY PROGRAM, IN A SANDBOX (cutbox-rows.mjs): the forced cells as the released guide's own fill.sh prints them over the translation 296aff03f9856212… (all of the seat's roots in one cut). By AI agents, Wed Nov 11 2026. No macro, syntax, notation, axiom, sorry.
-/
import Derived.Test.YtcjiacchgddnpabGreatChecked
import GoSem.Claim
import GoSem.ClaimJoined
import GoSem.ClaimMapViews
import Derived.JoinedTies
import Derived.KernelRfl
namespace Go.Proofs.YtcjiacchgddnpabGreat
/- THE CELL 'sum', in the pinned program and in every row, IS THE sha256 OF THE DUMP (.gsa) THAT YtcjiacchgddnpabGreatProg.lean LOADS. Nothing in Lean hashes anything: it is a label: what it is worth is what the hold of that sum in a sandbox is worth. -/
noncomputable def Tryz.pinned : Pinned := { name := "ytcjiacchgddnpabgreat", sum := "296aff03f98562126ac56468552ef675e387fd598132ce50ae22e0bde49ac809", checked := Tryz.checked }
namespace Rows
def none {H : Type} : Left H := { results := [], args := [] }

/-- 'signpostlaw9.UpdateBack': WHATEVER THE INPUT: true; the input reads as it did. -/
def updateBackSpec : ChangeSpec := { name := "updateBack", fn := fun _ => fun
  | [d] => { results := [.lit (.bool true)], args := [d] }
  | _ => none }
def updateBackRow : OpenClaim := { program := "ytcjiacchgddnpabgreat", sum := "296aff03f98562126ac56468552ef675e387fd598132ce50ae22e0bde49ac809", func := "signpost/signpostlaw9.UpdateBack", spec := "updateBack", unfollowed := true, recurses := true, apart := false }
def UpdateBackSaid : Prop := updateBackRow.holds Tryz.pinned (OpenSpec.ofChange updateBackSpec)

/-- ITS FALSE NEIGHBOUR: 'it returns false'. Refute it at one input. -/
def updateBackWrong : ChangeSpec := { name := "updateBack", fn := fun _ => fun
  | [d] => { results := [.lit (.bool false)], args := [d] }
  | _ => none }
def UpdateBackWrongFalsely : Prop := updateBackRow.holds Tryz.pinned (OpenSpec.ofChange updateBackWrong)

/-- 'signpostlaw9.UpdateLengths': WHATEVER THE INPUT: true; the input reads as it did. -/
def updateLengthsSpec : ChangeSpec := { name := "updateLengths", fn := fun _ => fun
  | [d1, d2, d3] => { results := [.lit (.bool true)], args := [d1, d2, d3] }
  | _ => none }
def updateLengthsRow : OpenClaim := { program := "ytcjiacchgddnpabgreat", sum := "296aff03f98562126ac56468552ef675e387fd598132ce50ae22e0bde49ac809", func := "signpost/signpostlaw9.UpdateLengths", spec := "updateLengths", unfollowed := true, recurses := true, apart := false }
def UpdateLengthsSaid : Prop := updateLengthsRow.holds Tryz.pinned (OpenSpec.ofChange updateLengthsSpec)

/-- ITS FALSE NEIGHBOUR: 'it returns false'. Refute it at one input. -/
def updateLengthsWrong : ChangeSpec := { name := "updateLengths", fn := fun _ => fun
  | [d1, d2, d3] => { results := [.lit (.bool false)], args := [d1, d2, d3] }
  | _ => none }
def UpdateLengthsWrongFalsely : Prop := updateLengthsRow.holds Tryz.pinned (OpenSpec.ofChange updateLengthsWrong)

/-- 'signpostlaw9.UpdateBoth': WHATEVER THE INPUT: true; the input reads as it did. -/
def updateBothSpec : ChangeSpec := { name := "updateBoth", fn := fun _ => fun
  | [d1, d2] => { results := [.lit (.bool true)], args := [d1, d2] }
  | _ => none }
def updateBothRow : OpenClaim := { program := "ytcjiacchgddnpabgreat", sum := "296aff03f98562126ac56468552ef675e387fd598132ce50ae22e0bde49ac809", func := "signpost/signpostlaw9.UpdateBoth", spec := "updateBoth", unfollowed := true, recurses := true, apart := false }
def UpdateBothSaid : Prop := updateBothRow.holds Tryz.pinned (OpenSpec.ofChange updateBothSpec)

/-- ITS FALSE NEIGHBOUR: 'it returns false'. Refute it at one input. -/
def updateBothWrong : ChangeSpec := { name := "updateBoth", fn := fun _ => fun
  | [d1, d2] => { results := [.lit (.bool false)], args := [d1, d2] }
  | _ => none }
def UpdateBothWrongFalsely : Prop := updateBothRow.holds Tryz.pinned (OpenSpec.ofChange updateBothWrong)

/- THE SECOND FORM. 'bulk': how many values and letters a reading holds, each counted each time it is reached (what is shared counts as often as it is met; a slice's spare places count too). A statement '..UptoSaid' is the law's where the arguments, and the package variables that the reading takes, are together of bulk at most 1048576: NARROWER than '..Said'. Prove '..Said' where nothing that the law and all that it calls make is longer than what came in: it says more and counts as full. Else prove '..UptoSaid'. A law counts once. -/
mutual
def uptoBulk {H : Type} : DataW H → Nat
  | .lit (.string bytes) => bytes.length + 1
  | .lit _ => 1
  | .nil => 1
  | .ptr d => uptoBulk d + 1
  | .slice elems spare => uptoBulkAll elems + uptoBulkAll spare + 1
  | .agg parts => uptoBulkAll parts + 1
  | .iface _ d => uptoBulk d + 1
  | .map entries => uptoBulkEntries entries + 1
  | .held _ => 1
def uptoBulkAll {H : Type} : List (DataW H) → Nat
  | [] => 0
  | d :: r => uptoBulk d + uptoBulkAll r
def uptoBulkEntries {H : Type} : List (Lit × DataW H) → Nat
  | [] => 0
  | x :: r => uptoBulkEntry x + uptoBulkEntries r
def uptoBulkEntry {H : Type} : Lit × DataW H → Nat
  | (.string bytes, d) => bytes.length + uptoBulk d + 1
  | (_, d) => uptoBulk d + 1
 end
def uptoSmall : (H : Type) → List (DataW H) → Bool := fun _ ds => decide (uptoBulkAll ds ≤ 1048576)
def OpenSpec.upto (s : _root_.Go.ChangeSpec) : _root_.Go.OpenSpec := { _root_.Go.OpenSpec.ofChange s with cond := some uptoSmall }

/-- 'signpostlaw9.UpdateBack', WHERE WHAT IT READS IS OF BULK AT MOST 1048576: true; the input reads as it did. -/
def updateBackUptoRow : OpenClaim := { program := "ytcjiacchgddnpabgreat", sum := "296aff03f98562126ac56468552ef675e387fd598132ce50ae22e0bde49ac809", func := "signpost/signpostlaw9.UpdateBack", spec := "updateBack", unfollowed := true, recurses := true, apart := false, narrowed := true }
def UpdateBackUptoSaid : Prop := updateBackUptoRow.holds Tryz.pinned (OpenSpec.upto updateBackSpec)

/-- 'signpostlaw9.UpdateLengths', WHERE WHAT IT READS IS OF BULK AT MOST 1048576: true; the input reads as it did. -/
def updateLengthsUptoRow : OpenClaim := { program := "ytcjiacchgddnpabgreat", sum := "296aff03f98562126ac56468552ef675e387fd598132ce50ae22e0bde49ac809", func := "signpost/signpostlaw9.UpdateLengths", spec := "updateLengths", unfollowed := true, recurses := true, apart := false, narrowed := true }
def UpdateLengthsUptoSaid : Prop := updateLengthsUptoRow.holds Tryz.pinned (OpenSpec.upto updateLengthsSpec)

/-- 'signpostlaw9.UpdateBoth', WHERE WHAT IT READS IS OF BULK AT MOST 1048576: true; the input reads as it did. -/
def updateBothUptoRow : OpenClaim := { program := "ytcjiacchgddnpabgreat", sum := "296aff03f98562126ac56468552ef675e387fd598132ce50ae22e0bde49ac809", func := "signpost/signpostlaw9.UpdateBoth", spec := "updateBoth", unfollowed := true, recurses := true, apart := false, narrowed := true }
def UpdateBothUptoSaid : Prop := updateBothUptoRow.holds Tryz.pinned (OpenSpec.upto updateBothSpec)

end Rows
end Go.Proofs.YtcjiacchgddnpabGreat
