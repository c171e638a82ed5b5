/-
  No cell of these rows narrows 'for every input' (looked for: loops, veiled, ifaces, maps, wideKeys, modest, calm, conditions, laid).
  DERIVED. THE GIVEN ROWS OF THIS SEAT. 4 by the template 'for every input the law returns true; each argument reads behind the call as it read before'; 0 by the template 'total and deterministic' (their statements: YtcjiacchgddnpaaTotals.lean).
  GIVEN WITH THE SEED: the statements are not yours to turn. If you find one false, say at which input.
  Laid BY PROGRAM, IN A SANDBOX (cutbox-rows.mjs): the forced cells as the released guide's own fill.sh prints them over the translation a2aee1dd833bcbfa… (all of the seat's roots in one cut). By AI agents, Wed Nov 11 2026. No macro, syntax, notation, axiom, sorry.
-/
import Derived.Test.YtcjiacchgddnpaaChecked
import GoSem.Claim
import GoSem.ClaimJoined
import GoSem.ClaimMapViews
import Derived.JoinedTies
import Derived.KernelRfl
namespace Go.Proofs.Ytcjiacchgddnpaa
/- THE CELL 'sum', in the pinned program and in every row, IS THE sha256 OF THE DUMP (.gsa) THAT YtcjiacchgddnpaaProg.lean LOADS. Nothing in Lean hashes anything: it is a label: what it is worth is what the hold of that sum in a sandbox is worth. -/
noncomputable def Try.pinned : Pinned := { name := "ytcjiacchgddnpaa", sum := "a2aee1dd833bcbfa644e2534537b28bc857f9709c555362d307407f220431770", checked := Try.checked }
namespace Rows
def none {H : Type} : Left H := { results := [], args := [] }

/-- 'signpostlaw7.AttrPlaces': WHATEVER THE INPUT: true; the input reads as it did. -/
def attrPlacesSpec : ChangeSpec := { name := "attrPlaces", fn := fun _ => fun
  | [d1, d2, d3, d4] => { results := [.lit (.bool true)], args := [d1, d2, d3, d4] }
  | _ => none }
def attrPlacesRow : OpenClaim := { program := "ytcjiacchgddnpaa", sum := "a2aee1dd833bcbfa644e2534537b28bc857f9709c555362d307407f220431770", func := "signpost/signpostlaw7.AttrPlaces", spec := "attrPlaces", unfollowed := true, recurses := true, apart := false }
def AttrPlacesSaid : Prop := attrPlacesRow.holds Try.pinned (OpenSpec.ofChange attrPlacesSpec)

/-- ITS FALSE NEIGHBOUR: 'it returns false'. Refute it at one input. -/
def attrPlacesWrong : ChangeSpec := { name := "attrPlaces", fn := fun _ => fun
  | [d1, d2, d3, d4] => { results := [.lit (.bool false)], args := [d1, d2, d3, d4] }
  | _ => none }
def AttrPlacesWrongFalsely : Prop := attrPlacesRow.holds Try.pinned (OpenSpec.ofChange attrPlacesWrong)

/-- 'signpostlaw7.AttrTwice': WHATEVER THE INPUT: true; the input reads as it did. -/
def attrTwiceSpec : ChangeSpec := { name := "attrTwice", fn := fun _ => fun
  | [d1, d2, d3] => { results := [.lit (.bool true)], args := [d1, d2, d3] }
  | _ => none }
def attrTwiceRow : OpenClaim := { program := "ytcjiacchgddnpaa", sum := "a2aee1dd833bcbfa644e2534537b28bc857f9709c555362d307407f220431770", func := "signpost/signpostlaw7.AttrTwice", spec := "attrTwice", unfollowed := true, recurses := true, apart := false }
def AttrTwiceSaid : Prop := attrTwiceRow.holds Try.pinned (OpenSpec.ofChange attrTwiceSpec)

/-- ITS FALSE NEIGHBOUR: 'it returns false'. Refute it at one input. -/
def attrTwiceWrong : ChangeSpec := { name := "attrTwice", fn := fun _ => fun
  | [d1, d2, d3] => { results := [.lit (.bool false)], args := [d1, d2, d3] }
  | _ => none }
def AttrTwiceWrongFalsely : Prop := attrTwiceRow.holds Try.pinned (OpenSpec.ofChange attrTwiceWrong)

/-- 'signpostlaw7.AttrOuter': WHATEVER THE INPUT: true; the input reads as it did. -/
def attrOuterSpec : ChangeSpec := { name := "attrOuter", fn := fun _ => fun
  | [d1, d2, d3] => { results := [.lit (.bool true)], args := [d1, d2, d3] }
  | _ => none }
def attrOuterRow : OpenClaim := { program := "ytcjiacchgddnpaa", sum := "a2aee1dd833bcbfa644e2534537b28bc857f9709c555362d307407f220431770", func := "signpost/signpostlaw7.AttrOuter", spec := "attrOuter", unfollowed := true, recurses := true, apart := false }
def AttrOuterSaid : Prop := attrOuterRow.holds Try.pinned (OpenSpec.ofChange attrOuterSpec)

/-- ITS FALSE NEIGHBOUR: 'it returns false'. Refute it at one input. -/
def attrOuterWrong : ChangeSpec := { name := "attrOuter", fn := fun _ => fun
  | [d1, d2, d3] => { results := [.lit (.bool false)], args := [d1, d2, d3] }
  | _ => none }
def AttrOuterWrongFalsely : Prop := attrOuterRow.holds Try.pinned (OpenSpec.ofChange attrOuterWrong)

/-- 'signpostlaw7.AttrOrder': WHATEVER THE INPUT: true; the input reads as it did. -/
def attrOrderSpec : ChangeSpec := { name := "attrOrder", fn := fun _ => fun
  | [d1, d2, d3, d4] => { results := [.lit (.bool true)], args := [d1, d2, d3, d4] }
  | _ => none }
def attrOrderRow : OpenClaim := { program := "ytcjiacchgddnpaa", sum := "a2aee1dd833bcbfa644e2534537b28bc857f9709c555362d307407f220431770", func := "signpost/signpostlaw7.AttrOrder", spec := "attrOrder", unfollowed := true, recurses := true, apart := false }
def AttrOrderSaid : Prop := attrOrderRow.holds Try.pinned (OpenSpec.ofChange attrOrderSpec)

/-- ITS FALSE NEIGHBOUR: 'it returns false'. Refute it at one input. -/
def attrOrderWrong : ChangeSpec := { name := "attrOrder", fn := fun _ => fun
  | [d1, d2, d3, d4] => { results := [.lit (.bool false)], args := [d1, d2, d3, d4] }
  | _ => none }
def AttrOrderWrongFalsely : Prop := attrOrderRow.holds Try.pinned (OpenSpec.ofChange attrOrderWrong)

/- THE SECOND FORM. 'bulk': how many values and letters a reading holds, each counted each time it is reached (what is shared counts as often as it is met; a slice's spare places count too). A statement '..UptoSaid' is the law's where the arguments, and the package variables that the reading takes, are together of bulk at most 1048576: NARROWER than '..Said'. Prove '..Said' where nothing that the law and all that it calls make is longer than what came in: it says more and counts as full. Else prove '..UptoSaid'. A law counts once. -/
mutual
def uptoBulk {H : Type} : DataW H → Nat
  | .lit (.string bytes) => bytes.length + 1
  | .lit _ => 1
  | .nil => 1
  | .ptr d => uptoBulk d + 1
  | .slice elems spare => uptoBulkAll elems + uptoBulkAll spare + 1
  | .agg parts => uptoBulkAll parts + 1
  | .iface _ d => uptoBulk d + 1
  | .map entries => uptoBulkEntries entries + 1
  | .held _ => 1
def uptoBulkAll {H : Type} : List (DataW H) → Nat
  | [] => 0
  | d :: r => uptoBulk d + uptoBulkAll r
def uptoBulkEntries {H : Type} : List (Lit × DataW H) → Nat
  | [] => 0
  | x :: r => uptoBulkEntry x + uptoBulkEntries r
def uptoBulkEntry {H : Type} : Lit × DataW H → Nat
  | (.string bytes, d) => bytes.length + uptoBulk d + 1
  | (_, d) => uptoBulk d + 1
 end
def uptoSmall : (H : Type) → List (DataW H) → Bool := fun _ ds => decide (uptoBulkAll ds ≤ 1048576)
def OpenSpec.upto (s : _root_.Go.ChangeSpec) : _root_.Go.OpenSpec := { _root_.Go.OpenSpec.ofChange s with cond := some uptoSmall }

/-- 'signpostlaw7.AttrPlaces', WHERE WHAT IT READS IS OF BULK AT MOST 1048576: true; the input reads as it did. -/
def attrPlacesUptoRow : OpenClaim := { program := "ytcjiacchgddnpaa", sum := "a2aee1dd833bcbfa644e2534537b28bc857f9709c555362d307407f220431770", func := "signpost/signpostlaw7.AttrPlaces", spec := "attrPlaces", unfollowed := true, recurses := true, apart := false, narrowed := true }
def AttrPlacesUptoSaid : Prop := attrPlacesUptoRow.holds Try.pinned (OpenSpec.upto attrPlacesSpec)

/-- 'signpostlaw7.AttrTwice', WHERE WHAT IT READS IS OF BULK AT MOST 1048576: true; the input reads as it did. -/
def attrTwiceUptoRow : OpenClaim := { program := "ytcjiacchgddnpaa", sum := "a2aee1dd833bcbfa644e2534537b28bc857f9709c555362d307407f220431770", func := "signpost/signpostlaw7.AttrTwice", spec := "attrTwice", unfollowed := true, recurses := true, apart := false, narrowed := true }
def AttrTwiceUptoSaid : Prop := attrTwiceUptoRow.holds Try.pinned (OpenSpec.upto attrTwiceSpec)

/-- 'signpostlaw7.AttrOuter', WHERE WHAT IT READS IS OF BULK AT MOST 1048576: true; the input reads as it did. -/
def attrOuterUptoRow : OpenClaim := { program := "ytcjiacchgddnpaa", sum := "a2aee1dd833bcbfa644e2534537b28bc857f9709c555362d307407f220431770", func := "signpost/signpostlaw7.AttrOuter", spec := "attrOuter", unfollowed := true, recurses := true, apart := false, narrowed := true }
def AttrOuterUptoSaid : Prop := attrOuterUptoRow.holds Try.pinned (OpenSpec.upto attrOuterSpec)

/-- 'signpostlaw7.AttrOrder', WHERE WHAT IT READS IS OF BULK AT MOST 1048576: true; the input reads as it did. -/
def attrOrderUptoRow : OpenClaim := { program := "ytcjiacchgddnpaa", sum := "a2aee1dd833bcbfa644e2534537b28bc857f9709c555362d307407f220431770", func := "signpost/signpostlaw7.AttrOrder", spec := "attrOrder", unfollowed := true, recurses := true, apart := false, narrowed := true }
def AttrOrderUptoSaid : Prop := attrOrderUptoRow.holds Try.pinned (OpenSpec.upto attrOrderSpec)

end Rows
end Go.Proofs.Ytcjiacchgddnpaa
