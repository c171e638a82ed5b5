/-
  No cell of these rows narrows 'for every input' (looked for: loops, veiled, ifaces, maps, wideKeys, modest, calm, conditions, laid).
  DERIVED. THE GIVEN ROWS OF THIS SEAT. 5 by the template 'for every input the law returns true; each argument reads behind the call as it read before'; 0 by the template 'total and deterministic' (their statements: YtmahfnljcfaicaaTotals.lean).
  GIVEN WITH THE SEED: the statements are not yours to turn. If you find one false, say at which input.
  Laid BY PROGRAM, IN A SANDBOX (cutbox-rows.mjs): the forced cells as the released guide's own fill.sh prints them over the translation 459c784669f8eaa9… (all of the seat's roots in one cut). By AI agents, Wed Nov 11 2026. No macro, syntax, notation, axiom, sorry.
-/
import Derived.Test.YtmahfnljcfaicaaChecked
import GoSem.Claim
import GoSem.ClaimJoined
import GoSem.ClaimMapViews
import Derived.JoinedTies
import Derived.KernelRfl
namespace Go.Proofs.Ytmahfnljcfaicaa
/- THE CELL 'sum', in the pinned program and in every row, IS THE sha256 OF THE DUMP (.gsa) THAT YtmahfnljcfaicaaProg.lean LOADS. Nothing in Lean hashes anything: it is a label: what it is worth is what the hold of that sum in a sandbox is worth. -/
noncomputable def Try.pinned : Pinned := { name := "ytmahfnljcfaicaa", sum := "459c784669f8eaa9f0a3dcac24c5c6795093f6183ea5ce0affd8c7ec6632b361", checked := Try.checked }
namespace Rows
def none {H : Type} : Left H := { results := [], args := [] }

/-- 'signpostlaw11.InternNumbers': WHATEVER THE INPUT: true; the input reads as it did. -/
def internNumbersSpec : ChangeSpec := { name := "internNumbers", fn := fun _ => fun
  | [] => { results := [.lit (.bool true)], args := [] }
  | _ => none }
def internNumbersRow : OpenClaim := { program := "ytmahfnljcfaicaa", sum := "459c784669f8eaa9f0a3dcac24c5c6795093f6183ea5ce0affd8c7ec6632b361", func := "signpost/signpostlaw11.InternNumbers", spec := "internNumbers", unfollowed := true, recurses := true, apart := false }
def InternNumbersSaid : Prop := internNumbersRow.holds Try.pinned (OpenSpec.ofChange internNumbersSpec)

/-- ITS FALSE NEIGHBOUR: 'it returns false'. Refute it at one input. -/
def internNumbersWrong : ChangeSpec := { name := "internNumbers", fn := fun _ => fun
  | [] => { results := [.lit (.bool false)], args := [] }
  | _ => none }
def InternNumbersWrongFalsely : Prop := internNumbersRow.holds Try.pinned (OpenSpec.ofChange internNumbersWrong)

/-- 'signpostlaw11.InternPlays': WHATEVER THE INPUT: true; the input reads as it did. -/
def internPlaysSpec : ChangeSpec := { name := "internPlays", fn := fun _ => fun
  | [d1, d2] => { results := [.lit (.bool true)], args := [d1, d2] }
  | _ => none }
def internPlaysRow : OpenClaim := { program := "ytmahfnljcfaicaa", sum := "459c784669f8eaa9f0a3dcac24c5c6795093f6183ea5ce0affd8c7ec6632b361", func := "signpost/signpostlaw11.InternPlays", spec := "internPlays", unfollowed := true, recurses := true, apart := false }
def InternPlaysSaid : Prop := internPlaysRow.holds Try.pinned (OpenSpec.ofChange internPlaysSpec)

/-- ITS FALSE NEIGHBOUR: 'it returns false'. Refute it at one input. -/
def internPlaysWrong : ChangeSpec := { name := "internPlays", fn := fun _ => fun
  | [d1, d2] => { results := [.lit (.bool false)], args := [d1, d2] }
  | _ => none }
def InternPlaysWrongFalsely : Prop := internPlaysRow.holds Try.pinned (OpenSpec.ofChange internPlaysWrong)

/-- 'signpostlaw11.InternOnce': WHATEVER THE INPUT: true; the input reads as it did. -/
def internOnceSpec : ChangeSpec := { name := "internOnce", fn := fun _ => fun
  | [d] => { results := [.lit (.bool true)], args := [d] }
  | _ => none }
def internOnceRow : OpenClaim := { program := "ytmahfnljcfaicaa", sum := "459c784669f8eaa9f0a3dcac24c5c6795093f6183ea5ce0affd8c7ec6632b361", func := "signpost/signpostlaw11.InternOnce", spec := "internOnce", unfollowed := true, recurses := true, apart := false }
def InternOnceSaid : Prop := internOnceRow.holds Try.pinned (OpenSpec.ofChange internOnceSpec)

/-- ITS FALSE NEIGHBOUR: 'it returns false'. Refute it at one input. -/
def internOnceWrong : ChangeSpec := { name := "internOnce", fn := fun _ => fun
  | [d] => { results := [.lit (.bool false)], args := [d] }
  | _ => none }
def InternOnceWrongFalsely : Prop := internOnceRow.holds Try.pinned (OpenSpec.ofChange internOnceWrong)

/-- 'signpostlaw11.InternRooms': WHATEVER THE INPUT: true; the input reads as it did. -/
def internRoomsSpec : ChangeSpec := { name := "internRooms", fn := fun _ => fun
  | [d1, d2] => { results := [.lit (.bool true)], args := [d1, d2] }
  | _ => none }
def internRoomsRow : OpenClaim := { program := "ytmahfnljcfaicaa", sum := "459c784669f8eaa9f0a3dcac24c5c6795093f6183ea5ce0affd8c7ec6632b361", func := "signpost/signpostlaw11.InternRooms", spec := "internRooms", unfollowed := true, recurses := true, apart := false }
def InternRoomsSaid : Prop := internRoomsRow.holds Try.pinned (OpenSpec.ofChange internRoomsSpec)

/-- ITS FALSE NEIGHBOUR: 'it returns false'. Refute it at one input. -/
def internRoomsWrong : ChangeSpec := { name := "internRooms", fn := fun _ => fun
  | [d1, d2] => { results := [.lit (.bool false)], args := [d1, d2] }
  | _ => none }
def InternRoomsWrongFalsely : Prop := internRoomsRow.holds Try.pinned (OpenSpec.ofChange internRoomsWrong)

/-- 'signpostlaw11.InternApart': WHATEVER THE INPUT: true; the input reads as it did. -/
def internApartSpec : ChangeSpec := { name := "internApart", fn := fun _ => fun
  | [d1, d2] => { results := [.lit (.bool true)], args := [d1, d2] }
  | _ => none }
def internApartRow : OpenClaim := { program := "ytmahfnljcfaicaa", sum := "459c784669f8eaa9f0a3dcac24c5c6795093f6183ea5ce0affd8c7ec6632b361", func := "signpost/signpostlaw11.InternApart", spec := "internApart", unfollowed := true, recurses := true, apart := false }
def InternApartSaid : Prop := internApartRow.holds Try.pinned (OpenSpec.ofChange internApartSpec)

/-- ITS FALSE NEIGHBOUR: 'it returns false'. Refute it at one input. -/
def internApartWrong : ChangeSpec := { name := "internApart", fn := fun _ => fun
  | [d1, d2] => { results := [.lit (.bool false)], args := [d1, d2] }
  | _ => none }
def InternApartWrongFalsely : Prop := internApartRow.holds Try.pinned (OpenSpec.ofChange internApartWrong)

/- THE SECOND FORM. 'bulk': how many values and letters a reading holds, each counted each time it is reached (what is shared counts as often as it is met; a slice's spare places count too). A statement '..UptoSaid' is the law's where the arguments, and the package variables that the reading takes, are together of bulk at most 1048576: NARROWER than '..Said'. Prove '..Said' where nothing that the law and all that it calls make is longer than what came in: it says more and counts as full. Else prove '..UptoSaid'. A law counts once. -/
mutual
def uptoBulk {H : Type} : DataW H → Nat
  | .lit (.string bytes) => bytes.length + 1
  | .lit _ => 1
  | .nil => 1
  | .ptr d => uptoBulk d + 1
  | .slice elems spare => uptoBulkAll elems + uptoBulkAll spare + 1
  | .agg parts => uptoBulkAll parts + 1
  | .iface _ d => uptoBulk d + 1
  | .map entries => uptoBulkEntries entries + 1
  | .held _ => 1
def uptoBulkAll {H : Type} : List (DataW H) → Nat
  | [] => 0
  | d :: r => uptoBulk d + uptoBulkAll r
def uptoBulkEntries {H : Type} : List (Lit × DataW H) → Nat
  | [] => 0
  | x :: r => uptoBulkEntry x + uptoBulkEntries r
def uptoBulkEntry {H : Type} : Lit × DataW H → Nat
  | (.string bytes, d) => bytes.length + uptoBulk d + 1
  | (_, d) => uptoBulk d + 1
 end
def uptoSmall : (H : Type) → List (DataW H) → Bool := fun _ ds => decide (uptoBulkAll ds ≤ 1048576)
def OpenSpec.upto (s : _root_.Go.ChangeSpec) : _root_.Go.OpenSpec := { _root_.Go.OpenSpec.ofChange s with cond := some uptoSmall }

/-- 'signpostlaw11.InternNumbers', WHERE WHAT IT READS IS OF BULK AT MOST 1048576: true; the input reads as it did. -/
def internNumbersUptoRow : OpenClaim := { program := "ytmahfnljcfaicaa", sum := "459c784669f8eaa9f0a3dcac24c5c6795093f6183ea5ce0affd8c7ec6632b361", func := "signpost/signpostlaw11.InternNumbers", spec := "internNumbers", unfollowed := true, recurses := true, apart := false, narrowed := true }
def InternNumbersUptoSaid : Prop := internNumbersUptoRow.holds Try.pinned (OpenSpec.upto internNumbersSpec)

/-- 'signpostlaw11.InternPlays', WHERE WHAT IT READS IS OF BULK AT MOST 1048576: true; the input reads as it did. -/
def internPlaysUptoRow : OpenClaim := { program := "ytmahfnljcfaicaa", sum := "459c784669f8eaa9f0a3dcac24c5c6795093f6183ea5ce0affd8c7ec6632b361", func := "signpost/signpostlaw11.InternPlays", spec := "internPlays", unfollowed := true, recurses := true, apart := false, narrowed := true }
def InternPlaysUptoSaid : Prop := internPlaysUptoRow.holds Try.pinned (OpenSpec.upto internPlaysSpec)

/-- 'signpostlaw11.InternOnce', WHERE WHAT IT READS IS OF BULK AT MOST 1048576: true; the input reads as it did. -/
def internOnceUptoRow : OpenClaim := { program := "ytmahfnljcfaicaa", sum := "459c784669f8eaa9f0a3dcac24c5c6795093f6183ea5ce0affd8c7ec6632b361", func := "signpost/signpostlaw11.InternOnce", spec := "internOnce", unfollowed := true, recurses := true, apart := false, narrowed := true }
def InternOnceUptoSaid : Prop := internOnceUptoRow.holds Try.pinned (OpenSpec.upto internOnceSpec)

/-- 'signpostlaw11.InternRooms', WHERE WHAT IT READS IS OF BULK AT MOST 1048576: true; the input reads as it did. -/
def internRoomsUptoRow : OpenClaim := { program := "ytmahfnljcfaicaa", sum := "459c784669f8eaa9f0a3dcac24c5c6795093f6183ea5ce0affd8c7ec6632b361", func := "signpost/signpostlaw11.InternRooms", spec := "internRooms", unfollowed := true, recurses := true, apart := false, narrowed := true }
def InternRoomsUptoSaid : Prop := internRoomsUptoRow.holds Try.pinned (OpenSpec.upto internRoomsSpec)

/-- 'signpostlaw11.InternApart', WHERE WHAT IT READS IS OF BULK AT MOST 1048576: true; the input reads as it did. -/
def internApartUptoRow : OpenClaim := { program := "ytmahfnljcfaicaa", sum := "459c784669f8eaa9f0a3dcac24c5c6795093f6183ea5ce0affd8c7ec6632b361", func := "signpost/signpostlaw11.InternApart", spec := "internApart", unfollowed := true, recurses := true, apart := false, narrowed := true }
def InternApartUptoSaid : Prop := internApartUptoRow.holds Try.pinned (OpenSpec.upto internApartSpec)

end Rows
end Go.Proofs.Ytmahfnljcfaicaa
