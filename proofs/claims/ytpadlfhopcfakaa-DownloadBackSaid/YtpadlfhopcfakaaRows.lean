/-
  No cell of these rows narrows 'for every input' (looked for: loops, veiled, ifaces, maps, wideKeys, modest, calm, conditions, laid).
  DERIVED. THE GIVEN ROWS OF THIS SEAT. 7 by the template 'for every input the law returns true; each argument reads behind the call as it read before'; 0 by the template 'total and deterministic' (their statements: YtpadlfhopcfakaaTotals.lean).
  GIVEN WITH THE SEED: the statements are not yours to turn. If you find one false, say at which input.
  Laid BY PROGRAM, IN A SANDBOX (cutbox-rows.mjs): the forced cells as the released guide's own fill.sh prints them over the translation f5a7c5b3a3efaaac… (all of the seat's roots in one cut). By AI agents, Wed Nov 11 2026. No macro, syntax, notation, axiom, sorry.
-/
import Derived.Test.YtpadlfhopcfakaaChecked
import GoSem.Claim
import GoSem.ClaimJoined
import GoSem.ClaimMapViews
import Derived.JoinedTies
import Derived.KernelRfl
namespace Go.Proofs.Ytpadlfhopcfakaa
/- THE CELL 'sum', in the pinned program and in every row, IS THE sha256 OF THE DUMP (.gsa) THAT YtpadlfhopcfakaaProg.lean LOADS. Nothing in Lean hashes anything: it is a label: what it is worth is what the hold of that sum in a sandbox is worth. -/
noncomputable def Try.pinned : Pinned := { name := "ytpadlfhopcfakaa", sum := "f5a7c5b3a3efaaac4cdf7d3b6a2fbeca1ee5883ad87f51a78d77a82f1f497a1b", checked := Try.checked }
namespace Rows
def none {H : Type} : Left H := { results := [], args := [] }

/-- 'signpostlaw26.DownloadPlans': WHATEVER THE INPUT: true; the input reads as it did. -/
def downloadPlansSpec : ChangeSpec := { name := "downloadPlans", fn := fun _ => fun
  | [d1, d2, d3] => { results := [.lit (.bool true)], args := [d1, d2, d3] }
  | _ => none }
def downloadPlansRow : OpenClaim := { program := "ytpadlfhopcfakaa", sum := "f5a7c5b3a3efaaac4cdf7d3b6a2fbeca1ee5883ad87f51a78d77a82f1f497a1b", func := "signpost/signpostlaw26.DownloadPlans", spec := "downloadPlans", unfollowed := true, recurses := true, plainKeys := false, apart := false }
def DownloadPlansSaid : Prop := downloadPlansRow.holds Try.pinned (OpenSpec.ofChange downloadPlansSpec)

/-- ITS FALSE NEIGHBOUR: 'it returns false'. Refute it at one input. -/
def downloadPlansWrong : ChangeSpec := { name := "downloadPlans", fn := fun _ => fun
  | [d1, d2, d3] => { results := [.lit (.bool false)], args := [d1, d2, d3] }
  | _ => none }
def DownloadPlansWrongFalsely : Prop := downloadPlansRow.holds Try.pinned (OpenSpec.ofChange downloadPlansWrong)

/-- 'signpostlaw26.DownloadBack': WHATEVER THE INPUT: true; the input reads as it did. -/
def downloadBackSpec : ChangeSpec := { name := "downloadBack", fn := fun _ => fun
  | [d1, d2] => { results := [.lit (.bool true)], args := [d1, d2] }
  | _ => none }
def downloadBackRow : OpenClaim := { program := "ytpadlfhopcfakaa", sum := "f5a7c5b3a3efaaac4cdf7d3b6a2fbeca1ee5883ad87f51a78d77a82f1f497a1b", func := "signpost/signpostlaw26.DownloadBack", spec := "downloadBack", unfollowed := true, recurses := true, plainKeys := false, apart := false }
def DownloadBackSaid : Prop := downloadBackRow.holds Try.pinned (OpenSpec.ofChange downloadBackSpec)

/-- ITS FALSE NEIGHBOUR: 'it returns false'. Refute it at one input. -/
def downloadBackWrong : ChangeSpec := { name := "downloadBack", fn := fun _ => fun
  | [d1, d2] => { results := [.lit (.bool false)], args := [d1, d2] }
  | _ => none }
def DownloadBackWrongFalsely : Prop := downloadBackRow.holds Try.pinned (OpenSpec.ofChange downloadBackWrong)

/-- 'signpostlaw26.DownloadOrder': WHATEVER THE INPUT: true; the input reads as it did. -/
def downloadOrderSpec : ChangeSpec := { name := "downloadOrder", fn := fun _ => fun
  | [d1, d2] => { results := [.lit (.bool true)], args := [d1, d2] }
  | _ => none }
def downloadOrderRow : OpenClaim := { program := "ytpadlfhopcfakaa", sum := "f5a7c5b3a3efaaac4cdf7d3b6a2fbeca1ee5883ad87f51a78d77a82f1f497a1b", func := "signpost/signpostlaw26.DownloadOrder", spec := "downloadOrder", unfollowed := true, recurses := true, plainKeys := false, apart := false }
def DownloadOrderSaid : Prop := downloadOrderRow.holds Try.pinned (OpenSpec.ofChange downloadOrderSpec)

/-- ITS FALSE NEIGHBOUR: 'it returns false'. Refute it at one input. -/
def downloadOrderWrong : ChangeSpec := { name := "downloadOrder", fn := fun _ => fun
  | [d1, d2] => { results := [.lit (.bool false)], args := [d1, d2] }
  | _ => none }
def DownloadOrderWrongFalsely : Prop := downloadOrderRow.holds Try.pinned (OpenSpec.ofChange downloadOrderWrong)

/-- 'signpostlaw26.DownloadSafe': WHATEVER THE INPUT: true; the input reads as it did. -/
def downloadSafeSpec : ChangeSpec := { name := "downloadSafe", fn := fun _ => fun
  | [d1, d2] => { results := [.lit (.bool true)], args := [d1, d2] }
  | _ => none }
def downloadSafeRow : OpenClaim := { program := "ytpadlfhopcfakaa", sum := "f5a7c5b3a3efaaac4cdf7d3b6a2fbeca1ee5883ad87f51a78d77a82f1f497a1b", func := "signpost/signpostlaw26.DownloadSafe", spec := "downloadSafe", unfollowed := true, recurses := true, plainKeys := false, apart := false }
def DownloadSafeSaid : Prop := downloadSafeRow.holds Try.pinned (OpenSpec.ofChange downloadSafeSpec)

/-- ITS FALSE NEIGHBOUR: 'it returns false'. Refute it at one input. -/
def downloadSafeWrong : ChangeSpec := { name := "downloadSafe", fn := fun _ => fun
  | [d1, d2] => { results := [.lit (.bool false)], args := [d1, d2] }
  | _ => none }
def DownloadSafeWrongFalsely : Prop := downloadSafeRow.holds Try.pinned (OpenSpec.ofChange downloadSafeWrong)

/-- 'signpostlaw26.DownloadNumbers': WHATEVER THE INPUT: true; the input reads as it did. -/
def downloadNumbersSpec : ChangeSpec := { name := "downloadNumbers", fn := fun _ => fun
  | [] => { results := [.lit (.bool true)], args := [] }
  | _ => none }
def downloadNumbersRow : OpenClaim := { program := "ytpadlfhopcfakaa", sum := "f5a7c5b3a3efaaac4cdf7d3b6a2fbeca1ee5883ad87f51a78d77a82f1f497a1b", func := "signpost/signpostlaw26.DownloadNumbers", spec := "downloadNumbers", unfollowed := true, recurses := true, plainKeys := false, apart := false }
def DownloadNumbersSaid : Prop := downloadNumbersRow.holds Try.pinned (OpenSpec.ofChange downloadNumbersSpec)

/-- ITS FALSE NEIGHBOUR: 'it returns false'. Refute it at one input. -/
def downloadNumbersWrong : ChangeSpec := { name := "downloadNumbers", fn := fun _ => fun
  | [] => { results := [.lit (.bool false)], args := [] }
  | _ => none }
def DownloadNumbersWrongFalsely : Prop := downloadNumbersRow.holds Try.pinned (OpenSpec.ofChange downloadNumbersWrong)

/-- 'signpostlaw26.DownloadTurns': WHATEVER THE INPUT: true; the input reads as it did. -/
def downloadTurnsSpec : ChangeSpec := { name := "downloadTurns", fn := fun _ => fun
  | [d1, d2, d3] => { results := [.lit (.bool true)], args := [d1, d2, d3] }
  | _ => none }
def downloadTurnsRow : OpenClaim := { program := "ytpadlfhopcfakaa", sum := "f5a7c5b3a3efaaac4cdf7d3b6a2fbeca1ee5883ad87f51a78d77a82f1f497a1b", func := "signpost/signpostlaw26.DownloadTurns", spec := "downloadTurns", unfollowed := true, recurses := true, plainKeys := false, apart := false }
def DownloadTurnsSaid : Prop := downloadTurnsRow.holds Try.pinned (OpenSpec.ofChange downloadTurnsSpec)

/-- ITS FALSE NEIGHBOUR: 'it returns false'. Refute it at one input. -/
def downloadTurnsWrong : ChangeSpec := { name := "downloadTurns", fn := fun _ => fun
  | [d1, d2, d3] => { results := [.lit (.bool false)], args := [d1, d2, d3] }
  | _ => none }
def DownloadTurnsWrongFalsely : Prop := downloadTurnsRow.holds Try.pinned (OpenSpec.ofChange downloadTurnsWrong)

/-- 'signpostlaw26.DownloadRooms': WHATEVER THE INPUT: true; the input reads as it did. -/
def downloadRoomsSpec : ChangeSpec := { name := "downloadRooms", fn := fun _ => fun
  | [d1, d2, d3] => { results := [.lit (.bool true)], args := [d1, d2, d3] }
  | _ => none }
def downloadRoomsRow : OpenClaim := { program := "ytpadlfhopcfakaa", sum := "f5a7c5b3a3efaaac4cdf7d3b6a2fbeca1ee5883ad87f51a78d77a82f1f497a1b", func := "signpost/signpostlaw26.DownloadRooms", spec := "downloadRooms", unfollowed := true, recurses := true, plainKeys := false, apart := false }
def DownloadRoomsSaid : Prop := downloadRoomsRow.holds Try.pinned (OpenSpec.ofChange downloadRoomsSpec)

/-- ITS FALSE NEIGHBOUR: 'it returns false'. Refute it at one input. -/
def downloadRoomsWrong : ChangeSpec := { name := "downloadRooms", fn := fun _ => fun
  | [d1, d2, d3] => { results := [.lit (.bool false)], args := [d1, d2, d3] }
  | _ => none }
def DownloadRoomsWrongFalsely : Prop := downloadRoomsRow.holds Try.pinned (OpenSpec.ofChange downloadRoomsWrong)

/- THE SECOND FORM. 'bulk': how many values and letters a reading holds, each counted each time it is reached (what is shared counts as often as it is met; a slice's spare places count too). A statement '..UptoSaid' is the law's where the arguments, and the package variables that the reading takes, are together of bulk at most 1048576: NARROWER than '..Said'. Prove '..Said' where nothing that the law and all that it calls make is longer than what came in: it says more and counts as full. Else prove '..UptoSaid'. A law counts once. -/
mutual
def uptoBulk {H : Type} : DataW H → Nat
  | .lit (.string bytes) => bytes.length + 1
  | .lit _ => 1
  | .nil => 1
  | .ptr d => uptoBulk d + 1
  | .slice elems spare => uptoBulkAll elems + uptoBulkAll spare + 1
  | .agg parts => uptoBulkAll parts + 1
  | .iface _ d => uptoBulk d + 1
  | .map entries => uptoBulkEntries entries + 1
  | .held _ => 1
def uptoBulkAll {H : Type} : List (DataW H) → Nat
  | [] => 0
  | d :: r => uptoBulk d + uptoBulkAll r
def uptoBulkEntries {H : Type} : List (Lit × DataW H) → Nat
  | [] => 0
  | x :: r => uptoBulkEntry x + uptoBulkEntries r
def uptoBulkEntry {H : Type} : Lit × DataW H → Nat
  | (.string bytes, d) => bytes.length + uptoBulk d + 1
  | (_, d) => uptoBulk d + 1
 end
def uptoSmall : (H : Type) → List (DataW H) → Bool := fun _ ds => decide (uptoBulkAll ds ≤ 1048576)
def OpenSpec.upto (s : _root_.Go.ChangeSpec) : _root_.Go.OpenSpec := { _root_.Go.OpenSpec.ofChange s with cond := some uptoSmall }

/-- 'signpostlaw26.DownloadPlans', WHERE WHAT IT READS IS OF BULK AT MOST 1048576: true; the input reads as it did. -/
def downloadPlansUptoRow : OpenClaim := { program := "ytpadlfhopcfakaa", sum := "f5a7c5b3a3efaaac4cdf7d3b6a2fbeca1ee5883ad87f51a78d77a82f1f497a1b", func := "signpost/signpostlaw26.DownloadPlans", spec := "downloadPlans", unfollowed := true, recurses := true, plainKeys := false, apart := false, narrowed := true }
def DownloadPlansUptoSaid : Prop := downloadPlansUptoRow.holds Try.pinned (OpenSpec.upto downloadPlansSpec)

/-- 'signpostlaw26.DownloadBack', WHERE WHAT IT READS IS OF BULK AT MOST 1048576: true; the input reads as it did. -/
def downloadBackUptoRow : OpenClaim := { program := "ytpadlfhopcfakaa", sum := "f5a7c5b3a3efaaac4cdf7d3b6a2fbeca1ee5883ad87f51a78d77a82f1f497a1b", func := "signpost/signpostlaw26.DownloadBack", spec := "downloadBack", unfollowed := true, recurses := true, plainKeys := false, apart := false, narrowed := true }
def DownloadBackUptoSaid : Prop := downloadBackUptoRow.holds Try.pinned (OpenSpec.upto downloadBackSpec)

/-- 'signpostlaw26.DownloadOrder', WHERE WHAT IT READS IS OF BULK AT MOST 1048576: true; the input reads as it did. -/
def downloadOrderUptoRow : OpenClaim := { program := "ytpadlfhopcfakaa", sum := "f5a7c5b3a3efaaac4cdf7d3b6a2fbeca1ee5883ad87f51a78d77a82f1f497a1b", func := "signpost/signpostlaw26.DownloadOrder", spec := "downloadOrder", unfollowed := true, recurses := true, plainKeys := false, apart := false, narrowed := true }
def DownloadOrderUptoSaid : Prop := downloadOrderUptoRow.holds Try.pinned (OpenSpec.upto downloadOrderSpec)

/-- 'signpostlaw26.DownloadSafe', WHERE WHAT IT READS IS OF BULK AT MOST 1048576: true; the input reads as it did. -/
def downloadSafeUptoRow : OpenClaim := { program := "ytpadlfhopcfakaa", sum := "f5a7c5b3a3efaaac4cdf7d3b6a2fbeca1ee5883ad87f51a78d77a82f1f497a1b", func := "signpost/signpostlaw26.DownloadSafe", spec := "downloadSafe", unfollowed := true, recurses := true, plainKeys := false, apart := false, narrowed := true }
def DownloadSafeUptoSaid : Prop := downloadSafeUptoRow.holds Try.pinned (OpenSpec.upto downloadSafeSpec)

/-- 'signpostlaw26.DownloadNumbers', WHERE WHAT IT READS IS OF BULK AT MOST 1048576: true; the input reads as it did. -/
def downloadNumbersUptoRow : OpenClaim := { program := "ytpadlfhopcfakaa", sum := "f5a7c5b3a3efaaac4cdf7d3b6a2fbeca1ee5883ad87f51a78d77a82f1f497a1b", func := "signpost/signpostlaw26.DownloadNumbers", spec := "downloadNumbers", unfollowed := true, recurses := true, plainKeys := false, apart := false, narrowed := true }
def DownloadNumbersUptoSaid : Prop := downloadNumbersUptoRow.holds Try.pinned (OpenSpec.upto downloadNumbersSpec)

/-- 'signpostlaw26.DownloadTurns', WHERE WHAT IT READS IS OF BULK AT MOST 1048576: true; the input reads as it did. -/
def downloadTurnsUptoRow : OpenClaim := { program := "ytpadlfhopcfakaa", sum := "f5a7c5b3a3efaaac4cdf7d3b6a2fbeca1ee5883ad87f51a78d77a82f1f497a1b", func := "signpost/signpostlaw26.DownloadTurns", spec := "downloadTurns", unfollowed := true, recurses := true, plainKeys := false, apart := false, narrowed := true }
def DownloadTurnsUptoSaid : Prop := downloadTurnsUptoRow.holds Try.pinned (OpenSpec.upto downloadTurnsSpec)

/-- 'signpostlaw26.DownloadRooms', WHERE WHAT IT READS IS OF BULK AT MOST 1048576: true; the input reads as it did. -/
def downloadRoomsUptoRow : OpenClaim := { program := "ytpadlfhopcfakaa", sum := "f5a7c5b3a3efaaac4cdf7d3b6a2fbeca1ee5883ad87f51a78d77a82f1f497a1b", func := "signpost/signpostlaw26.DownloadRooms", spec := "downloadRooms", unfollowed := true, recurses := true, plainKeys := false, apart := false, narrowed := true }
def DownloadRoomsUptoSaid : Prop := downloadRoomsUptoRow.holds Try.pinned (OpenSpec.upto downloadRoomsSpec)

end Rows
end Go.Proofs.Ytpadlfhopcfakaa
