/-
  No cell of these rows narrows 'for every input' (looked for: loops, veiled, ifaces, maps, wideKeys, modest, calm, conditions, laid).
  DERIVED. THE GIVEN ROWS OF THIS SEAT. 10 by the template 'for every input the law returns true; each argument reads behind the call as it read before'; 0 by the template 'total and deterministic' (their statements: YtplkahhkogncjaaGreatTotals.lean).
  GIVEN WITH THE SEED: the statements are not yours to turn. If you find one false, say at which input.
  Laid BY PROGRAM, IN A SANDBOX (cutbox-rows.mjs): the forced cells as the released guide's own fill.sh prints them over the translation 8c2b01d7c6e46d37… (all of the seat's roots in one cut). By AI agents, Wed Nov 11 2026. No macro, syntax, notation, axiom, sorry.
-/
import Derived.Test.YtplkahhkogncjaaGreatChecked
import GoSem.Claim
import GoSem.ClaimJoined
import GoSem.ClaimMapViews
import Derived.JoinedTies
import Derived.KernelRfl
namespace Go.Proofs.YtplkahhkogncjaaGreat
/- THE CELL 'sum', in the pinned program and in every row, IS THE sha256 OF THE DUMP (.gsa) THAT YtplkahhkogncjaaGreatProg.lean LOADS. Nothing in Lean hashes anything: it is a label: what it is worth is what the hold of that sum in a sandbox is worth. -/
noncomputable def Tryz.pinned : Pinned := { name := "ytplkahhkogncjaagreat", sum := "8c2b01d7c6e46d37329547cbf3054bf3469a95f331e7eac417104fefb2f87e10", checked := Tryz.checked }
namespace Rows
def none {H : Type} : Left H := { results := [], args := [] }

/-- 'signpostlaw21.ExportNumbers': WHATEVER THE INPUT: true; the input reads as it did. -/
def exportNumbersSpec : ChangeSpec := { name := "exportNumbers", fn := fun _ => fun
  | [] => { results := [.lit (.bool true)], args := [] }
  | _ => none }
def exportNumbersRow : OpenClaim := { program := "ytplkahhkogncjaagreat", sum := "8c2b01d7c6e46d37329547cbf3054bf3469a95f331e7eac417104fefb2f87e10", func := "signpost/signpostlaw21.ExportNumbers", spec := "exportNumbers", inPlace := ["slices.overlaps[uint32]", "slices.overlaps[signpost/api.Seg]"], unfollowed := true, recurses := true, apart := false }
def ExportNumbersSaid : Prop := exportNumbersRow.holds Tryz.pinned (OpenSpec.ofChange exportNumbersSpec)

/-- ITS FALSE NEIGHBOUR: 'it returns false'. Refute it at one input. -/
def exportNumbersWrong : ChangeSpec := { name := "exportNumbers", fn := fun _ => fun
  | [] => { results := [.lit (.bool false)], args := [] }
  | _ => none }
def ExportNumbersWrongFalsely : Prop := exportNumbersRow.holds Tryz.pinned (OpenSpec.ofChange exportNumbersWrong)

/-- 'signpostlaw21.ExportTells': WHATEVER THE INPUT: true; the input reads as it did. -/
def exportTellsSpec : ChangeSpec := { name := "exportTells", fn := fun _ => fun
  | [d1, d2, d3, d4, d5] => { results := [.lit (.bool true)], args := [d1, d2, d3, d4, d5] }
  | _ => none }
def exportTellsRow : OpenClaim := { program := "ytplkahhkogncjaagreat", sum := "8c2b01d7c6e46d37329547cbf3054bf3469a95f331e7eac417104fefb2f87e10", func := "signpost/signpostlaw21.ExportTells", spec := "exportTells", inPlace := ["slices.overlaps[uint32]", "slices.overlaps[signpost/api.Seg]"], unfollowed := true, recurses := true, apart := false }
def ExportTellsSaid : Prop := exportTellsRow.holds Tryz.pinned (OpenSpec.ofChange exportTellsSpec)

/-- ITS FALSE NEIGHBOUR: 'it returns false'. Refute it at one input. -/
def exportTellsWrong : ChangeSpec := { name := "exportTells", fn := fun _ => fun
  | [d1, d2, d3, d4, d5] => { results := [.lit (.bool false)], args := [d1, d2, d3, d4, d5] }
  | _ => none }
def ExportTellsWrongFalsely : Prop := exportTellsRow.holds Tryz.pinned (OpenSpec.ofChange exportTellsWrong)

/-- 'signpostlaw12.SessionPieces': WHATEVER THE INPUT: true; the input reads as it did. -/
def sessionPiecesSpec : ChangeSpec := { name := "sessionPieces", fn := fun _ => fun
  | [d1, d2] => { results := [.lit (.bool true)], args := [d1, d2] }
  | _ => none }
def sessionPiecesRow : OpenClaim := { program := "ytplkahhkogncjaagreat", sum := "8c2b01d7c6e46d37329547cbf3054bf3469a95f331e7eac417104fefb2f87e10", func := "signpost/signpostlaw12.SessionPieces", spec := "sessionPieces", inPlace := ["internal/bytealg.MakeNoZero"], unfollowed := true, recurses := true, apart := false }
def SessionPiecesSaid : Prop := sessionPiecesRow.holds Tryz.pinned (OpenSpec.ofChange sessionPiecesSpec)

/-- ITS FALSE NEIGHBOUR: 'it returns false'. Refute it at one input. -/
def sessionPiecesWrong : ChangeSpec := { name := "sessionPieces", fn := fun _ => fun
  | [d1, d2] => { results := [.lit (.bool false)], args := [d1, d2] }
  | _ => none }
def SessionPiecesWrongFalsely : Prop := sessionPiecesRow.holds Tryz.pinned (OpenSpec.ofChange sessionPiecesWrong)

/-- 'signpostlaw12.SessionTwo': WHATEVER THE INPUT: true; the input reads as it did. -/
def sessionTwoSpec : ChangeSpec := { name := "sessionTwo", fn := fun _ => fun
  | [d1, d2, d3] => { results := [.lit (.bool true)], args := [d1, d2, d3] }
  | _ => none }
def sessionTwoRow : OpenClaim := { program := "ytplkahhkogncjaagreat", sum := "8c2b01d7c6e46d37329547cbf3054bf3469a95f331e7eac417104fefb2f87e10", func := "signpost/signpostlaw12.SessionTwo", spec := "sessionTwo", inPlace := ["internal/bytealg.MakeNoZero"], unfollowed := true, recurses := true, apart := false }
def SessionTwoSaid : Prop := sessionTwoRow.holds Tryz.pinned (OpenSpec.ofChange sessionTwoSpec)

/-- ITS FALSE NEIGHBOUR: 'it returns false'. Refute it at one input. -/
def sessionTwoWrong : ChangeSpec := { name := "sessionTwo", fn := fun _ => fun
  | [d1, d2, d3] => { results := [.lit (.bool false)], args := [d1, d2, d3] }
  | _ => none }
def SessionTwoWrongFalsely : Prop := sessionTwoRow.holds Tryz.pinned (OpenSpec.ofChange sessionTwoWrong)

/-- 'signpostlaw12.SessionWrong': WHATEVER THE INPUT: true; the input reads as it did. -/
def sessionWrongSpec : ChangeSpec := { name := "sessionWrong", fn := fun _ => fun
  | [d1, d2] => { results := [.lit (.bool true)], args := [d1, d2] }
  | _ => none }
def sessionWrongRow : OpenClaim := { program := "ytplkahhkogncjaagreat", sum := "8c2b01d7c6e46d37329547cbf3054bf3469a95f331e7eac417104fefb2f87e10", func := "signpost/signpostlaw12.SessionWrong", spec := "sessionWrong", inPlace := ["internal/bytealg.MakeNoZero"], unfollowed := true, recurses := true, apart := false }
def SessionWrongSaid : Prop := sessionWrongRow.holds Tryz.pinned (OpenSpec.ofChange sessionWrongSpec)

/-- ITS FALSE NEIGHBOUR: 'it returns false'. Refute it at one input. -/
def sessionWrongWrong : ChangeSpec := { name := "sessionWrong", fn := fun _ => fun
  | [d1, d2] => { results := [.lit (.bool false)], args := [d1, d2] }
  | _ => none }
def SessionWrongWrongFalsely : Prop := sessionWrongRow.holds Tryz.pinned (OpenSpec.ofChange sessionWrongWrong)

/-- 'signpostlaw12.SessionClocks': WHATEVER THE INPUT: true; the input reads as it did. -/
def sessionClocksSpec : ChangeSpec := { name := "sessionClocks", fn := fun _ => fun
  | [d1, d2] => { results := [.lit (.bool true)], args := [d1, d2] }
  | _ => none }
def sessionClocksRow : OpenClaim := { program := "ytplkahhkogncjaagreat", sum := "8c2b01d7c6e46d37329547cbf3054bf3469a95f331e7eac417104fefb2f87e10", func := "signpost/signpostlaw12.SessionClocks", spec := "sessionClocks", inPlace := ["internal/bytealg.MakeNoZero"], unfollowed := true, recurses := true, apart := false }
def SessionClocksSaid : Prop := sessionClocksRow.holds Tryz.pinned (OpenSpec.ofChange sessionClocksSpec)

/-- ITS FALSE NEIGHBOUR: 'it returns false'. Refute it at one input. -/
def sessionClocksWrong : ChangeSpec := { name := "sessionClocks", fn := fun _ => fun
  | [d1, d2] => { results := [.lit (.bool false)], args := [d1, d2] }
  | _ => none }
def SessionClocksWrongFalsely : Prop := sessionClocksRow.holds Tryz.pinned (OpenSpec.ofChange sessionClocksWrong)

/-- 'signpostlaw12.SessionSilent': WHATEVER THE INPUT: true; the input reads as it did. -/
def sessionSilentSpec : ChangeSpec := { name := "sessionSilent", fn := fun _ => fun
  | [d] => { results := [.lit (.bool true)], args := [d] }
  | _ => none }
def sessionSilentRow : OpenClaim := { program := "ytplkahhkogncjaagreat", sum := "8c2b01d7c6e46d37329547cbf3054bf3469a95f331e7eac417104fefb2f87e10", func := "signpost/signpostlaw12.SessionSilent", spec := "sessionSilent", inPlace := ["internal/bytealg.MakeNoZero"], unfollowed := true, recurses := true, apart := false }
def SessionSilentSaid : Prop := sessionSilentRow.holds Tryz.pinned (OpenSpec.ofChange sessionSilentSpec)

/-- ITS FALSE NEIGHBOUR: 'it returns false'. Refute it at one input. -/
def sessionSilentWrong : ChangeSpec := { name := "sessionSilent", fn := fun _ => fun
  | [d] => { results := [.lit (.bool false)], args := [d] }
  | _ => none }
def SessionSilentWrongFalsely : Prop := sessionSilentRow.holds Tryz.pinned (OpenSpec.ofChange sessionSilentWrong)

/-- 'signpostlaw12.SessionNumbers': WHATEVER THE INPUT: true; the input reads as it did. -/
def sessionNumbersSpec : ChangeSpec := { name := "sessionNumbers", fn := fun _ => fun
  | [] => { results := [.lit (.bool true)], args := [] }
  | _ => none }
def sessionNumbersRow : OpenClaim := { program := "ytplkahhkogncjaagreat", sum := "8c2b01d7c6e46d37329547cbf3054bf3469a95f331e7eac417104fefb2f87e10", func := "signpost/signpostlaw12.SessionNumbers", spec := "sessionNumbers", inPlace := ["internal/bytealg.MakeNoZero"], unfollowed := true, recurses := true, apart := false }
def SessionNumbersSaid : Prop := sessionNumbersRow.holds Tryz.pinned (OpenSpec.ofChange sessionNumbersSpec)

/-- ITS FALSE NEIGHBOUR: 'it returns false'. Refute it at one input. -/
def sessionNumbersWrong : ChangeSpec := { name := "sessionNumbers", fn := fun _ => fun
  | [] => { results := [.lit (.bool false)], args := [] }
  | _ => none }
def SessionNumbersWrongFalsely : Prop := sessionNumbersRow.holds Tryz.pinned (OpenSpec.ofChange sessionNumbersWrong)

/-- 'signpostlaw12.SessionPlays': WHATEVER THE INPUT: true; the input reads as it did. -/
def sessionPlaysSpec : ChangeSpec := { name := "sessionPlays", fn := fun _ => fun
  | [d1, d2, d3] => { results := [.lit (.bool true)], args := [d1, d2, d3] }
  | _ => none }
def sessionPlaysRow : OpenClaim := { program := "ytplkahhkogncjaagreat", sum := "8c2b01d7c6e46d37329547cbf3054bf3469a95f331e7eac417104fefb2f87e10", func := "signpost/signpostlaw12.SessionPlays", spec := "sessionPlays", inPlace := ["internal/bytealg.MakeNoZero"], unfollowed := true, recurses := true, apart := false }
def SessionPlaysSaid : Prop := sessionPlaysRow.holds Tryz.pinned (OpenSpec.ofChange sessionPlaysSpec)

/-- ITS FALSE NEIGHBOUR: 'it returns false'. Refute it at one input. -/
def sessionPlaysWrong : ChangeSpec := { name := "sessionPlays", fn := fun _ => fun
  | [d1, d2, d3] => { results := [.lit (.bool false)], args := [d1, d2, d3] }
  | _ => none }
def SessionPlaysWrongFalsely : Prop := sessionPlaysRow.holds Tryz.pinned (OpenSpec.ofChange sessionPlaysWrong)

/-- 'signpostlaw12.SessionEnds': WHATEVER THE INPUT: true; the input reads as it did. -/
def sessionEndsSpec : ChangeSpec := { name := "sessionEnds", fn := fun _ => fun
  | [d1, d2, d3] => { results := [.lit (.bool true)], args := [d1, d2, d3] }
  | _ => none }
def sessionEndsRow : OpenClaim := { program := "ytplkahhkogncjaagreat", sum := "8c2b01d7c6e46d37329547cbf3054bf3469a95f331e7eac417104fefb2f87e10", func := "signpost/signpostlaw12.SessionEnds", spec := "sessionEnds", inPlace := ["internal/bytealg.MakeNoZero"], unfollowed := true, recurses := true, apart := false }
def SessionEndsSaid : Prop := sessionEndsRow.holds Tryz.pinned (OpenSpec.ofChange sessionEndsSpec)

/-- ITS FALSE NEIGHBOUR: 'it returns false'. Refute it at one input. -/
def sessionEndsWrong : ChangeSpec := { name := "sessionEnds", fn := fun _ => fun
  | [d1, d2, d3] => { results := [.lit (.bool false)], args := [d1, d2, d3] }
  | _ => none }
def SessionEndsWrongFalsely : Prop := sessionEndsRow.holds Tryz.pinned (OpenSpec.ofChange sessionEndsWrong)

/- THE SECOND FORM. 'bulk': how many values and letters a reading holds, each counted each time it is reached (what is shared counts as often as it is met; a slice's spare places count too). A statement '..UptoSaid' is the law's where the arguments, and the package variables that the reading takes, are together of bulk at most 1048576: NARROWER than '..Said'. Prove '..Said' where nothing that the law and all that it calls make is longer than what came in: it says more and counts as full. Else prove '..UptoSaid'. A law counts once. -/
mutual
def uptoBulk {H : Type} : DataW H → Nat
  | .lit (.string bytes) => bytes.length + 1
  | .lit _ => 1
  | .nil => 1
  | .ptr d => uptoBulk d + 1
  | .slice elems spare => uptoBulkAll elems + uptoBulkAll spare + 1
  | .agg parts => uptoBulkAll parts + 1
  | .iface _ d => uptoBulk d + 1
  | .map entries => uptoBulkEntries entries + 1
  | .held _ => 1
def uptoBulkAll {H : Type} : List (DataW H) → Nat
  | [] => 0
  | d :: r => uptoBulk d + uptoBulkAll r
def uptoBulkEntries {H : Type} : List (Lit × DataW H) → Nat
  | [] => 0
  | x :: r => uptoBulkEntry x + uptoBulkEntries r
def uptoBulkEntry {H : Type} : Lit × DataW H → Nat
  | (.string bytes, d) => bytes.length + uptoBulk d + 1
  | (_, d) => uptoBulk d + 1
 end
def uptoSmall : (H : Type) → List (DataW H) → Bool := fun _ ds => decide (uptoBulkAll ds ≤ 1048576)
def OpenSpec.upto (s : _root_.Go.ChangeSpec) : _root_.Go.OpenSpec := { _root_.Go.OpenSpec.ofChange s with cond := some uptoSmall }

/-- 'signpostlaw21.ExportNumbers', WHERE WHAT IT READS IS OF BULK AT MOST 1048576: true; the input reads as it did. -/
def exportNumbersUptoRow : OpenClaim := { program := "ytplkahhkogncjaagreat", sum := "8c2b01d7c6e46d37329547cbf3054bf3469a95f331e7eac417104fefb2f87e10", func := "signpost/signpostlaw21.ExportNumbers", spec := "exportNumbers", inPlace := ["slices.overlaps[uint32]", "slices.overlaps[signpost/api.Seg]"], unfollowed := true, recurses := true, apart := false, narrowed := true }
def ExportNumbersUptoSaid : Prop := exportNumbersUptoRow.holds Tryz.pinned (OpenSpec.upto exportNumbersSpec)

/-- 'signpostlaw21.ExportTells', WHERE WHAT IT READS IS OF BULK AT MOST 1048576: true; the input reads as it did. -/
def exportTellsUptoRow : OpenClaim := { program := "ytplkahhkogncjaagreat", sum := "8c2b01d7c6e46d37329547cbf3054bf3469a95f331e7eac417104fefb2f87e10", func := "signpost/signpostlaw21.ExportTells", spec := "exportTells", inPlace := ["slices.overlaps[uint32]", "slices.overlaps[signpost/api.Seg]"], unfollowed := true, recurses := true, apart := false, narrowed := true }
def ExportTellsUptoSaid : Prop := exportTellsUptoRow.holds Tryz.pinned (OpenSpec.upto exportTellsSpec)

/-- 'signpostlaw12.SessionPieces', WHERE WHAT IT READS IS OF BULK AT MOST 1048576: true; the input reads as it did. -/
def sessionPiecesUptoRow : OpenClaim := { program := "ytplkahhkogncjaagreat", sum := "8c2b01d7c6e46d37329547cbf3054bf3469a95f331e7eac417104fefb2f87e10", func := "signpost/signpostlaw12.SessionPieces", spec := "sessionPieces", inPlace := ["internal/bytealg.MakeNoZero"], unfollowed := true, recurses := true, apart := false, narrowed := true }
def SessionPiecesUptoSaid : Prop := sessionPiecesUptoRow.holds Tryz.pinned (OpenSpec.upto sessionPiecesSpec)

/-- 'signpostlaw12.SessionTwo', WHERE WHAT IT READS IS OF BULK AT MOST 1048576: true; the input reads as it did. -/
def sessionTwoUptoRow : OpenClaim := { program := "ytplkahhkogncjaagreat", sum := "8c2b01d7c6e46d37329547cbf3054bf3469a95f331e7eac417104fefb2f87e10", func := "signpost/signpostlaw12.SessionTwo", spec := "sessionTwo", inPlace := ["internal/bytealg.MakeNoZero"], unfollowed := true, recurses := true, apart := false, narrowed := true }
def SessionTwoUptoSaid : Prop := sessionTwoUptoRow.holds Tryz.pinned (OpenSpec.upto sessionTwoSpec)

/-- 'signpostlaw12.SessionWrong', WHERE WHAT IT READS IS OF BULK AT MOST 1048576: true; the input reads as it did. -/
def sessionWrongUptoRow : OpenClaim := { program := "ytplkahhkogncjaagreat", sum := "8c2b01d7c6e46d37329547cbf3054bf3469a95f331e7eac417104fefb2f87e10", func := "signpost/signpostlaw12.SessionWrong", spec := "sessionWrong", inPlace := ["internal/bytealg.MakeNoZero"], unfollowed := true, recurses := true, apart := false, narrowed := true }
def SessionWrongUptoSaid : Prop := sessionWrongUptoRow.holds Tryz.pinned (OpenSpec.upto sessionWrongSpec)

/-- 'signpostlaw12.SessionClocks', WHERE WHAT IT READS IS OF BULK AT MOST 1048576: true; the input reads as it did. -/
def sessionClocksUptoRow : OpenClaim := { program := "ytplkahhkogncjaagreat", sum := "8c2b01d7c6e46d37329547cbf3054bf3469a95f331e7eac417104fefb2f87e10", func := "signpost/signpostlaw12.SessionClocks", spec := "sessionClocks", inPlace := ["internal/bytealg.MakeNoZero"], unfollowed := true, recurses := true, apart := false, narrowed := true }
def SessionClocksUptoSaid : Prop := sessionClocksUptoRow.holds Tryz.pinned (OpenSpec.upto sessionClocksSpec)

/-- 'signpostlaw12.SessionSilent', WHERE WHAT IT READS IS OF BULK AT MOST 1048576: true; the input reads as it did. -/
def sessionSilentUptoRow : OpenClaim := { program := "ytplkahhkogncjaagreat", sum := "8c2b01d7c6e46d37329547cbf3054bf3469a95f331e7eac417104fefb2f87e10", func := "signpost/signpostlaw12.SessionSilent", spec := "sessionSilent", inPlace := ["internal/bytealg.MakeNoZero"], unfollowed := true, recurses := true, apart := false, narrowed := true }
def SessionSilentUptoSaid : Prop := sessionSilentUptoRow.holds Tryz.pinned (OpenSpec.upto sessionSilentSpec)

/-- 'signpostlaw12.SessionNumbers', WHERE WHAT IT READS IS OF BULK AT MOST 1048576: true; the input reads as it did. -/
def sessionNumbersUptoRow : OpenClaim := { program := "ytplkahhkogncjaagreat", sum := "8c2b01d7c6e46d37329547cbf3054bf3469a95f331e7eac417104fefb2f87e10", func := "signpost/signpostlaw12.SessionNumbers", spec := "sessionNumbers", inPlace := ["internal/bytealg.MakeNoZero"], unfollowed := true, recurses := true, apart := false, narrowed := true }
def SessionNumbersUptoSaid : Prop := sessionNumbersUptoRow.holds Tryz.pinned (OpenSpec.upto sessionNumbersSpec)

/-- 'signpostlaw12.SessionPlays', WHERE WHAT IT READS IS OF BULK AT MOST 1048576: true; the input reads as it did. -/
def sessionPlaysUptoRow : OpenClaim := { program := "ytplkahhkogncjaagreat", sum := "8c2b01d7c6e46d37329547cbf3054bf3469a95f331e7eac417104fefb2f87e10", func := "signpost/signpostlaw12.SessionPlays", spec := "sessionPlays", inPlace := ["internal/bytealg.MakeNoZero"], unfollowed := true, recurses := true, apart := false, narrowed := true }
def SessionPlaysUptoSaid : Prop := sessionPlaysUptoRow.holds Tryz.pinned (OpenSpec.upto sessionPlaysSpec)

/-- 'signpostlaw12.SessionEnds', WHERE WHAT IT READS IS OF BULK AT MOST 1048576: true; the input reads as it did. -/
def sessionEndsUptoRow : OpenClaim := { program := "ytplkahhkogncjaagreat", sum := "8c2b01d7c6e46d37329547cbf3054bf3469a95f331e7eac417104fefb2f87e10", func := "signpost/signpostlaw12.SessionEnds", spec := "sessionEnds", inPlace := ["internal/bytealg.MakeNoZero"], unfollowed := true, recurses := true, apart := false, narrowed := true }
def SessionEndsUptoSaid : Prop := sessionEndsUptoRow.holds Tryz.pinned (OpenSpec.upto sessionEndsSpec)

end Rows
end Go.Proofs.YtplkahhkogncjaaGreat
