/- A part of the proof: a logic for calls over plain values, and the functions that the law reaches, each walked once. -/
import Derived.Test.YtfnoblcmfmdeaaaPC17
import Derived.Below
set_option linter.unusedVariables false
set_option linter.unusedSimpArgs false
set_option linter.unusedSectionVars false

/- Ex8 -/
namespace Go.Am
open Go.RowKit

/-- A call of no arguments that gives true, out of its word on abstract values. -/
theorem true_below {P : Program} {f : Nat} (h : ACalls P f [] (fun _ => none) (fun b _ => b = .bool true)) (w : World) :
    Calls P f #[] w fun e w' => e = .returned (.bool true) ∧ Below w.heap.size w w' := by
  have hs : Sim ⟨fun _ => none, fun _ => False⟩ (fun _ => none) w :=
    { lt := fun b hb => hb.elim, fin := ⟨0, fun _ _ => rfl⟩, blk := fun i b base hi => (by cases hi), used := fun i o hi => (by cases hi),
      inj := fun i j oi oj b base base' hi => (by cases hi), apart := fun i o b base hi => (by cases hi) }
  have := h.2 _ w [] hs .nil
  refine this.mono ?_
  rintro e w' ⟨v, a, G', σ', rfl, hx, _, hv, rfl⟩
  have hv' := hv.of_bool
  subst hv'
  exact ⟨rfl, hx.os, hx.tape, hx.output, hx.size, fun k hk => hx.keep k hk (fun ⟨_, _, _, h1, _⟩ => by cases h1)⟩

end Go.Am
