/- A part of the proof: a logic for calls over plain values, and the functions that the law reaches, each walked once. -/
import Derived.Test.YtjmkofmkkpenmaaPE18
set_option linter.unusedVariables false
set_option linter.unusedSimpArgs false
set_option linter.unusedSectionVars false

/- Ex11 -/
namespace Go.Am
/-- What gives true out of nothing, does so beside anything. -/
theorem pur_true {P : Program} {f : Nat} (h : ACalls P f [] (fun _ => none) (fun b _ => b = .bool true)) : Pur P f [] (.bool true) := by
  intro φ
  have h1 := h.frame (φ := φ) (fun _ _ h => by cases h)
  have e : Store.union (fun _ => none) φ = φ := by funext j; rfl
  rw [e] at h1
  refine h1.weakRes ?_
  rintro a s ⟨σ', rfl, hd, rfl⟩
  exact Weak.forget (Store.sub_union_right hd) (Weak.pure ⟨rfl, rfl⟩)
end Go.Am
