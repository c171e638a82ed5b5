/- A part of the proof: a logic for calls over plain values, and the functions that the law reaches, each walked once. -/
import Derived.Test.YtjmkofmkkpenmaaPE16
set_option linter.unusedVariables false
set_option linter.unusedSimpArgs false
set_option linter.unusedSectionVars false

/- Ex7 -/
namespace Go.Am

/-- The compiled form of a function, for runs. -/
def Fn.mkX {P : Program} {fi : Nat} (pref : Bool) (b : BC) (slots : List RS) (N : Nat) (fn : Func) (c : Code) (h1 : P.funcs[fi]? = some fn) (h2 : (fn.name == "runtime.NumGoroutine") = false) (h3 : fn.body = some c) (h4 : fn.ntmps = N)
    (h5 : compX P pref N (slots.map RS.slot) c = some b) (h6 : fn.results.toList.mapM (compRS P) = some slots) : Fn P fi :=
  ⟨b, slots, N, fn, c, h1, h2, h3, h4, by rw [h4]; exact compX_ok h5, h6⟩

/-- What a table holds of a function. -/
inductive Held (P : Program) (f : Nat) where
  | fn (F : Fn P f)
  | rule (p : List AV → CS → Rt) (h : RuleOk P f p)

def Held.fd {P : Program} {f : Nat} : Held P f → FD
  | .fn F => ⟨F.b, F.slots, F.N, none⟩
  | .rule p _ => ⟨.skip, [], 0, some p⟩

def tabOf {P : Program} (t : T ((f : Nat) × Held P f)) (f : Nat) : Option FD :=
  match t.get f with
  | some ⟨g, F⟩ => bif Nat.beq g f then some F.fd else none
  | none => none

theorem tabOf_ok {P : Program} (t : T ((f : Nat) × Held P f)) : TabOk P (tabOf t) := by
  intro f d h
  unfold tabOf at h
  split at h
  · rename_i g F _
    cases hb : Nat.beq g f with
    | false => rw [hb] at h; cases h
    | true =>
      rw [hb] at h
      have := Nat.eq_of_beq_eq_true hb
      subst this
      cases h
      cases F with
      | fn F => exact ⟨F, rfl, rfl, rfl⟩
      | rule p hp => exact hp
  · cases h

def isTrue : Rt → Bool
  | .ok (.bool b) _ => b
  | _ => false

theorem says_true {P : Program} {t : T ((f : Nat) × Held P f)} {fuel f : Nat} (h : isTrue (runF (tabOf t) fuel f []) = true) : ACalls P f [] (fun _ => none) (fun b _ => b = .bool true) := by
  rw [runF_eq] at h
  unfold isTrue at h
  split at h
  · rename_i b s hr
    subst h
    exact run_ok (tabOf_ok t) rfl rfl hr
  · cases h

end Go.Am
