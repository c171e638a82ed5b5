/- The sentence of ExportNumbers, proved: the law's function gives true, for every input, order and tape. No conditions. -/
import Derived.Test.YtplkahhkogncjaaGreatRows
import Derived.Test.YtplkahhkogncjaaGreatQB17
import Derived.WalkKit
import Derived.ProofKit
import Derived.OpenShut
import Derived.ShutString
import Derived.ChangeOld
import Derived.Below
import Derived.SizedLaws
import Derived.Carry
namespace Go.Proofs.YtplkahhkogncjaaGreat.exportNumbers
open Go.ChangeShapes Go.WideShapes Go.ChangeAt Go.RowKit Go.Am
open Go.ChangeMaps (open_string shut_string)
set_option linter.unusedVariables false
theorem own : ownKnob Tryz.prog.godebug = none := by kernel_rfl
theorem laidOut : laidOutB Tryz.prog = true := by kernel_rfl
set_option maxRecDepth 100000 in
theorem lifted (os : Os) (started : os.Started) (H : Type) (enc : TypeId × Value → H) :
    ReturnsInHanded {} Tryz.checked os 3 .any (Rows.exportNumbersSpec.pre6 enc Tryz.prog Tryz.f3 Rows.exportNumbersRow.domain false) (Rows.exportNumbersSpec.post enc Tryz.prog Tryz.f3 false true false false) := by
  refine returnsInHanded_of_change_sized (C := Tryz.checked) own started (by kernel_rfl) Tryz.func3
    (ChangeSpec.witness6 (enc := enc) (C := Tryz.checked) false ⟨#[], #[], []⟩ 8 (by kernel_rfl) (by kernel_rfl) (by kernel_rfl) (by kernel_rfl)) ?_
  intro W base args ds gs before hval0 hW hcnd hsz0 _
  have hsz : (DataW.weightsEach Tryz.prog (Tryz.f3.params.toList ++ Rows.exportNumbersSpec.plain.varTypes Tryz.prog) (ds ++ gs)).all (· ≤ reachBytes) = true := hsz0
  have hval : ∀ (j : Nat) t v, Tryz.f3.params[j]? = some t → args[j]? = some v → Value.okWide Tryz.prog W .any base t v := hval0
  have hW' := hW
  obtain ⟨p, q, hA0, hV, rfl, hfz, hnd⟩ := hW
  have hA : DataW.TrodAll enc Tryz.prog W 0 (fun _ => true) true Tryz.f3.params.toList args.toList ds p := hA0
  rw [Tryz.params3] at hA hval hsz
  obtain ⟨rfl, rfl, rfl⟩ := trodAll_none hA
  obtain ⟨rfl, rfl⟩ := trodVars_none hV
  clear hA0 hval0 hsz0 hsz
  refine (zfi (zbs ) .nil).mono fun e W' ⟨he, bel⟩ => ?_
  subst he
  exact ⟨_, rfl, _, _, _, [], _, [], hW', trodAll_mk1 (shut_bool Tryz.underlying4 _), trodAll_mk0, rfl, bel.frame _, fun h => by cases h⟩
theorem zAnd {a b : Bool} (h : a = true) (h2 : b = true) : (a && b) = true := by rw [h, h2]; rfl
theorem closed_0 : (Rows.exportNumbersRow.wf (OpenSpec.ofChange Rows.exportNumbersSpec)) = true := by kernel_rfl
theorem closed_1 : (laidOutB Tryz.pinned.checked.prog) = true := by kernel_rfl
theorem closed_2 : (mapsRowed Tryz.pinned.checked.prog) = true := by kernel_rfl
theorem closed_3 : (Tryz.f3.params.all (Tryz.pinned.checked.prog.readableRec ·)) = true := by kernel_rfl
theorem closed_4 : (namedTie Tryz.pinned.checked.prog Rows.exportNumbersRow.named Rows.exportNumbersSpec.vars) = true := by kernel_rfl
theorem closed_5 : ((Rows.exportNumbersRow.stops == [])) = true := by kernel_rfl
theorem closed_6 : ((Tryz.pinned.checked.prog.stops == [])) = true := by kernel_rfl
theorem closed_7 : ((Rows.exportNumbersRow.knobs == [])) = true := by kernel_rfl
theorem closed_8 : ((Tryz.pinned.checked.prog.stopKnobs == [])) = true := by kernel_rfl
theorem closed_9 : ((Rows.exportNumbersRow.inPlace == Tryz.pinned.checked.prog.inPlace 3)) = true := by kernel_rfl
theorem closed_10 : ((Rows.exportNumbersRow.unfollowed == Tryz.pinned.checked.prog.unfollowed 3)) = true := by kernel_rfl
theorem closed_11 : ((Rows.exportNumbersRow.recurses == Tryz.pinned.checked.prog.recurses 3)) = true := by kernel_rfl
theorem closed_12 : ((Rows.exportNumbersRow.named == Tryz.pinned.checked.prog.varsNamed 3)) = true := by kernel_rfl
theorem closed_13 : ((Rows.exportNumbersRow.maps == (Tryz.f3.params.toList ++ Rows.exportNumbersSpec.plain.varTypes Tryz.pinned.checked.prog).any (Tryz.pinned.checked.prog.mapsRec ·))) = true := by kernel_rfl
theorem closed_14 : ((Rows.exportNumbersRow.ifaces == (Tryz.f3.params.toList ++ Rows.exportNumbersSpec.plain.varTypes Tryz.pinned.checked.prog).any (Tryz.pinned.checked.prog.ifacesRec ·))) = true := by kernel_rfl
theorem closed_15 : ((Rows.exportNumbersRow.mapsOut == Tryz.pinned.checked.prog.mapsAmong Tryz.f3.resultTypes.toList)) = true := by kernel_rfl
theorem closed_16 : ((Rows.exportNumbersRow.loops == (Tryz.f3.params.toList ++ Rows.exportNumbersSpec.plain.varTypes Tryz.pinned.checked.prog).any (Tryz.pinned.checked.prog.loopsFrom ·))) = true := by kernel_rfl
theorem closed_17 : ((Rows.exportNumbersRow.wideKeys == (Tryz.f3.params.toList ++ Rows.exportNumbersSpec.plain.varTypes Tryz.pinned.checked.prog ++ Tryz.f3.resultTypes.toList).any (Tryz.pinned.checked.prog.wideKeysFrom ·))) = true := by kernel_rfl
theorem closed_18 : (Rows.exportNumbersSpec.vars.all (Tryz.pinned.checked.prog.varReadable ·)) = true := by kernel_rfl
theorem closed_19 : (Tryz.f3.resultTypes.all (fun t => Tryz.pinned.checked.prog.readableRec t && decide (t < Tryz.pinned.checked.prog.types.size))) = true := by kernel_rfl
theorem closed_20 : ((Rows.exportNumbersRow.ifacesOut == Tryz.f3.resultTypes.toList.any (Tryz.pinned.checked.prog.ifacesRec ·))) = true := by kernel_rfl
theorem closed_21 : ((Rows.exportNumbersRow.loopsOut == Tryz.f3.resultTypes.toList.any (Tryz.pinned.checked.prog.loopsFrom ·))) = true := by kernel_rfl
theorem closed_22 : ((Rows.exportNumbersRow.plainKeys == Tryz.pinned.checked.prog.plainKeys)) = true := by kernel_rfl
theorem closed_23 : (Rows.exportNumbersRow.shortTexts.isNone) = true := by kernel_rfl
theorem closed_24 : (Tryz.pinned.checked.prog.stopsHeard) = true := by kernel_rfl
theorem closed_25 : (Tryz.pinned.checked.prog.mayEnter) = true := by kernel_rfl
theorem closed_26 : ((Rows.exportNumbersRow.lifted == Tryz.pinned.checked.prog.liftsFinal)) = true := by kernel_rfl
theorem closed_27 : ((Tryz.pinned.checked.prog.make == some Rows.exportNumbersRow.make)) = true := by kernel_rfl
theorem closed_28 : ((Rows.exportNumbersRow.kinds == (if Rows.exportNumbersRow.domain.isEmpty then [] else Tryz.f3.params.toList.map fun t => match Tryz.pinned.checked.prog.underlying t with | some (.int k) => some k | _ => none))) = true := by kernel_rfl
theorem closed_29 : ((Rows.exportNumbersRow.pinned == Rows.exportNumbersRow.pinnedBy)) = true := by kernel_rfl
theorem closed_30 : ((Rows.exportNumbersRow.veiled == (Tryz.f3.params.toList ++ Rows.exportNumbersSpec.plain.varTypes Tryz.pinned.checked.prog ++ Tryz.f3.resultTypes.toList).any (Tryz.pinned.checked.prog.veiledRec ·))) = true := by kernel_rfl
theorem closed_31 : (Rows.exportNumbersRow.veiledFits Tryz.pinned.checked.prog Tryz.f3.params.toList (Tryz.f3.params.toList ++ Rows.exportNumbersSpec.plain.varTypes Tryz.pinned.checked.prog ++ Tryz.f3.resultTypes.toList)) = true := by kernel_rfl
set_option maxRecDepth 100000 in
theorem closed_all : joinedFacts Tryz.pinned.checked.prog 3 Tryz.f3 Rows.exportNumbersSpec Rows.exportNumbersRow = true := (zAnd (zAnd (zAnd (zAnd (zAnd (zAnd (zAnd (zAnd (zAnd (zAnd (zAnd (zAnd (zAnd (zAnd (zAnd (zAnd (zAnd (zAnd (zAnd (zAnd (zAnd (zAnd (zAnd (zAnd (zAnd (zAnd (zAnd (zAnd (zAnd (zAnd (zAnd closed_0 closed_1) closed_2) closed_3) closed_4) closed_5) closed_6) closed_7) closed_8) closed_9) closed_10) closed_11) closed_12) closed_13) closed_14) closed_15) closed_16) closed_17) closed_18) closed_19) closed_20) closed_21) closed_22) closed_23) closed_24) closed_25) closed_26) closed_27) closed_28) closed_29) closed_30) closed_31)
theorem over : Rows.exportNumbersRow.holds Tryz.pinned (OpenSpec.ofChange Rows.exportNumbersSpec) :=
  OpenClaim.holds_of_wide 3 Tryz.f3 rfl rfl rfl rfl rfl rfl rfl ⟨rfl, rfl, rfl, rfl, rfl⟩ rfl rfl rfl rfl rfl (by kernel_rfl) Tryz.func3 closed_all
    (of_decide_eq_true (by kernel_rfl)) (by unfold Func.isWrapper; first | (rw [if_pos (by decide +kernel)]; kernel_rfl) | (rw [if_neg (by decide +kernel)]; exact ⟨rfl, rfl⟩))
    (fun os started H enc _ => lifted os started H enc)
theorem proved : Rows.ExportNumbersSaid := over
#print axioms proved
end Go.Proofs.YtplkahhkogncjaaGreat.exportNumbers
namespace Go.Proofs.YtplkahhkogncjaaGreat
/-- The row, under a short name, for the claim. -/
theorem exportNumbers_holds : Rows.ExportNumbersSaid := exportNumbers.proved
end Go.Proofs.YtplkahhkogncjaaGreat

