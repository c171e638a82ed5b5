/- The sentence of SessionSilent, proved: the law's function gives true, for every input, order and tape. No conditions. -/
import Derived.Test.YtplkahhkogncjaaGreatRows
import Derived.Test.YtplkahhkogncjaaGreatQC17
import Derived.WalkKit
import Derived.ProofKit
import Derived.OpenShut
import Derived.ShutString
import Derived.ChangeOld
import Derived.Below
import Derived.SizedLaws
import Derived.Carry
namespace Go.Proofs.YtplkahhkogncjaaGreat.sessionSilent
open Go.ChangeShapes Go.WideShapes Go.ChangeAt Go.RowKit Go.Am
open Go.ChangeMaps (open_string shut_string)
set_option linter.unusedVariables false
theorem own : ownKnob Tryz.prog.godebug = none := by kernel_rfl
theorem laidOut : laidOutB Tryz.prog = true := by kernel_rfl
set_option maxRecDepth 100000 in
theorem lifted (os : Os) (started : os.Started) (H : Type) (enc : TypeId × Value → H) :
    ReturnsInHanded {} Tryz.checked os 9 .any (Rows.sessionSilentSpec.pre6 enc Tryz.prog Tryz.f9 Rows.sessionSilentRow.domain false) (Rows.sessionSilentSpec.post enc Tryz.prog Tryz.f9 false true false false) := by
  refine returnsInHanded_of_change_sized (C := Tryz.checked) own started (by kernel_rfl) Tryz.func9
    (ChangeSpec.witness6 (enc := enc) (C := Tryz.checked) false ⟨#[], #[.int .i64 0], []⟩ 8 (by kernel_rfl) (by kernel_rfl) (by kernel_rfl) (by kernel_rfl)) ?_
  intro W base args ds gs before hval0 hW hcnd hsz0 _
  have hsz : (DataW.weightsEach Tryz.prog (Tryz.f9.params.toList ++ Rows.sessionSilentSpec.plain.varTypes Tryz.prog) (ds ++ gs)).all (· ≤ reachBytes) = true := hsz0
  have hval : ∀ (j : Nat) t v, Tryz.f9.params[j]? = some t → args[j]? = some v → Value.okWide Tryz.prog W .any base t v := hval0
  have hW' := hW
  obtain ⟨p, q, hA0, hV, rfl, hfz, hnd⟩ := hW
  have hA : DataW.TrodAll enc Tryz.prog W 0 (fun _ => true) true Tryz.f9.params.toList args.toList ds p := hA0
  rw [Tryz.params9] at hA hval hsz
  obtain ⟨v0, vs0, d0, ds0, p0, q0, hargs, rfl, rfl, h0, r0⟩ := trodAll_cons hA
  obtain ⟨rfl, rfl, rfl⟩ := trodAll_nil r0
  obtain rfl : args = #[v0] := by cases args; simp_all
  obtain ⟨rfl, rfl⟩ := trodVars_none hV
  have k0 := h0
  have lt0 : ∀ x ∈ p0, x.block < W.heap.size := by obtain ⟨m, hm⟩ := k0; exact DataW.trod_lt m _ _ _ hm
  obtain ⟨y0, rfl, rfl, rfl, w0⟩ := open_int Tryz.underlying3 (hval 0 3 v0 rfl rfl) h0
  have W0 := (wfI) w0
  clear hA0 hval0 hsz0 hsz
  refine (zhl (zfj y0 W0) (.cons (.int _ _) .nil)).mono fun e W' ⟨he, bel⟩ => ?_
  subst he
  exact ⟨_, rfl, _, _, _, [], _, [], hW', trodAll_mk1 (shut_bool Tryz.underlying4 _), (trodAll_cons_mk (Below.trod laidOut (by kernel_rfl) (of_decide_eq_true (by kernel_rfl)) k0 bel lt0) trodAll_mk0), rfl, bel.frame _, fun h => by cases h⟩
theorem zAnd {a b : Bool} (h : a = true) (h2 : b = true) : (a && b) = true := by rw [h, h2]; rfl
theorem closed_0 : (Rows.sessionSilentRow.wf (OpenSpec.ofChange Rows.sessionSilentSpec)) = true := by kernel_rfl
theorem closed_1 : (laidOutB Tryz.pinned.checked.prog) = true := by kernel_rfl
theorem closed_2 : (mapsRowed Tryz.pinned.checked.prog) = true := by kernel_rfl
theorem closed_3 : (Tryz.f9.params.all (Tryz.pinned.checked.prog.readableRec ·)) = true := by kernel_rfl
theorem closed_4 : (namedTie Tryz.pinned.checked.prog Rows.sessionSilentRow.named Rows.sessionSilentSpec.vars) = true := by kernel_rfl
theorem closed_5 : ((Rows.sessionSilentRow.stops == [])) = true := by kernel_rfl
theorem closed_6 : ((Tryz.pinned.checked.prog.stops == [])) = true := by kernel_rfl
theorem closed_7 : ((Rows.sessionSilentRow.knobs == [])) = true := by kernel_rfl
theorem closed_8 : ((Tryz.pinned.checked.prog.stopKnobs == [])) = true := by kernel_rfl
theorem closed_9 : ((Rows.sessionSilentRow.inPlace == Tryz.pinned.checked.prog.inPlace 9)) = true := by kernel_rfl
theorem closed_10 : ((Rows.sessionSilentRow.unfollowed == Tryz.pinned.checked.prog.unfollowed 9)) = true := by kernel_rfl
theorem closed_11 : ((Rows.sessionSilentRow.recurses == Tryz.pinned.checked.prog.recurses 9)) = true := by kernel_rfl
theorem closed_12 : ((Rows.sessionSilentRow.named == Tryz.pinned.checked.prog.varsNamed 9)) = true := by kernel_rfl
theorem closed_13 : ((Rows.sessionSilentRow.maps == (Tryz.f9.params.toList ++ Rows.sessionSilentSpec.plain.varTypes Tryz.pinned.checked.prog).any (Tryz.pinned.checked.prog.mapsRec ·))) = true := by kernel_rfl
theorem closed_14 : ((Rows.sessionSilentRow.ifaces == (Tryz.f9.params.toList ++ Rows.sessionSilentSpec.plain.varTypes Tryz.pinned.checked.prog).any (Tryz.pinned.checked.prog.ifacesRec ·))) = true := by kernel_rfl
theorem closed_15 : ((Rows.sessionSilentRow.mapsOut == Tryz.pinned.checked.prog.mapsAmong Tryz.f9.resultTypes.toList)) = true := by kernel_rfl
theorem closed_16 : ((Rows.sessionSilentRow.loops == (Tryz.f9.params.toList ++ Rows.sessionSilentSpec.plain.varTypes Tryz.pinned.checked.prog).any (Tryz.pinned.checked.prog.loopsFrom ·))) = true := by kernel_rfl
theorem closed_17 : ((Rows.sessionSilentRow.wideKeys == (Tryz.f9.params.toList ++ Rows.sessionSilentSpec.plain.varTypes Tryz.pinned.checked.prog ++ Tryz.f9.resultTypes.toList).any (Tryz.pinned.checked.prog.wideKeysFrom ·))) = true := by kernel_rfl
theorem closed_18 : (Rows.sessionSilentSpec.vars.all (Tryz.pinned.checked.prog.varReadable ·)) = true := by kernel_rfl
theorem closed_19 : (Tryz.f9.resultTypes.all (fun t => Tryz.pinned.checked.prog.readableRec t && decide (t < Tryz.pinned.checked.prog.types.size))) = true := by kernel_rfl
theorem closed_20 : ((Rows.sessionSilentRow.ifacesOut == Tryz.f9.resultTypes.toList.any (Tryz.pinned.checked.prog.ifacesRec ·))) = true := by kernel_rfl
theorem closed_21 : ((Rows.sessionSilentRow.loopsOut == Tryz.f9.resultTypes.toList.any (Tryz.pinned.checked.prog.loopsFrom ·))) = true := by kernel_rfl
theorem closed_22 : ((Rows.sessionSilentRow.plainKeys == Tryz.pinned.checked.prog.plainKeys)) = true := by kernel_rfl
theorem closed_23 : (Rows.sessionSilentRow.shortTexts.isNone) = true := by kernel_rfl
theorem closed_24 : (Tryz.pinned.checked.prog.stopsHeard) = true := by kernel_rfl
theorem closed_25 : (Tryz.pinned.checked.prog.mayEnter) = true := by kernel_rfl
theorem closed_26 : ((Rows.sessionSilentRow.lifted == Tryz.pinned.checked.prog.liftsFinal)) = true := by kernel_rfl
theorem closed_27 : ((Tryz.pinned.checked.prog.make == some Rows.sessionSilentRow.make)) = true := by kernel_rfl
theorem closed_28 : ((Rows.sessionSilentRow.kinds == (if Rows.sessionSilentRow.domain.isEmpty then [] else Tryz.f9.params.toList.map fun t => match Tryz.pinned.checked.prog.underlying t with | some (.int k) => some k | _ => none))) = true := by kernel_rfl
theorem closed_29 : ((Rows.sessionSilentRow.pinned == Rows.sessionSilentRow.pinnedBy)) = true := by kernel_rfl
theorem closed_30 : ((Rows.sessionSilentRow.veiled == (Tryz.f9.params.toList ++ Rows.sessionSilentSpec.plain.varTypes Tryz.pinned.checked.prog ++ Tryz.f9.resultTypes.toList).any (Tryz.pinned.checked.prog.veiledRec ·))) = true := by kernel_rfl
theorem closed_31 : (Rows.sessionSilentRow.veiledFits Tryz.pinned.checked.prog Tryz.f9.params.toList (Tryz.f9.params.toList ++ Rows.sessionSilentSpec.plain.varTypes Tryz.pinned.checked.prog ++ Tryz.f9.resultTypes.toList)) = true := by kernel_rfl
set_option maxRecDepth 100000 in
theorem closed_all : joinedFacts Tryz.pinned.checked.prog 9 Tryz.f9 Rows.sessionSilentSpec Rows.sessionSilentRow = true := (zAnd (zAnd (zAnd (zAnd (zAnd (zAnd (zAnd (zAnd (zAnd (zAnd (zAnd (zAnd (zAnd (zAnd (zAnd (zAnd (zAnd (zAnd (zAnd (zAnd (zAnd (zAnd (zAnd (zAnd (zAnd (zAnd (zAnd (zAnd (zAnd (zAnd (zAnd closed_0 closed_1) closed_2) closed_3) closed_4) closed_5) closed_6) closed_7) closed_8) closed_9) closed_10) closed_11) closed_12) closed_13) closed_14) closed_15) closed_16) closed_17) closed_18) closed_19) closed_20) closed_21) closed_22) closed_23) closed_24) closed_25) closed_26) closed_27) closed_28) closed_29) closed_30) closed_31)
theorem over : Rows.sessionSilentRow.holds Tryz.pinned (OpenSpec.ofChange Rows.sessionSilentSpec) :=
  OpenClaim.holds_of_wide 9 Tryz.f9 rfl rfl rfl rfl rfl rfl rfl ⟨rfl, rfl, rfl, rfl, rfl⟩ rfl rfl rfl rfl rfl (by kernel_rfl) Tryz.func9 closed_all
    (of_decide_eq_true (by kernel_rfl)) (by unfold Func.isWrapper; first | (rw [if_pos (by decide +kernel)]; kernel_rfl) | (rw [if_neg (by decide +kernel)]; exact ⟨rfl, rfl⟩))
    (fun os started H enc _ => lifted os started H enc)
theorem proved : Rows.SessionSilentSaid := over
#print axioms proved
end Go.Proofs.YtplkahhkogncjaaGreat.sessionSilent
namespace Go.Proofs.YtplkahhkogncjaaGreat
/-- The row, under a short name, for the claim. -/
theorem sessionSilent_holds : Rows.SessionSilentSaid := sessionSilent.proved
end Go.Proofs.YtplkahhkogncjaaGreat

