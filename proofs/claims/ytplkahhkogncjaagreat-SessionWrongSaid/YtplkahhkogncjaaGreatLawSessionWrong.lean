/- The sentence of SessionWrong, proved: the law's function gives true, for every input, order and tape. No conditions. -/
import Derived.Test.YtplkahhkogncjaaGreatRows
import Derived.Test.YtplkahhkogncjaaGreatQC17
import Derived.WalkKit
import Derived.ProofKit
import Derived.OpenShut
import Derived.ShutString
import Derived.ChangeOld
import Derived.Below
import Derived.SizedLaws
import Derived.Carry
namespace Go.Proofs.YtplkahhkogncjaaGreat.sessionWrong
open Go.ChangeShapes Go.WideShapes Go.ChangeAt Go.RowKit Go.Am
open Go.ChangeMaps (open_string shut_string)
set_option linter.unusedVariables false
theorem own : ownKnob Tryz.prog.godebug = none := by kernel_rfl
theorem laidOut : laidOutB Tryz.prog = true := by kernel_rfl
set_option maxRecDepth 100000 in
theorem lifted (os : Os) (started : os.Started) (H : Type) (enc : TypeId × Value → H) :
    ReturnsInHanded {} Tryz.checked os 7 .any (Rows.sessionWrongSpec.pre6 enc Tryz.prog Tryz.f7 Rows.sessionWrongRow.domain false) (Rows.sessionWrongSpec.post enc Tryz.prog Tryz.f7 false true false false) := by
  refine returnsInHanded_of_change_sized (C := Tryz.checked) own started (by kernel_rfl) Tryz.func7
    (ChangeSpec.witness6 (enc := enc) (C := Tryz.checked) false ⟨#[], #[.int .i64 0, .int .i64 0], []⟩ 8 (by kernel_rfl) (by kernel_rfl) (by kernel_rfl) (by kernel_rfl)) ?_
  intro W base args ds gs before hval0 hW hcnd hsz0 _
  have hsz : (DataW.weightsEach Tryz.prog (Tryz.f7.params.toList ++ Rows.sessionWrongSpec.plain.varTypes Tryz.prog) (ds ++ gs)).all (· ≤ reachBytes) = true := hsz0
  have hval : ∀ (j : Nat) t v, Tryz.f7.params[j]? = some t → args[j]? = some v → Value.okWide Tryz.prog W .any base t v := hval0
  have hW' := hW
  obtain ⟨p, q, hA0, hV, rfl, hfz, hnd⟩ := hW
  have hA : DataW.TrodAll enc Tryz.prog W 0 (fun _ => true) true Tryz.f7.params.toList args.toList ds p := hA0
  rw [Tryz.params7] at hA hval hsz
  obtain ⟨v0, vs0, d0, ds0, p0, q0, hargs, rfl, rfl, h0, r0⟩ := trodAll_cons hA
  obtain ⟨v1, vs1, d1, ds1, p1, q1, rfl, rfl, rfl, h1, r1⟩ := trodAll_cons r0
  obtain ⟨rfl, rfl, rfl⟩ := trodAll_nil r1
  obtain rfl : args = #[v0, v1] := by cases args; simp_all
  obtain ⟨rfl, rfl⟩ := trodVars_none hV
  have k0 := h0
  have lt0 : ∀ x ∈ p0, x.block < W.heap.size := by obtain ⟨m, hm⟩ := k0; exact DataW.trod_lt m _ _ _ hm
  obtain ⟨y0, rfl, rfl, rfl, w0⟩ := open_int Tryz.underlying3 (hval 0 3 v0 rfl rfl) h0
  have W0 := (wfI) w0
  have k1 := h1
  have lt1 : ∀ x ∈ p1, x.block < W.heap.size := by obtain ⟨m, hm⟩ := k1; exact DataW.trod_lt m _ _ _ hm
  obtain ⟨y1, rfl, rfl, rfl, w1⟩ := open_int Tryz.underlying3 (hval 1 3 v1 rfl rfl) h1
  have W1 := (wfI) w1
  clear hA0 hval0 hsz0 hsz
  refine (zhl (zg1 y0 W0 y1 W1) (.cons (.int _ _) (.cons (.int _ _) .nil))).mono fun e W' ⟨he, bel⟩ => ?_
  subst he
  exact ⟨_, rfl, _, _, _, [], _, [], hW', trodAll_mk1 (shut_bool Tryz.underlying4 _), (trodAll_cons_mk (Below.trod laidOut (by kernel_rfl) (of_decide_eq_true (by kernel_rfl)) k0 bel lt0) (trodAll_cons_mk (Below.trod laidOut (by kernel_rfl) (of_decide_eq_true (by kernel_rfl)) k1 bel lt1) trodAll_mk0)), rfl, bel.frame _, fun h => by cases h⟩
theorem zAnd {a b : Bool} (h : a = true) (h2 : b = true) : (a && b) = true := by rw [h, h2]; rfl
theorem closed_0 : (Rows.sessionWrongRow.wf (OpenSpec.ofChange Rows.sessionWrongSpec)) = true := by kernel_rfl
theorem closed_1 : (laidOutB Tryz.pinned.checked.prog) = true := by kernel_rfl
theorem closed_2 : (mapsRowed Tryz.pinned.checked.prog) = true := by kernel_rfl
theorem closed_3 : (Tryz.f7.params.all (Tryz.pinned.checked.prog.readableRec ·)) = true := by kernel_rfl
theorem closed_4 : (namedTie Tryz.pinned.checked.prog Rows.sessionWrongRow.named Rows.sessionWrongSpec.vars) = true := by kernel_rfl
theorem closed_5 : ((Rows.sessionWrongRow.stops == [])) = true := by kernel_rfl
theorem closed_6 : ((Tryz.pinned.checked.prog.stops == [])) = true := by kernel_rfl
theorem closed_7 : ((Rows.sessionWrongRow.knobs == [])) = true := by kernel_rfl
theorem closed_8 : ((Tryz.pinned.checked.prog.stopKnobs == [])) = true := by kernel_rfl
theorem closed_9 : ((Rows.sessionWrongRow.inPlace == Tryz.pinned.checked.prog.inPlace 7)) = true := by kernel_rfl
theorem closed_10 : ((Rows.sessionWrongRow.unfollowed == Tryz.pinned.checked.prog.unfollowed 7)) = true := by kernel_rfl
theorem closed_11 : ((Rows.sessionWrongRow.recurses == Tryz.pinned.checked.prog.recurses 7)) = true := by kernel_rfl
theorem closed_12 : ((Rows.sessionWrongRow.named == Tryz.pinned.checked.prog.varsNamed 7)) = true := by kernel_rfl
theorem closed_13 : ((Rows.sessionWrongRow.maps == (Tryz.f7.params.toList ++ Rows.sessionWrongSpec.plain.varTypes Tryz.pinned.checked.prog).any (Tryz.pinned.checked.prog.mapsRec ·))) = true := by kernel_rfl
theorem closed_14 : ((Rows.sessionWrongRow.ifaces == (Tryz.f7.params.toList ++ Rows.sessionWrongSpec.plain.varTypes Tryz.pinned.checked.prog).any (Tryz.pinned.checked.prog.ifacesRec ·))) = true := by kernel_rfl
theorem closed_15 : ((Rows.sessionWrongRow.mapsOut == Tryz.pinned.checked.prog.mapsAmong Tryz.f7.resultTypes.toList)) = true := by kernel_rfl
theorem closed_16 : ((Rows.sessionWrongRow.loops == (Tryz.f7.params.toList ++ Rows.sessionWrongSpec.plain.varTypes Tryz.pinned.checked.prog).any (Tryz.pinned.checked.prog.loopsFrom ·))) = true := by kernel_rfl
theorem closed_17 : ((Rows.sessionWrongRow.wideKeys == (Tryz.f7.params.toList ++ Rows.sessionWrongSpec.plain.varTypes Tryz.pinned.checked.prog ++ Tryz.f7.resultTypes.toList).any (Tryz.pinned.checked.prog.wideKeysFrom ·))) = true := by kernel_rfl
theorem closed_18 : (Rows.sessionWrongSpec.vars.all (Tryz.pinned.checked.prog.varReadable ·)) = true := by kernel_rfl
theorem closed_19 : (Tryz.f7.resultTypes.all (fun t => Tryz.pinned.checked.prog.readableRec t && decide (t < Tryz.pinned.checked.prog.types.size))) = true := by kernel_rfl
theorem closed_20 : ((Rows.sessionWrongRow.ifacesOut == Tryz.f7.resultTypes.toList.any (Tryz.pinned.checked.prog.ifacesRec ·))) = true := by kernel_rfl
theorem closed_21 : ((Rows.sessionWrongRow.loopsOut == Tryz.f7.resultTypes.toList.any (Tryz.pinned.checked.prog.loopsFrom ·))) = true := by kernel_rfl
theorem closed_22 : ((Rows.sessionWrongRow.plainKeys == Tryz.pinned.checked.prog.plainKeys)) = true := by kernel_rfl
theorem closed_23 : (Rows.sessionWrongRow.shortTexts.isNone) = true := by kernel_rfl
theorem closed_24 : (Tryz.pinned.checked.prog.stopsHeard) = true := by kernel_rfl
theorem closed_25 : (Tryz.pinned.checked.prog.mayEnter) = true := by kernel_rfl
theorem closed_26 : ((Rows.sessionWrongRow.lifted == Tryz.pinned.checked.prog.liftsFinal)) = true := by kernel_rfl
theorem closed_27 : ((Tryz.pinned.checked.prog.make == some Rows.sessionWrongRow.make)) = true := by kernel_rfl
theorem closed_28 : ((Rows.sessionWrongRow.kinds == (if Rows.sessionWrongRow.domain.isEmpty then [] else Tryz.f7.params.toList.map fun t => match Tryz.pinned.checked.prog.underlying t with | some (.int k) => some k | _ => none))) = true := by kernel_rfl
theorem closed_29 : ((Rows.sessionWrongRow.pinned == Rows.sessionWrongRow.pinnedBy)) = true := by kernel_rfl
theorem closed_30 : ((Rows.sessionWrongRow.veiled == (Tryz.f7.params.toList ++ Rows.sessionWrongSpec.plain.varTypes Tryz.pinned.checked.prog ++ Tryz.f7.resultTypes.toList).any (Tryz.pinned.checked.prog.veiledRec ·))) = true := by kernel_rfl
theorem closed_31 : (Rows.sessionWrongRow.veiledFits Tryz.pinned.checked.prog Tryz.f7.params.toList (Tryz.f7.params.toList ++ Rows.sessionWrongSpec.plain.varTypes Tryz.pinned.checked.prog ++ Tryz.f7.resultTypes.toList)) = true := by kernel_rfl
set_option maxRecDepth 100000 in
theorem closed_all : joinedFacts Tryz.pinned.checked.prog 7 Tryz.f7 Rows.sessionWrongSpec Rows.sessionWrongRow = true := (zAnd (zAnd (zAnd (zAnd (zAnd (zAnd (zAnd (zAnd (zAnd (zAnd (zAnd (zAnd (zAnd (zAnd (zAnd (zAnd (zAnd (zAnd (zAnd (zAnd (zAnd (zAnd (zAnd (zAnd (zAnd (zAnd (zAnd (zAnd (zAnd (zAnd (zAnd closed_0 closed_1) closed_2) closed_3) closed_4) closed_5) closed_6) closed_7) closed_8) closed_9) closed_10) closed_11) closed_12) closed_13) closed_14) closed_15) closed_16) closed_17) closed_18) closed_19) closed_20) closed_21) closed_22) closed_23) closed_24) closed_25) closed_26) closed_27) closed_28) closed_29) closed_30) closed_31)
theorem over : Rows.sessionWrongRow.holds Tryz.pinned (OpenSpec.ofChange Rows.sessionWrongSpec) :=
  OpenClaim.holds_of_wide 7 Tryz.f7 rfl rfl rfl rfl rfl rfl rfl ⟨rfl, rfl, rfl, rfl, rfl⟩ rfl rfl rfl rfl rfl (by kernel_rfl) Tryz.func7 closed_all
    (of_decide_eq_true (by kernel_rfl)) (by unfold Func.isWrapper; first | (rw [if_pos (by decide +kernel)]; kernel_rfl) | (rw [if_neg (by decide +kernel)]; exact ⟨rfl, rfl⟩))
    (fun os started H enc _ => lifted os started H enc)
theorem proved : Rows.SessionWrongSaid := over
#print axioms proved
end Go.Proofs.YtplkahhkogncjaaGreat.sessionWrong
namespace Go.Proofs.YtplkahhkogncjaaGreat
/-- The row, under a short name, for the claim. -/
theorem sessionWrong_holds : Rows.SessionWrongSaid := sessionWrong.proved
end Go.Proofs.YtplkahhkogncjaaGreat

