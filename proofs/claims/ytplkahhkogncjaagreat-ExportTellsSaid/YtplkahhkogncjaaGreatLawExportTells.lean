/- The sentence of ExportTells, proved: the law's function gives true, for every input, order and tape. No conditions. -/
import Derived.Test.YtplkahhkogncjaaGreatRows
import Derived.Test.YtplkahhkogncjaaGreatQA17
import Derived.WalkKit
import Derived.ProofKit
import Derived.OpenShut
import Derived.ShutString
import Derived.ChangeOld
import Derived.Below
import Derived.SizedLaws
import Derived.Carry
namespace Go.Proofs.YtplkahhkogncjaaGreat.exportTells
open Go.ChangeShapes Go.WideShapes Go.ChangeAt Go.RowKit Go.Am
open Go.ChangeMaps (open_string shut_string)
set_option linter.unusedVariables false
theorem own : ownKnob Tryz.prog.godebug = none := by kernel_rfl
theorem laidOut : laidOutB Tryz.prog = true := by kernel_rfl
set_option maxRecDepth 100000 in
theorem lifted (os : Os) (started : os.Started) (H : Type) (enc : TypeId × Value → H) :
    ReturnsInHanded {} Tryz.checked os 4 .any (Rows.exportTellsSpec.pre6 enc Tryz.prog Tryz.f4 Rows.exportTellsRow.domain false) (Rows.exportTellsSpec.post enc Tryz.prog Tryz.f4 false true false false) := by
  refine returnsInHanded_of_change_sized (C := Tryz.checked) own started (by kernel_rfl) Tryz.func4
    (ChangeSpec.witness6 (enc := enc) (C := Tryz.checked) false ⟨#[], #[.agg #[.int .u32 0, .int .u32 0, .int .i64 0, .slice none 0 0, .int .i64 0, .int .i64 0, .int .i64 0], .int .i64 0, .agg #[.int .u32 0, .int .i64 0], .agg #[.int .i64 0, .int .u32 0, .int .u32 0, .bool false, .int .i64 0, .slice none 0 0, .int .u32 0, .bool false, .int .u32 0, .bool false, .int .u32 0, .bool false, .slice none 0 0], .agg #[.int .i64 0, .int .u32 0, .int .u32 0, .bool false, .int .i64 0, .slice none 0 0, .int .u32 0, .bool false, .int .u32 0, .bool false, .int .u32 0, .bool false, .slice none 0 0]], []⟩ 8 (by kernel_rfl) (by kernel_rfl) (by kernel_rfl) (by kernel_rfl)) ?_
  intro W base args ds gs before hval0 hW hcnd hsz0 _
  have hsz : (DataW.weightsEach Tryz.prog (Tryz.f4.params.toList ++ Rows.exportTellsSpec.plain.varTypes Tryz.prog) (ds ++ gs)).all (· ≤ reachBytes) = true := hsz0
  have hval : ∀ (j : Nat) t v, Tryz.f4.params[j]? = some t → args[j]? = some v → Value.okWide Tryz.prog W .any base t v := hval0
  have hW' := hW
  obtain ⟨p, q, hA0, hV, rfl, hfz, hnd⟩ := hW
  have hA : DataW.TrodAll enc Tryz.prog W 0 (fun _ => true) true Tryz.f4.params.toList args.toList ds p := hA0
  rw [Tryz.params4] at hA hval hsz
  obtain ⟨v0, vs0, d0, ds0, p0, q0, hargs, rfl, rfl, h0, r0⟩ := trodAll_cons hA
  obtain ⟨v1, vs1, d1, ds1, p1, q1, rfl, rfl, rfl, h1, r1⟩ := trodAll_cons r0
  obtain ⟨v2, vs2, d2, ds2, p2, q2, rfl, rfl, rfl, h2, r2⟩ := trodAll_cons r1
  obtain ⟨v3, vs3, d3, ds3, p3, q3, rfl, rfl, rfl, h3, r3⟩ := trodAll_cons r2
  obtain ⟨v4, vs4, d4, ds4, p4, q4, rfl, rfl, rfl, h4, r4⟩ := trodAll_cons r3
  obtain ⟨rfl, rfl, rfl⟩ := trodAll_nil r4
  obtain rfl : args = #[v0, v1, v2, v3, v4] := by cases args; simp_all
  obtain ⟨rfl, rfl⟩ := trodVars_none hV
  have k0 := h0
  have lt0 : ∀ x ∈ p0, x.block < W.heap.size := by obtain ⟨m, hm⟩ := k0; exact DataW.trod_lt m _ _ _ hm
  obtain ⟨cs0, rfl, _⟩ := okWide_struct Tryz.underlying25 (hval 0 25 v0 rfl rfl)
  obtain ⟨x0, e0, o0⟩ := zdp 7 (by kernel_rfl) h0 (zfp hsz (j := 0) rfl rfl)
  obtain ⟨y0, R0, O0⟩ := zhf e0 o0
  have k1 := h1
  have lt1 : ∀ x ∈ p1, x.block < W.heap.size := by obtain ⟨m, hm⟩ := k1; exact DataW.trod_lt m _ _ _ hm
  obtain ⟨y1, rfl, rfl, rfl, w1⟩ := open_int Tryz.underlying3 (hval 1 3 v1 rfl rfl) h1
  have W1 := (wfI) w1
  have k2 := h2
  have lt2 : ∀ x ∈ p2, x.block < W.heap.size := by obtain ⟨m, hm⟩ := k2; exact DataW.trod_lt m _ _ _ hm
  obtain ⟨cs2, rfl, _⟩ := okWide_struct Tryz.underlying40 (hval 2 40 v2 rfl rfl)
  obtain ⟨x2, e2, o2⟩ := zdp 2 (by kernel_rfl) h2 (zfp hsz (j := 2) rfl rfl)
  obtain ⟨y2, R2, O2⟩ := zhe e2 o2
  have k3 := h3
  have lt3 : ∀ x ∈ p3, x.block < W.heap.size := by obtain ⟨m, hm⟩ := k3; exact DataW.trod_lt m _ _ _ hm
  obtain ⟨cs3, rfl, _⟩ := okWide_struct Tryz.underlying36 (hval 3 36 v3 rfl rfl)
  obtain ⟨x3, e3, o3⟩ := zdp 6 (by kernel_rfl) h3 (zfp hsz (j := 3) rfl rfl)
  obtain ⟨y3, R3, O3⟩ := zhd e3 o3
  have k4 := h4
  have lt4 : ∀ x ∈ p4, x.block < W.heap.size := by obtain ⟨m, hm⟩ := k4; exact DataW.trod_lt m _ _ _ hm
  obtain ⟨cs4, rfl, _⟩ := okWide_struct Tryz.underlying36 (hval 4 36 v4 rfl rfl)
  obtain ⟨x4, e4, o4⟩ := zdp 6 (by kernel_rfl) h4 (zfp hsz (j := 4) rfl rfl)
  obtain ⟨y4, R4, O4⟩ := zhd e4 o4
  clear hA0 hval0 hsz0 hsz
  refine (zfq (zdq y0 O0 y1 W1 y2 O2 y3 O3 y4 O4) (.cons R0 (.cons (.int _ _) (.cons R2 (.cons R3 (.cons R4 .nil)))))).mono fun e W' ⟨he, bel⟩ => ?_
  subst he
  exact ⟨_, rfl, _, _, _, [], _, [], hW', trodAll_mk1 (shut_bool Tryz.underlying4 _), (trodAll_cons_mk (Below.trod laidOut (by kernel_rfl) (of_decide_eq_true (by kernel_rfl)) k0 bel lt0) (trodAll_cons_mk (Below.trod laidOut (by kernel_rfl) (of_decide_eq_true (by kernel_rfl)) k1 bel lt1) (trodAll_cons_mk (Below.trod laidOut (by kernel_rfl) (of_decide_eq_true (by kernel_rfl)) k2 bel lt2) (trodAll_cons_mk (Below.trod laidOut (by kernel_rfl) (of_decide_eq_true (by kernel_rfl)) k3 bel lt3) (trodAll_cons_mk (Below.trod laidOut (by kernel_rfl) (of_decide_eq_true (by kernel_rfl)) k4 bel lt4) trodAll_mk0))))), rfl, bel.frame _, fun h => by cases h⟩
theorem zAnd {a b : Bool} (h : a = true) (h2 : b = true) : (a && b) = true := by rw [h, h2]; rfl
theorem closed_0 : (Rows.exportTellsRow.wf (OpenSpec.ofChange Rows.exportTellsSpec)) = true := by kernel_rfl
theorem closed_1 : (laidOutB Tryz.pinned.checked.prog) = true := by kernel_rfl
theorem closed_2 : (mapsRowed Tryz.pinned.checked.prog) = true := by kernel_rfl
theorem closed_3 : (Tryz.f4.params.all (Tryz.pinned.checked.prog.readableRec ·)) = true := by kernel_rfl
theorem closed_4 : (namedTie Tryz.pinned.checked.prog Rows.exportTellsRow.named Rows.exportTellsSpec.vars) = true := by kernel_rfl
theorem closed_5 : ((Rows.exportTellsRow.stops == [])) = true := by kernel_rfl
theorem closed_6 : ((Tryz.pinned.checked.prog.stops == [])) = true := by kernel_rfl
theorem closed_7 : ((Rows.exportTellsRow.knobs == [])) = true := by kernel_rfl
theorem closed_8 : ((Tryz.pinned.checked.prog.stopKnobs == [])) = true := by kernel_rfl
theorem closed_9 : ((Rows.exportTellsRow.inPlace == Tryz.pinned.checked.prog.inPlace 4)) = true := by kernel_rfl
theorem closed_10 : ((Rows.exportTellsRow.unfollowed == Tryz.pinned.checked.prog.unfollowed 4)) = true := by kernel_rfl
theorem closed_11 : ((Rows.exportTellsRow.recurses == Tryz.pinned.checked.prog.recurses 4)) = true := by kernel_rfl
theorem closed_12 : ((Rows.exportTellsRow.named == Tryz.pinned.checked.prog.varsNamed 4)) = true := by kernel_rfl
theorem closed_13 : ((Rows.exportTellsRow.maps == (Tryz.f4.params.toList ++ Rows.exportTellsSpec.plain.varTypes Tryz.pinned.checked.prog).any (Tryz.pinned.checked.prog.mapsRec ·))) = true := by kernel_rfl
theorem closed_14 : ((Rows.exportTellsRow.ifaces == (Tryz.f4.params.toList ++ Rows.exportTellsSpec.plain.varTypes Tryz.pinned.checked.prog).any (Tryz.pinned.checked.prog.ifacesRec ·))) = true := by kernel_rfl
theorem closed_15 : ((Rows.exportTellsRow.mapsOut == Tryz.pinned.checked.prog.mapsAmong Tryz.f4.resultTypes.toList)) = true := by kernel_rfl
theorem closed_16 : ((Rows.exportTellsRow.loops == (Tryz.f4.params.toList ++ Rows.exportTellsSpec.plain.varTypes Tryz.pinned.checked.prog).any (Tryz.pinned.checked.prog.loopsFrom ·))) = true := by kernel_rfl
theorem closed_17 : ((Rows.exportTellsRow.wideKeys == (Tryz.f4.params.toList ++ Rows.exportTellsSpec.plain.varTypes Tryz.pinned.checked.prog ++ Tryz.f4.resultTypes.toList).any (Tryz.pinned.checked.prog.wideKeysFrom ·))) = true := by kernel_rfl
theorem closed_18 : (Rows.exportTellsSpec.vars.all (Tryz.pinned.checked.prog.varReadable ·)) = true := by kernel_rfl
theorem closed_19 : (Tryz.f4.resultTypes.all (fun t => Tryz.pinned.checked.prog.readableRec t && decide (t < Tryz.pinned.checked.prog.types.size))) = true := by kernel_rfl
theorem closed_20 : ((Rows.exportTellsRow.ifacesOut == Tryz.f4.resultTypes.toList.any (Tryz.pinned.checked.prog.ifacesRec ·))) = true := by kernel_rfl
theorem closed_21 : ((Rows.exportTellsRow.loopsOut == Tryz.f4.resultTypes.toList.any (Tryz.pinned.checked.prog.loopsFrom ·))) = true := by kernel_rfl
theorem closed_22 : ((Rows.exportTellsRow.plainKeys == Tryz.pinned.checked.prog.plainKeys)) = true := by kernel_rfl
theorem closed_23 : (Rows.exportTellsRow.shortTexts.isNone) = true := by kernel_rfl
theorem closed_24 : (Tryz.pinned.checked.prog.stopsHeard) = true := by kernel_rfl
theorem closed_25 : (Tryz.pinned.checked.prog.mayEnter) = true := by kernel_rfl
theorem closed_26 : ((Rows.exportTellsRow.lifted == Tryz.pinned.checked.prog.liftsFinal)) = true := by kernel_rfl
theorem closed_27 : ((Tryz.pinned.checked.prog.make == some Rows.exportTellsRow.make)) = true := by kernel_rfl
theorem closed_28 : ((Rows.exportTellsRow.kinds == (if Rows.exportTellsRow.domain.isEmpty then [] else Tryz.f4.params.toList.map fun t => match Tryz.pinned.checked.prog.underlying t with | some (.int k) => some k | _ => none))) = true := by kernel_rfl
theorem closed_29 : ((Rows.exportTellsRow.pinned == Rows.exportTellsRow.pinnedBy)) = true := by kernel_rfl
theorem closed_30 : ((Rows.exportTellsRow.veiled == (Tryz.f4.params.toList ++ Rows.exportTellsSpec.plain.varTypes Tryz.pinned.checked.prog ++ Tryz.f4.resultTypes.toList).any (Tryz.pinned.checked.prog.veiledRec ·))) = true := by kernel_rfl
theorem closed_31 : (Rows.exportTellsRow.veiledFits Tryz.pinned.checked.prog Tryz.f4.params.toList (Tryz.f4.params.toList ++ Rows.exportTellsSpec.plain.varTypes Tryz.pinned.checked.prog ++ Tryz.f4.resultTypes.toList)) = true := by kernel_rfl
set_option maxRecDepth 100000 in
theorem closed_all : joinedFacts Tryz.pinned.checked.prog 4 Tryz.f4 Rows.exportTellsSpec Rows.exportTellsRow = true := (zAnd (zAnd (zAnd (zAnd (zAnd (zAnd (zAnd (zAnd (zAnd (zAnd (zAnd (zAnd (zAnd (zAnd (zAnd (zAnd (zAnd (zAnd (zAnd (zAnd (zAnd (zAnd (zAnd (zAnd (zAnd (zAnd (zAnd (zAnd (zAnd (zAnd (zAnd closed_0 closed_1) closed_2) closed_3) closed_4) closed_5) closed_6) closed_7) closed_8) closed_9) closed_10) closed_11) closed_12) closed_13) closed_14) closed_15) closed_16) closed_17) closed_18) closed_19) closed_20) closed_21) closed_22) closed_23) closed_24) closed_25) closed_26) closed_27) closed_28) closed_29) closed_30) closed_31)
theorem over : Rows.exportTellsRow.holds Tryz.pinned (OpenSpec.ofChange Rows.exportTellsSpec) :=
  OpenClaim.holds_of_wide 4 Tryz.f4 rfl rfl rfl rfl rfl rfl rfl ⟨rfl, rfl, rfl, rfl, rfl⟩ rfl rfl rfl rfl rfl (by kernel_rfl) Tryz.func4 closed_all
    (of_decide_eq_true (by kernel_rfl)) (by unfold Func.isWrapper; first | (rw [if_pos (by decide +kernel)]; kernel_rfl) | (rw [if_neg (by decide +kernel)]; exact ⟨rfl, rfl⟩))
    (fun os started H enc _ => lifted os started H enc)
theorem proved : Rows.ExportTellsSaid := over
#print axioms proved
end Go.Proofs.YtplkahhkogncjaaGreat.exportTells
namespace Go.Proofs.YtplkahhkogncjaaGreat
/-- The row, under a short name, for the claim. -/
theorem exportTells_holds : Rows.ExportTellsSaid := exportTells.proved
end Go.Proofs.YtplkahhkogncjaaGreat

