/- A part of the proof: a logic for calls over plain values, and the functions that the law reaches, each walked once. -/
import Derived.Test.YtjmkofmkkpenmaaPE19
import Derived.Below
import Derived.Laws.AppendOwn
set_option linter.unusedVariables false
set_option linter.unusedSimpArgs false
set_option linter.unusedSectionVars false

/- Ex9 -/
namespace Go.Am
open Go.RowKit

/-! ## A rule for slices.AppendSeq over slices.Values -/
def toZ (k : IntKind) : List (List AV) → Option (List Int)
  | [] => some []
  | [.int j n] :: r => if j = k then (toZ k r).map (n :: ·) else none
  | _ => none

theorem toZ_eq {k : IntKind} : ∀ {xs : List (List AV)} {zs : List Int}, toZ k xs = some zs → xs = zs.map fun n => [.int k n]
  | [], zs, h => by cases h; rfl
  | x :: r, zs, h => by
    unfold toZ at h
    split at h
    · rename_i he; cases he
    · rename_i j n r' he
      cases he
      split at h
      · rename_i hk
        obtain ⟨ws, h1, rfl⟩ := Option.map_eq_some_iff.1 h
        rw [toZ_eq h1, hk]; rfl
      · cases h
    · cases h

def seqRule (FV : Nat) (k : IntKind) (byt : Nat) (args : List AV) (s : CS) : Rt :=
  match args with
  | [.nils, .fn g [.ptr id 0]] => bif Nat.beq g FV then match s.t.get id with
    | some (some (.box [S])) => match slc s.st 1 S with
      | some xs => match toZ k xs with
        | some zs => bif Nat.ble (zs.length * byt) 140737488355328 then match xs with
            | [] => .ok .nils s
            | x :: r => match s.push s.next (.arr 1 (x :: r)) with
              | some s' => .ok (.os s.next 1 0 (x :: r).length) s'
              | none => .bad [201]
          else .bad [202]
        | none => .bad [203]
      | none => .bad [204]
    | _ => .bad [205]
    else .bad [206]
  | _ => .bad [207]

/-- What the program's own AppendSeq does. -/
def SeqHolds (P : Program) (FA FV : Nat) (k : IntKind) (TE : TypeId) (byt : Nat) : Prop :=
  ∀ (Bs oB b off cap : Nat) (pa : Option Addr) (zs : List Int) (w : World), zs.length * byt ≤ 140737488355328 → Bs < w.heap.size → (0 < zs.length → pa = some ⟨b, off, none⟩ ∧ b < w.heap.size) →
    w.cell? ⟨Bs, oB, none⟩ = some (.slice pa zs.length cap) → (∀ j, j < zs.length → w.cell? ⟨b, off + j, none⟩ = some (.int k (zs[j]?.getD 0))) →
    Calls P FA #[.slice none 0 0, .func (.func FV) #[] #[.pointer (some ⟨Bs, oB, none⟩)]] w fun e W' => ∃ v, e = .returned v ∧
      W'.ownsRow w.heap.size TE 1 v zs.length (zs.map (Value.int k)) ∧ (v = .slice none 0 0 ↔ zs = []) ∧ Below w.heap.size w W'

theorem Sim.below {G : Gh} {σ : Store} {w w' : World} (h : Sim G σ w) (hb : Below w.heap.size w w') : Ext G σ w G σ w' ∧ Sim G σ w' := by
  have hx : Ext G σ w G σ w' :=
    { tape := hb.tape, os := hb.os, output := hb.output, size := hb.size
      keep := fun b hb' _ => hb.block b hb'
      shape := fun b hb' => by simp only [World.shape?, hb.block b hb']
      ρ := fun _ _ h => h, I := fun _ h => h, newI := fun _ h => .inl h, newOwn := fun _ h => .inl h, newId := fun _ o h => .inl ⟨o, h⟩ }
  refine ⟨hx, ?_⟩
  exact
    { lt := fun b hb' => Nat.lt_of_lt_of_le (h.lt b hb') hb.size, fin := h.fin, blk := fun i b base h' => Nat.lt_of_lt_of_le (h.blk i b base h') hb.size
      used := fun i o ho => by
        obtain ⟨b, base, h1, h2⟩ := h.used i o ho
        exact ⟨b, base, h1, h2.grow (hb.block b (h.blk i b base h1)) fun a v hv => hx.vrel h hv⟩
      inj := h.inj, apart := h.apart }

theorem cell_lt {w : World} {b o : Nat} {v : Value} (h : w.cell? ⟨b, o, none⟩ = some v) : b < w.heap.size := by
  unfold World.cell? at h
  dsimp only at h
  split at h
  · rename_i hh
    exact (Array.getElem?_eq_some_iff.1 hh).1
  · cases h

theorem seqRule_ok {P : Program} {FA FV : Nat} {k : IntKind} {TE : TypeId} {byt : Nat} (hent : Ent P FA) (H : SeqHolds P FA FV k TE byt) : RuleOk P FA (seqRule FV k byt) := by
  refine ⟨fun args s hw a s' h => ?_, fun args s m σ a s' hR hsc h => ?_⟩
  · unfold seqRule at h
    simp only [cond_eq_ite] at h
    repeat' split at h
    all_goals first
      | (cases h; done)
      | (cases h; exact Pu.refl _)
      | (cases h; exact push_pu (lim_le _) ‹_›)
  · unfold seqRule at h
    split at h
    · rename_i g id
      cases hg : Nat.beq g FV with
      | false => rw [hg] at h; cases h
      | true =>
        rw [hg] at h
        have hg := Nat.eq_of_beq_eq_true hg
        subst hg
        simp only [cond_true] at h
        split at h
        · rename_i S hS
          have hst := st_some.2 hS
          split at h
          · rename_i xs hxs
            split at h
            · rename_i zs hzs
              cases hb : Nat.ble (zs.length * byt) 140737488355328 with
              | false => rw [hb] at h; cases h
              | true =>
                rw [hb] at h
                simp only [cond_true] at h
                have hle := Nat.le_of_ble_eq_true hb
                have hxz := toZ_eq hzs
                have hxs' := slc_ren hR.live hxs
                have hren : ∀ m' : Nat → Nat, xs.map (List.map (AV.ren m')) = xs := fun m' => by
                  rw [hxz, List.map_map]; apply List.map_congr_left; intro n _; simp
                rw [hren] at hxs'
                have hbox := hR.live _ _ hst
                refine ⟨hent, fun G w vs hs hvs => ?_⟩
                simp only [List.map, ren_nils, ren_fn, ren_ptr] at hvs
                cases hvs with
                | cons hv1 hvs =>
                cases hvs with
                | cons hv2 hvs =>
                cases hvs
                obtain rfl := hv1.of_nils
                obtain ⟨cs, rfl, hcl, hcv⟩ := hv2.of_fn
                match cs, hcl with
                | [c], _ =>
                  have hc := hcv 0 (by simp) (by simp)
                  simp only [List.getElem_cons_zero] at hc
                  obtain ⟨b0, base, hb0, rfl⟩ := hc.of_ptr
                  obtain ⟨b0', base', hb0', ho⟩ := hs.used _ _ hbox
                  rw [hb0] at hb0'; cases hb0'
                  cases ho with
                  | box hh hsz hf hv =>
                    rename_i cs0 ty0
                    simp only [List.map, List.length_cons, List.length_nil] at hsz
                    have hvS := hv 0 (by simp)
                    simp only [List.map, List.getElem_cons_zero] at hvS
                    generalize hvs0 : cs0.getD (base + 0) undef = vS at hvS
                    have hcell0 : w.cell? ⟨b0, base + 0, none⟩ = some vS := by
                      rw [cell?_heap hh, ← hvs0, Array.getD_eq_getD_getElem?, Array.getElem?_eq_getElem (by omega)]; rfl
                    obtain ⟨pb, cap, rfl, hcap, hcells⟩ := slc_rel hs hvS hxs'
                    have hlen : xs.length = zs.length := by rw [hxz]; simp
                    have hb0lt := cell_lt hcell0
                    obtain ⟨b, off, hpa, hcs⟩ : ∃ b off, (0 < zs.length → pb = some ⟨b, off, none⟩ ∧ b < w.heap.size) ∧ ∀ j, j < zs.length → w.cell? ⟨b, off + j, none⟩ = some (.int k (zs[j]?.getD 0)) := by
                      rcases hcells with h0 | ⟨blk, o, hpb, f, ⟨_, _, hf3⟩, hcc⟩
                      · refine ⟨0, 0, fun hp => ?_, fun j hj => ?_⟩
                        · rw [h0] at hlen; simp at hlen; omega
                        · rw [h0] at hlen; simp at hlen; omega
                      · have key : ∀ j, j < zs.length → w.cell? ⟨blk, o + j, none⟩ = some (.int k (zs[j]?.getD 0)) := fun j hj => by
                          have h1 := hcc j (by omega)
                          have hjx : j < xs.length := by omega
                          have e : xs[j] = [.int k zs[j]] := by
                            have := congrArg (fun l : List (List AV) => l[j]?) hxz
                            simp only [List.getElem?_eq_getElem hjx, List.getElem?_map, List.getElem?_eq_getElem hj, Option.map_some, Option.some.injEq] at this
                            exact this
                          have h2 := hf3 j 0 hjx (by rw [e]; simp)
                          simp only [e, List.getElem_cons_zero, Nat.mul_one, Nat.add_zero] at h2
                          rw [h1, h2.of_int, List.getElem?_eq_getElem hj]; rfl
                        exact ⟨blk, o, fun hp => ⟨hpb, cell_lt (key 0 hp)⟩, key⟩
                    have hcall := H b0 (base + 0) b off cap pb zs w hle hb0lt hpa (by rw [hcell0, hlen]) hcs
                    refine hcall.mono ?_
                    rintro e w' ⟨v, rfl, hrow, hnil, hbel⟩
                    cases hx : xs with
                    | nil =>
                      rw [hx] at h
                      cases h
                      have hz0 : zs = [] := by
                        have : zs.length = 0 := by rw [← hlen, hx]; rfl
                        exact List.length_eq_zero_iff.1 this
                      obtain ⟨g1, g2⟩ := hs.below hbel
                      refine ⟨v, .nils, G, σ, rfl, g1, g2, by rw [hnil.2 hz0]; exact .nils, m, Agr.refl _ _, hR, sc_nils, by simp⟩
                    | cons x r =>
                      rw [hx] at h
                      simp only at h
                      split at h
                      · rename_i s1 hp
                        cases h
                        obtain ⟨id', hidρ, hidσ⟩ := hs.fresh
                        obtain ⟨hrl, hrow⟩ := hrow
                        have hzne : zs ≠ [] := fun h0 => by rw [h0] at hlen; rw [hx] at hlen; simp at hlen
                        rcases hrow with ⟨hv0, _⟩ | ⟨g, cap', cur, rfl, hgle, hgc, hncap, hcapm, hcur, htake⟩
                        · exact (hzne (hnil.1 hv0)).elim
                        · have hglt : g < w'.heap.size := (Array.getElem?_eq_some_iff.1 hgc).1
                          have hsc' : ScO m (U s) (.arr 1 (x :: r)) := fun m' _ => by simp only [Obj.ren]; rw [← hx, hren, hren]
                          obtain ⟨k1, k2, k3, k4⟩ := hR.push hp hsc' hidσ (lim_le _)
                          have hob : (Obj.arr 1 (x :: r)).ren m = .arr 1 (zs.map fun n => [.int k n]) := by
                            simp only [Obj.ren]; rw [← hx, hren, hxz]
                          rw [hob] at k1
                          obtain ⟨G', g1, g2, g3⟩ := hs.adopt (o := .arr 1 (zs.map fun n => [.int k n])) hidρ hidσ hgle hglt hbel.size hbel.tape hbel.os hbel.output hbel.block (fun G' _ _ _ => by
                            refine .arr (cs := cur) hgc (by simp; omega) (fun e he => ?_) (fun e he => ?_) (fun i j hi hj => ?_)
                            · obtain ⟨n, _, rfl⟩ := List.mem_map.1 he; rfl
                            · obtain ⟨n, _, rfl⟩ := List.mem_map.1 he
                              intro c hc; simp at hc; subst hc; rfl
                            · have hi' : i < zs.length := by simpa using hi
                              simp only [List.getElem_map, List.length_cons, List.length_nil] at hj ⊢
                              have hj0 : j = 0 := by omega
                              subst hj0
                              simp only [List.getElem_cons_zero]
                              have h5 : cur[i]? = some (.int k zs[i]) := by
                                have := congrArg (fun l : List Value => l[i]?) htake
                                simp only [Nat.mul_one, List.getElem?_take_of_lt hi', List.getElem?_map, List.getElem?_eq_getElem hi', Option.map_some, Array.getElem?_toList] at this
                                exact this
                              have : cur.getD (0 + (i * 1 + 0)) undef = .int k zs[i] := by
                                rw [Array.getD_eq_getD_getElem?, show 0 + (i * 1 + 0) = i by omega, h5]; rfl
                              rw [this]; exact .int _ _)
                          have hlx : (x :: r).length = zs.length := by rw [← hx, hlen]
                          refine ⟨_, .os id' 1 0 (x :: r).length, G', _, rfl, g1, g2, ?_, ext m s.next id', k2, k1, sc_os k3, by rw [ren_os, k4]⟩
                          have hsh : w'.shape? g = some (TE, cur.size) := by simp only [World.shape?, hgc]
                          have := VRel.os (G := G') (w := w') (esz := 1) (off := 0) (len := zs.length) (c := cap') g3 hncap ⟨TE, cur.size, hsh, by omega⟩
                          rw [hlx]
                          simpa using this
                      · cases h
            · cases h
          · cases h
        · cases h
    · cases h

end Go.Am

/- Sq -/
namespace Go.Am
open Go.RowKit

/-- slices.AppendSeq onto nil, over slices.Values of a slice that lies in a box. -/
theorem seq_call {P : Program} {FA FV : Nat} {k : IntKind} {TE : TypeId} {byt : Nat} (hent : Ent P FA) (H : SeqHolds P FA FV k TE byt) {σ : Store} {id : Nat} {S : AV} {zs : List Int} (hbox : σ id = some (.box [S]))
    (hS : slc σ 1 S = some (zs.map fun n => [.int k n])) (hle : zs.length * byt ≤ 140737488355328) :
    ACalls P FA [.nils, .fn FV [.ptr id 0]] σ (fun a s => (zs = [] ∧ a = .nils ∧ s = σ) ∨ (zs ≠ [] ∧ ∃ g, σ g = none ∧ a = .os g 1 0 zs.length ∧ s = σ.set g (.arr 1 (zs.map fun n => [.int k n])))) := by
  refine ⟨hent, fun G w vs hs hvs => ?_⟩
  cases hvs with
  | cons hv1 hvs =>
  cases hvs with
  | cons hv2 hvs =>
  cases hvs
  obtain rfl := hv1.of_nils
  obtain ⟨cs, rfl, hcl, hcv⟩ := hv2.of_fn
  match cs, hcl with
  | [c], _ =>
    have hc := hcv 0 (by simp) (by simp)
    simp only [List.getElem_cons_zero] at hc
    obtain ⟨b0, base, hb0, rfl⟩ := hc.of_ptr
    obtain ⟨b0', base', hb0', ho⟩ := hs.used _ _ hbox
    rw [hb0] at hb0'; cases hb0'
    cases ho with
    | box hh hsz hf hv =>
      rename_i cs0 ty0
      simp only [List.length_cons, List.length_nil] at hsz
      have hvS := hv 0 (by simp)
      simp only [List.getElem_cons_zero] at hvS
      generalize hvs0 : cs0.getD (base + 0) undef = vS at hvS
      have hcell0 : w.cell? ⟨b0, base + 0, none⟩ = some vS := by
        rw [cell?_heap hh, ← hvs0, Array.getD_eq_getD_getElem?, Array.getElem?_eq_getElem (by omega)]; rfl
      obtain ⟨pb, cap, rfl, hcap, hcells⟩ := slc_rel hs hvS hS
      have hlen : (zs.map fun n => [AV.int k n]).length = zs.length := by simp
      have hb0lt := cell_lt hcell0
      obtain ⟨b, off, hpa, hcs⟩ : ∃ b off, (0 < zs.length → pb = some ⟨b, off, none⟩ ∧ b < w.heap.size) ∧ ∀ j, j < zs.length → w.cell? ⟨b, off + j, none⟩ = some (.int k (zs[j]?.getD 0)) := by
        rcases hcells with h0 | ⟨blk, o, hpb, f, ⟨_, _, hf3⟩, hcc⟩
        · have hz : zs.length = 0 := by rw [← hlen, h0]; rfl
          exact ⟨0, 0, fun hp => by omega, fun j hj => by omega⟩
        · have key : ∀ j, j < zs.length → w.cell? ⟨blk, o + j, none⟩ = some (.int k (zs[j]?.getD 0)) := fun j hj => by
            have h1 := hcc j (by omega)
            have hjx : j < (zs.map fun n => [AV.int k n]).length := by omega
            have h2 := hf3 j 0 hjx (by simp)
            simp only [List.getElem_map, List.getElem_cons_zero, Nat.mul_one, Nat.add_zero] at h2
            rw [h1, h2.of_int, List.getElem?_eq_getElem hj]; rfl
          exact ⟨blk, o, fun hp => ⟨hpb, cell_lt (key 0 hp)⟩, key⟩
      have hcall := H b0 (base + 0) b off cap pb zs w hle hb0lt hpa (by rw [hcell0, hlen]) hcs
      refine hcall.mono ?_
      rintro e w' ⟨v, rfl, hrow, hnil, hbel⟩
      by_cases hz : zs = []
      · obtain ⟨g1, g2⟩ := hs.below hbel
        exact ⟨v, .nils, G, σ, rfl, g1, g2, by rw [hnil.2 hz]; exact .nils, .inl ⟨hz, rfl, rfl⟩⟩
      · obtain ⟨id', hidρ, hidσ⟩ := hs.fresh
        obtain ⟨hrl, hrow⟩ := hrow
        rcases hrow with ⟨hv0, _⟩ | ⟨g, cap', cur, rfl, hgle, hgc, hncap, hcapm, hcur, htake⟩
        · exact (hz (hnil.1 hv0)).elim
        · have hglt : g < w'.heap.size := (Array.getElem?_eq_some_iff.1 hgc).1
          obtain ⟨G', g1, g2, g3⟩ := hs.adopt (o := .arr 1 (zs.map fun n => [.int k n])) hidρ hidσ hgle hglt hbel.size hbel.tape hbel.os hbel.output hbel.block (fun G' _ _ _ => by
            refine .arr (cs := cur) hgc (by simp; omega) (fun e he => ?_) (fun e he => ?_) (fun i j hi hj => ?_)
            · obtain ⟨n, _, rfl⟩ := List.mem_map.1 he; rfl
            · obtain ⟨n, _, rfl⟩ := List.mem_map.1 he
              intro c hc; simp at hc; subst hc; rfl
            · have hi' : i < zs.length := by simpa using hi
              simp only [List.getElem_map, List.length_cons, List.length_nil] at hj ⊢
              have hj0 : j = 0 := by omega
              subst hj0
              simp only [List.getElem_cons_zero]
              have h5 : cur[i]? = some (.int k zs[i]) := by
                have := congrArg (fun l : List Value => l[i]?) htake
                simp only [Nat.mul_one, List.getElem?_take_of_lt hi', List.getElem?_map, List.getElem?_eq_getElem hi', Option.map_some, Array.getElem?_toList] at this
                exact this
              have : cur.getD (0 + (i * 1 + 0)) undef = .int k zs[i] := by
                rw [Array.getD_eq_getD_getElem?, show 0 + (i * 1 + 0) = i by omega, h5]; rfl
              rw [this]; exact .int _ _)
          refine ⟨_, .os id' 1 0 zs.length, G', _, rfl, g1, g2, ?_, .inr ⟨hz, id', hidσ, rfl, rfl⟩⟩
          have hsh : w'.shape? g = some (TE, cur.size) := by simp only [World.shape?, hgc]
          have := VRel.os (G := G') (w := w') (esz := 1) (off := 0) (len := zs.length) (c := cap') g3 hncap ⟨TE, cur.size, hsh, by omega⟩
          simpa using this
end Go.Am

/- Gl4 -/
namespace Go.Am
open Go.RowKit
/-- Whatever the one stands for, the other stands for, too. -/
def Imp (x y : AV) : Prop := y.flat = true ∧ ∀ G w v, VRel G w x v → VRel G w y v
theorem Imp.refl {x : AV} (h : x.flat = true) : Imp x x := ⟨h, fun _ _ _ h => h⟩
theorem Imp.nils {esz : Nat} : Imp .nils (.sl esz []) := ⟨rfl, fun _ _ _ h => by have := h.of_nils; subst this; exact .sl0⟩
abbrev ImpL (xs ys : List AV) : Prop := Rels Imp xs ys
theorem ImpL.refl : ∀ (l : List AV), (∀ x ∈ l, x.flat = true) → ImpL l l
  | [], _ => .nil
  | x :: l, h => .cons (.refl (h x (by simp))) (ImpL.refl l fun y hy => h y (by simp [hy]))
theorem ImpL.flat {a b : List AV} (h : ImpL a b) : ∀ x ∈ b, x.flat = true := by
  induction h with
  | nil => simp
  | cons h1 _ ih => intro x hx; exact (List.mem_cons.1 hx).elim (fun e => e ▸ h1.1) (ih x)
theorem Imp.sl {esz : Nat} {es es' : List (List AV)} (h : Rels ImpL es es') : Imp (.sl esz es) (.sl esz es') := by
  refine ⟨rfl, fun G w v hv => ?_⟩
  by_cases he : es = []
  · subst he
    cases h
    exact hv
  · have hl := h.length
    have hne : es' ≠ [] := fun e => he (List.length_eq_zero_iff.1 (by rw [hl, e]; rfl))
    have hget : ∀ i (hi : i < es.length) (hi' : i < es'.length), ImpL es[i] es'[i] := fun i hi hi' => by
      obtain ⟨b, hb, hr⟩ := h.get i _ (List.getElem?_eq_getElem hi)
      rw [List.getElem?_eq_getElem hi'] at hb; cases hb; exact hr
    cases hv with
    | sl0 => exact (he rfl).elim
    | sl vs hb hne' hcap hlen hf hc hvv =>
      have hlen' : ∀ cs ∈ es', cs.length = esz := fun cs hcs => by
        obtain ⟨i, hi, rfl⟩ := List.getElem_of_mem hcs
        rw [← (hget i (by omega) hi).length]; exact hlen _ (List.getElem_mem _)
      have := VRel.sl (G := G) (w := w) (esz := esz) (es := es') vs hb hne (by rw [← hl]; exact hcap) hlen'
        (fun cs hcs => by
          obtain ⟨i, hi, rfl⟩ := List.getElem_of_mem hcs
          exact (hget i (by omega) hi).flat)
        (fun i j hi hj => hc i j (by omega) hj)
        (fun i j hi hj => by
          have h1 := hget i (by omega) hi
          obtain ⟨b, hb', hr⟩ := h1.get j _ (List.getElem?_eq_getElem (by rw [h1.length]; exact hj))
          rw [List.getElem?_eq_getElem hj] at hb'; cases hb'
          exact hr.2 _ _ _ (hvv i j (by omega) (by rw [h1.length]; exact hj)))
      rw [hl]; exact this
theorem sl_imp {P : Program} {n : Nat} {e : TypeId} {α : Type} (c : α → List AV) (ok : α → Prop) (hd : ∀ x, TOk P n e x → ∃ r, ImpL x (c r) ∧ ok r) : ∀ (es : List (List AV)), (∀ x ∈ es, TOk P n e x) → ∃ rs : List α, Rels ImpL es (rs.map c) ∧ ∀ r ∈ rs, ok r
  | [], _ => ⟨[], .nil, by simp⟩
  | x :: es, h => by
    obtain ⟨r, hr, ho⟩ := hd x (h x (by simp))
    obtain ⟨rs, hrs, hos⟩ := sl_imp c ok hd es (fun y hy => h y (by simp [hy]))
    exact ⟨r :: rs, .cons hr hrs, fun q hq => (List.mem_cons.1 hq).elim (fun e => e ▸ ho) (hos q)⟩
/-- A slice, nil or not, with its elements told anew. -/
theorem TOk.slI {P : Program} {n sz by_ : Nat} {t e : TypeId} {xs : List AV} (ht : P.underlying t = some (.slice e)) (hs : P.cellsOf e = sz) (hb : P.bytesOf e = by_) {α : Type} (c : α → List AV) (ok : α → Prop) (hd : ∀ x, TOk P n e x → ∃ r, ImpL x (c r) ∧ ok r)
    (h : TOk P (n + 1) t xs) : ∃ rs : List α, ImpL xs [.sl sz (rs.map c)] ∧ (rs.length * by_ ≤ reachBytes) ∧ ∀ r ∈ rs, ok r := by
  unfold TOk at h
  simp only [ht] at h
  rcases h with h | ⟨es, rfl, hz, hx⟩
  · subst h; exact ⟨[], .cons .nils .nil, by simp, by simp⟩
  · obtain ⟨rs, hr, ho⟩ := sl_imp c ok hd es hx
    have hl := hr.length
    rw [List.length_map] at hl
    exact ⟨rs, .cons (by rw [hs]; exact .sl hr) .nil, by rw [← hl, ← hb]; exact hz, ho⟩
theorem ImpL.append {a b c d : List AV} (h : ImpL a b) (h' : ImpL c d) : ImpL (a ++ c) (b ++ d) := Rels.append h h'
theorem ImpL.one {x : AV} (h : x.flat = true) : ImpL [x] [x] := .cons (.refl h) .nil
end Go.Am
