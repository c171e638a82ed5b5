/- A part of the proof: a logic for calls over plain values, and a runner that is shown to be right. -/
import Derived.Test.YtmahfnljcfaicaaAm6
namespace Go.Am
set_option linter.unusedVariables false
set_option linter.unusedSimpArgs false

theorem splice_get : ∀ (off : Nat) (vs cs r : List AV), splice off vs cs = some r →
    r.length = cs.length ∧ off + vs.length ≤ cs.length ∧ ∀ k, r[k]? = if off ≤ k ∧ k < off + vs.length then vs[k - off]? else cs[k]?
  | 0, [], cs, r, h => by simp [splice] at h; subst h; exact ⟨rfl, by simp, fun k => by simp⟩
  | 0, v :: vs, c :: cs, r, h => by
    simp only [splice, Option.map_eq_some_iff] at h
    obtain ⟨r', h1, rfl⟩ := h
    obtain ⟨e1, e2, e3⟩ := splice_get 0 vs cs r' h1
    refine ⟨by simp [e1], by simp at e2 ⊢; omega, fun k => ?_⟩
    cases k with
    | zero => simp
    | succ k => have := e3 k; simp at this ⊢; exact this
  | 0, v :: vs, [], r, h => by simp [splice] at h
  | n + 1, vs, c :: cs, r, h => by
    simp only [splice, Option.map_eq_some_iff] at h
    obtain ⟨r', h1, rfl⟩ := h
    obtain ⟨e1, e2, e3⟩ := splice_get n vs cs r' h1
    refine ⟨by simp [e1], by simp at e2 ⊢; omega, fun k => ?_⟩
    cases k with
    | zero => simp
    | succ k =>
      have := e3 k
      simp only [List.getElem?_cons_succ, this]
      by_cases hc : n ≤ k ∧ k < n + vs.length
      · rw [if_pos hc, if_pos (by omega), Nat.add_sub_add_right]
      · rw [if_neg hc, if_neg (by omega)]
  | n + 1, vs, [], r, h => by cases vs <;> simp [splice] at h

theorem fold_get (off : Nat) : ∀ (l : List Value) (j : Nat) (cs : Array Value), off + j + l.length ≤ cs.size →
    ((l.zipIdx j).foldl (fun (cs : Array Value) (p : Value × Nat) => cs.setIfInBounds (off + p.2) p.1) cs).size = cs.size ∧
    ∀ k, ((l.zipIdx j).foldl (fun (cs : Array Value) (p : Value × Nat) => cs.setIfInBounds (off + p.2) p.1) cs)[k]? = if off + j ≤ k ∧ k < off + j + l.length then l[k - (off + j)]? else cs[k]?
  | [], j, cs, _ => by simp; intro k h1 h2; omega
  | v :: l, j, cs, h => by
    simp only [List.zipIdx_cons, List.foldl_cons]
    simp only [List.length_cons] at h
    obtain ⟨e1, e2⟩ := fold_get off l (j + 1) (cs.setIfInBounds (off + j) v) (by simp; omega)
    refine ⟨by rw [e1]; simp, fun k => ?_⟩
    rw [e2 k]
    simp only [List.length_cons]
    by_cases hk : k = off + j
    · subst hk
      rw [if_neg (by omega), if_pos (by omega)]
      have : off + j < cs.size := by omega
      simp [this]
    · by_cases hc : off + (j + 1) ≤ k ∧ k < off + (j + 1) + l.length
      · rw [if_pos hc, if_pos (by omega)]
        rw [show k - (off + j) = (k - (off + (j + 1))) + 1 by omega]; simp
      · rw [if_neg hc, if_neg (by omega)]
        rw [Array.getElem?_setIfInBounds_ne (by omega)]

theorem fill_fold (off : Nat) (v : Value) (cs : Array Value) (h : off + v.cells.size ≤ cs.size) :
    (v.cells.zipIdx.foldl (fun cs (c, j) => cs.setIfInBounds (off + j) c) cs).size = cs.size ∧
    ∀ k, (v.cells.zipIdx.foldl (fun cs (c, j) => cs.setIfInBounds (off + j) c) cs)[k]? = if off ≤ k ∧ k < off + v.cells.size then v.cells[k - off]? else cs[k]? := by
  have := fold_get off v.cells.toList 0 cs (by simpa using h)
  rw [← Array.foldl_toList, Array.toList_zipIdx]
  simpa using this

section
variable {P : Program} {w : World} {G : Gh} {ev : Operand → Value} {oev : Opd → Option AV}

theorem VRel.cells_rel {a : AV} {v : Value} (h : VRel G w a v) (ht : ∀ vs, a ≠ .tup vs) : a.cells.length = v.cells.size ∧ (∀ c ∈ a.cells, c.flat = true) ∧
    ∀ (k : Nat) (c : AV), a.cells[k]? = some c → ∃ x, v.cells[k]? = some x ∧ VRel G w c x := by
  by_cases hf : a.flat = true
  · obtain ⟨e1, e2⟩ := h.cells hf
    rw [e1, e2]
    refine ⟨rfl, by simpa using hf, fun k c hc => ?_⟩
    cases k with
    | zero => simp at hc; subst hc; exact ⟨v, rfl, h⟩
    | succ k => simp at hc
  · cases a <;> simp [AV.flat] at hf
    · obtain ⟨cs, rfl, hl, hfl, hr⟩ := h.of_agg
      refine ⟨by simpa [AV.cells, Value.cells] using hl, hfl, fun k c hc => ?_⟩
      simp only [AV.cells] at hc
      obtain ⟨hk, rfl⟩ := List.getElem?_eq_some_iff.1 hc
      exact ⟨cs[k]'(hl ▸ hk), by simp [Value.cells, hl ▸ hk], hr k hk (hl ▸ hk)⟩
    · exact absurd rfl (ht _)

/-- Cells stand for cells. -/
def CRel (G : Gh) (w : World) (as : List AV) (vs : Array Value) : Prop :=
  as.length = vs.size ∧ (∀ c ∈ as, c.flat = true) ∧ ∀ (k : Nat) (c : AV), as[k]? = some c → ∃ x, vs[k]? = some x ∧ VRel G w c x

theorem CRel.agg {as : List AV} {vs : Array Value} (h : CRel G w as vs) : VRel G w (.agg as) (.agg vs) := by
  obtain ⟨h1, h2, h3⟩ := h
  have := VRel.agg (G := G) (w := w) (cells := as) (cs := vs.toList) (by simpa using h1) h2 (fun k hk hk' => by
    obtain ⟨x, hx, hr⟩ := h3 k _ (List.getElem?_eq_getElem hk)
    have e : vs.toList[k]? = some x := by simpa using hx
    rw [List.getElem?_eq_getElem hk'] at e
    cases e; exact hr)
  simpa using this

theorem splice_rel {off : Nat} {a : AV} {v : Value} {cells cells' : List AV} {cs : Array Value} (ht : ∀ vs, a ≠ .tup vs) (hv : VRel G w a v) (hc : CRel G w cells cs)
    (hs : splice off a.cells cells = some cells') : off + v.cells.size ≤ cs.size ∧ CRel G w cells' (v.cells.zipIdx.foldl (fun cs (c, j) => cs.setIfInBounds (off + j) c) cs) := by
  obtain ⟨e1, e2, e3⟩ := splice_get _ _ _ _ hs
  obtain ⟨v1, v2, v3⟩ := hv.cells_rel ht
  obtain ⟨c1, c2, c3⟩ := hc
  have hle : off + v.cells.size ≤ cs.size := by omega
  obtain ⟨f1, f2⟩ := fill_fold off v cs hle
  refine ⟨hle, by rw [e1, f1, c1], fun c hcm => ?_, fun k c hk => ?_⟩
  · obtain ⟨k, hk⟩ := List.getElem?_of_mem hcm
    rw [e3 k] at hk
    split at hk
    · exact v2 c (List.mem_of_getElem? hk)
    · exact c2 c (List.mem_of_getElem? hk)
  · rw [e3 k] at hk
    rw [f2 k, ← v1]
    split at hk
    · rename_i h; rw [if_pos h]; exact v3 _ _ hk
    · rename_i h; rw [if_neg h]; exact c3 _ _ hk

theorem pBuild_rel (place : Nat → Option (Nat × Nat)) : ∀ (parts : List (Nat × Value)) (ps : List (Nat × Nat)) (as : List AV) (cells cells' : List AV) (cs : Array Value),
    Rels (fun (p : Nat × Nat) (q : Nat × Value) => place q.1 = some p) ps parts → Rels (fun (a : AV) (q : Nat × Value) => VRel G w a q.2) as parts → CRel G w cells cs →
    pBuild cells ps as = some cells' → ∃ cs', Instr.fill place cs parts = some cs' ∧ CRel G w cells' cs'
  | [], ps, as, cells, cells', cs, hp, ha, hc, h => by
    cases hp; cases ha
    simp [pBuild] at h; subst h
    exact ⟨cs, rfl, hc⟩
  | (i, v) :: parts, _, _, cells, cells', cs, hp, ha, hc, h => by
    cases hp with
    | cons hp1 hp2 =>
      cases ha with
      | cons ha1 ha2 =>
        rename_i p ps a as
        obtain ⟨off, sz⟩ := p
        simp only [pBuild] at h
        split at h
        · rename_i hsz
          obtain ⟨hsz, htup⟩ := hsz
          obtain ⟨cells1, h1, h2⟩ := opt_bind h
          have hta : ∀ vs, a ≠ .tup vs := fun vs e => by subst e; cases htup
          obtain ⟨hle, hc1⟩ := splice_rel hta ha1 hc h1
          have hlen := (ha1.cells_rel hta).1
          obtain ⟨cs', h3, h4⟩ := pBuild_rel place parts ps as cells1 cells' _ hp2 ha2 hc1 h2
          refine ⟨cs', ?_, h4⟩
          simp only at hp1 hlen hle
          simp only [Instr.fill, hp1]
          rw [if_neg (by
            simp only [ne_eq, Bool.or_eq_true, decide_eq_true_eq, not_or, Decidable.not_not]
            omega)]
          exact h3
        · cases h

theorem ofCells_rel {z : List AV} {v : Array Value} (h : v.toList.mapM AV.ofCell = some z) : CRel G w z v := by
  obtain ⟨h1, h2⟩ := mapM_some_get h
  refine ⟨by simpa using h1.symm, fun c hc => ?_, fun k c hk => ?_⟩
  · obtain ⟨k, hk, rfl⟩ := List.getElem_of_mem hc
    exact (ofCell_rel (G := G) (w := w) (h2 k (by rw [h1]; exact hk) hk)).2
  · obtain ⟨hk', rfl⟩ := List.getElem?_eq_some_iff.1 hk
    have hk2 : k < v.toList.length := by rw [h1]; exact hk'
    have hv : v[k]? = some v.toList[k] := by rw [← List.getElem?_eq_getElem hk2]; simp
    exact ⟨_, hv, (ofCell_rel (h2 k hk2 hk')).1⟩

theorem mapM_rels {α : Type} {f : α → Option Opd} {g : α → Operand} (H : OpdOk G w ev oev) (hf : ∀ x y, f x = some y → compOpd (g x) = some y) : ∀ (l : List α) (xs : List Opd) (as : List AV),
    l.mapM f = some xs → xs.mapM oev = some as → Rels (fun a x => VRel G w a (ev (g x))) as l
  | [], xs, as, h1, h2 => by
    simp at h1; subst h1; simp at h2; subst h2; exact .nil
  | x :: l, xs, as, h1, h2 => by
    simp only [List.mapM_cons, Option.bind_eq_bind, Option.pure_def] at h1
    obtain ⟨y, hy, h1⟩ := opt_bind h1
    obtain ⟨ys, hys, h1⟩ := opt_bind h1
    simp at h1; subst h1
    simp only [List.mapM_cons, Option.bind_eq_bind, Option.pure_def] at h2
    obtain ⟨a, ha, h2⟩ := opt_bind h2
    obtain ⟨as', has', h2⟩ := opt_bind h2
    simp at h2; subst h2
    exact .cons (H _ _ _ (hf x y hy) ha) (mapM_rels H hf l ys as' hys has')

theorem Rels.map_right {α β γ : Type} {R : α → γ → Prop} {f : β → γ} : ∀ {as : List α} {bs : List β}, Rels (fun a b => R a (f b)) as bs → Rels R as (bs.map f)
  | _, _, .nil => .nil
  | _, _, .cons h t => .cons h (Rels.map_right t)

theorem mapM_places {α : Type} {f : α → Nat} {pl : List (Nat × Nat)} : ∀ (l : List α) (ps : List (Nat × Nat)), l.mapM (fun x => pl[f x]?) = some ps → Rels (fun p x => pl[f x]? = some p) ps l
  | [], ps, h => by simp at h; subst h; exact .nil
  | x :: l, ps, h => by
    simp only [List.mapM_cons, Option.bind_eq_bind, Option.pure_def] at h
    obtain ⟨y, hy, h⟩ := opt_bind h
    obtain ⟨ys, hys, h⟩ := opt_bind h
    simp at h; subst h
    exact .cons hy (mapM_places l ys hys)

theorem rZeroCells {t : TypeId} {z : List AV} (h : tzero P t = some z) : ∃ v, (zeroValue t).run P w = .ok v w ∧ CRel G w z v.cells := by
  obtain ⟨v, h1, h2⟩ := rZero (w := w) h
  exact ⟨v, h1, ofCells_rel h2⟩

theorem fields_places : ∀ (fs : List Field) (pl : List (Nat × Nat)), fs.mapM (fun f => (tsz P f.type).bind fun n => some (f.offset, n)) = some pl →
    ∀ (w : World), (fs.mapM (fun f => (do pure (f.offset, ← sizeOf f.type) : Sem (Nat × Nat)))).run P w = .ok pl w
  | [], pl, h, w => by simp at h; subst h; simp
  | f :: fs, pl, h, w => by
    simp only [List.mapM_cons, Option.bind_eq_bind, Option.pure_def] at h
    obtain ⟨y, hy, h⟩ := opt_bind h
    obtain ⟨ys, hys, h⟩ := opt_bind h
    obtain ⟨n, hn, hy⟩ := opt_bind hy
    simp at h hy; subst h; subst hy
    simp only [List.mapM_cons, Sem.run_bind, rSizeOf hn, Result.andThen_ok, Sem.run_pure, fields_places fs ys hys w]

theorem rels_place {pl : List (Nat × Nat)} {place : Nat → Option (Nat × Nat)} {ps : List (Nat × Nat)} {parts : List (Nat × Value)} (hpl : ∀ i, pl[i]? = place i ∨ True)
    (h : Rels (fun (p : Nat × Nat) (q : Nat × Value) => pl[q.1]? = some p) ps parts) (hp : ∀ i p, pl[i]? = some p → place i = some p) :
    Rels (fun (p : Nat × Nat) (q : Nat × Value) => place q.1 = some p) ps parts := h.mono fun p q hq => hp _ _ hq

theorem has_build {t : TypeId} {parts : Array (Nat × Operand)} {z : List AV} {pl ps : List (Nat × Nat)} {xs : List Opd} {as : List AV} {a : AV} (H : OpdOk G w ev oev)
    (hz : tzero P t = some z) (hpl : places P t = some pl) (hps : parts.toList.mapM (fun x => pl[x.1]?) = some ps) (hxs : parts.toList.mapM (fun x => compOpd x.2) = some xs)
    (has : xs.mapM oev = some as) (hp : pv (.build z ps) as = some a) : Has P G ev (.build t parts) w a := by
  simp only [pv, Option.map_eq_some_iff] at hp
  obtain ⟨cells, hb, rfl⟩ := hp
  obtain ⟨zv, hz1, hz2⟩ := rZeroCells (G := G) (w := w) hz
  have hrel : Rels (fun (a : AV) (q : Nat × Operand) => VRel G w a (ev q.2)) as parts.toList :=
    mapM_rels H (f := fun x : Nat × Operand => compOpd x.2) (g := fun x => x.2) (fun x y h => h) parts.toList xs as hxs has
  have hrel2 := Rels.map_right (R := fun (a : AV) (q : Nat × Value) => VRel G w a q.2) (f := fun x : Nat × Operand => (x.1, ev x.2)) hrel
  have hpr := mapM_places (f := fun x : Nat × Operand => x.1) (pl := pl) parts.toList ps hps
  have hpr2 := Rels.map_right (R := fun (p : Nat × Nat) (q : Nat × Value) => pl[q.1]? = some p) (f := fun x : Nat × Operand => (x.1, ev x.2)) hpr
  have hm : (parts.map fun (i, x) => (i, ev x)).toList = parts.toList.map (fun x : Nat × Operand => (x.1, ev x.2)) := by simp
  suffices h : ∃ v, (Instr.build t (parts.map fun (i, x) => (i, ev x))).run P w = .ok (.agg v) w ∧ CRel G w cells v by
    obtain ⟨v, h1, h2⟩ := h
    exact ⟨_, gives_of (s := Instr.build t (parts.map fun (i, x) => (i, ev x))) (fun _ _ _ _ _ => rfl) h1, h2.agg⟩
  unfold places at hpl
  simp only [Option.bind_eq_bind, Option.pure_def] at hpl
  obtain ⟨d, hd, hpl⟩ := opt_bind hpl
  unfold Instr.build
  simp only [Sem.run_bind, hz1, Result.andThen_ok, rUnderlying hd]
  split at hpl
  · rename_i fs
    obtain ⟨cs', hf, hc⟩ := pBuild_rel (fun i => (pl.toArray)[i]?) _ _ _ _ _ _ (hpr2.mono fun p q hq => by simpa using hq) hrel2 hz2 hb
    refine ⟨cs', ?_, hc⟩
    have hfp : (fs.mapM fun f => (do pure (f.offset, ← sizeOf f.type) : Sem (Nat × Nat))).run P w = .ok pl.toArray w := by
      rw [Array.mapM_eq_mapM_toList]
      simp only [Sem.run_map, fields_places fs.toList pl hpl w, Result.andThen_ok]
    simp only [hfp, Result.andThen_ok, hm, Sem.run_bind]
    rw [hf]
    rfl
  · rename_i n e
    obtain ⟨s, hs, hpl⟩ := opt_bind hpl
    simp at hpl
    obtain ⟨cs', hf, hc⟩ := pBuild_rel (fun i => some (i * s, s)) _ _ _ _ _ _ (hpr2.mono fun p q hq => by
      subst hpl
      obtain ⟨hk, he⟩ := List.getElem?_eq_some_iff.1 hq
      simp at he
      rw [he]) hrel2 hz2 hb
    refine ⟨cs', ?_, hc⟩
    simp only [Sem.run_bind, rSizeOf hs, Result.andThen_ok, hm]
    rw [hf]
    rfl
  · cases hpl

theorem has_mkfn {f : Nat} {caps : Array Operand} {xs : List Opd} {as : List AV} {a : AV} (H : OpdOk G w ev oev)
    (hxs : caps.toList.mapM compOpd = some xs) (has : xs.mapM oev = some as) (hp : pv (.mkfn f) as = some a) : Has P G ev (.makeFunc (.func f) #[] caps) w a := by
  have : pv (.mkfn f) as = some (.fn f as) := by cases as <;> rfl
  rw [this] at hp
  cases hp
  have hrel := mapM_rels H (f := compOpd) (g := fun x => x) (fun x y h => h) caps.toList xs as hxs has
  refine ⟨.func (.func f) #[] (caps.toList.map ev).toArray, ?_, ?_⟩
  · intro dst ty pos after guard
    have e : caps.map ev = (caps.toList.map ev).toArray := by
      rw [← List.map_toArray]
    simp [execOp, Instr.makeFunc, e]
  · have hr := Rels.map_right (R := VRel G w) (f := ev) hrel
    refine .fn hr.length fun k hk hk' => ?_
    obtain ⟨b, hb, hv⟩ := hr.get k _ (List.getElem?_eq_getElem hk)
    rw [List.getElem?_eq_getElem hk'] at hb
    cases hb; exact hv

theorem minmax_run (mx : Bool) : ∀ (rest : List AV) (vs : List Value) (p a : AV) (v : Value), Rels (VRel G w) rest vs → VRel G w p v → pMin mx p rest = some a →
    ∃ r, (vs.foldlM (if mx then Builtin.max2 else Builtin.min2) v).run P w = .ok r w ∧ VRel G w a r
  | [], vs, p, a, v, hr, hv, h => by
    cases hr
    simp [pMin] at h; subst h
    exact ⟨v, by simp, hv⟩
  | q :: rest, _, p, a, v, hr, hv, h => by
    cases hr with
    | cons h1 h2 =>
      rename_i x xs
      unfold pMin at h
      split at h
      · rename_i heq; cases heq
      · rename_i k n k' m r heq
        cases heq
        split at h
        · rename_i hk
          subst hk
          have e1 := hv.of_int; have e2 := h1.of_int
          subst e1 e2
          obtain ⟨z, hz, hzr⟩ := minmax_run mx _ _ _ a (.int k (if mx then (if m > n then m else n) else (if m < n then m else n))) h2 (.int _ _) h
          refine ⟨z, ?_, hzr⟩
          rw [List.foldlM_cons, Sem.run_bind]
          cases mx
          · simpa [Builtin.min2] using hz
          · simpa [Builtin.max2] using hz
        · cases h
      · cases h

theorem has_minmax {mx : Bool} {args : Array Operand} {ats : Array TypeId} {xs : List Opd} {as : List AV} {a : AV} (H : OpdOk G w ev oev)
    (hxs : args.toList.mapM compOpd = some xs) (has : xs.mapM oev = some as) (hp : pv (.minmax mx) as = some a) :
    Has P G ev (.call { callee := .builtin (if mx then .max else .min), args, argTypes := ats }) w a := by
  have hrel := mapM_rels H (f := compOpd) (g := fun x => x) (fun x y h => h) args.toList xs as hxs has
  have hr := Rels.map_right (R := VRel G w) (f := ev) hrel
  cases as with
  | nil => cases hp
  | cons p r =>
    have hp' : pMin mx p r = some a := by cases r <;> exact hp
    generalize hl : args.toList.map ev = l at hr
    cases hr with
    | cons h1 h2 =>
      rename_i v vs
      obtain ⟨z, hz, hzr⟩ := minmax_run (P := P) mx r vs p a v h2 h1 hp'
      refine ⟨z, ?_, hzr⟩
      intro dst ty pos after guard
      have e : (args.map ev).toList = v :: vs := by rw [Array.toList_map, hl]
      cases mx
      · simp only [Bool.false_eq_true, if_false] at hz ⊢
        simp [execOp, resolve, invoke, builtin, Builtin.min_, e, hl, hz]
      · simp only [if_true] at hz ⊢
        simp [execOp, resolve, invoke, builtin, Builtin.max_, e, hl, hz]

end
end Go.Am
