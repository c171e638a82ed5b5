/- A part of the proof: a logic for calls over plain values, and a runner that is shown to be right. -/
import Derived.Test.YtmahfnljcfaicaaAm10
import Derived.IntWalk
namespace Go.Am
set_option linter.unusedVariables false
set_option linter.unusedSimpArgs false

/-! ## Operations that make memory -/
inductive AK where
  | alloc (zeros : List AV)
  | box
  | mksl (esz n : Nat)
  | mkmap
  | make (esz : Nat) (zero : List AV) (bytes : Nat)

def alv : AK → List AV → Option (Obj × (Nat → AV))
  | .alloc z, [] => some (.box z, fun id => .ptr id 0)
  | .box, [a] => if a.isTup then none else some (.box a.cells, fun id => .ptr id 0)
  | .mksl esz n, as => if as.length = n ∧ as.all (fun a => !a.isTup && decide (a.cells.length = esz)) then some (.arr esz (as.map AV.cells), fun id => .os id esz 0 n) else none
  | .mkmap, [] => some (.map [], fun id => .mp id)
  | .make esz z bytes, [.int .i64 n, .int .i64 m] =>
    if n = m ∧ 0 ≤ n ∧ n ≤ 9223372036854775807 ∧ n * bytes ≤ 281474976710656 then some (.arr esz (List.replicate n.toNat z), fun id => .os id esz 0 n.toNat) else none
  | _, _ => none

def compAlloc (P : Program) : Op → Option (AK × List Opd)
  | .alloc t => do pure (.alloc (← tzero P t), [])
  | .box _ x => do pure (.box, [← compOpd x])
  | .buildSlice t n parts => do
    let .slice e ← P.underlying t | none
    let s ← tsz P e
    if parts.toList.map (·.1) = List.range n ∧ n * s ≤ 16777216 ∧ (n * s = 0 ∨ (tzero P e).isSome) then
      pure (.mksl s n, ← parts.toList.mapM fun x => compOpd x.2) else none
  | .makeMap _ none => pure (.mkmap, [])
  | .makeSlice t l c => do
    let .slice e ← P.underlying t | none
    let s ← tsz P e
    let z ← tzero P e
    let i ← P.info? e
    if z.length = s then pure (.make s z i.bytes, [← compOpd l, ← compOpd c]) else none
  | _ => none

def GivesW (P : Program) (ev : Operand → Value) (op : Op) (w : World) (v : Value) (w' : World) : Prop :=
  ∀ dst ty pos after guard, (execOp ev ⟨dst, op, ty, pos, after, guard⟩).run P w = .ok (.value v) w'

section
variable {P : Program} {w : World} {G : Gh} {σ : Store} {ev : Operand → Value} {oev : Opd → Option AV}

theorem givesW_of {op : Op} {s : Sem Value} {v : Value} {w' : World} (h : ∀ dst ty pos after guard, execOp ev ⟨dst, op, ty, pos, after, guard⟩ = (do pure (.value (← s)))) (hs : s.run P w = .ok v w') : GivesW P ev op w v w' := by
  intro dst ty pos after guard
  rw [h]; simp [hs]

theorem alloc_heap (ob : Go.Obj) : (w.alloc ob).heap[w.heap.size]? = some ob := by
  show (w.heap.push ob)[w.heap.size]? = some ob
  simp

theorem newVar_run (t : TypeId) (v : Value) : (newVar t v).run P w = .ok ⟨w.heap.size, 0, none⟩ (w.alloc (.cells v.cells t (0, 0))) := by
  simp [newVar, newRow]

/-- A new block of cells that stand for these. -/
theorem new_box (hs : Sim G σ w) {id : Nat} (hρ : G.ρ id = none) (hσ : σ id = none) {cells : List AV} {cs : Array Value} (t : TypeId) (hc : CRel G w cells cs) :
    ∃ G', Ext G σ w G' (σ.set id (.box cells)) (w.alloc (.cells cs t (0, 0))) ∧ Sim G' (σ.set id (.box cells)) (w.alloc (.cells cs t (0, 0))) ∧ G'.ρ id = some (w.heap.size, 0) := by
  refine hs.alloc hρ hσ _ fun G' hr hI hid => ?_
  obtain ⟨h1, h2, h3⟩ := hc
  refine .box (alloc_heap _) (by omega) h2 fun k hk => ?_
  obtain ⟨x, hx, hxr⟩ := h3 k _ (List.getElem?_eq_getElem hk)
  have : cs.getD (0 + k) undef = x := by rw [Nat.zero_add, Array.getD_eq_getD_getElem?, hx]; rfl
  rw [this]
  refine hxr.grow hI hr (fun b hb => ?_) (fun b y hb => ?_)
  · have hlt := hs.lt b hb
    show (w.heap.push _)[b]? = w.heap[b]?
    rw [Array.getElem?_push, if_neg (by omega)]
  · have hlt := shape?_lt hb
    have : (w.alloc (.cells cs t (0, 0))).heap[b]? = w.heap[b]? := by
      show (w.heap.push _)[b]? = w.heap[b]?
      rw [Array.getElem?_push, if_neg (by omega)]
    simp only [World.shape?, this] at hb ⊢; exact hb

theorem grow_alloc (hs : Sim G σ w) (ob : Go.Obj) {G' : Gh} (hr : ∀ i x, G.ρ i = some x → G'.ρ i = some x) (hI : ∀ b, G.I b → G'.I b) {a : AV} {v : Value} (h : VRel G w a v) : VRel G' (w.alloc ob) a v := by
  have hb : ∀ b, b < w.heap.size → (w.alloc ob).heap[b]? = w.heap[b]? := fun b hb => by
    show (w.heap.push _)[b]? = w.heap[b]?
    rw [Array.getElem?_push, if_neg (by omega)]
  refine h.grow hI hr (fun b h => hb b (hs.lt b h)) (fun b y h => ?_)
  have := hb b (shape?_lt h)
  simp only [World.shape?, this] at h ⊢; exact h

theorem fill_seq (size : Nat) : ∀ (vs : List Value) (i0 : Nat) (cs : Array Value), (∀ v ∈ vs, v.cells.size = size) → (i0 + vs.length) * size ≤ cs.size →
    ∃ cs', Instr.fill (fun i => some (i * size, size)) cs ((vs.zipIdx i0).map fun p => (p.2, p.1)) = some cs' ∧ cs'.size = cs.size ∧ (∀ k, k < i0 * size → cs'[k]? = cs[k]?) ∧
      ∀ i j v, vs[i]? = some v → j < size → cs'[(i0 + i) * size + j]? = v.cells[j]?
  | [], i0, cs, _, _ => ⟨cs, rfl, rfl, fun _ _ => rfl, fun i j v h => by simp at h⟩
  | v :: vs, i0, cs, hv, hsz => by
    have hv0 : v.cells.size = size := hv v (by simp)
    simp only [List.length_cons] at hsz
    have hm : (i0 + (vs.length + 1)) * size = i0 * size + (vs.length * size + size) := by rw [Nat.add_mul, Nat.succ_mul]
    have hle : i0 * size + v.cells.size ≤ cs.size := by
      rw [hv0]; omega
    obtain ⟨f1, f2⟩ := fill_fold (i0 * size) v cs hle
    obtain ⟨cs', h1, h2, h3, h4⟩ := fill_seq size vs (i0 + 1) (v.cells.zipIdx.foldl (fun cs (c, j) => cs.setIfInBounds (i0 * size + j) c) cs) (fun x hx => hv x (by simp [hx]))
      (by rw [f1, show i0 + 1 + vs.length = i0 + (vs.length + 1) by omega]; exact hsz)
    refine ⟨cs', ?_, by rw [h2, f1], fun k hk => ?_, fun i j x hx hj => ?_⟩
    · simp only [List.zipIdx_cons, List.map_cons, Instr.fill]
      rw [if_neg (by simp only [ne_eq, Bool.or_eq_true, decide_eq_true_eq, not_or, Decidable.not_not]; omega)]
      exact h1
    · rw [h3 k (by rw [Nat.succ_mul]; omega), f2 k, if_neg (by omega)]
    · cases i with
      | zero =>
        simp at hx; subst hx
        rw [Nat.add_zero, h3 _ (by rw [Nat.succ_mul]; omega), f2 _, if_pos (by omega)]
        rw [show i0 * size + j - i0 * size = j by omega]
      | succ i =>
        simp at hx
        have := h4 i j x hx hj
        rw [show i0 + (i + 1) = i0 + 1 + i by omega]; exact this

theorem zipIdx_parts : ∀ (parts : List (Nat × Value)) (i0 : Nat), parts.map (·.1) = List.range' i0 parts.length → parts = ((parts.map (·.2)).zipIdx i0).map fun p => (p.2, p.1)
  | [], _, _ => rfl
  | (i, v) :: parts, i0, h => by
    simp only [List.map_cons, List.length_cons, List.range'_succ, List.cons.injEq] at h
    obtain ⟨rfl, h⟩ := h
    simp only [List.map_cons, List.zipIdx_cons]
    rw [← zipIdx_parts parts _ h]

theorem new_arr (hs : Sim G σ w) {id : Nat} (hρ : G.ρ id = none) (hσ : σ id = none) {esz : Nat} {es : List (List AV)} {cs : Array Value} (t : TypeId)
    (hl : ∀ e ∈ es, e.length = esz) (hf : ∀ e ∈ es, ∀ c ∈ e, c.flat = true) (hsz : es.length * esz ≤ cs.size)
    (hv : ∀ i j (hi : i < es.length) (hj : j < (es[i]'hi : List AV).length), VRel G w ((es[i]'hi : List AV)[j]'hj) (cs.getD (i * esz + j) undef)) :
    ∃ G', Ext G σ w G' (σ.set id (.arr esz es)) (w.alloc (.cells cs t (0, 0))) ∧ Sim G' (σ.set id (.arr esz es)) (w.alloc (.cells cs t (0, 0))) ∧ G'.ρ id = some (w.heap.size, 0) := by
  refine hs.alloc hρ hσ _ fun G' hr hI hid => ?_
  refine .arr (alloc_heap _) (by omega) hl hf fun i j hi hj => ?_
  rw [Nat.zero_add]
  exact grow_alloc hs _ hr hI (hv i j hi hj)

theorem alloc_shape (cs : Array Value) (t : TypeId) : (w.alloc (.cells cs t (0, 0))).shape? w.heap.size = some (t, cs.size) := by
  simp only [World.shape?, alloc_heap]

set_option maxHeartbeats 400000 in
theorem mksl_ok {t e : TypeId} {n s : Nat} {parts : Array (Nat × Operand)} {ys : List Opd} {as : List AV} {o : Obj} {f : Nat → AV} {id : Nat} (hs : Sim G σ w) (H : OpdOk G w ev oev)
    (hd : P.underlying t = some (.slice e)) (hsz : tsz P e = some s) (hrange : parts.toList.map (·.1) = List.range n) (hbig : n * s ≤ 16777216) (hzero : n * s = 0 ∨ (tzero P e).isSome)
    (hys : parts.toList.mapM (fun x => compOpd x.2) = some ys) (has : ys.mapM oev = some as) (hp : alv (.mksl s n) as = some (o, f)) (hρ : G.ρ id = none) (hσ : σ id = none) :
    ∃ v w' G', GivesW P ev (.buildSlice t n parts) w v w' ∧ Ext G σ w G' (σ.set id o) w' ∧ Sim G' (σ.set id o) w' ∧ VRel G' w' (f id) v := by
  simp only [alv] at hp
  split at hp
  · rename_i hlen
    obtain ⟨hlen, hall⟩ := hlen
    cases hp
    have hrel : Rels (fun (a : AV) (q : Nat × Operand) => VRel G w a (ev q.2)) as parts.toList :=
      mapM_rels H (f := fun x : Nat × Operand => compOpd x.2) (g := fun x => x.2) (fun x y h => h) parts.toList _ as hys has
    have hrel2 : Rels (VRel G w) as (parts.toList.map fun x => ev x.2) := Rels.map_right hrel
    have hpl : parts.toList.length = n := by rw [← hrel.length, hlen]
    generalize hvs : parts.toList.map (fun x => ev x.2) = vs at hrel2
    have hvl : vs.length = n := by rw [← hvs]; simp; simpa using hpl
    have hat : ∀ a ∈ as, a.isTup = false ∧ a.cells.length = s := fun a ha => by
      have := List.all_eq_true.1 hall a ha
      simpa using this
    have hvc : ∀ v ∈ vs, v.cells.size = s := fun v hv => by
      obtain ⟨k, hk⟩ := List.getElem?_of_mem hv
      obtain ⟨hk', rfl⟩ := List.getElem?_eq_some_iff.1 hk
      have hka : k < as.length := by rw [hrel2.length]; exact hk'
      obtain ⟨b, hb, hr⟩ := hrel2.get k _ (List.getElem?_eq_getElem hka)
      rw [hk] at hb; cases hb
      have ht := hat _ (List.getElem_mem hka)
      rw [← (hr.cells_rel (fun vs e => by rw [e] at ht; cases ht.1)).1, ht.2]
    have hmap : (parts.map fun (i, x) => (i, ev x)).toList = (vs.zipIdx 0).map fun p => (p.2, p.1) := by
      have hh := zipIdx_parts (parts.toList.map fun x => (x.1, ev x.2)) 0 (by
        rw [List.map_map]
        have : ((fun x : Nat × Value => x.1) ∘ fun x : Nat × Operand => (x.1, ev x.2)) = (fun x => x.1) := rfl
        rw [this, hrange, List.length_map, hpl, List.range_eq_range'])
      rw [List.map_map] at hh
      have e2 : ((fun x : Nat × Value => x.2) ∘ fun x : Nat × Operand => (x.1, ev x.2)) = (fun x => ev x.2) := rfl
      rw [e2, hvs] at hh
      rw [← hh]; simp
    have hz : ∃ zc : Array Value, (n * s = 0 ∧ zc = #[]) ∨ (n * s ≠ 0 ∧ ∃ zv, (zeroValue e).run P w = .ok zv w ∧ zc = zv.cells) := by
      by_cases h0 : n * s = 0
      · exact ⟨#[], .inl ⟨h0, rfl⟩⟩
      · rcases hzero with h | h
        · exact absurd h h0
        · obtain ⟨z, hz⟩ := Option.isSome_iff_exists.1 h
          obtain ⟨zv, hz1, _⟩ := rZero (P := P) (w := w) hz
          exact ⟨zv.cells, .inr ⟨h0, zv, hz1, rfl⟩⟩
    obtain ⟨zc, hzc⟩ := hz
    obtain ⟨cs', f1, f2, f3, f4⟩ := fill_seq s vs 0 ((Array.range (n * s)).map (zc[· % zc.size]!)) hvc (by simp [hvl])
    have hrun : (Instr.buildSlice t n (parts.map fun (i, x) => (i, ev x))).run P w = .ok (.slice (some ⟨w.heap.size, 0, none⟩) n n) (w.alloc (.cells cs' e (0, 0))) := by
      unfold Instr.buildSlice
      simp only [Sem.run_bind, rUnderlying hd, Result.andThen_ok, rSizeOf hsz]
      rw [if_neg (by omega)]
      rcases hzc with ⟨h0, rfl⟩ | ⟨h0, zv, hz1, rfl⟩
      · rw [if_pos h0]
        simp only [pure_bind, hmap, f1, newRow, Sem.run_bind, run_newObj, Result.andThen_ok, Sem.run_pure]
        rfl
      · rw [if_neg h0]
        simp only [Sem.run_bind, hz1, Result.andThen_ok, pure_bind, hmap, f1, newRow, run_newObj, Sem.run_pure]
        rfl
    have hcs : cs'.size = n * s := by rw [f2]; simp
    obtain ⟨G', g1, g2, g3⟩ := new_arr (es := as.map AV.cells) (esz := s) (cs := cs') hs hρ hσ e
      (fun c hc => by obtain ⟨a, ha, rfl⟩ := List.mem_map.1 hc; exact (hat a ha).2)
      (fun c hc x hx => by
        obtain ⟨a, ha, rfl⟩ := List.mem_map.1 hc
        obtain ⟨k, hk⟩ := List.getElem?_of_mem ha
        obtain ⟨v, hv, hr⟩ := hrel2.get k a hk
        exact (hr.cells_rel (fun vs e => by have := hat a ha; rw [e] at this; cases this.1)).2.1 x hx)
      (by simp [hcs, hlen])
      (fun i j hi hj => by
        have hi' : i < as.length := by simpa using hi
        obtain ⟨v, hv, hr⟩ := hrel2.get i _ (List.getElem?_eq_getElem hi')
        have ha := hat _ (List.getElem_mem hi')
        simp only [List.getElem_map] at hj ⊢
        obtain ⟨r1, r2, r3⟩ := hr.cells_rel (fun vs e => by rw [e] at ha; cases ha.1)
        obtain ⟨x, hx, hxr⟩ := r3 j _ (List.getElem?_eq_getElem hj)
        have := f4 i j v hv (by omega)
        rw [Nat.zero_add, hx] at this
        rw [Array.getD_eq_getD_getElem?, this]; exact hxr)
    refine ⟨.slice (some ⟨w.heap.size, 0, none⟩) n n, w.alloc (.cells cs' e (0, 0)), G', fun dst ty pos after guard => ?_, g1, g2, ?_⟩
    · show (do pure (.value (← Instr.buildSlice t n (parts.map fun (i, x) => (i, ev x)))) : Sem Next).run P w = _
      simp only [Sem.run_bind, hrun, Result.andThen_ok, Sem.run_pure]
    · have := VRel.os (w := w.alloc (.cells cs' e (0, 0))) (esz := s) (off := 0) (len := n) (c := n) g3 (Nat.le_refl _) ⟨e, cs'.size, alloc_shape _ _, by rw [hcs]; simp⟩
      simpa using this
  · cases hp

theorem make_ok {t e : TypeId} {sz : Nat} {z : List AV} {i : TypeInfo} {l c : Operand} {p q : AV} {o : Obj} {f : Nat → AV} {id : Nat} (hs : Sim G σ w)
    (hd : P.underlying t = some (.slice e)) (hsz : tsz P e = some sz) (hz : tzero P e = some z) (hi : P.info? e = some i) (hzl : z.length = sz)
    (hl : VRel G w p (ev l)) (hc : VRel G w q (ev c)) (hp : alv (.make sz z i.bytes) [p, q] = some (o, f)) (hρ : G.ρ id = none) (hσ : σ id = none) :
    ∃ v w' G', GivesW P ev (.makeSlice t l c) w v w' ∧ Ext G σ w G' (σ.set id o) w' ∧ Sim G' (σ.set id o) w' ∧ VRel G' w' (f id) v := by
  obtain ⟨n, m, rfl, rfl⟩ : ∃ n m, p = .int .i64 n ∧ q = .int .i64 m := by
    unfold alv at hp
    split at hp <;> first
      | (rename_i h1 h2; simp at h1 h2; done)
      | cases hp
      | skip
    all_goals (rename_i h2; simp at h2; exact ⟨_, _, h2.1, h2.2⟩)
  simp only [alv] at hp
  split at hp
  · rename_i hcond
    obtain ⟨rfl, h0, h1, h2⟩ := hcond
    cases hp
    obtain ⟨zv, hz1, hz2⟩ := rZeroCells (G := G) (w := w) hz
    obtain ⟨z1, z2, z3⟩ := hz2
    have hw : IntKind.i64.wrap n = n := IntWalk.i64_in n (by omega)
    let cells : Array Value := (Array.range (n.toNat * sz)).map fun k => zv.cells[k % zv.cells.size]!
    have hcsz : cells.size = n.toNat * sz := by simp [cells]
    have hrun : (Instr.makeSlice t (ev l) (ev c)).run P w = .ok (.slice (some ⟨w.heap.size, 0, none⟩) n.toNat n.toNat) (w.alloc (.cells cells e (0, 0))) := by
      rw [hl.of_int, hc.of_int]
      unfold Instr.makeSlice
      simp only [Sem.run_bind, rUnderlying hd, Result.andThen_ok, asInt, asIntOf_run, rTypeInfo hi, Sem.run_pure, hw]
      have h2' : (i.bytes : Int) * n ≤ 281474976710656 := by rw [Int.mul_comm]; exact h2
      rw [if_neg (by
        simp only [Bool.or_eq_true, decide_eq_true_eq]
        omega)]
      simp only [Sem.run_bind, run_askRoom, Result.andThen_ok, rSizeOf hsz]
      by_cases h00 : n.toNat * sz = 0
      · rw [if_pos h00]
        have : (Array.range (n.toNat * sz)).map (fun k => (#[] : Array Value)[k % (#[] : Array Value).size]!) = cells := by
          apply Array.ext
          · simp [cells]
          · intro k h1 h2; simp [h00] at h1
        simp only [pure_bind, newRow, Sem.run_bind, run_newObj, Result.andThen_ok, Sem.run_pure, this]
        rfl
      · rw [if_neg h00]
        simp only [Sem.run_bind, hz1, Result.andThen_ok, pure_bind, newRow, run_newObj, Sem.run_pure]
        rfl
    have hzs : zv.cells.size = sz := by omega
    obtain ⟨G', g1, g2, g3⟩ := new_arr (es := List.replicate n.toNat z) (esz := sz) (cs := cells) hs hρ hσ e
      (fun x hx => by rw [List.eq_of_mem_replicate hx]; exact hzl)
      (fun x hx c hc => by rw [List.eq_of_mem_replicate hx] at hc; exact z2 c hc)
      (by simp [hcsz])
      (fun a j ha hj => by
        simp only [List.getElem_replicate] at hj ⊢
        simp only [List.length_replicate] at ha
        obtain ⟨x, hx, hr⟩ := z3 j _ (List.getElem?_eq_getElem hj)
        have hlt : a * sz + j < n.toNat * sz := by
          have := Nat.mul_le_mul_right sz (Nat.succ_le_of_lt ha)
          rw [Nat.succ_mul] at this; omega
        have hmod : (a * sz + j) % sz = j := by rw [Nat.mul_comm, Nat.mul_add_mod]; exact Nat.mod_eq_of_lt (by omega)
        have : cells.getD (a * sz + j) undef = x := by
          rw [Array.getD_eq_getD_getElem?]
          simp only [cells, Array.getElem?_map, Array.getElem?_range, if_pos hlt, Option.map_some, hzs, hmod, Option.getD_some]
          rw [Array.getElem!_eq_getD, Array.getD_eq_getD_getElem?, hx]; rfl
        rw [this]; exact hr)
    refine ⟨.slice (some ⟨w.heap.size, 0, none⟩) n.toNat n.toNat, w.alloc (.cells cells e (0, 0)), G', fun dst ty pos after guard => ?_, g1, g2, ?_⟩
    · show (do pure (.value (← Instr.makeSlice t (ev l) (ev c))) : Sem Next).run P w = _
      simp only [Sem.run_bind, hrun, Result.andThen_ok, Sem.run_pure]
    · have := VRel.os (w := w.alloc (.cells cells e (0, 0))) (esz := sz) (off := 0) (len := n.toNat) (c := n.toNat) g3 (Nat.le_refl _) ⟨e, cells.size, alloc_shape _ _, by rw [hcsz]; simp⟩
      simpa using this
  · cases hp

theorem alloc_ok {op : Op} {ak : AK} {xs : List Opd} {as : List AV} {o : Obj} {f : Nat → AV} {id : Nat} (hs : Sim G σ w) (H : OpdOk G w ev oev)
    (hc : compAlloc P op = some (ak, xs)) (has : xs.mapM oev = some as) (hp : alv ak as = some (o, f)) (hρ : G.ρ id = none) (hσ : σ id = none) :
    ∃ v w' G', GivesW P ev op w v w' ∧ Ext G σ w G' (σ.set id o) w' ∧ Sim G' (σ.set id o) w' ∧ VRel G' w' (f id) v := by
  unfold compAlloc at hc
  simp only [Option.bind_eq_bind, Option.pure_def] at hc
  split at hc
  · rename_i t
    obtain ⟨z, hz, hc⟩ := opt_bind hc
    cases hc
    simp at has; subst has
    cases hp
    obtain ⟨zv, h1, h2⟩ := rZeroCells (G := G) (w := w) hz
    obtain ⟨G', g1, g2, g3⟩ := new_box hs hρ hσ t h2
    exact ⟨_, _, G', givesW_of (s := Instr.alloc t true (.tuple #[])) (fun _ _ _ _ _ => rfl) (by simp [Instr.alloc, h1, newVar_run]; rfl), g1, g2, by
      have := VRel.ptr (w := w.alloc (.cells zv.cells t (0, 0))) (off := 0) g3
      simpa using this⟩
  · rename_i t x
    obtain ⟨X, hX, hc⟩ := opt_bind hc
    cases hc
    obtain ⟨p, h1, rfl⟩ := mapM1 has
    have hx := H x X p hX h1
    simp only [alv] at hp
    split at hp
    · cases hp
    · rename_i ht
      cases hp
      have htf : ∀ vs, p ≠ .tup vs := fun vs e => by subst e; exact ht rfl
      obtain ⟨G', g1, g2, g3⟩ := new_box hs hρ hσ t (hx.cells_rel htf)
      exact ⟨_, _, G', givesW_of (s := Instr.box t (ev x)) (fun _ _ _ _ _ => rfl) (by simp [Instr.box, newVar_run]; rfl), g1, g2, by
        have := VRel.ptr (w := w.alloc (.cells (ev x).cells t (0, 0))) (off := 0) g3
        simpa using this⟩
  · rename_i t n parts
    obtain ⟨d, hd, hc⟩ := opt_bind hc
    split at hc
    · rename_i e
      obtain ⟨s, hsz, hc⟩ := opt_bind hc
      split at hc
      · rename_i hcond
        obtain ⟨hrange, hbig, hzero⟩ := hcond
        obtain ⟨ys, hys, hc⟩ := opt_bind hc
        cases hc
        exact mksl_ok hs H hd hsz hrange hbig hzero hys has hp hρ hσ
      · cases hc
    · cases hc
  · cases hc
    simp at has; subst has
    cases hp
    obtain ⟨G', g1, g2, g3⟩ := hs.alloc hρ hσ (.map #[] 0) (o := .map []) (fun G' hr hI hid =>
      .map (ents := #[]) (clock := 0) (alloc_heap _) rfl rfl (fun k h => by simp at h) (fun k h => by simp at h) (fun i j h => by simp at h))
    rename_i t
    exact ⟨_, _, G', givesW_of (s := Instr.makeMap t none) (fun _ _ _ _ _ => rfl) (by simp [Instr.makeMap]), g1, g2, .mp g3⟩
  · rename_i t l c
    obtain ⟨d, hd, hc⟩ := opt_bind hc
    split at hc
    · rename_i e
      obtain ⟨s, hsz, hc⟩ := opt_bind hc
      obtain ⟨z, hz, hc⟩ := opt_bind hc
      obtain ⟨i, hi, hc⟩ := opt_bind hc
      split at hc
      · rename_i hzl
        obtain ⟨L, hL, hc⟩ := opt_bind hc
        obtain ⟨C, hC, hc⟩ := opt_bind hc
        cases hc
        obtain ⟨p, q, h1, h2, rfl⟩ := mapM2 has
        have hl := H l L p hL h1
        have hcv := H c C q hC h2
        exact make_ok hs hd hsz hz hi hzl hl hcv hp hρ hσ
      · cases hc
    · cases hc
  · cases hc

end
end Go.Am
