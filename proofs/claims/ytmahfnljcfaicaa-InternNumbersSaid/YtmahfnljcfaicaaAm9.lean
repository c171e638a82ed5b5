/- A part of the proof: a logic for calls over plain values, and a runner that is shown to be right. -/
import Derived.Test.YtmahfnljcfaicaaAmM
namespace Go.Am
set_option linter.unusedVariables false
set_option linter.unusedSimpArgs false

def takeN (off sz : Nat) (cells : List AV) : Option (List AV) := if off + sz ≤ cells.length then some ((cells.drop off).take sz) else none

/-- What lies at a pointer: so many cells. -/
def rd (σ : Store) (sz : Nat) : AV → Option (List AV)
  | .ptr id off => match σ id with
    | some (.box cells) => takeN off sz cells
    | _ => none
  | .aptr id esz i off => match σ id with
    | some (.arr esz' es) => if esz' = esz then (es[i]?).bind (takeN off sz) else none
    | _ => none
  | .ep cells => takeN 0 sz cells
  | _ => none

/-- The store behind a store at a pointer. -/
def wr (σ : Store) (new : List AV) : AV → Option Store
  | .ptr id off => match σ id with
    | some (.box cells) => (splice off new cells).map fun cs => σ.set id (.box cs)
    | _ => none
  | .aptr id esz i off => match σ id with
    | some (.arr esz' es) => if esz' = esz then (es[i]?).bind fun c => (splice off new c).map fun cs => σ.set id (.arr esz (es.set i cs)) else none
    | _ => none
  | _ => none

section
variable {P : Program} {w : World} {G : Gh} {σ : Store} {ev : Operand → Value} {oev : Opd → Option AV}

theorem cell?_heap {w : World} {b o : Nat} {cs : Array Value} {ty : TypeId} {fr : Nat × Nat} (h : w.heap[b]? = some (.cells cs ty fr)) : w.cell? ⟨b, o, none⟩ = cs[o]? := by
  simp [World.cell?, h]

theorem takeN_some {off sz : Nat} {cells cs : List AV} (h : takeN off sz cells = some cs) : off + sz ≤ cells.length ∧ cs.length = sz ∧ (∀ c ∈ cs, c ∈ cells) ∧ ∀ j, j < sz → cs[j]? = cells[off + j]? := by
  unfold takeN at h
  split at h
  · rename_i hle
    cases h
    refine ⟨hle, by simp; omega, fun c hc => List.mem_of_mem_drop (List.mem_of_mem_take hc), fun j hj => ?_⟩
    rw [List.getElem?_take_of_lt hj, List.getElem?_drop]
  · cases h

theorem rd_fun (cs : List AV) (sz : Nat) (hl : cs.length = sz) (b o : Nat) (f : Nat → Value)
    (hc : ∀ j, j < sz → w.cell? ⟨b, o + j, none⟩ = some (f j)) (hv : ∀ j a, cs[j]? = some a → VRel G w a (f j)) :
    ∃ vs : List Value, vs.length = sz ∧ Rels (VRel G w) cs vs ∧ ∀ j x, vs[j]? = some x → w.cell? ⟨b, o + j, none⟩ = some x := by
  refine ⟨(List.range sz).map f, by simp, Rels.of_get (by simp [hl]) fun k h h' => ?_, fun j x hx => ?_⟩
  · simp; exact hv k _ (List.getElem?_eq_getElem h)
  · rw [List.getElem?_map] at hx
    obtain ⟨k, hk, rfl⟩ := Option.map_eq_some_iff.1 hx
    obtain ⟨hlt, he⟩ := List.getElem?_eq_some_iff.1 hk
    simp at he hlt; subst he
    exact hc _ hlt

theorem rd_rel (hs : Sim G σ w) {p : AV} {v : Value} {sz : Nat} {cs : List AV} (hp : VRel G w p v) (h : rd σ sz p = some cs) :
    ∃ b o, ∃ vs : List Value, v = .pointer (some ⟨b, o, none⟩) ∧ cs.length = sz ∧ vs.length = sz ∧ (∀ c ∈ cs, c.flat = true) ∧ Rels (VRel G w) cs vs ∧
      ∀ j x, vs[j]? = some x → w.cell? ⟨b, o + j, none⟩ = some x := by
  unfold rd at h
  split at h
  · rename_i id off
    split at h
    · rename_i cells hσ
      obtain ⟨b, base, hb, hv⟩ := hp.of_ptr
      obtain ⟨b', base', hb', ho⟩ := hs.used id _ hσ
      rw [hb] at hb'; cases hb'
      obtain ⟨hle, hl, hm, hg⟩ := takeN_some h
      cases ho with
      | box hh hsz hf hr =>
        rename_i arr ty
        obtain ⟨vs, h1, h2, h3⟩ := rd_fun (w := w) (G := G) cs sz hl b (base + off) (fun j => arr.getD (base + (off + j)) undef)
          (fun j hj => by
            rw [cell?_heap hh]
            have : base + off + j < arr.size := by omega
            simp [Array.getD, Nat.add_assoc] at this ⊢
            simp [this])
          (fun j a ha => by
            have hj : j < sz := by rw [← hl]; exact (List.getElem?_eq_some_iff.1 ha).1
            rw [hg j hj] at ha
            obtain ⟨hk, rfl⟩ := List.getElem?_eq_some_iff.1 ha
            exact hr (off + j) hk)
        exact ⟨_, _, vs, hv, hl, h1, fun c hc => hf c (hm c hc), h2, h3⟩
    · cases h
  · rename_i id esz i off
    split at h
    · rename_i esz' es hσ
      split at h
      · rename_i he
        subst he
        obtain ⟨c0, hc0, h⟩ := opt_bind h
        obtain ⟨b, base, hb, hv⟩ := hp.of_aptr
        obtain ⟨b', base', hb', ho⟩ := hs.used id _ hσ
        rw [hb] at hb'; cases hb'
        obtain ⟨hle, hl, hm, hg⟩ := takeN_some h
        obtain ⟨hi, rfl⟩ := List.getElem?_eq_some_iff.1 hc0
        cases ho with
        | arr hh hsz hln hf hr =>
          rename_i arr ty
          have hli : es[i].length = esz' := hln _ (List.getElem_mem hi)
          obtain ⟨vs, h1, h2, h3⟩ := rd_fun (w := w) (G := G) cs sz hl b (base + (i * esz' + off)) (fun j => arr.getD (base + (i * esz' + (off + j))) undef)
            (fun j hj => by
              rw [cell?_heap hh]
              have h1 : i * esz' + esz' ≤ es.length * esz' := by
                have := Nat.mul_le_mul_right esz' (Nat.succ_le_of_lt hi)
                rwa [Nat.succ_mul] at this
              have : base + (i * esz' + off) + j < arr.size := by omega
              simp [Array.getD, Nat.add_assoc] at this ⊢
              simp [this])
            (fun j a ha => by
              have hj : j < sz := by rw [← hl]; exact (List.getElem?_eq_some_iff.1 ha).1
              rw [hg j hj] at ha
              obtain ⟨hk, rfl⟩ := List.getElem?_eq_some_iff.1 ha
              exact hr i (off + j) hi hk)
          exact ⟨_, _, vs, hv, hl, h1, fun c hc => hf _ (List.getElem_mem hi) c (hm c hc), h2, h3⟩
      · cases h
    · cases h
  · rename_i cells
    obtain ⟨b, off, vs0, hv, hI, hf, hc, hr⟩ := hp.of_ep
    obtain ⟨hle, hl, hm, hg⟩ := takeN_some h
    obtain ⟨vs, h1, h2, h3⟩ := rd_fun (w := w) (G := G) cs sz hl b off vs0 (fun j hj => hc j (by omega))
      (fun j a ha => by
        have hj : j < sz := by rw [← hl]; exact (List.getElem?_eq_some_iff.1 ha).1
        rw [hg j hj, Nat.zero_add] at ha
        obtain ⟨hk, rfl⟩ := List.getElem?_eq_some_iff.1 ha
        exact hr j hk)
    exact ⟨_, _, vs, hv, hl, h1, fun c hc => hf c (hm c hc), h2, h3⟩
  · cases h

/-! ## Loads -/
inductive LK where
  | ld (sz : Nat) (agg : Bool)
  | look (ok : Bool) (mk : MKey) (zero : AV)
  | mlen

def mpOf (σ : Store) : AV → Option (List (AV × AV))
  | .nilmap => some []
  | .mp id => match σ id with
    | some (.map es) => some es
    | _ => none
  | _ => none

def lookRes (ok : Bool) (zero : AV) : Option (Nat × AV) → AV
  | some (_, v) => if ok then .tup [v, .bool true] else v
  | none => if ok then .tup [zero, .bool false] else zero

def ldv : LK → List AV → Store → Option AV
  | .ld sz true, [p], σ => (rd σ sz p).map .agg
  | .ld _ false, [p], σ => (rd σ 1 p).bind fun | [c] => some c | _ => none
  | .look ok mk zero, [m, k], σ => if keyFits mk k = true then (mpOf σ m).bind fun es => (mfind k es 0).map (lookRes ok zero) else none
  | .mlen, [m], σ => (mpOf σ m).map fun es => .int .i64 es.length
  | _, _, _ => none

/-- The zero value of a type, as one value. -/
def tzeroV (P : Program) (t : TypeId) : Option AV := do
  let i ← P.info? t
  AV.ofValue (← i.zero)

def compLoad (P : Program) : Op → Option (LK × List Opd)
  | .load t x => do
    let ag ← tagg P t
    pure (.ld (← tsz P t) ag, [← compOpd x])
  | .lookup t m k ok => do
    let .map kt et ← P.underlying t | none
    pure (.look ok (← keyKind P kt) (← tzeroV P et), [← compOpd m, ← compOpd k])
  | .call c => match c.callee with
    | .builtin .len => do
      let [x] := c.args.toList | none
      let [t] := c.argTypes.toList | none
      let .map _ _ ← P.underlying t | none
      pure (.mlen, [← compOpd x])
    | _ => none
  | _ => none

theorem rZeroV {t : TypeId} {z : AV} (h : tzeroV P t = some z) : ∃ v, (zeroValue t).run P w = .ok v w ∧ VRel G w z v := by
  unfold tzeroV at h
  simp only [Option.bind_eq_bind] at h
  obtain ⟨i, hi, h⟩ := opt_bind h
  obtain ⟨v, hv, h⟩ := opt_bind h
  exact ⟨v, by simp [zeroValue, rTypeInfo hi, hv], ofValue_rel h⟩

/-- A map, as it lies. -/
theorem mp_rel (hs : Sim G σ w) {m : AV} {v : Value} {es : List (AV × AV)} (hm : VRel G w m v) (h : mpOf σ m = some es) :
    (v = .map none ∧ es = []) ∨ ∃ b ents clock, v = .map (some b) ∧ w.heap[b]? = some (.map ents clock) ∧ Rels (fun e x => VRel G w e.1 x.key ∧ VRel G w e.2 x.val) es ents.toList := by
  unfold mpOf at h
  split at h
  · cases h
    cases hm
    exact .inl ⟨rfl, rfl⟩
  · rename_i id
    split at h
    · rename_i es' hσ
      cases h
      obtain ⟨b, base, hb, hv⟩ := hm.of_mp
      obtain ⟨b', base', hb', ho⟩ := hs.used id _ hσ
      rw [hb] at hb'; cases hb'
      cases ho with
      | map hh h0 hl hr hborn hinj =>
        rename_i ents clock
        exact .inr ⟨b, ents, clock, hv, hh, Rels.of_get (by simpa using hl) fun k hk hk' => by
          have := hr k hk (by simpa using hk')
          simpa using this⟩
    · cases h
  · cases h

theorem getObj_run {b : Nat} {ents : Array MapEntry} {clock : Nat} (h : w.heap[b]? = some (.map ents clock)) : (getObj b).run P w = .ok (.map ents clock) w := by
  simp [getObj, Sem.run, h]

theorem look_run (hs : Sim G σ w) {t kt et : TypeId} {mk : MKey} {zero m k : AV} {vm vk : Value} {ok : Bool} {es : List (AV × AV)} {r : Option (Nat × AV)} (ht : P.underlying t = some (.map kt et)) (hk : keyKind P kt = some mk)
    (hz : tzeroV P et = some zero) (hm : VRel G w m vm) (hkv : VRel G w k vk) (hf : keyFits mk k = true) (he : mpOf σ m = some es) (hfd : mfind k es 0 = some r) :
    ∃ v, (Instr.lookup t vm vk ok).run P w = .ok v w ∧ VRel G w (lookRes ok zero r) v := by
  obtain ⟨zv, hz1, hz2⟩ := rZeroV (w := w) (G := G) hz
  have e10 : (10000 : Nat) = 9998 + 1 + 1 := rfl
  have hpair : ∀ {a : AV} {v : Value} {b : Bool}, VRel G w a v → VRel G w (.tup [a, .bool b]) (.tuple #[v, .bool b]) := fun {a v b} h =>
    .tup (cs := [v, .bool b]) rfl fun k hk hk' => by
      match k, hk with
      | 0, _ => exact h
      | 1, _ => exact .bool b
  have fin : ∀ (b : Bool) (l : List MapEntry), Rels (fun e x => VRel G w e.1 x.key ∧ VRel G w e.2 x.val) es l → ∃ v, ((do
      Instr.checkKey b 10000 kt vk
      let (v, ok') ← match ← Instr.findKey kt vk l with
        | some (_, v) => pure (v, true)
        | none => pure (← zeroValue et, false)
      pure (if ok then .tuple #[v, .bool ok'] else v) : Sem Value)).run P w = .ok v w ∧ VRel G w (lookRes ok zero r) v := by
    intro b l hl
    obtain ⟨r', h1, h2⟩ := findKey_run hk hf hkv hl hfd
    have hck := checkKey_run hk hf hkv b 9998
    rcases h2 with ⟨rfl, rfl⟩ | ⟨j, a, v, rfl, rfl, hv⟩
    · refine ⟨if ok then .tuple #[zv, .bool false] else zv, ?_, ?_⟩
      · rw [e10]; simp [hck, h1, hz1]
      · cases ok
        · exact hz2
        · exact hpair hz2
    · refine ⟨if ok then .tuple #[v, .bool true] else v, ?_, ?_⟩
      · rw [e10]; simp [hck, h1]
      · cases ok
        · exact hv
        · exact hpair hv
  unfold Instr.lookup
  simp only [Sem.run_bind, rUnderlying ht, Result.andThen_ok]
  rcases mp_rel hs hm he with ⟨rfl, rfl⟩ | ⟨b, ents, clock, rfl, hh, hrel⟩
  · obtain ⟨v, h1, h2⟩ := fin (#[] : Array MapEntry).isEmpty (#[] : Array MapEntry).toList .nil
    refine ⟨v, ?_, h2⟩
    simp only [pure_bind]
    simp only [Sem.run_bind] at h1 ⊢
    exact h1
  · obtain ⟨v, h1, h2⟩ := fin ents.isEmpty ents.toList hrel
    refine ⟨v, ?_, h2⟩
    simp only [bind_assoc, Sem.run_bind, getObj_run hh, Result.andThen_ok, pure_bind]
    simp only [Sem.run_bind] at h1
    exact h1

theorem load_ok {op : Op} {lk : LK} {xs : List Opd} {as : List AV} {a : AV} (hs : Sim G σ w) (H : OpdOk G w ev oev)
    (hc : compLoad P op = some (lk, xs)) (has : xs.mapM oev = some as) (hp : ldv lk as σ = some a) : Has P G ev op w a := by
  unfold compLoad at hc
  simp only [Option.bind_eq_bind, Option.pure_def] at hc
  split at hc
  · rename_i t x
    obtain ⟨ag, hag, hc⟩ := opt_bind hc
    obtain ⟨n, hn, hc⟩ := opt_bind hc
    obtain ⟨X, hX, hc⟩ := opt_bind hc
    cases hc
    obtain ⟨p, h1, rfl⟩ := mapM1 has
    have hx := H x X p hX h1
    cases ag
    · simp only [ldv] at hp
      obtain ⟨cs, hr, hp⟩ := opt_bind hp
      split at hp
      · rename_i c
        cases hp
        obtain ⟨b, o, vs, hv, hl, hvl, hf, hrel, hcell⟩ := rd_rel hs hx hr
        match vs, hvl, hrel with
        | [v0], _, .cons hr0 _ =>
          refine ⟨v0, gives_of (s := Instr.loadAt t (ev x)) (fun _ _ _ _ _ => rfl) ?_, hr0⟩
          rw [hv]
          unfold Instr.loadAt Instr.sureAddr loadVar
          have := hcell 0 v0 rfl
          simp at this
          simp [rIsAgg hag, this]
      · cases hp
    · simp only [ldv, Option.map_eq_some_iff] at hp
      obtain ⟨cs, hr, rfl⟩ := hp
      obtain ⟨b, o, vs, hv, hl, hvl, hf, hrel, hcell⟩ := rd_rel hs hx hr
      refine ⟨.agg vs.toArray, gives_of (s := Instr.loadAt t (ev x)) (fun _ _ _ _ _ => rfl) ?_, ?_⟩
      · rw [hv]
        unfold Instr.loadAt Instr.sureAddr loadVar
        have := run_loadCells_list (P := P) w ⟨b, o, none⟩ vs (fun j x hx => by rw [add_mk]; exact hcell j x hx)
        rw [hvl] at this
        simp [rIsAgg hag, rSizeOf hn, this]
      · refine .agg hrel.length hf fun k hk hk' => ?_
        obtain ⟨b', hb', hv'⟩ := hrel.get k _ (List.getElem?_eq_getElem hk)
        rw [List.getElem?_eq_getElem hk'] at hb'
        cases hb'; exact hv'
  · rename_i t m k ok
    obtain ⟨d, hd, hc⟩ := opt_bind hc
    split at hc
    · rename_i kt et
      obtain ⟨mk, hmk, hc⟩ := opt_bind hc
      obtain ⟨z, hz, hc⟩ := opt_bind hc
      obtain ⟨M, hM, hc⟩ := opt_bind hc
      obtain ⟨K, hK, hc⟩ := opt_bind hc
      cases hc
      obtain ⟨p, q, h1, h2, rfl⟩ := mapM2 has
      simp only [ldv] at hp
      split at hp
      · rename_i hf
        obtain ⟨es, he, hp⟩ := opt_bind hp
        obtain ⟨r, hr, rfl⟩ := Option.map_eq_some_iff.1 hp
        obtain ⟨v, h3, h4⟩ := look_run (P := P) (ok := ok) hs hd hmk hz (H m M p hM h1) (H k K q hK h2) hf he hr
        exact ⟨v, gives_of (s := Instr.lookup t (ev m) (ev k) ok) (fun _ _ _ _ _ => rfl) h3, h4⟩
      · cases hp
    · cases hc
  · rename_i c
    obtain ⟨callee, args, ats⟩ := c
    split at hc
    · rename_i heq
      simp only at heq; subst heq
      split at hc
      · rename_i x hx
        have hx' : args.toList = [x] := hx
        split at hc
        · rename_i t ht
          have ht' : ats.toList = [t] := ht
          obtain ⟨d, hd, hc⟩ := opt_bind hc
          split at hc
          · obtain ⟨X, hX, hc⟩ := opt_bind hc
            cases hc
            rw [toList_one hx', toList_one ht']
            obtain ⟨p, h1, rfl⟩ := mapM1 has
            have hm := H x X p hX h1
            simp only [ldv, Option.map_eq_some_iff] at hp
            obtain ⟨es, he, rfl⟩ := hp
            refine ⟨.int .i64 es.length, ?_, .int _ _⟩
            intro dst ty pos after guard
            rcases mp_rel hs hm he with ⟨hv, rfl⟩ | ⟨b, ents, clock, hv, hh, hrel⟩
            · simp [execOp, resolve, invoke, builtin, Builtin.len_, rUnderlying hd, hv, goInt]
            · have hl := hrel.length
              simp at hl
              simp [execOp, resolve, invoke, builtin, Builtin.len_, rUnderlying hd, hv, goInt, getObj_run hh, hl]
          · cases hc
        · cases hc
      · cases hc
    · cases hc
  · cases hc

end
end Go.Am
