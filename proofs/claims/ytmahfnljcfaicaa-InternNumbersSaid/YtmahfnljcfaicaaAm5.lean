/- A part of the proof: a logic for calls over plain values, and a runner that is shown to be right. -/
import Derived.Test.YtmahfnljcfaicaaAm4
namespace Go.Am
set_option linter.unusedVariables false
set_option linter.unusedSimpArgs false
section
variable {P : Program} {w : World} {G : Gh} {ev : Operand → Value} {oev : Opd → Option AV}

theorem twoInts_some {t : TypeId} {fs : Array Field} {k1 k2 : IntKind} (h : twoInts P t fs = some (k1, k2)) :
    ∃ f g, fs = #[f, g] ∧ P.underlying f.type = some (.int k1) ∧ P.underlying g.type = some (.int k2) ∧ f.name ≠ "_" ∧ g.name ≠ "_" ∧ f.offset = 0 ∧ g.offset = 1 ∧
      P.stoodInHeld t = false ∧ P.eqGuardType P.depth t = false := by
  unfold twoInts at h
  simp only [Option.bind_eq_bind, Option.pure_def] at h
  split at h
  · rename_i f g hfs
    obtain ⟨d1, h1, h⟩ := opt_bind h
    split at h
    · rename_i k1'
      obtain ⟨d2, h2, h⟩ := opt_bind h
      split at h
      · rename_i k2'
        split at h
        · rename_i hc
          obtain ⟨c1, c2, c3, c4, c5, c6⟩ := hc
          cases h
          exact ⟨f, g, by rw [← Array.toArray_toList (xs := fs), hfs], h1, h2, c1, c2, c3, c4, c5, c6⟩
        · cases h
      · cases h
    · cases h
  · cases h

theorem part_int {t : TypeId} {k : IntKind} (h : P.underlying t = some (.int k)) {cs : Array Value} {off : Nat} {v : Value} (hc : cs[off]? = some v) :
    (part t cs off).run P w = .ok v w := by
  unfold part isAgg
  simp [rUnderlying h, hc]

theorem equalIn_two (d : Nat) {t : TypeId} {fs : Array Field} {k1 k2 : IntKind} (ht : P.underlying t = some (.struct fs)) (h : twoInts P t fs = some (k1, k2)) (a1 a2 b1 b2 : Int) :
    (Op.equalIn (d + 1 + 1) t (.agg #[.int k1 a1, .int k2 a2]) (.agg #[.int k1 b1, .int k2 b2])).run P w = .ok (decide (a1 = b1 ∧ a2 = b2)) w := by
  obtain ⟨f, g, rfl, h1, h2, h3, h4, h5, h6, h7, h8⟩ := twoInts_some h
  rw [Op.equalIn]
  simp only [Sem.run_bind, rUnderlying ht, Result.andThen_ok, run_program, h7]
  simp only [Bool.false_eq_true, if_false]
  have p1 : ∀ x y, (part f.type #[.int k1 x, .int k2 y] f.offset).run P w = .ok (.int k1 x) w := fun x y => part_int h1 (by simp [h5])
  have p2 : ∀ x y, (part g.type #[.int k1 x, .int k2 y] g.offset).run P w = .ok (.int k2 y) w := fun x y => part_int h2 (by simp [h6])
  have q1 : ∀ x y, (Op.equalIn (d + 1) f.type (.int k1 x) (.int k1 y)).run P w = .ok (x == y) w := fun x y => equalIn_int d h1 k1 x y
  have q2 : ∀ x y, (Op.equalIn (d + 1) g.type (.int k2 x) (.int k2 y)).run P w = .ok (x == y) w := fun x y => equalIn_int d h2 k2 x y
  simp only [List.forIn_toArray, List.forIn_cons, List.forIn_nil, bind_assoc, Sem.run_bind]
  by_cases e1 : a1 = b1 <;> by_cases e2 : a2 = b2 <;> simp [h3, h4, p1, p2, q1, q2, e1, e2]

theorem eqGuard_two {op : BinOp} {t : TypeId} {x y : Operand} {a b : Array Value} (h : P.eqGuardType P.depth t = false) : (eqGuard op t x y (.agg a) (.agg b)).run P w = .ok () w := by
  cases op <;> simp [eqGuard, h]

theorem agg2 {cells : List AV} {a b : AV} {v : Value} (h : VRel G w (.agg cells) v) (hc : cells = [a, b]) : ∃ x y, v = .agg #[x, y] ∧ VRel G w a x ∧ VRel G w b y := by
  subst hc
  obtain ⟨cs, rfl, hl, _, hv⟩ := h.of_agg
  match cs, hl with
  | [x, y], _ => exact ⟨x, y, rfl, hv 0 (by simp) (by simp), hv 1 (by simp) (by simp)⟩

theorem has_eq2 {op : BinOp} {neg : Bool} {k1 k2 : IntKind} {t yt : TypeId} {fs : Array Field} {x y : Operand} {X Y : Opd} {as : List AV} {a : AV} (H : OpdOk G w ev oev)
    (hop : op = if neg then .neq else .eql) (ht : P.underlying t = some (.struct fs)) (h2i : twoInts P t fs = some (k1, k2))
    (hX : compOpd x = some X) (hY : compOpd y = some Y) (has : [X, Y].mapM oev = some as) (hp : pv (.eq2 neg k1 k2) as = some a) :
    Has P G ev (.binOp op t x y yt) w a := by
  obtain ⟨p, q, h1, h2, rfl⟩ := mapM2 has
  have hx := H x X p hX h1
  have hy := H y Y q hY h2
  simp only [pv] at hp
  unfold pEq2 at hp
  split at hp
  · rename_i j1 x1 j2 x2 i1 y1 i2 y2
    split at hp
    · rename_i hk
      obtain ⟨rfl, rfl, rfl, rfl⟩ := hk
      obtain ⟨u1, u2, hv, r1, r2⟩ := agg2 hx rfl
      obtain ⟨v1, v2, hv', r3, r4⟩ := agg2 hy rfl
      have e1 := r1.of_int; have e2 := r2.of_int; have e3 := r3.of_int; have e4 := r4.of_int
      subst e1 e2 e3 e4
      refine ⟨.bool (if neg then !decide (x1 = y1 ∧ x2 = y2) else decide (x1 = y1 ∧ x2 = y2)), gives_of (fun _ _ _ _ _ => rfl) ?_, by cases hp; exact .bool _⟩
      obtain ⟨_, _, _, _, _, _, _, _, _, _, hg⟩ := twoInts_some h2i
      rw [hv, hv']
      simp only [Sem.run_bind, eqGuard_two hg, Result.andThen_ok]
      rw [hop]
      exact eq_run (P := P) (w := w) (neg := neg) (t := t) rfl rfl (by rw [equal_succ]; exact equalIn_two 9998 ht h2i x1 x2 y1 y2)
    · cases hp
  · cases hp

theorem has_mov {op : Op} {x : Operand} {X : Opd} {as : List AV} {a : AV} (H : OpdOk G w ev oev) (hop : op = .move x ∨ op = .assign x)
    (hX : compOpd x = some X) (has : [X].mapM oev = some as) (hp : pv .mov as = some a) : Has P G ev op w a := by
  obtain ⟨p, h1, rfl⟩ := mapM1 has
  simp only [pv, Option.some.injEq] at hp
  subst hp
  refine ⟨ev x, ?_, H x X p hX h1⟩
  intro dst ty pos after guard
  rcases hop with rfl | rfl <;> simp [execOp]

theorem has_nilchk {x : Operand} {X : Opd} {as : List AV} {a : AV} (H : OpdOk G w ev oev)
    (hX : compOpd x = some X) (has : [X].mapM oev = some as) (hp : pv .nilchk as = some a) : Has P G ev (.nilCheck x) w a := by
  obtain ⟨p, h1, rfl⟩ := mapM1 has
  have hx := H x X p hX h1
  simp only [pv] at hp
  refine ⟨ev x, ?_, ?_⟩
  · intro dst ty pos after guard
    split at hp
    · obtain ⟨b, base, _, hv⟩ := hx.of_ptr; rw [hv]; simp [execOp, hv]
    · obtain ⟨b, base, _, hv⟩ := hx.of_aptr; rw [hv]; simp [execOp, hv]
    · obtain ⟨b, off, vs, hv, _⟩ := hx.of_ep; rw [hv]; simp [execOp, hv]
    · obtain ⟨cs, hv, _⟩ := hx.of_fn; rw [hv]; simp [execOp, hv]
    · cases hp
  · split at hp <;> cases hp <;> exact hx

theorem has_not {t : TypeId} {x : Operand} {X : Opd} {as : List AV} {a : AV} (H : OpdOk G w ev oev)
    (hX : compOpd x = some X) (has : [X].mapM oev = some as) (hp : pv .not as = some a) : Has P G ev (.unOp .not t x) w a := by
  obtain ⟨p, h1, rfl⟩ := mapM1 has
  have hx := H x X p hX h1
  cases p <;> simp only [pv, reduceCtorEq] at hp
  cases hp
  exact ⟨_, gives_of (s := Op.unary .not (ev x)) (fun _ _ _ _ _ => rfl) (by rw [hx.of_bool]; rfl), .bool _⟩

theorem has_neg {t : TypeId} {x : Operand} {X : Opd} {as : List AV} {a : AV} (H : OpdOk G w ev oev)
    (hX : compOpd x = some X) (has : [X].mapM oev = some as) (hp : pv .neg as = some a) : Has P G ev (.unOp .neg t x) w a := by
  obtain ⟨p, h1, rfl⟩ := mapM1 has
  have hx := H x X p hX h1
  cases p <;> simp only [pv, reduceCtorEq] at hp
  cases hp
  exact ⟨_, gives_of (s := Op.unary .neg (ev x)) (fun _ _ _ _ _ => rfl) (by rw [hx.of_int]; rfl), .int _ _⟩

theorem has_cpl {t : TypeId} {x : Operand} {X : Opd} {as : List AV} {a : AV} (H : OpdOk G w ev oev)
    (hX : compOpd x = some X) (has : [X].mapM oev = some as) (hp : pv .cpl as = some a) : Has P G ev (.unOp .xor t x) w a := by
  obtain ⟨p, h1, rfl⟩ := mapM1 has
  have hx := H x X p hX h1
  cases p <;> simp only [pv, reduceCtorEq] at hp
  cases hp
  exact ⟨_, gives_of (s := Op.unary .xor (ev x)) (fun _ _ _ _ _ => rfl) (by rw [hx.of_int]; rfl), .int _ _⟩

theorem has_conv {s d : TypeId} {j k : IntKind} {x : Operand} {X : Opd} {as : List AV} {a : AV} (H : OpdOk G w ev oev)
    (hs : P.underlying s = some (.int j)) (hd : P.underlying d = some (.int k))
    (hX : compOpd x = some X) (has : [X].mapM oev = some as) (hp : pv (.conv k) as = some a) : Has P G ev (.convert s d x) w a := by
  obtain ⟨p, h1, rfl⟩ := mapM1 has
  have hx := H x X p hX h1
  cases p <;> simp only [pv, reduceCtorEq] at hp
  cases hp
  refine ⟨_, gives_of (s := convert s d (ev x)) (fun _ _ _ _ _ => rfl) ?_, .int _ _⟩
  rw [hx.of_int]
  simp only [convert, Sem.run_bind, rUnderlying hs, rUnderlying hd, Result.andThen_ok]
  rfl

theorem ep_drop {cells : List AV} {b off n : Nat} (h : VRel G w (.ep cells) (.pointer (some ⟨b, off, none⟩))) : VRel G w (.ep (cells.drop n)) (.pointer (some ⟨b, off + n, none⟩)) := by
  obtain ⟨b', off', vs, he, hI, hf, hc, hv⟩ := h.of_ep
  cases he
  refine .ep (fun k => vs (n + k)) hI (fun c hc' => hf c (List.mem_of_mem_drop hc')) (fun k hk => ?_) (fun k hk => ?_)
  · rw [List.length_drop] at hk
    rw [Nat.add_assoc]; exact hc (n + k) (by omega)
  · rw [List.length_drop] at hk
    have := hv (n + k) (by omega)
    rw [List.getElem_drop]; exact this

theorem fieldPlace_run {f : Field} {n : Nat} (hn : tsz P f.type = some n) (h0 : n ≠ 0) (b o : Nat) : (fieldPlace ⟨b, o, none⟩ f).run P w = .ok ⟨b, o + f.offset, none⟩ w := by
  unfold fieldPlace
  simp [rSizeOf hn, h0, add_mk]

theorem has_fld {s : TypeId} {fs : Array Field} {f : Nat} {fd : Field} {n : Nat} {x : Operand} {X : Opd} {as : List AV} {a : AV} (H : OpdOk G w ev oev)
    (hs : P.underlying s = some (.struct fs)) (hf : fs[f]? = some fd) (hn : tsz P fd.type = some n) (h0 : n ≠ 0)
    (hX : compOpd x = some X) (has : [X].mapM oev = some as) (hp : pv (.fld fd.offset) as = some a) : Has P G ev (.fieldAddr s x f) w a := by
  obtain ⟨p, h1, rfl⟩ := mapM1 has
  have hx := H x X p hX h1
  simp only [pv] at hp
  have key : ∀ b o, ev x = .pointer (some ⟨b, o, none⟩) → (Instr.fieldAt s (ev x) f).run P w = .ok (.pointer (some ⟨b, o + fd.offset, none⟩)) w := fun b o he => by
    unfold Instr.fieldAt Instr.sureAddr
    simp [rUnderlying hs, hf, he, fieldPlace_run hn h0]
  unfold pFld at hp
  split at hp
  · obtain ⟨b, base, hb, hv⟩ := hx.of_ptr
    cases hp
    exact ⟨_, gives_of (s := Instr.fieldAt s (ev x) f) (fun _ _ _ _ _ => rfl) (key _ _ hv), by rw [Nat.add_assoc]; exact .ptr hb⟩
  · obtain ⟨b, base, hb, hv⟩ := hx.of_aptr
    cases hp
    exact ⟨_, gives_of (s := Instr.fieldAt s (ev x) f) (fun _ _ _ _ _ => rfl) (key _ _ hv), by rw [Nat.add_assoc, Nat.add_assoc]; exact .aptr hb⟩
  · obtain ⟨b, off, vs, hv, _⟩ := hx.of_ep
    cases hp
    exact ⟨_, gives_of (s := Instr.fieldAt s (ev x) f) (fun _ _ _ _ _ => rfl) (key _ _ hv), by rw [hv] at hx; exact ep_drop hx⟩
  · cases hp

theorem part_rel {t : TypeId} {off sz : Nat} {agg : Bool} {cells : List AV} {a : AV} {cs : List Value} (hs : tsz P t = some sz) (ha : tagg P t = some agg)
    (hl : cells.length = cs.length) (hf : ∀ c ∈ cells, c.flat = true) (hv : ∀ k (h : k < cells.length) (h' : k < cs.length), VRel G w cells[k] cs[k])
    (hp : pPart off sz agg cells = some a) : ∃ v, (part t cs.toArray off).run P w = .ok v w ∧ VRel G w a v := by
  rw [rPart hs ha]
  unfold pPart at hp
  cases agg
  · simp only [Bool.false_eq_true, if_false] at hp ⊢
    obtain ⟨hk, rfl⟩ := List.getElem?_eq_some_iff.1 hp
    have hk' : off < cs.length := hl ▸ hk
    have : cs.toArray[off]? = some (cs[off]'hk') := by simp [hk']
    exact ⟨_, by rw [this], hv off hk hk'⟩
  · simp only [if_true] at hp ⊢
    split at hp
    · cases hp
      refine ⟨_, rfl, ?_⟩
      have e : cs.toArray.extract off (off + sz) = ((cs.drop off).take sz).toArray := by
        rw [List.extract_toArray, List.extract_eq_take_drop, Nat.add_sub_cancel_left]
      rw [e]
      refine .agg (by simp [hl]) (fun c hc => hf c (List.mem_of_mem_drop (List.mem_of_mem_take hc))) fun k hk hk' => ?_
      simp only [List.length_take, List.length_drop] at hk
      have := hv (off + k) (by omega) (by omega)
      simpa using this
    · cases hp

theorem has_fldv {t : TypeId} {fs : Array Field} {f : Nat} {fd : Field} {n : Nat} {ag : Bool} {x : Operand} {X : Opd} {as : List AV} {a : AV} (H : OpdOk G w ev oev)
    (hs : P.underlying t = some (.struct fs)) (hf : fs[f]? = some fd) (hn : tsz P fd.type = some n) (ha : tagg P fd.type = some ag)
    (hX : compOpd x = some X) (has : [X].mapM oev = some as) (hp : pv (.fldv fd.offset n ag) as = some a) : Has P G ev (.field t x f) w a := by
  obtain ⟨p, h1, rfl⟩ := mapM1 has
  have hx := H x X p hX h1
  simp only [pv] at hp
  unfold pFldv at hp
  split at hp
  · obtain ⟨cs, hv, hl, hfl, hr⟩ := hx.of_agg
    obtain ⟨v, h2, h3⟩ := part_rel (P := P) hn ha hl hfl hr hp
    refine ⟨v, gives_of (s := Instr.field t (ev x) f) (fun _ _ _ _ _ => rfl) ?_, h3⟩
    unfold Instr.field
    simp [rUnderlying hs, hf, hv, asAgg, h2]
  · cases hp

theorem asIntOf_run (k : IntKind) (n : Int) : (asIntOf (.int k n)).run P w = .ok (k, n) w := rfl

theorem indexAt_slice {t e : TypeId} {sz : Nat} (ht : P.underlying t = some (.slice e)) (hs : tsz P e = some sz) {k : IntKind} {m : Int} {b o n c : Nat} (h0 : 0 ≤ m) (h1 : m < (n : Int)) :
    (Instr.indexAt t (.slice (some ⟨b, o, none⟩) n c) (.int k m)).run P w = .ok (.pointer (some ⟨b, o + m.toNat * sz, none⟩)) w := by
  unfold Instr.indexAt
  simp [asIntOf_run, rUnderlying ht, rSizeOf hs, h0, h1, add_mk]

theorem indexAt_array {t e : TypeId} {sz len : Nat} (ht : P.underlying t = some (.array len e)) (hs : tsz P e = some sz) {k : IntKind} {m : Int} {b o : Nat} (h0 : 0 ≤ m) (h1 : m < (len : Int)) :
    (Instr.indexAt t (.pointer (some ⟨b, o, none⟩)) (.int k m)).run P w = .ok (.pointer (some ⟨b, o + m.toNat * sz, none⟩)) w := by
  unfold Instr.indexAt Instr.sureAddr
  simp [asIntOf_run, rUnderlying ht, rSizeOf hs, h0, h1, add_mk]

theorem sl_ep {esz : Nat} {es : List (List AV)} {b off n c : Nat} {m : Nat} {cs : List AV} (h : VRel G w (.sl esz es) (.slice (some ⟨b, off, none⟩) n c)) (hm : es[m]? = some cs) :
    VRel G w (.ep cs) (.pointer (some ⟨b, off + m * esz, none⟩)) := by
  have hne : es ≠ [] := by intro e; subst e; simp at hm
  obtain ⟨b', off', c', vs, he, hI, hcap, hl, hf, hc, hv⟩ := h.of_sl hne
  cases he
  obtain ⟨hm', rfl⟩ := List.getElem?_eq_some_iff.1 hm
  have hlen : es[m].length = esz := hl _ (List.getElem_mem hm')
  exact .ep (fun k => vs m k) hI (hf _ (List.getElem_mem hm')) (fun k hk => by rw [Nat.add_assoc]; exact hc m k hm' (by omega)) (fun k hk => hv m k hm' hk)

theorem has_idx {t e : TypeId} {sz : Nat} {x i : Operand} {X I : Opd} {as : List AV} {a : AV} (H : OpdOk G w ev oev)
    (ht : P.underlying t = some (.slice e)) (hs : tsz P e = some sz)
    (hX : compOpd x = some X) (hI : compOpd i = some I) (has : [X, I].mapM oev = some as) (hp : pv (.idx sz) as = some a) : Has P G ev (.indexAddr t x i) w a := by
  obtain ⟨p, q, h1, h2, rfl⟩ := mapM2 has
  have hx := H x X p hX h1
  have hi := H i I q hI h2
  simp only [pv] at hp
  unfold pIdx at hp
  split at hp
  · rename_i esz' es k m
    split at hp
    · rename_i hc
      obtain ⟨rfl, h0⟩ := hc
      cases hm : es[m.toNat]? with
      | none => simp [hm] at hp
      | some cs =>
        simp [hm] at hp; subst hp
        have hlt : m.toNat < es.length := (List.getElem?_eq_some_iff.1 hm).1
        have hne : es ≠ [] := by intro e; subst e; simp at hm
        obtain ⟨b, off, c, vs, hv, _⟩ := hx.of_sl hne
        rw [hv] at hx
        refine ⟨_, gives_of (s := Instr.indexAt t (ev x) (ev i)) (fun _ _ _ _ _ => rfl) (by rw [hv, hi.of_int]; exact indexAt_slice ht hs h0 (by omega)), sl_ep hx hm⟩
    · cases hp
  · rename_i id esz' off len k m
    split at hp
    · rename_i hc
      obtain ⟨rfl, h0, hlt⟩ := hc
      cases hp
      obtain ⟨b, base, hb, ⟨c, hv, hlen, _⟩ | ⟨rfl, _⟩⟩ := hx.of_os
      · refine ⟨_, gives_of (s := Instr.indexAt t (ev x) (ev i)) (fun _ _ _ _ _ => rfl) (by rw [hv, hi.of_int]; exact indexAt_slice ht hs h0 hlt), ?_⟩
        have e : base + off * esz' + m.toNat * esz' = base + ((off + m.toNat) * esz' + 0) := by rw [Nat.add_mul]; omega
        rw [e]; exact .aptr hb
      · omega
    · cases hp
  · cases hp

theorem has_idxa {t e : TypeId} {sz len : Nat} {x i : Operand} {X I : Opd} {as : List AV} {a : AV} (H : OpdOk G w ev oev)
    (ht : P.underlying t = some (.array len e)) (hs : tsz P e = some sz)
    (hX : compOpd x = some X) (hI : compOpd i = some I) (has : [X, I].mapM oev = some as) (hp : pv (.idxa len sz) as = some a) : Has P G ev (.indexAddr t x i) w a := by
  obtain ⟨p, q, h1, h2, rfl⟩ := mapM2 has
  have hx := H x X p hX h1
  have hi := H i I q hI h2
  simp only [pv] at hp
  unfold pIdxa at hp
  split at hp
  · split at hp
    · rename_i hc
      cases hp
      obtain ⟨b, base, hb, hv⟩ := hx.of_ptr
      exact ⟨_, gives_of (s := Instr.indexAt t (ev x) (ev i)) (fun _ _ _ _ _ => rfl) (by rw [hv, hi.of_int]; exact indexAt_array ht hs hc.1 hc.2), by rw [Nat.add_assoc]; exact .ptr hb⟩
    · cases hp
  · split at hp
    · rename_i hc
      cases hp
      obtain ⟨b, base, hb, hv⟩ := hx.of_aptr
      exact ⟨_, gives_of (s := Instr.indexAt t (ev x) (ev i)) (fun _ _ _ _ _ => rfl) (by rw [hv, hi.of_int]; exact indexAt_array ht hs hc.1 hc.2), by rw [Nat.add_assoc, Nat.add_assoc]; exact .aptr hb⟩
    · cases hp
  · split at hp
    · rename_i hc
      cases hp
      obtain ⟨b, off, vs, hv, _⟩ := hx.of_ep
      exact ⟨_, gives_of (s := Instr.indexAt t (ev x) (ev i)) (fun _ _ _ _ _ => rfl) (by rw [hv, hi.of_int]; exact indexAt_array ht hs hc.1 hc.2), by rw [hv] at hx; exact ep_drop hx⟩
    · cases hp
  · cases hp

theorem has_idxv {t e : TypeId} {sz len : Nat} {ag : Bool} {x i : Operand} {X I : Opd} {as : List AV} {a : AV} (H : OpdOk G w ev oev)
    (ht : P.underlying t = some (.array len e)) (hs : tsz P e = some sz) (ha : tagg P e = some ag)
    (hX : compOpd x = some X) (hI : compOpd i = some I) (has : [X, I].mapM oev = some as) (hp : pv (.idxv len sz ag) as = some a) : Has P G ev (.index t x i) w a := by
  obtain ⟨p, q, h1, h2, rfl⟩ := mapM2 has
  have hx := H x X p hX h1
  have hi := H i I q hI h2
  simp only [pv] at hp
  unfold pIdxv at hp
  split at hp
  · split at hp
    · rename_i hc
      obtain ⟨cs, hv, hl, hfl, hr⟩ := hx.of_agg
      obtain ⟨v, h3, h4⟩ := part_rel (P := P) hs ha hl hfl hr hp
      refine ⟨v, gives_of (s := Instr.index t (ev x) (ev i)) (fun _ _ _ _ _ => rfl) ?_, h4⟩
      rw [hv, hi.of_int]
      unfold Instr.index
      simp [asIntOf_run, rUnderlying ht, rSizeOf hs, hc.1, hc.2, h3]
    · cases hp
  · cases hp

theorem VRel.of_str {G : Gh} {s : ByteArray} {v : Value} (h : VRel G w (.str s) v) : v = .string s := by cases h; rfl

theorem has_idxs {t : TypeId} {x i : Operand} {X I : Opd} {as : List AV} {a : AV} (H : OpdOk G w ev oev)
    (ht : P.underlying t = some .string)
    (hX : compOpd x = some X) (hI : compOpd i = some I) (has : [X, I].mapM oev = some as) (hp : pv .idxs as = some a) : Has P G ev (.index t x i) w a := by
  obtain ⟨p, q, h1, h2, rfl⟩ := mapM2 has
  have hx := H x X p hX h1
  have hi := H i I q hI h2
  simp only [pv] at hp
  unfold pIdxs at hp
  split at hp
  · split at hp
    · rename_i h0
      obtain ⟨b, hb, rfl⟩ := Option.map_eq_some_iff.1 hp
      refine ⟨.int .u8 b.toNat, gives_of (s := Instr.index t (ev x) (ev i)) (fun _ _ _ _ _ => rfl) ?_, .int _ _⟩
      rw [hx.of_str, hi.of_int]
      unfold Instr.index
      simp [asIntOf_run, rUnderlying ht, h0, hb]
    · cases hp
  · cases hp

theorem has_len {t e : TypeId} {x : Operand} {X : Opd} {as : List AV} {a : AV} (H : OpdOk G w ev oev)
    (ht : P.underlying t = some (.slice e)) (hX : compOpd x = some X) (has : [X].mapM oev = some as) (hp : pv .len as = some a) :
    Has P G ev (.call { callee := .builtin .len, args := #[x], argTypes := #[t] }) w a := by
  obtain ⟨p, h1, rfl⟩ := mapM1 has
  have hx := H x X p hX h1
  simp only [pv] at hp
  have key : ∀ b n c, ev x = .slice b n c → Gives P ev (.call { callee := .builtin .len, args := #[x], argTypes := #[t] }) w (.int .i64 n) := fun b n c he => by
    intro dst ty pos after guard
    simp [execOp, resolve, invoke, builtin, Builtin.len_, rUnderlying ht, he, goInt]
  unfold pLen at hp
  split at hp
  · cases hp
    obtain ⟨b, c, hv, _⟩ := hx.of_sl_len
    exact ⟨_, key _ _ _ hv, .int _ _⟩
  · cases hp
    obtain ⟨b, base, hb, ⟨c, hv, hlen, _⟩ | ⟨rfl, z, hv⟩⟩ := hx.of_os
    · exact ⟨_, key _ _ _ hv, .int _ _⟩
    · exact ⟨_, key _ _ _ hv, .int _ _⟩
  · cases hp
    exact ⟨_, key _ _ _ hx.of_nils, .int _ _⟩
  · cases hp

theorem has_cap {t e : TypeId} {x : Operand} {X : Opd} {as : List AV} {a : AV} (H : OpdOk G w ev oev)
    (ht : P.underlying t = some (.slice e)) (hX : compOpd x = some X) (has : [X].mapM oev = some as) (hp : pv .cap as = some a) :
    Has P G ev (.call { callee := .builtin .cap, args := #[x], argTypes := #[t] }) w a := by
  obtain ⟨p, h1, rfl⟩ := mapM1 has
  have hx := H x X p hX h1
  simp only [pv] at hp
  unfold pCap at hp
  split at hp
  · cases hp
    refine ⟨.int .i64 0, ?_, .int _ _⟩
    intro dst ty pos after guard
    simp [execOp, resolve, invoke, builtin, Builtin.cap_, rUnderlying ht, hx.of_nils, goInt]
  · cases hp

theorem has_ext {i : Nat} {x : Operand} {X : Opd} {as : List AV} {a : AV} (H : OpdOk G w ev oev)
    (hX : compOpd x = some X) (has : [X].mapM oev = some as) (hp : pv (.ext i) as = some a) : Has P G ev (.extract x i) w a := by
  obtain ⟨p, h1, rfl⟩ := mapM1 has
  have hx := H x X p hX h1
  cases p <;> simp only [pv, reduceCtorEq] at hp
  rename_i vs
  obtain ⟨cs, hv, hl, hr⟩ := hx.of_tup
  obtain ⟨hk, rfl⟩ := List.getElem?_eq_some_iff.1 hp
  have hk' : i < cs.length := hl ▸ hk
  refine ⟨cs[i], gives_of (s := Instr.extract (ev x) i) (fun _ _ _ _ _ => rfl) ?_, hr i hk hk'⟩
  rw [hv]
  unfold Instr.extract
  have : cs.toArray[i]? = some cs[i] := by simp [hk']
  simp only [this]
  rfl

theorem has_mkif {t : TypeId} {x : Operand} {X : Opd} {as : List AV} {a : AV} {d : TypeDesc} (H : OpdOk G w ev oev) (ht : P.underlying t = some d) (hd : ∀ ms, d ≠ .interface ms)
    (hX : compOpd x = some X) (has : [X].mapM oev = some as) (hp : pv (.mkif t) as = some a) : Has P G ev (.makeInterface t x) w a := by
  obtain ⟨p, h1, rfl⟩ := mapM1 has
  have hx := H x X p hX h1
  simp only [pv, Option.some.injEq] at hp
  subst hp
  refine ⟨.iface t (ev x), gives_of (s := Instr.makeInterface t (ev x)) (fun _ _ _ _ _ => rfl) ?_, .iface hx⟩
  unfold Instr.makeInterface
  simp only [Sem.run_bind, rUnderlying ht, Result.andThen_ok]
  cases d <;> first | exact absurd rfl (hd _) | rfl

end
end Go.Am
