/- A part of the proof: a logic for calls over plain values, and a runner that is shown to be right. -/
import Derived.Test.YtmahfnljcfaicaaAm3
namespace Go.Am
set_option linter.unusedVariables false
set_option linter.unusedSimpArgs false

theorem add_mk (b o n : Nat) : (⟨b, o, none⟩ : Addr).add n = ⟨b, o + n, none⟩ := by
  unfold Addr.add; split
  · rename_i h; subst h; rfl
  · rfl

section
variable {w : World} {G : Gh}

theorem VRel.of_ep {cells : List AV} {v : Value} (h : VRel G w (.ep cells) v) : ∃ b off, ∃ vs : Nat → Value, v = .pointer (some ⟨b, off, none⟩) ∧ G.I b ∧ (∀ c ∈ cells, c.flat = true) ∧
    (∀ k, k < cells.length → w.cell? ⟨b, off + k, none⟩ = some (vs k)) ∧ (∀ k (h : k < cells.length), VRel G w cells[k] (vs k)) := by
  cases h with | ep vs hb hf hc hv => exact ⟨_, _, vs, rfl, hb, hf, hc, hv⟩

theorem VRel.of_sl {esz : Nat} {es : List (List AV)} {v : Value} (h : VRel G w (.sl esz es) v) (hne : es ≠ []) :
    ∃ b off c, ∃ vs : Nat → Nat → Value, v = .slice (some ⟨b, off, none⟩) es.length c ∧ G.I b ∧ es.length ≤ c ∧ (∀ cs ∈ es, cs.length = esz) ∧ (∀ cs ∈ es, ∀ x ∈ cs, x.flat = true) ∧
      (∀ i j, i < es.length → j < esz → w.cell? ⟨b, off + (i * esz + j), none⟩ = some (vs i j)) ∧
      (∀ i j (hi : i < es.length) (hj : j < (es[i]'hi : List AV).length), VRel G w ((es[i]'hi : List AV)[j]'hj) (vs i j)) := by
  cases h with
  | sl0 => exact absurd rfl hne
  | sl vs hb hne hcap hl hf hc hv => exact ⟨_, _, _, vs, rfl, hb, hcap, hl, hf, hc, hv⟩

theorem VRel.of_sl_len {esz : Nat} {es : List (List AV)} {v : Value} (h : VRel G w (.sl esz es) v) : ∃ a c, v = .slice a es.length c ∧ es.length ≤ c := by
  cases h with
  | sl0 => exact ⟨_, _, rfl, Nat.zero_le _⟩
  | sl vs hb hne hcap hl hf hc hv => exact ⟨_, _, rfl, hcap⟩

theorem VRel.of_os {id esz off len : Nat} {v : Value} (h : VRel G w (.os id esz off len) v) : ∃ b base, G.ρ id = some (b, base) ∧
    ((∃ c, v = .slice (some ⟨b, base + off * esz, none⟩) len c ∧ len ≤ c ∧ ∃ ty n, w.shape? b = some (ty, n) ∧ base + (off + c) * esz ≤ n) ∨
     (len = 0 ∧ ∃ x, v = .slice (some x) 0 0)) := by
  cases h with
  | os h hlen hs => exact ⟨_, _, h, .inl ⟨_, rfl, hlen, hs⟩⟩
  | os0 h => exact ⟨_, _, h, .inr ⟨rfl, _, rfl⟩⟩

theorem VRel.of_tup {vs : List AV} {v : Value} (h : VRel G w (.tup vs) v) : ∃ cs : List Value, v = .tuple cs.toArray ∧ vs.length = cs.length ∧
    (∀ k (h : k < vs.length) (h' : k < cs.length), VRel G w vs[k] cs[k]) := by
  cases h with | tup hl hv => exact ⟨_, rfl, hl, hv⟩

theorem VRel.of_fn {f : Nat} {caps : List AV} {v : Value} (h : VRel G w (.fn f caps) v) : ∃ cs : List Value, v = .func (.func f) #[] cs.toArray ∧ caps.length = cs.length ∧
    (∀ k (h : k < caps.length) (h' : k < cs.length), VRel G w caps[k] cs[k]) := by
  cases h with | fn hl hv => exact ⟨_, rfl, hl, hv⟩

end

section
variable {P : Program} {w : World} {G : Gh} {ev : Operand → Value} {oev : Opd → Option AV}

theorem equal_succ (t : TypeId) (x y : Value) : Op.equal t x y = Op.equalIn (9999 + 1) t x y := rfl

theorem eq_run {neg : Bool} {t : TypeId} {x y : Value} {b : Bool}
    (h1 : binOp .eql t x y = (do pure (.bool (← Op.equal t x y)))) (h2 : binOp .neq t x y = (do pure (.bool (!(← Op.equal t x y)))))
    (h : (Op.equal t x y).run P w = .ok b w) : (binOp (if neg then .neq else .eql) t x y).run P w = .ok (.bool (if neg then !b else b)) w := by
  cases neg
  · simp only [Bool.false_eq_true, if_false]; rw [h1]; simp [h]
  · simp only [if_true]; rw [h2]; simp [h]

theorem equalIn_bool (d : Nat) {t : TypeId} (ht : P.underlying t = some .bool) (a b : Bool) : (Op.equalIn (d + 1) t (.bool a) (.bool b)).run P w = .ok (a == b) w := by
  simp [Op.equalIn, rUnderlying ht]
theorem equalIn_int (d : Nat) {t : TypeId} {k : IntKind} (ht : P.underlying t = some (.int k)) (k' : IntKind) (a b : Int) : (Op.equalIn (d + 1) t (.int k' a) (.int k' b)).run P w = .ok (a == b) w := by
  simp [Op.equalIn, rUnderlying ht]
theorem equalIn_slice (d : Nat) {t e : TypeId} (ht : P.underlying t = some (.slice e)) (a : Option Addr) (n c : Nat) :
    (Op.equalIn (d + 1) t (.slice a n c) (.slice none 0 0)).run P w = .ok a.isNone w := by
  cases a <;> simp [Op.equalIn, rUnderlying ht]
theorem equalIn_ptr (d : Nat) {t e : TypeId} (ht : P.underlying t = some (.pointer e)) (a : Option Addr) :
    (Op.equalIn (d + 1) t (.pointer a) (.pointer none)).run P w = .ok a.isNone w := by
  cases a <;> simp [Op.equalIn, rUnderlying ht]

theorem eqGuard_plain {op : BinOp} {t : TypeId} {x y : Operand} {a b : Value} (h1 : a ≠ .nilIface) (h2 : ∀ cs, a ≠ .agg cs) : (eqGuard op t x y a b).run P w = .ok () w := by
  cases a <;> first
    | exact absurd rfl h1
    | exact absurd rfl (h2 _)
    | (cases op <;> simp [eqGuard])

theorem has_eqb {op : BinOp} {neg : Bool} {t yt : TypeId} {x y : Operand} {X Y : Opd} {as : List AV} {a : AV} (H : OpdOk G w ev oev)
    (hop : op = if neg then .neq else .eql) (ht : P.underlying t = some .bool)
    (hX : compOpd x = some X) (hY : compOpd y = some Y) (has : [X, Y].mapM oev = some as) (hp : pv (.eqb neg) as = some a) :
    Has P G ev (.binOp op t x y yt) w a := by
  obtain ⟨p, q, h1, h2, rfl⟩ := mapM2 has
  have hx := H x X p hX h1
  have hy := H y Y q hY h2
  cases p <;> simp only [pv, reduceCtorEq] at hp
  cases q <;> simp only [pv, reduceCtorEq] at hp
  rename_i b b'
  have hr := eq_run (P := P) (w := w) (neg := neg) (t := t) (x := .bool b) (y := .bool b') rfl rfl (equalIn_bool 9999 ht b b')
  refine ⟨.bool (if neg then !(b == b') else b == b'), gives_of (fun _ _ _ _ _ => rfl) ?_, by cases hp; exact .bool _⟩
  rw [hx.of_bool, hy.of_bool]
  simp only [Sem.run_bind, eqGuard_plain (P := P) (w := w) (a := .bool b) (by simp) (by simp), Result.andThen_ok]
  rw [hop, hr]

theorem isNilS_slice {p : AV} {v : Value} {b : Bool} (h : VRel G w p v) (hb : isNilS p = some b) : ∃ a n c, v = .slice a n c ∧ a.isNone = b := by
  cases h with
  | nils => cases hb; exact ⟨_, _, _, rfl, rfl⟩
  | sl0 => simp [isNilS] at hb
  | sl vs _ hne => simp [isNilS, hne] at hb; subst hb; exact ⟨_, _, _, rfl, rfl⟩
  | os => cases hb; exact ⟨_, _, _, rfl, rfl⟩
  | os0 => cases hb; exact ⟨_, _, _, rfl, rfl⟩
  | _ => cases hb

theorem isNilP_ptr {p : AV} {v : Value} {b : Bool} (h : VRel G w p v) (hb : isNilP p = some b) : ∃ a, v = .pointer a ∧ a.isNone = b := by
  cases h with
  | nil => cases hb; exact ⟨_, rfl, rfl⟩
  | ptr => cases hb; exact ⟨_, rfl, rfl⟩
  | aptr => cases hb; exact ⟨_, rfl, rfl⟩
  | ep => cases hb; exact ⟨_, rfl, rfl⟩
  | _ => cases hb

theorem has_eqnil {op : BinOp} {neg p : Bool} {t yt : TypeId} {x y : Operand} {X : Opd} {as : List AV} {a : AV} (H : OpdOk G w ev oev)
    (hop : op = if neg then .neq else .eql) (hX : compOpd x = some X) (has : [X].mapM oev = some as) (hp : pv (.eqnil neg p) as = some a)
    (hk : (p = false ∧ ∃ e, P.underlying t = some (.slice e) ∧ ev y = .slice none 0 0) ∨ (p = true ∧ ∃ e, P.underlying t = some (.pointer e) ∧ ev y = .pointer none)) :
    Has P G ev (.binOp op t x y yt) w a := by
  obtain ⟨p', h1, rfl⟩ := mapM1 has
  have hx := H x X p' hX h1
  simp only [pv, Option.map_eq_some_iff] at hp
  obtain ⟨b, hb, rfl⟩ := hp
  refine ⟨.bool (if neg then !b else b), gives_of (fun _ _ _ _ _ => rfl) ?_, .bool _⟩
  rcases hk with ⟨rfl, e, ht, hy⟩ | ⟨rfl, e, ht, hy⟩
  · obtain ⟨a, n, c, hv, hab⟩ := isNilS_slice hx (by simpa using hb)
    rw [hv, hy]
    simp only [Sem.run_bind, eqGuard_plain (P := P) (w := w) (a := .slice a n c) (by simp) (by simp), Result.andThen_ok]
    rw [hop, ← hab]
    exact eq_run (P := P) (w := w) (neg := neg) (t := t) rfl rfl (equalIn_slice 9999 ht a n c)
  · obtain ⟨a, hv, hab⟩ := isNilP_ptr hx (by simpa using hb)
    rw [hv, hy]
    simp only [Sem.run_bind, eqGuard_plain (P := P) (w := w) (a := .pointer a) (by simp) (by simp), Result.andThen_ok]
    rw [hop, ← hab]
    refine eq_run (P := P) (w := w) (neg := neg) (t := t) ?_ ?_ (equalIn_ptr 9999 ht a)
    · cases a <;> rfl
    · cases a <;> rfl

end
end Go.Am
