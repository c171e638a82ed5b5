/- A part of the proof: a logic for calls over plain values, and a runner that is shown to be right. -/
import Derived.Test.YtmahfnljcfaicaaAmM2
namespace Go.Am
set_option linter.unusedVariables false
set_option linter.unusedSimpArgs false

/-- A function that can be entered: it has a body. -/
def Ent (P : Program) (f : Nat) : Prop := ∃ fn, P.funcs[f]? = some fn ∧ (fn.name == "runtime.NumGoroutine") = false ∧ fn.body.isSome = true

/-- A call, over abstract values: it returns, and what it returns and leaves is as said. -/
def ACalls (P : Program) (f : Nat) (args : List AV) (σ : Store) (Q : AV → Store → Prop) : Prop :=
  Ent P f ∧ ∀ G w vs, Sim G σ w → Rels (VRel G w) args vs →
    Calls P f vs.toArray w (fun e w' => ∃ v a G' σ', e = .returned v ∧ Ext G σ w G' σ' w' ∧ Sim G' σ' w' ∧ VRel G' w' a v ∧ Q a σ')

theorem ACalls.mono {P : Program} {f : Nat} {args : List AV} {σ : Store} {Q Q' : AV → Store → Prop} (h : ACalls P f args σ Q) (hq : ∀ a s, Q a s → Q' a s) : ACalls P f args σ Q' :=
  ⟨h.1, fun G w vs hs hv => (h.2 G w vs hs hv).mono fun e w' ⟨v, a, G', σ', h1, h2, h3, h4, h5⟩ => ⟨v, a, G', σ', h1, h2, h3, h4, hq a σ' h5⟩⟩

/-- What was promised behind a call may be forgotten in part. -/
theorem ACalls.forget {P : Program} {f : Nat} {args : List AV} {σ : Store} {Q : AV → Store → Prop} (h : ACalls P f args σ (fun a s => ∃ s', Store.sub s' s ∧ Q a s')) : ACalls P f args σ Q :=
  ⟨h.1, fun G w vs hs hv => (h.2 G w vs hs hv).mono fun e w' ⟨v, a, G', σ', h1, h2, h3, h4, s', h5, h6⟩ => ⟨v, a, G', s', h1, h2.sub h5, h3.sub h5, h4, h6⟩⟩

theorem Store.union_left {σ φ : Store} {id : Nat} {o : Obj} (h : σ id = some o) : (σ.union φ) id = some o := by simp [Store.union, h]
theorem Store.union_right {σ φ : Store} {id : Nat} (h : σ id = none) : (σ.union φ) id = φ id := by simp [Store.union, h]
theorem Store.sub_union (σ φ : Store) : σ.sub (σ.union φ) := fun _ _ h => Store.union_left h
theorem Store.sub_union_right {σ φ : Store} (hd : σ.disj φ) : φ.sub (σ.union φ) := fun id o h => by
  cases hσ : σ id with
  | none => rw [Store.union_right hσ]; exact h
  | some x => rw [hd id x hσ] at h; cases h

/-- What is beside a piece of store stays as it was. -/
theorem Sim.frame {G G' : Gh} {σ σ' φ : Store} {w w' : World} (hs : Sim G (σ.union φ) w) (hd : σ.disj φ) (hx : Ext G σ w G' σ' w') (hs' : Sim G' σ' w') :
    σ'.disj φ ∧ Ext G (σ.union φ) w G' (σ'.union φ) w' ∧ Sim G' (σ'.union φ) w' := by
  have hφ := hs.sub (Store.sub_union_right hd)
  have hσ := hs.sub (Store.sub_union σ φ)
  have hd' : σ'.disj φ := fun id o ho => by
    cases hp : φ id with
    | none => rfl
    | some p =>
      obtain ⟨b, base, h1, _⟩ := hφ.used id p hp
      rcases hx.newId id o ho with ⟨o', h2⟩ | h2
      · rw [hd id o' h2] at hp; cases hp
      · rw [h1] at h2; cases h2
  have hnot : ∀ id p b base, φ id = some p → G.ρ id = some (b, base) → ¬ own G σ b := fun id p b base hp hb ⟨i, o, base', h1, h2⟩ => by
    have := hs.inj i id o p b base' base (Store.union_left h1) ((Store.sub_union_right hd) id p hp) h2 hb
    subst this
    rw [hd i o h1] at hp; cases hp
  have huni : ∀ {s : Store} {id : Nat} {o : Obj}, (s.union φ) id = some o → s id = some o ∨ (s id = none ∧ φ id = some o) := fun {s id o} h => by
    cases hs : s id with
    | none => rw [Store.union_right hs] at h; exact .inr ⟨rfl, h⟩
    | some x => rw [Store.union_left hs] at h; exact .inl h
  refine ⟨hd', ?_, ?_⟩
  · exact { hx with
      keep := fun b hb hn => hx.keep b hb (fun ho => hn (own_sub (Store.sub_union σ φ) ho))
      newI := fun b hb => (hx.newI b hb).imp id (Or.imp (own_sub (Store.sub_union σ φ)) id)
      newOwn := fun b ⟨i, o, base, h1, h2⟩ => by
        rcases huni h1 with h | ⟨_, h⟩
        · exact (hx.newOwn b ⟨i, o, base, h, h2⟩).imp (own_sub (Store.sub_union σ φ)) id
        · obtain ⟨b', base', h3, _⟩ := hφ.used i o h
          rw [hx.ρ _ _ h3] at h2; cases h2
          exact .inl ⟨i, o, base, (Store.sub_union_right hd) i o h, h3⟩
      newId := fun i o h1 => by
        rcases huni h1 with h | ⟨_, h⟩
        · rcases hx.newId i o h with ⟨o', h2⟩ | h2
          · exact .inl ⟨o', Store.union_left h2⟩
          · exact .inr h2
        · exact .inl ⟨o, (Store.sub_union_right hd) i o h⟩ }
  · exact
      { lt := hs'.lt, fin := hs'.fin, blk := hs'.blk
        used := fun i o h1 => by
          rcases huni h1 with h | ⟨_, h⟩
          · exact hs'.used i o h
          · obtain ⟨b, base, h3, h4⟩ := hφ.used i o h
            exact ⟨b, base, hx.ρ _ _ h3, h4.grow (hx.keep b (hφ.blk i b base h3) (hnot i o b base h h3)) fun a v hv => hx.vrel hσ hv⟩
        inj := fun i j oi oj b bi bj h1 h2 h3 h4 => by
          rcases huni h1 with h | ⟨_, h⟩ <;> rcases huni h2 with h' | ⟨_, h'⟩
          · exact hs'.inj i j oi oj b bi bj h h' h3 h4
          · obtain ⟨c, base, h5, _⟩ := hφ.used j oj h'
            rw [hx.ρ _ _ h5] at h4; cases h4
            rcases hx.newOwn b ⟨i, oi, bi, h, h3⟩ with h6 | h6
            · exact absurd h6 (hnot j oj _ _ h' h5)
            · have := hφ.blk j _ _ h5; omega
          · obtain ⟨c, base, h5, _⟩ := hφ.used i oi h
            rw [hx.ρ _ _ h5] at h3; cases h3
            rcases hx.newOwn b ⟨j, oj, bj, h', h4⟩ with h6 | h6
            · exact absurd h6 (hnot i oi _ _ h h5)
            · have := hφ.blk i _ _ h5; omega
          · obtain ⟨c, base, h5, _⟩ := hφ.used i oi h
            obtain ⟨c', base', h6, _⟩ := hφ.used j oj h'
            rw [hx.ρ _ _ h5] at h3; rw [hx.ρ _ _ h6] at h4
            exact hφ.inj i j oi oj b bi bj h h' (by rw [h5]; exact h3) (by rw [h6]; exact h4)
        apart := fun i o b base h1 h2 => by
          rcases huni h1 with h | ⟨_, h⟩
          · exact hs'.apart i o b base h h2
          · obtain ⟨c, base', h5, _⟩ := hφ.used i o h
            rw [hx.ρ _ _ h5] at h2; cases h2
            intro hI
            rcases hx.newI b hI with h6 | h6 | h6
            · exact hφ.apart i o _ _ h h5 h6
            · exact hnot i o _ _ h h5 h6
            · have := hφ.blk i _ _ h5; omega }

theorem ACalls.frame {P : Program} {f : Nat} {args : List AV} {σ φ : Store} {Q : AV → Store → Prop} (h : ACalls P f args σ Q) (hd : σ.disj φ) :
    ACalls P f args (σ.union φ) (fun a s => ∃ σ', s = σ'.union φ ∧ σ'.disj φ ∧ Q a σ') :=
  ⟨h.1, fun G w vs hs hv => (h.2 G w vs (hs.sub (Store.sub_union σ φ)) hv).mono fun e w' ⟨v, a, G', σ', h1, h2, h3, h4, h5⟩ => by
    obtain ⟨f1, f2, f3⟩ := hs.frame hd h2 h3
    exact ⟨v, a, G', _, h1, f2, f3, h4, σ', rfl, f1, h5⟩⟩

/-! ## Loud operations -/
inductive LO where
  | st (sz : Nat)
  | app (esz bytes : Nat)
  | appz (esz bytes : Nat) (z : List AV)
  | call (f : Nat)
  | callv
  | mupd (mk : MKey)
  | mdel (mk : MKey)
  | nilq (neg : Bool)
  | clr (esz : Nat) (z : List AV)

/-- Is a slice nil? Of an empty one it need not be known. -/
def nilqwp (neg : Bool) (a : AV) (K : AV → Prop) : Prop := match a with
  | .nils => K (.bool (!neg))
  | .sl _ [] => K (.bool true) ∧ K (.bool false)
  | .sl _ (_ :: _) => K (.bool neg)
  | .os .. => K (.bool neg)
  | _ => False

def lwp (P : Program) : LO → List AV → Store → (AV → Store → Prop) → Prop
  | .st sz, [p, a], σ, K => a.isTup = false ∧ a.cells.length = sz ∧ match wr σ a.cells p with | some σ' => K (.tup []) σ' | none => False
  | .app esz bytes, [x, y], σ, K => appwp esz bytes x y σ K
  | .appz esz bytes z, [x, y], σ, K => appzwp esz bytes z x y σ K
  | .call f, args, σ, K => ACalls P f args σ K
  | .callv, .fn f caps :: args, σ, K => ACalls P f (args ++ caps) σ K
  | .mupd mk, [m, k, v], σ, K => mupdwp mk m k v σ (K (.tup []))
  | .mdel mk, [m, k], σ, K => mdelwp mk m k σ (K (.tup []))
  | .nilq neg, [a], σ, K => nilqwp neg a (fun b => K b σ)
  | .clr esz z, [x], σ, K => clrwp esz z x σ (K (.tup []))
  | _, _, _, _ => False

def compLoudCall (P : Program) (c : Call) : Option (LO × List Opd) :=
  match c.callee with
  | .builtin .append => do
    let [sT, xT] := c.argTypes.toList | none
    let [x, y] := c.args.toList | none
    let .slice e ← P.underlying sT | none
    match ← P.underlying xT with
    | .slice _ => do
      let s ← tsz P e
      let i ← P.info? e
      let z ← tzero P e
      if z.length = s ∧ 1 ≤ i.bytes then pure (.app s i.bytes, [← compOpd x, ← compOpd y]) else none
    | .int _ => do
      let s ← tsz P e
      let i ← P.info? e
      let z ← tzero P e
      if z.length = s ∧ 1 ≤ i.bytes then pure (.appz s i.bytes z, [← compOpd x, ← compOpd y]) else none
    | _ => none
  | .builtin .delete => do
    let [mT, _] := c.argTypes.toList | none
    let [x, y] := c.args.toList | none
    let .map kt _ ← P.underlying mT | none
    pure (.mdel (← keyKind P kt), [← compOpd x, ← compOpd y])
  | .builtin .clear => do
    let [t] := c.argTypes.toList | none
    let [x] := c.args.toList | none
    let .slice e ← P.underlying t | none
    let s ← tsz P e
    let z ← tzero P e
    if z.length = s then pure (.clr s z, [← compOpd x]) else none
  | .value (.func f) => do pure (.call f, ← c.args.toList.mapM compOpd)
  | .value (.tmp t) => do pure (.callv, (.t t) :: (← c.args.toList.mapM compOpd))
  | _ => none

def compNilq (P : Program) (op : BinOp) (t : TypeId) (x y : Operand) : Option (LO × List Opd) := do
  let .slice _ ← P.underlying t | none
  let .const (.slice none 0 0) := y | none
  match op with
  | .eql => pure (.nilq false, [← compOpd x])
  | .neq => pure (.nilq true, [← compOpd x])
  | _ => none

def compLoud (P : Program) : Op → Option (LO × List Opd)
  | .store t a x => do pure (.st (← tsz P t), [← compOpd a, ← compOpd x])
  | .call c => compLoudCall P c
  | .mapUpdate t m k x => do
    let .map kt _ ← P.underlying t | none
    pure (.mupd (← keyKind P kt), [← compOpd m, ← compOpd k, ← compOpd x])
  | .binOp op t x y _ => compNilq P op t x y
  | _ => none

section
variable {P : Program} {w : World} {G : Gh} {σ : Store} {oev : Opd → Option AV}

/-- What is owed of an operation of the code, at some state: all ways on go on. -/
def Does (P : Program) (o : Oper) (a : Act) (G : Gh) (σ : Store) (w : World) (K : AV → Store → Prop) : Prop :=
  ∀ (next : Act → World → Prop) (Q : Exit → Act → World → Prop),
    (∀ v w' G' σ' av, Ext G σ w G' σ' w' → Sim G' σ' w' → (VRel G' w' av v ∨ o.dst = none) → K av σ' → next (a.put o.dst v) w') → o.wp P a w next Q

theorem callFunc_run {f : Nat} (h : Ent P f) (args : Array Value) : (callFunc f args).run P w = .ok (.enter f args) w := by
  obtain ⟨fn, h1, h2, h3⟩ := h
  unfold callFunc
  simp only [Sem.run_bind, run_program, Result.andThen_ok, h1, h2, Bool.false_eq_true, if_false]
  have : fn.body.isNone = false := by cases hb : fn.body <;> simp [hb] at h3 ⊢
  simp only [this, Bool.false_eq_true, if_false, Sem.run_pure]

theorem does_call {o : Oper} {a : Act} {f : Nat} {as : List AV} {vs : List Value} {K : AV → Store → Prop} (hs : Sim G σ w) (hr : Rels (VRel G w) as vs)
    (hrun : (execOp a.eval o).run P w = .ok (.enter f vs.toArray) w) (h : ACalls P f as σ K) : Does P o a G σ w K := by
  intro next Q hn
  unfold Oper.wp
  rw [hrun, Oper.upon_enter]
  refine (h.2 G w vs hs hr).mono ?_
  rintro e w' ⟨v, av, G', σ', rfl, h1, h2, h3, h4⟩
  exact hn v w' G' σ' av h1 h2 (.inl h3) h4

theorem nilq_slice {p : AV} {v : Value} {neg : Bool} {K : AV → Prop} (h : VRel G w p v) (hK : nilqwp neg p K) : ∃ a n c, v = .slice a n c ∧ K (.bool (if neg then !a.isNone else a.isNone)) := by
  cases h with
  | nils => refine ⟨_, _, _, rfl, ?_⟩; cases neg <;> exact hK
  | @sl0 e a c =>
    refine ⟨_, _, _, rfl, ?_⟩
    obtain ⟨h1, h2⟩ := hK
    cases (if neg then !a.isNone else a.isNone) <;> assumption
  | @sl e es b off c vs _ hne =>
    refine ⟨_, _, _, rfl, ?_⟩
    cases es with
    | nil => exact absurd rfl hne
    | cons x r => cases neg <;> exact hK
  | os => refine ⟨_, _, _, rfl, ?_⟩; cases neg <;> exact hK
  | os0 => refine ⟨_, _, _, rfl, ?_⟩; cases neg <;> exact hK
  | _ => exact hK.elim

theorem nilq_ok {op : BinOp} {t yt : TypeId} {x y : Operand} {lo : LO} {xs : List Opd} {as : List AV} {K : AV → Store → Prop} {ev : Operand → Value} (hcst : ∀ v, ev (.const v) = v) (H : OpdOk G w ev oev)
    (hc : compNilq P op t x y = some (lo, xs)) (has : xs.mapM oev = some as) (hK : lwp P lo as σ K) : ∃ b, Gives P ev (.binOp op t x y yt) w (.bool b) ∧ K (.bool b) σ := by
  unfold compNilq at hc
  simp only [Option.bind_eq_bind, Option.pure_def] at hc
  obtain ⟨d, hd, hc⟩ := opt_bind hc
  split at hc
  case h_2 => cases hc
  split at hc
  case h_2 => cases hc
  have key : ∀ (neg : Bool) (X : Opd), op = (if neg then .neq else .eql) → compOpd x = some X → [X].mapM oev = some as → lwp P (.nilq neg) as σ K → ∃ b, Gives P ev (.binOp op t x (.const (.slice none 0 0)) yt) w (.bool b) ∧ K (.bool b) σ := by
    intro neg X hop hX has hK
    obtain ⟨p', h1, rfl⟩ := mapM1 has
    have hx := H x X p' hX h1
    simp only [lwp] at hK
    obtain ⟨a, n, c, hv, hb⟩ := nilq_slice hx hK
    refine ⟨_, gives_of (fun _ _ _ _ _ => rfl) ?_, hb⟩
    rw [hv, hcst]
    simp only [Sem.run_bind, eqGuard_plain (P := P) (w := w) (a := .slice a n c) (by simp) (by simp), Result.andThen_ok]
    rw [hop]
    exact eq_run (P := P) (w := w) (neg := neg) (t := t) rfl rfl (equalIn_slice 9999 hd a n c)
  split at hc
  · obtain ⟨X, hX, hc⟩ := opt_bind hc; cases hc; exact key false X rfl hX has hK
  · obtain ⟨X, hX, hc⟩ := opt_bind hc; cases hc; exact key true X rfl hX has hK
  · cases hc

theorem loud_ok {o : Oper} {a : Act} {lo : LO} {xs : List Opd} {as : List AV} {K : AV → Store → Prop} (hs : Sim G σ w) (H : OpdOk G w a.eval oev)
    (hc : compLoud P o.op = some (lo, xs)) (hdst : (∃ t x y, o.op = .store t x y) ∨ (∃ t x y z, o.op = .mapUpdate t x y z) → o.dst = none) (has : xs.mapM oev = some as) (hK : lwp P lo as σ K) : Does P o a G σ w K := by
  obtain ⟨dst, op, ty, pos, after, guard⟩ := o
  unfold compLoud at hc
  simp only [Option.bind_eq_bind, Option.pure_def] at hc
  split at hc
  · rename_i t p x
    obtain ⟨n, hn, hc⟩ := opt_bind hc
    obtain ⟨X, hX, hc⟩ := opt_bind hc
    obtain ⟨Y, hY, hc⟩ := opt_bind hc
    cases hc
    obtain ⟨q, r, h1, h2, rfl⟩ := mapM2 has
    have hp := H p X q hX h1
    have hx := H x Y r hY h2
    simp only [lwp] at hK
    obtain ⟨ht, hl, hK⟩ := hK
    split at hK
    · rename_i σ' hw
      obtain ⟨hrel, hfl⟩ := cells_rels hx ht
      obtain ⟨b, o, hv, w', hrun, hext, hsim⟩ := wr_rel (P := P) hs hp hrel hfl hw
      intro next Q hnext
      unfold Oper.wp
      have : (execOp a.eval ⟨dst, .store t p x, ty, pos, after, guard⟩).run P w = .ok .skip w' := by
        show (do Instr.storeAt t (a.eval p) (a.eval x); pure .skip : Sem Next).run P w = _
        rw [hv]
        unfold Instr.storeAt Instr.sureAddr storeVar
        have hsz : (a.eval x).cells.size = n := by rw [← hl]; exact (hrel.length.trans (by simp)).symm
        simp only [Sem.run_bind, Sem.run_pure, Result.andThen_ok, rSizeOf hn, hsz, ne_eq, not_true_eq_false, if_false, hrun, pure_bind]
      rw [this, Oper.upon_skip]
      exact hnext undef w' G σ' _ hext hsim (.inr (hdst (.inl ⟨t, p, x, rfl⟩))) hK
    · exact hK.elim
  · rename_i c
    obtain ⟨callee, args, ats⟩ := c
    unfold compLoudCall at hc
    simp only [Option.bind_eq_bind, Option.pure_def] at hc
    split at hc
    · split at hc
      · rename_i sT xT hats
        split at hc
        · rename_i x y hargs
          obtain ⟨d, hd, hc⟩ := opt_bind hc
          split at hc
          · rename_i e
            obtain ⟨d', hd', hc⟩ := opt_bind hc
            split at hc
            · obtain ⟨s, hsz, hc⟩ := opt_bind hc
              obtain ⟨i, hi, hc⟩ := opt_bind hc
              obtain ⟨z, hz, hc⟩ := opt_bind hc
              split at hc
              · rename_i hzl
                obtain ⟨hzl, hb⟩ := hzl
                obtain ⟨X, hX, hc⟩ := opt_bind hc
                obtain ⟨Y, hY, hc⟩ := opt_bind hc
                cases hc
                obtain ⟨p, q, h1, h2, rfl⟩ := mapM2 has
                simp only [lwp] at hK
                have hats' : ats = #[sT, xT] := by rw [← Array.toArray_toList (xs := ats), hats]
                have hargs' : args = #[x, y] := by rw [← Array.toArray_toList (xs := args), hargs]
                subst hats' hargs'
                obtain ⟨v, w', G', σ', av, g1, g2, g3, g4, g5⟩ := app_ok (ty := ty) hs hd hsz hd' (fun k => by simp) hi hb hz hzl (H x X p hX h1) (H y Y q hY h2) hK
                intro next Q hnext
                unfold Oper.wp
                have : (execOp a.eval ⟨dst, .call { callee := .builtin .append, args := #[x, y], argTypes := #[sT, xT] }, ty, pos, after, guard⟩).run P w = .ok (.value v) w' := by
                  simp [execOp, resolve, invoke, builtin, g1]
                rw [this, Oper.upon_value]
                exact hnext v w' G' σ' av g2 g3 (.inl g4) g5
              · cases hc
            · obtain ⟨s, hsz, hc⟩ := opt_bind hc
              obtain ⟨i, hi, hc⟩ := opt_bind hc
              obtain ⟨z, hz, hc⟩ := opt_bind hc
              split at hc
              · rename_i hzl
                obtain ⟨hzl, hb⟩ := hzl
                obtain ⟨X, hX, hc⟩ := opt_bind hc
                obtain ⟨Y, hY, hc⟩ := opt_bind hc
                cases hc
                obtain ⟨p, q, h1, h2, rfl⟩ := mapM2 has
                simp only [lwp] at hK
                have hats' : ats = #[sT, xT] := by rw [← Array.toArray_toList (xs := ats), hats]
                have hargs' : args = #[x, y] := by rw [← Array.toArray_toList (xs := args), hargs]
                subst hats' hargs'
                obtain ⟨v, w', G', σ', av, g1, g2, g3, g4, g5⟩ := appz_ok (ty := ty) hs hd hsz hd' hi hb hz hzl (H x X p hX h1) (H y Y q hY h2) hK
                intro next Q hnext
                unfold Oper.wp
                have : (execOp a.eval ⟨dst, .call { callee := .builtin .append, args := #[x, y], argTypes := #[sT, xT] }, ty, pos, after, guard⟩).run P w = .ok (.value v) w' := by
                  simp [execOp, resolve, invoke, builtin, g1]
                rw [this, Oper.upon_value]
                exact hnext v w' G' σ' av g2 g3 (.inl g4) g5
              · cases hc
            · cases hc
          · cases hc
        · cases hc
      · cases hc
    · split at hc
      · rename_i mT kT hats
        split at hc
        · rename_i x y hargs
          obtain ⟨d, hd, hc⟩ := opt_bind hc
          split at hc
          · rename_i kt et
            obtain ⟨mk, hmk, hc⟩ := opt_bind hc
            obtain ⟨X, hX, hc⟩ := opt_bind hc
            obtain ⟨Y, hY, hc⟩ := opt_bind hc
            cases hc
            obtain ⟨p, q, h1, h2, rfl⟩ := mapM2 has
            simp only [lwp] at hK
            have hats' : ats = #[mT, kT] := by rw [← Array.toArray_toList (xs := ats), hats]
            have hargs' : args = #[x, y] := by rw [← Array.toArray_toList (xs := args), hargs]
            subst hats' hargs'
            obtain ⟨w', σ', g1, g2, g3, g5⟩ := mdel_ok (ty := ty) (kT := kT) hs hd hmk (H x X p hX h1) (H y Y q hY h2) hK
            intro next Q hnext
            unfold Oper.wp
            have : (execOp a.eval ⟨dst, .call { callee := .builtin .delete, args := #[x, y], argTypes := #[mT, kT] }, ty, pos, after, guard⟩).run P w = .ok (.value (.tuple #[])) w' := by
              simp [execOp, resolve, invoke, builtin, g1]
            rw [this, Oper.upon_value]
            exact hnext (.tuple #[]) w' G σ' _ g2 g3 (.inl (.tup (cs := []) rfl (fun k h => absurd h (by simp)))) g5
          · cases hc
        · cases hc
      · cases hc
    · split at hc
      · rename_i tT hats
        split at hc
        · rename_i x hargs
          obtain ⟨d, hd, hc⟩ := opt_bind hc
          split at hc
          · rename_i e
            obtain ⟨s, hsz, hc⟩ := opt_bind hc
            obtain ⟨z, hz, hc⟩ := opt_bind hc
            split at hc
            · rename_i hzl
              obtain ⟨X, hX, hc⟩ := opt_bind hc
              cases hc
              obtain ⟨p, h1, rfl⟩ := mapM1 has
              simp only [lwp] at hK
              have hats' : ats = #[tT] := by rw [← Array.toArray_toList (xs := ats), hats]
              have hargs' : args = #[x] := by rw [← Array.toArray_toList (xs := args), hargs]
              subst hats' hargs'
              obtain ⟨w', σ', g1, g2, g3, g5⟩ := clr_ok (ty := ty) hs hd hsz hz hzl (H x X p hX h1) hK
              intro next Q hnext
              unfold Oper.wp
              have : (execOp a.eval ⟨dst, .call { callee := .builtin .clear, args := #[x], argTypes := #[tT] }, ty, pos, after, guard⟩).run P w = .ok (.value (.tuple #[])) w' := by
                simp [execOp, resolve, invoke, builtin, g1]
              rw [this, Oper.upon_value]
              exact hnext (.tuple #[]) w' G σ' _ g2 g3 (.inl (.tup (cs := []) rfl (fun k h => absurd h (by simp)))) g5
            · cases hc
          · cases hc
        · cases hc
      · cases hc
    · rename_i f
      obtain ⟨ys, hys, hc⟩ := opt_bind hc
      cases hc
      simp only [lwp] at hK
      have hrel := mapM_rels H (f := compOpd) (g := fun x => x) (fun x y h => h) args.toList _ as hys has
      have hr := Rels.map_right (R := VRel G w) (f := a.eval) hrel
      refine does_call hs hr ?_ hK
      have e : args.map a.eval = (args.toList.map a.eval).toArray := by rw [← List.map_toArray]
      show (do let d ← resolve a.eval { callee := .value (.func f), args, argTypes := ats } ty; invoke d.target d.args : Sem Next).run P w = _
      simp only [resolve, Act.eval, Deferred.ofValue, pure_bind, invoke, Array.empty_append, Array.append_empty]
      have e' : (args.map fun x => a.eval x) = (args.toList.map a.eval).toArray := e
      rw [callFunc_run hK.1]
      congr 2
    · rename_i t
      obtain ⟨ys, hys, hc⟩ := opt_bind hc
      cases hc
      simp only [List.mapM_cons, Option.bind_eq_bind, Option.pure_def] at has
      obtain ⟨fa, hfa, has⟩ := opt_bind has
      obtain ⟨as', has', has⟩ := opt_bind has
      simp at has; subst has
      have hf := H (.tmp t) (.t t) fa rfl hfa
      obtain ⟨f, caps, rfl⟩ : ∃ f caps, fa = .fn f caps := by
        cases fa <;> simp only [lwp] at hK
        exact ⟨_, _, rfl⟩
      simp only [lwp] at hK
      have hrel := mapM_rels H (f := compOpd) (g := fun x => x) (fun x y h => h) args.toList _ as' hys has'
      have hr := Rels.map_right (R := VRel G w) (f := a.eval) hrel
      obtain ⟨cs, hv, hl, hcv⟩ := hf.of_fn
      have hr2 : Rels (VRel G w) (as' ++ caps) (args.toList.map a.eval ++ cs) := hr.append (Rels.of_get hl hcv)
      refine does_call hs hr2 ?_ hK
      have e : args.map a.eval = (args.toList.map a.eval).toArray := by rw [← List.map_toArray]
      show (do let d ← resolve a.eval { callee := .value (.tmp t), args, argTypes := ats } ty; invoke d.target d.args : Sem Next).run P w = _
      simp only [resolve, hv, Deferred.ofValue, pure_bind, invoke, Array.empty_append]
      rw [callFunc_run hK.1]
      congr 2
      rw [e]; simp
    · cases hc
  · rename_i t m k x
    obtain ⟨d, hd, hc⟩ := opt_bind hc
    split at hc
    · rename_i kt et
      obtain ⟨mk, hmk, hc⟩ := opt_bind hc
      obtain ⟨X, hX, hc⟩ := opt_bind hc
      obtain ⟨Y, hY, hc⟩ := opt_bind hc
      obtain ⟨Z, hZ, hc⟩ := opt_bind hc
      cases hc
      obtain ⟨p, q, r, h1, h2, h3, rfl⟩ := mapM3 has
      simp only [lwp] at hK
      obtain ⟨w', σ', g1, g2, g3, g5⟩ := mupd_ok hs hd hmk (H m X p hX h1) (H k Y q hY h2) (H x Z r hZ h3) hK
      intro next Q hnext
      unfold Oper.wp
      have : (execOp a.eval ⟨dst, .mapUpdate t m k x, ty, pos, after, guard⟩).run P w = .ok .skip w' := by
        show (do Instr.mapUpdate t (a.eval m) (a.eval k) (a.eval x); pure .skip : Sem Next).run P w = _
        simp only [Sem.run_bind, g1, Result.andThen_ok, Sem.run_pure]
      rw [this, Oper.upon_skip]
      exact hnext undef w' G σ' _ g2 g3 (.inr (hdst (.inr ⟨t, m, k, x, rfl⟩))) g5
    · cases hc
  · rename_i op t x y yt
    obtain ⟨b, h1, h2⟩ := nilq_ok (yt := yt) (fun _ => rfl) H hc has hK
    intro next Q hnext
    unfold Oper.wp
    rw [h1 dst ty pos after guard, Oper.upon_value]
    exact hnext (.bool b) w G σ _ (Ext.refl _ _ _) hs (.inl (.bool b)) h2
  · cases hc

end
end Go.Am
