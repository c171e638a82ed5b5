/- A part of the proof: a logic for calls over plain values, and a runner that is shown to be right. -/
import Derived.Test.YtmahfnljcfaicaaAm14
namespace Go.Am
set_option linter.unusedVariables false
set_option linter.unusedSimpArgs false

/-! ## Operations of a region -/
inductive BK where
  | pure (k : PK)
  | pick
  | load (k : LK)
  | alloc (k : AK)
  | loud (k : LO)
  | qcall (f : Nat)
  | bad

structure BOp where
  dst : Option Nat
  guard : Option (Nat × Bool)
  kind : BK
  xs : List Opd

/-- The slots of a frame, as far as known. -/
abbrev FE := Nat → Option AV

def FE.put (f : FE) (d : Option Nat) (a : AV) : FE := match d with
  | none => f
  | some t => fun n => if n = t then some a else f n

def fev (f : FE) : Opd → Option AV
  | .t n => f n
  | .c a => some a

/-- What an operation is, its operands known. -/
inductive TT where
  | bad
  | const (a : AV)
  | load (k : LK) (as : List AV)
  | alloc (o : Obj) (f : Nat → AV)
  | loud (k : LO) (as : List AV)
  | qcall (f : Nat) (as : List AV)

def BOp.exec (o : BOp) (f : FE) : TT :=
  match o.kind with
  | .pure k => match o.xs.mapM (fev f) with
    | some as => match pv k as with | some a => .const a | none => .bad
    | none => .bad
  | .pick => match o.xs with
    | [c, x, y] => match fev f c with
      | some (.bool true) => match fev f x with | some a => .const a | none => .bad
      | some (.bool false) => match fev f y with | some a => .const a | none => .bad
      | _ => .bad
    | _ => .bad
  | .load k => match o.xs.mapM (fev f) with | some as => .load k as | none => .bad
  | .alloc k => match o.xs.mapM (fev f) with
    | some as => match alv k as with | some (ob, g) => .alloc ob g | none => .bad
    | none => .bad
  | .loud k => match o.xs.mapM (fev f) with | some as => .loud k as | none => .bad
  | .qcall k => match o.xs.mapM (fev f) with | some as => .qcall k as | none => .bad
  | .bad => .bad

def BOp.tt (o : BOp) (f : FE) : TT :=
  match o.guard with
  | none => o.exec f
  | some (g, b) => match f g with
    | some (.bool v) => if v = b then o.exec f else .const (.tup [])
    | some (.tup []) => .const (.tup [])
    | _ => .bad

def TT.run (P : Program) : TT → Store → (AV → Store → Prop) → Prop
  | .bad, _, _ => False
  | .const a, σ, K => K a σ
  | .load k as, σ, K => ∃ a, ldv k as σ = some a ∧ K a σ
  | .alloc o f, σ, K => ∀ id, σ id = none → K (f id) (σ.set id o)
  | .loud k as, σ, K => lwp P k as σ K
  | .qcall f as, σ, K => ACalls P f as σ (fun a s => Store.sub σ s ∧ K a s)

def fops (P : Program) : List BOp → FE → Store → (FE → Store → Prop) → Prop
  | [], f, σ, K => K f σ
  | o :: r, f, σ, K => (o.tt f).run P σ fun a s => fops P r (f.put o.dst a) s K

def compQ (P : Program) (op : Op) : Option (LO × List Opd) := match op with
  | .binOp b t x y _ => compNilq P b t x y
  | _ => none

theorem compQ_loud {P : Program} {op : Op} {r : LO × List Opd} (h : compQ P op = some r) : compLoud P op = some r := by
  unfold compQ at h
  split at h
  · exact h
  · cases h

def compKind (P : Program) (draw : Bool) (op : Op) : Option (BK × List Opd) :=
  match op with
  | .pick c a b => do pure (.pick, [← compOpd c, ← compOpd a, ← compOpd b])
  | _ =>
  match compQ P op with
  | some (k, xs) => some (.loud k, xs)
  | none => match compPure P op with
  | some (k, xs) => some (.pure k, xs)
  | none => match compLoad P op with
    | some (k, xs) => some (.load k, xs)
    | none => match compAlloc P op with
      | some (k, xs) => some (.alloc k, xs)
      | none => match compLoud P op with
        | some (.call f, xs) => if draw then some (.qcall f, xs) else some (.loud (.call f), xs)
        | some (k, xs) => some (.loud k, xs)
        | none => some (.bad, [])

def isStore : Op → Bool
  | .store .. => true
  | .mapUpdate .. => true
  | _ => false

def guardOf (ops : Array Oper) : Option (Nat × Bool) → Option (Option (Nat × Bool))
  | none => some none
  | some (j, b) => ((ops[j]?).bind (·.dst)).map fun t => some (t, b)

def dstOk (N : Nat) : Option Nat → Bool
  | some d => decide (d < N)
  | none => true

def compOp (P : Program) (draw : Bool) (N : Nat) (ops : Array Oper) (o : Oper) : Option BOp :=
  match compKind P draw o.op, guardOf ops o.guard with
  | some (k, xs), some g => if dstOk N o.dst && (!isStore o.op || o.dst.isNone) then some ⟨o.dst, g, k, xs⟩ else none
  | _, _ => none

structure Ref where
  G : Gh
  σ : Store
  w : World

/-- The state of a frame that is under way. -/
def St (R : Ref) (N : Nat) (f : FE) (σ : Store) (a : Act) (w : World) : Prop :=
  ∃ G, Ext R.G R.σ R.w G σ w ∧ Sim G σ w ∧ a.tmps.size = N ∧ a.defers = [] ∧ ∀ t v, f t = some v → ∃ x, a.tmps[t]? = some x ∧ VRel G w v x

section
variable {P : Program} {R : Ref} {N : Nat} {f : FE} {σ : Store} {a : Act} {w : World}

theorem fev_ok {G : Gh} (h : ∀ t v, f t = some v → ∃ x, a.tmps[t]? = some x ∧ VRel G w v x) : OpdOk G w a.eval (fev f) := by
  intro x y v hc hv
  cases x <;> simp only [compOpd] at hc
  · cases hc
    obtain ⟨x, hx, hr⟩ := h _ _ hv
    simp only [Act.eval]
    rw [Array.getD_eq_getD_getElem?, hx]; exact hr
  · obtain ⟨u, hu, rfl⟩ := Option.map_eq_some_iff.1 hc
    cases hv
    exact ofValue_rel hu
  · cases hc
  · cases hc
    cases hv
    exact .fn (cs := []) rfl (fun k h => absurd h (by simp))

theorem put_get {t d : Nat} {v : Value} (hd : d < a.tmps.size) : (a.put (some d) v).tmps[t]? = if t = d then some v else a.tmps[t]? := by
  simp only [Act.put]
  by_cases h : t = d
  · subst h; simp [hd]
  · rw [Array.getElem?_setIfInBounds_ne (Ne.symm h), if_neg h]

/-- The state behind an operation. -/
theorem St.put {dst : Option Nat} {v : Value} {av : AV} {σ' : Store} {w' : World} {G G' : Gh} (hx : Ext R.G R.σ R.w G σ w) (hs : Sim G σ w) (hN : a.tmps.size = N) (hdf : a.defers = [])
    (h : ∀ t v, f t = some v → ∃ x, a.tmps[t]? = some x ∧ VRel G w v x) (hd : ∀ d, dst = some d → d < N)
    (hx' : Ext G σ w G' σ' w') (hs' : Sim G' σ' w') (hv : VRel G' w' av v ∨ dst = none) : St R N (f.put dst av) σ' (a.put dst v) w' := by
  refine ⟨G', hx.trans hx', hs', ?_, ?_, fun t u ht => ?_⟩
  · cases dst <;> simp [Act.put, hN]
  · cases dst <;> simp [Act.put, hdf]
  · cases dst with
    | none =>
      obtain ⟨x, h1, h2⟩ := h t u ht
      exact ⟨x, h1, hx'.vrel hs h2⟩
    | some d =>
      rw [put_get (by rw [hN]; exact hd d rfl)]
      simp only [FE.put] at ht
      split at ht
      · rename_i he; subst he
        cases ht
        rw [if_pos rfl]
        exact ⟨v, rfl, hv.resolve_right (by simp)⟩
      · rename_i he
        rw [if_neg he]
        obtain ⟨x, h1, h2⟩ := h t u ht
        exact ⟨x, h1, hx'.vrel hs h2⟩

def wantB (tmps : Array Value) : Option (Nat × Bool) → Bool
  | none => true
  | some (t, b) => match tmps[t]? with
    | some (.bool v) => v == b
    | _ => false

theorem wanted_eq {ops : Array Oper} {o : Oper} {g : Option (Nat × Bool)} (hg : guardOf ops o.guard = some g) :
    Region.wanted o (yielded ops a.tmps) = wantB a.tmps g := by
  unfold Region.wanted
  cases hgu : o.guard with
  | none => rw [hgu] at hg; cases hg; rfl
  | some p =>
    obtain ⟨j, b⟩ := p
    rw [hgu] at hg
    obtain ⟨t, ht, rfl⟩ := Option.map_eq_some_iff.1 hg
    simp only [yielded, ht, Option.bind_some, wantB]
    cases hv : a.tmps[t]? with
    | none => rfl
    | some x => cases x <;> first | rfl | (rename_i v; cases v <;> cases b <;> rfl)

/-- What an operation's run gives to those behind it. -/
theorem op_sound {ops : Array Oper} {draw : Bool} {o : Oper} {bo : BOp} {K : AV → Store → Prop} {next : Act → World → Prop} {Q : Exit → Act → World → Prop}
    (hc : compOp P draw N ops o = some bo) (hst : St R N f σ a w) (hrun : (bo.tt f).run P σ K)
    (hn : ∀ av σ' a' w', St R N (f.put o.dst av) σ' a' w' → K av σ' → next a' w') :
    if Region.wanted o (yielded ops a.tmps) then o.wp P a w next Q ∨ (o.asks P a w ∧ LetsOut Q) else next (a.put o.dst undef) w := by
  obtain ⟨G, hx, hs, hN, hdf, hE⟩ := hst
  unfold compOp at hc
  split at hc
  case h_2 => cases hc
  rename_i k xs g hk hg
  split at hc
  · rename_i hd
    simp only [Bool.and_eq_true, Bool.or_eq_true, Bool.not_eq_true', Option.isNone_iff_eq_none] at hd
    obtain ⟨hd, hst⟩ := hd
    cases hc
    have hd' : ∀ d, o.dst = some d → d < N := fun d hd2 => by rw [hd2] at hd; simpa [dstOk] using hd
    rw [wanted_eq (a := a) hg]
    -- skipped
    have hskip : K (.tup []) σ → next (a.put o.dst undef) w := fun hK =>
      hn (.tup []) σ _ _ (St.put hx hs hN hdf hE hd' (Ext.refl _ _ _) hs (.inl (.tup (cs := []) rfl (fun k h => absurd h (by simp))))) hK
    -- carried out
    have hexec : (BOp.exec ⟨o.dst, g, k, xs⟩ f).run P σ K → o.wp P a w next Q := fun hr => by
      have H : OpdOk G w a.eval (fev f) := fev_ok hE
      have hcst : ∀ v, a.eval (.const v) = v := fun _ => rfl
      have hval : ∀ v w' G' σ' av, (execOp a.eval o).run P w = .ok (.value v) w' → Ext G σ w G' σ' w' → Sim G' σ' w' → VRel G' w' av v → K av σ' → o.wp P a w next Q := by
        intro v w' G' σ' av h1 h2 h3 h4 h5
        unfold Oper.wp
        rw [h1, Oper.upon_value]
        exact hn av σ' _ _ (St.put hx hs hN hdf hE hd' h2 h3 (.inl h4)) h5
      have hdoes : ∀ K', Does P o a G σ w K' → (∀ av s, K' av s → K av s) → o.wp P a w next Q := fun K' hd2 hKK =>
        hd2 next Q fun v w' G' σ' av h1 h2 h3 h4 => hn av σ' _ _ (St.put hx hs hN hdf hE hd' h1 h2 h3) (hKK _ _ h4)
      obtain ⟨dst, op, ty, pos, after, guard⟩ := o
      unfold compKind at hk
      split at hk
      · rename_i c x y heq
        simp only at heq; subst heq
        simp only [Option.bind_eq_bind, Option.pure_def] at hk
        obtain ⟨C, hC, hk⟩ := opt_bind hk
        obtain ⟨X, hX, hk⟩ := opt_bind hk
        obtain ⟨Y, hY, hk⟩ := opt_bind hk
        cases hk
        simp only [BOp.exec] at hr
        split at hr
        · rename_i hc'
          have hcv := (H c C _ hC hc').of_bool
          split at hr
          · rename_i u hu
            exact hval (a.eval x) w G σ u (by simp [execOp, hcv, asBool]) (Ext.refl _ _ _) hs (H x X u hX hu) hr
          · exact hr.elim
        · rename_i hc'
          have hcv := (H c C _ hC hc').of_bool
          split at hr
          · rename_i u hu
            exact hval (a.eval y) w G σ u (by simp [execOp, hcv, asBool]) (Ext.refl _ _ _) hs (H y Y u hY hu) hr
          · exact hr.elim
        · exact hr.elim
      · have hloud : ∀ lo ys as, compLoud P op = some (lo, ys) → ys.mapM (fev f) = some as → ∀ K', lwp P lo as σ K' → (∀ av s, K' av s → K av s) → (⟨dst, op, ty, pos, after, guard⟩ : Oper).wp P a w next Q :=
          fun lo ys as hlo has K' hK' hKK => hdoes K' (loud_ok hs H hlo (fun hh => hst.resolve_left (by rcases hh with ⟨t, x, y, he⟩ | ⟨t, x, y, z, he⟩ <;> (simp only at he; rw [he]; simp [isStore]))) has hK') hKK
        split at hk
        · rename_i lo ys hq
          cases hk
          simp only [BOp.exec] at hr
          split at hr
          · rename_i as has
            exact hloud _ _ as (compQ_loud hq) has _ hr (fun _ _ h => h)
          · exact hr.elim
        split at hk
        · rename_i pk ys hpk
          cases hk
          simp only [BOp.exec] at hr
          split at hr
          · rename_i as has
            split at hr
            · rename_i av hp
              obtain ⟨v, h1, h2⟩ := pure_ok (P := P) H hcst hpk has hp
              exact hval v w G σ av (h1 _ _ _ _ _) (Ext.refl _ _ _) hs h2 hr
            · exact hr.elim
          · exact hr.elim
        · split at hk
          · rename_i lk ys hlk
            cases hk
            simp only [BOp.exec] at hr
            split at hr
            · rename_i as has
              obtain ⟨av, hp, hr⟩ := hr
              obtain ⟨v, h1, h2⟩ := load_ok (P := P) hs H hlk has hp
              exact hval v w G σ av (h1 _ _ _ _ _) (Ext.refl _ _ _) hs h2 hr
            · exact hr.elim
          · split at hk
            · rename_i ak ys hak
              cases hk
              simp only [BOp.exec] at hr
              split at hr
              · rename_i as has
                split at hr
                · rename_i ob g2 hp
                  obtain ⟨id, hρ, hσ⟩ := hs.fresh
                  obtain ⟨v, w', G', h1, h2, h3, h4⟩ := alloc_ok (P := P) hs H hak has hp hρ hσ
                  exact hval v w' G' _ _ (h1 _ _ _ _ _) h2 h3 h4 (hr id hσ)
                · exact hr.elim
              · exact hr.elim
            · split at hk
              · rename_i fn ys hlo
                split at hk
                · cases hk
                  simp only [BOp.exec] at hr
                  split at hr
                  · rename_i as has
                    exact hloud _ _ as hlo has _ hr (fun av s h => h.2)
                  · exact hr.elim
                · cases hk
                  simp only [BOp.exec] at hr
                  split at hr
                  · rename_i as has
                    exact hloud _ _ as hlo has _ hr (fun _ _ h => h)
                  · exact hr.elim
              · rename_i lo ys _ hlo
                cases hk
                simp only [BOp.exec] at hr
                split at hr
                · rename_i as has
                  exact hloud _ _ as hlo has _ hr (fun _ _ h => h)
                · exact hr.elim
              · cases hk
                exact hr.elim
    cases g with
    | none =>
      simp only [BOp.tt] at hrun
      simp only [wantB, if_true]
      exact .inl (hexec hrun)
    | some p =>
      obtain ⟨t, b⟩ := p
      simp only [BOp.tt] at hrun
      split at hrun
      · rename_i v hv
        obtain ⟨x, h1, h2⟩ := hE t _ hv
        rw [h2.of_bool] at h1
        simp only [wantB, h1]
        split at hrun
        · rename_i he
          subst he
          simp only [BEq.rfl, if_true]
          exact .inl (hexec hrun)
        · rename_i he
          have : (v == b) = false := by cases v <;> cases b <;> simp_all
          simp only [this, Bool.false_eq_true, if_false]
          exact hskip hrun
      · rename_i hv
        obtain ⟨x, h1, h2⟩ := hE t _ hv
        obtain ⟨cs, rfl, hl, _⟩ := h2.of_tup
        simp only [wantB, h1, Bool.false_eq_true, if_false]
        exact hskip hrun
      · exact hrun.elim
  · cases hc

end
end Go.Am
