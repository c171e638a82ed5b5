/- A part of the proof: a logic for calls over plain values, and a runner that is shown to be right. -/
import Derived.Test.YtmahfnljcfaicaaAm15
namespace Go.Am
set_option linter.unusedVariables false
set_option linter.unusedSimpArgs false

theorem TT.run_mono {P : Program} {t : TT} {σ : Store} {K K' : AV → Store → Prop} (h : ∀ a s, K a s → K' a s) (hr : t.run P σ K) : t.run P σ K' := by
  cases t with
  | bad => exact hr
  | const a => exact h _ _ hr
  | load k as => obtain ⟨a, h1, h2⟩ := hr; exact ⟨a, h1, h _ _ h2⟩
  | alloc o f => exact fun id hid => h _ _ (hr id hid)
  | qcall f as => exact hr.mono fun a s ⟨h1, h2⟩ => ⟨h1, h _ _ h2⟩
  | loud k as =>
    simp only [TT.run] at hr ⊢
    unfold lwp at hr ⊢
    split at hr
    · obtain ⟨h1, h2, h3⟩ := hr
      refine ⟨h1, h2, ?_⟩
      split at h3
      · first | exact h _ _ h3 | (rename_i heq; rw [heq]; exact h _ _ h3)
      · exact h3.elim
    · unfold appwp at hr ⊢
      split at hr
      · obtain ⟨h3, h4⟩ := hr
        refine ⟨h3, ?_⟩
        split at h4
        · exact ⟨fun e => h _ _ (h4.1 e), fun e id hid => h _ _ (h4.2 e id hid)⟩
        · exact fun id hid => h _ _ (h4 id hid)
        · exact h4.elim
      · exact hr.elim
    · unfold appzwp at hr ⊢
      split at hr
      · exact ⟨hr.1, hr.2.1, fun e => h _ _ (hr.2.2.1 e), fun e id hid => h _ _ (hr.2.2.2 e id hid)⟩
      · exact hr.elim
    · exact hr.mono h
    · exact hr.mono h
    · unfold mupdwp at hr ⊢
      refine ⟨hr.1, ?_⟩
      have hr := hr.2
      split at hr
      · split at hr
        · split at hr
          · exact h _ _ hr
          · exact h _ _ hr
          · exact hr.elim
        · exact hr.elim
      · exact hr.elim
    · unfold mdelwp at hr ⊢
      refine ⟨hr.1, ?_⟩
      have hr := hr.2
      split at hr
      · split at hr
        · split at hr
          · exact h _ _ hr
          · exact h _ _ hr
          · exact hr.elim
        · exact hr.elim
      · exact h _ _ hr
      · exact hr.elim
    · unfold nilqwp at hr ⊢
      split at hr
      · exact h _ _ hr
      · exact ⟨h _ _ hr.1, h _ _ hr.2⟩
      · exact h _ _ hr
      · exact h _ _ hr
      · exact hr.elim
    · unfold clrwp at hr ⊢
      split at hr
      · exact h _ _ hr
      · split at hr
        · exact ⟨hr.1, hr.2.1, hr.2.2.1, h _ _ hr.2.2.2⟩
        · exact hr.elim
      · exact hr.elim
    · exact hr.elim

section
variable {P : Program} {R : Ref} {N : Nat} {ops : Array Oper} {Q : Exit → Act → World → Prop}

theorem compOp_dst {draw : Bool} {o : Oper} {bo : BOp} (hc : compOp P draw N ops o = some bo) : bo.dst = o.dst := by
  unfold compOp at hc
  split at hc
  · split at hc
    · cases hc; rfl
    · cases hc
  · cases hc

/-- A region in the order of its text. -/
theorem list_sound {draw : Bool} : ∀ (l : List Oper) (bl : List BOp), l.mapM (compOp P draw N ops) = some bl → ∀ (f : FE) (σ : Store) (a : Act) (w : World) (K : FE → Store → Prop), St R N f σ a w → fops P bl f σ K →
    (∀ f' σ' a' w', St R N f' σ' a' w' → K f' σ' → Q .normal a' w') → wpList P ops Q l a w
  | [], bl, hc, f, σ, a, w, K, hst, hf, hq => by
    simp at hc; subst hc
    exact hq f σ a w hst hf
  | o :: l, bl, hc, f, σ, a, w, K, hst, hf, hq => by
    simp only [List.mapM_cons, Option.bind_eq_bind, Option.pure_def] at hc
    obtain ⟨b, hb, hc⟩ := opt_bind hc
    obtain ⟨bs, hbs, hc⟩ := opt_bind hc
    simp at hc; subst hc
    simp only [fops] at hf
    have := op_sound (next := wpList P ops Q l) (Q := Q) hb hst hf (fun av σ' a' w' h1 h2 => list_sound l bs hbs _ _ a' w' K h1 (by rw [compOp_dst hb] at h2; exact h2) hq)
    unfold wpList
    exact this

/-! ## A region that draws its order -/
def Opd.slot : Opd → List Nat
  | .t n => [n]
  | .c _ => []

def BOp.looks (b : BOp) : List Nat := b.xs.flatMap Opd.slot ++ (match b.guard with | some (g, _) => [g] | none => [])

def apartB (x y : BOp) : Bool :=
  (match x.dst with | some d => !(y.looks).contains d && y.dst != some d | none => true) &&
  (match y.dst with | some d => !(x.looks).contains d | none => true)

def plainAlloc (b : BOp) : Bool :=
  match b.kind, b.xs, b.guard with
  | .alloc (.alloc _), [], none => true
  | _, _, _ => false

/-- May the first be taken ahead of the second, that does not wait for it? -/
def mayFirst (x y : BOp) : Bool :=
  match x.kind with
  | .pure _ | .pick => true
  | .load _ => match y.kind with
    | .loud (.nilq _) => true
    | .loud _ => false
    | _ => true
  | .qcall _ | .alloc _ => plainAlloc y
  | .loud _ | .bad => false

theorem fev_put {f : FE} {d : Option Nat} {a : AV} {x : Opd} (h : ∀ t, d = some t → t ∉ x.slot) : fev (f.put d a) x = fev f x := by
  cases x with
  | c => rfl
  | t n =>
    cases d with
    | none => rfl
    | some t =>
      have : n ≠ t := fun e => h t rfl (by simp [Opd.slot, e])
      simp [fev, FE.put, this]

theorem mapM_fev_put {f : FE} {d : Option Nat} {a : AV} : ∀ {xs : List Opd}, (∀ t, d = some t → t ∉ xs.flatMap Opd.slot) → xs.mapM (fev (f.put d a)) = xs.mapM (fev f)
  | [], _ => rfl
  | x :: xs, h => by
    simp only [List.mapM_cons]
    rw [fev_put (fun t ht hm => h t ht (by simp [hm])), mapM_fev_put (xs := xs) (fun t ht hm => h t ht (by simp only [List.flatMap_cons, List.mem_append]; exact .inr hm))]

theorem tt_put {f : FE} {d : Option Nat} {a : AV} {b : BOp} (h : ∀ t, d = some t → t ∉ b.looks) : b.tt (f.put d a) = b.tt f := by
  have h1 : ∀ t, d = some t → t ∉ b.xs.flatMap Opd.slot := fun t ht hm => h t ht (by unfold BOp.looks; exact List.mem_append_left _ hm)
  have hx : b.xs.mapM (fev (f.put d a)) = b.xs.mapM (fev f) := mapM_fev_put h1
  have he : b.exec (f.put d a) = b.exec f := by
    unfold BOp.exec
    split
    · rw [hx]
    · split
      · rename_i c x y hxs
        rw [hxs] at h1
        have g : ∀ z ∈ [c, x, y], fev (f.put d a) z = fev f z := fun z hz => fev_put fun t ht hm => h1 t ht (List.mem_flatMap.2 ⟨z, hz, hm⟩)
        rw [g c (by simp), g x (by simp), g y (by simp)]
      · rfl
    · rw [hx]
    · rw [hx]
    · rw [hx]
    · rw [hx]
    · rfl
  unfold BOp.tt
  cases hg : b.guard with
  | none => exact he
  | some p =>
    obtain ⟨g, v⟩ := p
    have : (f.put d a) g = f g := by
      cases d with
      | none => rfl
      | some t =>
        have : g ≠ t := fun e => h t rfl (by unfold BOp.looks; rw [hg]; simp [e])
        simp [FE.put, this]
    simp only [this, he]

theorem put_comm {f : FE} {d e : Option Nat} {a b : AV} (h : ∀ t, d = some t → e ≠ some t) : (f.put d a).put e b = (f.put e b).put d a := by
  cases d with
  | none => rfl
  | some t =>
    cases e with
    | none => rfl
    | some u =>
      have : t ≠ u := fun e => h t rfl (by rw [e])
      funext n
      simp only [FE.put]
      (repeat' split) <;> first | rfl | omega

def kindOk (b : BK) : TT → Prop
  | .load _ _ => ∃ k, b = .load k
  | .alloc _ _ => ∃ k, b = .alloc k
  | .loud k _ => b = .loud k
  | .qcall _ _ => ∃ k, b = .qcall k
  | _ => True

theorem exec_kind (b : BOp) (f : FE) : kindOk b.kind (b.exec f) := by
  unfold BOp.exec
  split <;> rename_i hk
  · split
    · split <;> trivial
    · trivial
  · split
    · split
      · split <;> trivial
      · split <;> trivial
      · trivial
    · trivial
  · split
    · exact ⟨_, hk⟩
    · trivial
  · split
    · split
      · exact ⟨_, hk⟩
      · trivial
    · trivial
  · split
    · exact hk
    · trivial
  · split
    · exact ⟨_, hk⟩
    · trivial
  · trivial

theorem tt_kind (b : BOp) (f : FE) : kindOk b.kind (b.tt f) := by
  unfold BOp.tt
  split
  · exact exec_kind b f
  · split
    · split
      · exact exec_kind b f
      · trivial
    · trivial
    · trivial

theorem plain_tt {b : BOp} (h : plainAlloc b = true) (f : FE) : ∃ z, b.tt f = .alloc (.box z) (fun id => .ptr id 0) := by
  unfold plainAlloc at h
  split at h
  · rename_i z h1 h2 h3
    exact ⟨z, by simp [BOp.tt, h3, BOp.exec, h1, h2, alv]⟩
  · cases h

theorem rd_sub {σ σ' : Store} {n : Nat} {p : AV} {cs : List AV} (h : rd σ n p = some cs) (hs : σ.sub σ') : rd σ' n p = some cs := by
  unfold rd at h ⊢
  split at h
  · split at h
    · rename_i ho; rw [hs _ _ ho]; exact h
    · cases h
  · split at h
    · rename_i ho; rw [hs _ _ ho]; exact h
    · cases h
  · exact h
  · cases h

theorem mpOf_sub {σ σ' : Store} {m : AV} {es : List (AV × AV)} (h : mpOf σ m = some es) (hs : σ.sub σ') : mpOf σ' m = some es := by
  unfold mpOf at h ⊢
  split at h
  · exact h
  · split at h
    · rename_i e; rw [hs _ _ e]; exact h
    · cases h
  · cases h

theorem ldv_sub {σ σ' : Store} {k : LK} {as : List AV} {a : AV} (h : ldv k as σ = some a) (hs : σ.sub σ') : ldv k as σ' = some a := by
  unfold ldv at h ⊢
  split at h
  · obtain ⟨cs, h1, rfl⟩ := Option.map_eq_some_iff.1 h
    simp [rd_sub h1 hs]
  · obtain ⟨cs, h1, h2⟩ := opt_bind h
    rw [rd_sub h1 hs]; exact h2
  · split at h
    · rename_i hk
      obtain ⟨es, h1, h2⟩ := opt_bind h
      simp only [hk, if_true, mpOf_sub h1 hs, Option.bind_some]; exact h2
    · cases h
  · obtain ⟨es, h1, rfl⟩ := Option.map_eq_some_iff.1 h
    simp [mpOf_sub h1 hs]
  · cases h

def Store.one (id : Nat) (o : Obj) : Store := fun i => if i = id then some o else none

theorem Store.union_one {σ : Store} {id : Nat} {o : Obj} (h : σ id = none) : σ.union (Store.one id o) = σ.set id o := by
  funext i
  simp only [Store.union, Store.one, Store.set]
  by_cases hi : i = id
  · subst hi; rw [h]
  · simp only [hi, if_false]; cases σ i <;> rfl

/-- Two operations, in either order. -/
theorem tt_comm {x y : BOp} {f : FE} {σ : Store} {K : AV → AV → Store → Prop} (hm : mayFirst x y = true)
    (h : (x.tt f).run P σ fun a s => (y.tt f).run P s fun b s' => K a b s') :
    (y.tt f).run P σ fun b s => (x.tt f).run P s fun a s' => K a b s' := by
  have hk := tt_kind x f
  have hky := tt_kind y f
  cases hx : x.tt f with
  | bad => rw [hx] at h; exact h.elim
  | const a => rw [hx] at h; exact h
  | load k as =>
    rw [hx] at h hk
    obtain ⟨k', hk'⟩ := hk
    obtain ⟨a, ha, h⟩ := h
    cases hy : y.tt f with
    | bad => rw [hy] at h; exact h
    | const b => rw [hy] at h; exact ⟨a, ha, h⟩
    | load k2 as2 => rw [hy] at h; obtain ⟨b, hb, h⟩ := h; exact ⟨b, hb, a, ha, h⟩
    | alloc o g => rw [hy] at h; exact fun id hid => ⟨a, ldv_sub ha (Store.sub_set σ id o hid), h id hid⟩
    | qcall g as2 => rw [hy] at h; exact ACalls.mono h fun b s ⟨hs, hK⟩ => ⟨hs, a, ldv_sub ha hs, hK⟩
    | loud k2 as2 =>
      rw [hy] at hky h
      cases k2 with
      | nilq neg =>
        simp only [TT.run] at h ⊢
        unfold lwp at h ⊢
        split at h <;> simp only [reduceCtorEq, LO.nilq.injEq] at *
        · rename_i he; subst he
          unfold nilqwp at h ⊢
          split at h
          · exact ⟨a, ha, h⟩
          · exact ⟨⟨a, ha, h.1⟩, ⟨a, ha, h.2⟩⟩
          · exact ⟨a, ha, h⟩
          · exact ⟨a, ha, h⟩
          · exact h.elim
      | _ => simp only [kindOk] at hky; simp [mayFirst, hk', hky] at hm
  | alloc o g =>
    rw [hx] at h hk
    obtain ⟨k', hk'⟩ := hk
    have hp : plainAlloc y = true := by simpa [mayFirst, hk'] using hm
    obtain ⟨z, hz⟩ := plain_tt hp f
    rw [hz] at h ⊢
    intro id hid id' hid'
    have hne : id' ≠ id := fun e => by subst e; simp at hid'
    rw [Store.set_ne _ _ hne] at hid'
    have := h id' hid' id (by rw [Store.set_ne _ _ (Ne.symm hne)]; exact hid)
    rw [Store.set_comm _ _ _ hne] at this
    exact this
  | qcall g as =>
    rw [hx] at h hk
    obtain ⟨k', hk'⟩ := hk
    have hp : plainAlloc y = true := by simpa [mayFirst, hk'] using hm
    obtain ⟨z, hz⟩ := plain_tt hp f
    rw [hz] at h ⊢
    intro id hid
    have hφ : σ.disj (Store.one id (.box z)) := fun i o hi => by
      simp only [Store.one]; split
      · rename_i e; subst e; rw [hid] at hi; cases hi
      · rfl
    have hu := ACalls.frame h hφ
    rw [Store.union_one hid] at hu
    refine hu.mono ?_
    rintro a s ⟨σ', rfl, hd, hsub, hK⟩
    have hid' : σ' id = none := by
      cases hc : σ' id with
      | none => rfl
      | some o' => have := hd id o' hc; simp [Store.one] at this
    rw [Store.union_one hid']
    refine ⟨fun j o hj => ?_, hK id hid'⟩
    by_cases he : j = id
    · subst he; simpa [Store.set] using hj
    · rw [Store.set_ne _ _ he] at hj ⊢; exact hsub j o hj
  | loud k as =>
    rw [hx] at hk
    simp only [kindOk] at hk
    simp [mayFirst, hk] at hm

end
end Go.Am
