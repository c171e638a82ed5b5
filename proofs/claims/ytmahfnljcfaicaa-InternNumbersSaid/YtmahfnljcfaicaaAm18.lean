/- A part of the proof: a logic for calls over plain values, and a runner that is shown to be right. -/
import Derived.Test.YtmahfnljcfaicaaAm17
import Derived.Scope
namespace Go.Am
set_option linter.unusedVariables false
set_option linter.unusedSimpArgs false

/-! ## Code -/
inductive BC where
  | skip
  | ret
  | exit (id : Nat)
  | seq (a b : BC)
  | cond (c : Opd) (a b : BC)
  | block (id : Nat) (b : BC)
  | ops (l : List BOp) (live : List Nat)
  | loop (live : List Nat) (b : BC)
  | both (a b : BC)
  | top

/-- A tree's form as code. -/
inductive DS (B : List BOp) : IT → BC → Prop
  | leaf {live} : DS B .leaf (.ops [] live)
  | op {i t b c live} : B[i]? = some b → DS B t c → DS B (.op i t) (.seq (.ops [b] live) c)
  | alt {i t r b c d live} : B[i]? = some b → DS B t c → DS B r d → DS B (.alt i t r) (.both (.seq (.ops [b] live) c) d)
  | stop : DS B .stop .top

/-- A piece of code and its compiled form. -/
inductive CC (P : Program) (N : Nat) : Code → BC → Prop
  | skip : CC P N .skip .skip
  | label {l} : CC P N (.label l) .skip
  | ret : CC P N .ret .ret
  | exit {id} : CC P N (.exit id) (.exit id)
  | seq {a b a' b'} : CC P N a a' → CC P N b b' → CC P N (.seq a b) (.seq a' b')
  | cond {c a b c' a' b'} : compOpd c = some c' → CC P N a a' → CC P N b b' → CC P N (.cond c a b) (.cond c' a' b')
  | block {id b b'} : CC P N b b' → CC P N (.block id b) (.block id b')
  | ops {id ops l live} : ops.toList.mapM (compOp P false N ops) = some l → CC P N (.region id ops false) (.ops l live)
  | draw {id ops dr D B ord live} : P.follows .mixedOrders = true → ops.toList.mapM (compOp P dr N ops) = some B → okDep ops D = true → okOrd ops D B ord [] = true → ord.length = ops.size →
      CC P N (.region id ops true) (.ops (ord.filterMap fun i => B[i]?) live)
  | tree {id ops dr D B t c} : P.follows .mixedOrders = true → ops.toList.mapM (compOp P dr N ops) = some B → okDep ops D = true → okT ops D B true t [] = true → DS B t c → CC P N (.region id ops true) c
  | scope {b b'} : CC P N b b' → CC P N (.scope b) b'
  | loop {b b' live} : CC P N b b' → CC P N (.loop b) (.loop live b')

def subF (f f' : FE) : Prop := ∀ t a, f t = some a → f' t = some a

def fwp (P : Program) : BC → FE → Store → (FE → Store → Prop) → (FE → Store → Prop) → (Nat → FE → Store → Prop) → Prop
  | .skip, f, σ, n, _, _ => n f σ
  | .ret, f, σ, _, r, _ => r f σ
  | .exit i, f, σ, _, _, x => x i f σ
  | .seq a b, f, σ, n, r, x => fwp P a f σ (fun f σ => fwp P b f σ n r x) r x
  | .cond c a b, f, σ, n, r, x => ∃ v, fev f c = some (.bool v) ∧ (v = true → fwp P a f σ n r x) ∧ (v = false → fwp P b f σ n r x)
  | .block id b, f, σ, n, r, x => fwp P b f σ n r (fun i f σ => if i = id then n f σ else x i f σ)
  | .ops l _, f, σ, n, _, _ => fops P l f σ n
  | .loop _ b, f, σ, _, r, x => ∃ I : Nat → FE → Store → Prop, (∃ k f' σ', subF f' f ∧ Store.sub σ' σ ∧ I k f' σ') ∧ ∀ k f σ, I k f σ →
      fwp P b f σ (fun f' σ' => ∃ j f'' σ'', j < k ∧ subF f'' f' ∧ Store.sub σ'' σ' ∧ I j f'' σ'') r x
  | .both a b, f, σ, n, r, x => fwp P a f σ n r x ∧ fwp P b f σ n r x
  | .top, _, _, _, _, _ => True

theorem DS.tree {P : Program} {B : List BOp} {t : IT} {c : BC} (h : DS B t c) : ∀ (f : FE) (σ : Store) (n r : FE → Store → Prop) (x : Nat → FE → Store → Prop), fwp P c f σ n r x → ttree P B n t f σ := by
  induction h with
  | leaf => exact fun f σ n r x h => h
  | op hb _ ih => exact fun f σ n r x h => ⟨_, hb, TT.run_mono (fun a s h' => ih _ s n r x h') h⟩
  | alt hb _ _ ih1 ih2 => exact fun f σ n r x h => ⟨⟨_, hb, TT.run_mono (fun a s h' => ih1 _ s n r x h') h.1⟩, ih2 f σ n r x h.2⟩
  | stop => exact fun _ _ _ _ _ _ => trivial

section
variable {P : Program} {R : Ref} {N : Nat}

theorem St.sub {f f' : FE} {σ σ' : Store} {a : Act} {w : World} (h : St R N f σ a w) (hf : subF f' f) (hs : Store.sub σ' σ) : St R N f' σ' a w := by
  obtain ⟨G, h1, h2, h3, h4, h5⟩ := h
  exact ⟨G, h1.sub hs, h2.sub hs, h3, h4, fun t v ht => h5 t v (hf t v ht)⟩

/-- What is owed of the code's ways on. -/
def QOf (R : Ref) (N : Nat) (n r : FE → Store → Prop) (x : Nat → FE → Store → Prop) : Exit → Act → World → Prop
  | .normal, a, w => ∃ f σ, St R N f σ a w ∧ n f σ
  | .ret, a, w => ∃ f σ, St R N f σ a w ∧ r f σ
  | .exit i, a, w => ∃ f σ, St R N f σ a w ∧ x i f σ
  | _, _, _ => False

theorem wp_loop_n {Q : Exit → Act → World → Prop} {c : Code} (J : Nat → Act → World → Prop) {k : Nat} {a : Act} {w : World} (h0 : J k a w)
    (round : ∀ k a w, J k a w → c.wp P (Exit.then (fun a' w' => ∃ j, j < k ∧ J j a' w') Q) a w) : (Code.loop c).wp P Q a w := by
  intro b kk cs
  have key : ∀ k a w, J k a w → ∃ e a' w', Q e a' w' ∧ Arrives P (lone (b.at a (.code c :: .inLoop c :: kk)) cs w) b kk cs e a' w' := by
    intro k
    induction k using Nat.strongRecOn with
    | _ k ih =>
      intro a w hJ
      obtain ⟨e, a₁, w₁, hq, harr⟩ := round k a w hJ b (.inLoop c :: kk) cs
      cases e with
      | normal =>
        obtain ⟨j, hlt, hJ₁⟩ := hq
        obtain ⟨e₂, a₂, w₂, hq₂, harr₂⟩ := ih j hlt a₁ w₁ hJ₁
        exact ⟨e₂, a₂, w₂, hq₂, .of_steps (Steps.trans harr (.one step_inLoop)) harr₂⟩
      | exit id => exact ⟨_, a₁, w₁, hq, .pass (x := .inLoop c) rfl (fun _ _ => .inl (by simp)) harr⟩
      | goto l => exact ⟨_, a₁, w₁, hq, .pass (x := .inLoop c) rfl (fun _ _ => .inl (by simp)) harr⟩
      | ret => exact ⟨_, a₁, w₁, hq, .pass (x := .inLoop c) rfl (fun _ _ => .inl (by simp)) harr⟩
      | panic ch => exact ⟨_, a₁, w₁, hq, .pass (x := .inLoop c) rfl (fun _ _ => .inl (by simp)) harr⟩
      | outgrown => exact ⟨_, a₁, w₁, hq, .pass (x := .inLoop c) rfl (fun _ _ => .inl (by simp)) harr⟩
  obtain ⟨e, a', w', hq, harr⟩ := key k a w h0
  exact ⟨e, a', w', hq, .of_steps (.one step_loop) harr⟩

theorem code_sound {c : Code} {b : BC} (hc : CC P N c b) : ∀ (f : FE) (σ : Store) (a : Act) (w : World) (n r : FE → Store → Prop) (x : Nat → FE → Store → Prop),
    St R N f σ a w → fwp P b f σ n r x → c.wp P (QOf R N n r x) a w := by
  induction hc with
  | skip => exact fun f σ a w n r x hst h => wp_skip ⟨f, σ, hst, h⟩
  | label => exact fun f σ a w n r x hst h => wp_label ⟨f, σ, hst, h⟩
  | ret => exact fun f σ a w n r x hst h => wp_ret ⟨f, σ, hst, h⟩
  | exit => exact fun f σ a w n r x hst h => wp_exit ⟨f, σ, hst, h⟩
  | seq _ _ ih1 ih2 =>
    intro f σ a w n r x hst h
    refine wp_seq (wp_mono (ih1 f σ a w _ r x hst h) ?_)
    intro e a' w' hq
    cases e with
    | normal => obtain ⟨f', σ', h1, h2⟩ := hq; exact ih2 f' σ' a' w' n r x h1 h2
    | _ => exact hq
  | cond hc _ _ ih1 ih2 =>
    intro f σ a w n r x hst h
    obtain ⟨v, h1, h2, h3⟩ := h
    have hst' := hst
    obtain ⟨G, _, hs, _, _, hE⟩ := hst'
    have hv := (fev_ok (a := a) hE _ _ _ hc h1).of_bool
    refine wp_cond_split hv (fun ht => ih1 f σ a w n r x hst (h2 ht)) (fun ht => ih2 f σ a w n r x hst (h3 ht))
  | block _ ih =>
    intro f σ a w n r x hst h
    refine wp_block (wp_mono (ih f σ a w n r _ hst h) ?_)
    intro e a' w' hq
    cases e with
    | exit i =>
      obtain ⟨f', σ', h1, h2⟩ := hq
      simp only [Exit.inBlock]
      split
      · rename_i he; rw [if_pos he] at h2; exact ⟨f', σ', h1, h2⟩
      · rename_i he; rw [if_neg he] at h2; exact ⟨f', σ', h1, h2⟩
    | normal => exact hq
    | ret => exact hq
    | goto => exact hq.elim
    | panic => exact hq.elim
    | outgrown => exact hq.elim
  | ops hl =>
    intro f σ a w n r x hst h
    exact wp_region_list (list_sound _ _ hl f σ a w n hst h fun f' σ' a' w' h1 h2 => ⟨f', σ', h1, h2⟩)
  | draw hm hB hD ho hlen =>
    intro f σ a w n r x hst h
    exact draw_sound hm hB hD ho hlen hst h fun f' σ' a' w' h1 h2 => ⟨f', σ', h1, h2⟩
  | tree hm hB hD ho hds =>
    intro f σ a w n r x hst h
    exact tree_sound hm hB hD ho hst (hds.tree f σ n r x h) fun f' σ' a' w' h1 h2 => ⟨f', σ', h1, h2⟩
  | scope _ ih =>
    intro f σ a w n r x hst h
    refine wp_scope_straight (wp_mono (ih f σ a w n r x hst h) ?_)
    intro e a' w' hq
    cases e with
    | goto => exact hq.elim
    | _ => exact hq
  | loop _ ih =>
    intro f σ a w n r x hst h
    obtain ⟨I, ⟨k, f0, σ0, hf0, hσ0, h0⟩, hround⟩ := h
    refine wp_loop_n (fun k a w => ∃ f σ, St R N f σ a w ∧ I k f σ) (k := k) ⟨f0, σ0, hst.sub hf0 hσ0, h0⟩ ?_
    rintro k a w ⟨f, σ, hst, hI⟩
    refine wp_mono (ih f σ a w _ r x hst (hround k f σ hI)) ?_
    intro e a' w' hq
    cases e with
    | normal =>
      obtain ⟨f', σ', h1, j, f'', σ'', h2, h3, h4, h5⟩ := hq
      exact ⟨j, h2, f'', σ'', h1.sub h3 h4, h5⟩
    | _ => exact hq

/-! ## Values and stores may be read otherwise -/
def WeakL (as : List AV) (σ : Store) (Q : List AV → Store → Prop) : Prop :=
  ∀ G w vs, Sim G σ w → Rels (VRel G w) as vs → ∃ G' as' σ', Ext G σ w G' σ' w ∧ Sim G' σ' w ∧ Rels (VRel G' w) as' vs ∧ Q as' σ'

def Weak (a : AV) (σ : Store) (Q : AV → Store → Prop) : Prop :=
  ∀ G w v, Sim G σ w → VRel G w a v → ∃ G' a' σ', Ext G σ w G' σ' w ∧ Sim G' σ' w ∧ VRel G' w a' v ∧ Q a' σ'

theorem WeakL.pure {as : List AV} {σ : Store} {Q : List AV → Store → Prop} (h : Q as σ) : WeakL as σ Q :=
  fun G w vs hs hr => ⟨G, as, σ, Ext.refl _ _ _, hs, hr, h⟩
theorem Weak.pure {a : AV} {σ : Store} {Q : AV → Store → Prop} (h : Q a σ) : Weak a σ Q :=
  fun G w v hs hr => ⟨G, a, σ, Ext.refl _ _ _, hs, hr, h⟩
theorem Weak.forget {a : AV} {σ σ' : Store} {Q : AV → Store → Prop} (hsub : Store.sub σ' σ) (h : Weak a σ' Q) : Weak a σ Q := fun G w v hs hr => by
  obtain ⟨G', a', σ'', h1, h2, h3, h4⟩ := h G w v (hs.sub hsub) hr
  exact ⟨G', a', σ'', ((Ext.refl G σ w).sub hsub).trans h1, h2, h3, h4⟩
theorem WeakL.forget {as : List AV} {σ σ' : Store} {Q : List AV → Store → Prop} (hsub : Store.sub σ' σ) (h : WeakL as σ' Q) : WeakL as σ Q := fun G w v hs hr => by
  obtain ⟨G', a', σ'', h1, h2, h3, h4⟩ := h G w v (hs.sub hsub) hr
  exact ⟨G', a', σ'', ((Ext.refl G σ w).sub hsub).trans h1, h2, h3, h4⟩
theorem Weak.of_one {a : AV} {σ : Store} {Q : AV → Store → Prop} (h : WeakL [a] σ (fun as s => ∃ a, as = [a] ∧ Q a s)) : Weak a σ Q := fun G w v hs hr => by
  obtain ⟨G', as', σ', h1, h2, h3, a', rfl, h4⟩ := h G w [v] hs (.cons hr .nil)
  cases h3 with | cons h3 _ => exact ⟨G', a', σ', h1, h2, h3, h4⟩
theorem Weak.tup {as : List AV} {σ : Store} {Q : AV → Store → Prop} (h : WeakL as σ (fun as s => Q (.tup as) s)) : Weak (.tup as) σ Q := fun G w v hs hr => by
  obtain ⟨cs, rfl, hl, hv⟩ := hr.of_tup
  obtain ⟨G', as', σ', h1, h2, h3, h4⟩ := h G w cs hs (Rels.of_get hl hv)
  exact ⟨G', _, σ', h1, h2, .tup h3.length (fun k hk hk' => by
    obtain ⟨b, hb, hbr⟩ := h3.get k _ (List.getElem?_eq_getElem hk)
    rw [List.getElem?_eq_getElem hk'] at hb; cases hb; exact hbr), h4⟩
theorem Weak.agg {as : List AV} {σ : Store} {Q : AV → Store → Prop} (h : WeakL as σ (fun as s => (∀ c ∈ as, c.flat = true) ∧ Q (.agg as) s)) : Weak (.agg as) σ Q := fun G w v hs hr => by
  obtain ⟨cs, rfl, hl, hf, hv⟩ := hr.of_agg
  obtain ⟨G', as', σ', h1, h2, h3, hf', h4⟩ := h G w cs hs (Rels.of_get hl hv)
  exact ⟨G', _, σ', h1, h2, .agg h3.length hf' (fun k hk hk' => by
    obtain ⟨b, hb, hbr⟩ := h3.get k _ (List.getElem?_eq_getElem hk)
    rw [List.getElem?_eq_getElem hk'] at hb; cases hb; exact hbr), h4⟩

/-- What is owned becomes what never changes. -/
theorem Sim.freeze {G : Gh} {σ : Store} {w : World} (hs : Sim G σ w) {id : Nat} {o : Obj} {b base : Nat} (hσ : σ id = some o) (hρ : G.ρ id = some (b, base)) :
    ∃ G', Ext G σ w G' (σ.del id) w ∧ Sim G' (σ.del id) w ∧ G'.I b ∧ G'.ρ = G.ρ := by
  let G' : Gh := ⟨G.ρ, fun c => G.I c ∨ c = b⟩
  have hdel : ∀ i oi, (σ.del id) i = some oi → σ i = some oi ∧ i ≠ id := fun i oi h => by
    by_cases hi : i = id
    · subst hi; simp at h
    · rw [Store.del_ne _ hi] at h; exact ⟨h, hi⟩
  have hext : Ext G σ w G' (σ.del id) w :=
    { Ext.refl G σ w with
      I := fun _ h => .inl h
      newI := fun c h => h.elim .inl (fun e => .inr (.inl (e ▸ ⟨id, o, base, hσ, hρ⟩)))
      newOwn := fun c ⟨i, oi, bi, h1, h2⟩ => .inl ⟨i, oi, bi, (hdel i oi h1).1, h2⟩
      newId := fun i oi h1 => .inl ⟨oi, (hdel i oi h1).1⟩ }
  refine ⟨G', hext, ?_, .inr rfl, rfl⟩
  exact
    { lt := fun c hc => hc.elim (hs.lt c) (fun e => e ▸ hs.blk id b base hρ)
      fin := hs.fin, blk := hs.blk
      used := fun i oi h1 => by
        obtain ⟨c, bi, h2, h3⟩ := hs.used i oi (hdel i oi h1).1
        exact ⟨c, bi, h2, h3.grow rfl fun a v hv => hext.vrel hs hv⟩
      inj := fun i j oi oj c bi bj h1 h2 => hs.inj i j oi oj c bi bj (hdel i oi h1).1 (hdel j oj h2).1
      apart := fun i oi c bi h1 h2 hc => by
        obtain ⟨h3, h4⟩ := hdel i oi h1
        rcases hc with hc | rfl
        · exact hs.apart i oi c bi h3 h2 hc
        · exact h4 (hs.inj i id oi o _ _ _ h3 hσ h2 hρ) }

theorem freeze_rel {G : Gh} {σ : Store} {w : World} (hs : Sim G σ w) {id esz off len : Nat} {es : List (List AV)} {v : Value} (hσ : σ id = some (.arr esz es)) (hle : off + len ≤ es.length)
    (hv : VRel G w (.os id esz off len) v) : ∃ G', Ext G σ w G' (σ.del id) w ∧ Sim G' (σ.del id) w ∧ VRel G' w (.sl esz ((es.drop off).take len)) v := by
  obtain ⟨b, base, hb, hcase⟩ := hv.of_os
  obtain ⟨G', h1, h2, h3, h4⟩ := hs.freeze hσ hb
  refine ⟨G', h1, h2, ?_⟩
  have hlen : ((es.drop off).take len).length = len := by simp; omega
  by_cases h0 : len = 0
  · subst h0
    have : (es.drop off).take 0 = [] := by simp
    rw [this]
    rcases hcase with ⟨c, rfl, _, _⟩ | ⟨_, x, rfl⟩ <;> exact .sl0
  · rcases hcase with ⟨c, rfl, hlc, _⟩ | ⟨h, _⟩
    · obtain ⟨b', base', hb', ho⟩ := hs.used id _ hσ
      rw [hb] at hb'; cases hb'
      cases ho with
      | arr hh hsz hl hf hr =>
        rename_i cur ty
        have hne : (es.drop off).take len ≠ [] := by intro e; rw [e] at hlen; simp at hlen; omega
        have := VRel.sl (G := G') (w := w) (esz := esz) (es := (es.drop off).take len) (b := b) (off := base + off * esz) (c := c) (fun i j => cur.getD (base + ((off + i) * esz + j)) undef) h3 hne (by rw [hlen]; exact hlc)
          (fun cs hcs => hl cs (List.mem_of_mem_drop (List.mem_of_mem_take hcs))) (fun cs hcs => hf cs (List.mem_of_mem_drop (List.mem_of_mem_take hcs)))
          (fun i j hi hj => by
            rw [hlen] at hi
            rw [cell?_heap hh]
            have h5 := mul_lt (show off + i < es.length by omega) hj
            have h6 : base + off * esz + (i * esz + j) = base + ((off + i) * esz + j) := by rw [Nat.add_mul]; omega
            rw [h6, Array.getD_eq_getD_getElem?, Array.getElem?_eq_getElem (by omega)]; rfl)
          (fun i j hi hj => by
            have hi' := hi
            rw [hlen] at hi'
            have e : ((es.drop off).take len)[i]'hi = es[off + i]'(by omega) := by simp
            have h5 := hr (off + i) j (by omega) (by rw [← e]; exact hj)
            simp only [e]
            exact h1.vrel hs h5)
        rw [hlen] at this
        exact this
    · exact absurd h h0

theorem WeakL.freeze {as : List AV} {σ : Store} {Q : List AV → Store → Prop} (k : Nat) {id esz off len : Nat} {es : List (List AV)} (ha : as[k]? = some (.os id esz off len)) (hσ : σ id = some (.arr esz es)) (hle : off + len ≤ es.length)
    (h : WeakL (as.set k (.sl esz ((es.drop off).take len))) (σ.del id) Q) : WeakL as σ Q := fun G w vs hs hr => by
  obtain ⟨v, hv, hvr⟩ := hr.get k _ ha
  obtain ⟨G', h1, h2, h3⟩ := freeze_rel hs hσ hle hvr
  obtain ⟨G'', as', σ', g1, g2, g3, g4⟩ := h G' w vs h2 (Rels.of_get (by simpa using hr.length) fun i hi hi' => by
    by_cases hik : i = k
    · subst hik
      rw [List.getElem?_eq_getElem hi'] at hv; cases hv
      simp; exact h3
    · rw [List.getElem_set_ne (Ne.symm hik)]
      have hi2 : i < as.length := by simpa using hi
      obtain ⟨u, hu, hur⟩ := hr.get i _ (List.getElem?_eq_getElem hi2)
      rw [List.getElem?_eq_getElem hi'] at hu; cases hu
      exact h1.vrel hs hur)
  exact ⟨G'', as', σ', h1.trans g1, g2, g3, g4⟩

theorem WeakL.nil {as : List AV} {σ : Store} {Q : List AV → Store → Prop} (k : Nat) (esz : Nat) (ha : as[k]? = some .nils) (h : WeakL (as.set k (.sl esz [])) σ Q) : WeakL as σ Q := fun G w vs hs hr => by
  obtain ⟨v, hv, hvr⟩ := hr.get k _ ha
  have e := hvr.of_nils
  subst e
  exact h G w vs hs (Rels.of_get (by simpa using hr.length) fun i hi hi' => by
    by_cases hik : i = k
    · subst hik
      rw [List.getElem?_eq_getElem hi'] at hv
      rw [Option.some.inj hv]
      simp; exact .sl0
    · rw [List.getElem_set_ne (Ne.symm hik)]
      have hi2 : i < as.length := by simpa using hi
      obtain ⟨u, hu, hur⟩ := hr.get i _ (List.getElem?_eq_getElem hi2)
      rw [List.getElem?_eq_getElem hi'] at hu; cases hu
      exact hur)

/-- Arguments may be read otherwise. -/
theorem ACalls.weakArgs {f : Nat} {args : List AV} {σ : Store} {Q : AV → Store → Prop} (he : Ent P f) (h : WeakL args σ (fun args' σ' => ACalls P f args' σ' Q)) : ACalls P f args σ Q :=
  ⟨he, fun G w vs hs hv => by
    obtain ⟨G', args', σ', h1, h2, h3, h4⟩ := h G w vs hs hv
    exact (h4.2 G' w vs h2 h3).mono fun e w' ⟨v, a, G2, σ2, g1, g2, g3, g4, g5⟩ => ⟨v, a, G2, σ2, g1, h1.trans g2, g3, g4, g5⟩⟩

/-- A result may be read otherwise. -/
theorem ACalls.weakRes {f : Nat} {args : List AV} {σ : Store} {Q Q' : AV → Store → Prop} (h : ACalls P f args σ Q) (hw : ∀ a s, Q a s → Weak a s Q') : ACalls P f args σ Q' :=
  ⟨h.1, fun G w vs hs hv => (h.2 G w vs hs hv).mono fun e w' ⟨v, a, G', σ', h1, h2, h3, h4, h5⟩ => by
    obtain ⟨G2, a2, σ2, g1, g2, g3, g4⟩ := hw a σ' h5 G' w' v h3 h4
    exact ⟨v, a2, G2, σ2, h1, h2.trans g1, g2, g3, g4⟩⟩

/-! ## A function -/
inductive RS where
  | t (n : Nat)
  | c (n sz : Nat) (agg : Bool)

def RS.slot : RS → Nat
  | .t n | .c n _ _ => n

def compRS (P : Program) : ResultVar → Option RS
  | .tmp t => some (.t t)
  | .cell a t => match tsz P t, tagg P t with
    | some n, some ag => some (.c a n ag)
    | _, _ => none

def one : Option (List AV) → Option AV
  | some [c] => some c
  | _ => none

def rsF (f : FE) (σ : Store) : RS → Option AV
  | .t n => f n
  | .c n sz true => (f n).bind fun p => (rd σ sz p).map .agg
  | .c n _ false => (f n).bind fun p => one (rd σ 1 p)

def resF (f : FE) (σ : Store) : List RS → Option AV
  | [t] => rsF f σ t
  | ts => (ts.mapM fun t => rsF f σ t).map .tup

def rget (tmps : Array Value) : ResultVar → Sem Value
  | .tmp t => pure (tmps.getD t undef)
  | .cell a t => do loadVar t (← asAddr (tmps.getD a undef))

theorem results_eq (fn : Func) (tmps : Array Value) : results fn tmps = (do let vs ← fn.results.mapM (rget tmps); pure (if h : vs.size = 1 then vs[0] else .tuple vs)) := by
  unfold results
  have : (fun x => match x with | ResultVar.tmp t => pure (tmps.getD t undef) | ResultVar.cell a t => do loadVar t (← asAddr (tmps.getD a undef)) : ResultVar → Sem Value) = rget tmps := by
    funext x; cases x <;> rfl
  rw [← this]
  rfl

theorem rs_run {G : Gh} {f : FE} {σ : Store} {tmps : Array Value} {w : World} (hs : Sim G σ w) (hE : ∀ t v, f t = some v → ∃ x, tmps[t]? = some x ∧ VRel G w v x)
    {r : ResultVar} {t : RS} (hc : compRS P r = some t) {a : AV} (h : rsF f σ t = some a) :
    ∃ v, (rget tmps r).run P w = .ok v w ∧ VRel G w a v := by
  cases r with
  | tmp n =>
    cases hc
    obtain ⟨x, hx, hr⟩ := hE n a h
    exact ⟨x, by simp only [rget, Sem.run_pure, Array.getD_eq_getD_getElem?, hx]; rfl, hr⟩
  | cell n ty =>
    simp only [compRS] at hc
    split at hc
    · rename_i sz ag hn hag
      cases hc
      cases ag
      · simp only [rsF] at h
        obtain ⟨p, hp, h⟩ := opt_bind h
        obtain ⟨x, hx, hr⟩ := hE n p hp
        cases hrd : rd σ 1 p with
        | none => rw [hrd] at h; cases h
        | some cs =>
          rw [hrd] at h
          obtain ⟨b, o, vs, rfl, hl, hvl, hf, hrel, hcell⟩ := rd_rel hs hr hrd
          match cs, vs, hvl, hrel, h with
          | [c], [v0], _, .cons hr0 _, h =>
            cases h
            refine ⟨v0, ?_, hr0⟩
            have h0 := hcell 0 v0 rfl
            simp only [Nat.add_zero] at h0
            have hx' : tmps.getD n undef = .pointer (some ⟨b, o, none⟩) := by rw [Array.getD_eq_getD_getElem?, hx]; rfl
            simp only [rget, hx']; simp [asAddr, loadVar, rIsAgg hag, h0]
      · simp only [rsF] at h
        obtain ⟨p, hp, h⟩ := opt_bind h
        obtain ⟨cs, hrd, rfl⟩ := Option.map_eq_some_iff.1 h
        obtain ⟨x, hx, hr⟩ := hE n p hp
        obtain ⟨b, o, vs, rfl, hl, hvl, hf, hrel, hcell⟩ := rd_rel hs hr hrd
        have hx' : tmps.getD n undef = .pointer (some ⟨b, o, none⟩) := by rw [Array.getD_eq_getD_getElem?, hx]; rfl
        refine ⟨.agg vs.toArray, ?_, ?_⟩
        · have h0 := run_loadCells_list (P := P) w ⟨b, o, none⟩ vs (fun j x hx => by rw [add_mk]; exact hcell j x hx)
          rw [hvl] at h0
          simp only [rget, hx']; simp [asAddr, loadVar, rIsAgg hag, rSizeOf hn, h0]
        · refine .agg hrel.length hf fun k hk hk' => ?_
          obtain ⟨b', hb', hv'⟩ := hrel.get k _ (List.getElem?_eq_getElem hk)
          rw [List.getElem?_eq_getElem hk'] at hb'
          cases hb'; exact hv'
    · cases hc

theorem results_run {G : Gh} {f : FE} {σ : Store} {tmps : Array Value} {w : World} {fn : Func} {slots : List RS} (hs : Sim G σ w) (hE : ∀ t v, f t = some v → ∃ x, tmps[t]? = some x ∧ VRel G w v x)
    (hres : fn.results.toList.mapM (compRS P) = some slots) {a : AV} (h : resF f σ slots = some a) : ∃ v, (results fn tmps).run P w = .ok v w ∧ VRel G w a v := by
  have hm : ∀ (g : ResultVar → Sem Value), (∀ r t a, compRS P r = some t → rsF f σ t = some a → ∃ v, (g r).run P w = .ok v w ∧ VRel G w a v) → ∀ (rs : List ResultVar) (ts : List RS) (as : List AV), rs.mapM (compRS P) = some ts →
      (ts.mapM fun t => rsF f σ t) = some as → ∃ vs, (rs.mapM g).run P w = .ok vs w ∧ Rels (VRel G w) as vs := by
    intro g hg rs
    induction rs with
    | nil => intro ts as h1 h2; simp at h1; subst h1; simp at h2; subst h2; exact ⟨[], by simp, .nil⟩
    | cons r rs ih =>
      intro ts as h1 h2
      simp only [List.mapM_cons, Option.bind_eq_bind, Option.pure_def] at h1
      obtain ⟨t, ht, h1⟩ := opt_bind h1
      obtain ⟨ts', hts', h1⟩ := opt_bind h1
      simp at h1; subst h1
      simp only [List.mapM_cons, Option.bind_eq_bind, Option.pure_def] at h2
      obtain ⟨a, ha, h2⟩ := opt_bind h2
      obtain ⟨as', has', h2⟩ := opt_bind h2
      simp at h2; subst h2
      obtain ⟨v, hv, hvr⟩ := hg r t a ht ha
      obtain ⟨vs, hvs, hr⟩ := ih ts' as' hts' has'
      exact ⟨v :: vs, by simp only [List.mapM_cons, Sem.run_bind, hv, Result.andThen_ok, hvs, Sem.run_pure], .cons hvr hr⟩
  rw [results_eq, Array.mapM_eq_mapM_toList]
  simp only [Sem.run_bind, Sem.run_map]
  have key : ∀ as, (slots.mapM fun t => rsF f σ t) = some as → ∃ vs : List Value, (fn.results.toList.mapM (rget tmps)).run P w = .ok vs w ∧ Rels (VRel G w) as vs :=
    fun as has => hm _ (fun r t a h1 h2 => rs_run hs hE h1 h2) _ _ as hres has
  unfold resF at h
  split at h
  · rename_i t
    obtain ⟨vs, h1, h2⟩ := key [a] (by simp [List.mapM_cons, h])
    match vs, h2 with
    | [v], .cons hr _ => exact ⟨v, by rw [h1]; rfl, hr⟩
  · rename_i hne
    obtain ⟨as, has, rfl⟩ := Option.map_eq_some_iff.1 h
    obtain ⟨vs, h1, h2⟩ := key as has
    have hl : vs.length = slots.length := by rw [← h2.length, ← (mapM_some_get has).1]
    have hne1 : vs.length ≠ 1 := by
      intro e
      rw [hl] at e
      match slots, e with
      | [t], _ => exact hne t rfl
    refine ⟨.tuple vs.toArray, ?_, .tup h2.length fun k hk hk' => ?_⟩
    · rw [h1]
      simp [hne1]
    · obtain ⟨b, hb, hbr⟩ := h2.get k _ (List.getElem?_eq_getElem hk)
      rw [List.getElem?_eq_getElem hk'] at hb; cases hb; exact hbr

theorem acalls_of_fwp {fi : Nat} {fn : Func} {c : Code} {b : BC} {slots : List RS} {args : List AV} {σ : Store} {Q : AV → Store → Prop} (hf : P.funcs[fi]? = some fn) (hname : (fn.name == "runtime.NumGoroutine") = false)
    (hb : fn.body = some c) (hc : CC P fn.ntmps c b) (hres : fn.results.toList.mapM (compRS P) = some slots) (hargs : args.length ≤ fn.ntmps)
    (h : fwp P b (fun t => args[t]?) σ (fun f σ' => ∃ a, resF f σ' slots = some a ∧ Weak a σ' Q) (fun f σ' => ∃ a, resF f σ' slots = some a ∧ Weak a σ' Q) (fun _ _ _ => False)) : ACalls P fi args σ Q := by
  refine ⟨⟨fn, hf, hname, by rw [hb]; rfl⟩, fun G w vs hs hv => ?_⟩
  refine calls_of_wp hf hb (wp_mono (code_sound (R := ⟨G, σ, w⟩) hc (fun t => args[t]?) σ _ w _ _ _ ?_ h) ?_)
  · refine ⟨G, Ext.refl _ _ _, hs, by have := hv.length; simp; omega, rfl, fun t v ht => ?_⟩
    obtain ⟨x, hx, hr⟩ := hv.get t v ht
    refine ⟨x, ?_, hr⟩
    have hlt := (List.getElem?_eq_some_iff.1 hx).1
    rw [Array.getElem?_append_left (by simpa using hlt)]
    simpa using hx
  · have fin : ∀ a w', (∃ f σ', St ⟨G, σ, w⟩ fn.ntmps f σ' a w' ∧ ∃ r, resF f σ' slots = some r ∧ Weak r σ' Q) → a.defers = [] ∧ ∃ v, (results fn a.tmps).run P w' = .ok v w' ∧
        ∃ v' av G' σ', Ending.returned v = .returned v' ∧ Ext G σ w G' σ' w' ∧ Sim G' σ' w' ∧ VRel G' w' av v' ∧ Q av σ' := by
      rintro a w' ⟨f, σ', ⟨G1, h1, h2, h3, h4, h5⟩, r, hr, hw⟩
      obtain ⟨v, hrun, hv⟩ := results_run h2 h5 hres hr
      obtain ⟨G2, a2, σ2, g1, g2, g3, g4⟩ := hw G1 w' _ h2 hv
      exact ⟨h4, v, hrun, _, a2, G2, σ2, rfl, h1.trans g1, g2, g3, g4⟩
    intro e a w' hq
    cases e with
    | normal => exact fin a w' hq
    | ret => exact fin a w' hq
    | exit i => obtain ⟨_, _, _, h⟩ := hq; exact h
    | goto => exact hq
    | panic => exact hq.elim
    | outgrown => exact hq.elim

end
end Go.Am
