/- A part of the proof: a logic for calls over plain values, and the functions that the law reaches, each walked once. -/
import Derived.Test.YtjmkofmkkpenmaaPE10
set_option linter.unusedVariables false
set_option linter.unusedSimpArgs false
set_option linter.unusedSectionVars false

/- Ex3 -/
namespace Go.Am

/-! ## The trie -/
theorem T.get_node {α : Type} (l r : T α) (o : Option α) (n : Nat) : (T.node l o r).get n = if n = 0 then o else if n % 2 = 1 then l.get (n / 2) else r.get (n / 2 - 1) := by
  show (bif Nat.beq n 0 then o else bif Nat.beq (n % 2) 1 then l.get (n / 2) else r.get (n / 2 - 1)) = _
  by_cases h : n = 0
  · subst h; rfl
  · have h1 : Nat.beq n 0 = false := by rw [Bool.eq_false_iff]; intro h'; exact h (Nat.eq_of_beq_eq_true h')
    rw [h1, if_neg h]
    by_cases h2 : n % 2 = 1
    · have h3 : Nat.beq (n % 2) 1 = true := by rw [h2]; rfl
      rw [h3, if_pos h2]; rfl
    · have h3 : Nat.beq (n % 2) 1 = false := by rw [Bool.eq_false_iff]; intro h'; exact h2 (Nat.eq_of_beq_eq_true h')
      rw [h3, if_neg h2]; rfl

theorem T.set_node {α : Type} (l r : T α) (x : Option α) (n : Nat) (o : α) : (T.node l x r).set n o = if n = 0 then some (.node l (some o) r) else
    if n % 2 = 1 then (l.set (n / 2) o).map (fun l' => .node l' x r) else (r.set (n / 2 - 1) o).map (fun r' => .node l x r') := by
  show (bif Nat.beq n 0 then some (T.node l (some o) r) else bif Nat.beq (n % 2) 1 then (match l.set (n / 2) o with | some l' => some (T.node l' x r) | none => none)
    else (match r.set (n / 2 - 1) o with | some r' => some (T.node l x r') | none => none)) = _
  by_cases h : n = 0
  · subst h; rfl
  · have h1 : Nat.beq n 0 = false := by rw [Bool.eq_false_iff]; intro h'; exact h (Nat.eq_of_beq_eq_true h')
    rw [h1, if_neg h]
    by_cases h2 : n % 2 = 1
    · have h3 : Nat.beq (n % 2) 1 = true := by rw [h2]; rfl
      rw [h3, if_pos h2]
      cases l.set (n / 2) o <;> rfl
    · have h3 : Nat.beq (n % 2) 1 = false := by rw [Bool.eq_false_iff]; intro h'; exact h2 (Nat.eq_of_beq_eq_true h')
      rw [h3, if_neg h2]
      cases r.set (n / 2 - 1) o <;> rfl

theorem T.mk_succ {α : Type} (k n : Nat) (o : α) : T.mk (k + 1) n o = if n = 0 then some (.node .leaf (some o) .leaf) else
    if n % 2 = 1 then (T.mk k (n / 2) o).map (fun l => .node l none .leaf) else (T.mk k (n / 2 - 1) o).map (fun r => .node .leaf none r) := by
  show (bif Nat.beq n 0 then some (T.node .leaf (some o) .leaf) else bif Nat.beq (n % 2) 1 then (match T.mk k (n / 2) o with | some l => some (T.node l none .leaf) | none => none)
    else (match T.mk k (n / 2 - 1) o with | some r => some (T.node .leaf none r) | none => none)) = _
  by_cases h : n = 0
  · subst h; rfl
  · have h1 : Nat.beq n 0 = false := by rw [Bool.eq_false_iff]; intro h'; exact h (Nat.eq_of_beq_eq_true h')
    rw [h1, if_neg h]
    by_cases h2 : n % 2 = 1
    · have h3 : Nat.beq (n % 2) 1 = true := by rw [h2]; rfl
      rw [h3, if_pos h2]
      cases T.mk k (n / 2) o <;> rfl
    · have h3 : Nat.beq (n % 2) 1 = false := by rw [Bool.eq_false_iff]; intro h'; exact h2 (Nat.eq_of_beq_eq_true h')
      rw [h3, if_neg h2]
      cases T.mk k (n / 2 - 1) o <;> rfl

theorem T.get_leaf {α : Type} (i : Nat) : (T.leaf : T α).get i = none := rfl

theorem T.mk_self {α : Type} : ∀ {k : Nat} {t' : T α} {n : Nat} {o : α}, T.mk k n o = some t' → t'.get n = some o
  | 0, t', n, o, h => by cases h
  | k + 1, t', n, o, h => by
    rw [T.mk_succ] at h
    split at h
    · rename_i hn; cases h; subst hn; rfl
    · rename_i hn
      split at h
      · rename_i h2
        obtain ⟨l', h3, rfl⟩ := Option.map_eq_some_iff.1 h
        rw [T.get_node, if_neg hn, if_pos h2, T.mk_self h3]
      · rename_i h2
        obtain ⟨l', h3, rfl⟩ := Option.map_eq_some_iff.1 h
        rw [T.get_node, if_neg hn, if_neg h2, T.mk_self h3]

theorem T.mk_ne {α : Type} : ∀ {k : Nat} {t' : T α} {n i : Nat} {o : α}, T.mk k n o = some t' → i ≠ n → t'.get i = none
  | 0, t', n, i, o, h, _ => by cases h
  | k + 1, t', n, i, o, h, hi => by
    rw [T.mk_succ] at h
    split at h
    · rename_i hn; cases h; subst hn
      rw [T.get_node, if_neg hi]; split <;> rfl
    · rename_i hn
      split at h
      · rename_i h2
        obtain ⟨l', h3, rfl⟩ := Option.map_eq_some_iff.1 h
        rw [T.get_node]
        by_cases h4 : i = 0
        · rw [if_pos h4]
        · rw [if_neg h4]
          by_cases h5 : i % 2 = 1
          · rw [if_pos h5, T.mk_ne h3 (by omega)]
          · rw [if_neg h5, T.get_leaf]
      · rename_i h2
        obtain ⟨l', h3, rfl⟩ := Option.map_eq_some_iff.1 h
        rw [T.get_node]
        by_cases h4 : i = 0
        · rw [if_pos h4]
        · rw [if_neg h4]
          by_cases h5 : i % 2 = 1
          · rw [if_pos h5, T.get_leaf]
          · rw [if_neg h5, T.mk_ne h3 (by omega)]

theorem T.get_self {α : Type} : ∀ {t t' : T α} {n : Nat} {o : α}, t.set n o = some t' → t'.get n = some o
  | .leaf, t', n, o, h => T.mk_self h
  | .node l x r, t', n, o, h => by
    rw [T.set_node] at h
    split at h
    · rename_i hn; cases h; subst hn; rfl
    · rename_i hn
      split at h
      · rename_i h2
        obtain ⟨l', h3, rfl⟩ := Option.map_eq_some_iff.1 h
        rw [T.get_node, if_neg hn, if_pos h2, T.get_self h3]
      · rename_i h2
        obtain ⟨l', h3, rfl⟩ := Option.map_eq_some_iff.1 h
        rw [T.get_node, if_neg hn, if_neg h2, T.get_self h3]

theorem T.get_ne {α : Type} : ∀ {t t' : T α} {n i : Nat} {o : α}, t.set n o = some t' → i ≠ n → t'.get i = t.get i
  | .leaf, t', n, i, o, h, hi => T.mk_ne h hi
  | .node l x r, t', n, i, o, h, hi => by
    rw [T.set_node] at h
    split at h
    · rename_i hn; cases h; subst hn; rw [T.get_node, T.get_node, if_neg hi, if_neg hi]
    · rename_i hn
      split at h
      · rename_i h2
        obtain ⟨l', h3, rfl⟩ := Option.map_eq_some_iff.1 h
        rw [T.get_node, T.get_node]
        by_cases h4 : i = 0
        · rw [if_pos h4, if_pos h4]
        · rw [if_neg h4, if_neg h4]
          by_cases h5 : i % 2 = 1
          · rw [if_pos h5, if_pos h5, T.get_ne h3 (by omega)]
          · rw [if_neg h5, if_neg h5]
      · rename_i h2
        obtain ⟨l', h3, rfl⟩ := Option.map_eq_some_iff.1 h
        rw [T.get_node, T.get_node]
        by_cases h4 : i = 0
        · rw [if_pos h4, if_pos h4]
        · rw [if_neg h4, if_neg h4]
          by_cases h5 : i % 2 = 1
          · rw [if_pos h5, if_pos h5]
          · rw [if_neg h5, if_neg h5, T.get_ne h3 (by omega)]

/-! ## The relation -/
def U (s : CS) : Nat → Prop := fun i => s.t.get i ≠ none
def ScA (m : Nat → Nat) (n : Nat → Prop) (a : AV) : Prop := ∀ m', Agree n m m' → a.ren m' = a.ren m
def ScL (m : Nat → Nat) (n : Nat → Prop) (l : List AV) : Prop := ∀ m', Agree n m m' → l.map (AV.ren m') = l.map (AV.ren m)
def ScO (m : Nat → Nat) (n : Nat → Prop) (o : Obj) : Prop := ∀ m', Agree n m m' → o.ren m' = o.ren m
def Env.ren (m : Nat → Nat) (e : Env) : Env := e.map fun p => (p.1, p.2.ren m)
def ScE (m : Nat → Nat) (n : Nat → Prop) (e : Env) : Prop := ∀ m', Agree n m m' → e.ren m' = e.ren m

theorem st_some {s : CS} {i : Nat} {o : Obj} : s.st i = some o ↔ s.t.get i = some (some o) := by
  unfold CS.st
  split
  · rename_i x h; rw [h]; simp
  · rename_i h; rw [h]; simp

theorem U_of_st {s : CS} {i : Nat} {o : Obj} (h : s.st i = some o) : U s i := by
  unfold U; rw [st_some.1 h]; simp

structure R (m : Nat → Nat) (s : CS) (σ : Store) : Prop where
  live : Live m s.st σ
  lt : ∀ i, U s i → i < s.next
  sc : ∀ i o, s.st i = some o → ScO m (U s) o
  inj : ∀ i j oi oj, s.st i = some oi → s.st j = some oj → m i = m j → i = j
  onto : ∀ id o, σ id = some o → ∃ i o', s.st i = some o' ∧ m i = id

theorem Agree.trans {a b : Nat → Prop} {m m1 m2 : Nat → Nat} (h : Agree a m m1) (h' : Agree b m1 m2) (hab : ∀ i, a i → b i) : Agree a m m2 := fun i hi => (h' i (hab i hi)).trans (h i hi)
theorem Agree.refl (n : Nat → Prop) (m : Nat → Nat) : Agree n m m := fun _ _ => rfl
theorem Agree.symm {n : Nat → Prop} {m m' : Nat → Nat} (h : Agree n m m') : Agree n m' m := fun i hi => (h i hi).symm

theorem R.agree {m m' : Nat → Nat} {s : CS} {σ : Store} (h : R m s σ) (ha : Agree (U s) m m') : R m' s σ where
  live i o ho := by rw [ha i (U_of_st ho), h.sc i o ho m' ha]; exact h.live i o ho
  lt := h.lt
  sc i o ho m2 h2 := by
    rw [h.sc i o ho m' ha]; exact h.sc i o ho m2 (ha.trans h2 (fun _ h => h))
  inj i j oi oj hi hj he := h.inj i j oi oj hi hj (by rw [← ha i (U_of_st hi), ← ha j (U_of_st hj)]; exact he)
  onto id o ho := by
    obtain ⟨i, o', h1, h2⟩ := h.onto id o ho
    exact ⟨i, o', h1, by rw [ha i (U_of_st h1)]; exact h2⟩

/-- Of stores with the same objects. -/
theorem R.same {m : Nat → Nat} {s s' : CS} {σ : Store} (h : R m s σ) (hg : ∀ i, s'.t.get i = s.t.get i) (hn : s'.next = s.next) : R m s' σ := by
  have hst : ∀ i, s'.st i = s.st i := fun i => by unfold CS.st; rw [hg i]
  have hU : U s' = U s := by funext i; unfold U; rw [hg i]
  exact ⟨fun i o ho => h.live i o (by rw [← hst i]; exact ho), fun i hi => by rw [hn]; exact h.lt i (by rw [← hU]; exact hi), fun i o ho => by rw [hU]; exact h.sc i o (by rw [← hst i]; exact ho),
    fun i j oi oj hi hj => h.inj i j oi oj (by rw [← hst i]; exact hi) (by rw [← hst j]; exact hj), fun id o ho => by
      obtain ⟨i, o', h1, h2⟩ := h.onto id o ho
      exact ⟨i, o', by rw [hst i]; exact h1, h2⟩⟩

structure Agr (s0 : CS) (m m' : Nat → Nat) (s : CS) : Prop where
  ag : Agree (U s0) m m'
  used : ∀ i, U s0 i → U s i
  low : s.low ≤ s0.low
  next : s0.next ≤ s.next
  reg : s.reg = s0.reg
  same : ∀ i, i < s.low → U s0 i → s.t.get i = s0.t.get i
  fresh : ∀ i, U s i → U s0 i ∨ s0.lim ≤ i

theorem lim_le (s : CS) : s.lim ≤ s.next := by
  unfold CS.lim
  split
  · exact Nat.le_refl _
  · rename_i b _
    cases hb : Nat.blt b s.next with
    | true => have : b < s.next := by simpa using hb
              simp only [cond_true]; omega
    | false => simp only [cond_false]; exact Nat.le_refl _

theorem lim_mono {s s' : CS} (hn : s.next ≤ s'.next) (hr : s'.reg = s.reg) : s.lim ≤ s'.lim := by
  unfold CS.lim
  rw [hr]
  split
  · exact hn
  · rename_i b _
    cases hb : Nat.blt b s.next with
    | true =>
      have : b < s.next := by simpa using hb
      have h2 : Nat.blt b s'.next = true := by rw [Nat.blt_eq]; omega
      rw [h2]; simp
    | false =>
      have : ¬ b < s.next := fun hlt => by rw [← Nat.blt_eq, hb] at hlt; cases hlt
      cases hb2 : Nat.blt b s'.next with
      | true => simp only [cond_true, cond_false]; omega
      | false => simp only [cond_false]; exact hn

theorem lim_id (s : CS) (d : Option Nat) : s.lim ≤ s.id d := by
  have := lim_le s
  unfold CS.id
  split
  · exact this
  · rename_i b hb
    split
    · rename_i t
      have h2 : s.lim ≤ b := by
        unfold CS.lim; rw [hb]; dsimp only
        cases hb2 : Nat.blt b s.next with
        | true => simp
        | false =>
          have : ¬ b < s.next := fun hlt => by rw [← Nat.blt_eq, hb2] at hlt; cases hlt
          simp only [cond_false]; omega
      exact Nat.le_trans h2 (Nat.le_add_right b t)
    · exact this

theorem Agr.refl (s : CS) (m : Nat → Nat) : Agr s m m s := ⟨Agree.refl _ _, fun _ h => h, Nat.le_refl _, Nat.le_refl _, rfl, fun _ _ _ => rfl, fun _ h => .inl h⟩
theorem Agr.trans {s0 s1 s2 : CS} {m m1 m2 : Nat → Nat} (h : Agr s0 m m1 s1) (h' : Agr s1 m1 m2 s2) : Agr s0 m m2 s2 :=
  ⟨h.ag.trans h'.ag h.used, fun i hi => h'.used i (h.used i hi), Nat.le_trans h'.low h.low, Nat.le_trans h.next h'.next, h'.reg.trans h.reg, fun i hi hj =>
    (h'.same i hi (h.used i hj)).trans (h.same i (Nat.lt_of_lt_of_le hi h'.low) hj), fun i hi => by
      rcases h'.fresh i hi with h1 | h1
      · exact h.fresh i h1
      · exact .inr (Nat.le_trans (lim_mono h.next h.reg) h1)⟩

theorem ScA.mono {m m' : Nat → Nat} {n n' : Nat → Prop} {a : AV} (h : ScA m n a) (ha : Agree n m m') (hn : ∀ i, n i → n' i) : ScA m' n' a := fun m2 h2 => by
  rw [h m' ha]; exact h m2 (ha.trans h2 hn)
theorem ScL.mono {m m' : Nat → Nat} {n n' : Nat → Prop} {a : List AV} (h : ScL m n a) (ha : Agree n m m') (hn : ∀ i, n i → n' i) : ScL m' n' a := fun m2 h2 => by
  rw [h m' ha]; exact h m2 (ha.trans h2 hn)
theorem ScE.mono {m m' : Nat → Nat} {n n' : Nat → Prop} {a : Env} (h : ScE m n a) (ha : Agree n m m') (hn : ∀ i, n i → n' i) : ScE m' n' a := fun m2 h2 => by
  rw [h m' ha]; exact h m2 (ha.trans h2 hn)
theorem ScO.mono {m m' : Nat → Nat} {n n' : Nat → Prop} {a : Obj} (h : ScO m n a) (ha : Agree n m m') (hn : ∀ i, n i → n' i) : ScO m' n' a := fun m2 h2 => by
  rw [h m' ha]; exact h m2 (ha.trans h2 hn)

theorem R.putLow {s s' : CS} {id : Nat} {o : Option Obj} (h : s.put id o = some s') : s.t.set id o = some s'.t ∧ s'.next = s.next ∧ s'.low ≤ s.low ∧ s'.low ≤ id ∧ s'.reg = s.reg := by
  unfold CS.put at h
  split at h
  · rename_i t ht
    cases h
    refine ⟨ht, rfl, ?_⟩
    dsimp only
    cases hb : Nat.blt id s.low with
    | true => have : id < s.low := by simpa using hb
              simp only [cond_true]; exact ⟨by omega, by omega, trivial⟩
    | false => have : ¬ id < s.low := fun hlt => by rw [← Nat.blt_eq, hb] at hlt; cases hlt
               simp only [cond_false]; exact ⟨by omega, by omega, trivial⟩
  · cases h

theorem U_put {s s' : CS} {id : Nat} {o : Option Obj} {o0 : Obj} (ho : s.st id = some o0) (h1 : s.t.set id o = some s'.t) : U s' = U s := by
  funext i
  unfold U
  by_cases he : i = id
  · subst he
    have := T.get_self h1
    have := st_some.1 ho
    simp [*]
  · rw [T.get_ne h1 he]

theorem R.put {m : Nat → Nat} {s s' : CS} {σ : Store} (h : R m s σ) {id : Nat} {o o' : Obj} (ho : s.st id = some o) (hp : s.put id (some o') = some s') (hsc : ScO m (U s) o') :
    R m s' (σ.set (m id) (o'.ren m)) ∧ Agr s m m s' := by
  obtain ⟨h1, h2, h3, h4, h5⟩ := R.putLow hp
  have hU := U_put ho h1
  have hself : s'.st id = some o' := st_some.2 (T.get_self h1)
  have hne : ∀ i, i ≠ id → s'.st i = s.st i := fun i hi => by unfold CS.st; rw [T.get_ne h1 hi]
  have hg : ∀ i oi, s'.st i = some oi → (i = id ∧ oi = o') ∨ (i ≠ id ∧ s.st i = some oi) := fun i oi hi => by
    by_cases he : i = id
    · subst he; rw [hself] at hi; cases hi; exact .inl ⟨rfl, rfl⟩
    · rw [hne i he] at hi; exact .inr ⟨he, hi⟩
  have hlive : ∀ i oi, s'.st i = some oi → ∃ oj, s.st i = some oj := fun i oi hi => by
    rcases hg i oi hi with ⟨rfl, _⟩ | ⟨_, hj⟩
    · exact ⟨o, ho⟩
    · exact ⟨oi, hj⟩
  refine ⟨⟨fun i oi hi => ?_, fun i hi => ?_, fun i oi hi => ?_, fun i j oi oj hi hj he => ?_, fun a b hab => ?_⟩,
    ⟨Agree.refl _ _, fun i hi => by rw [hU]; exact hi, h3, by omega, h5, fun i hi _ => T.get_ne h1 (by omega), fun i hi => .inl (by rw [← hU]; exact hi)⟩⟩
  · rcases hg i oi hi with ⟨rfl, rfl⟩ | ⟨hn, hj⟩
    · simp [Store.set]
    · rw [Store.set_ne _ _ (fun he => hn (h.inj i id oi o hj ho he))]; exact h.live i oi hj
  · rw [hU] at hi; rw [h2]; exact h.lt i hi
  · rw [hU]
    rcases hg i oi hi with ⟨rfl, rfl⟩ | ⟨hn, hj⟩
    · exact hsc
    · exact h.sc i oi hj
  · obtain ⟨o1, h1'⟩ := hlive i oi hi
    obtain ⟨o2, h2'⟩ := hlive j oj hj
    exact h.inj i j o1 o2 h1' h2' he
  · by_cases he : a = m id
    · exact ⟨id, o', hself, he.symm⟩
    · rw [Store.set_ne _ _ he] at hab
      obtain ⟨i, oi, h6, h7⟩ := h.onto a b hab
      exact ⟨i, oi, by rw [hne i (fun hi => he (by rw [← h7, hi]))]; exact h6, h7⟩

theorem R.del {m : Nat → Nat} {s s' : CS} {σ : Store} (h : R m s σ) {id : Nat} {o : Obj} (ho : s.st id = some o) (hp : s.put id none = some s') :
    R m s' (σ.del (m id)) ∧ Agr s m m s' := by
  obtain ⟨h1, h2, h3, h4, h5⟩ := R.putLow hp
  have hU := U_put ho h1
  have hself : s'.st id = none := by unfold CS.st; rw [T.get_self h1]
  have hne : ∀ i, i ≠ id → s'.st i = s.st i := fun i hi => by unfold CS.st; rw [T.get_ne h1 hi]
  have hg : ∀ i oi, s'.st i = some oi → (i ≠ id ∧ s.st i = some oi) := fun i oi hi => by
    by_cases he : i = id
    · subst he; rw [hself] at hi; cases hi
    · rw [hne i he] at hi; exact ⟨he, hi⟩
  refine ⟨⟨fun i oi hi => ?_, fun i hi => ?_, fun i oi hi => ?_, fun i j oi oj hi hj he => ?_, fun a b hab => ?_⟩,
    ⟨Agree.refl _ _, fun i hi => by rw [hU]; exact hi, h3, by omega, h5, fun i hi _ => T.get_ne h1 (by omega), fun i hi => .inl (by rw [← hU]; exact hi)⟩⟩
  · obtain ⟨hn, hj⟩ := hg i oi hi
    rw [Store.del_ne _ (fun he => hn (h.inj i id oi o hj ho he))]; exact h.live i oi hj
  · rw [hU] at hi; rw [h2]; exact h.lt i hi
  · rw [hU]; exact h.sc i oi (hg i oi hi).2
  · exact h.inj i j oi oj (hg i oi hi).2 (hg j oj hj).2 he
  · by_cases he : a = m id
    · subst he; simp [Store.del] at hab
    · rw [Store.del_ne _ he] at hab
      obtain ⟨i, oi, h6, h7⟩ := h.onto a b hab
      exact ⟨i, oi, by rw [hne i (fun hi => he (by rw [← h7, hi]))]; exact h6, h7⟩

def ext (m : Nat → Nat) (n id : Nat) : Nat → Nat := fun i => if i = n then id else m i

theorem R.push {m : Nat → Nat} {s s' : CS} {σ : Store} (h : R m s σ) {o : Obj} {n : Nat} (hp : s.push n o = some s') (hsc : ScO m (U s) o) {id : Nat} (hid : σ id = none) (hn : s.lim ≤ n) :
    R (ext m n id) s' (σ.set id (o.ren m)) ∧ Agr s m (ext m n id) s' ∧ U s' n ∧ ext m n id n = id := by
  unfold CS.push at hp
  split at hp
  · cases hp
  · rename_i hnone
    split at hp
    · rename_i t h1
      cases hp
      have hmne : ∀ i oi, s.st i = some oi → m i ≠ id := fun i oi hi he => by
        have := h.live i oi hi
        rw [he, hid] at this; cases this
      have hself : ext m n id n = id := by simp [ext]
      have hUn : ¬ U s n := fun hu => hu hnone
      have ha : Agree (U s) m (ext m n id) := fun i hi => by
        have : i ≠ n := fun e => hUn (e ▸ hi)
        simp [ext, this]
      have hU1 : ∀ i, U s i → U ⟨t, bif Nat.blt n s.next then s.next else Nat.succ n, s.low, s.reg⟩ i := fun i hi => by
        show t.get i ≠ none
        rw [T.get_ne h1 (fun e => hUn (e ▸ hi))]; exact hi
      have hnx : s.next ≤ (bif Nat.blt n s.next then s.next else Nat.succ n) ∧ n < (bif Nat.blt n s.next then s.next else Nat.succ n) := by
        cases hb : Nat.blt n s.next with
        | true => have : n < s.next := by simpa using hb
                  simp only [cond_true]; omega
        | false => have : ¬ n < s.next := fun hlt => by rw [← Nat.blt_eq, hb] at hlt; cases hlt
                   simp only [cond_false]; omega
      have hst : ∀ i oi, CS.st ⟨t, bif Nat.blt n s.next then s.next else Nat.succ n, s.low, s.reg⟩ i = some oi → (i = n ∧ oi = o) ∨ (i ≠ n ∧ s.st i = some oi) := fun i oi hi => by
        have hi := st_some.1 hi
        by_cases he : i = n
        · subst he; rw [T.get_self h1] at hi; cases hi; exact .inl ⟨rfl, rfl⟩
        · refine .inr ⟨he, st_some.2 ?_⟩
          rw [← T.get_ne h1 he]; exact hi
      refine ⟨⟨fun i oi hi => ?_, fun i hi => ?_, fun i oi hi => ?_, fun i j oi oj hi hj he => ?_, fun a b hab => ?_⟩,
        ⟨ha, hU1, Nat.le_refl _, hnx.1, rfl, fun i _ hi => T.get_ne h1 (fun e => hUn (e ▸ hi)), fun i hi => by
          by_cases he : i = n
          · exact .inr (he ▸ hn)
          · have hi' : t.get i ≠ none := hi
            rw [T.get_ne h1 he] at hi'; exact .inl hi'⟩, ?_, hself⟩
      · rcases hst i oi hi with ⟨rfl, rfl⟩ | ⟨hn, hj⟩
        · rw [hself, hsc _ ha]; simp [Store.set]
        · rw [ha i (U_of_st hj), h.sc i oi hj _ ha, Store.set_ne _ _ (hmne i oi hj)]; exact h.live i oi hj
      · by_cases he : i = n
        · subst he; exact hnx.2
        · have hi' : t.get i ≠ none := hi
          rw [T.get_ne h1 he] at hi'
          exact Nat.lt_of_lt_of_le (h.lt i hi') hnx.1
      · rcases hst i oi hi with ⟨rfl, rfl⟩ | ⟨hn, hj⟩
        · exact hsc.mono ha hU1
        · exact (h.sc i oi hj).mono ha hU1
      · rcases hst i oi hi with ⟨rfl, rfl⟩ | ⟨hn, hj'⟩
        · rcases hst j oj hj with ⟨rfl, rfl⟩ | ⟨hn2, hj2⟩
          · rfl
          · rw [hself, ha j (U_of_st hj2)] at he; exact absurd he.symm (hmne j oj hj2)
        · rcases hst j oj hj with ⟨rfl, rfl⟩ | ⟨hn2, hj2⟩
          · rw [hself, ha i (U_of_st hj')] at he; exact absurd he (hmne i oi hj')
          · rw [ha i (U_of_st hj'), ha j (U_of_st hj2)] at he; exact h.inj i j oi oj hj' hj2 he
      · by_cases he : a = id
        · exact ⟨n, o, st_some.2 (T.get_self h1), by rw [hself, he]⟩
        · rw [Store.set_ne _ _ he] at hab
          obtain ⟨i, oi, h6, h7⟩ := h.onto a b hab
          have hin : i ≠ n := fun e => hUn (e ▸ U_of_st h6)
          exact ⟨i, oi, st_some.2 (by rw [← st_some.1 h6]; exact T.get_ne h1 hin), by rw [ha i (U_of_st h6)]; exact h7⟩
      · show t.get n ≠ none
        rw [T.get_self h1]; simp
    · cases hp

end Go.Am
