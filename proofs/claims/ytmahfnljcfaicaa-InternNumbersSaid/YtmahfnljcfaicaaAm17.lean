/- A part of the proof: a logic for calls over plain values, and a runner that is shown to be right. -/
import Derived.Test.YtmahfnljcfaicaaAm16
import Derived.Still
namespace Go.Am
set_option linter.unusedVariables false
set_option linter.unusedSimpArgs false
section
variable {P : Program} {R : Ref} {N : Nat} {ops : Array Oper} {Q : Exit → Act → World → Prop}

/-- Whatever order is picked from here on. -/
def aAny (P : Program) (ops : Array Oper) (B : List BOp) (K : FE → Store → Prop) : Nat → Array Bool → FE → Store → Prop
  | 0, listed, f, σ => Region.ready .any ops listed = [] ∧ K f σ
  | n + 1, listed, f, σ => (Region.ready .any ops listed = [] → K f σ) ∧
    ∀ i ∈ Region.ready .any ops listed, ∀ b, B[i]? = some b → (b.tt f).run P σ fun a s => aAny P ops B K n (listed.setIfInBounds i true) (f.put b.dst a) s

theorem aAny_sound {dr : Bool} {B : List BOp} (hB : ops.toList.mapM (compOp P dr N ops) = some B) {K : FE → Store → Prop}
    (hq : ∀ f' σ' a' w', St R N f' σ' a' w' → K f' σ' → Q .normal a' w') : ∀ (n : Nat) (listed : Array Bool) (f : FE) (σ : Store) (a : Act) (w : World),
    St R N f σ a w → aAny P ops B K n listed f σ → wpAny P .any ops Q n listed a w
  | 0, listed, f, σ, a, w, hst, h => ⟨h.1, hq f σ a w hst h.2⟩
  | n + 1, listed, f, σ, a, w, hst, h => by
    refine ⟨fun h0 => hq f σ a w hst (h.1 h0), fun i hi => ?_⟩
    obtain ⟨hlt, o, ho, hall⟩ := mem_ready.1 hi
    obtain ⟨h1, h2⟩ := mapM_some_get hB
    have hil : i < ops.toList.length := by
      have := (Array.getElem?_eq_some_iff.1 ho).1; simpa using this
    have hib : i < B.length := by rw [← h1]; exact hil
    have hc := h2 i hil hib
    have ho' : ops.toList[i] = o := by
      have := (Array.getElem?_eq_some_iff.1 ho).2
      simpa using this
    rw [ho'] at hc
    have hrun := h.2 i hi _ (List.getElem?_eq_getElem hib)
    have := op_sound (next := wpAny P .any ops Q n (listed.setIfInBounds i true)) (Q := Q) hc hst hrun
      (fun av σ' a' w' h3 h4 => aAny_sound hB hq n _ _ σ' a' w' h3 (by rw [compOp_dst hc] at h4; exact h4))
    unfold wpOp
    simp only [ho]
    exact this

theorem apartB_spec {x y : BOp} (h : apartB x y = true) :
    (∀ d, x.dst = some d → d ∉ y.looks) ∧ (∀ d, x.dst = some d → y.dst ≠ some d) ∧ (∀ d, y.dst = some d → d ∉ x.looks) := by
  refine ⟨fun d hd => ?_, fun d hd => ?_, fun d hd => ?_⟩ <;> simp [apartB, hd] at h
  · exact h.1.1
  · exact h.1.2
  · exact h.2

/-- Every listed operation has its listed before it. -/
def Down (ops : Array Oper) (listed : Array Bool) : Prop :=
  ∀ j o, ops[j]? = some o → listed.getD j true = true → ∀ e ∈ o.after, Region.binds .any e = true → listed.getD e.on false = true

/-- 'D' tells of each operation some that come ahead of it. -/
def okDep (ops : Array Oper) (D : List (List Nat)) : Bool :=
  (List.range ops.size).all fun j => match ops[j]? with
    | some o => (D.getD j []).all fun i => o.after.toList.any fun e => Region.binds .any e && decide (e.on < j) && (e.on == i || (D.getD e.on []).contains i)
    | none => false

def dep (D : List (List Nat)) (j i : Nat) : Bool := (D.getD j []).contains i

theorem depends_listed {D : List (List Nat)} (hD : okDep ops D = true) {listed : Array Bool} (hd : Down ops listed) (i : Nat) : ∀ (j : Nat) (o : Oper), ops[j]? = some o → dep D j i = true →
    (∀ e ∈ o.after, Region.binds .any e = true → listed.getD e.on false = true) → listed.getD i false = true := by
  intro j
  induction j using Nat.strongRecOn with
  | _ j ih =>
    intro o ho h hall
    have hj : j < ops.size := (Array.getElem?_eq_some_iff.1 ho).1
    have h1 := List.all_eq_true.1 hD j (List.mem_range.2 hj)
    simp only [ho] at h1
    have h2 := List.all_eq_true.1 h1 i (by simpa [dep] using h)
    obtain ⟨e, he, h3⟩ := List.any_eq_true.1 h2
    simp only [Bool.and_eq_true, decide_eq_true_eq, Bool.or_eq_true, beq_iff_eq] at h3
    obtain ⟨⟨hb, hlt⟩, h3⟩ := h3
    have hl := hall e (by simpa using he) hb
    rcases h3 with h3 | h3
    · rw [← h3]; exact hl
    · have hes : e.on < ops.size := by omega
      refine ih e.on hlt ops[e.on] (Array.getElem?_eq_getElem hes) h3 (hd e.on _ (Array.getElem?_eq_getElem hes) ?_)
      rw [Array.getD_eq_getD_getElem?] at hl ⊢
      cases hx : listed[e.on]? with
      | none => rfl
      | some b => rw [hx] at hl; exact hl

theorem Down.set {listed : Array Bool} (hd : Down ops listed) {i : Nat} (hi : i ∈ Region.ready .any ops listed) : Down ops (listed.setIfInBounds i true) := by
  obtain ⟨hun, oi, hoi, hall⟩ := mem_ready.1 hi
  have hmono : ∀ k, listed.getD k false = true → (listed.setIfInBounds i true).getD k false = true := fun k hk => by
    rw [Array.getD_eq_getD_getElem?] at hk ⊢
    by_cases h : i = k
    · subst h
      cases hx : listed[i]? with
      | none => rw [hx] at hk; cases hk
      | some b => have := (Array.getElem?_eq_some_iff.1 hx).1; simp [this]
    · rw [Array.getElem?_setIfInBounds_ne h]; exact hk
  intro j o ho hl e he hb
  by_cases h : i = j
  · subst h
    rw [hoi] at ho; cases ho
    exact hmono _ (hall e he hb)
  · refine hmono _ (hd j o ho ?_ e he hb)
    rw [Array.getD_eq_getD_getElem?] at hl ⊢
    rwa [Array.getElem?_setIfInBounds_ne h] at hl

/-- How many are not listed yet. -/
def unl (n : Nat) (listed : Array Bool) : Nat := ((List.range n).filter fun k => !listed.getD k true).length

theorem unl_set {n : Nat} {listed : Array Bool} {i : Nat} (hi : listed.getD i true = false) (hin : i < n) : unl n (listed.setIfInBounds i true) + 1 = unl n listed := by
  have key : ∀ n, i < n → unl n (listed.setIfInBounds i true) + 1 = unl n listed := by
    have hsame : ∀ k, k ≠ i → (listed.setIfInBounds i true).getD k true = listed.getD k true := fun k hk => getD_set_ne true (Ne.symm hk)
    have hself : (listed.setIfInBounds i true).getD i true = true := by
      rw [Array.getD_eq_getD_getElem?]
      cases hx : (listed.setIfInBounds i true)[i]? with
      | none => rfl
      | some b =>
        have hlt := (Array.getElem?_eq_some_iff.1 hx).1
        simp at hlt
        simp [hlt] at hx
        simp [← hx]
    have hlow : ∀ n, n ≤ i → unl n (listed.setIfInBounds i true) = unl n listed := fun n hn => by
      unfold unl
      congr 1
      apply List.filter_congr
      intro k hk
      rw [hsame k (by have := List.mem_range.1 hk; omega)]
    intro n
    induction n with
    | zero => intro h; omega
    | succ n ih =>
      intro h
      have e : ∀ l : Array Bool, unl (n + 1) l = unl n l + (if l.getD n true = false then 1 else 0) := fun l => by
        unfold unl
        rw [List.range_succ, List.filter_append, List.length_append]
        congr 1
        cases hb : l.getD n true
        · simp only [List.filter_cons, List.filter_nil, hb, Bool.not_false, if_true, List.length_cons, List.length_nil]
        · simp only [List.filter_cons, List.filter_nil, hb, Bool.not_true, Bool.false_eq_true, if_false, List.length_nil, Bool.true_eq_false]
      rw [e, e]
      by_cases hn : n = i
      · subst hn
        rw [hlow n (Nat.le_refl _), hself, hi]; simp
      · rw [hsame n hn, ← ih (by omega)]; omega
  exact key n hin

theorem unl_pos {n : Nat} {listed : Array Bool} {i : Nat} (hi : listed.getD i true = false) (hin : i < n) : 0 < unl n listed := by
  rw [← unl_set hi hin]; omega

theorem ready_lt {listed : Array Bool} {i : Nat} (h : i ∈ Region.ready .any ops listed) : i < ops.size := by
  obtain ⟨_, o, ho, _⟩ := mem_ready.1 h
  exact (Array.getElem?_eq_some_iff.1 ho).1

theorem aAny_first {D : List (List Nat)} (hD : okDep ops D = true) {B : List BOp} {K : FE → Store → Prop} {i : Nat} {bi : BOp} (hi : B[i]? = some bi) :
    ∀ (n : Nat) (listed : Array Bool) (f : FE) (σ : Store), Down ops listed → unl ops.size listed = n + 1 →
      (∀ j bj, B[j]? = some bj → j ≠ i → listed.getD j true = false → dep D j i = false → apartB bi bj = true ∧ mayFirst bi bj = true) →
      i ∈ Region.ready .any ops listed → (bi.tt f).run P σ (fun a s => aAny P ops B K n (listed.setIfInBounds i true) (f.put bi.dst a) s) → aAny P ops B K (n + 1) listed f σ := by
  intro n
  induction n with
  | zero =>
    intro listed f σ hdn hun hfree hr H
    refine ⟨fun h => (by rw [h] at hr; cases hr), fun j hj bj hbj => ?_⟩
    by_cases hji : j = i
    · subst hji; rw [hi] at hbj; cases hbj; exact H
    · have h1 := unl_set (mem_ready.1 hr).1 (ready_lt hr)
      have h2 := unl_pos (n := ops.size) (mem_ready.1 (ready_mono hj hji)).1 (ready_lt hj)
      omega
  | succ n ih =>
    intro listed f σ hdn hun hfree hr H
    refine ⟨fun h => (by rw [h] at hr; cases hr), fun j hj bj hbj => ?_⟩
    by_cases hji : j = i
    · subst hji; rw [hi] at hbj; cases hbj; exact H
    · have hdep : dep D j i = false := by
        cases hdj : dep D j i with
        | false => rfl
        | true =>
          obtain ⟨_, o, ho, hall⟩ := mem_ready.1 hj
          have h1 := depends_listed hD hdn i j o ho hdj hall
          have h0 := (mem_ready.1 hr).1
          rw [Array.getD_eq_getD_getElem?] at h0 h1
          cases hx : listed[i]? with
          | none => rw [hx] at h1; cases h1
          | some b => rw [hx] at h0 h1; rw [Option.getD_some] at h0 h1; rw [h0] at h1; cases h1
      obtain ⟨hap, hmf⟩ := hfree j bj hbj hji (mem_ready.1 hj).1 hdep
      obtain ⟨a1, a2, a3⟩ := apartB_spec hap
      have hjr := ready_mono hj hji
      have hH : (bi.tt f).run P σ fun a s => (bj.tt f).run P s fun b s' => aAny P ops B K n ((listed.setIfInBounds i true).setIfInBounds j true) ((f.put bi.dst a).put bj.dst b) s' :=
        TT.run_mono (fun a s h => by
          have := h.2 j hjr bj hbj
          rw [tt_put a1] at this
          exact this) H
      have hc := tt_comm hmf hH
      refine TT.run_mono (fun b s h => ?_) hc
      have hdn' := hdn.set hj
      have hun' : unl ops.size (listed.setIfInBounds j true) = n + 1 := by
        have := unl_set (mem_ready.1 hj).1 (ready_lt hj); omega
      refine ih (listed.setIfInBounds j true) (f.put bj.dst b) s hdn' hun' (fun k bk hbk hki hku hkd => hfree k bk hbk hki ?_ hkd) (ready_mono hr (Ne.symm hji)) ?_
      · by_cases hjk : j = k
        · subst hjk; exact (mem_ready.1 hj).1
        · rw [getD_set_ne true hjk] at hku; exact hku
      · rw [tt_put a3]
        rw [Array.setIfInBounds_comm _ _ hji]
        refine TT.run_mono (fun a s' h' => ?_) h
        rw [put_comm a2] at h'
        exact h'

/-- The order in which the operations are taken: is it one that may be, and does none overtake another that it may not? -/
def okOrd (ops : Array Oper) (D : List (List Nat)) (B : List BOp) : List Nat → List Nat → Bool
  | [], done => (List.range ops.size).all done.contains
  | i :: r, done =>
    (match ops[i]?, B[i]? with
     | some o, some bi => !done.contains i && o.after.toList.all (fun e => !Region.binds .any e || (done.contains e.on && decide (e.on < ops.size))) &&
        (List.range ops.size).all fun j => done.contains j || j == i || dep D j i || (match B[j]? with | some bj => apartB bi bj && mayFirst bi bj | none => true)
     | _, _ => false) && okOrd ops D B r (i :: done)

/-- 'listed' says what 'done' says. -/
def Says (n : Nat) (listed : Array Bool) (done : List Nat) : Prop := listed.size = n ∧ ∀ k, k < n → listed[k]? = some (done.contains k)

theorem aAny_ord {D : List (List Nat)} (hD : okDep ops D = true) {B : List BOp} {K : FE → Store → Prop} : ∀ (r done : List Nat) (listed : Array Bool) (f : FE) (σ : Store), Says ops.size listed done → Down ops listed → unl ops.size listed = r.length →
    okOrd ops D B r done = true → fops P (r.filterMap fun i => B[i]?) f σ K → aAny P ops B K r.length listed f σ
  | [], done, listed, f, σ, hsay, hdn, hun, hok, h => by
    simp only [okOrd, List.all_eq_true, List.mem_range] at hok
    refine ⟨?_, h⟩
    cases hr : Region.ready .any ops listed with
    | nil => rfl
    | cons j l =>
      have hj : j ∈ Region.ready .any ops listed := by rw [hr]; simp
      have h1 := (mem_ready.1 hj).1
      have h2 := hsay.2 j (ready_lt hj)
      rw [Array.getD_eq_getD_getElem?, h2, hok j (ready_lt hj)] at h1
      cases h1
  | i :: r, done, listed, f, σ, hsay, hdn, hun, hok, h => by
    simp only [okOrd, Bool.and_eq_true] at hok
    obtain ⟨hok1, hok2⟩ := hok
    split at hok1
    · rename_i o bi ho hbi
      simp only [Bool.and_eq_true, List.all_eq_true, Bool.or_eq_true, Bool.not_eq_true', List.mem_range, decide_eq_true_eq] at hok1
      obtain ⟨⟨hnd, hbef⟩, hpairs⟩ := hok1
      have hlt : i < ops.size := (Array.getElem?_eq_some_iff.1 ho).1
      have hr : i ∈ Region.ready .any ops listed := by
        rw [mem_ready]
        refine ⟨by rw [Array.getD_eq_getD_getElem?, hsay.2 i hlt, hnd]; rfl, o, ho, fun e he hb => ?_⟩
        rcases hbef e (by simpa using he) with h1 | h1
        · rw [hb] at h1; cases h1
        · rw [Array.getD_eq_getD_getElem?]
          rw [hsay.2 _ h1.2, h1.1]; rfl
      simp only [List.filterMap_cons, hbi, fops] at h
      refine aAny_first hD hbi r.length listed f σ hdn (by simpa using hun) (fun j bj hbj hji hju hjd => ?_) hr ?_
      · have hjl : j < ops.size ∨ ¬ j < ops.size := Nat.lt_or_ge j ops.size |>.imp id (fun h => by omega)
        rcases hjl with hjl | hjl
        · have h1 := hsay.2 j hjl
          rw [Array.getD_eq_getD_getElem?, h1] at hju
          rcases hpairs j hjl with ((h2 | h2) | h2) | h2
          · rw [h2] at hju; cases hju
          · exact absurd (by simpa using h2) hji
          · rw [hjd] at h2; cases h2
          · rw [hbj] at h2; simpa using h2
        · rw [Array.getD_eq_getD_getElem?, Array.getElem?_eq_none (by rw [hsay.1]; omega)] at hju; cases hju
      · refine TT.run_mono (fun a s h' => aAny_ord hD r (i :: done) _ _ s ?_ (hdn.set hr) ?_ hok2 h') h
        · refine ⟨by simpa using hsay.1, fun k hk => ?_⟩
          by_cases hki : i = k
          · subst hki; simp [hsay.1, hk]
          · rw [Array.getElem?_setIfInBounds_ne hki, hsay.2 k hk]
            have : k ≠ i := fun e => hki e.symm
            simp [this]
        · have := unl_set (mem_ready.1 hr).1 hlt
          simp at hun; omega
    · cases hok1

/-! ## Where the order matters: a tree of all that may come -/
inductive IT where
  | leaf
  | op (i : Nat) (t : IT)
  | alt (i : Nat) (t : IT) (r : IT)
  | stop

def IT.roots : IT → List Nat
  | .alt i _ r => i :: r.roots
  | _ => []

def ttree (P : Program) (B : List BOp) (K : FE → Store → Prop) : IT → FE → Store → Prop
  | .leaf, f, σ => K f σ
  | .op i t, f, σ => ∃ b, B[i]? = some b ∧ (b.tt f).run P σ fun a s => ttree P B K t (f.put b.dst a) s
  | .alt i t r, f, σ => (∃ b, B[i]? = some b ∧ (b.tt f).run P σ fun a s => ttree P B K t (f.put b.dst a) s) ∧ ttree P B K r f σ
  | .stop, _, _ => True

/-- May it be taken now? -/
def rdy (ops : Array Oper) (done : List Nat) (i : Nat) : Bool :=
  !done.contains i && match ops[i]? with
    | some o => o.after.toList.all fun e => !Region.binds .any e || (done.contains e.on && decide (e.on < ops.size))
    | none => false

def okFirst (ops : Array Oper) (D : List (List Nat)) (B : List BOp) (done : List Nat) (i : Nat) : Bool :=
  rdy ops done i && match B[i]? with
    | some bi => (List.range ops.size).all fun j => done.contains j || j == i || dep D j i || (match B[j]? with | some bj => apartB bi bj && mayFirst bi bj | none => true)
    | none => false

def okT (ops : Array Oper) (D : List (List Nat)) (B : List BOp) : Bool → IT → List Nat → Bool
  | true, .leaf, done => (List.range ops.size).all done.contains
  | true, .op i t, done => okFirst ops D B done i && okT ops D B true t (i :: done)
  | top, .alt i t r, done => rdy ops done i && (!top || (List.range ops.size).all fun j => !rdy ops done j || (i :: r.roots).contains j) && okT ops D B true t (i :: done) && okT ops D B false r done
  | false, .stop, _ => true
  | _, _, _ => false

theorem Says.ready {listed : Array Bool} {done : List Nat} (hsay : Says ops.size listed done) {i : Nat} (h : rdy ops done i = true) : i ∈ Region.ready .any ops listed := by
  unfold rdy at h
  simp only [Bool.and_eq_true, Bool.not_eq_true'] at h
  obtain ⟨hnd, h⟩ := h
  split at h
  · rename_i o ho
    have hlt : i < ops.size := (Array.getElem?_eq_some_iff.1 ho).1
    rw [mem_ready]
    refine ⟨by rw [Array.getD_eq_getD_getElem?, hsay.2 i hlt, hnd]; rfl, o, ho, fun e he hb => ?_⟩
    have h1 := List.all_eq_true.1 h e (by simpa using he)
    simp only [Bool.or_eq_true, Bool.not_eq_true', Bool.and_eq_true, decide_eq_true_eq] at h1
    rcases h1 with h1 | h1
    · rw [hb] at h1; cases h1
    · rw [Array.getD_eq_getD_getElem?]
      rw [hsay.2 _ h1.2, h1.1]; rfl
  · cases h

theorem Says.rdy {listed : Array Bool} {done : List Nat} (hsay : Says ops.size listed done) {i : Nat} (h : i ∈ Region.ready .any ops listed) : rdy ops done i = true := by
  obtain ⟨h1, o, ho, hall⟩ := mem_ready.1 h
  have hlt : i < ops.size := (Array.getElem?_eq_some_iff.1 ho).1
  rw [Array.getD_eq_getD_getElem?, hsay.2 i hlt] at h1
  have hsz : ∀ k, listed.getD k false = true → k < ops.size ∧ done.contains k = true := fun k hk => by
    rw [Array.getD_eq_getD_getElem?] at hk
    by_cases hks : k < ops.size
    · rw [hsay.2 k hks] at hk; exact ⟨hks, hk⟩
    · rw [Array.getElem?_eq_none (by rw [hsay.1]; omega)] at hk; cases hk
  simp only [Go.Am.rdy, Bool.and_eq_true, Bool.not_eq_true', ho]
  refine ⟨h1, List.all_eq_true.2 fun e he => ?_⟩
  simp only [Bool.or_eq_true, Bool.not_eq_true', Bool.and_eq_true, decide_eq_true_eq]
  cases hb : Region.binds .any e with
  | false => exact .inl rfl
  | true => have := hsz _ (hall e (by simpa using he) hb); exact .inr ⟨this.2, this.1⟩

theorem Says.set {listed : Array Bool} {done : List Nat} (hsay : Says ops.size listed done) (i : Nat) : Says ops.size (listed.setIfInBounds i true) (i :: done) := by
  refine ⟨by simpa using hsay.1, fun k hk => ?_⟩
  by_cases hki : i = k
  · subst hki; simp [hsay.1, hk]
  · rw [Array.getElem?_setIfInBounds_ne hki, hsay.2 k hk]
    have : k ≠ i := fun e => hki e.symm
    simp [this]

theorem aAny_tree {D : List (List Nat)} (hD : okDep ops D = true) {B : List BOp} {K : FE → Store → Prop} : ∀ (t : IT) (done : List Nat) (listed : Array Bool) (f : FE) (σ : Store) (n : Nat), Says ops.size listed done → Down ops listed → unl ops.size listed = n →
    (∀ top, okT ops D B top t done = true → ttree P B K t f σ →
      if top then aAny P ops B K n listed f σ
      else ∀ j ∈ t.roots, ∀ m, n = m + 1 → j ∈ Region.ready .any ops listed → ∀ b, B[j]? = some b → (b.tt f).run P σ fun a s => aAny P ops B K m (listed.setIfInBounds j true) (f.put b.dst a) s) := by
  intro t
  induction t with
  | leaf =>
    intro done listed f σ n hsay hdn hun top hok h
    cases top with
    | false => simp [okT] at hok
    | true =>
      simp only [okT, List.all_eq_true, List.mem_range] at hok
      have h0 : Region.ready .any ops listed = [] := by
        cases hr : Region.ready .any ops listed with
        | nil => rfl
        | cons j l =>
          have hj : j ∈ Region.ready .any ops listed := by rw [hr]; simp
          have h1 := (mem_ready.1 hj).1
          have h2 := hsay.2 j (ready_lt hj)
          rw [Array.getD_eq_getD_getElem?, h2, hok j (ready_lt hj)] at h1
          cases h1
      simp only [if_true]
      cases n with
      | zero => exact ⟨h0, h⟩
      | succ m => exact ⟨fun _ => h, fun i hi => (by rw [h0] at hi; cases hi)⟩
  | stop =>
    intro done listed f σ n hsay hdn hun top hok h
    cases top with
    | true => simp [okT] at hok
    | false => simp [IT.roots]
  | op i t ih =>
    intro done listed f σ n hsay hdn hun top hok h
    cases top with
    | false => simp [okT] at hok
    | true =>
      simp only [okT, Bool.and_eq_true, okFirst] at hok
      obtain ⟨⟨hrd, hok1⟩, hok2⟩ := hok
      obtain ⟨bi, hbi, h⟩ := h
      simp only [hbi] at hok1
      simp only [if_true]
      have hr := hsay.ready hrd
      have hlt := ready_lt hr
      obtain ⟨m, rfl⟩ : ∃ m, n = m + 1 := ⟨n - 1, by have := unl_pos (mem_ready.1 hr).1 hlt; omega⟩
      refine aAny_first hD hbi m listed f σ hdn hun (fun j bj hbj hji hju hjd => ?_) hr ?_
      · rcases Nat.lt_or_ge j ops.size with hjl | hjl
        · have h1 := hsay.2 j hjl
          rw [Array.getD_eq_getD_getElem?, h1] at hju
          have hp := List.all_eq_true.1 hok1 j (List.mem_range.2 hjl)
          simp only [Bool.or_eq_true] at hp
          rcases hp with ((h2 | h2) | h2) | h2
          · rw [Option.getD_some] at hju; rw [h2] at hju; cases hju
          · exact absurd (by simpa using h2) hji
          · rw [hjd] at h2; cases h2
          · rw [hbj] at h2; simpa using h2
        · rw [Array.getD_eq_getD_getElem?, Array.getElem?_eq_none (by rw [hsay.1]; omega)] at hju; cases hju
      · refine TT.run_mono (fun a s h' => ?_) h
        have hu : unl ops.size (listed.setIfInBounds i true) = m := by have := unl_set (mem_ready.1 hr).1 hlt; omega
        simpa using ih (i :: done) _ (f.put bi.dst a) s m (hsay.set i) (hdn.set hr) hu true hok2 h'
  | alt i t r iht ihr =>
    intro done listed f σ n hsay hdn hun top hok h
    simp only [okT, Bool.and_eq_true] at hok
    obtain ⟨⟨⟨hrd, hcov⟩, hok1⟩, hok2⟩ := hok
    obtain ⟨⟨bi, hbi, hi⟩, hrest⟩ := h
    have key : ∀ j ∈ (IT.alt i t r).roots, ∀ m, n = m + 1 → j ∈ Region.ready .any ops listed → ∀ b, B[j]? = some b → (b.tt f).run P σ fun a s => aAny P ops B K m (listed.setIfInBounds j true) (f.put b.dst a) s := by
      intro j hj m hm hjr b hb
      have hrest' := ihr done listed f σ n hsay hdn hun false hok2 hrest
      simp only [Bool.false_eq_true, if_false] at hrest'
      simp only [IT.roots, List.mem_cons] at hj
      by_cases hji : j = i
      · subst hji
        rw [hbi] at hb; cases hb
        refine TT.run_mono (fun a s h' => ?_) hi
        have hu : unl ops.size (listed.setIfInBounds j true) = m := by have := unl_set (mem_ready.1 hjr).1 (ready_lt hjr); omega
        simpa using iht (j :: done) _ (f.put bi.dst a) s m (hsay.set j) (hdn.set hjr) hu true hok1 h'
      · exact hrest' j (hj.resolve_left hji) m hm hjr b hb
    cases top with
    | false => simpa using key
    | true =>
      simp only [if_true]
      have hr := hsay.ready hrd
      obtain ⟨m, rfl⟩ : ∃ m, n = m + 1 := ⟨n - 1, by have := unl_pos (mem_ready.1 hr).1 (ready_lt hr); omega⟩
      refine ⟨fun h0 => (by rw [h0] at hr; cases hr), fun j hj b hb => ?_⟩
      refine key j ?_ m rfl hj b hb
      have := List.all_eq_true.1 (by simpa using hcov : ((List.range ops.size).all fun j => !Go.Am.rdy ops done j || (i :: r.roots).contains j) = true) j (List.mem_range.2 (ready_lt hj))
      rw [hsay.rdy hj] at this
      simpa [IT.roots] using this

theorem St.drew {f : FE} {σ : Store} {a : Act} {w : World} (h : St R N f σ a w) : St R N f σ a w.drew := by
  obtain ⟨G, h1, h2, h3, h4, h5⟩ := h
  exact ⟨G, h1.trans (Ext.drew G σ w), h2.heap rfl, h3, h4, fun t v ht => by obtain ⟨x, hx, hr⟩ := h5 t v ht; exact ⟨x, hx, VRel.heap (w' := w.drew) (w := w) rfl hr⟩⟩

/-- A region that draws its order: one walk, in an order that may be. -/
theorem draw_sound {dr : Bool} {id : Nat} {D : List (List Nat)} {B : List BOp} {ord : List Nat} {K : FE → Store → Prop} {f : FE} {σ : Store} {a : Act} {w : World} (hm : P.follows .mixedOrders = true)
    (hB : ops.toList.mapM (compOp P dr N ops) = some B) (hD : okDep ops D = true) (hord : okOrd ops D B ord [] = true) (hlen : ord.length = ops.size) (hst : St R N f σ a w)
    (h : fops P (ord.filterMap fun i => B[i]?) f σ K) (hq : ∀ f' σ' a' w', St R N f' σ' a' w' → K f' σ' → Q .normal a' w') : (Code.region id ops true).wp P Q a w := by
  refine wp_region_any hm ?_
  have hrep : ∀ k, k < ops.size → (Array.replicate ops.size false)[k]? = some false := fun k hk => by simp [hk]
  have hA := aAny_ord hD (K := K) (P := P) ord [] (Array.replicate ops.size false) f σ ⟨by simp, fun k hk => by rw [hrep k hk]; rfl⟩
    (fun j o ho hl => by
      have := (Array.getElem?_eq_some_iff.1 ho).1
      rw [Array.getD_eq_getD_getElem?, hrep j this] at hl; cases hl)
    (by
      unfold unl
      rw [hlen, List.filter_eq_self.2 (fun k hk => by rw [Array.getD_eq_getD_getElem?, hrep k (List.mem_range.1 hk)]; rfl), List.length_range]) hord h
  rw [hlen] at hA
  exact aAny_sound hB hq _ _ f σ a _ hst.drew hA

/-- A region that draws its order: all ways of a tree. -/
theorem tree_sound {dr : Bool} {id : Nat} {D : List (List Nat)} {B : List BOp} {t : IT} {K : FE → Store → Prop} {f : FE} {σ : Store} {a : Act} {w : World} (hm : P.follows .mixedOrders = true)
    (hB : ops.toList.mapM (compOp P dr N ops) = some B) (hD : okDep ops D = true) (hord : okT ops D B true t [] = true) (hst : St R N f σ a w)
    (h : ttree P B K t f σ) (hq : ∀ f' σ' a' w', St R N f' σ' a' w' → K f' σ' → Q .normal a' w') : (Code.region id ops true).wp P Q a w := by
  refine wp_region_any hm ?_
  have hrep : ∀ k, k < ops.size → (Array.replicate ops.size false)[k]? = some false := fun k hk => by simp [hk]
  have hA := aAny_tree hD (K := K) (P := P) t [] (Array.replicate ops.size false) f σ ops.size ⟨by simp, fun k hk => by rw [hrep k hk]; rfl⟩
    (fun j o ho hl => by
      have := (Array.getElem?_eq_some_iff.1 ho).1
      rw [Array.getD_eq_getD_getElem?, hrep j this] at hl; cases hl)
    (by
      unfold unl
      rw [List.filter_eq_self.2 (fun k hk => by rw [Array.getD_eq_getD_getElem?, hrep k (List.mem_range.1 hk)]; rfl), List.length_range]) true hord h
  simp only [if_true] at hA
  exact aAny_sound hB hq _ _ f σ a _ hst.drew hA

end
end Go.Am
