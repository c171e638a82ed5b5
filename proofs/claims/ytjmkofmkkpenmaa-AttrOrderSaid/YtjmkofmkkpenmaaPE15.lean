/- A part of the proof: a logic for calls over plain values, and the functions that the law reaches, each walked once. -/
import Derived.Test.YtjmkofmkkpenmaaPE14
set_option linter.unusedVariables false
set_option linter.unusedSimpArgs false
set_option linter.unusedSectionVars false

/- Ex6 -/
namespace Go.Am

def GoesO (m : Nat → Nat) (s : CS) (n r : Env → Store → Prop) (x : Nat → Env → Store → Prop) : Ou → Prop
  | .n e s' => ∀ m' σ', Agr s m m' s' → R m' s' σ' → ScE m' (U s') e → n (e.ren m') σ'
  | .r e s' => ∀ m' σ', Agr s m m' s' → R m' s' σ' → ScE m' (U s') e → r (e.ren m') σ'
  | .x i e s' => ∀ m' σ', Agr s m m' s' → R m' s' σ' → ScE m' (U s') e → x i (e.ren m') σ'
  | .v => True
  | .bad _ => False

theorem GoesO.pre {m m1 : Nat → Nat} {s s1 : CS} {n r : Env → Store → Prop} {x : Nat → Env → Store → Prop} {o : Ou} (h : GoesO m s n r x o) (ha : Agr s m m1 s1) : GoesO m1 s1 n r x o := by
  cases o with
  | n e s' => exact fun m' σ' g1 g2 g3 => h m' σ' (ha.trans g1) g2 g3
  | r e s' => exact fun m' σ' g1 g2 g3 => h m' σ' (ha.trans g1) g2 g3
  | x i e s' => exact fun m' σ' g1 g2 g3 => h m' σ' (ha.trans g1) g2 g3
  | v => trivial
  | bad l => exact h

/-- A rule that is right, of a function. -/
def RuleOk (P : Program) (f : Nat) (p : List AV → CS → Rt) : Prop :=
  (∀ args s, Wf s → RtPu s (p args s)) ∧ ∀ args s m σ a s', R m s σ → ScL m (U s) args → p args s = .ok a s' →
    ACalls P f (args.map (AV.ren m)) σ (fun b τ => ∃ m', Agr s m m' s' ∧ R m' s' τ ∧ ScA m' (U s') a ∧ b = a.ren m')

def TabOk (P : Program) (tab : Nat → Option FD) : Prop := ∀ f d, tab f = some d → match d.rule with
  | some p => RuleOk P f p
  | none => ∃ F : Fn P f, F.b = d.b ∧ F.slots = d.slots ∧ F.N = d.N

theorem TabOk.pu {P : Program} {tab : Nat → Option FD} (h : TabOk P tab) : TabPu tab := fun f d p hd hp => by
  have := h f d hd
  rw [hp] at this
  exact this.1

def ExOk (P : Program) (ex : BC → Env → CS → Ou) : Prop :=
  ∀ c e s m σ n r x, R m s σ → ScE m (U s) e → GoesO m s n r x (ex c e s) → bwp P c (e.ren m) σ n r x

theorem callT_ok {P : Program} {tab : Nat → Option FD} (htab : TabOk P tab) {ex : BC → Env → CS → Ou} (hex : ExOk P ex) : CallOk P (callT tab ex) := by
  intro f args s m σ a s' hR hsc h
  unfold callT at h
  split at h
  · rename_i d hd
    have hf := htab f d hd
    split at h
    · rename_i p hp
      rw [hp] at hf
      exact hf.2 args s m σ a s' hR hsc h
    rename_i hp
    rw [hp] at hf
    obtain ⟨F, h1, h2, h3⟩ := hf
    cases hb : Nat.ble args.length d.N with
    | false => rw [hb] at h; cases h
    | true =>
      rw [hb] at h
      simp only [cond_true] at h
      have hle := Nat.le_of_ble_eq_true hb
      refine acalls_of F (by rw [h3, List.length_map]; exact hle) ?_
      rw [h1, h2, ← argE_ren]
      have hR1 : R m ⟨s.t, s.next, s.low, 0⟩ σ := hR.same (fun _ => rfl) rfl
      refine hex d.b (argE 0 args) _ m σ _ _ _ hR1 (hsc.argE 0) ?_
      have fin : ∀ (e1 : Env) (s1 : CS), e1.res s1.st d.slots = some a → (⟨s1.t, s1.next, s1.low, s.reg⟩ : CS) = s' → ∀ m' σ', Agr ⟨s.t, s.next, s.low, 0⟩ m m' s1 → R m' s1 σ' → ScE m' (U s1) e1 →
          Ends d.slots (fun b τ => ∃ m', Agr s m m' s' ∧ R m' s' τ ∧ ScA m' (U s') a ∧ b = a.ren m') (e1.ren m') σ' := by
        rintro e1 s1 ha rfl m' σ' g1 g2 g3
        refine ⟨_, res_ren g2.live ha, Weak.pure ⟨m', ⟨g1.ag, g1.used, g1.low, g1.next, rfl, g1.same, fun i hi => ?_⟩, g2.same (fun _ => rfl) rfl, sc_res g2 ha g3, rfl⟩⟩
        rcases g1.fresh i hi with k | k
        · exact .inl k
        · exact .inr (Nat.le_trans (lim_le s) k)
      cases hx : ex d.b (argE 0 args) ⟨s.t, s.next, s.low, 0⟩ with
      | n e1 s1 =>
        rw [hx] at h
        dsimp only at h
        split at h
        · rename_i a' ha
          cases h
          exact fin e1 s1 ha rfl
        · cases h
      | r e1 s1 =>
        rw [hx] at h
        dsimp only at h
        split at h
        · rename_i a' ha
          cases h
          exact fin e1 s1 ha rfl
        · cases h
      | x i e1 s1 => rw [hx] at h; cases h
      | v => rw [hx] at h; cases h
      | bad l => rw [hx] at h; cases h
  · cases h

theorem enter_R {m : Nat → Nat} {s : CS} {σ : Store} (h : R m s σ) : R m (enter s) σ := h.same (fun _ => rfl) rfl

theorem leave_agr {m m' : Nat → Nat} {s s1 : CS} (h : Agr (enter s) m m' s1) : Agr s m m' (leave s s1) := by
  refine ⟨h.ag, h.used, ?_, h.next, rfl, fun i hi hu => ?_, fun i hi => ?_⟩
  · unfold leave
    dsimp only
    cases hb : Nat.blt s1.low s.low with
    | true => have : s1.low < s.low := by simpa using hb
              simp only [cond_true]; omega
    | false => simp only [cond_false]; exact Nat.le_refl _
  · refine h.same i ?_ hu
    unfold leave at hi
    dsimp only at hi
    cases hb : Nat.blt s1.low s.low with
    | true => rw [hb] at hi; exact hi
    | false =>
      rw [hb] at hi
      simp only [cond_false] at hi
      have : ¬ s1.low < s.low := fun hlt => by rw [← Nat.blt_eq, hb] at hlt; cases hlt
      omega
  · have := h.fresh i hi
    rw [enter_lim] at this
    exact this

theorem xop_kind (call : Nat → List AV → CS → Rt) (d : Option Nat) (k : BK) (xs : List Opd) (e : Env) (s : CS) : (∃ e' s', xop call d k xs e s = .n e' s') ∨ ∃ l, xop call d k xs e s = .bad l := by
  unfold xop
  simp only [cond_eq_ite]
  cases k <;> dsimp only
  all_goals repeat' split
  all_goals first | exact .inl ⟨_, _, rfl⟩ | exact .inr ⟨_, rfl⟩

theorem xops_kind (call : Nat → List AV → CS → Rt) : ∀ (l : List BOp) (e : Env) (s : CS), (∃ e' s', xops call l e s = .n e' s') ∨ ∃ k, xops call l e s = .bad k
  | [], e, s => .inl ⟨_, _, rfl⟩
  | ⟨d, none, k, xs⟩ :: r, e, s => by
    simp only [xops]
    rcases xop_kind call d k xs e s with ⟨e1, s1, h⟩ | ⟨l, h⟩
    · rw [h]; exact xops_kind call r e1 s1
    · rw [h]; exact .inr ⟨_, rfl⟩
  | ⟨d, some (t, b), k, xs⟩ :: r, e, s => by
    simp only [xops, cond_eq_ite]
    split
    · split
      · rcases xop_kind call d k xs ((t, .bool b) :: e) s with ⟨e1, s1, h⟩ | ⟨l, h⟩
        · rw [h]; exact xops_kind call r e1 s1
        · rw [h]; exact .inr ⟨_, rfl⟩
      · exact xops_kind call r _ s
    · exact xops_kind call r _ s
    · exact .inr ⟨_, rfl⟩

theorem xops_n (call : Nat → List AV → CS → Rt) (l : List BOp) (e : Env) (s : CS) (e1 : Env) (s1 : CS) (h : xops call l e s = .r e1 s1 ∨ False) : False := by
  rcases h with h | h
  · rcases xops_kind call l e s with ⟨_, _, h'⟩ | ⟨_, h'⟩ <;> rw [h'] at h <;> cases h
  · exact h
theorem xops_x (call : Nat → List AV → CS → Rt) (l : List BOp) (e : Env) (s : CS) (i : Nat) (e1 : Env) (s1 : CS) (h : xops call l e s = .x i e1 s1) : False := by
  rcases xops_kind call l e s with ⟨_, _, h'⟩ | ⟨_, h'⟩ <;> rw [h'] at h <;> cases h
theorem xops_v (call : Nat → List AV → CS → Rt) (l : List BOp) (e : Env) (s : CS) (h : xops call l e s = .v) : False := by
  rcases xops_kind call l e s with ⟨_, _, h'⟩ | ⟨_, h'⟩ <;> rw [h'] at h <;> cases h

theorem both_same {s s1 s2 : CS} (hw : Wf s) (h1 : Pu (enter s) s1) (h2 : Pu (enter s) s2) (hn : s1.next = s2.next) (hl : s1.low = s2.low)
    (hb : (fun k => beqFrom s1.t s2.t (Nat.sub s1.next k) k) (bif Nat.blt s1.low s.lim then s1.low else s.lim) = true) : ∀ i, s1.t.get i = s2.t.get i := by
  intro i
  have hlt1 := h1.wf hw
  have hlt2 := h2.wf hw
  dsimp only at hb
  generalize hk : (bif Nat.blt s1.low s.lim then s1.low else s.lim) = k at hb
  have hk1 : k ≤ s1.low ∧ k ≤ s.lim := by
    cases hc : Nat.blt s1.low s.lim with
    | true => rw [hc] at hk; simp only [cond_true] at hk
              have : s1.low < s.lim := by simpa using hc
              omega
    | false => rw [hc] at hk; simp only [cond_false] at hk
               have : ¬ s1.low < s.lim := fun hlt => by rw [← Nat.blt_eq, hc] at hlt; cases hlt
               omega
  by_cases hi : i < k
  · by_cases hu : U (enter s) i
    · rw [h1.same i (by omega) hu, h2.same i (by omega) hu]
    · have e1 : s1.t.get i = none := Classical.byContradiction fun hne => by
        rcases h1.fresh i hne with g | g
        · exact hu g
        · rw [enter_lim] at g; omega
      have e2 : s2.t.get i = none := Classical.byContradiction fun hne => by
        rcases h2.fresh i hne with g | g
        · exact hu g
        · rw [enter_lim] at g; omega
      rw [e1, e2]
  · by_cases hi2 : i < s1.next
    · exact beqFrom_eq hb i (by omega) (by show i < k + (s1.next - k); omega)
    · have e1 : s1.t.get i = none := Classical.byContradiction fun hne => hi2 (hlt1 i hne)
      have e2 : s2.t.get i = none := Classical.byContradiction fun hne => hi2 (by rw [hn]; exact hlt2 i hne)
      rw [e1, e2]

theorem exec_ok {P : Program} {tab : Nat → Option FD} (htab : TabOk P tab) (fuel : Nat) : ExOk P (exec tab fuel) := by
  induction fuel using Nat.strongRecOn with
  | ind fuel ih =>
  cases fuel with
  | zero => intro c e s m σ n r x hR he h; exact h.elim
  | succ fuel =>
    have ih0 := ih fuel (Nat.lt_succ_self _)
    intro c e s m σ n r x hR he h
    cases c with
    | skip => exact h m σ (Agr.refl s m) hR he
    | ret => exact h m σ (Agr.refl s m) hR he
    | exit i => exact h m σ (Agr.refl s m) hR he
    | seq a b =>
      simp only [exec] at h
      simp only [bwp]
      refine ih0 a e s m σ _ _ _ hR he ?_
      split at h
      · rename_i e1 s1 h1
        rw [h1]
        intro m' σ' g1 g2 g3
        exact ih0 b e1 s1 m' σ' n r x g2 g3 (h.pre g1)
      · rename_i o hne
        cases hx : exec tab fuel a e s with
        | n e1 s1 => exact (hne e1 s1 hx).elim
        | r e1 s1 => rw [hx] at h; exact h
        | x i e1 s1 => rw [hx] at h; exact h
        | v => trivial
        | bad l => rw [hx] at h; exact h
    | cond c a b =>
      simp only [exec] at h
      unfold bwp
      split at h
      · rename_i hc
        rw [xev_ren hc, ren_bool]
        exact ⟨fun _ => ih0 a e s m σ n r x hR he h, fun hf => (by cases hf)⟩
      · rename_i hc
        rw [xev_ren hc, ren_bool]
        exact ⟨fun hf => (by cases hf), fun _ => ih0 b e s m σ n r x hR he h⟩
      · exact h.elim
    | block id b =>
      simp only [exec] at h
      simp only [bwp]
      refine ih0 b e s m σ _ _ _ hR he ?_
      split at h
      · rename_i i e1 s1 h1
        rw [h1]
        intro m' σ' g1 g2 g3
        cases hb : Nat.beq i id with
        | true =>
          rw [hb] at h
          rw [if_pos (Nat.eq_of_beq_eq_true hb)]
          exact h m' σ' g1 g2 g3
        | false =>
          rw [hb] at h
          have : i ≠ id := fun hh => by
            subst hh
            rw [Nat.beq_refl] at hb; cases hb
          rw [if_neg this]
          exact h m' σ' g1 g2 g3
      · rename_i o hne
        cases hx : exec tab fuel b e s with
        | n e1 s1 => rw [hx] at h; exact h
        | r e1 s1 => rw [hx] at h; exact h
        | x i e1 s1 => exact (hne i e1 s1 hx).elim
        | v => trivial
        | bad l => rw [hx] at h; exact h
    | ops l live =>
      simp only [exec] at h
      simp only [bwp]
      refine xops_ok (callT_ok htab ih0) l e s m σ _ hR he ?_
      split at h
      · rename_i e1 s1 h1
        rw [h1]
        intro m' σ' g1 g2 g3
        have := h m' σ' g1 g2 (g3.keep live)
        rwa [keep_ren] at this
      · rename_i o hne
        cases hx : xops (callT tab (exec tab fuel)) l e s with
        | n e1 s1 => exact (hne e1 s1 hx).elim
        | bad l => rw [hx] at h; exact h
        | r e1 s1 => exact (xops_n _ l e s _ _ (.inl hx)).elim
        | x i e1 s1 => exact (xops_x _ l e s i _ _ hx).elim
        | v => exact (xops_v _ l e s hx).elim
    | loop live b =>
      simp only [bwp]
      refine ⟨fun k e' σ' => k ≤ fuel + 1 ∧ ∃ e0 s0 m0, R m0 s0 σ' ∧ ScE m0 (U s0) e0 ∧ e' = (e0.keep live).ren m0 ∧ GoesO m0 s0 n r x (exec tab k (.loop live b) e0 s0),
        ⟨fuel + 1, σ, Store.sub_refl _, Nat.le_refl _, e, s, m, hR, he, (keep_ren e live).symm, h⟩, ?_⟩
      rintro k e' σ' ⟨hk, e0, s0, m0, g1, g2, rfl, g4⟩
      cases k with
      | zero => exact g4.elim
      | succ k =>
        have ihk := ih k (by omega)
        simp only [exec] at g4
        refine ihk b (e0.keep live) s0 m0 σ' _ _ _ g1 (g2.keep live) ?_
        split at g4
        · rename_i e1 s1 h1
          rw [h1]
          intro m' σ2 j1 j2 j3
          exact ⟨k, σ2, Nat.lt_succ_self _, Store.sub_refl _, by omega, e1, s1, m', j2, j3, (keep_ren e1 live).symm, g4.pre j1⟩
        · rename_i o hne
          cases hx : exec tab k b (e0.keep live) s0 with
          | n e1 s1 => exact (hne e1 s1 hx).elim
          | r e1 s1 => rw [hx] at g4; exact g4
          | x i e1 s1 => rw [hx] at g4; exact g4
          | v => trivial
          | bad l => rw [hx] at g4; exact g4
    | both a b =>
      simp only [exec] at h
      simp only [bwp]
      have hw : Wf s := hR.lt
      have hRe := enter_R hR
      cases ha : exec tab fuel a e (enter s) with
      | v =>
        rw [ha] at h
        exact ⟨ih0 a e (enter s) m σ n r x hRe he (by rw [ha]; trivial), ih0 b e s m σ n r x hR he h⟩
      | r e1 s1 => rw [ha] at h; exact h.elim
      | x i e1 s1 => rw [ha] at h; exact h.elim
      | bad l => rw [ha] at h; exact h.elim
      | n e1 s1 =>
        rw [ha] at h
        dsimp only at h
        have fin : ∀ s2 : CS, (∀ i, s1.t.get i = s2.t.get i) → s1.next = s2.next → s1.low = s2.low → s2.reg = s1.reg → GoesO m s n r x (.n e1 (leave s s1)) → GoesO m (enter s) n r x (.n e1 s2) := by
          intro s2 hget hn hl hr hh m' σ' g1 g2 g3
          have g2' : R m' s1 σ' := g2.same hget hn
          have hU : U s1 = U s2 := by funext i; unfold U; rw [hget i]
          have g1' : Agr (enter s) m m' s1 := ⟨g1.ag, fun i hi => by rw [hU]; exact g1.used i hi, by rw [hl]; exact g1.low, by rw [hn]; exact g1.next, by rw [← hr]; exact g1.reg,
            fun i hi hu => by rw [hget i]; exact g1.same i (by rw [← hl]; exact hi) hu, fun i hi => g1.fresh i (by rw [← hU]; exact hi)⟩
          exact hh m' σ' (leave_agr g1') (g2'.same (fun _ => rfl) rfl) (by
            show ScE m' (U s1) e1
            rw [hU]; exact g3)
        have hp1 := exec_pu htab.pu fuel a e (enter s) hw
        rw [ha] at hp1
        cases hb : exec tab fuel b e (enter s) with
        | v =>
          rw [hb] at h
          exact ⟨ih0 a e (enter s) m σ n r x hRe he (by rw [ha]; exact fin s1 (fun _ => rfl) rfl rfl rfl h), ih0 b e (enter s) m σ n r x hRe he (by rw [hb]; trivial)⟩
        | r e1 s1 => rw [hb] at h; exact h.elim
        | x i e1 s1 => rw [hb] at h; exact h.elim
        | bad l => rw [hb] at h; exact h.elim
        | n e2 s2 =>
          rw [hb] at h
          dsimp only at h
          have hp2 := exec_pu htab.pu fuel b e (enter s) hw
          rw [hb] at hp2
          cases hc : (beqE e1 e2 && (Nat.beq s1.next s2.next && (Nat.beq s1.low s2.low && (fun k => beqFrom s1.t s2.t (Nat.sub s1.next k) k) (bif Nat.blt s1.low s.lim then s1.low else s.lim)))) with
          | false => rw [hc] at h; exact h.elim
          | true =>
            rw [hc] at h
            simp only [cond_true] at h
            simp only [Bool.and_eq_true] at hc
            obtain ⟨c1, c2, c3, c4⟩ := hc
            have c1 := beqE_eq c1
            have c2 := Nat.eq_of_beq_eq_true c2
            have c3 := Nat.eq_of_beq_eq_true c3
            subst c1
            have hget := both_same hw hp1 hp2 c2 c3 c4
            exact ⟨ih0 a e (enter s) m σ n r x hRe he (by rw [ha]; exact fin s1 (fun _ => rfl) rfl rfl rfl h),
              ih0 b e (enter s) m σ n r x hRe he (by rw [hb]; exact fin s2 hget c2 c3 (by rw [hp2.reg, hp1.reg]) h)⟩
    | top => trivial

/-- A run that ends, of a table that is right: the call gives what it gave. -/
theorem run_ok {P : Program} {tab : Nat → Option FD} (htab : TabOk P tab) {fuel f : Nat} {args : List AV} {a : AV} {s : CS} (hcl : AV.undL noId args = true) (hca : AV.und noId a = true)
    (h : run tab fuel f args = .ok a s) : ACalls P f args (fun _ => none) (fun b _ => b = a) := by
  unfold run at h
  have hR : R (fun i => i) (⟨.leaf, 0, 0, 0⟩ : CS) (fun _ => none) :=
    ⟨fun i o ho => (by simp [CS.st, T.get_leaf] at ho), fun i hi => (hi rfl).elim, fun i o ho => (by simp [CS.st, T.get_leaf] at ho), fun i j oi oj hi => (by simp [CS.st, T.get_leaf] at hi), fun id o ho => (by cases ho)⟩
  have := callT_ok htab (exec_ok htab fuel) f args _ (fun i => i) _ a s hR (fun m' _ => by rw [closedL_ren hcl, closedL_ren hcl]) h
  rw [closedL_ren hcl] at this
  refine this.mono ?_
  rintro b τ ⟨m', _, _, _, rfl⟩
  exact closed_ren hca m'

end Go.Am
