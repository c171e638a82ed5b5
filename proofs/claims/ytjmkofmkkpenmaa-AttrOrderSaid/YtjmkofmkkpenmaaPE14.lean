/- A part of the proof: a logic for calls over plain values, and the functions that the law reaches, each walked once. -/
import Derived.Test.YtjmkofmkkpenmaaPE13
set_option linter.unusedVariables false
set_option linter.unusedSimpArgs false
set_option linter.unusedSectionVars false

/- Ex5b -/
namespace Go.Am

/-! ## What a run does to a store, told without names -/
def Wf (s : CS) : Prop := ∀ i, U s i → i < s.next

structure Pu (s0 s : CS) : Prop where
  used : ∀ i, U s0 i → U s i
  low : s.low ≤ s0.low
  next : s0.next ≤ s.next
  reg : s.reg = s0.reg
  same : ∀ i, i < s.low → U s0 i → s.t.get i = s0.t.get i
  fresh : ∀ i, U s i → U s0 i ∨ s0.lim ≤ i
  wf : Wf s0 → Wf s

theorem Pu.refl (s : CS) : Pu s s := ⟨fun _ h => h, Nat.le_refl _, Nat.le_refl _, rfl, fun _ _ _ => rfl, fun _ h => .inl h, fun h => h⟩
theorem Pu.trans {s0 s1 s2 : CS} (h : Pu s0 s1) (h' : Pu s1 s2) : Pu s0 s2 :=
  ⟨fun i hi => h'.used i (h.used i hi), Nat.le_trans h'.low h.low, Nat.le_trans h.next h'.next, h'.reg.trans h.reg, fun i hi hj =>
    (h'.same i hi (h.used i hj)).trans (h.same i (Nat.lt_of_lt_of_le hi h'.low) hj), fun i hi => by
      rcases h'.fresh i hi with h1 | h1
      · exact h.fresh i h1
      · exact .inr (Nat.le_trans (lim_mono h.next h.reg) h1), fun hw => h'.wf (h.wf hw)⟩

theorem put_pu {s s' : CS} {id : Nat} {o : Option Obj} (hu : U s id) (hp : s.put id o = some s') : Pu s s' := by
  obtain ⟨h1, h2, h3, h4, h5⟩ := R.putLow hp
  have hU : U s' = U s := by
    funext i
    unfold U
    by_cases he : i = id
    · subst he
      have := T.get_self h1
      have hu' : s.t.get i ≠ none := hu
      simp [*]
    · rw [T.get_ne h1 he]
  exact ⟨fun i hi => by rw [hU]; exact hi, h3, by omega, h5, fun i hi _ => T.get_ne h1 (by omega), fun i hi => .inl (by rw [← hU]; exact hi), fun hw i hi => by rw [h2]; exact hw i (by rw [← hU]; exact hi)⟩

theorem push_pu {s s' : CS} {n : Nat} {o : Obj} (hn : s.lim ≤ n) (hp : s.push n o = some s') : Pu s s' := by
  unfold CS.push at hp
  split at hp
  · cases hp
  · rename_i hnone
    split at hp
    · rename_i t h1
      cases hp
      have hUn : ¬ U s n := fun hu => hu hnone
      have hnx : s.next ≤ (bif Nat.blt n s.next then s.next else Nat.succ n) ∧ n < (bif Nat.blt n s.next then s.next else Nat.succ n) := by
        cases hb : Nat.blt n s.next with
        | true => have : n < s.next := by simpa using hb
                  simp only [cond_true]; omega
        | false => have : ¬ n < s.next := fun hlt => by rw [← Nat.blt_eq, hb] at hlt; cases hlt
                   simp only [cond_false]; omega
      refine ⟨fun i hi => ?_, Nat.le_refl _, hnx.1, rfl, fun i _ hi => T.get_ne h1 (fun e => hUn (e ▸ hi)), fun i hi => ?_, fun hw i hi => ?_⟩
      · show t.get i ≠ none
        rw [T.get_ne h1 (fun e => hUn (e ▸ hi))]; exact hi
      · by_cases he : i = n
        · exact .inr (he ▸ hn)
        · have hi' : t.get i ≠ none := hi
          rw [T.get_ne h1 he] at hi'; exact .inl hi'
      · by_cases he : i = n
        · subst he; exact hnx.2
        · have hi' : t.get i ≠ none := hi
          rw [T.get_ne h1 he] at hi'; exact Nat.lt_of_lt_of_le (hw i hi') hnx.1
    · cases hp

theorem used_of {s : CS} {i : Nat} {o : Option Obj} (h : s.t.get i = some o) : U s i := by unfold U; rw [h]; simp

theorem wrT_pu {s s' : CS} {new : List AV} {p : AV} (h : wrT s new p = some s') : Pu s s' := by
  unfold wrT at h
  simp only [cond_eq_ite] at h
  repeat' split at h
  all_goals first
    | (cases h; done)
    | exact put_pu (used_of ‹_›) h

def RtPu (s : CS) (r : Rt) : Prop := ∀ a s', r = .ok a s' → Pu s s'

theorem appT_pu {s : CS} {d : Option Nat} {esz bytes : Nat} {x y : AV} : RtPu s (appT d esz bytes x y s) := by
  intro a s' h
  unfold appT at h
  simp only [cond_eq_ite] at h
  split at h
  · rename_i xs ys hxs hys
    split at h
    · split at h
      · split at h
        · cases h; exact Pu.refl _
        · split at h
          · rename_i s1 hp; cases h; exact push_pu (lim_id _ _) hp
          · cases h
      · split at h
        · rename_i s1 hp1
          split at h
          · rename_i s2 hp
            cases h
            obtain ⟨_, es, hσ, _⟩ := slc_os hxs
            exact (put_pu (U_of_st hσ) hp1).trans (push_pu (lim_id _ _) hp)
          · cases h
        · cases h
      · cases h
    · cases h
  · cases h

theorem appzT_pu {s : CS} {d : Option Nat} {esz bytes : Nat} {z : List AV} {x y : AV} : RtPu s (appzT d esz bytes z x y s) := by
  intro a s' h
  unfold appzT at h
  simp only [cond_eq_ite] at h
  split at h
  · split at h
    · split at h
      · cases h; exact Pu.refl _
      · split at h
        · rename_i s1 hp; cases h; exact push_pu (lim_id _ _) hp
        · cases h
    · cases h
  · cases h

theorem mupdT_pu {s : CS} {mk : MKey} {x k v : AV} : RtPu s (mupdT mk x k v s) := by
  intro a s' h
  unfold mupdT at h
  simp only [cond_eq_ite] at h
  repeat' split at h
  all_goals first
    | (cases h; done)
    | (cases h; exact put_pu (used_of ‹_›) ‹_›)

theorem mdelT_pu {s : CS} {mk : MKey} {x k : AV} : RtPu s (mdelT mk x k s) := by
  intro a s' h
  unfold mdelT at h
  simp only [cond_eq_ite] at h
  repeat' split at h
  all_goals first
    | (cases h; done)
    | (cases h; exact Pu.refl _)
    | (cases h; exact put_pu (used_of ‹_›) ‹_›)

theorem nilqT_pu {s : CS} {neg : Bool} {x : AV} : RtPu s (nilqT neg x s) := by
  intro a s' h
  unfold nilqT at h
  repeat' split at h
  all_goals first
    | (cases h; done)
    | (cases h; exact Pu.refl _)

theorem clrT_pu {s : CS} {esz : Nat} {z : List AV} {x : AV} : RtPu s (clrT esz z x s) := by
  intro a s' h
  unfold clrT at h
  simp only [cond_eq_ite] at h
  repeat' split at h
  all_goals first
    | (cases h; done)
    | (cases h; exact Pu.refl _)
    | (cases h; exact put_pu (used_of ‹_›) ‹_›)

def CallPu (call : Nat → List AV → CS → Rt) : Prop := ∀ f args s, Wf s → RtPu s (call f args s)

theorem loudT_pu {call : Nat → List AV → CS → Rt} (hc : CallPu call) {d : Option Nat} {lo : LO} {as : List AV} {s : CS} (hw : Wf s) : RtPu s (loudT call d lo as s) := by
  unfold loudT
  simp only [cond_eq_ite]
  split
  · split
    · split
      · rename_i s1 h; intro a s' h'; cases h'; exact wrT_pu h
      · intro a s' h'; cases h'
    · intro a s' h'; cases h'
  · exact appT_pu
  · exact appzT_pu
  · exact hc _ _ _ hw
  · exact hc _ _ _ hw
  · exact mupdT_pu
  · exact mdelT_pu
  · exact nilqT_pu
  · exact clrT_pu
  · intro a s' h'; cases h'

def OuPu (s : CS) : Ou → Prop
  | .n _ s' => Pu s s'
  | .r _ s' => Pu s s'
  | .x _ _ s' => Pu s s'
  | _ => True

theorem xop_pu {call : Nat → List AV → CS → Rt} (hc : CallPu call) {d : Option Nat} {k : BK} {xs : List Opd} {e : Env} {s : CS} (hw : Wf s) : OuPu s (xop call d k xs e s) := by
  unfold xop
  simp only [cond_eq_ite]
  cases k with
  | pick =>
    dsimp only
    repeat' split
    all_goals first | exact Pu.refl _ | exact trivial
  | bad => exact trivial
  | pure pk =>
    dsimp only
    repeat' split
    all_goals first | exact Pu.refl _ | exact trivial
  | load lk =>
    dsimp only
    repeat' split
    all_goals first | exact Pu.refl _ | exact trivial
  | alloc ak =>
    dsimp only
    repeat' split
    all_goals first | exact trivial | exact push_pu (lim_id _ _) ‹_›
  | loud lo =>
    dsimp only
    split
    · exact trivial
    · split
      · rename_i a s' h; exact loudT_pu hc hw a s' h
      · exact trivial
  | qcall f =>
    dsimp only
    split
    · exact trivial
    · split
      · rename_i a s' h
        split
        · rename_i hle
          have hle := Nat.le_of_ble_eq_true hle
          have hp := hc f _ ⟨s.t, s.next, s.next, 0⟩ hw a s' h
          exact ⟨hp.used, Nat.le_refl _, hp.next, rfl, fun i _ hu => hp.same i (Nat.lt_of_lt_of_le (hw i hu) hle) hu, fun i hi => (hp.fresh i hi).imp (fun h => h) (fun h => Nat.le_trans (lim_le s) h), hp.wf⟩
        · exact trivial
      · exact trivial

theorem OuPu.pre {s s1 : CS} {o : Ou} (h : OuPu s1 o) (h1 : Pu s s1) : OuPu s o := by
  cases o with
  | n e s' => exact h1.trans h
  | r e s' => exact h1.trans h
  | x i e s' => exact h1.trans h
  | v => trivial
  | bad l => trivial

theorem xops_pu {call : Nat → List AV → CS → Rt} (hc : CallPu call) : ∀ (l : List BOp) (e : Env) (s : CS), Wf s → OuPu s (xops call l e s)
  | [], e, s, hw => Pu.refl _
  | ⟨d, none, k, xs⟩ :: r, e, s, hw => by
    simp only [xops]
    have h := xop_pu (d := d) (k := k) (xs := xs) (e := e) hc hw
    split
    · rename_i e1 s1 h1
      rw [h1] at h
      exact (xops_pu hc r e1 s1 (h.wf hw)).pre h
    · exact h
  | ⟨d, some (t, b), k, xs⟩ :: r, e, s, hw => by
    simp only [xops, cond_eq_ite]
    split
    · split
      · have h := xop_pu (d := d) (k := k) (xs := xs) (e := (t, .bool b) :: e) hc hw
        split
        · rename_i e1 s1 h1
          rw [h1] at h
          exact (xops_pu hc r e1 s1 (h.wf hw)).pre h
        · exact h
      · exact xops_pu hc r _ s hw
    · exact xops_pu hc r _ s hw
    · trivial

def ExPu (ex : BC → Env → CS → Ou) : Prop := ∀ c e s, Wf s → OuPu s (ex c e s)

/-- The rules of a table keep stores in order. -/
def TabPu (tab : Nat → Option FD) : Prop := ∀ f d p, tab f = some d → d.rule = some p → ∀ args s, Wf s → RtPu s (p args s)

theorem callT_pu {tab : Nat → Option FD} (htab : TabPu tab) {ex : BC → Env → CS → Ou} (hex : ExPu ex) : CallPu (callT tab ex) := by
  intro f args s hw a s' h
  unfold callT at h
  simp only [cond_eq_ite] at h
  split at h
  · rename_i d hd
    split at h
    · rename_i p hr
      exact htab f d p hd hr args s hw a s' h
    split at h
    · have hp := hex d.b (argE 0 args) ⟨s.t, s.next, s.low, 0⟩ hw
      have fin : ∀ s1, Pu ⟨s.t, s.next, s.low, 0⟩ s1 → Pu s ⟨s1.t, s1.next, s1.low, s.reg⟩ := fun s1 g =>
        ⟨g.used, g.low, g.next, rfl, g.same, fun i hi => (g.fresh i hi).imp (fun h => h) (fun h => Nat.le_trans (lim_le s) h), g.wf⟩
      split at h
      · rename_i e1 s1 h1
        rw [h1] at hp
        split at h
        · cases h; exact fin _ hp
        · cases h
      · rename_i e1 s1 h1
        rw [h1] at hp
        split at h
        · cases h; exact fin _ hp
        · cases h
      · cases h
      · cases h
      · cases h
    · cases h
  · cases h

theorem enter_lim (s : CS) : (enter s).lim = s.lim := by
  unfold enter CS.lim
  dsimp only
  cases s.reg with
  | zero =>
    dsimp only
    cases Nat.blt s.next s.next <;> rfl
  | succ k => rfl

theorem leave_pu {s s1 : CS} (h : Pu (enter s) s1) : Pu s (leave s s1) := by
  refine ⟨h.used, ?_, h.next, rfl, fun i hi hu => ?_, fun i hi => ?_, h.wf⟩
  · unfold leave
    dsimp only
    cases hb : Nat.blt s1.low s.low with
    | true => have : s1.low < s.low := by simpa using hb
              simp only [cond_true]; omega
    | false => simp only [cond_false]; exact Nat.le_refl _
  · refine h.same i ?_ hu
    unfold leave at hi
    dsimp only at hi
    cases hb : Nat.blt s1.low s.low with
    | true => rw [hb] at hi; exact hi
    | false =>
      rw [hb] at hi
      simp only [cond_false] at hi
      have : ¬ s1.low < s.low := fun hlt => by rw [← Nat.blt_eq, hb] at hlt; cases hlt
      omega
  · have := h.fresh i hi
    rw [enter_lim] at this
    exact this

theorem exec_pu {tab : Nat → Option FD} (htab : TabPu tab) : ∀ fuel, ExPu (exec tab fuel)
  | 0 => fun c e s _ => trivial
  | fuel + 1 => fun c e s hw => by
    have ih := exec_pu htab fuel
    cases c with
    | skip => exact Pu.refl _
    | ret => exact Pu.refl _
    | exit i => exact Pu.refl _
    | seq a b =>
      simp only [exec]
      have h := ih a e s hw
      split
      · rename_i e1 s1 h1; rw [h1] at h; exact (ih b e1 s1 (h.wf hw)).pre h
      · exact h
    | cond c a b =>
      simp only [exec]
      split
      · exact ih a e s hw
      · exact ih b e s hw
      · trivial
    | block id b =>
      simp only [exec, cond_eq_ite]
      have h := ih b e s hw
      split
      · rename_i i e1 s1 h1; rw [h1] at h; split <;> exact h
      · exact h
    | ops l live =>
      simp only [exec]
      have h := xops_pu (callT_pu htab ih) l e s hw
      split
      · rename_i e1 s1 h1; rw [h1] at h; exact h
      · exact h
    | loop live b =>
      simp only [exec]
      have h := ih b (e.keep live) s hw
      split
      · rename_i e1 s1 h1; rw [h1] at h; exact (ih (.loop live b) e1 s1 (h.wf hw)).pre h
      · exact h
    | both a b =>
      simp only [exec, cond_eq_ite]
      have h := ih a e (enter s) hw
      split
      · exact ih b e s hw
      · rename_i e1 s1 h1
        rw [h1] at h
        split
        · exact leave_pu h
        · repeat' split
          all_goals first | exact leave_pu h | trivial
        · trivial
        · trivial
      · trivial
      · trivial
    | top => trivial

end Go.Am
