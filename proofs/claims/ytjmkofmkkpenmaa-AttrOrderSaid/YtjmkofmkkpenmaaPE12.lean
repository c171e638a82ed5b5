/- A part of the proof: a logic for calls over plain values, and the functions that the law reaches, each walked once. -/
import Derived.Test.YtjmkofmkkpenmaaPE11
set_option linter.unusedVariables false
set_option linter.unusedSimpArgs false
set_option linter.unusedSectionVars false

/- Ex4 -/
namespace Go.Am

/-! ## Structural equality -/
mutual
theorem AV.beq_eq : ∀ {a b : AV}, AV.beq a b = true → a = b
  | a, b, h => by
    cases a <;> cases b <;> simp only [AV.beq, Bool.and_eq_true, Bool.false_eq_true, decide_eq_true_eq, beq_iff_eq] at h <;> try trivial
    · rw [h]
    · rw [h.1, h.2]
    · rw [h]
    · rw [Nat.eq_of_beq_eq_true h]
    · rw [Nat.eq_of_beq_eq_true h.1, Nat.eq_of_beq_eq_true h.2]
    · rw [Nat.eq_of_beq_eq_true h.1.1.1, Nat.eq_of_beq_eq_true h.1.1.2, Nat.eq_of_beq_eq_true h.1.2, Nat.eq_of_beq_eq_true h.2]
    · rw [AV.beqL_eq h]
    · rw [Nat.eq_of_beq_eq_true h.1, AV.beqLL_eq h.2]
    · rw [Nat.eq_of_beq_eq_true h.1.1.1, Nat.eq_of_beq_eq_true h.1.1.2, Nat.eq_of_beq_eq_true h.1.2, Nat.eq_of_beq_eq_true h.2]
    · rw [Nat.eq_of_beq_eq_true h]
    · rw [Nat.eq_of_beq_eq_true h.1, AV.beqL_eq h.2]
    · rw [AV.beqL_eq h]
    · rw [AV.beqL_eq h]
    · rw [Nat.eq_of_beq_eq_true h.1, AV.beq_eq h.2]
theorem AV.beqL_eq : ∀ {a b : List AV}, AV.beqL a b = true → a = b
  | [], [], _ => rfl
  | [], _ :: _, h => by simp [AV.beqL] at h
  | _ :: _, [], h => by simp [AV.beqL] at h
  | x :: r, y :: s, h => by
    simp only [AV.beqL, Bool.and_eq_true] at h
    rw [AV.beq_eq h.1, AV.beqL_eq h.2]
theorem AV.beqLL_eq : ∀ {a b : List (List AV)}, AV.beqLL a b = true → a = b
  | [], [], _ => rfl
  | [], _ :: _, h => by simp [AV.beqLL] at h
  | _ :: _, [], h => by simp [AV.beqLL] at h
  | x :: r, y :: s, h => by
    simp only [AV.beqLL, Bool.and_eq_true] at h
    rw [AV.beqL_eq h.1, AV.beqLL_eq h.2]
end

theorem beqE_eq : ∀ {a b : Env}, beqE a b = true → a = b
  | [], [], _ => rfl
  | [], _ :: _, h => by simp [beqE] at h
  | _ :: _, [], h => by simp [beqE] at h
  | (i, x) :: r, (j, y) :: s, h => by
    simp only [beqE, Bool.and_eq_true] at h
    rw [Nat.eq_of_beq_eq_true h.1.1, AV.beq_eq h.1.2, beqE_eq h.2]

theorem beqM_eq : ∀ {a b : List (AV × AV)}, beqM a b = true → a = b
  | [], [], _ => rfl
  | [], _ :: _, h => by simp [beqM] at h
  | _ :: _, [], h => by simp [beqM] at h
  | (i, x) :: r, (j, y) :: s, h => by
    simp only [beqM, Bool.and_eq_true] at h
    rw [AV.beq_eq h.1.1, AV.beq_eq h.1.2, beqM_eq h.2]

theorem Obj.beq_eq {a b : Obj} (h : Obj.beq a b = true) : a = b := by
  cases a <;> cases b <;> simp only [Obj.beq, Bool.and_eq_true, Bool.false_eq_true] at h
  · rw [AV.beqL_eq h]
  · rw [Nat.eq_of_beq_eq_true h.1, AV.beqLL_eq h.2]
  · rw [beqM_eq h]

theorem beqOO_eq {a b : Option Obj} (h : beqOO a b = true) : a = b := by
  cases a <;> cases b <;> simp only [beqOO, Bool.false_eq_true] at h
  · rfl
  · rw [Obj.beq_eq h]

theorem beqGet_eq {a b : Option (Option Obj)} (h : beqGet a b = true) : a = b := by
  cases a <;> cases b <;> simp only [beqGet, Bool.false_eq_true] at h
  · rfl
  · rw [beqOO_eq h]

theorem beqFrom_eq {t t' : T (Option Obj)} : ∀ {k i : Nat}, beqFrom t t' k i = true → ∀ j, i ≤ j → j < i + k → t.get j = t'.get j
  | 0, i, _, j, h1, h2 => by omega
  | k + 1, i, h, j, h1, h2 => by
    simp only [beqFrom, Bool.and_eq_true] at h
    by_cases he : j = i
    · subst he; exact beqGet_eq h.1
    · exact beqFrom_eq h.2 j (by show i + 1 ≤ j; omega) (by show j < i + 1 + k; omega)

/-! ## Environments -/
section
variable {m : Nat → Nat}

theorem get_ren (e : Env) (t : Nat) : (e.ren m).get t = (e.get t).map (AV.ren m) := by
  induction e with
  | nil => rfl
  | cons p r ih =>
    obtain ⟨k, a⟩ := p
    show Env.get ((k, a.ren m) :: Env.ren m r) t = _
    simp only [Env.get]
    split
    · rfl
    · exact ih

theorem putO_ren (d : Option Nat) (a : AV) (e : Env) : (Env.putO d a e).ren m = Env.putO d (a.ren m) (e.ren m) := by
  cases d <;> rfl

theorem keep_ren (e : Env) : ∀ live, (e.keep live).ren m = (e.ren m).keep live
  | [] => rfl
  | t :: r => by
    simp only [Env.keep, get_ren]
    cases e.get t with
    | none => exact keep_ren e r
    | some a => show (t, a.ren m) :: Env.ren m (e.keep r) = _; rw [keep_ren e r]; rfl

theorem xev_ren {e : Env} {x : Opd} {a : AV} (h : xev e x = some a) : ev (e.ren m) x = some (a.ren m) := by
  cases x with
  | t n => simp only [xev] at h; simp only [ev, get_ren, h, Option.map_some]
  | c v =>
    simp only [xev] at h
    cases hb : AV.und noId v with
    | true => rw [hb] at h; cases h; simp only [ev, closed_ren hb]
    | false => rw [hb] at h; cases h

theorem xevs_ren {e : Env} : ∀ {xs : List Opd} {as : List AV}, xevs e xs = some as → evs (e.ren m) xs = some (as.map (AV.ren m))
  | [], as, h => by cases h; rfl
  | x :: r, as, h => by
    simp only [xevs] at h
    split at h
    · rename_i a ha
      split at h
      · rename_i as' has
        cases h
        simp only [evs, xev_ren ha, xevs_ren has, List.map]
      · cases h
    · cases h

variable {n : Nat → Prop}

theorem ScE.get {e : Env} (h : ScE m n e) {t : Nat} {a : AV} (ht : e.get t = some a) : ScA m n a := fun m' hm => by
  have h1 := get_ren (m := m) e t
  have h2 := get_ren (m := m') e t
  rw [h m' hm, h1, ht] at h2
  exact (Option.some.inj h2).symm

theorem ScE.xev {e : Env} (h : ScE m n e) {x : Opd} {a : AV} (hx : xev e x = some a) : ScA m n a := fun m' hm => by
  have h1 := xev_ren (m := m) hx
  have h2 := xev_ren (m := m') hx
  rw [h m' hm, h1] at h2
  exact (Option.some.inj h2).symm

theorem ScE.xevs {e : Env} (h : ScE m n e) {xs : List Opd} {as : List AV} (hx : xevs e xs = some as) : ScL m n as := fun m' hm => by
  have h1 := xevs_ren (m := m) hx
  have h2 := xevs_ren (m := m') hx
  rw [h m' hm, h1] at h2
  exact (Option.some.inj h2).symm

theorem ScE.putO {e : Env} (h : ScE m n e) {a : AV} (ha : ScA m n a) (d : Option Nat) : ScE m n (Env.putO d a e) := fun m' hm => by
  rw [putO_ren, putO_ren, h m' hm, ha m' hm]

theorem ScE.keep {e : Env} (h : ScE m n e) (live : List Nat) : ScE m n (e.keep live) := fun m' hm => by
  rw [keep_ren, keep_ren, h m' hm]

theorem argE_ren (m : Nat → Nat) : ∀ (as : List AV) (i : Nat), (argE i as).ren m = argE i (as.map (AV.ren m))
  | [], i => rfl
  | a :: r, i => by show (i, a.ren m) :: Env.ren m (argE (i + 1) r) = _; rw [argE_ren m r (i + 1)]; rfl

theorem ScL.argE {as : List AV} (i : Nat) (h : ScL m n as) : ScE m n (argE i as) := fun m' hm => by
  rw [argE_ren, argE_ren, h m' hm]

theorem ScL.cons {a : AV} {as : List AV} (h : ScL m n (a :: as)) : ScA m n a ∧ ScL m n as :=
  ⟨fun m' hm => by have := h m' hm; simp only [List.map, List.cons.injEq] at this; exact this.1,
   fun m' hm => by have := h m' hm; simp only [List.map, List.cons.injEq] at this; exact this.2⟩

theorem ScL.append {as bs : List AV} (h : ScL m n as) (h' : ScL m n bs) : ScL m n (as ++ bs) := fun m' hm => by
  rw [List.map_append, List.map_append, h m' hm, h' m' hm]

end

/-! ## Operations -/
section
variable {m : Nat → Nat} {s : CS} {σ : Store}

theorem rs_ren (hl : Live m s.st σ) {e : Env} {t : RS} {a : AV} (h : e.rs s.st t = some a) : (e.ren m).rs σ t = some (a.ren m) := by
  unfold Env.rs at h ⊢
  split at h
  · simp only [get_ren, h, Option.map_some]
  · split at h
    · rename_i p hp
      obtain ⟨cs, h1, rfl⟩ := Option.map_eq_some_iff.1 h
      simp only [get_ren, hp, Option.map_some, rd_ren hl h1, ren_agg]
    · cases h
  · split at h
    · rename_i p hp
      unfold one at h
      split at h
      · rename_i c hc
        cases h
        simp only [get_ren, hp, Option.map_some, rd_ren hl hc, List.map, one]
      · cases h
    · cases h

theorem gets_ren (hl : Live m s.st σ) {e : Env} : ∀ {ts : List RS} {as : List AV}, e.gets s.st ts = some as → (e.ren m).gets σ ts = some (as.map (AV.ren m))
  | [], as, h => by cases h; rfl
  | t :: ts, as, h => by
    simp only [Env.gets] at h
    split at h
    · rename_i a ha
      split at h
      · rename_i as' has
        cases h
        simp only [Env.gets, rs_ren hl ha, gets_ren hl has, List.map]
      · cases h
    · cases h

theorem res_ren (hl : Live m s.st σ) {e : Env} {ts : List RS} {a : AV} (h : e.res s.st ts = some a) : (e.ren m).res σ ts = some (a.ren m) := by
  unfold Env.res at h ⊢
  split at h
  · exact rs_ren hl h
  · obtain ⟨as, h1, rfl⟩ := Option.map_eq_some_iff.1 h
    rw [gets_ren hl h1]; simp

/-- What is shown for each renaming that agrees stands as it is, renamed. -/
theorem ScA.of (hR : R m s σ) {a : AV} {f : Store → (Nat → Nat) → Option AV} (hf : ∀ m', Live m' s.st σ → f σ m' = some (a.ren m'))
    (hs : ∀ m', Agree (U s) m m' → f σ m' = f σ m) : ScA m (U s) a := fun m' hm => by
  have h1 := hf m' (hR.agree hm).live
  have h2 := hf m hR.live
  rw [hs m' hm, h2] at h1
  exact (Option.some.inj h1).symm

theorem sc_pv {n : Nat → Prop} {k : PK} {as : List AV} {a : AV} (hok : okPK k = true) (h : pv k as = some a) (has : ScL m n as) : ScA m n a := fun m' hm => by
  have h1 := pv_ren m' hok h
  rw [has m' hm, pv_ren m hok h] at h1
  exact (Option.some.inj h1).symm

theorem sc_ldv (hR : R m s σ) {k : LK} {as : List AV} {a : AV} (hok : okLK k = true) (h : ldv k as s.st = some a) (has : ScL m (U s) as) : ScA m (U s) a := fun m' hm => by
  have h1 := ldv_ren (hR.agree hm).live hok h
  rw [has m' hm, ldv_ren hR.live hok h] at h1
  exact (Option.some.inj h1).symm

theorem sc_res (hR : R m s σ) {e : Env} {ts : List RS} {a : AV} (h : e.res s.st ts = some a) (he : ScE m (U s) e) : ScA m (U s) a := fun m' hm => by
  have h1 := res_ren (hR.agree hm).live h
  rw [he m' hm, res_ren hR.live h] at h1
  exact (Option.some.inj h1).symm

theorem sc_slc (hR : R m s σ) {esz : Nat} {x : AV} {xs : List (List AV)} (h : slc s.st esz x = some xs) (hx : ScA m (U s) x) : ∀ m', Agree (U s) m m' → xs.map (List.map (AV.ren m')) = xs.map (List.map (AV.ren m)) := fun m' hm => by
  have h1 := slc_ren (hR.agree hm).live h
  rw [hx m' hm, slc_ren hR.live h] at h1
  exact (Option.some.inj h1).symm

theorem ScL_cells {n : Nat → Prop} {a : AV} (h : ScA m n a) : ScL m n a.cells := fun m' hm => by
  rw [← cells_ren, ← cells_ren, h m' hm]

/-- A store at a pointer. -/
theorem wrT_ok (hR : R m s σ) {p : AV} {new : List AV} {s' : CS} (h : wrT s new p = some s') (hn : ScL m (U s) new) :
    ∃ σ', wr σ (new.map (AV.ren m)) (p.ren m) = some σ' ∧ R m s' σ' ∧ Agr s m m s' := by
  unfold wrT at h
  split at h
  · rename_i id off
    split at h
    · rename_i cells hc
      split at h
      · rename_i cs hcs
        have hst := st_some.2 hc
        have hsc : ScO m (U s) (.box cs) := fun m' hm => by
          have h1 := splice_ren (AV.ren m') off new cells
          have h2 := splice_ren (AV.ren m) off new cells
          have h3 := hR.sc _ _ hst m' hm
          simp only [Obj.ren, Obj.box.injEq] at h3 ⊢
          rw [hn m' hm, h3, h2, hcs] at h1
          simpa using h1.symm
        obtain ⟨h1, h2⟩ := hR.put hst h hsc
        refine ⟨_, ?_, h1, h2⟩
        simp only [ren_ptr, wr, hR.live _ _ hst, Obj.ren, splice_ren, hcs, Option.map_some]
      · cases h
    · cases h
  · rename_i id esz i off
    split at h
    · rename_i esz' es hc
      cases hb : Nat.beq esz' esz with
      | false => rw [hb] at h; cases h
      | true =>
        rw [hb] at h
        simp only [cond_true] at h
        have he := Nat.eq_of_beq_eq_true hb
        subst he
        split at h
        · rename_i c hi
          split at h
          · rename_i cs hcs
            have hst := st_some.2 hc
            have hsc : ScO m (U s) (.arr esz' (es.set i cs)) := fun m' hm => by
              have h1 := splice_ren (AV.ren m') off new c
              have h2 := splice_ren (AV.ren m) off new c
              have h3 := hR.sc _ _ hst m' hm
              simp only [Obj.ren, Obj.arr.injEq, true_and] at h3 ⊢
              have h4 : c.map (AV.ren m') = c.map (AV.ren m) := by
                have := congrArg (fun l => l[i]?) h3
                simpa [hi] using this
              rw [hn m' hm, h4, h2, hcs] at h1
              simp only [Option.map_some, Option.some.injEq] at h1
              rw [List.map_set, List.map_set, h3, h1]
            obtain ⟨h1, h2⟩ := hR.put hst h hsc
            refine ⟨_, ?_, h1, h2⟩
            simp only [ren_aptr, wr, hR.live _ _ hst, Obj.ren, if_true, List.getElem?_map, hi, Option.map_some, Option.bind_some, splice_ren, hcs, List.map_set]
          · cases h
        · cases h
    · cases h
  · cases h

end
end Go.Am
