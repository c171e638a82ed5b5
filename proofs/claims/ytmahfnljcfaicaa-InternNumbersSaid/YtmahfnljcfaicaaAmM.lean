/- A part of the proof: a logic for calls over plain values, and a runner that is shown to be right. -/
import Derived.Test.YtmahfnljcfaicaaAm8
namespace Go.Am
set_option linter.unusedVariables false
set_option linter.unusedSimpArgs false

/-! ## Maps -/
def asTwo : AV → Option (IntKind × Int × IntKind × Int)
  | .agg [.int j1 a1, .int j2 a2] => some (j1, a1, j2, a2)
  | _ => none

def asOne : AV → Option (IntKind × Int)
  | .int k n => some (k, n)
  | _ => none

theorem asTwo_some {a : AV} {j1 j2 : IntKind} {m n : Int} (h : asTwo a = some (j1, m, j2, n)) : a = .agg [.int j1 m, .int j2 n] := by
  unfold asTwo at h
  split at h
  · cases h; rfl
  · cases h
theorem asOne_some {a : AV} {k : IntKind} {n : Int} (h : asOne a = some (k, n)) : a = .int k n := by
  unfold asOne at h
  split at h
  · cases h; rfl
  · cases h

def kEq (a b : AV) : Option Bool :=
  match asOne a, asOne b with
  | some (j, x), some (k, y) => if j = k then some (decide (x = y)) else none
  | _, _ => match asTwo a, asTwo b with
    | some (j1, a1, j2, a2), some (k1, b1, k2, b2) => if j1 = k1 ∧ j2 = k2 then some (decide (a1 = b1 ∧ a2 = b2)) else none
    | _, _ => none

def mfind (key : AV) : List (AV × AV) → Nat → Option (Option (Nat × AV))
  | [], _ => some none
  | (k, v) :: r, i => match kEq key k with
    | some true => some (some (i, v))
    | some false => mfind key r (i + 1)
    | none => none

/-- What keys a map's type has: an integer, or a struct of two. -/
inductive MKey where
  | int (k : IntKind)
  | two (k1 k2 : IntKind)

def keyKind (P : Program) (kt : TypeId) : Option MKey :=
  match P.underlying kt with
  | some (.int k) => some (.int k)
  | some (.struct fs) => (twoInts P kt fs).map fun p => .two p.1 p.2
  | _ => none

def keyFits : MKey → AV → Bool
  | .int k, a => match asOne a with
    | some (j, _) => j == k
    | none => false
  | .two k1 k2, a => match asTwo a with
    | some (j1, _, j2, _) => j1 == k1 && j2 == k2
    | none => false

section
variable {P : Program} {w : World} {G : Gh}

theorem keyKind_int {kt : TypeId} {k : IntKind} (h : keyKind P kt = some (.int k)) : P.underlying kt = some (.int k) := by
  unfold keyKind at h
  split at h
  · cases h; assumption
  · obtain ⟨p, _, h⟩ := Option.map_eq_some_iff.1 h; cases h
  · cases h
theorem keyKind_two {kt : TypeId} {k1 k2 : IntKind} (h : keyKind P kt = some (.two k1 k2)) : ∃ fs, P.underlying kt = some (.struct fs) ∧ twoInts P kt fs = some (k1, k2) := by
  unfold keyKind at h
  split at h
  · cases h
  · rename_i fs hu
    obtain ⟨⟨a, b⟩, h1, h⟩ := Option.map_eq_some_iff.1 h
    cases h
    exact ⟨fs, hu, h1⟩
  · cases h

theorem keyFits_int {k : IntKind} {a : AV} (h : keyFits (.int k) a = true) : ∃ n, a = .int k n := by
  simp only [keyFits] at h
  split at h
  · rename_i j n ha
    have := asOne_some ha
    simp at h
    subst h; exact ⟨_, this⟩
  · cases h
theorem keyFits_two {k1 k2 : IntKind} {a : AV} (h : keyFits (.two k1 k2) a = true) : ∃ m n, a = .agg [.int k1 m, .int k2 n] := by
  simp only [keyFits] at h
  split at h
  · rename_i j1 m j2 n ha
    have := asTwo_some ha
    simp at h
    obtain ⟨rfl, rfl⟩ := h
    exact ⟨_, _, this⟩
  · cases h

theorem checkKey_int (b : Bool) (d : Nat) {t : TypeId} {k : IntKind} (h : P.underlying t = some (.int k)) (n : Int) : (Instr.checkKey b (d + 1) t (.int k n)).run P w = .ok () w := by
  simp [Instr.checkKey, rUnderlying h]

theorem checkKey_run {kt : TypeId} {mk : MKey} (hk : keyKind P kt = some mk) {a : AV} {v : Value} (hf : keyFits mk a = true) (hv : VRel G w a v) (b : Bool) (d : Nat) :
    (Instr.checkKey b (d + 1 + 1) kt v).run P w = .ok () w := by
  cases mk with
  | int k =>
    obtain ⟨n, rfl⟩ := keyFits_int hf
    rw [hv.of_int]
    exact checkKey_int b _ (keyKind_int hk) n
  | two k1 k2 =>
    obtain ⟨m, n, rfl⟩ := keyFits_two hf
    obtain ⟨x, y, rfl, r1, r2⟩ := agg2 hv rfl
    rw [r1.of_int, r2.of_int]
    obtain ⟨fs, hu, h2⟩ := keyKind_two hk
    obtain ⟨f, g, rfl, h1, h2', h3, h4, h5, h6, _, _⟩ := twoInts_some h2
    have p1 : (part f.type #[.int k1 m, .int k2 n] f.offset).run P w = .ok (.int k1 m) w := part_int h1 (by simp [h5])
    have p2 : (part g.type #[.int k1 m, .int k2 n] g.offset).run P w = .ok (.int k2 n) w := part_int h2' (by simp [h6])
    have q1 := checkKey_int (P := P) (w := w) b d h1 m
    have q2 := checkKey_int (P := P) (w := w) b d h2' n
    rw [Instr.checkKey]
    simp only [Sem.run_bind, rUnderlying hu, Result.andThen_ok]
    simp only [List.forIn_toArray, List.forIn_cons, List.forIn_nil, bind_assoc, Sem.run_bind]
    simp [h3, h4, p1, p2, q1, q2]

theorem kEq_int {k : IntKind} {n : Int} {a : AV} {b : Bool} (h : kEq (.int k n) a = some b) : ∃ m, a = .int k m ∧ b = decide (n = m) := by
  unfold kEq at h
  split at h
  · rename_i j x j' y h1 h2
    cases h1
    split at h
    · rename_i hj; subst hj; cases h; exact ⟨_, asOne_some h2, rfl⟩
    · cases h
  · split at h
    · rename_i h1 _; cases h1
    · cases h

theorem kEq_two {k1 k2 : IntKind} {m n : Int} {a : AV} {b : Bool} (h : kEq (.agg [.int k1 m, .int k2 n]) a = some b) : ∃ m' n', a = .agg [.int k1 m', .int k2 n'] ∧ b = decide (m = m' ∧ n = n') := by
  unfold kEq at h
  split at h
  · rename_i h1 _; cases h1
  · split at h
    · rename_i h1 h2
      cases h1
      split at h
      · rename_i hj; obtain ⟨rfl, rfl⟩ := hj; cases h; exact ⟨_, _, asTwo_some h2, rfl⟩
      · cases h
    · cases h

theorem findNow_int {d : TypeDesc} {k : IntKind} (hd : d = .int k) (n : Int) : ∀ (es : List (AV × AV)) (ents : List MapEntry) (i : Nat) (r : Option (Nat × AV)), Rels (fun e x => VRel G w e.1 x.key ∧ VRel G w e.2 x.val) es ents →
    mfind (.int k n) es i = some r → ∃ r', Instr.findNow d (.int k n) ents i = some r' ∧ ((r = none ∧ r' = none) ∨ ∃ j a v, r = some (j, a) ∧ r' = some (j, v) ∧ VRel G w a v)
  | [], _, i, r, .nil, h => by cases h; exact ⟨none, rfl, .inl ⟨rfl, rfl⟩⟩
  | (a, b) :: es, _, i, r, .cons hx ht, h => by
    rename_i x ents
    subst hd
    simp only [mfind] at h
    cases hq : kEq (.int k n) a with
    | none => simp [hq] at h
    | some bb =>
      obtain ⟨m, rfl, rfl⟩ := kEq_int hq
      rw [hq] at h
      have hxk := hx.1.of_int
      by_cases he : n = m
      · subst he
        simp at h
        subst h
        exact ⟨some (i, x.val), by simp [Instr.findNow, Instr.sameNow, hxk], .inr ⟨i, b, x.val, rfl, rfl, hx.2⟩⟩
      · simp [he] at h
        obtain ⟨r', h1, h2⟩ := findNow_int rfl n es ents (i + 1) r ht h
        have hb : (n == m) = false := by simp [he]
        exact ⟨r', by simp only [Instr.findNow, Instr.sameNow, hxk, if_true, hb, h1], h2⟩

theorem findAsking_two {kt : TypeId} {k1 k2 : IntKind} (hk : keyKind P kt = some (.two k1 k2)) (m n : Int) : ∀ (es : List (AV × AV)) (ents : List MapEntry) (i : Nat) (r : Option (Nat × AV)),
    Rels (fun e x => VRel G w e.1 x.key ∧ VRel G w e.2 x.val) es ents → mfind (.agg [.int k1 m, .int k2 n]) es i = some r →
    ∃ r', (Instr.findAsking kt (.agg #[.int k1 m, .int k2 n]) ents i).run P w = .ok r' w ∧ ((r = none ∧ r' = none) ∨ ∃ j a v, r = some (j, a) ∧ r' = some (j, v) ∧ VRel G w a v)
  | [], _, i, r, .nil, h => by cases h; exact ⟨none, by simp [Instr.findAsking], .inl ⟨rfl, rfl⟩⟩
  | (a, b) :: es, _, i, r, .cons hx ht, h => by
    rename_i x ents
    obtain ⟨fs, hu, h2⟩ := keyKind_two hk
    simp only [mfind] at h
    cases hq : kEq (.agg [.int k1 m, .int k2 n]) a with
    | none => simp [hq] at h
    | some bb =>
      obtain ⟨m', n', rfl, rfl⟩ := kEq_two hq
      rw [hq] at h
      obtain ⟨u, v, hxk, r1, r2⟩ := agg2 hx.1 rfl
      have e1 := r1.of_int; have e2 := r2.of_int
      subst e1 e2
      have heq : (Op.equal kt (.agg #[.int k1 m, .int k2 n]) x.key).run P w = .ok (decide (m = m' ∧ n = n')) w := by
        rw [hxk, equal_succ]; exact equalIn_two 9998 hu h2 m n m' n'
      by_cases he : m = m' ∧ n = n'
      · have hd : decide (m = m' ∧ n = n') = true := decide_eq_true he
        rw [hd] at h heq
        cases h
        exact ⟨some (i, x.val), by simp [Instr.findAsking, heq], .inr ⟨i, b, x.val, rfl, rfl, hx.2⟩⟩
      · have hd : decide (m = m' ∧ n = n') = false := decide_eq_false he
        rw [hd] at h heq
        simp only at h
        obtain ⟨r', h3, h4⟩ := findAsking_two hk m n es ents (i + 1) r ht h
        exact ⟨r', by simp [Instr.findAsking, heq, h3], h4⟩

theorem findKey_run {kt : TypeId} {mk : MKey} (hk : keyKind P kt = some mk) {a : AV} {v : Value} (hf : keyFits mk a = true) (hv : VRel G w a v) {es : List (AV × AV)} {ents : List MapEntry} {r : Option (Nat × AV)}
    (hr : Rels (fun e x => VRel G w e.1 x.key ∧ VRel G w e.2 x.val) es ents) (h : mfind a es 0 = some r) :
    ∃ r', (Instr.findKey kt v ents).run P w = .ok r' w ∧ ((r = none ∧ r' = none) ∨ ∃ j a v, r = some (j, a) ∧ r' = some (j, v) ∧ VRel G w a v) := by
  cases mk with
  | int k =>
    obtain ⟨n, rfl⟩ := keyFits_int hf
    rw [hv.of_int]
    obtain ⟨r', h1, h2⟩ := findNow_int rfl n es ents 0 r hr h
    refine ⟨r', ?_, h2⟩
    unfold Instr.findKey
    simp [rUnderlying (keyKind_int hk), h1]
  | two k1 k2 =>
    obtain ⟨m, n, rfl⟩ := keyFits_two hf
    obtain ⟨x, y, rfl, r1, r2⟩ := agg2 hv rfl
    rw [r1.of_int, r2.of_int]
    obtain ⟨fs, hu, _⟩ := keyKind_two hk
    obtain ⟨r', h1, h2⟩ := findAsking_two hk m n es ents 0 r hr h
    unfold Instr.findKey
    simp only [Sem.run_bind, rUnderlying hu, Result.andThen_ok]
    cases hr with
    | nil =>
      cases h
      exact ⟨none, rfl, .inl ⟨rfl, rfl⟩⟩
    | cons hx ht =>
      refine ⟨r', ?_, h2⟩
      simp only [Instr.findNow, Instr.sameNow]
      exact h1

end
end Go.Am
