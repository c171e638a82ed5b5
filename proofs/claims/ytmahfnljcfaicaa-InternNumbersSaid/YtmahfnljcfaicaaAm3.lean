/- A part of the proof: a logic for calls over plain values, and a runner that is shown to be right. -/
import Derived.Test.YtmahfnljcfaicaaAm2
import Derived.Laws.CopyRow
import Derived.Laws.Cells
namespace Go.Am
set_option linter.unusedVariables false
set_option linter.unusedSimpArgs false

section
variable {P : Program} {w : World}

theorem rUnderlying {t : TypeId} {d : TypeDesc} (h : P.underlying t = some d) : (underlying t).run P w = .ok d w := by
  simp [underlying, h]
theorem rTypeInfo {t : TypeId} {i : TypeInfo} (h : P.info? t = some i) : (typeInfo t).run P w = .ok i w := by
  simp [typeInfo, h]
theorem rSizeOf {t : TypeId} {n : Nat} (h : tsz P t = some n) : (sizeOf t).run P w = .ok n w := by
  unfold tsz at h
  cases hi : P.info? t with
  | none => simp [hi] at h
  | some i => simp [hi] at h; subst h; simp [sizeOf, rTypeInfo hi]
theorem rIsAgg {t : TypeId} {b : Bool} (h : tagg P t = some b) : (isAgg t).run P w = .ok b w := by
  unfold tagg at h
  cases hi : P.underlying t with
  | none => simp [hi] at h
  | some d => simp [hi] at h; subst h; simp only [isAgg, Sem.run_bind, rUnderlying hi, Result.andThen_ok]; split <;> simp_all
theorem rZero {t : TypeId} {z : List AV} (h : tzero P t = some z) : ∃ v, (zeroValue t).run P w = .ok v w ∧ v.cells.toList.mapM AV.ofCell = some z := by
  unfold tzero at h
  cases hi : P.info? t with
  | none => simp [hi] at h
  | some i =>
    cases hz : i.zero with
    | none => simp [hi, hz] at h
    | some v => exact ⟨v, by simp [zeroValue, rTypeInfo hi, hz], by simpa [hi, hz] using h⟩
theorem rPart {t : TypeId} {n : Nat} {b : Bool} (hs : tsz P t = some n) (ha : tagg P t = some b) (cs : Array Value) (off : Nat) :
    (part t cs off).run P w = if b then .ok (.agg (cs.extract off (off + n))) w else match cs[off]? with | some v => .ok v w | none => .halt (.stuck "part: no such cell") w := by
  unfold part
  simp only [Sem.run_bind, rIsAgg ha, Result.andThen_ok]
  cases b
  · cases hc : cs[off]? <;> simp [hc]
  · simp [rSizeOf hs]

theorem opt_bind {α β : Type} {x : Option α} {f : α → Option β} {r : β} (h : x.bind f = some r) : ∃ a, x = some a ∧ f a = some r := by
  cases x with
  | none => cases h
  | some a => exact ⟨a, rfl, h⟩
end

section
variable {w : World}
theorem VRel.of_bool {G : Gh} {b : Bool} {v : Value} (h : VRel G w (.bool b) v) : v = .bool b := by cases h; rfl
theorem VRel.of_int {G : Gh} {k : IntKind} {n : Int} {v : Value} (h : VRel G w (.int k n) v) : v = .int k n := by cases h; rfl
theorem VRel.of_nil {G : Gh} {v : Value} (h : VRel G w .nil v) : v = .pointer none := by cases h; rfl
theorem VRel.of_nils {G : Gh} {v : Value} (h : VRel G w .nils v) : v = .slice none 0 0 := by cases h; rfl
theorem VRel.of_ptr {G : Gh} {id off : Nat} {v : Value} (h : VRel G w (.ptr id off) v) : ∃ b base, G.ρ id = some (b, base) ∧ v = .pointer (some ⟨b, base + off, none⟩) := by
  cases h with | ptr h => exact ⟨_, _, h, rfl⟩
theorem VRel.of_aptr {G : Gh} {id esz i off : Nat} {v : Value} (h : VRel G w (.aptr id esz i off) v) : ∃ b base, G.ρ id = some (b, base) ∧ v = .pointer (some ⟨b, base + (i * esz + off), none⟩) := by
  cases h with | aptr h => exact ⟨_, _, h, rfl⟩
theorem VRel.of_agg {G : Gh} {cells : List AV} {v : Value} (h : VRel G w (.agg cells) v) : ∃ cs : List Value, v = .agg cs.toArray ∧ cells.length = cs.length ∧ (∀ c ∈ cells, c.flat = true) ∧
    (∀ k (h : k < cells.length) (h' : k < cs.length), VRel G w cells[k] cs[k]) := by
  cases h with | agg hl hf hv => exact ⟨_, rfl, hl, hf, hv⟩
theorem VRel.of_mp {G : Gh} {id : Nat} {v : Value} (h : VRel G w (.mp id) v) : ∃ b base, G.ρ id = some (b, base) ∧ v = .map (some b) := by
  cases h with | mp h => exact ⟨_, _, h, rfl⟩

end
/-- What an operand's compiled form stands for. -/
def OpdOk (G : Gh) (w : World) (ev : Operand → Value) (oev : Opd → Option AV) : Prop :=
  ∀ (x : Operand) (y : Opd) (a : AV), compOpd x = some y → oev y = some a → VRel G w a (ev x)

def Gives (P : Program) (ev : Operand → Value) (op : Op) (w : World) (v : Value) : Prop :=
  ∀ dst ty pos after guard, (execOp ev ⟨dst, op, ty, pos, after, guard⟩).run P w = .ok (.value v) w

section
variable {P : Program} {w : World} {G : Gh} {ev : Operand → Value} {oev : Opd → Option AV}

theorem gives_of {op : Op} {s : Sem Value} {v : Value} (h : ∀ dst ty pos after guard, execOp ev ⟨dst, op, ty, pos, after, guard⟩ = (do pure (.value (← s)))) (hs : s.run P w = .ok v w) : Gives P ev op w v := by
  intro dst ty pos after guard
  rw [h]; simp [hs]

theorem mapM1 {y : Opd} {as : List AV} (h : [y].mapM oev = some as) : ∃ a, oev y = some a ∧ as = [a] := by
  simp only [List.mapM_cons, List.mapM_nil, Option.bind_eq_bind, Option.pure_def] at h
  obtain ⟨a, h1, h2⟩ := opt_bind h
  exact ⟨a, h1, by simpa using h2.symm⟩
theorem mapM2 {y z : Opd} {as : List AV} (h : [y, z].mapM oev = some as) : ∃ a b, oev y = some a ∧ oev z = some b ∧ as = [a, b] := by
  simp only [List.mapM_cons, List.mapM_nil, Option.bind_eq_bind, Option.pure_def] at h
  obtain ⟨a, h1, h2⟩ := opt_bind h
  obtain ⟨b, h3, h4⟩ := opt_bind h2
  obtain ⟨c, h5, h6⟩ := opt_bind h3
  simp at h6; subst h6
  exact ⟨a, c, h1, h5, by simpa using h4.symm⟩
theorem mapM3 {y z u : Opd} {as : List AV} (h : [y, z, u].mapM oev = some as) : ∃ a b c, oev y = some a ∧ oev z = some b ∧ oev u = some c ∧ as = [a, b, c] := by
  simp only [List.mapM_cons, List.mapM_nil, Option.bind_eq_bind, Option.pure_def] at h
  obtain ⟨a, h1, h2⟩ := opt_bind h
  obtain ⟨b, h3, h4⟩ := opt_bind h2
  obtain ⟨c, h5, h6⟩ := opt_bind h3
  obtain ⟨d, h7, h8⟩ := opt_bind h6
  obtain ⟨e, h9, h10⟩ := opt_bind h7
  simp at h10; subst h10; simp at h8; subst h8
  exact ⟨a, c, e, h1, h5, h9, by simpa using h4.symm⟩

/-- One value for an abstract one. -/
def Has (P : Program) (G : Gh) (ev : Operand → Value) (op : Op) (w : World) (a : AV) : Prop := ∃ v, Gives P ev op w v ∧ VRel G w a v

theorem binInt_run {op : BinOp} {k : IntKind} {x y : Int} {a : AV} (t : TypeId) (h : binInt op k x y = some a) :
    ∃ v, (binOp op t (.int k x) (.int k y)).run P w = .ok v w ∧ VRel G w a v := by
  have hb : ∀ (b b' : Bool) (hb : b' = b), VRel G w (.bool b) (.bool b') := fun b b' h => by subst h; exact .bool _
  cases op <;> simp only [binInt] at h
  case add | sub | mul => cases h; exact ⟨.int k _, by simp [binOp, Op.intArith], .int _ _⟩
  case quo =>
    by_cases hy : y = 0
    · simp [hy] at h
    · simp [hy] at h; subst h; exact ⟨.int k _, by simp [binOp, Op.intDiv, hy], .int _ _⟩
  case rem =>
    by_cases hy : y = 0
    · simp [hy] at h
    · simp [hy] at h; subst h; exact ⟨.int k _, by simp [binOp, Op.intDiv, hy], .int _ _⟩
  case and =>
    cases h
    have e : binOp .and t (.int k x) (.int k y) = Op.intBits .and k x y := by simp [binOp]
    exact ⟨_, by rw [e]; rfl, .int _ _⟩
  case or =>
    cases h
    have e : binOp .or t (.int k x) (.int k y) = Op.intBits .or k x y := by simp [binOp]
    exact ⟨_, by rw [e]; rfl, .int _ _⟩
  case xor =>
    cases h
    have e : binOp .xor t (.int k x) (.int k y) = Op.intBits .xor k x y := by simp [binOp]
    exact ⟨_, by rw [e]; rfl, .int _ _⟩
  case andNot =>
    cases h
    have e : binOp .andNot t (.int k x) (.int k y) = Op.intBits .andNot k x y := by simp [binOp]
    exact ⟨_, by rw [e]; rfl, .int _ _⟩
  case eql => cases h; exact ⟨.bool (x == y), by simp [binOp, Op.intCmp], hb _ _ (by by_cases e : x = y <;> simp [e])⟩
  case neq => cases h; exact ⟨.bool (x != y), by simp [binOp, Op.intCmp], hb _ _ (by by_cases e : x = y <;> simp [e])⟩
  case lss | leq | gtr | geq => cases h; exact ⟨.bool _, by simp only [binOp, ne_eq, not_true_eq_false, if_false, Op.intCmp, Sem.run_pure], hb _ _ rfl⟩
  all_goals cases h

theorem pBin_run {op : BinOp} {a b c : AV} {x y : Value} (t : TypeId) (ha : VRel G w a x) (hb : VRel G w b y) (h : pBin op a b = some c) :
    ∃ v, (binOp op t x y).run P w = .ok v w ∧ VRel G w c v := by
  unfold pBin at h
  split at h
  · rename_i k n k' m
    cases ha; cases hb
    by_cases hm : m < 0
    · simp [hm] at h
    · simp [hm] at h; subst h
      exact ⟨_, by simp [binOp, Op.shift, hm]; rfl, .int _ _⟩
  · rename_i k n k' m
    cases ha; cases hb
    by_cases hm : m < 0
    · simp [hm] at h
    · simp [hm] at h; subst h
      exact ⟨_, by simp [binOp, Op.shift, hm]; rfl, .int _ _⟩
  · rename_i op k n k' m h1 h2
    cases ha; cases hb
    by_cases hk : k = k'
    · simp only [hk, if_true] at h; subst hk; exact binInt_run t h
    · simp [hk] at h
  · cases h

theorem has_bin {op : BinOp} {t yt : TypeId} {x y : Operand} {X Y : Opd} {as : List AV} {a : AV} (H : OpdOk G w ev oev)
    (hX : compOpd x = some X) (hY : compOpd y = some Y) (has : [X, Y].mapM oev = some as) (hp : pv (.bin op) as = some a) :
    Has P G ev (.binOp op t x y yt) w a := by
  obtain ⟨p, q, h1, h2, rfl⟩ := mapM2 has
  have hx := H x X p hX h1
  have hy := H y Y q hY h2
  obtain ⟨v, hv, hr⟩ := pBin_run (P := P) t hx hy hp
  refine ⟨v, gives_of (fun _ _ _ _ _ => rfl) ?_, hr⟩
  have hg : (eqGuard op t x y (ev x) (ev y)).run P w = .ok () w := by
    have : ∃ k n k' m, ev x = .int k n ∧ ev y = .int k' m := by
      have hp' : pBin op p q = some a := hp
      unfold pBin at hp'
      split at hp'
      · exact ⟨_, _, _, _, hx.of_int, hy.of_int⟩
      · exact ⟨_, _, _, _, hx.of_int, hy.of_int⟩
      · exact ⟨_, _, _, _, hx.of_int, hy.of_int⟩
      · cases hp'
    obtain ⟨k, n, k', m, e1, e2⟩ := this
    unfold eqGuard
    rw [e1, e2]
    cases op <;> simp
  simp [hg, hv]
end
end Go.Am
