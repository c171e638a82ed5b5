/- A part of the proof: a logic for calls over plain values, and the functions that the law reaches, each walked once. -/
import Derived.Test.YtjmkofmkkpenmaaPE7
set_option linter.unusedVariables false
set_option linter.unusedSimpArgs false
set_option linter.unusedSectionVars false

/- Ex1a -/
namespace Go.Am

/-! ## Fast forms, for the kernel: recursors with closed branches -/
noncomputable section

def one1 (f : AV → Option AV) : List AV → Option AV
  | [a] => f a
  | _ => none
def two2 (f : AV → AV → Option AV) : List AV → Option AV
  | [a, b] => f a b
  | _ => none

def AV.onI (a : AV) (f : IntKind → Int → Option AV) : Option AV :=
  @AV.rec (fun _ => Option AV) (fun _ => Unit) (fun _ => Unit) (fun _ => none) f (fun _ => none) (fun _ => none) none (fun _ _ => none) (fun _ _ _ _ => none) (fun _ _ => none) none (fun _ _ _ => none)
    (fun _ _ _ _ => none) (fun _ => none) none (fun _ _ _ => none) none (fun _ _ => none) (fun _ _ => none) (fun _ _ _ => none) none () (fun _ _ _ _ => ()) () (fun _ _ _ _ => ()) a
def AV.onB (a : AV) (f : Bool → Option AV) : Option AV :=
  @AV.rec (fun _ => Option AV) (fun _ => Unit) (fun _ => Unit) f (fun _ _ => none) (fun _ => none) (fun _ => none) none (fun _ _ => none) (fun _ _ _ _ => none) (fun _ _ => none) none (fun _ _ _ => none)
    (fun _ _ _ _ => none) (fun _ => none) none (fun _ _ _ => none) none (fun _ _ => none) (fun _ _ => none) (fun _ _ _ => none) none () (fun _ _ _ _ => ()) () (fun _ _ _ _ => ()) a
def AV.onTup (a : AV) (f : List AV → Option AV) : Option AV :=
  @AV.rec (fun _ => Option AV) (fun _ => Unit) (fun _ => Unit) (fun _ => none) (fun _ _ => none) (fun _ => none) (fun _ => none) none (fun _ _ => none) (fun _ _ _ _ => none) (fun _ _ => none) none (fun _ _ _ => none)
    (fun _ _ _ _ => none) (fun _ => none) none (fun _ _ _ => none) none (fun _ _ => none) (fun l _ => f l) (fun _ _ _ => none) none () (fun _ _ _ _ => ()) () (fun _ _ _ _ => ()) a
def AV.nilchkF (a : AV) : Option AV :=
  @AV.rec (fun _ => Option AV) (fun _ => Unit) (fun _ => Unit) (fun _ => none) (fun _ _ => none) (fun _ => none) (fun _ => none) none (fun i o => some (.ptr i o)) (fun i e j o => some (.aptr i e j o)) (fun c _ => some (.ep c)) none (fun _ _ _ => none)
    (fun _ _ _ _ => none) (fun _ => none) none (fun f c _ => some (.fn f c)) none (fun _ _ => none) (fun _ _ => none) (fun _ _ _ => none) none () (fun _ _ _ _ => ()) () (fun _ _ _ _ => ()) a
def AV.fldF (a : AV) (off : Nat) : Option AV :=
  @AV.rec (fun _ => Nat → Option AV) (fun _ => Unit) (fun _ => Unit) (fun _ _ => none) (fun _ _ _ => none) (fun _ _ => none) (fun _ _ => none) (fun _ => none) (fun i o off => some (.ptr i (Nat.add o off))) (fun i e j o off => some (.aptr i e j (Nat.add o off))) (fun c _ off => some (.ep (c.drop off))) (fun _ => none) (fun _ _ _ _ => none)
    (fun _ _ _ _ _ => none) (fun _ _ => none) (fun _ => none) (fun _ _ _ _ => none) (fun _ => none) (fun _ _ _ => none) (fun _ _ _ => none) (fun _ _ _ _ => none) (fun _ => none) () (fun _ _ _ _ => ()) () (fun _ _ _ _ => ()) a off
def AV.lenF (a : AV) : Option AV :=
  @AV.rec (fun _ => Option AV) (fun _ => Unit) (fun _ => Unit) (fun _ => none) (fun _ _ => none) (fun _ => none) (fun _ => none) none (fun _ _ => none) (fun _ _ _ _ => none) (fun _ _ => none) (some (.int .i64 0)) (fun _ es _ => some (.int .i64 (.ofNat es.length)))
    (fun _ _ _ n => some (.int .i64 (.ofNat n))) (fun _ => none) none (fun _ _ _ => none) none (fun _ _ => none) (fun _ _ => none) (fun _ _ _ => none) none () (fun _ _ _ _ => ()) () (fun _ _ _ _ => ()) a

/-- The number of a kind. -/
def IntKind.no (k : IntKind) : Nat := @IntKind.rec (fun _ => Nat) 0 1 2 3 4 5 6 7 k
def IntKind.eqF (j k : IntKind) : Bool := Nat.beq (IntKind.no j) (IntKind.no k)
def IntKind.top (k : IntKind) : Nat := @IntKind.rec (fun _ => Nat) 128 32768 2147483648 9223372036854775808 256 65536 4294967296 18446744073709551616 k

def wrapF (k : IntKind) (n : Int) : Int :=
  @Int.rec (fun _ => Int) (fun a => bif Nat.blt a (IntKind.top k) then .ofNat a else k.wrap (.ofNat a)) (fun a => k.wrap (.negSucc a)) n

def addF (x y : Int) : Int := @Int.rec (fun _ => Int) (fun a => @Int.rec (fun _ => Int) (fun b => .ofNat (Nat.add a b)) (fun b => Int.add (.ofNat a) (.negSucc b)) y) (fun a => Int.add (.negSucc a) y) x
def ltF (x y : Int) : Bool := @Int.rec (fun _ => Bool) (fun a => @Int.rec (fun _ => Bool) (fun b => Nat.blt a b) (fun _ => false) y) (fun a => @Int.rec (fun _ => Bool) (fun _ => true) (fun b => Nat.blt b a) y) x
def eqF (x y : Int) : Bool := @Int.rec (fun _ => Bool) (fun a => @Int.rec (fun _ => Bool) (fun b => Nat.beq a b) (fun _ => false) y) (fun a => @Int.rec (fun _ => Bool) (fun _ => false) (fun b => Nat.beq a b) y) x

def binIntF (op : BinOp) (k : IntKind) (x y : Int) : Option AV :=
  @BinOp.rec (fun _ => IntKind → Int → Int → Option AV)
    (fun k x y => some (.int k (wrapF k (addF x y))))
    (fun k x y => some (.int k (wrapF k (x - y))))
    (fun k x y => some (.int k (wrapF k (x * y))))
    (binInt .quo) (binInt .rem) (binInt .and) (binInt .or) (binInt .xor) (binInt .shl) (binInt .shr) (binInt .andNot)
    (fun _ x y => some (.bool (eqF x y)))
    (fun _ x y => some (.bool (Bool.not (eqF x y))))
    (fun _ x y => some (.bool (ltF x y)))
    (fun _ x y => some (.bool (Bool.not (ltF y x))))
    (fun _ x y => some (.bool (ltF y x)))
    (fun _ x y => some (.bool (Bool.not (ltF x y))))
    op k x y

def shF (left : Bool) (k : IntKind) (x y : Int) : Option AV :=
  if y < 0 then none else some (.int k (bif left then shlInt k x y else shrInt k x y))

def pBinF (op : BinOp) (a b : AV) : Option AV :=
  a.onI fun k x => b.onI fun k' y =>
    @BinOp.rec (fun _ => IntKind → Int → IntKind → Int → Option AV)
      (fun k x k' y => bif IntKind.eqF k k' then binIntF .add k x y else none)
      (fun k x k' y => bif IntKind.eqF k k' then binIntF .sub k x y else none)
      (fun k x k' y => bif IntKind.eqF k k' then binIntF .mul k x y else none)
      (fun k x k' y => bif IntKind.eqF k k' then binIntF .quo k x y else none)
      (fun k x k' y => bif IntKind.eqF k k' then binIntF .rem k x y else none)
      (fun k x k' y => bif IntKind.eqF k k' then binIntF .and k x y else none)
      (fun k x k' y => bif IntKind.eqF k k' then binIntF .or k x y else none)
      (fun k x k' y => bif IntKind.eqF k k' then binIntF .xor k x y else none)
      (fun k x _ y => shF true k x y)
      (fun k x _ y => shF false k x y)
      (fun k x k' y => bif IntKind.eqF k k' then binIntF .andNot k x y else none)
      (fun k x k' y => bif IntKind.eqF k k' then binIntF .eql k x y else none)
      (fun k x k' y => bif IntKind.eqF k k' then binIntF .neq k x y else none)
      (fun k x k' y => bif IntKind.eqF k k' then binIntF .lss k x y else none)
      (fun k x k' y => bif IntKind.eqF k k' then binIntF .leq k x y else none)
      (fun k x k' y => bif IntKind.eqF k k' then binIntF .gtr k x y else none)
      (fun k x k' y => bif IntKind.eqF k k' then binIntF .geq k x y else none)
      op k x k' y

def eqbF (neg : Bool) (a b : AV) : Option AV := a.onB fun x => b.onB fun y => some (.bool (if neg then x != y else x == y))
def eqnilF (neg p : Bool) (a : AV) : Option AV := (if p then isNilP a else isNilS a).map fun b => .bool (if neg then !b else b)
def notF (a : AV) : Option AV := a.onB fun b => some (.bool !b)
def negF (a : AV) : Option AV := a.onI fun k n => some (.int k (k.wrap (0 - n)))
def cplF (a : AV) : Option AV := a.onI fun k n => some (.int k (bitInt .xor k (if k.signed then -1 else k.max) n))
def convF (k : IntKind) (a : AV) : Option AV := a.onI fun _ n => some (.int k (wrapF k n))
def extF (i : Nat) (a : AV) : Option AV := a.onTup fun l => l[i]?
def movF (a : AV) : Option AV := some a
def mkifF (t : Nat) (a : AV) : Option AV := some (.iface t a)

def pvF (k : PK) : List AV → Option AV :=
  @PK.rec (fun _ => List AV → Option AV)
    (one1 movF) (one1 AV.nilchkF) (fun op => two2 (pBinF op)) (fun neg => two2 (eqbF neg)) (fun neg p => one1 (eqnilF neg p)) (fun neg k1 k2 => two2 (pEq2 neg k1 k2))
    (one1 notF) (one1 negF) (one1 cplF) (fun k => one1 (convF k)) (fun off => one1 (fun a => a.fldF off)) (fun off sz agg => one1 (pFldv off sz agg)) (fun esz => two2 (pIdx esz)) (fun len esz => two2 (pIdxa len esz))
    (fun len esz agg => two2 (pIdxv len esz agg)) (two2 pIdxs) (one1 pCap) (fun neg => two2 (pEqs neg)) (one1 AV.lenF) (fun esz lo hi => pv (.slice esz lo hi)) (fun z p => pv (.build z p)) (fun i => one1 (extF i)) (fun f caps => some (.fn f caps)) (fun t => one1 (mkifF t)) (fun mx => pv (.minmax mx)) k

theorem kind_eqF (j k : IntKind) : IntKind.eqF j k = decide (j = k) := by cases j <;> cases k <;> rfl

theorem wrapF_eq (k : IntKind) (n : Int) : wrapF k n = k.wrap n := by
  cases n with
  | negSucc a => rfl
  | ofNat a =>
    show (bif Nat.blt a (IntKind.top k) then Int.ofNat a else k.wrap (.ofNat a)) = _
    cases hb : Nat.blt a (IntKind.top k) with
    | false => rfl
    | true =>
      have h : a < IntKind.top k := by simpa using hb
      simp only [cond_true]
      have e : (Int.ofNat a) = (a : Int) := rfl
      rw [e]
      cases k <;> simp only [IntKind.top] at h <;> simp [IntKind.wrap, IntKind.signed, IntKind.bits] <;> omega

theorem addF_eq (x y : Int) : addF x y = x + y := by cases x <;> cases y <;> rfl
theorem ltF_eq (x y : Int) : ltF x y = decide (x < y) := by
  cases x with
  | ofNat a => cases y with
    | ofNat b =>
      show Nat.blt a b = _
      by_cases h : a < b
      · have h1 : Nat.blt a b = true := by simpa using h
        rw [h1]; simp; exact h
      · have h1 : Nat.blt a b = false := by rw [Bool.eq_false_iff]; intro h'; exact h (by simpa using h')
        rw [h1]; simp; omega
    | negSucc b => show false = _; simp; omega
  | negSucc a => cases y with
    | ofNat b => show true = _; simp; omega
    | negSucc b =>
      show Nat.blt b a = _
      by_cases h : b < a
      · have h1 : Nat.blt b a = true := by simpa using h
        rw [h1]; simp; omega
      · have h1 : Nat.blt b a = false := by rw [Bool.eq_false_iff]; intro h'; exact h (by simpa using h')
        rw [h1]; simp; omega
theorem beqN (a b : Nat) : Nat.beq a b = decide (a = b) := by
  by_cases h : a = b
  · subst h; simp
  · rw [decide_eq_false h, Bool.eq_false_iff]; intro h'; exact h (Nat.eq_of_beq_eq_true h')
theorem eqF_eq (x y : Int) : eqF x y = decide (x = y) := by
  cases x <;> cases y
  · show Nat.beq _ _ = _; rw [beqN]; simp; omega
  · show false = _; simp
  · show false = _; simp
  · show Nat.beq _ _ = _; rw [beqN]; simp

theorem binIntF_eq (op : BinOp) (k : IntKind) (x y : Int) : binIntF op k x y = binInt op k x y := by
  cases op <;> simp only [binIntF, binInt, wrapF_eq, addF_eq, eqF_eq, ltF_eq]
  · by_cases h : x ≤ y <;> simp [h] <;> omega
  · by_cases h : y ≤ x <;> simp [h] <;> omega

theorem onI_eq (a : AV) (f : IntKind → Int → Option AV) : a.onI f = match a with | .int k n => f k n | _ => none := by cases a <;> rfl
theorem onB_eq (a : AV) (f : Bool → Option AV) : a.onB f = match a with | .bool b => f b | _ => none := by cases a <;> rfl

theorem pBinF_eq (op : BinOp) (a b : AV) : pBinF op a b = pBin op a b := by
  cases a <;> cases b <;> simp only [pBinF, onI_eq]
  case int.int k x k' y =>
    cases op <;> simp only [kind_eqF, binIntF_eq, pBin, shF, cond_eq_ite, decide_eq_true_eq] <;> simp
  all_goals (cases op <;> simp [pBin])

theorem pvF_eq (k : PK) (as : List AV) : pvF k as = pv k as := by
  cases k with
  | slice | build | minmax => rfl
  | mkfn f => simp [pvF, pv]
  | bin op =>
    rcases as with _ | ⟨a, _ | ⟨b, _ | ⟨c, r⟩⟩⟩ <;> simp only [pvF, two2, pv, pBinF_eq]
  | eqb neg =>
    rcases as with _ | ⟨a, _ | ⟨b, _ | ⟨c, r⟩⟩⟩ <;> try (simp [pvF, two2, pv]; done)
    cases a <;> cases b <;> simp [pvF, two2, pv, eqbF, onB_eq]
  | eq2 => rcases as with _ | ⟨a, _ | ⟨b, _ | ⟨c, r⟩⟩⟩ <;> simp [pvF, two2, pv]
  | idx => rcases as with _ | ⟨a, _ | ⟨b, _ | ⟨c, r⟩⟩⟩ <;> simp [pvF, two2, pv]
  | idxa => rcases as with _ | ⟨a, _ | ⟨b, _ | ⟨c, r⟩⟩⟩ <;> simp [pvF, two2, pv]
  | idxv => rcases as with _ | ⟨a, _ | ⟨b, _ | ⟨c, r⟩⟩⟩ <;> simp [pvF, two2, pv]
  | eqs => rcases as with _ | ⟨a, _ | ⟨b, _ | ⟨c, r⟩⟩⟩ <;> simp [pvF, two2, pv]
  | idxs => rcases as with _ | ⟨a, _ | ⟨b, _ | ⟨c, r⟩⟩⟩ <;> simp [pvF, two2, pv]
  | mov => rcases as with _ | ⟨a, _ | ⟨b, r⟩⟩ <;> simp [pvF, one1, pv, movF]
  | nilchk => rcases as with _ | ⟨a, _ | ⟨b, r⟩⟩ <;> try (simp [pvF, one1, pv]; done)
              cases a <;> rfl
  | eqnil => rcases as with _ | ⟨a, _ | ⟨b, r⟩⟩ <;> simp [pvF, one1, pv, eqnilF]
  | not => rcases as with _ | ⟨a, _ | ⟨b, r⟩⟩ <;> try (simp [pvF, one1, pv]; done)
           cases a <;> rfl
  | neg => rcases as with _ | ⟨a, _ | ⟨b, r⟩⟩ <;> try (simp [pvF, one1, pv]; done)
           cases a <;> rfl
  | cpl => rcases as with _ | ⟨a, _ | ⟨b, r⟩⟩ <;> try (simp [pvF, one1, pv]; done)
           cases a <;> rfl
  | conv k => rcases as with _ | ⟨a, _ | ⟨b, r⟩⟩ <;> try (simp [pvF, one1, pv]; done)
              cases a <;> simp [pvF, one1, pv, convF, onI_eq, wrapF_eq]
  | fld off => rcases as with _ | ⟨a, _ | ⟨b, r⟩⟩ <;> try (simp [pvF, one1, pv]; done)
               cases a <;> rfl
  | fldv => rcases as with _ | ⟨a, _ | ⟨b, r⟩⟩ <;> simp [pvF, one1, pv]
  | cap => rcases as with _ | ⟨a, _ | ⟨b, r⟩⟩ <;> simp [pvF, one1, pv]
  | len => rcases as with _ | ⟨a, _ | ⟨b, r⟩⟩ <;> try (simp [pvF, one1, pv]; done)
           cases a <;> rfl
  | ext i => rcases as with _ | ⟨a, _ | ⟨b, r⟩⟩ <;> try (simp [pvF, one1, pv]; done)
             cases a <;> rfl
  | mkif t => rcases as with _ | ⟨a, _ | ⟨b, r⟩⟩ <;> simp [pvF, one1, pv, mkifF]

end
end Go.Am
