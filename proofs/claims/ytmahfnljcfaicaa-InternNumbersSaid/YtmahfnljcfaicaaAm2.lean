/- A part of the proof: a logic for calls over plain values, and a runner that is shown to be right. -/
import Derived.Test.YtmahfnljcfaicaaAm1
namespace Go.Am
set_option linter.unusedVariables false
set_option linter.unusedSimpArgs false

/-! ## Operands -/
inductive Opd where
  | t (n : Nat)
  | c (a : AV)

def AV.ofCell : Value → Option AV
  | .bool b => some (.bool b)
  | .int k n => some (.int k n)
  | .string s => some (.str s)
  | .float .f64 n => some (.flt n)
  | .pointer none => some .nil
  | .slice none 0 0 => some .nils
  | .map none => some .nilmap
  | .nilFunc => some .nilfn
  | .nilIface => some .nilIface
  | _ => none

def AV.ofValue : Value → Option AV
  | .agg cs => (cs.toList.mapM AV.ofCell).map .agg
  | v => AV.ofCell v

theorem ofCell_rel {G : Gh} {w : World} {v : Value} {a : AV} (h : AV.ofCell v = some a) : VRel G w a v ∧ a.flat = true := by
  unfold AV.ofCell at h
  split at h <;> first | (cases h; exact ⟨by constructor, rfl⟩) | cases h

theorem mapM_some_get {α β : Type} {f : α → Option β} : ∀ {l : List α} {r : List β}, l.mapM f = some r →
    l.length = r.length ∧ ∀ k (h : k < l.length) (h' : k < r.length), f l[k] = some r[k]
  | [], r, h => by simp at h; subst h; exact ⟨rfl, fun k h => by simp at h⟩
  | a :: l, r, h => by
    simp only [List.mapM_cons, Option.bind_eq_bind, Option.pure_def] at h
    cases ha : f a with
    | none => simp [ha] at h
    | some b =>
      cases hl : l.mapM f with
      | none => simp [ha, hl] at h
      | some bs =>
        simp [ha, hl] at h
        subst h
        obtain ⟨h1, h2⟩ := mapM_some_get hl
        refine ⟨by simp [h1], fun k hk hk' => ?_⟩
        cases k with
        | zero => exact ha
        | succ k => exact h2 k (by simpa using hk) (by simpa using hk')

theorem ofValue_rel {G : Gh} {w : World} {v : Value} {a : AV} (h : AV.ofValue v = some a) : VRel G w a v := by
  unfold AV.ofValue at h
  split at h
  · rename_i cs
    cases hm : cs.toList.mapM AV.ofCell with
    | none => simp [hm] at h
    | some l =>
      simp [hm] at h
      subst h
      obtain ⟨h1, h2⟩ := mapM_some_get hm
      have := VRel.agg (G := G) (w := w) (cells := l) (cs := cs.toList) (by simpa using h1.symm)
        (fun c hc => by
          obtain ⟨k, hk, rfl⟩ := List.getElem_of_mem hc
          exact (ofCell_rel (G := G) (w := w) (h2 k (by rw [h1]; exact hk) hk)).2)
        (fun k hk hk' => (ofCell_rel (h2 k hk' hk)).1)
      simpa using this
  · exact (ofCell_rel h).1

def compOpd : Operand → Option Opd
  | .tmp t => some (.t t)
  | .const v => (AV.ofValue v).map .c
  | .func f => some (.c (.fn f []))
  | .global _ => none

/-! ## Pure operations -/
inductive PK where
  | mov | nilchk
  | bin (op : BinOp)
  | eqb (neg : Bool) | eqnil (neg : Bool) (x : Bool) | eq2 (neg : Bool) (k1 k2 : IntKind)
  | not | neg | cpl
  | conv (k : IntKind)
  | fld (off : Nat)
  | fldv (off sz : Nat) (agg : Bool)
  | idx (esz : Nat)
  | idxa (len esz : Nat)
  | idxv (len esz : Nat) (agg : Bool)
  | idxs
  | cap
  | len
  | slice (esz : Nat) (lo hi : Bool)
  | build (zeros : List AV) (places : List (Nat × Nat))
  | ext (i : Nat)
  | mkfn (f : Nat)
  | mkif (t : Nat)
  | minmax (mx : Bool)

def bitInt (op : BinOp) (k : IntKind) (x y : Int) : Int :=
  let a := BitVec.ofInt k.bits x
  let b := BitVec.ofInt k.bits y
  match op with
  | .and => k.wrap (a &&& b).toNat
  | .or => k.wrap (a ||| b).toNat
  | .xor => k.wrap (a ^^^ b).toNat
  | _ => k.wrap (a &&& ~~~b).toNat

def shlInt (k : IntKind) (x y : Int) : Int := k.wrap (x * 2 ^ (min y.toNat k.bits))
def shrInt (k : IntKind) (x y : Int) : Int := x.fdiv (2 ^ (min y.toNat k.bits))

def binInt : BinOp → IntKind → Int → Int → Option AV
  | .add, k, x, y => some (.int k (k.wrap (x + y)))
  | .sub, k, x, y => some (.int k (k.wrap (x - y)))
  | .mul, k, x, y => some (.int k (k.wrap (x * y)))
  | .quo, k, x, y => if y = 0 then none else some (.int k (k.wrap (x.tdiv y)))
  | .rem, k, x, y => if y = 0 then none else some (.int k (x.tmod y))
  | .and, k, x, y => some (.int k (bitInt .and k x y))
  | .or, k, x, y => some (.int k (bitInt .or k x y))
  | .xor, k, x, y => some (.int k (bitInt .xor k x y))
  | .andNot, k, x, y => some (.int k (bitInt .andNot k x y))
  | .eql, _, x, y => some (.bool (decide (x = y)))
  | .neq, _, x, y => some (.bool (!decide (x = y)))
  | .lss, _, x, y => some (.bool (decide (x < y)))
  | .leq, _, x, y => some (.bool (decide (x ≤ y)))
  | .gtr, _, x, y => some (.bool (decide (y < x)))
  | .geq, _, x, y => some (.bool (decide (y ≤ x)))
  | _, _, _, _ => none

def pBin : BinOp → AV → AV → Option AV
  | .shl, .int k x, .int _ y => if y < 0 then none else some (.int k (shlInt k x y))
  | .shr, .int k x, .int _ y => if y < 0 then none else some (.int k (shrInt k x y))
  | op, .int k x, .int k' y => if k = k' then binInt op k x y else none
  | _, _, _ => none

def isNilS : AV → Option Bool
  | .nils => some true
  | .sl _ es => if es = [] then none else some false
  | .os .. => some false
  | _ => none

def isNilP : AV → Option Bool
  | .nil => some true
  | .ptr .. | .aptr .. | .ep _ => some false
  | _ => none

def pEq2 (neg : Bool) (k1 k2 : IntKind) : AV → AV → Option AV
  | .agg [.int a1 x1, .int a2 x2], .agg [.int b1 y1, .int b2 y2] =>
    if a1 = k1 ∧ b1 = k1 ∧ a2 = k2 ∧ b2 = k2 then some (.bool (if neg then !decide (x1 = y1 ∧ x2 = y2) else decide (x1 = y1 ∧ x2 = y2))) else none
  | _, _ => none

def pFld (off : Nat) : AV → Option AV
  | .ptr id o => some (.ptr id (o + off))
  | .aptr id esz i o => some (.aptr id esz i (o + off))
  | .ep cells => some (.ep (cells.drop off))
  | _ => none

def pPart (off sz : Nat) (agg : Bool) (cells : List AV) : Option AV :=
  if agg then (if off + sz ≤ cells.length then some (.agg ((cells.drop off).take sz)) else none) else cells[off]?

def pFldv (off sz : Nat) (agg : Bool) : AV → Option AV
  | .agg cells => pPart off sz agg cells
  | _ => none

def pIdx (esz : Nat) : AV → AV → Option AV
  | .sl esz' es, .int _ m => if esz' = esz ∧ 0 ≤ m then (es[m.toNat]?).map .ep else none
  | .os id esz' off len, .int _ m => if esz' = esz ∧ 0 ≤ m ∧ m < (len : Int) then some (.aptr id esz (off + m.toNat) 0) else none
  | _, _ => none

def pIdxa (len esz : Nat) : AV → AV → Option AV
  | .ptr id o, .int _ m => if 0 ≤ m ∧ m < (len : Int) then some (.ptr id (o + m.toNat * esz)) else none
  | .aptr id sz i o, .int _ m => if 0 ≤ m ∧ m < (len : Int) then some (.aptr id sz i (o + m.toNat * esz)) else none
  | .ep cells, .int _ m => if 0 ≤ m ∧ m < (len : Int) then some (.ep (cells.drop (m.toNat * esz))) else none
  | _, _ => none

def pIdxv (len esz : Nat) (agg : Bool) : AV → AV → Option AV
  | .agg cells, .int _ m => if 0 ≤ m ∧ m < (len : Int) then pPart (m.toNat * esz) esz agg cells else none
  | _, _ => none

def pIdxs : AV → AV → Option AV
  | .str s, .int _ m => if 0 ≤ m then (s[m.toNat]?).map fun b => .int .u8 b.toNat else none
  | _, _ => none

def pCap : AV → Option AV
  | .nils => some (.int .i64 0)
  | _ => none

def pLen : AV → Option AV
  | .sl _ es => some (.int .i64 es.length)
  | .os _ _ _ len => some (.int .i64 len)
  | .nils => some (.int .i64 0)
  | _ => none

def pSlice (esz : Nat) (x : AV) (l : Int) (h : Option Int) : Option AV :=
  match x with
  | .sl esz' es =>
    let h := h.getD es.length
    if esz' = esz ∧ 0 ≤ l ∧ l ≤ h ∧ h ≤ (es.length : Int) then some (.sl esz ((es.take h.toNat).drop l.toNat)) else none
  | .os id esz' off len =>
    let h := h.getD len
    if esz' = esz ∧ 0 ≤ l ∧ l ≤ h ∧ h ≤ (len : Int) then some (.os id esz (off + l.toNat) (h.toNat - l.toNat)) else none
  | .nils =>
    let h := h.getD 0
    if 0 ≤ l ∧ l ≤ h ∧ h ≤ 0 then some .nils else none
  | _ => none

/-- Lay cells over others, from a place on. -/
def splice : Nat → List AV → List AV → Option (List AV)
  | 0, [], cs => some cs
  | 0, v :: vs, _ :: cs => (splice 0 vs cs).map (v :: ·)
  | 0, _ :: _, [] => none
  | n + 1, vs, c :: cs => (splice n vs cs).map (c :: ·)
  | _ + 1, _, [] => none

def AV.isTup : AV → Bool
  | .tup _ => true
  | _ => false

def pBuild : List AV → List (Nat × Nat) → List AV → Option (List AV)
  | cells, [], [] => some cells
  | cells, (off, sz) :: ps, a :: as => if a.cells.length = sz ∧ a.isTup = false then (splice off a.cells cells).bind fun cs => pBuild cs ps as else none
  | _, _, _ => none

def pMin (mx : Bool) : AV → List AV → Option AV
  | a, [] => some a
  | .int k x, .int k' y :: r => if k = k' then pMin mx (.int k (if mx then (if y > x then y else x) else (if y < x then y else x))) r else none
  | _, _ => none

def pv : PK → List AV → Option AV
  | .mov, [a] => some a
  | .nilchk, [a] => match a with
    | .ptr .. | .aptr .. | .ep _ | .fn .. => some a
    | _ => none
  | .bin op, [a, b] => pBin op a b
  | .eqb neg, [.bool a, .bool b] => some (.bool (if neg then a != b else a == b))
  | .eqnil neg p, [a] => (if p then isNilP a else isNilS a).map fun b => .bool (if neg then !b else b)
  | .eq2 neg k1 k2, [a, b] => pEq2 neg k1 k2 a b
  | .not, [.bool b] => some (.bool !b)
  | .neg, [.int k n] => some (.int k (k.wrap (0 - n)))
  | .cpl, [.int k n] => some (.int k (bitInt .xor k (if k.signed then -1 else k.max) n))
  | .conv k, [.int _ n] => some (.int k (k.wrap n))
  | .fld off, [a] => pFld off a
  | .fldv off sz agg, [a] => pFldv off sz agg a
  | .idx esz, [x, i] => pIdx esz x i
  | .idxa len esz, [x, i] => pIdxa len esz x i
  | .idxv len esz agg, [x, i] => pIdxv len esz agg x i
  | .idxs, [x, i] => pIdxs x i
  | .cap, [x] => pCap x
  | .len, [x] => pLen x
  | .slice esz false false, [x] => pSlice esz x 0 none
  | .slice esz true false, [x, .int _ l] => pSlice esz x l none
  | .slice esz false true, [x, .int _ h] => pSlice esz x 0 (some h)
  | .slice esz true true, [x, .int _ l, .int _ h] => pSlice esz x l (some h)
  | .build zeros places, as => (pBuild zeros places as).map .agg
  | .ext i, [.tup vs] => vs[i]?
  | .mkfn f, caps => some (.fn f caps)
  | .mkif t, [a] => some (.iface t a)
  | .minmax mx, a :: r => pMin mx a r
  | _, _ => none

/-! ## Compiling them -/
def tsz (P : Program) (t : TypeId) : Option Nat := (P.info? t).map (·.size)
def tagg (P : Program) (t : TypeId) : Option Bool := (P.underlying t).map fun | .struct _ | .array _ _ => true | _ => false
def tzero (P : Program) (t : TypeId) : Option (List AV) := do
  let i ← P.info? t
  let v ← i.zero
  v.cells.toList.mapM AV.ofCell

def twoInts (P : Program) (t : TypeId) (fs : Array Field) : Option (IntKind × IntKind) := do
  let [f, g] := fs.toList | none
  let .int k1 ← P.underlying f.type | none
  let .int k2 ← P.underlying g.type | none
  if f.name ≠ "_" ∧ g.name ≠ "_" ∧ f.offset = 0 ∧ g.offset = 1 ∧ P.stoodInHeld t = false ∧ P.eqGuardType P.depth t = false then
    pure (k1, k2) else none

def compBin (P : Program) (op : BinOp) (t : TypeId) (x y : Operand) : Option (PK × List Opd) := do
  let d ← P.underlying t
  match op, d with
  | .eql, .bool => pure (.eqb false, [← compOpd x, ← compOpd y])
  | .neq, .bool => pure (.eqb true, [← compOpd x, ← compOpd y])
  | .eql, .slice _ => match y with | .const (.slice none 0 0) => pure (.eqnil false false, [← compOpd x]) | _ => none
  | .neq, .slice _ => match y with | .const (.slice none 0 0) => pure (.eqnil true false, [← compOpd x]) | _ => none
  | .eql, .pointer _ => match y with | .const (.pointer none) => pure (.eqnil false true, [← compOpd x]) | _ => none
  | .neq, .pointer _ => match y with | .const (.pointer none) => pure (.eqnil true true, [← compOpd x]) | _ => none
  | .eql, .struct fs => do
    let (k1, k2) ← twoInts P t fs
    pure (.eq2 false k1 k2, [← compOpd x, ← compOpd y])
  | .neq, .struct fs => do
    let (k1, k2) ← twoInts P t fs
    pure (.eq2 true k1 k2, [← compOpd x, ← compOpd y])
  | _, .int _ => pure (.bin op, [← compOpd x, ← compOpd y])
  | _, _ => none

def places (P : Program) (t : TypeId) : Option (List (Nat × Nat)) := do
  match ← P.underlying t with
  | .struct fs => fs.toList.mapM fun f => do pure (f.offset, ← tsz P f.type)
  | .array n e => do
    let s ← tsz P e
    pure ((List.range n).map fun i => (i * s, s))
  | _ => none

def compCallPure (P : Program) (c : Call) : Option (PK × List Opd) :=
  match c.callee with
  | .builtin .len => do
    let [x] := c.args.toList | none
    let [t] := c.argTypes.toList | none
    let .slice _ ← P.underlying t | none
    pure (.len, [← compOpd x])
  | .builtin .cap => do
    let [x] := c.args.toList | none
    let [t] := c.argTypes.toList | none
    let .slice _ ← P.underlying t | none
    pure (.cap, [← compOpd x])
  | .builtin .min => do pure (.minmax false, ← c.args.toList.mapM compOpd)
  | .builtin .max => do pure (.minmax true, ← c.args.toList.mapM compOpd)
  | _ => none

def compPure (P : Program) : Op → Option (PK × List Opd)
  | .move x | .assign x => do pure (.mov, [← compOpd x])
  | .nilCheck x => do pure (.nilchk, [← compOpd x])
  | .binOp op t x y _ => compBin P op t x y
  | .unOp .not _ x => do pure (.not, [← compOpd x])
  | .unOp .neg _ x => do pure (.neg, [← compOpd x])
  | .unOp .xor _ x => do pure (.cpl, [← compOpd x])
  | .convert src dst x => do
    let .int _ ← P.underlying src | none
    let .int k ← P.underlying dst | none
    pure (.conv k, [← compOpd x])
  | .fieldAddr s x f => do
    let .struct fs ← P.underlying s | none
    let fd ← fs[f]?
    let n ← tsz P fd.type
    if n = 0 then none else pure (.fld fd.offset, [← compOpd x])
  | .field t x f => do
    let .struct fs ← P.underlying t | none
    let fd ← fs[f]?
    pure (.fldv fd.offset (← tsz P fd.type) (← tagg P fd.type), [← compOpd x])
  | .indexAddr t x i => do
    match ← P.underlying t with
    | .slice e => pure (.idx (← tsz P e), [← compOpd x, ← compOpd i])
    | .array n e => pure (.idxa n (← tsz P e), [← compOpd x, ← compOpd i])
    | _ => none
  | .index t x i => do
    match ← P.underlying t with
    | .array n e => pure (.idxv n (← tsz P e) (← tagg P e), [← compOpd x, ← compOpd i])
    | .string => pure (.idxs, [← compOpd x, ← compOpd i])
    | _ => none
  | .slice t x lo hi none => do
    let .slice e ← P.underlying t | none
    let s ← tsz P e
    match lo, hi with
    | none, none => pure (.slice s false false, [← compOpd x])
    | some l, none => pure (.slice s true false, [← compOpd x, ← compOpd l])
    | none, some h => pure (.slice s false true, [← compOpd x, ← compOpd h])
    | some l, some h => pure (.slice s true true, [← compOpd x, ← compOpd l, ← compOpd h])
  | .build t parts => do
    let z ← tzero P t
    let pl ← places P t
    let ps ← parts.toList.mapM fun (i, _) => pl[i]?
    let xs ← parts.toList.mapM fun (_, x) => compOpd x
    pure (.build z ps, xs)
  | .extract x i => do pure (.ext i, [← compOpd x])
  | .makeFunc (.func f) first caps => do
    if first.size = 0 then pure (.mkfn f, ← caps.toList.mapM compOpd) else none
  | .makeInterface t x => do
    match ← P.underlying t with
    | .interface _ => none
    | _ => pure (.mkif t, [← compOpd x])
  | .call c => compCallPure P c
  | _ => none

end Go.Am
