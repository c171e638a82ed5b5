/- A part of the proof: a logic for calls over plain values, and the functions that the law reaches, each walked once. -/
import Derived.Test.YtjmkofmkkpenmaaPE15
set_option linter.unusedVariables false
set_option linter.unusedSimpArgs false
set_option linter.unusedSectionVars false

/- Ex1F -/
namespace Go.Am
noncomputable section

/-- No ids in it; the plain ones at once. -/
def AV.und0 (a : AV) : Bool :=
  @AV.rec (fun _ => Bool) (fun _ => Unit) (fun _ => Unit) (fun _ => true) (fun _ _ => true) (fun _ => true) (fun _ => true) true (fun _ _ => false) (fun _ _ _ _ => false) (fun c _ => AV.undL noId c) true (fun _ es _ => AV.undLL noId es)
    (fun _ _ _ _ => false) (fun _ => false) true (fun _ c _ => AV.undL noId c) true (fun c _ => AV.undL noId c) (fun c _ => AV.undL noId c) (fun _ v _ => AV.und noId v) true () (fun _ _ _ _ => ()) () (fun _ _ _ _ => ()) a
theorem und0_eq (a : AV) : a.und0 = AV.und noId a := by cases a <;> simp only [AV.und] <;> rfl

def okPKF (k : PK) : Bool :=
  @PK.rec (fun _ => Bool) true true (fun _ => true) (fun _ => true) (fun _ _ => true) (fun _ _ _ => true) true true true (fun _ => true) (fun _ => true) (fun _ _ _ => true) (fun _ => true) (fun _ _ => true)
    (fun _ _ _ => true) true true (fun _ => true) true (fun _ _ _ => true) (fun z _ => AV.undL noId z) (fun _ => true) (fun _ => true) (fun _ => true) (fun _ => true) k
def okLKF (k : LK) : Bool := @LK.rec (fun _ => Bool) (fun _ _ => true) (fun _ _ z => AV.und0 z) true true k
def okAKF (k : AK) : Bool := @AK.rec (fun _ => Bool) (fun z => AV.undL noId z) true (fun _ _ => true) true (fun _ z _ => AV.undL noId z) k

def getF (t : Nat) (e : Env) : Option AV :=
  @List.rec (Nat × AV) (fun _ => Option AV) none (fun p _ ih => @Prod.rec Nat AV (fun _ => Option AV) (fun k a => @Bool.rec (fun _ => Option AV) ih (some a) (Nat.beq t k)) p) e

def keepF (e : Env) (live : List Nat) (k : Env → Ou) : Ou :=
  @List.rec Nat (fun _ => (Env → Ou) → Ou) (fun k => k []) (fun t _ ih k => @Option.rec AV (fun _ => Ou) (ih k) (fun a => ih (fun r => k ((t, a) :: r))) (getF t e)) live k

def xevC (a : AV) : Option AV := @Bool.rec (fun _ => Option AV) none (some a) (AV.und0 a)
def xevF (e : Env) (x : Opd) : Option AV := @Opd.rec (fun _ => Env → Option AV) (fun n e => getF n e) (fun a _ => xevC a) x e

def xevsF (e : Env) (xs : List Opd) : Option (List AV) :=
  @List.rec Opd (fun _ => Option (List AV)) (some []) (fun x _ ih => @Option.rec AV (fun _ => Option (List AV)) none (fun a => @Option.rec (List AV) (fun _ => Option (List AV)) none (fun as => some (a :: as)) ih) (xevF e x)) xs

theorem getF_eq (t : Nat) : ∀ e : Env, getF t e = e.get t
  | [] => rfl
  | (k, a) :: r => by
    show @Bool.rec (fun _ => Option AV) (getF t r) (some a) (Nat.beq t k) = _
    rw [getF_eq t r, beqN]
    simp only [Env.get]
    by_cases h : t = k <;> simp [h]

theorem keepF_eq (e : Env) : ∀ (live : List Nat) (k : Env → Ou), keepF e live k = k (e.keep live)
  | [], k => rfl
  | t :: r, k => by
    show @Option.rec AV (fun _ => Ou) (keepF e r k) (fun a => keepF e r (fun q => k ((t, a) :: q))) (getF t e) = _
    rw [getF_eq]
    simp only [Env.keep]
    cases e.get t with
    | none => exact keepF_eq e r k
    | some a => exact keepF_eq e r _

def boxOf (o : Obj) : Option (List AV) := @Obj.rec (fun _ => Option (List AV)) (fun c => some c) (fun _ _ => none) (fun _ => none) o
def arrOf (o : Obj) : Option (Nat × List (List AV)) := @Obj.rec (fun _ => Option (Nat × List (List AV))) (fun _ => none) (fun e es => some (e, es)) (fun _ => none) o
def CS.getO (s : CS) (i : Nat) : Option Obj := @Option.rec (Option Obj) (fun _ => Option Obj) none (fun o => o) (s.t.get i)

def rdBox (sz : Nat) (o : Obj) (off : Nat) : Option (List AV) := (boxOf o).bind (takeN off sz)
def rdArr (sz : Nat) (o : Obj) (esz i off : Nat) : Option (List AV) := (arrOf o).bind fun p => bif Nat.beq p.1 esz then (p.2[i]?).bind (takeN off sz) else none

/-- A load of so many cells; the place is told first. -/
def rdF (s : CS) (sz : Nat) (a : AV) : Option (List AV) :=
  @AV.rec (fun _ => CS → Nat → Option (List AV)) (fun _ => Unit) (fun _ => Unit) (fun _ _ _ => none) (fun _ _ _ _ => none) (fun _ _ _ => none) (fun _ _ _ => none) (fun _ _ => none)
    (fun i o s sz => (s.getO i).bind fun ob => rdBox sz ob o) (fun i e j o s sz => (s.getO i).bind fun ob => rdArr sz ob e j o) (fun c _ _ sz => takeN 0 sz c) (fun _ _ => none) (fun _ _ _ _ _ => none)
    (fun _ _ _ _ _ _ => none) (fun _ _ _ => none) (fun _ _ => none) (fun _ _ _ _ _ => none) (fun _ _ => none) (fun _ _ _ _ => none) (fun _ _ _ _ => none) (fun _ _ _ _ _ => none) (fun _ _ => none) () (fun _ _ _ _ => ()) () (fun _ _ _ _ => ()) a s sz

def ld1 (o : Option (List AV)) : Option AV := match o with
  | some [c] => some c
  | _ => none

def ldF (sz : Nat) (agg : Bool) (as : List AV) (s : CS) : Option AV :=
  match as with
  | [p] => @Bool.rec (fun _ => Option AV) (ld1 (rdF s 1 p)) ((rdF s sz p).map .agg) agg
  | _ => none

def ldvF (k : LK) (as : List AV) (s : CS) : Option AV :=
  @LK.rec (fun _ => List AV → CS → Option AV) ldF (fun ok mk z as s => ldv (.look ok mk z) as s.st) (fun as s => ldv .mlen as s.st) (fun as s => ldv .str as s.st) k as s

theorem getO_eq (s : CS) (i : Nat) : s.getO i = s.st i := by
  unfold CS.getO CS.st
  cases s.t.get i <;> rfl

theorem rdF_eq (s : CS) (sz : Nat) (a : AV) : rdF s sz a = rd s.st sz a := by
  cases a <;> try rfl
  · show ((s.getO _).bind _) = _
    rw [getO_eq]
    simp only [rd]
    cases s.st _ with
    | none => rfl
    | some o => cases o <;> rfl
  · show ((s.getO _).bind _) = _
    rw [getO_eq]
    simp only [rd]
    cases s.st _ with
    | none => rfl
    | some o => cases o with
      | arr e es => simp only [Option.bind_some, rdArr, arrOf, beqN, cond_eq_ite, decide_eq_true_eq]
      | _ => rfl

theorem ldvF_eq (k : LK) (as : List AV) (s : CS) : ldvF k as s = ldv k as s.st := by
  cases k with
  | ld sz agg =>
    show ldF sz agg as s = _
    unfold ldF
    rcases as with _ | ⟨p, _ | ⟨q, r⟩⟩
    · cases agg <;> rfl
    · cases agg
      · simp only [rdF_eq, ldv]
        cases rd s.st 1 p with
        | none => rfl
        | some l => rcases l with _ | ⟨x, _ | ⟨y, z⟩⟩ <;> rfl
      · simp only [rdF_eq, ldv]
    · cases agg <;> rfl
  | look ok mk z => rfl
  | mlen => rfl
  | str => rfl

abbrev Ca := Nat → List AV → CS → Rt

def wrBox (s : CS) (new : List AV) (id off : Nat) : Option CS :=
  (s.getO id).bind fun o => (boxOf o).bind fun cells => (splice off new cells).bind fun cs => s.put id (some (.box cs))
def wrArr (s : CS) (new : List AV) (id esz i off : Nat) : Option CS :=
  (s.getO id).bind fun o => (arrOf o).bind fun p => bif Nat.beq p.1 esz then (p.2[i]?).bind fun c => (splice off new c).bind fun cs => s.put id (some (.arr esz (p.2.set i cs))) else none

def wrF (s : CS) (new : List AV) (a : AV) : Option CS :=
  @AV.rec (fun _ => CS → List AV → Option CS) (fun _ => Unit) (fun _ => Unit) (fun _ _ _ => none) (fun _ _ _ _ => none) (fun _ _ _ => none) (fun _ _ _ => none) (fun _ _ => none)
    (fun i o s new => wrBox s new i o) (fun i e j o s new => wrArr s new i e j o) (fun _ _ _ _ => none) (fun _ _ => none) (fun _ _ _ _ _ => none)
    (fun _ _ _ _ _ _ => none) (fun _ _ _ => none) (fun _ _ => none) (fun _ _ _ _ _ => none) (fun _ _ => none) (fun _ _ _ _ => none) (fun _ _ _ _ => none) (fun _ _ _ _ _ => none) (fun _ _ => none) () (fun _ _ _ _ => ()) () (fun _ _ _ _ => ()) a s new

theorem wrF_eq (s : CS) (new : List AV) (a : AV) : wrF s new a = wrT s new a := by
  cases a with
  | ptr id off =>
    show wrBox s new id off = _
    unfold wrBox wrT CS.getO
    dsimp only
    generalize s.t.get id = g
    cases g with
    | none => rfl
    | some o => cases o with
      | none => rfl
      | some o => cases o with
        | box c =>
          simp only [Option.bind_some, boxOf]
          cases splice off new c <;> rfl
        | _ => rfl
  | aptr id esz i off =>
    show wrArr s new id esz i off = _
    unfold wrArr wrT CS.getO
    dsimp only
    generalize s.t.get id = g
    cases g with
    | none => rfl
    | some o => cases o with
      | none => rfl
      | some o => cases o with
        | arr e es =>
          simp only [Option.bind_some, arrOf]
          cases Nat.beq e esz with
          | false => rfl
          | true =>
            simp only [cond_true]
            cases es[i]? with
            | none => rfl
            | some c => simp only [Option.bind_some]; cases splice off new c <;> rfl
        | _ => rfl
  | _ => rfl

def AV.cellsF (a : AV) : List AV :=
  @AV.rec (fun _ => List AV) (fun _ => Unit) (fun _ => Unit) (fun b => [.bool b]) (fun k n => [.int k n]) (fun s => [.str s]) (fun n => [.flt n]) [.nil] (fun i o => [.ptr i o]) (fun i e j o => [.aptr i e j o]) (fun c _ => [.ep c]) [.nils] (fun e es _ => [.sl e es])
    (fun i e j o => [.os i e j o]) (fun i => [.mp i]) [.nilmap] (fun f c _ => [.fn f c]) [.nilfn] (fun c _ => c) (fun c _ => [.tup c]) (fun t v _ => [.iface t v]) [.nilIface] () (fun _ _ _ _ => ()) () (fun _ _ _ _ => ()) a
def AV.isTupF (a : AV) : Bool :=
  @AV.rec (fun _ => Bool) (fun _ => Unit) (fun _ => Unit) (fun _ => false) (fun _ _ => false) (fun _ => false) (fun _ => false) false (fun _ _ => false) (fun _ _ _ _ => false) (fun _ _ => false) false (fun _ _ _ => false)
    (fun _ _ _ _ => false) (fun _ => false) false (fun _ _ _ => false) false (fun _ _ => false) (fun _ _ => true) (fun _ _ _ => false) false () (fun _ _ _ _ => ()) () (fun _ _ _ _ => ()) a
theorem cellsF_eq (a : AV) : a.cellsF = a.cells := by cases a <;> rfl
theorem isTupF_eq (a : AV) : a.isTupF = a.isTup := by cases a <;> rfl

def loSt (sz : Nat) (_ : Ca) (_ : Option Nat) (as : List AV) (s : CS) : Rt := match as with
  | [p, a] => bif !a.isTupF && Nat.beq a.cellsF.length sz then match wrF s a.cellsF p with
      | some s' => .ok (.tup []) s'
      | none => .bad [141]
    else .bad [142]
  | _ => .bad [143]
def loApp (esz bytes : Nat) (_ : Ca) (d : Option Nat) (as : List AV) (s : CS) : Rt := match as with
  | [x, y] => appT d esz bytes x y s
  | _ => .bad [143]
def loAppz (esz bytes : Nat) (z : List AV) (_ : Ca) (d : Option Nat) (as : List AV) (s : CS) : Rt := match as with
  | [x, y] => appzT d esz bytes z x y s
  | _ => .bad [143]
def loCall (f : Nat) (call : Ca) (_ : Option Nat) (as : List AV) (s : CS) : Rt := call f as s
def loCallv (call : Ca) (_ : Option Nat) (as : List AV) (s : CS) : Rt := match as with
  | .fn f caps :: args => call f (args ++ caps) s
  | _ => .bad [143]
def loMupd (mk : MKey) (_ : Ca) (_ : Option Nat) (as : List AV) (s : CS) : Rt := match as with
  | [m, k, v] => mupdT mk m k v s
  | _ => .bad [143]
def loMdel (mk : MKey) (_ : Ca) (_ : Option Nat) (as : List AV) (s : CS) : Rt := match as with
  | [m, k] => mdelT mk m k s
  | _ => .bad [143]
def loNilq (neg : Bool) (_ : Ca) (_ : Option Nat) (as : List AV) (s : CS) : Rt := match as with
  | [a] => nilqT neg a s
  | _ => .bad [143]

def loClr (esz : Nat) (z : List AV) (_ : Ca) (_ : Option Nat) (as : List AV) (s : CS) : Rt := match as with
  | [a] => clrT esz z a s
  | _ => .bad [143]

def loudF (call : Ca) (d : Option Nat) (lo : LO) (as : List AV) (s : CS) : Rt :=
  @LO.rec (fun _ => Ca → Option Nat → List AV → CS → Rt) loSt loApp loAppz loCall loCallv loMupd loMdel loNilq loClr lo call d as s

def xPure (pk : PK) (_ : Ca) (d : Option Nat) (xs : List Opd) (e : Env) (s : CS) : Ou :=
  match xevsF e xs with
  | none => .bad [6]
  | some as => bif okPKF pk then match pvF pk as with
      | some a => .n (Env.putO d a e) s
      | none => .bad [7]
    else .bad [8]

def xPick (_ : Ca) (d : Option Nat) (xs : List Opd) (e : Env) (s : CS) : Ou :=
  match xs with
  | [c, x, y] => match xevF e c with
    | some (.bool true) => match xevF e x with
      | some a => .n (Env.putO d a e) s
      | none => .bad [1]
    | some (.bool false) => match xevF e y with
      | some a => .n (Env.putO d a e) s
      | none => .bad [2]
    | _ => .bad [3]
  | _ => .bad [4]

def xLoad (lk : LK) (_ : Ca) (d : Option Nat) (xs : List Opd) (e : Env) (s : CS) : Ou :=
  match xevsF e xs with
  | none => .bad [6]
  | some as => bif okLKF lk then match ldvF lk as s with
      | some a => .n (Env.putO d a e) s
      | none => .bad [9]
    else .bad [10]

def xAlloc (ak : AK) (_ : Ca) (d : Option Nat) (xs : List Opd) (e : Env) (s : CS) : Ou :=
  match xevsF e xs with
  | none => .bad [6]
  | some as => bif okAKF ak then match alv ak as with
      | some p => match s.push (s.id d) p.1 with
        | some s' => .n (Env.putO d (p.2 (s.id d)) e) s'
        | none => .bad [11]
      | none => .bad [12]
    else .bad [13]

def xLoud (lo : LO) (call : Ca) (d : Option Nat) (xs : List Opd) (e : Env) (s : CS) : Ou :=
  match xevsF e xs with
  | none => .bad [6]
  | some as => match loudF call d lo as s with
    | .ok a s' => .n (Env.putO d a e) s'
    | .bad l => .bad (14 :: l)

def xQcall (f : Nat) (call : Ca) (d : Option Nat) (xs : List Opd) (e : Env) (s : CS) : Ou :=
  match xevsF e xs with
  | none => .bad [6]
  | some as => match call f as ⟨s.t, s.next, s.next, 0⟩ with
    | .ok a s' => bif Nat.ble s.next s'.low then .n (Env.putO d a e) ⟨s'.t, s'.next, s.low, s.reg⟩ else .bad [15, f]
    | .bad l => .bad (16 :: l)

def xBad (_ : Ca) (_ : Option Nat) (_ : List Opd) (_ : Env) (_ : CS) : Ou := .bad [5]

def xopF (call : Ca) (d : Option Nat) (k : BK) (xs : List Opd) (e : Env) (s : CS) : Ou :=
  @BK.rec (fun _ => Ca → Option Nat → List Opd → Env → CS → Ou) xPure xPick xLoad xAlloc xLoud xQcall xBad k call d xs e s

def xGuard (b : Bool) (a : AV) (yes no gone bad : Ou) : Ou := match a with
  | .bool v => bif v == b then yes else no
  | .tup [] => gone
  | _ => bad

def xopsF (call : Ca) (l : List BOp) (e : Env) (s : CS) : Ou :=
  @List.rec BOp (fun _ => Env → CS → Ou) (fun e s => .n e s) (fun o _ ih e s =>
    @BOp.rec (fun _ => Ou) (fun d g k xs =>
      @Option.rec (Nat × Bool) (fun _ => Ou)
        (@Ou.rec (fun _ => Ou) ih (fun e s => .r e s) (fun i e s => .x i e s) .v (fun l => .bad l) (xopF call d k xs e s))
        (fun g => @Option.rec AV (fun _ => Ou) (.bad [18]) (fun a => xGuard g.2 a
          (@Ou.rec (fun _ => Ou) ih (fun e s => .r e s) (fun i e s => .x i e s) .v (fun l => .bad l) (xopF call d k xs ((g.1, .bool g.2) :: e) s))
          (ih (Env.putO d (.tup []) ((g.1, .bool (!g.2)) :: e)) s)
          (ih (Env.putO d (.tup []) e) s)
          (.bad [18])) (getF g.1 e)) g) o) l e s

abbrev Ex := BC → Env → CS → Ou

def eSkip (_ : Nat → Option FD) (_ : Ex) (e : Env) (s : CS) : Ou := .n e s
def eRet (_ : Nat → Option FD) (_ : Ex) (e : Env) (s : CS) : Ou := .r e s
def eExit (i : Nat) (_ : Nat → Option FD) (_ : Ex) (e : Env) (s : CS) : Ou := .x i e s
def eSeq (a b : BC) (_ : Nat → Option FD) (ih : Ex) (e : Env) (s : CS) : Ou :=
  @Ou.rec (fun _ => Ou) (ih b) (fun e s => .r e s) (fun i e s => .x i e s) .v (fun l => .bad l) (ih a e s)
def bOf (a : AV) : Option Bool :=
  @AV.rec (fun _ => Option Bool) (fun _ => Unit) (fun _ => Unit) (fun b => some b) (fun _ _ => none) (fun _ => none) (fun _ => none) none (fun _ _ => none) (fun _ _ _ _ => none) (fun _ _ => none) none (fun _ _ _ => none)
    (fun _ _ _ _ => none) (fun _ => none) none (fun _ _ _ => none) none (fun _ _ => none) (fun _ _ => none) (fun _ _ _ => none) none () (fun _ _ _ _ => ()) () (fun _ _ _ _ => ()) a
def eCond (c : Opd) (a b : BC) (_ : Nat → Option FD) (ih : Ex) (e : Env) (s : CS) : Ou :=
  @Option.rec AV (fun _ => Ou) (.bad [31]) (fun v => @Option.rec Bool (fun _ => Ou) (.bad [31]) (fun v => @Bool.rec (fun _ => Ou) (ih b e s) (ih a e s) v) (bOf v)) (xevF e c)
def eBlock (id : Nat) (b : BC) (_ : Nat → Option FD) (ih : Ex) (e : Env) (s : CS) : Ou :=
  @Ou.rec (fun _ => Ou) (fun e s => .n e s) (fun e s => .r e s) (fun i e s => bif Nat.beq i id then .n e s else .x i e s) .v (fun l => .bad l) (ih b e s)
def eOps (l : List BOp) (live : List Nat) (tab : Nat → Option FD) (ih : Ex) (e : Env) (s : CS) : Ou :=
  @Ou.rec (fun _ => Ou) (fun e s => keepF e live (fun e => .n e s)) (fun e s => .r e s) (fun i e s => .x i e s) .v (fun l => .bad l) (xopsF (callT tab ih) l e s)
def eLoop (live : List Nat) (b : BC) (_ : Nat → Option FD) (ih : Ex) (e : Env) (s : CS) : Ou :=
  keepF e live fun e => @Ou.rec (fun _ => Ou) (ih (.loop live b)) (fun e s => .r e s) (fun i e s => .x i e s) .v (fun l => .bad l) (ih b e s)
def eBoth (a b : BC) (_ : Nat → Option FD) (ih : Ex) (e : Env) (s : CS) : Ou :=
  match ih a e (enter s) with
  | .v => ih b e s
  | .n e1 s1 => match ih b e (enter s) with
    | .v => .n e1 (leave s s1)
    | .n e2 s2 => bif beqE e1 e2 && (Nat.beq s1.next s2.next && (Nat.beq s1.low s2.low && (fun k => beqFrom s1.t s2.t (Nat.sub s1.next k) k) (bif Nat.blt s1.low s.lim then s1.low else s.lim))) then .n e1 (leave s s1) else .bad [32]
    | .bad l => .bad (33 :: l)
    | _ => .bad [34]
  | .bad l => .bad (35 :: l)
  | _ => .bad [36]
def eTop (_ : Nat → Option FD) (_ : Ex) (_ : Env) (_ : CS) : Ou := .v

def step (tab : Nat → Option FD) (ih : Ex) (c : BC) (e : Env) (s : CS) : Ou :=
  @BC.rec (fun _ => (Nat → Option FD) → Ex → Env → CS → Ou) eSkip eRet eExit (fun a b _ _ => eSeq a b) (fun c a b _ _ => eCond c a b) (fun id b _ => eBlock id b) eOps (fun live b _ => eLoop live b) (fun a b _ _ => eBoth a b) eTop c tab ih e s

def execF (tab : Nat → Option FD) (fuel : Nat) : Ex :=
  @Nat.rec (fun _ => Ex) (fun _ _ _ => .bad [0]) (fun _ ih => step tab ih) fuel

/-- A function called at an empty store. -/
def runF (tab : Nat → Option FD) (fuel f : Nat) (args : List AV) : Rt := callT tab (execF tab fuel) f args ⟨.leaf, 0, 0, 0⟩


theorem xevF_eq (e : Env) (x : Opd) : xevF e x = xev e x := by
  cases x with
  | t n => exact getF_eq n e
  | c a => show @Bool.rec (fun _ => Option AV) none (some a) (AV.und0 a) = _
           rw [und0_eq]; simp only [xev]; cases AV.und noId a <;> rfl

theorem xevsF_eq (e : Env) : ∀ xs : List Opd, xevsF e xs = xevs e xs
  | [] => rfl
  | x :: r => by
    show @Option.rec AV (fun _ => Option (List AV)) none (fun a => @Option.rec (List AV) (fun _ => Option (List AV)) none (fun as => some (a :: as)) (xevsF e r)) (xevF e x) = _
    rw [xevF_eq, xevsF_eq e r]
    simp only [xevs]
    cases xev e x with
    | none => rfl
    | some a => cases xevs e r <;> rfl

theorem okPKF_eq (k : PK) : okPKF k = okPK k := by cases k <;> rfl
theorem okLKF_eq (k : LK) : okLKF k = okLK k := by
  cases k with
  | look ok mk z => show z.und0 = _; rw [und0_eq]; rfl
  | _ => rfl
theorem okAKF_eq (k : AK) : okAKF k = okAK k := by cases k <;> rfl

theorem loudF_eq (call : Ca) (d : Option Nat) (lo : LO) (as : List AV) (s : CS) : loudF call d lo as s = loudT call d lo as s := by
  cases lo with
  | st sz =>
    show loSt sz call d as s = _
    unfold loSt
    rcases as with _ | ⟨x, _ | ⟨y, _ | ⟨z, r⟩⟩⟩
    · rfl
    · rfl
    · simp only [isTupF_eq, cellsF_eq, wrF_eq]; rfl
    · rfl
  | app => rcases as with _ | ⟨x, _ | ⟨y, _ | ⟨z, r⟩⟩⟩ <;> rfl
  | appz => rcases as with _ | ⟨x, _ | ⟨y, _ | ⟨z, r⟩⟩⟩ <;> rfl
  | call f => rfl
  | callv => rcases as with _ | ⟨x, r⟩
             · rfl
             · cases x <;> rfl
  | mupd => rcases as with _ | ⟨x, _ | ⟨y, _ | ⟨z, _ | ⟨u, r⟩⟩⟩⟩ <;> rfl
  | mdel => rcases as with _ | ⟨x, _ | ⟨y, _ | ⟨z, r⟩⟩⟩ <;> rfl
  | nilq => rcases as with _ | ⟨x, _ | ⟨y, r⟩⟩ <;> rfl
  | clr => rcases as with _ | ⟨x, _ | ⟨y, r⟩⟩ <;> rfl

theorem xopF_eq (call : Ca) (d : Option Nat) (k : BK) (xs : List Opd) (e : Env) (s : CS) : xopF call d k xs e s = xop call d k xs e s := by
  cases k with
  | pure pk =>
    show xPure pk call d xs e s = _
    unfold xPure
    rw [xevsF_eq]
    simp only [okPKF_eq, pvF_eq, xop]
    cases xevs e xs <;> rfl
  | pick =>
    show xPick call d xs e s = _
    unfold xPick
    simp only [xevF_eq]
    rfl
  | load lk =>
    show xLoad lk call d xs e s = _
    unfold xLoad
    rw [xevsF_eq]
    simp only [okLKF_eq, ldvF_eq, xop]
    cases xevs e xs <;> rfl
  | alloc ak =>
    show xAlloc ak call d xs e s = _
    unfold xAlloc
    rw [xevsF_eq]
    simp only [okAKF_eq, xop]
    cases xevs e xs <;> rfl
  | loud lo =>
    show xLoud lo call d xs e s = _
    unfold xLoud
    rw [xevsF_eq]
    simp only [loudF_eq, xop]
    cases xevs e xs <;> rfl
  | qcall f =>
    show xQcall f call d xs e s = _
    unfold xQcall
    rw [xevsF_eq]
    simp only [xop]
    cases xevs e xs <;> rfl
  | bad => rfl

theorem xopsF_eq (call : Ca) : ∀ (l : List BOp) (e : Env) (s : CS), xopsF call l e s = xops call l e s
  | [], e, s => rfl
  | ⟨d, none, k, xs⟩ :: r, e, s => by
    show @Ou.rec (fun _ => Ou) (fun e s => xopsF call r e s) (fun e s => .r e s) (fun i e s => .x i e s) .v (fun l => .bad l) (xopF call d k xs e s) = _
    rw [xopF_eq]
    simp only [xops]
    cases xop call d k xs e s with
    | n e1 s1 => exact xopsF_eq call r e1 s1
    | _ => rfl
  | ⟨d, some (t, b), k, xs⟩ :: r, e, s => by
    show @Option.rec AV (fun _ => Ou) (.bad [18]) (fun a => xGuard b a
          (@Ou.rec (fun _ => Ou) (fun e s => xopsF call r e s) (fun e s => .r e s) (fun i e s => .x i e s) .v (fun l => .bad l) (xopF call d k xs ((t, .bool b) :: e) s))
          (xopsF call r (Env.putO d (.tup []) ((t, .bool (!b)) :: e)) s)
          (xopsF call r (Env.putO d (.tup []) e) s)
          (.bad [18])) (getF t e) = _
    rw [getF_eq, xopF_eq, xopsF_eq call r, xopsF_eq call r]
    simp only [xops]
    cases e.get t with
    | none => rfl
    | some a =>
      cases a with
      | bool v =>
        simp only [xGuard]
        cases v == b with
        | false => rfl
        | true =>
          simp only [cond_true]
          cases xop call d k xs ((t, .bool b) :: e) s with
          | n e1 s1 => exact xopsF_eq call r e1 s1
          | _ => rfl
      | tup l => cases l <;> rfl
      | _ => rfl

theorem execF_eq (tab : Nat → Option FD) : ∀ fuel, execF tab fuel = exec tab fuel
  | 0 => rfl
  | fuel + 1 => by
    funext c e s
    have ih := execF_eq tab fuel
    show step tab (execF tab fuel) c e s = _
    rw [ih]
    cases c with
    | skip => rfl
    | ret => rfl
    | exit i => rfl
    | seq a b =>
      show @Ou.rec (fun _ => Ou) (exec tab fuel b) (fun e s => .r e s) (fun i e s => .x i e s) .v (fun l => .bad l) (exec tab fuel a e s) = _
      simp only [exec]
      cases exec tab fuel a e s <;> rfl
    | cond c a b =>
      show eCond c a b tab (exec tab fuel) e s = _
      unfold eCond
      rw [xevF_eq]
      simp only [exec]
      cases xev e c with
      | none => rfl
      | some v => cases v with
        | bool v => cases v <;> rfl
        | _ => rfl
    | block id b =>
      show eBlock id b tab (exec tab fuel) e s = _
      unfold eBlock
      simp only [exec]
      cases exec tab fuel b e s <;> rfl
    | ops l live =>
      show eOps l live tab (exec tab fuel) e s = _
      unfold eOps
      rw [xopsF_eq]
      simp only [exec, keepF_eq]
      cases xops (callT tab (exec tab fuel)) l e s <;> rfl
    | loop live b =>
      show eLoop live b tab (exec tab fuel) e s = _
      unfold eLoop
      rw [keepF_eq]
      simp only [exec]
      cases exec tab fuel b (e.keep live) s <;> rfl
    | both a b =>
      show eBoth a b tab (exec tab fuel) e s = _
      unfold eBoth
      simp only [exec]
      rfl
    | top => rfl

theorem runF_eq (tab : Nat → Option FD) (fuel f : Nat) (args : List AV) : runF tab fuel f args = run tab fuel f args := by
  unfold runF run
  rw [execF_eq]

end
end Go.Am
