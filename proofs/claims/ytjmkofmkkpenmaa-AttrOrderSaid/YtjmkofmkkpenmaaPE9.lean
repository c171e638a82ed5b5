/- A part of the proof: a logic for calls over plain values, and the functions that the law reaches, each walked once. -/
import Derived.Test.YtjmkofmkkpenmaaPE8
set_option linter.unusedVariables false
set_option linter.unusedSimpArgs false
set_option linter.unusedSectionVars false

/- Ex1 -/
namespace Go.Am

/-! ## Running a compiled function at closed values -/
inductive T (α : Type) where
  | leaf
  | node (l : T α) (o : Option α) (r : T α)

def T.get {α : Type} : T α → Nat → Option α
  | .leaf, _ => none
  | .node l o r, n => bif Nat.beq n 0 then o else bif Nat.beq (Nat.mod n 2) 1 then l.get (Nat.div n 2) else r.get (Nat.sub (Nat.div n 2) 1)

def T.mk {α : Type} : Nat → Nat → α → Option (T α)
  | 0, _, _ => none
  | k + 1, n, o => bif Nat.beq n 0 then some (.node .leaf (some o) .leaf) else
    bif Nat.beq (Nat.mod n 2) 1 then match T.mk k (Nat.div n 2) o with
      | some l => some (.node l none .leaf)
      | none => none
    else match T.mk k (Nat.sub (Nat.div n 2) 1) o with
      | some r => some (.node .leaf none r)
      | none => none

def T.set {α : Type} : T α → Nat → α → Option (T α)
  | .leaf, n, o => T.mk 40 n o
  | .node l x r, n, o => bif Nat.beq n 0 then some (.node l (some o) r) else
    bif Nat.beq (Nat.mod n 2) 1 then match l.set (Nat.div n 2) o with
      | some l' => some (.node l' x r)
      | none => none
    else match r.set (Nat.sub (Nat.div n 2) 1) o with
      | some r' => some (.node l x r')
      | none => none

/-- A store: what lies at the ids (`some none`: it is gone); the next id; the least id that was written; in a region of drawn order, where its ids begin. -/
structure CS where
  t : T (Option Obj)
  next : Nat
  low : Nat
  reg : Nat

def CS.st (s : CS) : Store := fun i => match s.t.get i with
  | some o => o
  | none => none

def CS.put (s : CS) (id : Nat) (o : Option Obj) : Option CS :=
  match s.t.set id o with
  | some t => some ⟨t, s.next, bif Nat.blt id s.low then id else s.low, s.reg⟩
  | none => none

def CS.used (s : CS) (i : Nat) : Bool := match s.t.get i with
  | some _ => true
  | none => false

def CS.id (s : CS) (d : Option Nat) : Nat := match s.reg with
  | 0 => s.next
  | b + 1 => match d with
    | some t => Nat.add b t
    | none => s.next

/-- Where new ids begin. -/
def CS.lim (s : CS) : Nat := match s.reg with
  | 0 => s.next
  | b + 1 => bif Nat.blt b s.next then b else s.next

def CS.push (s : CS) (id : Nat) (o : Obj) : Option CS :=
  match s.t.get id with
  | some _ => none
  | none => match s.t.set id (some o) with
    | some t => some ⟨t, bif Nat.blt id s.next then s.next else Nat.succ id, s.low, s.reg⟩
    | none => none

inductive Ou where
  | n (e : Env) (s : CS)
  | r (e : Env) (s : CS)
  | x (i : Nat) (e : Env) (s : CS)
  | v
  | bad (k : List Nat)

inductive Rt where
  | ok (a : AV) (s : CS)
  | bad (k : List Nat)

def noId : Nat → Bool := fun _ => false

mutual
def AV.und (n : Nat → Bool) : AV → Bool
  | .ptr id _ => n id
  | .aptr id _ _ _ => n id
  | .ep cells => AV.undL n cells
  | .sl _ es => AV.undLL n es
  | .os id _ _ _ => n id
  | .mp id => n id
  | .fn _ caps => AV.undL n caps
  | .agg cells => AV.undL n cells
  | .tup vs => AV.undL n vs
  | .iface _ v => AV.und n v
  | .bool _ => true
  | .int _ _ => true
  | .str _ => true
  | .flt _ => true
  | .nil => true
  | .nils => true
  | .nilmap => true
  | .nilfn => true
  | .nilIface => true
def AV.undL (n : Nat → Bool) : List AV → Bool
  | [] => true
  | a :: r => AV.und n a && AV.undL n r
def AV.undLL (n : Nat → Bool) : List (List AV) → Bool
  | [] => true
  | a :: r => AV.undL n a && AV.undLL n r
end

mutual
def AV.beq : AV → AV → Bool
  | .ptr a b, .ptr a' b' => Nat.beq a a' && Nat.beq b b'
  | .aptr a b c d, .aptr a' b' c' d' => Nat.beq a a' && Nat.beq b b' && Nat.beq c c' && Nat.beq d d'
  | .ep cells, .ep cells' => AV.beqL cells cells'
  | .sl e es, .sl e' es' => Nat.beq e e' && AV.beqLL es es'
  | .os a b c d, .os a' b' c' d' => Nat.beq a a' && Nat.beq b b' && Nat.beq c c' && Nat.beq d d'
  | .mp a, .mp a' => Nat.beq a a'
  | .fn f c, .fn f' c' => Nat.beq f f' && AV.beqL c c'
  | .agg c, .agg c' => AV.beqL c c'
  | .tup c, .tup c' => AV.beqL c c'
  | .iface t v, .iface t' v' => Nat.beq t t' && AV.beq v v'
  | .bool b, .bool b' => b == b'
  | .int k n, .int k' n' => decide (k = k') && decide (n = n')
  | .str s, .str s' => decide (s = s')
  | .flt n, .flt n' => Nat.beq n n'
  | .nil, .nil => true
  | .nils, .nils => true
  | .nilmap, .nilmap => true
  | .nilfn, .nilfn => true
  | .nilIface, .nilIface => true
  | _, _ => false
def AV.beqL : List AV → List AV → Bool
  | [], [] => true
  | a :: r, b :: s => AV.beq a b && AV.beqL r s
  | _, _ => false
def AV.beqLL : List (List AV) → List (List AV) → Bool
  | [], [] => true
  | a :: r, b :: s => AV.beqL a b && AV.beqLL r s
  | _, _ => false
end

def beqE : Env → Env → Bool
  | [], [] => true
  | (i, a) :: r, (j, b) :: s => Nat.beq i j && AV.beq a b && beqE r s
  | _, _ => false

def beqM : List (AV × AV) → List (AV × AV) → Bool
  | [], [] => true
  | (i, a) :: r, (j, b) :: s => AV.beq i j && AV.beq a b && beqM r s
  | _, _ => false

def Obj.beq : Obj → Obj → Bool
  | .box c, .box c' => AV.beqL c c'
  | .arr e es, .arr e' es' => Nat.beq e e' && AV.beqLL es es'
  | .map es, .map es' => beqM es es'
  | _, _ => false

def beqOO : Option Obj → Option Obj → Bool
  | none, none => true
  | some a, some b => Obj.beq a b
  | _, _ => false

def beqGet : Option (Option Obj) → Option (Option Obj) → Bool
  | none, none => true
  | some a, some b => beqOO a b
  | _, _ => false

/-- Do they hold the same at so many ids, from one on? -/
def beqFrom (t t' : T (Option Obj)) : Nat → Nat → Bool
  | 0, _ => true
  | k + 1, i => beqGet (t.get i) (t'.get i) && beqFrom t t' k (Nat.succ i)

/-! ### One operation -/
def okPK : PK → Bool
  | .build z _ => AV.undL noId z
  | _ => true
def okLK : LK → Bool
  | .look _ _ z => AV.und noId z
  | _ => true
def okAK : AK → Bool
  | .alloc z => AV.undL noId z
  | .make _ z _ => AV.undL noId z
  | _ => true

def xev (e : Env) : Opd → Option AV
  | .t n => e.get n
  | .c a => bif AV.und noId a then some a else none

def xevs (e : Env) : List Opd → Option (List AV)
  | [] => some []
  | x :: r => match xev e x with
    | some a => match xevs e r with
      | some as => some (a :: as)
      | none => none
    | none => none

/-! ### One operation, on stores -/
def wrT (s : CS) (new : List AV) : AV → Option CS
  | .ptr id off => match s.t.get id with
    | some (some (.box cells)) => match splice off new cells with
      | some cs => s.put id (some (.box cs))
      | none => none
    | _ => none
  | .aptr id esz i off => match s.t.get id with
    | some (some (.arr esz' es)) => bif Nat.beq esz' esz then match es[i]? with
        | some c => match splice off new c with
          | some cs => s.put id (some (.arr esz (es.set i cs)))
          | none => none
        | none => none
      else none
    | _ => none
  | _ => none

def appT (d : Option Nat) (esz bytes : Nat) (x y : AV) (s : CS) : Rt :=
  match slc s.st esz x, slc s.st esz y with
  | some xs, some ys => bif Nat.ble ((xs.length + ys.length) * bytes) 140737488355328 then
    match x with
    | .nils => match ys with
      | [] => .ok .nils s
      | _ :: _ => match s.push (s.id d) (.arr esz ys) with
        | some s' => .ok (.os (s.id d) esz 0 ys.length) s'
        | none => .bad [101]
    | .os id0 _ _ _ => match s.put id0 none with
      | some s1 => match s1.push (s1.id d) (.arr esz (xs ++ ys)) with
        | some s' => .ok (.os (s1.id d) esz 0 (xs.length + ys.length)) s'
        | none => .bad [102]
      | none => .bad [103]
    | _ => .bad [104]
    else .bad [105]
  | _, _ => .bad [106]

def appzT (d : Option Nat) (esz bytes : Nat) (z : List AV) (x n : AV) (s : CS) : Rt :=
  match x, n with
  | .nils, .int .i64 (.ofNat n) => bif Nat.ble (Nat.mul n bytes) 140737488355328 && AV.undL noId z then
    match n with
    | 0 => .ok .nils s
    | m + 1 => match s.push (s.id d) (.arr esz (List.replicate (m + 1) z)) with
      | some s' => .ok (.os (s.id d) esz 0 (m + 1)) s'
      | none => .bad [151]
    else .bad [152]
  | _, _ => .bad [153]

def mupdT (mk : MKey) (m k v : AV) (s : CS) : Rt :=
  bif keyFits mk k then match m with
  | .mp id => match s.t.get id with
    | some (some (.map es)) => match mfind k es 0 with
      | some (some (i, _)) => match s.put id (some (.map (es.set i (k, v)))) with
        | some s' => .ok (.tup []) s'
        | none => .bad [111]
      | some none => match s.put id (some (.map (es ++ [(k, v)]))) with
        | some s' => .ok (.tup []) s'
        | none => .bad [112]
      | none => .bad [113]
    | _ => .bad [114]
  | _ => .bad [115]
  else .bad [116]

def mdelT (mk : MKey) (m k : AV) (s : CS) : Rt :=
  bif keyFits mk k then match m with
  | .mp id => match s.t.get id with
    | some (some (.map es)) => match mfind k es 0 with
      | some (some (i, _)) => match s.put id (some (.map (es.eraseIdx i))) with
        | some s' => .ok (.tup []) s'
        | none => .bad [121]
      | some none => .ok (.tup []) s
      | none => .bad [122]
    | _ => .bad [123]
  | .nilmap => .ok (.tup []) s
  | _ => .bad [124]
  else .bad [125]

def nilqT (neg : Bool) (a : AV) (s : CS) : Rt := match a with
  | .nils => .ok (.bool (!neg)) s
  | .sl _ (_ :: _) => .ok (.bool neg) s
  | .os .. => .ok (.bool neg) s
  | _ => .bad [131]

def clrT (esz : Nat) (z : List AV) (x : AV) (s : CS) : Rt := match x with
  | .nils => .ok (.tup []) s
  | .os id esz' off len => match s.t.get id with
    | some (some (.arr esz'' es)) => bif Nat.beq esz' esz && (Nat.beq esz'' esz && (Nat.ble (off + len) es.length && AV.undL noId z)) then
        match s.put id (some (.arr esz (es.take off ++ (List.replicate len z ++ es.drop (off + len))))) with
        | some s' => .ok (.tup []) s'
        | none => .bad [161]
      else .bad [162]
    | _ => .bad [163]
  | _ => .bad [164]

def loudT (call : Nat → List AV → CS → Rt) (d : Option Nat) : LO → List AV → CS → Rt
  | .st sz, [p, a], s => bif !a.isTup && Nat.beq a.cells.length sz then match wrT s a.cells p with
      | some s' => .ok (.tup []) s'
      | none => .bad [141]
    else .bad [142]
  | .app esz bytes, [x, y], s => appT d esz bytes x y s
  | .appz esz bytes z, [x, y], s => appzT d esz bytes z x y s
  | .call f, args, s => call f args s
  | .callv, .fn f caps :: args, s => call f (args ++ caps) s
  | .mupd mk, [m, k, v], s => mupdT mk m k v s
  | .mdel mk, [m, k], s => mdelT mk m k s
  | .nilq neg, [a], s => nilqT neg a s
  | .clr esz z, [x], s => clrT esz z x s
  | _, _, _ => .bad [143]

def xop (call : Nat → List AV → CS → Rt) (d : Option Nat) (k : BK) (xs : List Opd) (e : Env) (s : CS) : Ou :=
  match k with
  | .pick => match xs with
    | [c, x, y] => match xev e c with
      | some (.bool true) => match xev e x with
        | some a => .n (Env.putO d a e) s
        | none => .bad [1]
      | some (.bool false) => match xev e y with
        | some a => .n (Env.putO d a e) s
        | none => .bad [2]
      | _ => .bad [3]
    | _ => .bad [4]
  | .bad => .bad [5]
  | k => match xevs e xs with
    | none => .bad [6]
    | some as => match k with
      | .pure pk => bif okPK pk then match pv pk as with
          | some a => .n (Env.putO d a e) s
          | none => .bad [7]
        else .bad [8]
      | .load lk => bif okLK lk then match ldv lk as s.st with
          | some a => .n (Env.putO d a e) s
          | none => .bad [9]
        else .bad [10]
      | .alloc ak => bif okAK ak then match alv ak as with
          | some p => match s.push (s.id d) p.1 with
            | some s' => .n (Env.putO d (p.2 (s.id d)) e) s'
            | none => .bad [11]
          | none => .bad [12]
        else .bad [13]
      | .loud lo => match loudT call d lo as s with
        | .ok a s' => .n (Env.putO d a e) s'
        | .bad l => .bad (14 :: l)
      | .qcall f => match call f as ⟨s.t, s.next, s.next, 0⟩ with
        | .ok a s' => bif Nat.ble s.next s'.low then .n (Env.putO d a e) ⟨s'.t, s'.next, s.low, s.reg⟩ else .bad [15, f]
        | .bad l => .bad (16 :: l)
      | _ => .bad [17]

def xops (call : Nat → List AV → CS → Rt) : List BOp → Env → CS → Ou
  | [], e, s => .n e s
  | o :: r, e, s => match o.guard with
    | none => match xop call o.dst o.kind o.xs e s with
      | .n e s => xops call r e s
      | o => o
    | some (t, b) => match e.get t with
      | some (.bool v) => bif v == b then match xop call o.dst o.kind o.xs ((t, .bool b) :: e) s with
          | .n e s => xops call r e s
          | o => o
        else xops call r (Env.putO o.dst (.tup []) ((t, .bool (!b)) :: e)) s
      | some (.tup []) => xops call r (Env.putO o.dst (.tup []) e) s
      | _ => .bad [18]

/-- A function of the table: its compiled form, or a rule of its own. -/
structure FD where
  b : BC
  slots : List RS
  N : Nat
  rule : Option (List AV → CS → Rt) := none

def callT (tab : Nat → Option FD) (ex : BC → Env → CS → Ou) (f : Nat) (args : List AV) (s : CS) : Rt :=
  match tab f with
  | some d => match d.rule with
    | some p => p args s
    | none => bif Nat.ble args.length d.N then match ex d.b (argE 0 args) ⟨s.t, s.next, s.low, 0⟩ with
      | .n e s' => match e.res s'.st d.slots with
        | some a => .ok a ⟨s'.t, s'.next, s'.low, s.reg⟩
        | none => .bad [21, f]
      | .r e s' => match e.res s'.st d.slots with
        | some a => .ok a ⟨s'.t, s'.next, s'.low, s.reg⟩
        | none => .bad [22, f]
      | .x i _ _ => .bad [23, f, i]
      | .v => .bad [24, f]
      | .bad l => .bad (f :: 99999 :: l)
    else .bad [25, f]
  | none => .bad [26, f]

def enter (s : CS) : CS := ⟨s.t, s.next, s.next, match s.reg with
  | 0 => Nat.succ s.next
  | k + 1 => Nat.succ k⟩
def leave (s s1 : CS) : CS := ⟨s1.t, s1.next, bif Nat.blt s1.low s.low then s1.low else s.low, s.reg⟩

def exec (tab : Nat → Option FD) : Nat → BC → Env → CS → Ou
  | 0, _, _, _ => .bad [0]
  | fuel + 1, c, e, s => match c with
    | .skip => .n e s
    | .ret => .r e s
    | .exit i => .x i e s
    | .seq a b => match exec tab fuel a e s with
      | .n e s => exec tab fuel b e s
      | o => o
    | .cond c a b => match xev e c with
      | some (.bool true) => exec tab fuel a e s
      | some (.bool false) => exec tab fuel b e s
      | _ => .bad [31]
    | .block id b => match exec tab fuel b e s with
      | .x i e s => bif Nat.beq i id then .n e s else .x i e s
      | o => o
    | .ops l live => match xops (callT tab (exec tab fuel)) l e s with
      | .n e s => .n (e.keep live) s
      | o => o
    | .loop live b => match exec tab fuel b (e.keep live) s with
      | .n e s => exec tab fuel (.loop live b) e s
      | o => o
    | .both a b => match exec tab fuel a e (enter s) with
      | .v => exec tab fuel b e s
      | .n e1 s1 => match exec tab fuel b e (enter s) with
        | .v => .n e1 (leave s s1)
        | .n e2 s2 => bif beqE e1 e2 && (Nat.beq s1.next s2.next && (Nat.beq s1.low s2.low && (fun k => beqFrom s1.t s2.t (Nat.sub s1.next k) k) (bif Nat.blt s1.low s.lim then s1.low else s.lim))) then .n e1 (leave s s1) else .bad [32]
        | .bad l => .bad (33 :: l)
        | _ => .bad [34]
      | .bad l => .bad (35 :: l)
      | _ => .bad [36]
    | .top => .v

/-- A function called at an empty store. -/
def run (tab : Nat → Option FD) (fuel f : Nat) (args : List AV) : Rt := callT tab (exec tab fuel) f args ⟨.leaf, 0, 0, 0⟩

end Go.Am
