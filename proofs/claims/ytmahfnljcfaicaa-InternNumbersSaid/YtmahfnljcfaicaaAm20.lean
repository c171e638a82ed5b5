/- A part of the proof: a logic for calls over plain values, and a runner that is shown to be right. -/
import Derived.Test.YtmahfnljcfaicaaAm19
import Derived.KernelRfl
namespace Go.Am
set_option linter.unusedVariables false
set_option linter.unusedSimpArgs false

/-! ## Compiling code -/
def prio (b : BOp) : Nat :=
  match b.kind with
  | .pure _ | .pick => 0
  | .load _ => 1
  | .qcall _ => 2
  | .alloc _ => 3
  | .loud _ | .bad => 4

def readyNow (ops : Array Oper) (done : List Nat) (i : Nat) : Bool :=
  !done.contains i && match ops[i]? with
    | some o => o.after.toList.all fun e => !Region.binds .any e || done.contains e.on
    | none => false

def best (B : List BOp) : List Nat → Option Nat
  | [] => none
  | i :: r => match best B r with
    | some j => if ((B[i]?).map prio).getD 9 ≤ ((B[j]?).map prio).getD 9 then some i else some j
    | none => some i

def canon (ops : Array Oper) (B : List BOp) : Nat → List Nat → List Nat
  | 0, _ => []
  | n + 1, done => match best B ((List.range ops.size).filter (readyNow ops done)) with
    | some i => i :: canon ops B n (i :: done)
    | none => []

def depsOf (ops : Array Oper) : List (List Nat) :=
  ops.toList.foldl (fun D o => D ++ [(o.after.toList.foldl (fun s e => if Region.binds .any e then (e.on :: (D.getD e.on [])) ++ s else s) []).eraseDups]) []

def mkTree (ops : Array Oper) (D : List (List Nat)) (B : List BOp) : Nat → List Nat → IT
  | 0, _ => .leaf
  | n + 1, done =>
    let rs := (List.range ops.size).filter (rdy ops done)
    match rs with
    | [] => .leaf
    | _ => match best B (rs.filter (okFirst ops D B done)) with
      | some i => .op i (mkTree ops D B n (i :: done))
      | none => rs.foldr (fun i r => .alt i (mkTree ops D B n (i :: done)) r) .stop

def deTree (B : List BOp) : IT → Option BC
  | .leaf => some (.ops [] [])
  | .op i t => match B[i]?, deTree B t with
    | some b, some c => some (.seq (.ops [b] []) c)
    | _, _ => none
  | .alt i t r => match B[i]?, deTree B t, deTree B r with
    | some b, some c, some d => some (.both (.seq (.ops [b] []) c) d)
    | _, _, _ => none
  | .stop => some .top

theorem deTree_ok {B : List BOp} : ∀ {t : IT} {c : BC}, deTree B t = some c → DS B t c
  | .leaf, c, h => by cases h; exact .leaf
  | .stop, c, h => by cases h; exact .stop
  | .op i t, c, h => by
    simp only [deTree] at h
    split at h
    · rename_i h1 h2; cases h; exact .op h1 (deTree_ok h2)
    · cases h
  | .alt i t r, c, h => by
    simp only [deTree] at h
    split at h
    · rename_i h1 h2 h3; cases h; exact .alt h1 (deTree_ok h2) (deTree_ok h3)
    · cases h

def compTree (P : Program) (ops : Array Oper) (D : List (List Nat)) (B : List BOp) : Option BC :=
  let t := mkTree ops D B ops.size []
  if P.follows .mixedOrders && okDep ops D && okT ops D B true t [] then deTree B t else none

def comp0 (P : Program) (N : Nat) : Code → Option BC
  | .skip | .label _ => some .skip
  | .ret => some .ret
  | .exit i => some (.exit i)
  | .seq a b => match comp0 P N a, comp0 P N b with
    | some a', some b' => some (.seq a' b')
    | _, _ => none
  | .cond c a b => match compOpd c, comp0 P N a, comp0 P N b with
    | some c', some a', some b' => some (.cond c' a' b')
    | _, _, _ => none
  | .block id b => (comp0 P N b).map (.block id)
  | .loop b => (comp0 P N b).map (.loop [])
  | .scope b => comp0 P N b
  | .region _ ops false => (ops.toList.mapM (compOp P false N ops)).map fun l => .ops l []
  | .region _ ops true => match ops.toList.mapM (compOp P true N ops) with
    | some B =>
      let ord := canon ops B ops.size []
      let D := depsOf ops
      if P.follows .mixedOrders && okDep ops D && okOrd ops D B ord [] && ord.length == ops.size then some (.ops (ord.filterMap fun i => B[i]?) []) else compTree P ops D B
    | none => none
  | _ => none

theorem comp0_ok {P : Program} {N : Nat} : ∀ {c : Code} {b : BC}, comp0 P N c = some b → CC P N c b
  | .skip, b, h => by cases h; exact .skip
  | .label _, b, h => by cases h; exact .label
  | .ret, b, h => by cases h; exact .ret
  | .exit i, b, h => by cases h; exact .exit
  | .seq c d, b, h => by
    simp only [comp0] at h
    split at h
    · rename_i a' b' h1 h2; cases h; exact .seq (comp0_ok h1) (comp0_ok h2)
    · cases h
  | .cond x c d, b, h => by
    simp only [comp0] at h
    split at h
    · rename_i c' a' b' h0 h1 h2; cases h; exact .cond h0 (comp0_ok h1) (comp0_ok h2)
    · cases h
  | .block id c, b, h => by
    obtain ⟨b', h1, rfl⟩ := Option.map_eq_some_iff.1 h
    exact .block (comp0_ok h1)
  | .loop c, b, h => by
    obtain ⟨b', h1, rfl⟩ := Option.map_eq_some_iff.1 h
    exact .loop (comp0_ok h1)
  | .region id ops false, b, h => by
    obtain ⟨l, h1, rfl⟩ := Option.map_eq_some_iff.1 h
    exact .ops h1
  | .region id ops true, b, h => by
    simp only [comp0] at h
    split at h
    · rename_i B hB
      split at h
      · rename_i hc
        simp only [Bool.and_eq_true, beq_iff_eq] at hc
        obtain ⟨⟨⟨h1, h2⟩, h3⟩, h4⟩ := hc
        cases h
        exact .draw h1 hB h2 h3 h4
      · unfold compTree at h
        simp only at h
        split at h
        · rename_i hc
          simp only [Bool.and_eq_true] at hc
          obtain ⟨⟨h1, h2⟩, h3⟩ := hc
          exact .tree h1 hB h2 h3 (deTree_ok h)
        · cases h
    · cases h
  | .rangeFunc .., b, h => by cases h
  | .scope c, b, h => .scope (comp0_ok (c := c) h)
  | .goto _, b, h => by cases h
  | .refuse _, b, h => by cases h

def ins (x : Nat) : List Nat → List Nat
  | [] => [x]
  | y :: r => if x < y then x :: y :: r else if x = y then y :: r else y :: ins x r

def uni (a b : List Nat) : List Nat := a.foldl (fun s x => ins x s) b

def liveOps (l : List BOp) (out : List Nat) : List Nat :=
  l.foldr (fun o s =>
    let s := match o.dst with
      | some d => s.filter (· != d)
      | none => s
    uni o.looks s) out

/-- What is read further on, slot by slot. -/
def annot (ret : List Nat) : BC → List Nat → List (Nat × List Nat) → BC × List Nat
  | .skip, out, _ => (.skip, out)
  | .ret, _, _ => (.ret, ret)
  | .exit i, _, x => (.exit i, (x.lookup i).getD [])
  | .seq a b, out, x =>
    let (b', m) := annot ret b out x
    let (a', i) := annot ret a m x
    (.seq a' b', i)
  | .cond c a b, out, x =>
    let (a', i) := annot ret a out x
    let (b', j) := annot ret b out x
    (.cond c a' b', uni (c.slot) (uni i j))
  | .block id b, out, x =>
    let (b', i) := annot ret b out ((id, out) :: x)
    (.block id b', i)
  | .ops l _, out, _ => (.ops l out, liveOps l out)
  | .loop _ b, _, x =>
    let i1 := (annot ret b [] x).2
    let i2 := (annot ret b i1 x).2
    let (b', i3) := annot ret b (uni i1 i2) x
    (.loop (uni i3 (uni i1 i2)) b', uni i3 (uni i1 i2))
  | .both a b, out, x =>
    let (a', i) := annot ret a out x
    let (b', j) := annot ret b out x
    (.both a' b', uni i j)
  | .top, _, _ => (.top, [])

theorem DS.annot {B : List BOp} {ret : List Nat} {t : IT} {b : BC} (h : DS B t b) : ∀ out x, DS B t (annot ret b out x).1 := by
  induction h with
  | leaf => exact fun _ _ => .leaf
  | op h _ ih => exact fun out x => .op h (ih _ _)
  | alt h _ _ ih1 ih2 => exact fun out x => .alt h (ih1 _ _) (ih2 _ _)
  | stop => exact fun _ _ => .stop

theorem annot_ok {P : Program} {N : Nat} {ret : List Nat} {c : Code} {b : BC} (h : CC P N c b) : ∀ out x, CC P N c (annot ret b out x).1 := by
  induction h with
  | skip => exact fun _ _ => .skip
  | label => exact fun _ _ => .label
  | ret => exact fun _ _ => .ret
  | exit => exact fun _ _ => .exit
  | seq _ _ ih1 ih2 => exact fun out x => .seq (ih1 _ _) (ih2 _ _)
  | cond h _ _ ih1 ih2 => exact fun out x => .cond h (ih1 _ _) (ih2 _ _)
  | block _ ih => exact fun out x => .block (ih _ _)
  | ops h => exact fun _ _ => .ops h
  | draw h1 h2 h3 h4 h5 => exact fun _ _ => .draw h1 h2 h3 h4 h5
  | tree h1 h2 h3 h4 h5 => exact fun out x => .tree h1 h2 h3 h4 (h5.annot out x)
  | scope _ ih => exact fun out x => .scope (ih _ _)
  | loop _ ih => exact fun out x => .loop (ih _ _)

def comp (P : Program) (N : Nat) (ret : List Nat) (c : Code) : Option BC := (comp0 P N c).map fun b => (annot ret b ret []).1

theorem comp_ok {P : Program} {N : Nat} {ret : List Nat} {c : Code} {b : BC} (h : comp P N ret c = some b) : CC P N c b := by
  obtain ⟨b0, h1, rfl⟩ := Option.map_eq_some_iff.1 h
  exact annot_ok (comp0_ok h1) _ _

/-- The compiled form of a function that is compiled. -/
def Fn.mk' {P : Program} {fi : Nat} (b : BC) (slots : List RS) (N : Nat) (fn : Func) (c : Code) (h1 : P.funcs[fi]? = some fn) (h2 : (fn.name == "runtime.NumGoroutine") = false) (h3 : fn.body = some c) (h4 : fn.ntmps = N)
    (h5 : comp P N (slots.map RS.slot) c = some b) (h6 : fn.results.toList.mapM (compRS P) = some slots) : Fn P fi :=
  ⟨b, slots, N, fn, c, h1, h2, h3, h4, by rw [h4]; exact comp_ok h5, h6⟩

end Go.Am
