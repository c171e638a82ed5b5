/- A part of the proof: a logic for calls over plain values, and the functions that the law reaches, each walked once. -/
import Derived.Test.YtplkahhkogncjaaGreatQC6
set_option linter.unusedVariables false
set_option linter.unusedSimpArgs false
set_option linter.unusedSectionVars false
namespace Go.Am
def mkTreeB (ops:Array Oper) (D:List (List Nat)) (B:List BOp):Nat→Nat→List Nat→Option (IT×Nat)
 | 0,b,_=>some (.leaf,b)
 | n+1,b,done =>
   if b=0 then none else
   let rs:=(List.range ops.size).filter (rdy ops done)
   match rs with
   | []=>some (.leaf,b)
   | _=>match best B (rs.filter (okFirst ops D B done)) with
     | some i=>match mkTreeB ops D B n (b - 1) (i::done) with
       | some (t,b)=>some (.op i t,b)
       | none=>none
     | none=>rs.foldr (fun i r=>match r with
       | none=>none
       | some (r,b)=>match mkTreeB ops D B n (b - 1) (i::done) with
         | some (t,b)=>some (.alt i t r,b)
         | none=>none) (some (.stop,b))
def compTreeB (P:Program) (ops:Array Oper) (D:List (List Nat)) (B:List BOp):Option BC :=
 match mkTreeB ops D B ops.size 2000 [] with
 | some (t,_)=>if P.follows .mixedOrders && okDep ops D && okT ops D B true t [] then deTree B t else none
 | none=>none
theorem vu {P:Program} {N:Nat} {id:Nat} {dr:Bool} {ops:Array Oper} {D:List (List Nat)} {B:List BOp} {b:BC} (hB:ops.toList.mapM (compOp P dr N ops)=some B)
 (h:compTreeB P ops D B=some b):CC P N (.region id ops true) b:=by
 unfold compTreeB at h
 split at h
 ·split at h
  ·rename_i hc
   simp only [Bool.and_eq_true] at hc
   obtain ⟨⟨h1,h2⟩,h3⟩:=hc
   exact .tree h1 hB h2 h3 (u9 h)
  ·cases h
 ·cases h
def compStat (P:Program) (ops:Array Oper) (D:List (List Nat)) (B:List BOp):Option BC :=
 let ord:=canon ops B ops.size []
 if P.follows .mixedOrders && okDep ops D && okOrd ops D B ord [] && ord.length ==ops.size then some (.ops (ord.filterMap fun i=>B[i]?) []) else none
theorem z0j {P:Program} {N:Nat} {id:Nat} {dr:Bool} {ops:Array Oper} {D:List (List Nat)} {B:List BOp} {b:BC} (hB:ops.toList.mapM (compOp P dr N ops)=some B)
 (h:compStat P ops D B=some b):CC P N (.region id ops true) b:=by
 unfold compStat at h
 simp only at h
 split at h
 ·rename_i hc
  simp only [Bool.and_eq_true,beq_iff_eq] at hc
  obtain ⟨⟨⟨h1,h2⟩,h3⟩,h4⟩:=hc
  cases h
  exact .draw h1 hB h2 h3 h4
 ·cases h
def compReg (P:Program) (pref:Bool) (N:Nat) (ops:Array Oper):Option BC :=
 let D:=depsOf ops
 match ops.toList.mapM (compOp P false N ops),ops.toList.mapM (compOp P true N ops) with
 | some B0,some B1=>match compStat P ops D B0 with
   | some b=>some b
   | none=>match (if pref then compTreeB P ops D B0 else none) with
     | some b=>some b
     | none=>match compStat P ops D B1 with
       | some b=>some b
       | none=>match compTreeB P ops D B1 with
         | some b=>some b
         | none=>compTreeB P ops D B0
 | _,_=>none
theorem uv {P:Program} {pref:Bool} {N:Nat} {id:Nat} {ops:Array Oper} {b:BC} (h:compReg P pref N ops=some b):CC P N (.region id ops true) b:=by
 unfold compReg at h
 simp only at h
 split at h
 ·rename_i B0 B1 h0 h1
  split at h
  ·rename_i hs;cases h;exact z0j h0 hs
  ·split at h
   ·rename_i hs
    cases h
    split at hs
    ·exact vu h0 hs
    ·cases hs
   ·split at h
    ·rename_i hs;cases h;exact z0j h1 hs
    ·split at h
     ·rename_i hs;cases h;exact vu h1 hs
     ·exact vu h0 h
 ·cases h
def compX0 (P:Program) (pref:Bool) (N:Nat):Code→Option BC
 | .skip | .label _=>some .skip
 | .ret=>some .ret
 | .exit i=>some (.exit i)
 | .seq a b=>match compX0 P pref N a,compX0 P pref N b with
   | some a',some b'=>some (.seq a' b')
   | _,_=>none
 | .cond c a b=>match compOpd c,compX0 P pref N a,compX0 P pref N b with
   | some c',some a',some b'=>some (.cond c' a' b')
   | _,_,_=>none
 | .block id b=>(compX0 P pref N b).map (.block id)
 | .loop b=>(compX0 P pref N b).map (.loop [])
 | .scope b=>compX0 P pref N b
 | .region _ ops false=>(ops.toList.mapM (compOp P false N ops)).map fun l => .ops l []
 | .region _ ops true=>compReg P pref N ops
 | _=>none
theorem yw {P:Program} {pref:Bool} {N:Nat}:∀ {c:Code} {b:BC},compX0 P pref N c=some b→CC P N c b
 | .skip,b,h=>by cases h;exact .skip
 | .label _,b,h=>by cases h;exact .label
 | .ret,b,h=>by cases h;exact .ret
 | .exit i,b,h=>by cases h;exact .exit
 | .seq c d,b,h=>by
   simp only [compX0] at h
   split at h
   ·rename_i a' b' h1 h2;cases h;exact .seq (yw h1) (yw h2)
   ·cases h
 | .cond x c d,b,h=>by
   simp only [compX0] at h
   split at h
   ·rename_i c' a' b' h0 h1 h2;cases h;exact .cond h0 (yw h1) (yw h2)
   ·cases h
 | .block id c,b,h=>by
   obtain ⟨b',h1,rfl⟩:=Option.map_eq_some_iff.1 h
   exact .block (yw h1)
 | .loop c,b,h=>by
   obtain ⟨b',h1,rfl⟩:=Option.map_eq_some_iff.1 h
   exact .loop (yw h1)
 | .region id ops false,b,h=>by
   obtain ⟨l,h1,rfl⟩:=Option.map_eq_some_iff.1 h
   exact .ops h1
 | .region id ops true,b,h=>uv (by simpa only [compX0] using h)
 | .rangeFunc ..,b,h=>by cases h
 | .scope c,b,h => .scope (yw (c:=c) h)
 | .goto _,b,h=>by cases h
 | .refuse _,b,h=>by cases h
def compX (P:Program) (pref:Bool) (N:Nat) (ret:List Nat) (c:Code):Option BC:=(compX0 P pref N c).map fun b=>(annot ret b ret []).1
theorem z8x {P:Program} {pref:Bool} {N:Nat} {ret:List Nat} {c:Code} {b:BC} (h:compX P pref N ret c=some b):CC P N c b:=by
 obtain ⟨b',h1,rfl⟩:=Option.map_eq_some_iff.1 h
 exact z33 (yw h1) _ _
def compW0 (P:Program) (pref:Bool) (ws:List Nat) (N:Nat):Code→Option BC
 | .skip | .label _=>some .skip
 | .ret=>some .ret
 | .exit i=>some (.exit i)
 | .seq a b=>match compW0 P pref ws N a,compW0 P pref ws N b with
   | some a',some b'=>some (.seq a' b')
   | _,_=>none
 | .cond c a b=>match compOpd c,compW0 P pref ws N a,compW0 P pref ws N b with
   | some c',some a',some b'=>some (.cond c' a' b')
   | _,_,_=>none
 | .block id b=>(compW0 P pref ws N b).map (.block id)
 | .loop b=>(compW0 P pref ws N b).map (.loop [])
 | .scope b=>compW0 P pref ws N b
 | .region id ops false=>(ops.toList.mapM (compOp P false N ops)).map fun l=>if ws.contains id then .wk id (.ops l []) else .ops l []
 | .region id ops true=>(compReg P pref N ops).map fun b=>if ws.contains id then .wk id b else b
 | _=>none
theorem yv {P:Program} {pref:Bool} {ws:List Nat} {N:Nat}:∀ {c:Code} {b:BC},compW0 P pref ws N c=some b→CC P N c b
 | .skip,b,h=>by cases h;exact .skip
 | .label _,b,h=>by cases h;exact .label
 | .ret,b,h=>by cases h;exact .ret
 | .exit i,b,h=>by cases h;exact .exit
 | .seq c d,b,h=>by
   simp only [compW0] at h
   split at h
   ·rename_i a' b' h1 h2;cases h;exact .seq (yv h1) (yv h2)
   ·cases h
 | .cond x c d,b,h=>by
   simp only [compW0] at h
   split at h
   ·rename_i c' a' b' h0 h1 h2;cases h;exact .cond h0 (yv h1) (yv h2)
   ·cases h
 | .block id c,b,h=>by
   obtain ⟨b',h1,rfl⟩:=Option.map_eq_some_iff.1 h
   exact .block (yv h1)
 | .loop c,b,h=>by
   obtain ⟨b',h1,rfl⟩:=Option.map_eq_some_iff.1 h
   exact .loop (yv h1)
 | .region id ops false,b,h=>by
   obtain ⟨l,h1,rfl⟩:=Option.map_eq_some_iff.1 h
   split
   ·exact .wk (.ops h1)
   ·exact .ops h1
 | .region id ops true,b,h=>by
   obtain ⟨l,h1,rfl⟩:=Option.map_eq_some_iff.1 h
   split
   ·exact .wk (uv h1)
   ·exact uv h1
 | .rangeFunc ..,b,h=>by cases h
 | .scope c,b,h => .scope (yv (c:=c) h)
 | .goto _,b,h=>by cases h
 | .refuse _,b,h=>by cases h
def compW (P:Program) (pref:Bool) (ws:List Nat) (N:Nat) (ret:List Nat) (c:Code):Option BC:=(compW0 P pref ws N c).map fun b=>(annot ret b ret []).1
theorem z8w {P:Program} {pref:Bool} {ws:List Nat} {N:Nat} {ret:List Nat} {c:Code} {b:BC} (h:compW P pref ws N ret c=some b):CC P N c b:=by
 obtain ⟨b',h1,rfl⟩:=Option.map_eq_some_iff.1 h
 exact z33 (yv h1) _ _
end Go.Am
namespace Go.Am
def Fn.mkX {P:Program} {fi:Nat} (pref:Bool) (b:BC) (slots:List RS) (N:Nat) (fn:Func) (c:Code) (h1:P.funcs[fi]? = some fn) (h2:(fn.name == "runtime.NumGoroutine")=false) (h3:fn.body=some c) (h4:fn.ntmps=N)
    (h5:compX P pref N (slots.map RS.slot) c=some b) (h6:fn.results.toList.mapM (compRS P)=some slots):Fn P fi :=
 ⟨b,slots,N,fn,c,h1,h2,h3,h4,by rw [h4];exact z8x h5,h6⟩
def Fn.mkW {P:Program} {fi:Nat} (pref:Bool) (ws:List Nat) (b:BC) (slots:List RS) (N:Nat) (fn:Func) (c:Code) (h1:P.funcs[fi]? = some fn) (h2:(fn.name == "runtime.NumGoroutine")=false) (h3:fn.body=some c) (h4:fn.ntmps=N)
    (h5:compW P pref ws N (slots.map RS.slot) c=some b) (h6:fn.results.toList.mapM (compRS P)=some slots):Fn P fi :=
 ⟨b,slots,N,fn,c,h1,h2,h3,h4,by rw [h4];exact z8w h5,h6⟩
namespace B
abbrev i (n:Int):AV := .int .i64 n
abbrev m (d s:Nat):BOp:=⟨some d,none,.pure .mov,[.t s]⟩
abbrev k (d:Nat) (a:AV):BOp:=⟨some d,none,.pure .mov,[.c a]⟩
abbrev j (d:Nat) (a:Int):BOp:=⟨some d,none,.pure .mov,[.c (.int .i64 a)]⟩
abbrev l (d n s:Nat):BOp:=⟨some d,none,.load (.ld n false),[.t s]⟩
abbrev f (d n s:Nat):BOp:=⟨some d,none,.pure (.fld n),[.t s]⟩
abbrev u (d:Nat) (o:PK) (s:Nat):BOp:=⟨some d,none,.pure o,[.t s]⟩
abbrev p (d:Nat) (o:PK) (a:List Opd):BOp:=⟨some d,none,.pure o,a⟩
abbrev b (d:Nat) (o:BinOp) (s t:Nat):BOp:=⟨some d,none,.pure (.bin o),[.t s,.t t]⟩
abbrev c (d:Nat) (o:BinOp) (s:Nat) (n:Int):BOp:=⟨some d,none,.pure (.bin o),[.t s,.c (.int .i64 n)]⟩
abbrev x (d n s t:Nat):BOp:=⟨some d,none,.pure (.idx n),[.t s,.t t]⟩
abbrev s (n a v:Nat):BOp:=⟨none,none,.loud (.st n),[.t a,.t v]⟩
abbrev g (d n:Nat) (a:List Opd):BOp:=⟨some d,none,.loud (.call n),a⟩
abbrev e (d n s:Nat):BOp:=⟨some d,none,.pure (.ext n),[.t s]⟩
abbrev z (L:List BOp) (v:List Nat) (c:BC):BC := .seq (.ops L v) c
end B
end Go.Am
