/- A part of the proof: a logic for calls over plain values, and the functions that the law reaches, each walked once. -/
import Derived.Test.YtcjiacchgddnpaaGreatPQ5
import Derived.OpenShut
import Derived.ChangeOld
import Derived.ChangeShapes
import Derived.SizedLaws
import Derived.Below
set_option linter.unusedVariables false
set_option linter.unusedSimpArgs false
set_option linter.unusedSectionVars false
universe u
namespace Go.Am
theorem zl {α:Sort u} {a b:α} (h:a=b):a=b:=h
theorem uw {a b:Prop} (h:a↔b):a↔b:=h
section
variable {e:Env} {k:IntKind} {x y:Int} {a b c:AV} {t:Nat} {r:List Opd}
theorem zdb {u:Nat}:Env.get ((t,a)::e) u=if u=t then some a else e.get u:=zl rfl
def keepO (o:Option AV) (t:Nat) (r:Env):Env:=match o with
 | some a=>(t,a)::r
 | none=>r
theorem z5z {r:Env}:keepO (some a) t r=(t,a)::r:=zl rfl
theorem z5y {r:Env}:keepO none t r=r:=zl rfl
theorem z9j:Env.keep e []=[]:=zl rfl
theorem zb6 {r:List Nat}:Env.keep e (t::r)=keepO (e.get t) t (Env.keep e r):=by
 simp only [Env.keep,keepO];cases e.get t <;> rfl
theorem z9u:Env.putO (some t) a e=(t,a)::e:=zl rfl
theorem z9t:Env.putO none a e=e:=zl rfl
theorem zb2:ev e (.t t)=e.get t:=zl rfl
theorem zb1:ev e (.c a)=some a:=zl rfl
theorem zb3:evs e []=some []:=zl rfl
theorem z98:evs e (.c a::r)=(evs e r).map (a :: ·):=by simp only [evs,ev];cases evs e r <;> rfl
theorem z99:evs e (.t t::r)=(e.get t).bind fun a=>(evs e r).map (a :: ·):=by simp only [evs,ev];cases e.get t <;> cases evs e r <;> rfl
theorem zaw {i:Nat}:argE i []=[]:=zl rfl
theorem zd1 {i:Nat} {l:List AV}:argE i (a::l)=(i,a)::argE (i+1) l:=zl rfl
theorem zdh:pv .mov [a]=some a:=zl rfl
theorem z7w:pv (.bin .add) [.int k x,.int k y]=some (.int k (k.wrap (x+y))):=by cases k <;> rfl
theorem zdt:pv (.bin .sub) [.int k x,.int k y]=some (.int k (k.wrap (x - y))):=by cases k <;> rfl
theorem zdi:pv (.bin .mul) [.int k x,.int k y]=some (.int k (k.wrap (x*y))):=by cases k <;> rfl
theorem zdn:pv (.bin .quo) [.int k x,.int k y]=if y=0 then none else some (.int k (k.wrap (x.tdiv y))):=by cases k <;> rfl
theorem zdo:pv (.bin .rem) [.int k x,.int k y]=if y=0 then none else some (.int k (x.tmod y)):=by cases k <;> rfl
theorem zcz:pv (.bin .and) [.int k x,.int k y]=some (.int k (bitInt .and k x y)):=by cases k <;> rfl
theorem zf3:pv (.bin .or) [.int k x,.int k y]=some (.int k (bitInt .or k x y)):=by cases k <;> rfl
theorem zdv:pv (.bin .xor) [.int k x,.int k y]=some (.int k (bitInt .xor k x y)):=by cases k <;> rfl
theorem z7a:pv (.bin .andNot) [.int k x,.int k y]=some (.int k (bitInt .andNot k x y)):=by cases k <;> rfl
theorem zd8:pv (.bin .eql) [.int k x,.int k y]=some (.bool (decide (x=y))):=by cases k <;> rfl
theorem zdk:pv (.bin .neq) [.int k x,.int k y]=some (.bool (!decide (x=y))):=by cases k <;> rfl
theorem zdf:pv (.bin .lss) [.int k x,.int k y]=some (.bool (decide (x<y))):=by cases k <;> rfl
theorem zde:pv (.bin .leq) [.int k x,.int k y]=some (.bool (decide (x≤y))):=by cases k <;> rfl
theorem zdc:pv (.bin .gtr) [.int k x,.int k y]=some (.bool (decide (y<x))):=by cases k <;> rfl
theorem zda:pv (.bin .geq) [.int k x,.int k y]=some (.bool (decide (y≤x))):=by cases k <;> rfl
theorem zdp {j:IntKind}:pv (.bin .shl) [.int k x,.int j y]=if y<0 then none else some (.int k (shlInt k x y)):=zl rfl
theorem zdq {j:IntKind}:pv (.bin .shr) [.int k x,.int j y]=if y<0 then none else some (.int k (shrInt k x y)):=zl rfl
theorem zdl {b:Bool}:pv .not [.bool b]=some (.bool !b):=zl rfl
theorem zdj:pv .neg [.int k x]=some (.int k (k.wrap (0 - x))):=zl rfl
theorem zd5:pv .cpl [.int k x]=some (.int k (bitInt .xor k (if k.signed then -1 else k.max) x)):=zl rfl
theorem z5t {j:IntKind}:pv (.conv j) [.int k x]=some (.int j (j.wrap x)):=zl rfl
theorem zd7 {p q:Bool}:pv (.eqb false) [.bool p,.bool q]=some (.bool (p ==q)):=zl rfl
theorem zbf {p q:Bool}:pv (.eqb true) [.bool p,.bool q]=some (.bool (p != q)):=zl rfl
theorem zd6 {j:IntKind} {u v:Int}:pv (.eq2 false k j) [.agg [.int k x,.int j y],.agg [.int k u,.int j v]]=some (.bool (decide (x=u∧y=v))):=by cases k <;> cases j <;> rfl
theorem zbe {j:IntKind} {u v:Int}:pv (.eq2 true k j) [.agg [.int k x,.int j y],.agg [.int k u,.int j v]]=some (.bool (!decide (x=u∧y=v))):=by cases k <;> cases j <;> rfl
theorem z9c {i o n:Nat}:pv (.fld n) [.ptr i o]=some (.ptr i (o+n)):=zl rfl
theorem z9a {i s j o n:Nat}:pv (.fld n) [.aptr i s j o]=some (.aptr i s j (o+n)):=zl rfl
theorem z9b {n:Nat} {l:List AV}:pv (.fld n) [.ep l]=some (.ep (l.drop n)):=zl rfl
theorem z4u {i o:Nat}:pv .nilchk [.ptr i o]=some (.ptr i o):=zl rfl
theorem z4r {i s j o:Nat}:pv .nilchk [.aptr i s j o]=some (.aptr i s j o):=zl rfl
theorem z4s {l:List AV}:pv .nilchk [.ep l]=some (.ep l):=zl rfl
theorem z4t {f:Nat} {l:List AV}:pv .nilchk [.fn f l]=some (.fn f l):=zl rfl
theorem z5x {i o:Nat} {g:Bool}:pv (.eqnil g true) [.ptr i o]=some (.bool g):=by cases g <;> rfl
theorem z5u {i s j o:Nat} {g:Bool}:pv (.eqnil g true) [.aptr i s j o]=some (.bool g):=by cases g <;> rfl
theorem z5v {l:List AV} {g:Bool}:pv (.eqnil g true) [.ep l]=some (.bool g):=by cases g <;> rfl
theorem z5w {g:Bool}:pv (.eqnil g true) [.nil]=some (.bool (!g)):=by cases g <;> rfl
theorem zb4 {o s:Nat} {l:List AV}:pv (.fldv o s true) [.agg l]=if o+s≤l.length then some (.agg ((l.drop o).take s)) else none:=zl rfl
theorem z9d {o s:Nat} {l:List AV}:pv (.fldv o s false) [.agg l]=l[o]? := zl rfl
theorem z9i {s:Nat} {es:List (List AV)}:pv (.idx s) [.sl s es,.int k x]=if 0≤x then (es[x.toNat]?).map .ep else none:=by simp [pv,pIdx]
theorem z9g {s:Nat}:pv (.idx s) [.nils,.int k x]=none:=zl rfl
theorem z9h {s i o n:Nat}:pv (.idx s) [.os i s o n,.int k x]=if 0≤x∧x<(n:Int) then some (.aptr i s (o+x.toNat) 0) else none:=by simp [pv,pIdx]
theorem z7d {i o n s:Nat}:pv (.idxa n s) [.ptr i o,.int k x]=if 0≤x∧x<(n:Int) then some (.ptr i (o+x.toNat*s)) else none:=zl rfl
theorem z9n {s:Nat} {es:List (List AV)}:pv .len [.sl s es]=some (.int .i64 es.length):=zl rfl
theorem z9l:pv .len [.nils]=some (.int .i64 0):=zl rfl
theorem z9m {i s o n:Nat}:pv .len [.os i s o n]=some (.int .i64 n):=zl rfl
theorem z4v {s:Nat}:pv (.slice s true true) [a,.int .i64 x,.int .i64 y]=pSlice s a x (some y):=by cases a <;> rfl
theorem z63 {s:Nat}:pv (.slice s true false) [a,.int .i64 x]=pSlice s a x none:=by cases a <;> rfl
theorem z62 {s:Nat}:pv (.slice s false true) [a,.int .i64 x]=pSlice s a 0 (some x):=by cases a <;> rfl
theorem z61 {s:Nat}:pv (.slice s false false) [a]=pSlice s a 0 none:=by cases a <;> rfl
theorem zbo {s:Nat} {es:List (List AV)} {h:Option Int}:pSlice s (.sl s es) x h=if 0≤x∧x≤h.getD es.length∧h.getD es.length≤(es.length:Int) then some (.sl s ((es.take (h.getD es.length).toNat).drop x.toNat)) else none:=by simp [pSlice]
theorem zbn {s i o n:Nat} {h:Option Int}:pSlice s (.os i s o n) x h=if 0≤x∧x≤h.getD n∧h.getD n≤(n:Int) then some (.os i s (o+x.toNat) ((h.getD n).toNat - x.toNat)) else none:=by simp [pSlice]
theorem zbm {s:Nat} {h:Option Int}:pSlice s .nils x h=if 0≤x∧x≤h.getD 0∧h.getD 0≤0 then some .nils else none:=zl rfl
theorem z91 {z:List AV} {p:List (Nat×Nat)} {as:List AV}:pv (.build z p) as=(pBuild z p as).map .agg:=zl rfl
theorem zd9 {i:Nat} {l:List AV}:pv (.ext i) [.tup l]=l[i]? := zl rfl
theorem zb9 {f:Nat} {l:List AV}:pv (.mkfn f) l=some (.fn f l):=zl rfl
theorem zba {f:Nat}:pv (.mkif f) [a]=some (.iface f a):=zl rfl
theorem zdg {l:List AV} {m:Bool}:pv (.minmax m) (a::l)=pMin m a l:=zl rfl
theorem z9s {m:Bool}:pMin m a []=some a:=by cases a <;> rfl
theorem zbl {l:List AV}:pMin false (.int k x) (.int k y::l)=pMin false (.int k (if y<x then y else x)) l:=by cases k <;> rfl
theorem zbk {l:List AV}:pMin true (.int k x) (.int k y::l)=pMin true (.int k (if y>x then y else x)) l:=by cases k <;> rfl
theorem zdm {l:List AV}:pBuild l [] []=some l:=zl rfl
theorem zf4 {l as:List AV} {o s:Nat} {ps:List (Nat×Nat)}:pBuild l ((o,s)::ps) (a::as)=if a.cells.length=s∧a.isTup=false then (splice o a.cells l).bind fun cs=>pBuild cs ps as else none:=zl rfl
theorem zdr {l:List AV}:splice 0 [] l=some l:=by cases l <;> rfl
theorem zf5 {l v:List AV}:splice 0 (a::v) (b::l)=(splice 0 v l).map (a :: ·):=zl rfl
theorem zds {n:Nat} {l v:List AV}:splice (n+1) v (b::l)=(splice n v l).map (b :: ·):=zl rfl
theorem z92 {l:List AV}:(AV.agg l).cells=l:=zl rfl
theorem z93:(AV.int k x).cells=[.int k x]:=zl rfl
theorem z7b {p:Bool}:(AV.bool p).cells=[.bool p]:=zl rfl
theorem z7c:AV.nils.cells=[.nils]:=zl rfl
theorem zb0 {s:Nat} {l:List (List AV)}:(AV.sl s l).cells=[.sl s l]:=zl rfl
theorem zaz {i s o n:Nat}:(AV.os i s o n).cells=[.os i s o n]:=zl rfl
theorem z95 {i o:Nat}:(AV.ptr i o).cells=[.ptr i o]:=zl rfl
theorem z94:AV.nil.cells=[.nil]:=zl rfl
theorem zay {i:Nat}:(AV.mp i).cells=[.mp i]:=zl rfl
theorem z4q:AV.nilmap.cells=[.nilmap]:=zl rfl
theorem zax {f:Nat} {l:List AV}:(AV.fn f l).cells=[.fn f l]:=zl rfl
theorem z96 {s:ByteArray}:(AV.str s).cells=[.str s]:=zl rfl
theorem z9w {l:List AV}:(AV.agg l).isTup=false:=zl rfl
theorem z9x:(AV.int k x).isTup=false:=zl rfl
theorem z7g {p:Bool}:(AV.bool p).isTup=false:=zl rfl
theorem z7h:AV.nils.isTup=false:=zl rfl
theorem zbz {s:Nat} {l:List (List AV)}:(AV.sl s l).isTup=false:=zl rfl
theorem zby {i s o n:Nat}:(AV.os i s o n).isTup=false:=zl rfl
theorem z9z {i o:Nat}:(AV.ptr i o).isTup=false:=zl rfl
theorem z9y:AV.nil.isTup=false:=zl rfl
theorem zbx {i:Nat}:(AV.mp i).isTup=false:=zl rfl
theorem z4w:AV.nilmap.isTup=false:=zl rfl
theorem zbw {f:Nat} {l:List AV}:(AV.fn f l).isTup=false:=zl rfl
theorem za0 {s:ByteArray}:(AV.str s).isTup=false:=zl rfl
variable {σ:Store}
theorem zf2 {n:Nat}:ldv (.ld n true) [a] σ=(rd σ n a).map .agg:=by cases a <;> rfl
def oneV:List AV→Option AV
 | [c]=>some c
 | _=>none
theorem zbj:oneV [a]=some a:=zl rfl
theorem zdd {n:Nat}:ldv (.ld n false) [a] σ=(rd σ 1 a).bind oneV:=zl rfl
theorem zbq {n:Nat} {l:List AV}:rd σ n (.ep l)=takeN 0 n l:=zl rfl
def boxO:Option Obj→Option (List AV)
 | some (.box l)=>some l
 | _=>none
theorem zd2 {l:List AV}:boxO (some (.box l))=some l:=zl rfl
def arrO (s:Nat):Option Obj→Option (List (List AV))
 | some (.arr s' l)=>if s'=s then some l else none
 | _=>none
theorem z7x {s:Nat} {l:List (List AV)}:arrO s (some (.arr s l))=some l:=by simp [arrO]
theorem zbr {n i o:Nat}:rd σ n (.ptr i o)=(boxO (σ i)).bind fun l=>takeN o n l:=by
 simp only [rd];cases σ i with
 | none=>rfl
 | some p=>cases p <;> rfl
theorem zbp {n i s j o:Nat}:rd σ n (.aptr i s j o)=(arrO s (σ i)).bind fun l=>(l[j]?).bind fun c=>takeN o n c:=by
 simp only [rd];cases σ i with
 | none=>rfl
 | some p=>cases p <;> first | rfl | (simp only [arrO];split <;> rfl)
theorem za1 {o n:Nat} {l:List AV}:takeN o n l=if o+n≤l.length then some ((l.drop o).take n) else none:=zl rfl
theorem zc1 {i o:Nat} {v:List AV}:wr σ v (.ptr i o)=(boxO (σ i)).bind fun l=>(splice o v l).map fun cs=>σ.set i (.box cs):=by
 simp only [wr];cases σ i with
 | none=>rfl
 | some p=>cases p <;> rfl
theorem zc0 {i s j o:Nat} {v:List AV}:wr σ v (.aptr i s j o)=(arrO s (σ i)).bind fun l=>(l[j]?).bind fun c=>(splice o v c).map fun cs=>σ.set i (.arr s (l.set j cs)):=by
 simp only [wr];cases σ i with
 | none=>rfl
 | some p=>cases p <;> first | rfl | (simp only [arrO];split <;> rfl)
theorem z90 {z:List AV}:alv (.alloc z) []=some (.box z,fun id => .ptr id 0):=zl rfl
theorem zav:alv .box [a]=if a.isTup then none else some (.box a.cells,fun id => .ptr id 0):=zl rfl
theorem z9p {s:Nat}:alv (.mksl s 0) []=some (.arr s [],fun id => .os id s 0 0):=zl rfl
theorem z9q {s:Nat}:alv (.mksl s 1) [a]=if a.isTup=false∧a.cells.length=s then some (.arr s [a.cells],fun id => .os id s 0 1) else none:=by
 simp [alv]
theorem z9r {s:Nat}:alv (.mksl s 2) [a,b]=if (a.isTup=false∧a.cells.length=s)∧(b.isTup=false∧b.cells.length=s) then some (.arr s [a.cells,b.cells],fun id => .os id s 0 2) else none:=by
 simp only [alv,List.length_cons,List.length_nil,List.all_cons,List.all_nil,Bool.and_true,Bool.and_eq_true,Bool.not_eq_true',decide_eq_true_eq,List.map]
 simp
theorem z9o:alv .mkmap []=some (.map [],fun id => .mp id):=zl rfl
theorem zb7 {z:List AV} {s n:Nat}:alv (.make s z n) [.int .i64 x,.int .i64 y]=if x=y∧0≤x∧x≤9223372036854775807∧x*n≤281474976710656 then some (.arr s (List.replicate x.toNat z),fun id => .os id s 0 x.toNat) else none:=zl rfl
theorem zf6 {P:Program} {n:Nat} {K:AV→Store→Prop}:lwp P (.st n) [a,b] σ K↔b.isTup=false∧b.cells.length=n∧wit (wr σ b.cells a) fun τ=>K (.tup []) τ:=by
 simp only [lwp]
 cases wr σ b.cells a <;> simp [wit]
theorem zd0 {P:Program} {n m:Nat} {K:AV→Store→Prop}:lwp P (.app n m) [a,b] σ K↔appwp n m a b σ K:=uw Iff.rfl
theorem z97 {P:Program} {f:Nat} {l as:List AV} {K:AV→Store→Prop}:lwp P .callv (.fn f l::as) σ K ↔ @CallQ P f (as++l) σ ⟨K⟩:=by rw [←v_acalls];exact Iff.rfl
theorem zbg {P:Program} {g:Bool} {K:AV→Store→Prop}:lwp P (.nilq g) [a] σ K↔nilqwp g a (fun b=>K b σ):=uw Iff.rfl
theorem zbh {g:Bool} {K:AV→Prop}:nilqwp g .nils K↔K (.bool (!g)):=uw Iff.rfl
theorem zbi {g:Bool} {i s o n:Nat} {K:AV→Prop}:nilqwp g (.os i s o n) K↔K (.bool g):=uw Iff.rfl
theorem z60 {g:Bool} {s:Nat} {l:List (List AV)} {K:AV→Prop} (h:∀ b,(l≠[]→b=g)→K (.bool b)):nilqwp g (.sl s l) K:=by
 cases l with
 | nil=>exact ⟨h true (fun h=>absurd rfl h),h false (fun h=>absurd rfl h)⟩
 | cons x r=>exact h g (fun _=>rfl)
theorem zbd {P:Program} {mk:MKey} {K:AV→Store→Prop}:lwp P (.mupd mk) [a,b,c] σ K↔mupdwp mk a b c σ (K (.tup [])):=uw Iff.rfl
theorem zb8 {P:Program} {mk:MKey} {K:AV→Store→Prop}:lwp P (.mdel mk) [a,b] σ K↔mdelwp mk a b σ (K (.tup [])):=uw Iff.rfl
theorem zbs {s:RS}:Env.res e σ [s]=e.rs σ s:=zl rfl
theorem zbt {s s':RS} {l:List RS}:Env.res e σ (s::s'::l)=(e.gets σ (s::s'::l)).map .tup:=zl rfl
theorem z9e:Env.gets e σ []=some []:=zl rfl
theorem zb5 {s:RS} {l:List RS}:Env.gets e σ (s::l)=(e.rs σ s).bind fun a=>(e.gets σ l).map (a :: ·):=by
 simp only [Env.gets];cases e.rs σ s <;> cases e.gets σ l <;> rfl
theorem zbv {n:Nat}:e.rs σ (.t n)=e.get n:=zl rfl
theorem zbu {n s:Nat}:e.rs σ (.c n s true)=(e.get n).bind fun p=>(rd σ s p).map .agg:=by
 simp only [Env.rs];cases e.get n <;> rfl
theorem z9v {n s:Nat}:e.rs σ (.c n s false)=(e.get n).bind fun p=>(rd σ 1 p).bind oneV:=by
 simp only [Env.rs]
 cases e.get n with
 | none=>rfl
 | some p =>
   simp only [Option.bind_some]
   cases rd σ 1 p with
   | none=>rfl
   | some l=>match l with
     | []=>rfl
     | [_]=>rfl
     | _::_::_=>rfl
end
end Go.Am
namespace Go.Am
theorem u_setN {σ:Store} {i j:Nat} {o:Obj}:((σ.set i o) j=none)↔(¬ j=i∧¬ i=j)∧σ j=none:=by
 simp only [Store.set]
 by_cases h:j=i
 ·subst h;simp
 ·simp [h,Ne.symm h]
end Go.Am
namespace Go.Am
theorem z3u {σ:Store} {i j:Nat} {o:Obj} (h:¬ j=i):(σ.set i o) j=σ j:=by simp [Store.set,h]
end Go.Am
namespace Go.Am
theorem z7f {σ τ:Store} {i:Nat} {o:Obj} (h:σ i=none):Store.sub σ (τ.set i o)↔Store.sub σ τ:=by
 constructor
 ·intro hs j p hj
  have:=hs j p hj
  simp only [Store.set] at this
  split at this
  ·rename_i e;subst e;rw [h] at hj;cases hj
  ·exact this
 ·exact fun hs=>Store.sub_upd hs h
theorem z7e {σ τ:Store} {i:Nat} (h:σ i=none):Store.sub σ (τ.del i)↔Store.sub σ τ:=by
 constructor
 ·intro hs j p hj
  have:=hs j p hj
  simp only [Store.del] at this
  split at this
  ·cases this
  ·exact this
 ·intro hs j p hj
  simp only [Store.del]
  split
  ·rename_i e;subst e;rw [h] at hj;cases hj
  ·exact hs j p hj
theorem z64 {σ:Store}:Store.sub σ σ↔True:=⟨fun _=>trivial,fun _=>Store.sub_refl σ⟩
end Go.Am
namespace Go.Am
class LoopK where
 live:List Nat
 b:BC
 n:Env→Store→Prop
 r:Env→Store→Prop
 x:Nat→Env→Store→Prop
def LoopQ (P:Program) (e:Env) (σ:Store) [k:LoopK]:Prop:=∃ I:Nat→Env→Store→Prop,(∃ j σ',Store.sub σ' σ∧I j e σ')∧∀ j e σ,I j e σ →
     bwp P k.b e σ (fun e' σ'=>∃ i σ'',i<j∧Store.sub σ'' σ'∧I i (Env.keep e' k.live) σ'') k.r k.x
theorem zc4 {P:Program} {live:List Nat} {b:BC} {e:Env} {σ:Store} {n r:Env→Store→Prop} {x:Nat→Env→Store→Prop}:bwp P (.loop live b) e σ n r x ↔ @LoopQ P (e.keep live) σ ⟨live,b,n,r,x⟩:=uw Iff.rfl
class NextK where
 K:Env→Store→Prop
def NextQ (e:Env) (σ:Store) [k:NextK]:Prop:=k.K e σ
theorem LoopQ.inv {P:Program} {S:Type} (env:S→Env) (st:S→Store) (ok:S→Prop) (m:S→Nat) (s0:S) {live:List Nat} {b:BC} {e:Env} {σ:Store} {n r:Env→Store→Prop} {x:Nat→Env→Store→Prop} (he:e=env s0) (hs:Store.sub (st s0) σ) (h0:ok s0)
 (hstep:∀ s,ok s→bwp P b (env s) (st s) (fun e' σ' => @NextQ (Env.keep e' live) σ' ⟨fun e' σ'=>∃ s',e'=env s'∧Store.sub (st s') σ'∧m s'<m s∧ok s'⟩) r x) : @LoopQ P e σ ⟨live,b,n,r,x⟩:=by
 refine ⟨fun k e σ=>∃ s,ok s∧env s=e∧st s=σ∧m s=k,⟨m s0,st s0,hs,s0,h0,he.symm,rfl,rfl⟩,?_⟩
 rintro k e σ ⟨s,hok,rfl,rfl,rfl⟩
 refine ya b _ _ _ _ _ _ _ _ ?_ (fun _ _ h=>h) (fun _ _ _ h=>h) (hstep s hok)
 rintro e' σ' ⟨s',h1,h2,h3,h4⟩
 exact ⟨m s',st s',h3,h2,s',h4,h1.symm,rfl,rfl⟩
theorem NextQ.to {S:Type} {env:S→Env} {st:S→Store} {ok:S→Prop} {m:S→Nat} {s:S} {e:Env} {σ:Store} (s':S) (h1:e=env s') (h2:Store.sub (st s') σ) (h3:m s'<m s) (h4:ok s') :
 @NextQ e σ ⟨fun e' σ'=>∃ s',e'=env s'∧Store.sub (st s') σ'∧m s'<m s∧ok s'⟩:=⟨s',h1,h2,h3,h4⟩
end Go.Am
namespace Go.Am
class AllocK where
 K:Nat→Prop
def AllocQ (σ:Store) [k:AllocK]:Prop:=∀ id,σ id=none→k.K id
theorem z7k {P:Program} {e:Env} {σ:Store} {d:Option Nat} {xs:List Opd} {K:Env→Store→Prop} {k:AK}:bop P d (.alloc k) xs e σ K↔wit (evs e xs) fun as=>wit (alv k as) fun p => @AllocQ σ ⟨fun id=>K (Env.putO d (p.2 id) e) (σ.set id p.1)⟩:=za2
theorem AllocQ.i0 {σ:Store} {K:Nat→Prop} (h:∀ id,σ id=none→K id) : @AllocQ σ ⟨K⟩:=h
theorem AllocQ.i1 {σ:Store} {i:Nat} {o:Obj} {K:Nat→Prop} (h:∀ id,¬ id=i→¬ i=id→σ id=none→K id) : @AllocQ (σ.set i o) ⟨K⟩:=fun id hid=>by
 obtain ⟨⟨h1,h2⟩,h3⟩:=u_setN.1 hid
 exact h id h1 h2 h3
theorem AllocQ.i2 {σ:Store} {i j:Nat} {o p:Obj} {K:Nat→Prop} (h:∀ id,¬ id=i→¬ i=id→¬ id=j→¬ j=id→σ id=none→K id) : @AllocQ ((σ.set i o).set j p) ⟨K⟩:=fun id hid=>by
 obtain ⟨⟨h1,h2⟩,h3⟩:=u_setN.1 hid
 obtain ⟨⟨h4,h5⟩,h6⟩:=u_setN.1 h3
 exact h id h4 h5 h1 h2 h6
end Go.Am
namespace Go.Am
def slO {α:Type} (s:Nat) (c:α→List AV):Option (List α)→AV
 | none => .nils
 | some l => .sl s (l.map c)
section
variable {α:Type} {s:Nat} {c:α→List AV} {o:Option (List α)}
theorem z9k:pv .len [slO s c o]=some (.int .i64 (o.getD []).length):=by cases o <;> simp [slO,pv,pLen]
theorem z9f {k:IntKind} {x:Int}:pv (.idx s) [slO s c o,.int k x]=if 0≤x then (((o.getD []).map c)[x.toNat]?).map .ep else none:=by
 cases o <;> simp [slO,pv,pIdx]
theorem zdu:(slO s c o).isTup=false:=by cases o <;> rfl
theorem zd3:(slO s c o).cells=[slO s c o]:=by cases o <;> rfl
theorem Pur.nil {P:Program} {f:Nat} {args:List AV} {v:AV} (k s:Nat) (ha:args[k]? = some .nils) (h:Pur P f (args.set k (.sl s [])) v):Pur P f args v:=fun σ =>
 ACalls.weakArgs (h σ).1 (WeakL.nil (Q:=fun args' σ'=>ACalls P f args' σ' (fun a s=>s=σ∧a=v)) k s ha (WeakL.pure (h σ)))
end
end Go.Am
namespace Go.Am
class EndK where
 slots:List RS
 Q:AV→Store→Prop
def EndQ (e:Env) (τ:Store) [k:EndK]:Prop:=Ends k.slots k.Q e τ
theorem EndQ.to {slots:List RS} {Q:AV→Store→Prop} {e:Env} {τ:Store} (σ:Store) (v:AV) (h1:e.res τ slots=some v) (h2:Store.sub σ τ) (h3:Q v σ) : @EndQ e τ ⟨slots,Q⟩:=z65 ⟨v,h1,h2,h3⟩
theorem EndQ.frz {slots:List RS} {Q:AV→Store→Prop} {e:Env} {τ:Store} (id esz off len:Nat) (es:List (List AV)) (σ:Store) (h1:e.res τ slots=some (.os id esz off len)) (h2:τ id=some (.arr esz es))
 (hle:off+len≤es.length) (h3:Store.sub σ (τ.del id)) (h4:Q (.sl esz ((es.drop off).take len)) σ) : @EndQ e τ ⟨slots,Q⟩ :=
 ⟨_,h1,Weak.of_one (WeakL.freeze 0 rfl h2 hle (WeakL.forget h3 (WeakL.pure ⟨_,rfl,h4⟩)))⟩
theorem zg {P:Program} {fi:Nat} (F:Fn P fi) {args:List AV} {σ:Store} {Q:AV→Store→Prop} (hargs:args.length≤F.N)
 (h:bwp P F.b (argE 0 args) σ (fun e τ => @EndQ e τ ⟨F.slots,Q⟩) (fun e τ => @EndQ e τ ⟨F.slots,Q⟩) (fun _ _ _=>False)):ACalls P fi args σ Q:=z12 F hargs h
theorem ACalls.Q {P:Program} {f:Nat} {args:List AV} {σ:Store} {Q K:AV→Store→Prop} (h:ACalls P f args σ Q) (hK:∀ a s,Q a s→K a s) : @CallQ P f args σ ⟨K⟩:=v_acalls.1 (h.mono hK)
theorem Store.set_self {σ:Store} {i:Nat} {o:Obj} (h:σ i=some o):σ.set i o=σ:=by funext j;simp only [Store.set];split <;> simp_all
end Go.Am
namespace Go.Am
class WkK where
 K:Env→Store→Prop
def WkQ (e:Env) (σ:Store) [k:WkK]:Prop:=WeakE e σ k.K
theorem zf8 {P:Program} {i:Nat} {b:BC} {e:Env} {σ:Store} {n r:Env→Store→Prop} {x:Nat→Env→Store→Prop}:bwp P (.wk i b) e σ n r x ↔ @WkQ e σ ⟨fun e σ=>bwp P b e σ n r x⟩:=uw Iff.rfl
theorem WkQ.of {e:Env} {σ:Store} {K:Env→Store→Prop} (h:WeakE e σ K) : @WkQ e σ ⟨K⟩:=h
end Go.Am
attribute [irreducible] Go.Am.WkQ Go.Am.LoopQ Go.Am.NextQ Go.Am.AllocQ Go.Am.EndQ
namespace Go.Am
set_option linter.defProp false
def vcPre :=
 And.intro @zca (And.intro @ze0 (And.intro @zc9 (And.intro @ze1 (And.intro @zdz (And.intro @zc8 (And.intro @ze2 (And.intro @za5 (And.intro @zc2 (And.intro @zc7 (And.intro @zc3 (And.intro @z7k (And.intro @zc5 (And.intro @z7l (And.intro @za3 (And.intro @v_acalls (And.intro @zdw (And.intro @zc6 (And.intro @zc4 (And.intro @zdy (And.intro @zf7 (And.intro @zdx (And.intro @yr (And.intro @z7p (And.intro @za6 (And.intro @z7o (And.intro @za7 (And.intro @z7n (And.intro @zen (And.intro @zel (And.intro @zcp (And.intro @zcm (And.intro @zem (And.intro @zcq (And.intro @zcl (And.intro @zck (And.intro @zco (And.intro @zcn (And.intro @zek (And.intro @zei (And.intro @zeh (And.intro @zej @zf8)))))))))))))))))))))))))))))))))))))))))
def vcPost :=
 And.intro @zdb (And.intro @z5z (And.intro @z5y (And.intro @z9j (And.intro @zb6 (And.intro @z9u (And.intro @z9t (And.intro @zb2 (And.intro @zb1 (And.intro @zb3 (And.intro @z98 (And.intro @z99 (And.intro @zaw (And.intro @zd1 (And.intro @zdh (And.intro @z7w (And.intro @zdt (And.intro @zdi (And.intro @zdn (And.intro @zdo (And.intro @zcz (And.intro @zf3 (And.intro @zdv (And.intro @z7a (And.intro @zd8 (And.intro @zdk (And.intro @zdf (And.intro @zde (And.intro @zdc (And.intro @zda (And.intro @zdp (And.intro @zdq (And.intro @zdl (And.intro @zdj (And.intro @zd5 (And.intro @z5t (And.intro @zd7 (And.intro @zbf (And.intro @zd6 (And.intro @zbe (And.intro @z9c (And.intro @z9a (And.intro @z9b (And.intro @z4u (And.intro @z4r (And.intro @z4s (And.intro @z4t (And.intro @z5x (And.intro @z5u (And.intro @z5v (And.intro @z5w (And.intro @zb4 (And.intro @z9d (And.intro @z9i (And.intro @z9g (And.intro @z9h (And.intro @z7d (And.intro @z9n (And.intro @z9l (And.intro @z9m (And.intro @z4v (And.intro @z63 (And.intro @z62 (And.intro @z61 (And.intro @zbo (And.intro @zbn (And.intro @zbm (And.intro @z91 (And.intro @zd9 (And.intro @zb9 (And.intro @zba (And.intro @zdg (And.intro @z9s (And.intro @zbl (And.intro @zbk (And.intro @zdm (And.intro @zf4 (And.intro @zdr (And.intro @zf5 (And.intro @zds (And.intro @z92 (And.intro @z93 (And.intro @z7b (And.intro @z7c (And.intro @zb0 (And.intro @zaz (And.intro @z95 (And.intro @z94 (And.intro @zay (And.intro @z4q (And.intro @zax (And.intro @z96 (And.intro @z9w (And.intro @z9x (And.intro @z7g (And.intro @z7h (And.intro @zbz (And.intro @zby (And.intro @z9z (And.intro @z9y (And.intro @zbx (And.intro @z4w (And.intro @zbw (And.intro @za0 (And.intro @zf2 (And.intro @zbj (And.intro @zdd (And.intro @zbq (And.intro @zd2 (And.intro @z7x (And.intro @zbr (And.intro @zbp (And.intro @za1 (And.intro @zc1 (And.intro @zc0 (And.intro @z90 (And.intro @zav (And.intro @z9p (And.intro @z9q (And.intro @z9r (And.intro @z9o (And.intro @zb7 (And.intro @zf6 (And.intro @zd0 (And.intro @z9k (And.intro @z9f (And.intro @zdu (And.intro @zd3 (And.intro @z97 (And.intro @zbg (And.intro @zbh (And.intro @zbi (And.intro @zbd (And.intro @zb8 (And.intro @zbs (And.intro @zbt (And.intro @z9e (And.intro @zb5 (And.intro @zbv (And.intro @zbu @z9v)))))))))))))))))))))))))))))))))))))))))))))))))))))))))))))))))))))))))))))))))))))))))))))))))))))))))))))))))))))))))))))))))))))))))))
def vcStd :=
 And.intro @decide_eq_true_eq (And.intro @decide_eq_false_iff_not (And.intro @List.length_cons.{0} (And.intro @List.length_nil.{0} (And.intro @List.drop_zero.{0} (And.intro @List.drop_succ_cons.{0} (And.intro @List.take_succ_cons.{0} (And.intro @List.take_zero.{0} (And.intro @List.drop_nil.{0} (And.intro @List.length_map.{0,0} (And.intro @List.getElem_map.{0,0} (And.intro @Int.toNat_natCast (And.intro @Int.natCast_nonneg (And.intro @Int.ofNat_lt (And.intro @Int.ofNat_le (And.intro @not_true_eq_false (And.intro @exists_prop (And.intro @exists_true_left (And.intro @Option.map_some.{0,0} (And.intro @Option.bind_some.{0,0} (And.intro @true_and (And.intro @and_true (And.intro @true_implies (And.intro @false_implies (And.intro @Bool.not_true (And.intro @Bool.not_not (And.intro @decide_true (And.intro @decide_false (And.intro @Bool.not_false (And.intro @Bool.not_eq_true' (And.intro @Bool.false_eq_true (And.intro @Bool.true_eq_false (And.intro @Store.set_same (And.intro @z3u (And.intro @z7f (And.intro @z7e (And.intro @z64 (And.intro @Option.some.injEq.{0} (And.intro @AV.bool.injEq (And.intro @AV.int.injEq (And.intro @AV.agg.injEq (And.intro @List.cons.injEq.{0} (And.intro @not_false_eq_true (And.intro @and_imp (And.intro @List.cons_append.{0} (And.intro @List.nil_append.{0} (And.intro @List.getElem?_cons_zero.{0} (And.intro @List.getElem?_cons_succ.{0} @implies_true.{0})))))))))))))))))))))))))))))))))))))))))))))))
end Go.Am
namespace Go.Am
open Go.RowKit
def TOk (P:Program):Nat→TypeId→List AV→Prop
 | 0,_,_=>False
 | n+1,t,as=>match P.underlying t with
   | some .bool=>∃ b,as=[.bool b]
   | some (.int k)=>∃ m,as=[.int k m]∧k.min≤m∧m≤k.max
   | some .string=>∃ s:ByteArray,as=[.str s]∧s.size≤reachBytes
   | some (.float .f64)=>∃ m,as=[.flt m]∧m<2 ^ 64
   | some (.slice e)=>as=[.nils]∨∃ es,as=[.sl (P.cellsOf e) es]∧es.length*P.bytesOf e≤reachBytes∧∀ x ∈ es,TOk P n e x
   | some (.struct fs)=>∃ parts:List (List AV),as=parts.flatten∧parts.length=fs.toList.length∧∀ i (h:i<parts.length) (h':i<fs.toList.length),TOk P n fs.toList[i].type parts[i]
   | _=>False
section
variable {H:Type} {enc:TypeId×Value→H} {P:Program} {w:World} {sp:Nat→Bool} {held:Bool}
end
end Go.Am
attribute [irreducible] Go.Am.TOk
namespace Go.Am
open Go.RowKit
def G0 (w:World):Gh:=⟨fun _=>none,fun b=>b<w.heap.size⟩
def S0:Store:=fun _=>none
theorem zez (w:World):Sim (G0 w) S0 w :=
 { lt:=fun b hb=>hb,fin:=⟨0,fun _ _=>rfl⟩,blk:=fun i b base hi=>(by cases hi),used:=fun i o hi=>(by cases hi),
   inj:=fun i j oi oj b base base' hi=>(by cases hi),apart:=fun i o b base hi=>(by cases hi) }
theorem z36 {P:Program} {f:Nat} {as:List AV} (h:ACalls P f as S0 (fun b _=>b = .bool true)) {w:World} {vs:List Value} (hr:Rels (VRel (G0 w) w) as vs) :
 Calls P f vs.toArray w fun e w'=>e = .returned (.bool true)∧Below w.heap.size w w':=by
 have:=h.2 _ w vs (zez w) hr
 refine this.mono ?_
 rintro e w' ⟨v,a,G',σ',rfl,hx,_,hv,rfl⟩
 have hv':=hv.of_bool
 subst hv'
 exact ⟨rfl,hx.os,hx.tape,hx.output,hx.size,fun k hk=>hx.keep k hk (fun ⟨_,_,_,h1,_⟩=>by cases h1)⟩
section
variable {H:Type} {enc:TypeId×Value→H} {P:Program} {w:World} {sp:Nat→Bool} {held:Bool} {t:TypeId} {v:Value} {d:DataW H} {ps:List MemPlace}
end
def Parts (P:Program) (n:Nat):List TypeId→List AV→Prop
 | [],as=>as=[]
 | t::ts,as=>∃ a b,as=a++b∧TOk P n t a∧Parts P n ts b
end Go.Am
namespace Go.Am
open Go.RowKit
theorem ze5 {P:Program} {f:Nat} {as:List AV} (h:Pur P f as (.bool true)) {w:World} {vs:List Value} (hr:Rels (VRel (G0 w) w) as vs) :
 Calls P f vs.toArray w fun e w'=>e = .returned (.bool true)∧Below w.heap.size w w':=z36 ((h S0).mono fun a s h=>h.2) hr
end Go.Am
