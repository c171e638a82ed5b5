/- A part of the proof: a logic for calls over plain values, and the functions that the law reaches, each walked once. -/
import Derived.Test.YtholebikgpnmlaaPF5
import Derived.OpenShut
import Derived.ChangeOld
import Derived.ChangeShapes
import Derived.SizedLaws
import Derived.Below
set_option linter.unusedVariables false
set_option linter.unusedSimpArgs false
set_option linter.unusedSectionVars false
universe u
namespace Go.Am
theorem zm {α:Sort u} {a b:α} (h:a=b):a=b:=h
theorem ut {a b:Prop} (h:a↔b):a↔b:=h
section
variable {e:Env} {k:IntKind} {x y:Int} {a b c:AV} {t:Nat} {r:List Opd}
theorem zdc {u:Nat}:Env.get ((t,a)::e) u=if u=t then some a else e.get u:=zm rfl
def keepO (o:Option AV) (t:Nat) (r:Env):Env:=match o with
 | some a=>(t,a)::r
 | none=>r
theorem z5x {r:Env}:keepO (some a) t r=(t,a)::r:=zm rfl
theorem z5w {r:Env}:keepO none t r=r:=zm rfl
theorem z9j:Env.keep e []=[]:=zm rfl
theorem zb5 {r:List Nat}:Env.keep e (t::r)=keepO (e.get t) t (Env.keep e r):=by
 simp only [Env.keep,keepO];cases e.get t <;> rfl
theorem z9u:Env.putO (some t) a e=(t,a)::e:=zm rfl
theorem z9t:Env.putO none a e=e:=zm rfl
theorem zb1:ev e (.t t)=e.get t:=zm rfl
theorem zb0:ev e (.c a)=some a:=zm rfl
theorem zb2:evs e []=some []:=zm rfl
theorem z98:evs e (.c a::r)=(evs e r).map (a :: ·):=by simp only [evs,ev];cases evs e r <;> rfl
theorem z99:evs e (.t t::r)=(e.get t).bind fun a=>(evs e r).map (a :: ·):=by simp only [evs,ev];cases e.get t <;> cases evs e r <;> rfl
theorem zav {i:Nat}:argE i []=[]:=zm rfl
theorem zd2 {i:Nat} {l:List AV}:argE i (a::l)=(i,a)::argE (i+1) l:=zm rfl
theorem zdi:pv .mov [a]=some a:=zm rfl
theorem z7v:pv (.bin .add) [.int k x,.int k y]=some (.int k (k.wrap (x+y))):=by cases k <;> rfl
theorem zdu:pv (.bin .sub) [.int k x,.int k y]=some (.int k (k.wrap (x - y))):=by cases k <;> rfl
theorem zdj:pv (.bin .mul) [.int k x,.int k y]=some (.int k (k.wrap (x*y))):=by cases k <;> rfl
theorem zdo:pv (.bin .quo) [.int k x,.int k y]=if y=0 then none else some (.int k (k.wrap (x.tdiv y))):=by cases k <;> rfl
theorem zdp:pv (.bin .rem) [.int k x,.int k y]=if y=0 then none else some (.int k (x.tmod y)):=by cases k <;> rfl
theorem zd0:pv (.bin .and) [.int k x,.int k y]=some (.int k (bitInt .and k x y)):=by cases k <;> rfl
theorem zex:pv (.bin .or) [.int k x,.int k y]=some (.int k (bitInt .or k x y)):=by cases k <;> rfl
theorem zdw:pv (.bin .xor) [.int k x,.int k y]=some (.int k (bitInt .xor k x y)):=by cases k <;> rfl
theorem z7f:pv (.bin .andNot) [.int k x,.int k y]=some (.int k (bitInt .andNot k x y)):=by cases k <;> rfl
theorem zd9:pv (.bin .eql) [.int k x,.int k y]=some (.bool (decide (x=y))):=by cases k <;> rfl
theorem zdl:pv (.bin .neq) [.int k x,.int k y]=some (.bool (!decide (x=y))):=by cases k <;> rfl
theorem zdg:pv (.bin .lss) [.int k x,.int k y]=some (.bool (decide (x<y))):=by cases k <;> rfl
theorem zdf:pv (.bin .leq) [.int k x,.int k y]=some (.bool (decide (x≤y))):=by cases k <;> rfl
theorem zdd:pv (.bin .gtr) [.int k x,.int k y]=some (.bool (decide (y<x))):=by cases k <;> rfl
theorem zdb:pv (.bin .geq) [.int k x,.int k y]=some (.bool (decide (y≤x))):=by cases k <;> rfl
theorem zdq {j:IntKind}:pv (.bin .shl) [.int k x,.int j y]=if y<0 then none else some (.int k (shlInt k x y)):=zm rfl
theorem zdr {j:IntKind}:pv (.bin .shr) [.int k x,.int j y]=if y<0 then none else some (.int k (shrInt k x y)):=zm rfl
theorem zdm {b:Bool}:pv .not [.bool b]=some (.bool !b):=zm rfl
theorem zdk:pv .neg [.int k x]=some (.int k (k.wrap (0 - x))):=zm rfl
theorem zd6:pv .cpl [.int k x]=some (.int k (bitInt .xor k (if k.signed then -1 else k.max) x)):=zm rfl
theorem z5r {j:IntKind}:pv (.conv j) [.int k x]=some (.int j (j.wrap x)):=zm rfl
theorem zd8 {p q:Bool}:pv (.eqb false) [.bool p,.bool q]=some (.bool (p ==q)):=zm rfl
theorem zbc {p q:Bool}:pv (.eqb true) [.bool p,.bool q]=some (.bool (p != q)):=zm rfl
theorem zd7 {j:IntKind} {u v:Int}:pv (.eq2 false k j) [.agg [.int k x,.int j y],.agg [.int k u,.int j v]]=some (.bool (decide (x=u∧y=v))):=by cases k <;> cases j <;> rfl
theorem zbb {j:IntKind} {u v:Int}:pv (.eq2 true k j) [.agg [.int k x,.int j y],.agg [.int k u,.int j v]]=some (.bool (!decide (x=u∧y=v))):=by cases k <;> cases j <;> rfl
theorem z9c {i o n:Nat}:pv (.fld n) [.ptr i o]=some (.ptr i (o+n)):=zm rfl
theorem z9a {i s j o n:Nat}:pv (.fld n) [.aptr i s j o]=some (.aptr i s j (o+n)):=zm rfl
theorem z9b {n:Nat} {l:List AV}:pv (.fld n) [.ep l]=some (.ep (l.drop n)):=zm rfl
theorem z4m {i o:Nat}:pv .nilchk [.ptr i o]=some (.ptr i o):=zm rfl
theorem z4j {i s j o:Nat}:pv .nilchk [.aptr i s j o]=some (.aptr i s j o):=zm rfl
theorem z4k {l:List AV}:pv .nilchk [.ep l]=some (.ep l):=zm rfl
theorem z4l {f:Nat} {l:List AV}:pv .nilchk [.fn f l]=some (.fn f l):=zm rfl
theorem z5v {i o:Nat} {g:Bool}:pv (.eqnil g true) [.ptr i o]=some (.bool g):=by cases g <;> rfl
theorem z5s {i s j o:Nat} {g:Bool}:pv (.eqnil g true) [.aptr i s j o]=some (.bool g):=by cases g <;> rfl
theorem z5t {l:List AV} {g:Bool}:pv (.eqnil g true) [.ep l]=some (.bool g):=by cases g <;> rfl
theorem z5u {g:Bool}:pv (.eqnil g true) [.nil]=some (.bool (!g)):=by cases g <;> rfl
theorem zb3 {o s:Nat} {l:List AV}:pv (.fldv o s true) [.agg l]=if o+s≤l.length then some (.agg ((l.drop o).take s)) else none:=zm rfl
theorem z9d {o s:Nat} {l:List AV}:pv (.fldv o s false) [.agg l]=l[o]? := zm rfl
theorem z9i {s:Nat} {es:List (List AV)}:pv (.idx s) [.sl s es,.int k x]=if 0≤x then (es[x.toNat]?).map .ep else none:=by simp [pv,pIdx]
theorem z9g {s:Nat}:pv (.idx s) [.nils,.int k x]=none:=zm rfl
theorem z9h {s i o n:Nat}:pv (.idx s) [.os i s o n,.int k x]=if 0≤x∧x<(n:Int) then some (.aptr i s (o+x.toNat) 0) else none:=by simp [pv,pIdx]
theorem z7i {i o n s:Nat}:pv (.idxa n s) [.ptr i o,.int k x]=if 0≤x∧x<(n:Int) then some (.ptr i (o+x.toNat*s)) else none:=zm rfl
theorem z9n {s:Nat} {es:List (List AV)}:pv .len [.sl s es]=some (.int .i64 es.length):=zm rfl
theorem z9l:pv .len [.nils]=some (.int .i64 0):=zm rfl
theorem z9m {i s o n:Nat}:pv .len [.os i s o n]=some (.int .i64 n):=zm rfl
theorem z4n {s:Nat}:pv (.slice s true true) [a,.int .i64 x,.int .i64 y]=pSlice s a x (some y):=by cases a <;> rfl
theorem z60 {s:Nat}:pv (.slice s true false) [a,.int .i64 x]=pSlice s a x none:=by cases a <;> rfl
theorem z5z {s:Nat}:pv (.slice s false true) [a,.int .i64 x]=pSlice s a 0 (some x):=by cases a <;> rfl
theorem z5y {s:Nat}:pv (.slice s false false) [a]=pSlice s a 0 none:=by cases a <;> rfl
theorem zbl {s:Nat} {es:List (List AV)} {h:Option Int}:pSlice s (.sl s es) x h=if 0≤x∧x≤h.getD es.length∧h.getD es.length≤(es.length:Int) then some (.sl s ((es.take (h.getD es.length).toNat).drop x.toNat)) else none:=by simp [pSlice]
theorem zbk {s i o n:Nat} {h:Option Int}:pSlice s (.os i s o n) x h=if 0≤x∧x≤h.getD n∧h.getD n≤(n:Int) then some (.os i s (o+x.toNat) ((h.getD n).toNat - x.toNat)) else none:=by simp [pSlice]
theorem zbj {s:Nat} {h:Option Int}:pSlice s .nils x h=if 0≤x∧x≤h.getD 0∧h.getD 0≤0 then some .nils else none:=zm rfl
theorem z91 {z:List AV} {p:List (Nat×Nat)} {as:List AV}:pv (.build z p) as=(pBuild z p as).map .agg:=zm rfl
theorem zda {i:Nat} {l:List AV}:pv (.ext i) [.tup l]=l[i]? := zm rfl
theorem zb8 {f:Nat} {l:List AV}:pv (.mkfn f) l=some (.fn f l):=zm rfl
theorem zb9 {f:Nat}:pv (.mkif f) [a]=some (.iface f a):=zm rfl
theorem zdh {l:List AV} {m:Bool}:pv (.minmax m) (a::l)=pMin m a l:=zm rfl
theorem z9s {m:Bool}:pMin m a []=some a:=by cases a <;> rfl
theorem zbi {l:List AV}:pMin false (.int k x) (.int k y::l)=pMin false (.int k (if y<x then y else x)) l:=by cases k <;> rfl
theorem zbh {l:List AV}:pMin true (.int k x) (.int k y::l)=pMin true (.int k (if y>x then y else x)) l:=by cases k <;> rfl
theorem zdn {l:List AV}:pBuild l [] []=some l:=zm rfl
theorem zey {l as:List AV} {o s:Nat} {ps:List (Nat×Nat)}:pBuild l ((o,s)::ps) (a::as)=if a.cells.length=s∧a.isTup=false then (splice o a.cells l).bind fun cs=>pBuild cs ps as else none:=zm rfl
theorem zds {l:List AV}:splice 0 [] l=some l:=by cases l <;> rfl
theorem zez {l v:List AV}:splice 0 (a::v) (b::l)=(splice 0 v l).map (a :: ·):=zm rfl
theorem zdt {n:Nat} {l v:List AV}:splice (n+1) v (b::l)=(splice n v l).map (b :: ·):=zm rfl
theorem z92 {l:List AV}:(AV.agg l).cells=l:=zm rfl
theorem z93:(AV.int k x).cells=[.int k x]:=zm rfl
theorem z7g {p:Bool}:(AV.bool p).cells=[.bool p]:=zm rfl
theorem z7h:AV.nils.cells=[.nils]:=zm rfl
theorem zaz {s:Nat} {l:List (List AV)}:(AV.sl s l).cells=[.sl s l]:=zm rfl
theorem zay {i s o n:Nat}:(AV.os i s o n).cells=[.os i s o n]:=zm rfl
theorem z95 {i o:Nat}:(AV.ptr i o).cells=[.ptr i o]:=zm rfl
theorem z94:AV.nil.cells=[.nil]:=zm rfl
theorem zax {i:Nat}:(AV.mp i).cells=[.mp i]:=zm rfl
theorem z4i:AV.nilmap.cells=[.nilmap]:=zm rfl
theorem zaw {f:Nat} {l:List AV}:(AV.fn f l).cells=[.fn f l]:=zm rfl
theorem z96 {s:ByteArray}:(AV.str s).cells=[.str s]:=zm rfl
theorem z9w {l:List AV}:(AV.agg l).isTup=false:=zm rfl
theorem z9x:(AV.int k x).isTup=false:=zm rfl
theorem z7l {p:Bool}:(AV.bool p).isTup=false:=zm rfl
theorem z7m:AV.nils.isTup=false:=zm rfl
theorem zbw {s:Nat} {l:List (List AV)}:(AV.sl s l).isTup=false:=zm rfl
theorem zbv {i s o n:Nat}:(AV.os i s o n).isTup=false:=zm rfl
theorem z9z {i o:Nat}:(AV.ptr i o).isTup=false:=zm rfl
theorem z9y:AV.nil.isTup=false:=zm rfl
theorem zbu {i:Nat}:(AV.mp i).isTup=false:=zm rfl
theorem z4o:AV.nilmap.isTup=false:=zm rfl
theorem zbt {f:Nat} {l:List AV}:(AV.fn f l).isTup=false:=zm rfl
theorem za0 {s:ByteArray}:(AV.str s).isTup=false:=zm rfl
variable {σ:Store}
theorem zew {n:Nat}:ldv (.ld n true) [a] σ=(rd σ n a).map .agg:=by cases a <;> rfl
def oneV:List AV→Option AV
 | [c]=>some c
 | _=>none
theorem zbg:oneV [a]=some a:=zm rfl
theorem zde {n:Nat}:ldv (.ld n false) [a] σ=(rd σ 1 a).bind oneV:=zm rfl
theorem zbn {n:Nat} {l:List AV}:rd σ n (.ep l)=takeN 0 n l:=zm rfl
def boxO:Option Obj→Option (List AV)
 | some (.box l)=>some l
 | _=>none
theorem zd3 {l:List AV}:boxO (some (.box l))=some l:=zm rfl
def arrO (s:Nat):Option Obj→Option (List (List AV))
 | some (.arr s' l)=>if s'=s then some l else none
 | _=>none
theorem z7w {s:Nat} {l:List (List AV)}:arrO s (some (.arr s l))=some l:=by simp [arrO]
theorem zbo {n i o:Nat}:rd σ n (.ptr i o)=(boxO (σ i)).bind fun l=>takeN o n l:=by
 simp only [rd];cases σ i with
 | none=>rfl
 | some p=>cases p <;> rfl
theorem zbm {n i s j o:Nat}:rd σ n (.aptr i s j o)=(arrO s (σ i)).bind fun l=>(l[j]?).bind fun c=>takeN o n c:=by
 simp only [rd];cases σ i with
 | none=>rfl
 | some p=>cases p <;> first | rfl | (simp only [arrO];split <;> rfl)
theorem za1 {o n:Nat} {l:List AV}:takeN o n l=if o+n≤l.length then some ((l.drop o).take n) else none:=zm rfl
theorem zby {i o:Nat} {v:List AV}:wr σ v (.ptr i o)=(boxO (σ i)).bind fun l=>(splice o v l).map fun cs=>σ.set i (.box cs):=by
 simp only [wr];cases σ i with
 | none=>rfl
 | some p=>cases p <;> rfl
theorem zbx {i s j o:Nat} {v:List AV}:wr σ v (.aptr i s j o)=(arrO s (σ i)).bind fun l=>(l[j]?).bind fun c=>(splice o v c).map fun cs=>σ.set i (.arr s (l.set j cs)):=by
 simp only [wr];cases σ i with
 | none=>rfl
 | some p=>cases p <;> first | rfl | (simp only [arrO];split <;> rfl)
theorem z90 {z:List AV}:alv (.alloc z) []=some (.box z,fun id => .ptr id 0):=zm rfl
theorem zau:alv .box [a]=if a.isTup then none else some (.box a.cells,fun id => .ptr id 0):=zm rfl
theorem z9p {s:Nat}:alv (.mksl s 0) []=some (.arr s [],fun id => .os id s 0 0):=zm rfl
theorem z9q {s:Nat}:alv (.mksl s 1) [a]=if a.isTup=false∧a.cells.length=s then some (.arr s [a.cells],fun id => .os id s 0 1) else none:=by
 simp [alv]
theorem z9r {s:Nat}:alv (.mksl s 2) [a,b]=if (a.isTup=false∧a.cells.length=s)∧(b.isTup=false∧b.cells.length=s) then some (.arr s [a.cells,b.cells],fun id => .os id s 0 2) else none:=by
 simp only [alv,List.length_cons,List.length_nil,List.all_cons,List.all_nil,Bool.and_true,Bool.and_eq_true,Bool.not_eq_true',decide_eq_true_eq,List.map]
 simp
theorem z9o:alv .mkmap []=some (.map [],fun id => .mp id):=zm rfl
theorem zb6 {z:List AV} {s n:Nat}:alv (.make s z n) [.int .i64 x,.int .i64 y]=if x=y∧0≤x∧x≤9223372036854775807∧x*n≤281474976710656 then some (.arr s (List.replicate x.toNat z),fun id => .os id s 0 x.toNat) else none:=zm rfl
theorem zf0 {P:Program} {n:Nat} {K:AV→Store→Prop}:lwp P (.st n) [a,b] σ K↔b.isTup=false∧b.cells.length=n∧wit (wr σ b.cells a) fun τ=>K (.tup []) τ:=by
 simp only [lwp]
 cases wr σ b.cells a <;> simp [wit]
theorem zd1 {P:Program} {n m:Nat} {K:AV→Store→Prop}:lwp P (.app n m) [a,b] σ K↔appwp n m a b σ K:=ut Iff.rfl
theorem z97 {P:Program} {f:Nat} {l as:List AV} {K:AV→Store→Prop}:lwp P .callv (.fn f l::as) σ K ↔ @CallQ P f (as++l) σ ⟨K⟩:=by rw [←v_acalls];exact Iff.rfl
theorem zbd {P:Program} {g:Bool} {K:AV→Store→Prop}:lwp P (.nilq g) [a] σ K↔nilqwp g a (fun b=>K b σ):=ut Iff.rfl
theorem zbe {g:Bool} {K:AV→Prop}:nilqwp g .nils K↔K (.bool (!g)):=ut Iff.rfl
theorem zbf {g:Bool} {i s o n:Nat} {K:AV→Prop}:nilqwp g (.os i s o n) K↔K (.bool g):=ut Iff.rfl
theorem z2r {g:Bool} {s:Nat} {l:List (List AV)} {K:AV→Prop} (h:∀ b,(l≠[]→b=g)→K (.bool b)):nilqwp g (.sl s l) K:=by
 cases l with
 | nil=>exact ⟨h true (fun h=>absurd rfl h),h false (fun h=>absurd rfl h)⟩
 | cons x r=>exact h g (fun _=>rfl)
theorem zba {P:Program} {mk:MKey} {K:AV→Store→Prop}:lwp P (.mupd mk) [a,b,c] σ K↔mupdwp mk a b c σ (K (.tup [])):=ut Iff.rfl
theorem zb7 {P:Program} {mk:MKey} {K:AV→Store→Prop}:lwp P (.mdel mk) [a,b] σ K↔mdelwp mk a b σ (K (.tup [])):=ut Iff.rfl
theorem zbp {s:RS}:Env.res e σ [s]=e.rs σ s:=zm rfl
theorem zbq {s s':RS} {l:List RS}:Env.res e σ (s::s'::l)=(e.gets σ (s::s'::l)).map .tup:=zm rfl
theorem z9e:Env.gets e σ []=some []:=zm rfl
theorem zb4 {s:RS} {l:List RS}:Env.gets e σ (s::l)=(e.rs σ s).bind fun a=>(e.gets σ l).map (a :: ·):=by
 simp only [Env.gets];cases e.rs σ s <;> cases e.gets σ l <;> rfl
theorem zbs {n:Nat}:e.rs σ (.t n)=e.get n:=zm rfl
theorem zbr {n s:Nat}:e.rs σ (.c n s true)=(e.get n).bind fun p=>(rd σ s p).map .agg:=by
 simp only [Env.rs];cases e.get n <;> rfl
theorem z9v {n s:Nat}:e.rs σ (.c n s false)=(e.get n).bind fun p=>(rd σ 1 p).bind oneV:=by
 simp only [Env.rs]
 cases e.get n with
 | none=>rfl
 | some p =>
   simp only [Option.bind_some]
   cases rd σ 1 p with
   | none=>rfl
   | some l=>match l with
     | []=>rfl
     | [_]=>rfl
     | _::_::_=>rfl
end
end Go.Am
namespace Go.Am
theorem u_setN {σ:Store} {i j:Nat} {o:Obj}:((σ.set i o) j=none)↔(¬ j=i∧¬ i=j)∧σ j=none:=by
 simp only [Store.set]
 by_cases h:j=i
 ·subst h;simp
 ·simp [h,Ne.symm h]
end Go.Am
namespace Go.Am
theorem z3s {σ:Store} {i j:Nat} {o:Obj} (h:¬ j=i):(σ.set i o) j=σ j:=by simp [Store.set,h]
end Go.Am
namespace Go.Am
theorem z7k {σ τ:Store} {i:Nat} {o:Obj} (h:σ i=none):Store.sub σ (τ.set i o)↔Store.sub σ τ:=by
 constructor
 ·intro hs j p hj
  have:=hs j p hj
  simp only [Store.set] at this
  split at this
  ·rename_i e;subst e;rw [h] at hj;cases hj
  ·exact this
 ·exact fun hs=>Store.sub_upd hs h
theorem z7j {σ τ:Store} {i:Nat} (h:σ i=none):Store.sub σ (τ.del i)↔Store.sub σ τ:=by
 constructor
 ·intro hs j p hj
  have:=hs j p hj
  simp only [Store.del] at this
  split at this
  ·cases this
  ·exact this
 ·intro hs j p hj
  simp only [Store.del]
  split
  ·rename_i e;subst e;rw [h] at hj;cases hj
  ·exact hs j p hj
theorem z61 {σ:Store}:Store.sub σ σ↔True:=⟨fun _=>trivial,fun _=>Store.sub_refl σ⟩
end Go.Am
namespace Go.Am
class LoopK where
 live:List Nat
 b:BC
 n:Env→Store→Prop
 r:Env→Store→Prop
 x:Nat→Env→Store→Prop
def LoopQ (P:Program) (e:Env) (σ:Store) [k:LoopK]:Prop:=∃ I:Nat→Env→Store→Prop,(∃ j σ',Store.sub σ' σ∧I j e σ')∧∀ j e σ,I j e σ →
     bwp P k.b e σ (fun e' σ'=>∃ i σ'',i<j∧Store.sub σ'' σ'∧I i (Env.keep e' k.live) σ'') k.r k.x
theorem zc1 {P:Program} {live:List Nat} {b:BC} {e:Env} {σ:Store} {n r:Env→Store→Prop} {x:Nat→Env→Store→Prop}:bwp P (.loop live b) e σ n r x ↔ @LoopQ P (e.keep live) σ ⟨live,b,n,r,x⟩:=ut Iff.rfl
class NextK where
 K:Env→Store→Prop
def NextQ (e:Env) (σ:Store) [k:NextK]:Prop:=k.K e σ
theorem LoopQ.inv {P:Program} {S:Type} (env:S→Env) (st:S→Store) (ok:S→Prop) (m:S→Nat) (s0:S) {live:List Nat} {b:BC} {e:Env} {σ:Store} {n r:Env→Store→Prop} {x:Nat→Env→Store→Prop} (he:e=env s0) (hs:Store.sub (st s0) σ) (h0:ok s0)
 (hstep:∀ s,ok s→bwp P b (env s) (st s) (fun e' σ' => @NextQ (Env.keep e' live) σ' ⟨fun e' σ'=>∃ s',e'=env s'∧Store.sub (st s') σ'∧m s'<m s∧ok s'⟩) r x) : @LoopQ P e σ ⟨live,b,n,r,x⟩:=by
 refine ⟨fun k e σ=>∃ s,ok s∧env s=e∧st s=σ∧m s=k,⟨m s0,st s0,hs,s0,h0,he.symm,rfl,rfl⟩,?_⟩
 rintro k e σ ⟨s,hok,rfl,rfl,rfl⟩
 refine yf b _ _ _ _ _ _ _ _ ?_ (fun _ _ h=>h) (fun _ _ _ h=>h) (hstep s hok)
 rintro e' σ' ⟨s',h1,h2,h3,h4⟩
 exact ⟨m s',st s',h3,h2,s',h4,h1.symm,rfl,rfl⟩
theorem NextQ.to {S:Type} {env:S→Env} {st:S→Store} {ok:S→Prop} {m:S→Nat} {s:S} {e:Env} {σ:Store} (s':S) (h1:e=env s') (h2:Store.sub (st s') σ) (h3:m s'<m s) (h4:ok s') :
 @NextQ e σ ⟨fun e' σ'=>∃ s',e'=env s'∧Store.sub (st s') σ'∧m s'<m s∧ok s'⟩:=⟨s',h1,h2,h3,h4⟩
end Go.Am
namespace Go.Am
class AllocK where
 K:Nat→Prop
def AllocQ (σ:Store) [k:AllocK]:Prop:=∀ id,σ id=none→k.K id
theorem z7o {P:Program} {e:Env} {σ:Store} {d:Option Nat} {xs:List Opd} {K:Env→Store→Prop} {k:AK}:bop P d (.alloc k) xs e σ K↔wit (evs e xs) fun as=>wit (alv k as) fun p => @AllocQ σ ⟨fun id=>K (Env.putO d (p.2 id) e) (σ.set id p.1)⟩:=za2
theorem AllocQ.i0 {σ:Store} {K:Nat→Prop} (h:∀ id,σ id=none→K id) : @AllocQ σ ⟨K⟩:=h
theorem AllocQ.i1 {σ:Store} {i:Nat} {o:Obj} {K:Nat→Prop} (h:∀ id,¬ id=i→¬ i=id→σ id=none→K id) : @AllocQ (σ.set i o) ⟨K⟩:=fun id hid=>by
 obtain ⟨⟨h1,h2⟩,h3⟩:=u_setN.1 hid
 exact h id h1 h2 h3
theorem AllocQ.i2 {σ:Store} {i j:Nat} {o p:Obj} {K:Nat→Prop} (h:∀ id,¬ id=i→¬ i=id→¬ id=j→¬ j=id→σ id=none→K id) : @AllocQ ((σ.set i o).set j p) ⟨K⟩:=fun id hid=>by
 obtain ⟨⟨h1,h2⟩,h3⟩:=u_setN.1 hid
 obtain ⟨⟨h4,h5⟩,h6⟩:=u_setN.1 h3
 exact h id h4 h5 h1 h2 h6
end Go.Am
namespace Go.Am
def slO {α:Type} (s:Nat) (c:α→List AV):Option (List α)→AV
 | none => .nils
 | some l => .sl s (l.map c)
section
variable {α:Type} {s:Nat} {c:α→List AV} {o:Option (List α)}
theorem z9k:pv .len [slO s c o]=some (.int .i64 (o.getD []).length):=by cases o <;> simp [slO,pv,pLen]
theorem z9f {k:IntKind} {x:Int}:pv (.idx s) [slO s c o,.int k x]=if 0≤x then (((o.getD []).map c)[x.toNat]?).map .ep else none:=by
 cases o <;> simp [slO,pv,pIdx]
theorem zdv:(slO s c o).isTup=false:=by cases o <;> rfl
theorem zd4:(slO s c o).cells=[slO s c o]:=by cases o <;> rfl
theorem Pur.nil {P:Program} {f:Nat} {args:List AV} {v:AV} (k s:Nat) (ha:args[k]? = some .nils) (h:Pur P f (args.set k (.sl s [])) v):Pur P f args v:=fun σ =>
 ACalls.weakArgs (h σ).1 (WeakL.nil (Q:=fun args' σ'=>ACalls P f args' σ' (fun a s=>s=σ∧a=v)) k s ha (WeakL.pure (h σ)))
end
end Go.Am
namespace Go.Am
class EndK where
 slots:List RS
 Q:AV→Store→Prop
def EndQ (e:Env) (τ:Store) [k:EndK]:Prop:=Ends k.slots k.Q e τ
theorem EndQ.to {slots:List RS} {Q:AV→Store→Prop} {e:Env} {τ:Store} (σ:Store) (v:AV) (h1:e.res τ slots=some v) (h2:Store.sub σ τ) (h3:Q v σ) : @EndQ e τ ⟨slots,Q⟩:=z62 ⟨v,h1,h2,h3⟩
theorem EndQ.frz {slots:List RS} {Q:AV→Store→Prop} {e:Env} {τ:Store} (id esz off len:Nat) (es:List (List AV)) (σ:Store) (h1:e.res τ slots=some (.os id esz off len)) (h2:τ id=some (.arr esz es))
 (hle:off+len≤es.length) (h3:Store.sub σ (τ.del id)) (h4:Q (.sl esz ((es.drop off).take len)) σ) : @EndQ e τ ⟨slots,Q⟩ :=
 ⟨_,h1,Weak.of_one (WeakL.freeze 0 rfl h2 hle (WeakL.forget h3 (WeakL.pure ⟨_,rfl,h4⟩)))⟩
theorem zn {P:Program} {fi:Nat} (F:Fn P fi) {args:List AV} {σ:Store} {Q:AV→Store→Prop} (hargs:args.length≤F.N)
 (h:bwp P F.b (argE 0 args) σ (fun e τ => @EndQ e τ ⟨F.slots,Q⟩) (fun e τ => @EndQ e τ ⟨F.slots,Q⟩) (fun _ _ _=>False)):ACalls P fi args σ Q:=z0x F hargs h
theorem ACalls.Q {P:Program} {f:Nat} {args:List AV} {σ:Store} {Q K:AV→Store→Prop} (h:ACalls P f args σ Q) (hK:∀ a s,Q a s→K a s) : @CallQ P f args σ ⟨K⟩:=v_acalls.1 (h.mono hK)
theorem Store.set_self {σ:Store} {i:Nat} {o:Obj} (h:σ i=some o):σ.set i o=σ:=by funext j;simp only [Store.set];split <;> simp_all
end Go.Am
namespace Go.Am
class WkK where
 K:Env→Store→Prop
def WkQ (e:Env) (σ:Store) [k:WkK]:Prop:=WeakE e σ k.K
theorem zf2 {P:Program} {i:Nat} {b:BC} {e:Env} {σ:Store} {n r:Env→Store→Prop} {x:Nat→Env→Store→Prop}:bwp P (.wk i b) e σ n r x ↔ @WkQ e σ ⟨fun e σ=>bwp P b e σ n r x⟩:=ut Iff.rfl
theorem WkQ.of {e:Env} {σ:Store} {K:Env→Store→Prop} (h:WeakE e σ K) : @WkQ e σ ⟨K⟩:=h
end Go.Am
attribute [irreducible] Go.Am.WkQ Go.Am.LoopQ Go.Am.NextQ Go.Am.AllocQ Go.Am.EndQ
namespace Go.Am
set_option linter.defProp false
def vcPre :=
 And.intro @zc7 (And.intro @ze1 (And.intro @zc6 (And.intro @ze2 (And.intro @ze0 (And.intro @zc5 (And.intro @ze3 (And.intro @za5 (And.intro @zbz (And.intro @zc4 (And.intro @zc0 (And.intro @z7o (And.intro @zc2 (And.intro @z7p (And.intro @za3 (And.intro @v_acalls (And.intro @zdx (And.intro @zc3 (And.intro @zc1 (And.intro @zdz (And.intro @zf1 (And.intro @zdy (And.intro @yi (And.intro @z7s (And.intro @za6 (And.intro @z7r (And.intro @za7 (And.intro @z7q (And.intro @zek (And.intro @zei (And.intro @zcm (And.intro @zcj (And.intro @zej (And.intro @zcp (And.intro @zci (And.intro @zch (And.intro @zcl (And.intro @zck (And.intro @zef (And.intro @zed (And.intro @zec (And.intro @zee @zf2)))))))))))))))))))))))))))))))))))))))))
def vcPost :=
 And.intro @zdc (And.intro @z5x (And.intro @z5w (And.intro @z9j (And.intro @zb5 (And.intro @z9u (And.intro @z9t (And.intro @zb1 (And.intro @zb0 (And.intro @zb2 (And.intro @z98 (And.intro @z99 (And.intro @zav (And.intro @zd2 (And.intro @zdi (And.intro @z7v (And.intro @zdu (And.intro @zdj (And.intro @zdo (And.intro @zdp (And.intro @zd0 (And.intro @zex (And.intro @zdw (And.intro @z7f (And.intro @zd9 (And.intro @zdl (And.intro @zdg (And.intro @zdf (And.intro @zdd (And.intro @zdb (And.intro @zdq (And.intro @zdr (And.intro @zdm (And.intro @zdk (And.intro @zd6 (And.intro @z5r (And.intro @zd8 (And.intro @zbc (And.intro @zd7 (And.intro @zbb (And.intro @z9c (And.intro @z9a (And.intro @z9b (And.intro @z4m (And.intro @z4j (And.intro @z4k (And.intro @z4l (And.intro @z5v (And.intro @z5s (And.intro @z5t (And.intro @z5u (And.intro @zb3 (And.intro @z9d (And.intro @z9i (And.intro @z9g (And.intro @z9h (And.intro @z7i (And.intro @z9n (And.intro @z9l (And.intro @z9m (And.intro @z4n (And.intro @z60 (And.intro @z5z (And.intro @z5y (And.intro @zbl (And.intro @zbk (And.intro @zbj (And.intro @z91 (And.intro @zda (And.intro @zb8 (And.intro @zb9 (And.intro @zdh (And.intro @z9s (And.intro @zbi (And.intro @zbh (And.intro @zdn (And.intro @zey (And.intro @zds (And.intro @zez (And.intro @zdt (And.intro @z92 (And.intro @z93 (And.intro @z7g (And.intro @z7h (And.intro @zaz (And.intro @zay (And.intro @z95 (And.intro @z94 (And.intro @zax (And.intro @z4i (And.intro @zaw (And.intro @z96 (And.intro @z9w (And.intro @z9x (And.intro @z7l (And.intro @z7m (And.intro @zbw (And.intro @zbv (And.intro @z9z (And.intro @z9y (And.intro @zbu (And.intro @z4o (And.intro @zbt (And.intro @za0 (And.intro @zew (And.intro @zbg (And.intro @zde (And.intro @zbn (And.intro @zd3 (And.intro @z7w (And.intro @zbo (And.intro @zbm (And.intro @za1 (And.intro @zby (And.intro @zbx (And.intro @z90 (And.intro @zau (And.intro @z9p (And.intro @z9q (And.intro @z9r (And.intro @z9o (And.intro @zb6 (And.intro @zf0 (And.intro @zd1 (And.intro @z9k (And.intro @z9f (And.intro @zdv (And.intro @zd4 (And.intro @z97 (And.intro @zbd (And.intro @zbe (And.intro @zbf (And.intro @zba (And.intro @zb7 (And.intro @zbp (And.intro @zbq (And.intro @z9e (And.intro @zb4 (And.intro @zbs (And.intro @zbr @z9v)))))))))))))))))))))))))))))))))))))))))))))))))))))))))))))))))))))))))))))))))))))))))))))))))))))))))))))))))))))))))))))))))))))))))))
def vcStd :=
 And.intro @decide_eq_true_eq (And.intro @decide_eq_false_iff_not (And.intro @List.length_cons.{0} (And.intro @List.length_nil.{0} (And.intro @List.drop_zero.{0} (And.intro @List.drop_succ_cons.{0} (And.intro @List.take_succ_cons.{0} (And.intro @List.take_zero.{0} (And.intro @List.drop_nil.{0} (And.intro @List.length_map.{0,0} (And.intro @List.getElem_map.{0,0} (And.intro @Int.toNat_natCast (And.intro @Int.natCast_nonneg (And.intro @Int.ofNat_lt (And.intro @Int.ofNat_le (And.intro @not_true_eq_false (And.intro @exists_prop (And.intro @exists_true_left (And.intro @Option.map_some.{0,0} (And.intro @Option.bind_some.{0,0} (And.intro @true_and (And.intro @and_true (And.intro @true_implies (And.intro @false_implies (And.intro @Bool.not_true (And.intro @Bool.not_not (And.intro @decide_true (And.intro @decide_false (And.intro @Bool.not_false (And.intro @Bool.not_eq_true' (And.intro @Bool.false_eq_true (And.intro @Bool.true_eq_false (And.intro @Store.set_same (And.intro @z3s (And.intro @z7k (And.intro @z7j (And.intro @z61 (And.intro @Option.some.injEq.{0} (And.intro @AV.bool.injEq (And.intro @AV.int.injEq (And.intro @AV.agg.injEq (And.intro @List.cons.injEq.{0} (And.intro @not_false_eq_true (And.intro @and_imp (And.intro @List.cons_append.{0} (And.intro @List.nil_append.{0} (And.intro @List.getElem?_cons_zero.{0} (And.intro @List.getElem?_cons_succ.{0} @implies_true.{0})))))))))))))))))))))))))))))))))))))))))))))))
end Go.Am
namespace Go.Am
open Go.RowKit
def TOk (P:Program):Nat→TypeId→List AV→Prop
 | 0,_,_=>False
 | n+1,t,as=>match P.underlying t with
   | some .bool=>∃ b,as=[.bool b]
   | some (.int k)=>∃ m,as=[.int k m]∧k.min≤m∧m≤k.max
   | some .string=>∃ s:ByteArray,as=[.str s]∧s.size≤reachBytes
   | some (.float .f64)=>∃ m,as=[.flt m]∧m<2 ^ 64
   | some (.slice e)=>as=[.nils]∨∃ es,as=[.sl (P.cellsOf e) es]∧es.length*P.bytesOf e≤reachBytes∧∀ x ∈ es,TOk P n e x
   | some (.struct fs)=>∃ parts:List (List AV),as=parts.flatten∧parts.length=fs.toList.length∧∀ i (h:i<parts.length) (h':i<fs.toList.length),TOk P n fs.toList[i].type parts[i]
   | _=>False
def tiles (P:Program):List Field→Nat→Nat→Bool
 | [],o,n=>o ==n
 | f::r,o,n=>f.offset ==o && tiles P r (o+P.cellsOf f.type) n
def okTy (P:Program):Nat→TypeId→Bool
 | 0,_=>false
 | n+1,t=>match P.underlying t with
   | some .bool | some (.int _) | some .string | some (.float .f64)=>true
   | some (.slice e)=>decide (0<P.cellsOf e) && okTy P n e
   | some (.struct fs)=>tiles P fs.toList 0 (P.cellsOf t) && fs.toList.all fun f=>okTy P n f.type
   | _=>false
theorem xr {α:Type} {Q:Nat→α→Prop}:∀ (n:Nat),(∀ i,i<n→∃ x,Q i x)→∃ l:List α,l.length=n∧∀ i (h:i<l.length),Q i l[i]
 | 0,_=>⟨[],rfl,fun i h=>by simp at h⟩
 | n+1,h=>by
   obtain ⟨l,hl,hq⟩:=xr n (fun i hi=>h i (by omega))
   obtain ⟨x,hx⟩:=h n (by omega)
   refine ⟨l++[x],by simp [hl],fun i hi => ?_⟩
   simp only [List.length_append,List.length_cons,List.length_nil,hl] at hi
   by_cases hin:i<n
   ·rw [List.getElem_append_left (by omega)];exact hq i (by omega)
   ·have:i=n:=by omega
    subst this
    rw [List.getElem_append_right (by omega)];simp [hl];exact hx
section
variable {H:Type} {enc:TypeId×Value→H} {P:Program} {w:World} {sp:Nat→Bool} {held:Bool}
theorem vw {e:TypeId}:∀ {l:List (DataW H)} {d:DataW H},d ∈ l→∀ n ∈ d.weights P e,n ∈ DataW.weightsAll P e l
 | x::l,d,hd,n,hn=>by
   simp only [DataW.weightsAll,List.mem_append]
   rcases List.mem_cons.1 hd with rfl | h
   ·exact .inl hn
   ·exact .inr (vw h n hn)
theorem qj {G:Gh}:∀ (fs:List Field) (parts:List (List AV)) (cs:List Value) (o n:Nat),tiles P fs o n=true→cs.length=n→o≤n→parts.length=fs.length →
 (∀ i (h:i<parts.length) (h':i<fs.length),Rels (VRel G w) parts[i] ((cs.drop fs[i].offset).take (P.cellsOf fs[i].type))∧∀ a ∈ parts[i],a.flat=true) →
 Rels (VRel G w) parts.flatten (cs.drop o)∧∀ a ∈ parts.flatten,a.flat=true
 | [],parts,cs,o,n,ht,hn,ho,hl,h=>by
   have:parts=[]:=by cases parts with | nil=>rfl | cons _ _=>simp at hl
   subst this
   simp only [tiles,beq_iff_eq] at ht
   have:cs.drop o=[]:=List.drop_eq_nil_of_le (by omega)
   rw [this]
   exact ⟨.nil,by simp⟩
 | f::fs,[],cs,o,n,ht,hn,ho,hl,h=>by simp at hl
 | f::fs,p::parts,cs,o,n,ht,hn,ho,hl,h=>by
   simp only [tiles,Bool.and_eq_true,beq_iff_eq] at ht
   obtain ⟨h1,h2⟩:=h 0 (by simp) (by simp)
   simp only [List.getElem_cons_zero] at h1 h2
   rw [ht.1] at h1
   have ho':o+P.cellsOf f.type≤n:=by
    have:∀ (fs:List Field) (o:Nat),tiles P fs o n=true→o≤n:=by
     intro fs
     induction fs with
     | nil=>intro o h;simp only [tiles,beq_iff_eq] at h;omega
     | cons f fs ih=>intro o h;simp only [tiles,Bool.and_eq_true] at h;have:=ih _ h.2;omega
    exact this _ _ ht.2
   obtain ⟨g1,g2⟩:=qj fs parts cs (o+P.cellsOf f.type) n ht.2 hn ho' (by simpa using hl) (fun i hi hi'=>by
    have:=h (i+1) (by simp;omega) (by simp;omega)
    simpa using this)
   have e:cs.drop o=(cs.drop o).take (P.cellsOf f.type)++cs.drop (o+P.cellsOf f.type):=by
    rw [←List.drop_drop];exact (List.take_append_drop _ _).symm
   rw [e]
   refine ⟨h1.append g1,fun a ha => ?_⟩
   simp only [List.flatten_cons,List.mem_append] at ha
   exact ha.elim (h2 a) (g2 a)
theorem vi {G:Gh} (hI:∀ b,b<w.heap.size→G.I b):∀ (k:Nat) (t:TypeId) (cs:List Value) (x:DataW H×List MemPlace) (fuel:Nat),okTy P k t=true →
 DataW.trod enc P w 0 sp held fuel t cs=some x→(∀ n ∈ x.1.weights P t,n≤reachBytes)→∃ as,TOk P k t as∧Rels (VRel G w) as cs∧∀ a ∈ as,a.flat=true
 | 0,t,cs,x,fuel,hk,_,_=>by simp [okTy] at hk
 | k+1,t,cs,x,fuel,hk,h,hz=>by
   unfold okTy at hk
   unfold TOk
   split at hk
   ·rename_i ht
    obtain ⟨b,rfl,rfl⟩:=DataW.trod_bool ht h
    exact ⟨_,⟨b,rfl⟩,.cons (.bool b) .nil,by simp [AV.flat]⟩
   ·rename_i q ht
    obtain ⟨n,rfl,rfl,hw⟩:=DataW.trod_int ht h
    simp only [Lit.wf,Bool.and_eq_true,decide_eq_true_eq] at hw
    exact ⟨_,⟨n,rfl,hw⟩,.cons (.int q n) .nil,by simp [AV.flat]⟩
   ·rename_i ht
    obtain ⟨s,rfl,rfl,hw⟩:=DataW.trod_string ht h
    refine ⟨_,⟨s,rfl,?_⟩,.cons (.str s) .nil,by simp [AV.flat]⟩
    have:=hz s.data.toList.length (by simp [DataW.weights])
    simpa using this
   ·rename_i ht
    cases fuel with
    | zero=>simp [DataW.trod] at h
    | succ m =>
      unfold DataW.trod at h
      rw [ht] at h
      split at h <;> simp_all
      rename_i q n _ hq
      obtain ⟨⟨rfl,hw⟩,_⟩:=h
      subst hq
      simp only [Lit.wf,decide_eq_true_eq] at hw
      exact ⟨_,⟨_,rfl,hw⟩,.cons (.flt _) .nil,by simp [AV.flat]⟩
   ·rename_i e ht
    simp only [Bool.and_eq_true,decide_eq_true_eq] at hk
    rcases DataW.trod_slice ht h with ⟨rfl,rfl⟩ | ⟨a,len,cap,elems,rest,m,_,rfl,rfl,hb,hl,hm,hlen,hel,_,_⟩
    ·exact ⟨_,.inl rfl,.cons .nils .nil,by simp [AV.flat]⟩
    have hz':∀ d ∈ elems.map (·.1),∀ n ∈ d.weights P e,n≤reachBytes:=fun d hd n hn=>by
     refine hz n ?_
     simp only [DataW.weights,ht,List.mem_cons,List.mem_append]
     exact .inr (.inl (vw hd n hn))
    have hz0:len*P.bytesOf e≤reachBytes:=by
     have:=hz ((elems.map (·.1)).length*P.bytesOf e+(rest.map (·.1)).length*P.bytesOf e) (by simp [DataW.weights,ht,Nat.add_mul])
     simp only [List.length_map,hlen] at this
     omega
    have hall:∀ i,i<len→∃ as,TOk P k e as∧∃ ci,w.cells? 0 (a.add (i*P.cellsOf e)) (P.cellsOf e)=some ci∧Rels (VRel G w) as ci∧∀ a ∈ as,a.flat=true:=fun i hi=>by
     have h1:=hel i hi
     have hi':i<elems.length:=by omega
     rw [List.getElem?_eq_getElem hi'] at h1
     obtain ⟨ci,h2,h3⟩:=Option.bind_eq_some_iff.1 h1
     obtain ⟨as,g1,g2,g3⟩:=vi hI k e ci elems[i] m hk.2 h3 (hz' _ (List.mem_map_of_mem (List.getElem_mem hi')))
     exact ⟨as,g1,ci,h2,g2,g3⟩
    obtain ⟨es,hes,hq⟩:=xr len hall
    refine ⟨_,.inr ⟨es,rfl,by rw [hes];exact hz0,fun x hx => ?_⟩,.cons ?_ .nil,by simp [AV.flat]⟩
    ·obtain ⟨i,hi,rfl⟩:=List.getElem_of_mem hx
     exact (hq i hi).1
    ·by_cases h0:len=0
     ·have:es=[]:=List.length_eq_zero_iff.1 (by omega)
      subst this;subst h0
      exact .sl0
     have hne:es≠[]:=fun e=>h0 (by rw [←hes,e];rfl)
     obtain ⟨_,ci,h2,_,_⟩:=hq 0 (by omega)
     obtain ⟨_,h3,h4⟩:=World.cells?_some h2
     have h5:=h4 0 hk.1
     rw [List.getElem?_eq_getElem (by omega)] at h5
     simp only [Nat.zero_mul,Addr.add,if_true] at h5
     obtain ⟨b,off,spot⟩:=a
     have hspot:spot=none:=by
      cases spot with
      | none=>rfl
      | some s =>
        simp only [World.cell?] at h5
        split at h5 <;> simp at h5
     subst hspot
     have hb':b<w.heap.size:=by
      simp only [World.cell?] at h5
      split at h5
      ·rename_i hh
       rcases Nat.lt_or_ge b w.heap.size with h' | h'
       ·exact h'
       ·simp [h'] at hh
      ·simp at h5
     have hcell:∀ i (hi:i<es.length),∃ ci,w.cells? 0 ⟨b,off+i*P.cellsOf e,none⟩ (P.cellsOf e)=some ci∧Rels (VRel G w) es[i] ci∧∀ a ∈ es[i],a.flat=true:=fun i hi=>by
      obtain ⟨_,ci,g1,g2,g3⟩:=hq i hi
      refine ⟨ci,?_,g2,g3⟩
      rw [←g1]
      congr 1
      unfold Addr.add
      split
      ·rename_i hz;rw [hz];rfl
      ·rfl
     have hget:∀ i (hi:i<es.length),es[i].length=P.cellsOf e∧(∀ a ∈ es[i],a.flat=true)∧∀ j,(hj:j<es[i].length)→∃ v,w.cell? ⟨b,off+(i*P.cellsOf e+j),none⟩=some v∧VRel G w es[i][j] v:=fun i hi=>by
      obtain ⟨ci,g1,g2,g3⟩:=hcell i hi
      obtain ⟨_,k1,k2⟩:=World.cells?_some g1
      have hl:=g2.length
      refine ⟨by omega,g3,fun j hj => ?_⟩
      obtain ⟨v,hv,hr⟩:=g2.get j _ (List.getElem?_eq_getElem hj)
      refine ⟨v,?_,hr⟩
      have:=k2 j (by omega)
      rw [hv] at this
      rw [←this]
      congr 1
      unfold Addr.add
      split
      ·rename_i hz;subst hz;rfl
      ·simp only [Addr.mk.injEq,true_and,and_true];omega
     have:=VRel.sl (G:=G) (w:=w) (esz:=P.cellsOf e) (es:=es) (b:=b) (off:=off) (c:=cap) (fun i j=>(w.cell? ⟨b,off+(i*P.cellsOf e+j),none⟩).getD undef) (hI b hb') hne (by omega)
      (fun cs hcs=>by obtain ⟨i,hi,rfl⟩:=List.getElem_of_mem hcs;exact (hget i hi).1)
      (fun cs hcs=>by obtain ⟨i,hi,rfl⟩:=List.getElem_of_mem hcs;exact (hget i hi).2.1)
      (fun i j hi hj=>by
        obtain ⟨q1,_,q3⟩:=hget i hi
        obtain ⟨v,hv,_⟩:=q3 j (by omega)
        rw [hv];rfl)
      (fun i j hi hj=>by
        obtain ⟨q1,_,q3⟩:=hget i hi
        obtain ⟨v,hv,hr⟩:=q3 j hj
        rw [hv];exact hr)
     rw [hes] at this
     exact this
   ·rename_i fs ht
    simp only [Bool.and_eq_true,List.all_eq_true] at hk
    obtain ⟨xs,m,_,rfl,hl,hxl,hx⟩:=DataW.trod_struct ht h
    have hz':∀ i (hi:i<fs.toList.length) (hi':i<xs.length),∀ n ∈ (xs[i]).1.weights P fs.toList[i].type,n≤reachBytes:=fun i hi hi' n hn=>by
     refine hz n ?_
     simp only [DataW.weights,ht]
     exact DataW.weights_mem_each (j:=i) (by simp [List.getElem?_eq_getElem hi]) (by simp [List.getElem?_eq_getElem hi']) n hn
    have hall:∀ i,i<fs.toList.length→∃ as:List AV,∃ hi:i<fs.toList.length,TOk P k fs.toList[i].type as∧Rels (VRel G w) as ((cs.drop fs.toList[i].offset).take (P.cellsOf fs.toList[i].type))∧∀ a ∈ as,a.flat=true:=fun i hi=>by
     have hi':i<xs.length:=by simpa [hxl] using hi
     have h1:=hx i fs.toList[i] (by simp at hi;simp [hi])
     rw [List.getElem?_eq_getElem hi'] at h1
     obtain ⟨as,g1,g2,g3⟩:=vi hI k _ _ xs[i] m (hk.2 _ (List.getElem_mem hi)) h1 (hz' i hi hi')
     exact ⟨as,hi,g1,g2,g3⟩
    obtain ⟨parts,hp,hq⟩:=xr _ hall
    have:=qj (G:=G) (w:=w) fs.toList parts cs 0 (P.cellsOf t) hk.1 hl (by omega) hp (fun i hi hi'=>by
     obtain ⟨_,_,g2,g3⟩:=hq i hi
     exact ⟨g2,g3⟩)
    rw [List.drop_zero] at this
    exact ⟨_,⟨parts,rfl,hp,fun i hi hi'=>(hq i hi).2.1⟩,this.1,this.2⟩
   ·cases hk
end
end Go.Am
attribute [irreducible] Go.Am.TOk
namespace Go.Am
open Go.RowKit
def G0 (w:World):Gh:=⟨fun _=>none,fun b=>b<w.heap.size⟩
def S0:Store:=fun _=>none
theorem zes (w:World):Sim (G0 w) S0 w :=
 { lt:=fun b hb=>hb,fin:=⟨0,fun _ _=>rfl⟩,blk:=fun i b base hi=>(by cases hi),used:=fun i o hi=>(by cases hi),
   inj:=fun i j oi oj b base base' hi=>(by cases hi),apart:=fun i o b base hi=>(by cases hi) }
theorem z36 {P:Program} {f:Nat} {as:List AV} (h:ACalls P f as S0 (fun b _=>b = .bool true)) {w:World} {vs:List Value} (hr:Rels (VRel (G0 w) w) as vs) :
 Calls P f vs.toArray w fun e w'=>e = .returned (.bool true)∧Below w.heap.size w w':=by
 have:=h.2 _ w vs (zes w) hr
 refine this.mono ?_
 rintro e w' ⟨v,a,G',σ',rfl,hx,_,hv,rfl⟩
 have hv':=hv.of_bool
 subst hv'
 exact ⟨rfl,hx.os,hx.tape,hx.output,hx.size,fun k hk=>hx.keep k hk (fun ⟨_,_,_,h1,_⟩=>by cases h1)⟩
section
variable {H:Type} {enc:TypeId×Value→H} {P:Program} {w:World} {sp:Nat→Bool} {held:Bool} {t:TypeId} {v:Value} {d:DataW H} {ps:List MemPlace}
theorem zc9 (k:Nat) (hk:okTy P k t=true) {cs:Array Value} (h:DataW.Trod enc P w 0 sp held t (.agg cs) d ps) (hz:∀ n ∈ d.weights P t,n≤reachBytes) :
 ∃ as,VRel (G0 w) w (.agg as) (.agg cs)∧TOk P k t as:=by
 obtain ⟨fuel,h⟩:=h
 obtain ⟨as,h1,h2,h3⟩:=vi (G:=G0 w) (fun _ h=>h) k t _ _ fuel hk h hz
 refine ⟨as,?_,h1⟩
 have h2':Rels (VRel (G0 w) w) as cs.toList:=h2
 have:=VRel.agg (G:=G0 w) (w:=w) (cells:=as) (cs:=cs.toList) h2'.length h3 (fun k hk hk'=>by
  obtain ⟨b,hb,hr⟩:=h2'.get k _ (List.getElem?_eq_getElem hk)
  rw [List.getElem?_eq_getElem hk'] at hb;cases hb;exact hr)
 simpa using this
theorem ze4 {ts:List TypeId} {ds:List (DataW H)} (h:(DataW.weightsEach P ts ds).all (· ≤ reachBytes)=true) {j:Nat} (ht:ts[j]? = some t) (hd:ds[j]? = some d):∀ n ∈ d.weights P t,n≤reachBytes:=fun n hn=>by
 have:=List.all_eq_true.1 h _ (DataW.weights_mem_each ht hd n hn)
 simpa using this
end
theorem z7u {P:Program} {n:Nat} {e:TypeId} {α:Type} (c:α→List AV) (ok:α→Prop) (hd:∀ x,TOk P n e x→∃ r,c r=x∧ok r):∀ (es:List (List AV)),(∀ x ∈ es,TOk P n e x)→∃ rs:List α,es=rs.map c∧∀ r ∈ rs,ok r
 | [],_=>⟨[],rfl,by simp⟩
 | x::es,h=>by
   obtain ⟨r,hr,ho⟩:=hd x (h x (by simp))
   obtain ⟨rs,hrs,hos⟩:=z7u c ok hd es (fun y hy=>h y (by simp [hy]))
   exact ⟨r::rs,by simp [hr,hrs],fun q hq=>(List.mem_cons.1 hq).elim (fun e=>e ▸ ho) (hos q)⟩
theorem TOk.slice {P:Program} {n sz by_:Nat} {t e:TypeId} {as:List AV} (ht:P.underlying t=some (.slice e)) (hs:P.cellsOf e=sz) (hb:P.bytesOf e=by_) (h1:1≤by_) {α:Type} (c:α→List AV) (ok:α→Prop) (hd:∀ x,TOk P n e x→∃ r,c r=x∧ok r)
 (h:TOk P (n+1) t as):as=[.nils]∨∃ rs:List α,as=[.sl sz (rs.map c)]∧(rs.length*by_≤reachBytes)∧∀ r ∈ rs,ok r:=by
 unfold TOk at h
 simp only [ht] at h
 rcases h with h | ⟨es,rfl,hz,hx⟩
 ·exact .inl h
 ·obtain ⟨rs,rfl,ho⟩:=z7u c ok hd es hx
  refine .inr ⟨rs,by rw [hs],?_,ho⟩
  rw [List.length_map,hb] at hz
  exact hz
theorem TOk.int {P:Program} {n:Nat} {t:TypeId} {k:IntKind} {as:List AV} (ht:P.underlying t=some (.int k)) (h:TOk P (n+1) t as):∃ m,as=[.int k m]∧k.min≤m∧m≤k.max:=by
 unfold TOk at h;simp only [ht] at h;exact h
theorem TOk.bool {P:Program} {n:Nat} {t:TypeId} {as:List AV} (ht:P.underlying t=some .bool) (h:TOk P (n+1) t as):∃ b,as=[.bool b]:=by
 unfold TOk at h;simp only [ht] at h;exact h
def Parts (P:Program) (n:Nat):List TypeId→List AV→Prop
 | [],as=>as=[]
 | t::ts,as=>∃ a b,as=a++b∧TOk P n t a∧Parts P n ts b
theorem z26 {P:Program} {n:Nat}:∀ (ts:List TypeId) (parts:List (List AV)),parts.length=ts.length→(∀ i (h:i<parts.length) (h':i<ts.length),TOk P n ts[i] parts[i])→Parts P n ts parts.flatten
 | [],parts,hl,_=>by
   have:parts=[]:=List.length_eq_zero_iff.1 hl
   subst this;rfl
 | t::ts,[],hl,_=>by simp at hl
 | t::ts,p::parts,hl,h=>⟨p,parts.flatten,rfl,h 0 (by simp) (by simp),z26 ts parts (by simpa using hl) fun i hi hi'=>by
    have:=h (i+1) (by simp;omega) (by simp;omega)
    simpa using this⟩
theorem TOk.struct {P:Program} {n:Nat} {t:TypeId} {fs:Array Field} {ts:List TypeId} {as:List AV} (ht:P.underlying t=some (.struct fs)) (hts:fs.toList.map (·.type)=ts) (h:TOk P (n+1) t as):Parts P n ts as:=by
 unfold TOk at h;simp only [ht] at h
 obtain ⟨parts,rfl,hl,hp⟩:=h
 subst hts
 refine z26 _ parts (by simpa using hl) fun i hi hi' => ?_
 have:=hp i hi (by simpa using hi')
 simpa using this
end Go.Am
namespace Go.Am
open Go.RowKit
theorem ze6 {P:Program} {f:Nat} {as:List AV} (h:Pur P f as (.bool true)) {w:World} {vs:List Value} (hr:Rels (VRel (G0 w) w) as vs) :
 Calls P f vs.toArray w fun e w'=>e = .returned (.bool true)∧Below w.heap.size w w':=z36 ((h S0).mono fun a s h=>h.2) hr
end Go.Am
namespace Go.Am
open Go.RowKit
def Imp (x y:AV):Prop:=y.flat=true∧∀ G w v,VRel G w x v→VRel G w y v
theorem Imp.refl {x:AV} (h:x.flat=true):Imp x x:=⟨h,fun _ _ _ h=>h⟩
theorem Imp.nils {esz:Nat}:Imp .nils (.sl esz []):=⟨rfl,fun _ _ _ h=>by have:=h.of_nils;subst this;exact .sl0⟩
abbrev ImpL (xs ys:List AV):Prop:=Rels Imp xs ys
theorem ImpL.refl:∀ (l:List AV),(∀ x ∈ l,x.flat=true)→ImpL l l
 | [],_ => .nil
 | x::l,h => .cons (.refl (h x (by simp))) (ImpL.refl l fun y hy=>h y (by simp [hy]))
theorem ImpL.flat {a b:List AV} (h:ImpL a b):∀ x ∈ b,x.flat=true:=by
 induction h with
 | nil=>simp
 | cons h1 _ ih=>intro x hx;exact (List.mem_cons.1 hx).elim (fun e=>e ▸ h1.1) (ih x)
theorem Imp.sl {esz:Nat} {es es':List (List AV)} (h:Rels ImpL es es'):Imp (.sl esz es) (.sl esz es'):=by
 refine ⟨rfl,fun G w v hv => ?_⟩
 by_cases he:es=[]
 ·subst he
  cases h
  exact hv
 ·have hl:=h.length
  have hne:es'≠[]:=fun e=>he (List.length_eq_zero_iff.1 (by rw [hl,e];rfl))
  have hget:∀ i (hi:i<es.length) (hi':i<es'.length),ImpL es[i] es'[i]:=fun i hi hi'=>by
   obtain ⟨b,hb,hr⟩:=h.get i _ (List.getElem?_eq_getElem hi)
   rw [List.getElem?_eq_getElem hi'] at hb;cases hb;exact hr
  cases hv with
  | sl0=>exact (he rfl).elim
  | sl vs hb hne' hcap hlen hf hc hvv =>
    have hlen':∀ cs ∈ es',cs.length=esz:=fun cs hcs=>by
     obtain ⟨i,hi,rfl⟩:=List.getElem_of_mem hcs
     rw [←(hget i (by omega) hi).length];exact hlen _ (List.getElem_mem _)
    have:=VRel.sl (G:=G) (w:=w) (esz:=esz) (es:=es') vs hb hne (by rw [←hl];exact hcap) hlen'
     (fun cs hcs=>by
       obtain ⟨i,hi,rfl⟩:=List.getElem_of_mem hcs
       exact (hget i (by omega) hi).flat)
     (fun i j hi hj=>hc i j (by omega) hj)
     (fun i j hi hj=>by
       have h1:=hget i (by omega) hi
       obtain ⟨b,hb',hr⟩:=h1.get j _ (List.getElem?_eq_getElem (by rw [h1.length];exact hj))
       rw [List.getElem?_eq_getElem hj] at hb';cases hb'
       exact hr.2 _ _ _ (hvv i j (by omega) (by rw [h1.length];exact hj)))
    rw [hl];exact this
theorem z5k {P:Program} {n:Nat} {e:TypeId} {α:Type} (c:α→List AV) (ok:α→Prop) (hd:∀ x,TOk P n e x→∃ r,ImpL x (c r)∧ok r):∀ (es:List (List AV)),(∀ x ∈ es,TOk P n e x)→∃ rs:List α,Rels ImpL es (rs.map c)∧∀ r ∈ rs,ok r
 | [],_=>⟨[],.nil,by simp⟩
 | x::es,h=>by
   obtain ⟨r,hr,ho⟩:=hd x (h x (by simp))
   obtain ⟨rs,hrs,hos⟩:=z5k c ok hd es (fun y hy=>h y (by simp [hy]))
   exact ⟨r::rs,.cons hr hrs,fun q hq=>(List.mem_cons.1 hq).elim (fun e=>e ▸ ho) (hos q)⟩
theorem TOk.slI {P:Program} {n sz by_:Nat} {t e:TypeId} {xs:List AV} (ht:P.underlying t=some (.slice e)) (hs:P.cellsOf e=sz) (hb:P.bytesOf e=by_) {α:Type} (c:α→List AV) (ok:α→Prop) (hd:∀ x,TOk P n e x→∃ r,ImpL x (c r)∧ok r)
 (h:TOk P (n+1) t xs):∃ rs:List α,ImpL xs [.sl sz (rs.map c)]∧(rs.length*by_≤reachBytes)∧∀ r ∈ rs,ok r:=by
 unfold TOk at h
 simp only [ht] at h
 rcases h with h | ⟨es,rfl,hz,hx⟩
 ·subst h;exact ⟨[],.cons .nils .nil,by simp,by simp⟩
 ·obtain ⟨rs,hr,ho⟩:=z5k c ok hd es hx
  have hl:=hr.length
  rw [List.length_map] at hl
  exact ⟨rs,.cons (by rw [hs];exact .sl hr) .nil,by rw [←hl,←hb];exact hz,ho⟩
theorem ImpL.append {a b c d:List AV} (h:ImpL a b) (h':ImpL c d):ImpL (a++c) (b++d):=Rels.append h h'
theorem ImpL.one {x:AV} (h:x.flat=true):ImpL [x] [x] := .cons (.refl h) .nil
end Go.Am
