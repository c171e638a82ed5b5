/- A part of the proof: a logic for calls over plain values, and the functions that the law reaches, each walked once. -/
import Derived.Test.YtholebikgpnmlaaPC5
set_option linter.unusedVariables false
set_option linter.unusedSimpArgs false
set_option linter.unusedSectionVars false
universe u
namespace Go.Am
theorem zf {α:Sort u} {a b:α} (h:a=b):a=b:=h
theorem u6 {a b:Prop} (h:a↔b):a↔b:=h
section
variable {e:Env} {k:IntKind} {x y:Int} {a b c:AV} {t:Nat} {r:List Opd}
theorem zav {u:Nat}:Env.get ((t,a)::e) u=if u=t then some a else e.get u:=zf rfl
def keepO (o:Option AV) (t:Nat) (r:Env):Env:=match o with
 | some a=>(t,a)::r
 | none=>r
theorem z49 {r:Env}:keepO (some a) t r=(t,a)::r:=zf rfl
theorem z48 {r:Env}:keepO none t r=r:=zf rfl
theorem z7a:Env.keep e []=[]:=zf rfl
theorem z8t {r:List Nat}:Env.keep e (t::r)=keepO (e.get t) t (Env.keep e r):=by
 simp only [Env.keep,keepO];cases e.get t <;> rfl
theorem z7l:Env.putO (some t) a e=(t,a)::e:=zf rfl
theorem z7k:Env.putO none a e=e:=zf rfl
theorem z8p:ev e (.t t)=e.get t:=zf rfl
theorem z8o:ev e (.c a)=some a:=zf rfl
theorem z8q:evs e []=some []:=zf rfl
theorem z6z:evs e (.c a::r)=(evs e r).map (a :: ·):=by simp only [evs,ev];cases evs e r <;> rfl
theorem z70:evs e (.t t::r)=(e.get t).bind fun a=>(evs e r).map (a :: ·):=by simp only [evs,ev];cases e.get t <;> cases evs e r <;> rfl
theorem z8j {i:Nat}:argE i []=[]:=zf rfl
theorem zal {i:Nat} {l:List AV}:argE i (a::l)=(i,a)::argE (i+1) l:=zf rfl
theorem zb1:pv .mov [a]=some a:=zf rfl
theorem z5t:pv (.bin .add) [.int k x,.int k y]=some (.int k (k.wrap (x+y))):=by cases k <;> rfl
theorem zbd:pv (.bin .sub) [.int k x,.int k y]=some (.int k (k.wrap (x - y))):=by cases k <;> rfl
theorem zb2:pv (.bin .mul) [.int k x,.int k y]=some (.int k (k.wrap (x*y))):=by cases k <;> rfl
theorem zb7:pv (.bin .quo) [.int k x,.int k y]=if y=0 then none else some (.int k (k.wrap (x.tdiv y))):=by cases k <;> rfl
theorem zb8:pv (.bin .rem) [.int k x,.int k y]=if y=0 then none else some (.int k (x.tmod y)):=by cases k <;> rfl
theorem zaj:pv (.bin .and) [.int k x,.int k y]=some (.int k (bitInt .and k x y)):=by cases k <;> rfl
theorem zcb:pv (.bin .or) [.int k x,.int k y]=some (.int k (bitInt .or k x y)):=by cases k <;> rfl
theorem zbf:pv (.bin .xor) [.int k x,.int k y]=some (.int k (bitInt .xor k x y)):=by cases k <;> rfl
theorem z5e:pv (.bin .andNot) [.int k x,.int k y]=some (.int k (bitInt .andNot k x y)):=by cases k <;> rfl
theorem zas:pv (.bin .eql) [.int k x,.int k y]=some (.bool (decide (x=y))):=by cases k <;> rfl
theorem zb4:pv (.bin .neq) [.int k x,.int k y]=some (.bool (!decide (x=y))):=by cases k <;> rfl
theorem zaz:pv (.bin .lss) [.int k x,.int k y]=some (.bool (decide (x<y))):=by cases k <;> rfl
theorem zay:pv (.bin .leq) [.int k x,.int k y]=some (.bool (decide (x≤y))):=by cases k <;> rfl
theorem zaw:pv (.bin .gtr) [.int k x,.int k y]=some (.bool (decide (y<x))):=by cases k <;> rfl
theorem zau:pv (.bin .geq) [.int k x,.int k y]=some (.bool (decide (y≤x))):=by cases k <;> rfl
theorem zb9 {j:IntKind}:pv (.bin .shl) [.int k x,.int j y]=if y<0 then none else some (.int k (shlInt k x y)):=zf rfl
theorem zba {j:IntKind}:pv (.bin .shr) [.int k x,.int j y]=if y<0 then none else some (.int k (shrInt k x y)):=zf rfl
theorem zb5 {b:Bool}:pv .not [.bool b]=some (.bool !b):=zf rfl
theorem zb3:pv .neg [.int k x]=some (.int k (k.wrap (0 - x))):=zf rfl
theorem zap:pv .cpl [.int k x]=some (.int k (bitInt .xor k (if k.signed then -1 else k.max) x)):=zf rfl
theorem z43 {j:IntKind}:pv (.conv j) [.int k x]=some (.int j (j.wrap x)):=zf rfl
theorem zar {p q:Bool}:pv (.eqb false) [.bool p,.bool q]=some (.bool (p ==q)):=zf rfl
theorem z90 {p q:Bool}:pv (.eqb true) [.bool p,.bool q]=some (.bool (p != q)):=zf rfl
theorem zaq {j:IntKind} {u v:Int}:pv (.eq2 false k j) [.agg [.int k x,.int j y],.agg [.int k u,.int j v]]=some (.bool (decide (x=u∧y=v))):=by cases k <;> cases j <;> rfl
theorem z8z {j:IntKind} {u v:Int}:pv (.eq2 true k j) [.agg [.int k x,.int j y],.agg [.int k u,.int j v]]=some (.bool (!decide (x=u∧y=v))):=by cases k <;> cases j <;> rfl
theorem z73 {i o n:Nat}:pv (.fld n) [.ptr i o]=some (.ptr i (o+n)):=zf rfl
theorem z71 {i s j o n:Nat}:pv (.fld n) [.aptr i s j o]=some (.aptr i s j (o+n)):=zf rfl
theorem z72 {n:Nat} {l:List AV}:pv (.fld n) [.ep l]=some (.ep (l.drop n)):=zf rfl
theorem z35 {i o:Nat}:pv .nilchk [.ptr i o]=some (.ptr i o):=zf rfl
theorem z32 {i s j o:Nat}:pv .nilchk [.aptr i s j o]=some (.aptr i s j o):=zf rfl
theorem z33 {l:List AV}:pv .nilchk [.ep l]=some (.ep l):=zf rfl
theorem z34 {f:Nat} {l:List AV}:pv .nilchk [.fn f l]=some (.fn f l):=zf rfl
theorem z47 {i o:Nat} {g:Bool}:pv (.eqnil g true) [.ptr i o]=some (.bool g):=by cases g <;> rfl
theorem z44 {i s j o:Nat} {g:Bool}:pv (.eqnil g true) [.aptr i s j o]=some (.bool g):=by cases g <;> rfl
theorem z45 {l:List AV} {g:Bool}:pv (.eqnil g true) [.ep l]=some (.bool g):=by cases g <;> rfl
theorem z46 {g:Bool}:pv (.eqnil g true) [.nil]=some (.bool (!g)):=by cases g <;> rfl
theorem z8r {o s:Nat} {l:List AV}:pv (.fldv o s true) [.agg l]=if o+s≤l.length then some (.agg ((l.drop o).take s)) else none:=zf rfl
theorem z74 {o s:Nat} {l:List AV}:pv (.fldv o s false) [.agg l]=l[o]? := zf rfl
theorem z79 {s:Nat} {es:List (List AV)}:pv (.idx s) [.sl s es,.int k x]=if 0≤x then (es[x.toNat]?).map .ep else none:=by simp [pv,pIdx]
theorem z77 {s:Nat}:pv (.idx s) [.nils,.int k x]=none:=zf rfl
theorem z78 {s i o n:Nat}:pv (.idx s) [.os i s o n,.int k x]=if 0≤x∧x<(n:Int) then some (.aptr i s (o+x.toNat) 0) else none:=by simp [pv,pIdx]
theorem z5h {i o n s:Nat}:pv (.idxa n s) [.ptr i o,.int k x]=if 0≤x∧x<(n:Int) then some (.ptr i (o+x.toNat*s)) else none:=zf rfl
theorem z7e {s:Nat} {es:List (List AV)}:pv .len [.sl s es]=some (.int .i64 es.length):=zf rfl
theorem z7c:pv .len [.nils]=some (.int .i64 0):=zf rfl
theorem z7d {i s o n:Nat}:pv .len [.os i s o n]=some (.int .i64 n):=zf rfl
theorem z36 {s:Nat}:pv (.slice s true true) [a,.int .i64 x,.int .i64 y]=pSlice s a x (some y):=by cases a <;> rfl
theorem z4d {s:Nat}:pv (.slice s true false) [a,.int .i64 x]=pSlice s a x none:=by cases a <;> rfl
theorem z4c {s:Nat}:pv (.slice s false true) [a,.int .i64 x]=pSlice s a 0 (some x):=by cases a <;> rfl
theorem z4b {s:Nat}:pv (.slice s false false) [a]=pSlice s a 0 none:=by cases a <;> rfl
theorem z99 {s:Nat} {es:List (List AV)} {h:Option Int}:pSlice s (.sl s es) x h=if 0≤x∧x≤h.getD es.length∧h.getD es.length≤(es.length:Int) then some (.sl s ((es.take (h.getD es.length).toNat).drop x.toNat)) else none:=by simp [pSlice]
theorem z98 {s i o n:Nat} {h:Option Int}:pSlice s (.os i s o n) x h=if 0≤x∧x≤h.getD n∧h.getD n≤(n:Int) then some (.os i s (o+x.toNat) ((h.getD n).toNat - x.toNat)) else none:=by simp [pSlice]
theorem z97 {s:Nat} {h:Option Int}:pSlice s .nils x h=if 0≤x∧x≤h.getD 0∧h.getD 0≤0 then some .nils else none:=zf rfl
theorem z6s {z:List AV} {p:List (Nat×Nat)} {as:List AV}:pv (.build z p) as=(pBuild z p as).map .agg:=zf rfl
theorem zat {i:Nat} {l:List AV}:pv (.ext i) [.tup l]=l[i]? := zf rfl
theorem z8w {f:Nat} {l:List AV}:pv (.mkfn f) l=some (.fn f l):=zf rfl
theorem z8x {f:Nat}:pv (.mkif f) [a]=some (.iface f a):=zf rfl
theorem zb0 {l:List AV} {m:Bool}:pv (.minmax m) (a::l)=pMin m a l:=zf rfl
theorem z7j {m:Bool}:pMin m a []=some a:=by cases a <;> rfl
theorem z96 {l:List AV}:pMin false (.int k x) (.int k y::l)=pMin false (.int k (if y<x then y else x)) l:=by cases k <;> rfl
theorem z95 {l:List AV}:pMin true (.int k x) (.int k y::l)=pMin true (.int k (if y>x then y else x)) l:=by cases k <;> rfl
theorem zb6 {l:List AV}:pBuild l [] []=some l:=zf rfl
theorem zcc {l as:List AV} {o s:Nat} {ps:List (Nat×Nat)}:pBuild l ((o,s)::ps) (a::as)=if a.cells.length=s∧a.isTup=false then (splice o a.cells l).bind fun cs=>pBuild cs ps as else none:=zf rfl
theorem zbb {l:List AV}:splice 0 [] l=some l:=by cases l <;> rfl
theorem zcd {l v:List AV}:splice 0 (a::v) (b::l)=(splice 0 v l).map (a :: ·):=zf rfl
theorem zbc {n:Nat} {l v:List AV}:splice (n+1) v (b::l)=(splice n v l).map (b :: ·):=zf rfl
theorem z6t {l:List AV}:(AV.agg l).cells=l:=zf rfl
theorem z6u:(AV.int k x).cells=[.int k x]:=zf rfl
theorem z5f {p:Bool}:(AV.bool p).cells=[.bool p]:=zf rfl
theorem z5g:AV.nils.cells=[.nils]:=zf rfl
theorem z8n {s:Nat} {l:List (List AV)}:(AV.sl s l).cells=[.sl s l]:=zf rfl
theorem z8m {i s o n:Nat}:(AV.os i s o n).cells=[.os i s o n]:=zf rfl
theorem z6w {i o:Nat}:(AV.ptr i o).cells=[.ptr i o]:=zf rfl
theorem z6v:AV.nil.cells=[.nil]:=zf rfl
theorem z8l {i:Nat}:(AV.mp i).cells=[.mp i]:=zf rfl
theorem z31:AV.nilmap.cells=[.nilmap]:=zf rfl
theorem z8k {f:Nat} {l:List AV}:(AV.fn f l).cells=[.fn f l]:=zf rfl
theorem z6x {s:ByteArray}:(AV.str s).cells=[.str s]:=zf rfl
theorem z7n {l:List AV}:(AV.agg l).isTup=false:=zf rfl
theorem z7o:(AV.int k x).isTup=false:=zf rfl
theorem z5k {p:Bool}:(AV.bool p).isTup=false:=zf rfl
theorem z5l:AV.nils.isTup=false:=zf rfl
theorem z9k {s:Nat} {l:List (List AV)}:(AV.sl s l).isTup=false:=zf rfl
theorem z9j {i s o n:Nat}:(AV.os i s o n).isTup=false:=zf rfl
theorem z7q {i o:Nat}:(AV.ptr i o).isTup=false:=zf rfl
theorem z7p:AV.nil.isTup=false:=zf rfl
theorem z9i {i:Nat}:(AV.mp i).isTup=false:=zf rfl
theorem z37:AV.nilmap.isTup=false:=zf rfl
theorem z9h {f:Nat} {l:List AV}:(AV.fn f l).isTup=false:=zf rfl
theorem z7r {s:ByteArray}:(AV.str s).isTup=false:=zf rfl
variable {σ:Store}
theorem zca {n:Nat}:ldv (.ld n true) [a] σ=(rd σ n a).map .agg:=by cases a <;> rfl
def oneV:List AV→Option AV
 | [c]=>some c
 | _=>none
theorem z94:oneV [a]=some a:=zf rfl
theorem zax {n:Nat}:ldv (.ld n false) [a] σ=(rd σ 1 a).bind oneV:=zf rfl
theorem z9b {n:Nat} {l:List AV}:rd σ n (.ep l)=takeN 0 n l:=zf rfl
def boxO:Option Obj→Option (List AV)
 | some (.box l)=>some l
 | _=>none
theorem zam {l:List AV}:boxO (some (.box l))=some l:=zf rfl
def arrO (s:Nat):Option Obj→Option (List (List AV))
 | some (.arr s' l)=>if s'=s then some l else none
 | _=>none
theorem z5u {s:Nat} {l:List (List AV)}:arrO s (some (.arr s l))=some l:=by simp [arrO]
theorem z9c {n i o:Nat}:rd σ n (.ptr i o)=(boxO (σ i)).bind fun l=>takeN o n l:=by
 simp only [rd];cases σ i with
 | none=>rfl
 | some p=>cases p <;> rfl
theorem z9a {n i s j o:Nat}:rd σ n (.aptr i s j o)=(arrO s (σ i)).bind fun l=>(l[j]?).bind fun c=>takeN o n c:=by
 simp only [rd];cases σ i with
 | none=>rfl
 | some p=>cases p <;> first | rfl | (simp only [arrO];split <;> rfl)
theorem z7s {o n:Nat} {l:List AV}:takeN o n l=if o+n≤l.length then some ((l.drop o).take n) else none:=zf rfl
theorem z9m {i o:Nat} {v:List AV}:wr σ v (.ptr i o)=(boxO (σ i)).bind fun l=>(splice o v l).map fun cs=>σ.set i (.box cs):=by
 simp only [wr];cases σ i with
 | none=>rfl
 | some p=>cases p <;> rfl
theorem z9l {i s j o:Nat} {v:List AV}:wr σ v (.aptr i s j o)=(arrO s (σ i)).bind fun l=>(l[j]?).bind fun c=>(splice o v c).map fun cs=>σ.set i (.arr s (l.set j cs)):=by
 simp only [wr];cases σ i with
 | none=>rfl
 | some p=>cases p <;> first | rfl | (simp only [arrO];split <;> rfl)
theorem z6r {z:List AV}:alv (.alloc z) []=some (.box z,fun id => .ptr id 0):=zf rfl
theorem z8i:alv .box [a]=if a.isTup then none else some (.box a.cells,fun id => .ptr id 0):=zf rfl
theorem z7g {s:Nat}:alv (.mksl s 0) []=some (.arr s [],fun id => .os id s 0 0):=zf rfl
theorem z7h {s:Nat}:alv (.mksl s 1) [a]=if a.isTup=false∧a.cells.length=s then some (.arr s [a.cells],fun id => .os id s 0 1) else none:=by
 simp [alv]
theorem z7i {s:Nat}:alv (.mksl s 2) [a,b]=if (a.isTup=false∧a.cells.length=s)∧(b.isTup=false∧b.cells.length=s) then some (.arr s [a.cells,b.cells],fun id => .os id s 0 2) else none:=by
 simp only [alv,List.length_cons,List.length_nil,List.all_cons,List.all_nil,Bool.and_true,Bool.and_eq_true,Bool.not_eq_true',decide_eq_true_eq,List.map]
 simp
theorem z7f:alv .mkmap []=some (.map [],fun id => .mp id):=zf rfl
theorem z8u {z:List AV} {s n:Nat}:alv (.make s z n) [.int .i64 x,.int .i64 y]=if x=y∧0≤x∧x≤9223372036854775807∧x*n≤281474976710656 then some (.arr s (List.replicate x.toNat z),fun id => .os id s 0 x.toNat) else none:=zf rfl
theorem zce {P:Program} {n:Nat} {K:AV→Store→Prop}:lwp P (.st n) [a,b] σ K↔b.isTup=false∧b.cells.length=n∧wit (wr σ b.cells a) fun τ=>K (.tup []) τ:=by
 simp only [lwp]
 cases wr σ b.cells a <;> simp [wit]
theorem zak {P:Program} {n m:Nat} {K:AV→Store→Prop}:lwp P (.app n m) [a,b] σ K↔appwp n m a b σ K:=u6 Iff.rfl
theorem z6y {P:Program} {f:Nat} {l as:List AV} {K:AV→Store→Prop}:lwp P .callv (.fn f l::as) σ K ↔ @CallQ P f (as++l) σ ⟨K⟩:=by rw [←v_acalls];exact Iff.rfl
theorem z91 {P:Program} {g:Bool} {K:AV→Store→Prop}:lwp P (.nilq g) [a] σ K↔nilqwp g a (fun b=>K b σ):=u6 Iff.rfl
theorem z92 {g:Bool} {K:AV→Prop}:nilqwp g .nils K↔K (.bool (!g)):=u6 Iff.rfl
theorem z93 {g:Bool} {i s o n:Nat} {K:AV→Prop}:nilqwp g (.os i s o n) K↔K (.bool g):=u6 Iff.rfl
theorem z4a {g:Bool} {s:Nat} {l:List (List AV)} {K:AV→Prop} (h:∀ b,(l≠[]→b=g)→K (.bool b)):nilqwp g (.sl s l) K:=by
 cases l with
 | nil=>exact ⟨h true (fun h=>absurd rfl h),h false (fun h=>absurd rfl h)⟩
 | cons x r=>exact h g (fun _=>rfl)
theorem z8y {P:Program} {mk:MKey} {K:AV→Store→Prop}:lwp P (.mupd mk) [a,b,c] σ K↔mupdwp mk a b c σ (K (.tup [])):=u6 Iff.rfl
theorem z8v {P:Program} {mk:MKey} {K:AV→Store→Prop}:lwp P (.mdel mk) [a,b] σ K↔mdelwp mk a b σ (K (.tup [])):=u6 Iff.rfl
theorem z9d {s:RS}:Env.res e σ [s]=e.rs σ s:=zf rfl
theorem z9e {s s':RS} {l:List RS}:Env.res e σ (s::s'::l)=(e.gets σ (s::s'::l)).map .tup:=zf rfl
theorem z75:Env.gets e σ []=some []:=zf rfl
theorem z8s {s:RS} {l:List RS}:Env.gets e σ (s::l)=(e.rs σ s).bind fun a=>(e.gets σ l).map (a :: ·):=by
 simp only [Env.gets];cases e.rs σ s <;> cases e.gets σ l <;> rfl
theorem z9g {n:Nat}:e.rs σ (.t n)=e.get n:=zf rfl
theorem z9f {n s:Nat}:e.rs σ (.c n s true)=(e.get n).bind fun p=>(rd σ s p).map .agg:=by
 simp only [Env.rs];cases e.get n <;> rfl
theorem z7m {n s:Nat}:e.rs σ (.c n s false)=(e.get n).bind fun p=>(rd σ 1 p).bind oneV:=by
 simp only [Env.rs]
 cases e.get n with
 | none=>rfl
 | some p =>
   simp only [Option.bind_some]
   cases rd σ 1 p with
   | none=>rfl
   | some l=>match l with
     | []=>rfl
     | [_]=>rfl
     | _::_::_=>rfl
end
end Go.Am
namespace Go.Am
theorem u_setN {σ:Store} {i j:Nat} {o:Obj}:((σ.set i o) j=none)↔(¬ j=i∧¬ i=j)∧σ j=none:=by
 simp only [Store.set]
 by_cases h:j=i
 ·subst h;simp
 ·simp [h,Ne.symm h]
end Go.Am
namespace Go.Am
theorem z2f {σ:Store} {i j:Nat} {o:Obj} (h:¬ j=i):(σ.set i o) j=σ j:=by simp [Store.set,h]
end Go.Am
namespace Go.Am
theorem z5j {σ τ:Store} {i:Nat} {o:Obj} (h:σ i=none):Store.sub σ (τ.set i o)↔Store.sub σ τ:=by
 constructor
 ·intro hs j p hj
  have:=hs j p hj
  simp only [Store.set] at this
  split at this
  ·rename_i e;subst e;rw [h] at hj;cases hj
  ·exact this
 ·exact fun hs=>Store.sub_upd hs h
theorem z5i {σ τ:Store} {i:Nat} (h:σ i=none):Store.sub σ (τ.del i)↔Store.sub σ τ:=by
 constructor
 ·intro hs j p hj
  have:=hs j p hj
  simp only [Store.del] at this
  split at this
  ·cases this
  ·exact this
 ·intro hs j p hj
  simp only [Store.del]
  split
  ·rename_i e;subst e;rw [h] at hj;cases hj
  ·exact hs j p hj
theorem z4e {σ:Store}:Store.sub σ σ↔True:=⟨fun _=>trivial,fun _=>Store.sub_refl σ⟩
end Go.Am
namespace Go.Am
class LoopK where
 live:List Nat
 b:BC
 n:Env→Store→Prop
 r:Env→Store→Prop
 x:Nat→Env→Store→Prop
def LoopQ (P:Program) (e:Env) (σ:Store) [k:LoopK]:Prop:=∃ I:Nat→Env→Store→Prop,(∃ j σ',Store.sub σ' σ∧I j e σ')∧∀ j e σ,I j e σ →
     bwp P k.b e σ (fun e' σ'=>∃ i σ'',i<j∧Store.sub σ'' σ'∧I i (Env.keep e' k.live) σ'') k.r k.x
theorem z9p {P:Program} {live:List Nat} {b:BC} {e:Env} {σ:Store} {n r:Env→Store→Prop} {x:Nat→Env→Store→Prop}:bwp P (.loop live b) e σ n r x ↔ @LoopQ P (e.keep live) σ ⟨live,b,n,r,x⟩:=u6 Iff.rfl
class NextK where
 K:Env→Store→Prop
def NextQ (e:Env) (σ:Store) [k:NextK]:Prop:=k.K e σ
theorem LoopQ.inv {P:Program} {S:Type} (env:S→Env) (st:S→Store) (ok:S→Prop) (m:S→Nat) (s0:S) {live:List Nat} {b:BC} {e:Env} {σ:Store} {n r:Env→Store→Prop} {x:Nat→Env→Store→Prop} (he:e=env s0) (hs:Store.sub (st s0) σ) (h0:ok s0)
 (hstep:∀ s,ok s→bwp P b (env s) (st s) (fun e' σ' => @NextQ (Env.keep e' live) σ' ⟨fun e' σ'=>∃ s',e'=env s'∧Store.sub (st s') σ'∧m s'<m s∧ok s'⟩) r x) : @LoopQ P e σ ⟨live,b,n,r,x⟩:=by
 refine ⟨fun k e σ=>∃ s,ok s∧env s=e∧st s=σ∧m s=k,⟨m s0,st s0,hs,s0,h0,he.symm,rfl,rfl⟩,?_⟩
 rintro k e σ ⟨s,hok,rfl,rfl,rfl⟩
 refine y7 b _ _ _ _ _ _ _ _ ?_ (fun _ _ h=>h) (fun _ _ _ h=>h) (hstep s hok)
 rintro e' σ' ⟨s',h1,h2,h3,h4⟩
 exact ⟨m s',st s',h3,h2,s',h4,h1.symm,rfl,rfl⟩
theorem NextQ.to {S:Type} {env:S→Env} {st:S→Store} {ok:S→Prop} {m:S→Nat} {s:S} {e:Env} {σ:Store} (s':S) (h1:e=env s') (h2:Store.sub (st s') σ) (h3:m s'<m s) (h4:ok s') :
 @NextQ e σ ⟨fun e' σ'=>∃ s',e'=env s'∧Store.sub (st s') σ'∧m s'<m s∧ok s'⟩:=⟨s',h1,h2,h3,h4⟩
end Go.Am
namespace Go.Am
class AllocK where
 K:Nat→Prop
def AllocQ (σ:Store) [k:AllocK]:Prop:=∀ id,σ id=none→k.K id
theorem z5n {P:Program} {e:Env} {σ:Store} {d:Option Nat} {xs:List Opd} {K:Env→Store→Prop} {k:AK}:bop P d (.alloc k) xs e σ K↔wit (evs e xs) fun as=>wit (alv k as) fun p => @AllocQ σ ⟨fun id=>K (Env.putO d (p.2 id) e) (σ.set id p.1)⟩:=z7t
theorem AllocQ.i0 {σ:Store} {K:Nat→Prop} (h:∀ id,σ id=none→K id) : @AllocQ σ ⟨K⟩:=h
theorem AllocQ.i1 {σ:Store} {i:Nat} {o:Obj} {K:Nat→Prop} (h:∀ id,¬ id=i→¬ i=id→σ id=none→K id) : @AllocQ (σ.set i o) ⟨K⟩:=fun id hid=>by
 obtain ⟨⟨h1,h2⟩,h3⟩:=u_setN.1 hid
 exact h id h1 h2 h3
theorem AllocQ.i2 {σ:Store} {i j:Nat} {o p:Obj} {K:Nat→Prop} (h:∀ id,¬ id=i→¬ i=id→¬ id=j→¬ j=id→σ id=none→K id) : @AllocQ ((σ.set i o).set j p) ⟨K⟩:=fun id hid=>by
 obtain ⟨⟨h1,h2⟩,h3⟩:=u_setN.1 hid
 obtain ⟨⟨h4,h5⟩,h6⟩:=u_setN.1 h3
 exact h id h4 h5 h1 h2 h6
end Go.Am
namespace Go.Am
def slO {α:Type} (s:Nat) (c:α→List AV):Option (List α)→AV
 | none => .nils
 | some l => .sl s (l.map c)
section
variable {α:Type} {s:Nat} {c:α→List AV} {o:Option (List α)}
theorem z7b:pv .len [slO s c o]=some (.int .i64 (o.getD []).length):=by cases o <;> simp [slO,pv,pLen]
theorem z76 {k:IntKind} {x:Int}:pv (.idx s) [slO s c o,.int k x]=if 0≤x then (((o.getD []).map c)[x.toNat]?).map .ep else none:=by
 cases o <;> simp [slO,pv,pIdx]
theorem zbe:(slO s c o).isTup=false:=by cases o <;> rfl
theorem zan:(slO s c o).cells=[slO s c o]:=by cases o <;> rfl
theorem Pur.nil {P:Program} {f:Nat} {args:List AV} {v:AV} (k s:Nat) (ha:args[k]? = some .nils) (h:Pur P f (args.set k (.sl s [])) v):Pur P f args v:=fun σ =>
 ACalls.weakArgs (h σ).1 (WeakL.nil (Q:=fun args' σ'=>ACalls P f args' σ' (fun a s=>s=σ∧a=v)) k s ha (WeakL.pure (h σ)))
end
end Go.Am
namespace Go.Am
class EndK where
 slots:List RS
 Q:AV→Store→Prop
def EndQ (e:Env) (τ:Store) [k:EndK]:Prop:=Ends k.slots k.Q e τ
theorem EndQ.to {slots:List RS} {Q:AV→Store→Prop} {e:Env} {τ:Store} (σ:Store) (v:AV) (h1:e.res τ slots=some v) (h2:Store.sub σ τ) (h3:Q v σ) : @EndQ e τ ⟨slots,Q⟩:=z4f ⟨v,h1,h2,h3⟩
theorem EndQ.frz {slots:List RS} {Q:AV→Store→Prop} {e:Env} {τ:Store} (id esz off len:Nat) (es:List (List AV)) (σ:Store) (h1:e.res τ slots=some (.os id esz off len)) (h2:τ id=some (.arr esz es))
 (hle:off+len≤es.length) (h3:Store.sub σ (τ.del id)) (h4:Q (.sl esz ((es.drop off).take len)) σ) : @EndQ e τ ⟨slots,Q⟩ :=
 ⟨_,h1,Weak.of_one (WeakL.freeze 0 rfl h2 hle (WeakL.forget h3 (WeakL.pure ⟨_,rfl,h4⟩)))⟩
theorem zk {P:Program} {fi:Nat} (F:Fn P fi) {args:List AV} {σ:Store} {Q:AV→Store→Prop} (hargs:args.length≤F.N)
 (h:bwp P F.b (argE 0 args) σ (fun e τ => @EndQ e τ ⟨F.slots,Q⟩) (fun e τ => @EndQ e τ ⟨F.slots,Q⟩) (fun _ _ _=>False)):ACalls P fi args σ Q:=z06 F hargs h
theorem ACalls.Q {P:Program} {f:Nat} {args:List AV} {σ:Store} {Q K:AV→Store→Prop} (h:ACalls P f args σ Q) (hK:∀ a s,Q a s→K a s) : @CallQ P f args σ ⟨K⟩:=v_acalls.1 (h.mono hK)
theorem Store.set_self {σ:Store} {i:Nat} {o:Obj} (h:σ i=some o):σ.set i o=σ:=by funext j;simp only [Store.set];split <;> simp_all
end Go.Am
namespace Go.Am
class WkK where
 K:Env→Store→Prop
def WkQ (e:Env) (σ:Store) [k:WkK]:Prop:=WeakE e σ k.K
theorem zcg {P:Program} {i:Nat} {b:BC} {e:Env} {σ:Store} {n r:Env→Store→Prop} {x:Nat→Env→Store→Prop}:bwp P (.wk i b) e σ n r x ↔ @WkQ e σ ⟨fun e σ=>bwp P b e σ n r x⟩:=u6 Iff.rfl
theorem WkQ.of {e:Env} {σ:Store} {K:Env→Store→Prop} (h:WeakE e σ K) : @WkQ e σ ⟨K⟩:=h
end Go.Am
attribute [irreducible] Go.Am.WkQ Go.Am.LoopQ Go.Am.NextQ Go.Am.AllocQ Go.Am.EndQ
namespace Go.Am
set_option linter.defProp false
def vcPre :=
 And.intro @z9v (And.intro @zbk (And.intro @z9u (And.intro @zbl (And.intro @zbj (And.intro @z9t (And.intro @zbm (And.intro @z7w (And.intro @z9n (And.intro @z9s (And.intro @z9o (And.intro @z5n (And.intro @z9q (And.intro @z5o (And.intro @z7u (And.intro @v_acalls (And.intro @zbg (And.intro @z9r (And.intro @z9p (And.intro @zbi (And.intro @zcf (And.intro @zbh (And.intro @xh (And.intro @z5r (And.intro @z7x (And.intro @z5q (And.intro @z7y (And.intro @z5p (And.intro @zc0 (And.intro @zby (And.intro @za8 (And.intro @za5 (And.intro @zbz (And.intro @zab (And.intro @za4 (And.intro @za3 (And.intro @za7 (And.intro @za6 (And.intro @zbx (And.intro @zbv (And.intro @zbu (And.intro @zbw @zcg)))))))))))))))))))))))))))))))))))))))))
def vcPost :=
 And.intro @zav (And.intro @z49 (And.intro @z48 (And.intro @z7a (And.intro @z8t (And.intro @z7l (And.intro @z7k (And.intro @z8p (And.intro @z8o (And.intro @z8q (And.intro @z6z (And.intro @z70 (And.intro @z8j (And.intro @zal (And.intro @zb1 (And.intro @z5t (And.intro @zbd (And.intro @zb2 (And.intro @zb7 (And.intro @zb8 (And.intro @zaj (And.intro @zcb (And.intro @zbf (And.intro @z5e (And.intro @zas (And.intro @zb4 (And.intro @zaz (And.intro @zay (And.intro @zaw (And.intro @zau (And.intro @zb9 (And.intro @zba (And.intro @zb5 (And.intro @zb3 (And.intro @zap (And.intro @z43 (And.intro @zar (And.intro @z90 (And.intro @zaq (And.intro @z8z (And.intro @z73 (And.intro @z71 (And.intro @z72 (And.intro @z35 (And.intro @z32 (And.intro @z33 (And.intro @z34 (And.intro @z47 (And.intro @z44 (And.intro @z45 (And.intro @z46 (And.intro @z8r (And.intro @z74 (And.intro @z79 (And.intro @z77 (And.intro @z78 (And.intro @z5h (And.intro @z7e (And.intro @z7c (And.intro @z7d (And.intro @z36 (And.intro @z4d (And.intro @z4c (And.intro @z4b (And.intro @z99 (And.intro @z98 (And.intro @z97 (And.intro @z6s (And.intro @zat (And.intro @z8w (And.intro @z8x (And.intro @zb0 (And.intro @z7j (And.intro @z96 (And.intro @z95 (And.intro @zb6 (And.intro @zcc (And.intro @zbb (And.intro @zcd (And.intro @zbc (And.intro @z6t (And.intro @z6u (And.intro @z5f (And.intro @z5g (And.intro @z8n (And.intro @z8m (And.intro @z6w (And.intro @z6v (And.intro @z8l (And.intro @z31 (And.intro @z8k (And.intro @z6x (And.intro @z7n (And.intro @z7o (And.intro @z5k (And.intro @z5l (And.intro @z9k (And.intro @z9j (And.intro @z7q (And.intro @z7p (And.intro @z9i (And.intro @z37 (And.intro @z9h (And.intro @z7r (And.intro @zca (And.intro @z94 (And.intro @zax (And.intro @z9b (And.intro @zam (And.intro @z5u (And.intro @z9c (And.intro @z9a (And.intro @z7s (And.intro @z9m (And.intro @z9l (And.intro @z6r (And.intro @z8i (And.intro @z7g (And.intro @z7h (And.intro @z7i (And.intro @z7f (And.intro @z8u (And.intro @zce (And.intro @zak (And.intro @z7b (And.intro @z76 (And.intro @zbe (And.intro @zan (And.intro @z6y (And.intro @z91 (And.intro @z92 (And.intro @z93 (And.intro @z8y (And.intro @z8v (And.intro @z9d (And.intro @z9e (And.intro @z75 (And.intro @z8s (And.intro @z9g (And.intro @z9f @z7m)))))))))))))))))))))))))))))))))))))))))))))))))))))))))))))))))))))))))))))))))))))))))))))))))))))))))))))))))))))))))))))))))))))))))))
def vcStd :=
 And.intro @decide_eq_true_eq (And.intro @decide_eq_false_iff_not (And.intro @List.length_cons.{0} (And.intro @List.length_nil.{0} (And.intro @List.drop_zero.{0} (And.intro @List.drop_succ_cons.{0} (And.intro @List.take_succ_cons.{0} (And.intro @List.take_zero.{0} (And.intro @List.drop_nil.{0} (And.intro @List.length_map.{0,0} (And.intro @List.getElem_map.{0,0} (And.intro @Int.toNat_natCast (And.intro @Int.natCast_nonneg (And.intro @Int.ofNat_lt (And.intro @Int.ofNat_le (And.intro @not_true_eq_false (And.intro @exists_prop (And.intro @exists_true_left (And.intro @Option.map_some.{0,0} (And.intro @Option.bind_some.{0,0} (And.intro @true_and (And.intro @and_true (And.intro @true_implies (And.intro @false_implies (And.intro @Bool.not_true (And.intro @Bool.not_not (And.intro @decide_true (And.intro @decide_false (And.intro @Bool.not_false (And.intro @Bool.not_eq_true' (And.intro @Bool.false_eq_true (And.intro @Bool.true_eq_false (And.intro @Store.set_same (And.intro @z2f (And.intro @z5j (And.intro @z5i (And.intro @z4e (And.intro @Option.some.injEq.{0} (And.intro @AV.bool.injEq (And.intro @AV.int.injEq (And.intro @AV.agg.injEq (And.intro @List.cons.injEq.{0} (And.intro @not_false_eq_true (And.intro @and_imp (And.intro @List.cons_append.{0} (And.intro @List.nil_append.{0} (And.intro @List.getElem?_cons_zero.{0} (And.intro @List.getElem?_cons_succ.{0} @implies_true.{0})))))))))))))))))))))))))))))))))))))))))))))))
end Go.Am
namespace Go.Am
open Go.RowKit
def G0 (w:World):Gh:=⟨fun _=>none,fun b=>b<w.heap.size⟩
def S0:Store:=fun _=>none
theorem zc5 (w:World):Sim (G0 w) S0 w :=
 { lt:=fun b hb=>hb,fin:=⟨0,fun _ _=>rfl⟩,blk:=fun i b base hi=>(by cases hi),used:=fun i o hi=>(by cases hi),
   inj:=fun i j oi oj b base base' hi=>(by cases hi),apart:=fun i o b base hi=>(by cases hi) }
theorem z1v {P:Program} {f:Nat} {as:List AV} (h:ACalls P f as S0 (fun b _=>b = .bool true)) {w:World} {vs:List Value} (hr:Rels (VRel (G0 w) w) as vs) :
 Calls P f vs.toArray w fun e w'=>e = .returned (.bool true)∧Below w.heap.size w w':=by
 have:=h.2 _ w vs (zc5 w) hr
 refine this.mono ?_
 rintro e w' ⟨v,a,G',σ',rfl,hx,_,hv,rfl⟩
 have hv':=hv.of_bool
 subst hv'
 exact ⟨rfl,hx.os,hx.tape,hx.output,hx.size,fun k hk=>hx.keep k hk (fun ⟨_,_,_,h1,_⟩=>by cases h1)⟩
section
variable {H:Type} {enc:TypeId×Value→H} {P:Program} {w:World} {sp:Nat→Bool} {held:Bool} {t:TypeId} {v:Value} {d:DataW H} {ps:List MemPlace}
end
end Go.Am
namespace Go.Am
open Go.RowKit
theorem zbn {P:Program} {f:Nat} {as:List AV} (h:Pur P f as (.bool true)) {w:World} {vs:List Value} (hr:Rels (VRel (G0 w) w) as vs) :
 Calls P f vs.toArray w fun e w'=>e = .returned (.bool true)∧Below w.heap.size w w':=z1v ((h S0).mono fun a s h=>h.2) hr
end Go.Am
