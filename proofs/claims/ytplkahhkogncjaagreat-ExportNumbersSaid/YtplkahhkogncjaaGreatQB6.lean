/- A part of the proof: a logic for calls over plain values, and the functions that the law reaches, each walked once. -/
import Derived.Test.YtplkahhkogncjaaGreatQB5
import Derived.OpenShut
import Derived.ChangeOld
import Derived.ChangeShapes
import Derived.SizedLaws
import Derived.Below
set_option linter.unusedVariables false
set_option linter.unusedSimpArgs false
set_option linter.unusedSectionVars false
universe u
namespace Go.Am
theorem zo {α:Sort u} {a b:α} (h:a=b):a=b:=h
theorem q9 {a b:Prop} (h:a↔b):a↔b:=h
section
variable {e:Env} {k:IntKind} {x y:Int} {a b c:AV} {t:Nat} {r:List Opd}
theorem zeq {u:Nat}:Env.get ((t,a)::e) u=if u=t then some a else e.get u:=zo rfl
def keepO (o:Option AV) (t:Nat) (r:Env):Env:=match o with
 | some a=>(t,a)::r
 | none=>r
theorem z6t {r:Env}:keepO (some a) t r=(t,a)::r:=zo rfl
theorem z6s {r:Env}:keepO none t r=r:=zo rfl
theorem zak:Env.keep e []=[]:=zo rfl
theorem zcf {r:List Nat}:Env.keep e (t::r)=keepO (e.get t) t (Env.keep e r):=by
 simp only [Env.keep,keepO];cases e.get t <;> rfl
theorem zaw:Env.putO (some t) a e=(t,a)::e:=zo rfl
theorem zav:Env.putO none a e=e:=zo rfl
theorem zcb:ev e (.t t)=e.get t:=zo rfl
theorem zca:ev e (.c a)=some a:=zo rfl
theorem zcc:evs e []=some []:=zo rfl
theorem za9:evs e (.c a::r)=(evs e r).map (a :: ·):=by simp only [evs,ev];cases evs e r <;> rfl
theorem zaa:evs e (.t t::r)=(e.get t).bind fun a=>(evs e r).map (a :: ·):=by simp only [evs,ev];cases e.get t <;> cases evs e r <;> rfl
theorem zc5 {i:Nat}:argE i []=[]:=zo rfl
theorem zeg {i:Nat} {l:List AV}:argE i (a::l)=(i,a)::argE (i+1) l:=zo rfl
theorem zew:pv .mov [a]=some a:=zo rfl
theorem z90:pv (.bin .add) [.int k x,.int k y]=some (.int k (k.wrap (x+y))):=by cases k <;> rfl
theorem zf8:pv (.bin .sub) [.int k x,.int k y]=some (.int k (k.wrap (x - y))):=by cases k <;> rfl
theorem zex:pv (.bin .mul) [.int k x,.int k y]=some (.int k (k.wrap (x*y))):=by cases k <;> rfl
theorem zf2:pv (.bin .quo) [.int k x,.int k y]=if y=0 then none else some (.int k (k.wrap (x.tdiv y))):=by cases k <;> rfl
theorem zf3:pv (.bin .rem) [.int k x,.int k y]=if y=0 then none else some (.int k (x.tmod y)):=by cases k <;> rfl
theorem zee:pv (.bin .and) [.int k x,.int k y]=some (.int k (bitInt .and k x y)):=by cases k <;> rfl
theorem zgu:pv (.bin .or) [.int k x,.int k y]=some (.int k (bitInt .or k x y)):=by cases k <;> rfl
theorem zfa:pv (.bin .xor) [.int k x,.int k y]=some (.int k (bitInt .xor k x y)):=by cases k <;> rfl
theorem z8i:pv (.bin .andNot) [.int k x,.int k y]=some (.int k (bitInt .andNot k x y)):=by cases k <;> rfl
theorem zen:pv (.bin .eql) [.int k x,.int k y]=some (.bool (decide (x=y))):=by cases k <;> rfl
theorem zez:pv (.bin .neq) [.int k x,.int k y]=some (.bool (!decide (x=y))):=by cases k <;> rfl
theorem zeu:pv (.bin .lss) [.int k x,.int k y]=some (.bool (decide (x<y))):=by cases k <;> rfl
theorem zet:pv (.bin .leq) [.int k x,.int k y]=some (.bool (decide (x≤y))):=by cases k <;> rfl
theorem zer:pv (.bin .gtr) [.int k x,.int k y]=some (.bool (decide (y<x))):=by cases k <;> rfl
theorem zep:pv (.bin .geq) [.int k x,.int k y]=some (.bool (decide (y≤x))):=by cases k <;> rfl
theorem zf4 {j:IntKind}:pv (.bin .shl) [.int k x,.int j y]=if y<0 then none else some (.int k (shlInt k x y)):=zo rfl
theorem zf5 {j:IntKind}:pv (.bin .shr) [.int k x,.int j y]=if y<0 then none else some (.int k (shrInt k x y)):=zo rfl
theorem zf0 {b:Bool}:pv .not [.bool b]=some (.bool !b):=zo rfl
theorem zey:pv .neg [.int k x]=some (.int k (k.wrap (0 - x))):=zo rfl
theorem zek:pv .cpl [.int k x]=some (.int k (bitInt .xor k (if k.signed then -1 else k.max) x)):=zo rfl
theorem z6n {j:IntKind}:pv (.conv j) [.int k x]=some (.int j (j.wrap x)):=zo rfl
theorem zem {p q:Bool}:pv (.eqb false) [.bool p,.bool q]=some (.bool (p ==q)):=zo rfl
theorem zcp {p q:Bool}:pv (.eqb true) [.bool p,.bool q]=some (.bool (p != q)):=zo rfl
theorem zel {j:IntKind} {u v:Int}:pv (.eq2 false k j) [.agg [.int k x,.int j y],.agg [.int k u,.int j v]]=some (.bool (decide (x=u∧y=v))):=by cases k <;> cases j <;> rfl
theorem zco {j:IntKind} {u v:Int}:pv (.eq2 true k j) [.agg [.int k x,.int j y],.agg [.int k u,.int j v]]=some (.bool (!decide (x=u∧y=v))):=by cases k <;> cases j <;> rfl
theorem zad {i o n:Nat}:pv (.fld n) [.ptr i o]=some (.ptr i (o+n)):=zo rfl
theorem zab {i s j o n:Nat}:pv (.fld n) [.aptr i s j o]=some (.aptr i s j (o+n)):=zo rfl
theorem zac {n:Nat} {l:List AV}:pv (.fld n) [.ep l]=some (.ep (l.drop n)):=zo rfl
theorem z5h {i o:Nat}:pv .nilchk [.ptr i o]=some (.ptr i o):=zo rfl
theorem z5e {i s j o:Nat}:pv .nilchk [.aptr i s j o]=some (.aptr i s j o):=zo rfl
theorem z5f {l:List AV}:pv .nilchk [.ep l]=some (.ep l):=zo rfl
theorem z5g {f:Nat} {l:List AV}:pv .nilchk [.fn f l]=some (.fn f l):=zo rfl
theorem z6r {i o:Nat} {g:Bool}:pv (.eqnil g true) [.ptr i o]=some (.bool g):=by cases g <;> rfl
theorem z6o {i s j o:Nat} {g:Bool}:pv (.eqnil g true) [.aptr i s j o]=some (.bool g):=by cases g <;> rfl
theorem z6p {l:List AV} {g:Bool}:pv (.eqnil g true) [.ep l]=some (.bool g):=by cases g <;> rfl
theorem z6q {g:Bool}:pv (.eqnil g true) [.nil]=some (.bool (!g)):=by cases g <;> rfl
theorem zcd {o s:Nat} {l:List AV}:pv (.fldv o s true) [.agg l]=if o+s≤l.length then some (.agg ((l.drop o).take s)) else none:=zo rfl
theorem zae {o s:Nat} {l:List AV}:pv (.fldv o s false) [.agg l]=l[o]? := zo rfl
theorem zaj {s:Nat} {es:List (List AV)}:pv (.idx s) [.sl s es,.int k x]=if 0≤x then (es[x.toNat]?).map .ep else none:=by simp [pv,pIdx]
theorem zah {s:Nat}:pv (.idx s) [.nils,.int k x]=none:=zo rfl
theorem zai {s i o n:Nat}:pv (.idx s) [.os i s o n,.int k x]=if 0≤x∧x<(n:Int) then some (.aptr i s (o+x.toNat) 0) else none:=by simp [pv,pIdx]
theorem z8l {i o n s:Nat}:pv (.idxa n s) [.ptr i o,.int k x]=if 0≤x∧x<(n:Int) then some (.ptr i (o+x.toNat*s)) else none:=zo rfl
theorem zao {s:Nat} {es:List (List AV)}:pv .len [.sl s es]=some (.int .i64 es.length):=zo rfl
theorem zam:pv .len [.nils]=some (.int .i64 0):=zo rfl
theorem zan {i s o n:Nat}:pv .len [.os i s o n]=some (.int .i64 n):=zo rfl
theorem z5i {s:Nat}:pv (.slice s true true) [a,.int .i64 x,.int .i64 y]=pSlice s a x (some y):=by cases a <;> rfl
theorem z6w {s:Nat}:pv (.slice s true false) [a,.int .i64 x]=pSlice s a x none:=by cases a <;> rfl
theorem z6v {s:Nat}:pv (.slice s false true) [a,.int .i64 x]=pSlice s a 0 (some x):=by cases a <;> rfl
theorem z6u {s:Nat}:pv (.slice s false false) [a]=pSlice s a 0 none:=by cases a <;> rfl
theorem zcy {s:Nat} {es:List (List AV)} {h:Option Int}:pSlice s (.sl s es) x h=if 0≤x∧x≤h.getD es.length∧h.getD es.length≤(es.length:Int) then some (.sl s ((es.take (h.getD es.length).toNat).drop x.toNat)) else none:=by simp [pSlice]
theorem zcx {s i o n:Nat} {h:Option Int}:pSlice s (.os i s o n) x h=if 0≤x∧x≤h.getD n∧h.getD n≤(n:Int) then some (.os i s (o+x.toNat) ((h.getD n).toNat - x.toNat)) else none:=by simp [pSlice]
theorem zcw {s:Nat} {h:Option Int}:pSlice s .nils x h=if 0≤x∧x≤h.getD 0∧h.getD 0≤0 then some .nils else none:=zo rfl
theorem za2 {z:List AV} {p:List (Nat×Nat)} {as:List AV}:pv (.build z p) as=(pBuild z p as).map .agg:=zo rfl
theorem zeo {i:Nat} {l:List AV}:pv (.ext i) [.tup l]=l[i]? := zo rfl
theorem zci {f:Nat} {l:List AV}:pv (.mkfn f) l=some (.fn f l):=zo rfl
theorem zcj {f:Nat}:pv (.mkif f) [a]=some (.iface f a):=zo rfl
theorem zev {l:List AV} {m:Bool}:pv (.minmax m) (a::l)=pMin m a l:=zo rfl
theorem zau {m:Bool}:pMin m a []=some a:=by cases a <;> rfl
theorem zcv {l:List AV}:pMin false (.int k x) (.int k y::l)=pMin false (.int k (if y<x then y else x)) l:=by cases k <;> rfl
theorem zcu {l:List AV}:pMin true (.int k x) (.int k y::l)=pMin true (.int k (if y>x then y else x)) l:=by cases k <;> rfl
theorem zf1 {l:List AV}:pBuild l [] []=some l:=zo rfl
theorem zgv {l as:List AV} {o s:Nat} {ps:List (Nat×Nat)}:pBuild l ((o,s)::ps) (a::as)=if a.cells.length=s∧a.isTup=false then (splice o a.cells l).bind fun cs=>pBuild cs ps as else none:=zo rfl
theorem zf6 {l:List AV}:splice 0 [] l=some l:=by cases l <;> rfl
theorem zgw {l v:List AV}:splice 0 (a::v) (b::l)=(splice 0 v l).map (a :: ·):=zo rfl
theorem zf7 {n:Nat} {l v:List AV}:splice (n+1) v (b::l)=(splice n v l).map (b :: ·):=zo rfl
theorem za3 {l:List AV}:(AV.agg l).cells=l:=zo rfl
theorem za4:(AV.int k x).cells=[.int k x]:=zo rfl
theorem z8j {p:Bool}:(AV.bool p).cells=[.bool p]:=zo rfl
theorem z8k:AV.nils.cells=[.nils]:=zo rfl
theorem zc9 {s:Nat} {l:List (List AV)}:(AV.sl s l).cells=[.sl s l]:=zo rfl
theorem zc8 {i s o n:Nat}:(AV.os i s o n).cells=[.os i s o n]:=zo rfl
theorem za6 {i o:Nat}:(AV.ptr i o).cells=[.ptr i o]:=zo rfl
theorem za5:AV.nil.cells=[.nil]:=zo rfl
theorem zc7 {i:Nat}:(AV.mp i).cells=[.mp i]:=zo rfl
theorem z5d:AV.nilmap.cells=[.nilmap]:=zo rfl
theorem zc6 {f:Nat} {l:List AV}:(AV.fn f l).cells=[.fn f l]:=zo rfl
theorem za7 {s:ByteArray}:(AV.str s).cells=[.str s]:=zo rfl
theorem zay {l:List AV}:(AV.agg l).isTup=false:=zo rfl
theorem zaz:(AV.int k x).isTup=false:=zo rfl
theorem z8o {p:Bool}:(AV.bool p).isTup=false:=zo rfl
theorem z8p:AV.nils.isTup=false:=zo rfl
theorem zd9 {s:Nat} {l:List (List AV)}:(AV.sl s l).isTup=false:=zo rfl
theorem zd8 {i s o n:Nat}:(AV.os i s o n).isTup=false:=zo rfl
theorem zb1 {i o:Nat}:(AV.ptr i o).isTup=false:=zo rfl
theorem zb0:AV.nil.isTup=false:=zo rfl
theorem zd7 {i:Nat}:(AV.mp i).isTup=false:=zo rfl
theorem z5j:AV.nilmap.isTup=false:=zo rfl
theorem zd6 {f:Nat} {l:List AV}:(AV.fn f l).isTup=false:=zo rfl
theorem zb2 {s:ByteArray}:(AV.str s).isTup=false:=zo rfl
variable {σ:Store}
theorem zgt {n:Nat}:ldv (.ld n true) [a] σ=(rd σ n a).map .agg:=by cases a <;> rfl
def oneV:List AV→Option AV
 | [c]=>some c
 | _=>none
theorem zct:oneV [a]=some a:=zo rfl
theorem zes {n:Nat}:ldv (.ld n false) [a] σ=(rd σ 1 a).bind oneV:=zo rfl
theorem zd0 {n:Nat} {l:List AV}:rd σ n (.ep l)=takeN 0 n l:=zo rfl
def boxO:Option Obj→Option (List AV)
 | some (.box l)=>some l
 | _=>none
theorem zeh {l:List AV}:boxO (some (.box l))=some l:=zo rfl
def arrO (s:Nat):Option Obj→Option (List (List AV))
 | some (.arr s' l)=>if s'=s then some l else none
 | _=>none
theorem z91 {s:Nat} {l:List (List AV)}:arrO s (some (.arr s l))=some l:=by simp [arrO]
theorem zd1 {n i o:Nat}:rd σ n (.ptr i o)=(boxO (σ i)).bind fun l=>takeN o n l:=by
 simp only [rd];cases σ i with
 | none=>rfl
 | some p=>cases p <;> rfl
theorem zcz {n i s j o:Nat}:rd σ n (.aptr i s j o)=(arrO s (σ i)).bind fun l=>(l[j]?).bind fun c=>takeN o n c:=by
 simp only [rd];cases σ i with
 | none=>rfl
 | some p=>cases p <;> first | rfl | (simp only [arrO];split <;> rfl)
theorem zb3 {o n:Nat} {l:List AV}:takeN o n l=if o+n≤l.length then some ((l.drop o).take n) else none:=zo rfl
theorem zdb {i o:Nat} {v:List AV}:wr σ v (.ptr i o)=(boxO (σ i)).bind fun l=>(splice o v l).map fun cs=>σ.set i (.box cs):=by
 simp only [wr];cases σ i with
 | none=>rfl
 | some p=>cases p <;> rfl
theorem zda {i s j o:Nat} {v:List AV}:wr σ v (.aptr i s j o)=(arrO s (σ i)).bind fun l=>(l[j]?).bind fun c=>(splice o v c).map fun cs=>σ.set i (.arr s (l.set j cs)):=by
 simp only [wr];cases σ i with
 | none=>rfl
 | some p=>cases p <;> first | rfl | (simp only [arrO];split <;> rfl)
theorem za1 {z:List AV}:alv (.alloc z) []=some (.box z,fun id => .ptr id 0):=zo rfl
theorem zc4:alv .box [a]=if a.isTup then none else some (.box a.cells,fun id => .ptr id 0):=zo rfl
theorem zar {s:Nat}:alv (.mksl s 0) []=some (.arr s [],fun id => .os id s 0 0):=zo rfl
theorem zas {s:Nat}:alv (.mksl s 1) [a]=if a.isTup=false∧a.cells.length=s then some (.arr s [a.cells],fun id => .os id s 0 1) else none:=by
 simp [alv]
theorem zat {s:Nat}:alv (.mksl s 2) [a,b]=if (a.isTup=false∧a.cells.length=s)∧(b.isTup=false∧b.cells.length=s) then some (.arr s [a.cells,b.cells],fun id => .os id s 0 2) else none:=by
 simp only [alv,List.length_cons,List.length_nil,List.all_cons,List.all_nil,Bool.and_true,Bool.and_eq_true,Bool.not_eq_true',decide_eq_true_eq,List.map]
 simp
theorem zap:alv .mkmap []=some (.map [],fun id => .mp id):=zo rfl
theorem zcg {z:List AV} {s n:Nat}:alv (.make s z n) [.int .i64 x,.int .i64 y]=if x=y∧0≤x∧x≤9223372036854775807∧x*n≤281474976710656 then some (.arr s (List.replicate x.toNat z),fun id => .os id s 0 x.toNat) else none:=zo rfl
theorem zgx {P:Program} {n:Nat} {K:AV→Store→Prop}:lwp P (.st n) [a,b] σ K↔b.isTup=false∧b.cells.length=n∧wit (wr σ b.cells a) fun τ=>K (.tup []) τ:=by
 simp only [lwp]
 cases wr σ b.cells a <;> simp [wit]
theorem zef {P:Program} {n m:Nat} {K:AV→Store→Prop}:lwp P (.app n m) [a,b] σ K↔appwp n m a b σ K:=q9 Iff.rfl
theorem za8 {P:Program} {f:Nat} {l as:List AV} {K:AV→Store→Prop}:lwp P .callv (.fn f l::as) σ K ↔ @CallQ P f (as++l) σ ⟨K⟩:=by rw [←v_acalls];exact Iff.rfl
theorem zcq {P:Program} {g:Bool} {K:AV→Store→Prop}:lwp P (.nilq g) [a] σ K↔nilqwp g a (fun b=>K b σ):=q9 Iff.rfl
theorem zcr {g:Bool} {K:AV→Prop}:nilqwp g .nils K↔K (.bool (!g)):=q9 Iff.rfl
theorem zcs {g:Bool} {i s o n:Nat} {K:AV→Prop}:nilqwp g (.os i s o n) K↔K (.bool g):=q9 Iff.rfl
theorem z3c {g:Bool} {s:Nat} {l:List (List AV)} {K:AV→Prop} (h:∀ b,(l≠[]→b=g)→K (.bool b)):nilqwp g (.sl s l) K:=by
 cases l with
 | nil=>exact ⟨h true (fun h=>absurd rfl h),h false (fun h=>absurd rfl h)⟩
 | cons x r=>exact h g (fun _=>rfl)
theorem zcn {P:Program} {mk:MKey} {K:AV→Store→Prop}:lwp P (.mupd mk) [a,b,c] σ K↔mupdwp mk a b c σ (K (.tup [])):=q9 Iff.rfl
theorem zch {P:Program} {mk:MKey} {K:AV→Store→Prop}:lwp P (.mdel mk) [a,b] σ K↔mdelwp mk a b σ (K (.tup [])):=q9 Iff.rfl
theorem zd2 {s:RS}:Env.res e σ [s]=e.rs σ s:=zo rfl
theorem zd3 {s s':RS} {l:List RS}:Env.res e σ (s::s'::l)=(e.gets σ (s::s'::l)).map .tup:=zo rfl
theorem zaf:Env.gets e σ []=some []:=zo rfl
theorem zce {s:RS} {l:List RS}:Env.gets e σ (s::l)=(e.rs σ s).bind fun a=>(e.gets σ l).map (a :: ·):=by
 simp only [Env.gets];cases e.rs σ s <;> cases e.gets σ l <;> rfl
theorem zd5 {n:Nat}:e.rs σ (.t n)=e.get n:=zo rfl
theorem zd4 {n s:Nat}:e.rs σ (.c n s true)=(e.get n).bind fun p=>(rd σ s p).map .agg:=by
 simp only [Env.rs];cases e.get n <;> rfl
theorem zax {n s:Nat}:e.rs σ (.c n s false)=(e.get n).bind fun p=>(rd σ 1 p).bind oneV:=by
 simp only [Env.rs]
 cases e.get n with
 | none=>rfl
 | some p =>
   simp only [Option.bind_some]
   cases rd σ 1 p with
   | none=>rfl
   | some l=>match l with
     | []=>rfl
     | [_]=>rfl
     | _::_::_=>rfl
end
end Go.Am
namespace Go.Am
theorem u_setN {σ:Store} {i j:Nat} {o:Obj}:((σ.set i o) j=none)↔(¬ j=i∧¬ i=j)∧σ j=none:=by
 simp only [Store.set]
 by_cases h:j=i
 ·subst h;simp
 ·simp [h,Ne.symm h]
end Go.Am
namespace Go.Am
theorem z4c {σ:Store} {i j:Nat} {o:Obj} (h:¬ j=i):(σ.set i o) j=σ j:=by simp [Store.set,h]
end Go.Am
namespace Go.Am
theorem z8n {σ τ:Store} {i:Nat} {o:Obj} (h:σ i=none):Store.sub σ (τ.set i o)↔Store.sub σ τ:=by
 constructor
 ·intro hs j p hj
  have:=hs j p hj
  simp only [Store.set] at this
  split at this
  ·rename_i e;subst e;rw [h] at hj;cases hj
  ·exact this
 ·exact fun hs=>Store.sub_upd hs h
theorem z8m {σ τ:Store} {i:Nat} (h:σ i=none):Store.sub σ (τ.del i)↔Store.sub σ τ:=by
 constructor
 ·intro hs j p hj
  have:=hs j p hj
  simp only [Store.del] at this
  split at this
  ·cases this
  ·exact this
 ·intro hs j p hj
  simp only [Store.del]
  split
  ·rename_i e;subst e;rw [h] at hj;cases hj
  ·exact hs j p hj
theorem z6x {σ:Store}:Store.sub σ σ↔True:=⟨fun _=>trivial,fun _=>Store.sub_refl σ⟩
end Go.Am
namespace Go.Am
class LoopK where
 live:List Nat
 b:BC
 n:Env→Store→Prop
 r:Env→Store→Prop
 x:Nat→Env→Store→Prop
def LoopQ (P:Program) (e:Env) (σ:Store) [k:LoopK]:Prop:=∃ I:Nat→Env→Store→Prop,(∃ j σ',Store.sub σ' σ∧I j e σ')∧∀ j e σ,I j e σ →
     bwp P k.b e σ (fun e' σ'=>∃ i σ'',i<j∧Store.sub σ'' σ'∧I i (Env.keep e' k.live) σ'') k.r k.x
theorem zde {P:Program} {live:List Nat} {b:BC} {e:Env} {σ:Store} {n r:Env→Store→Prop} {x:Nat→Env→Store→Prop}:bwp P (.loop live b) e σ n r x ↔ @LoopQ P (e.keep live) σ ⟨live,b,n,r,x⟩:=q9 Iff.rfl
class NextK where
 K:Env→Store→Prop
def NextQ (e:Env) (σ:Store) [k:NextK]:Prop:=k.K e σ
theorem LoopQ.inv {P:Program} {S:Type} (env:S→Env) (st:S→Store) (ok:S→Prop) (m:S→Nat) (s0:S) {live:List Nat} {b:BC} {e:Env} {σ:Store} {n r:Env→Store→Prop} {x:Nat→Env→Store→Prop} (he:e=env s0) (hs:Store.sub (st s0) σ) (h0:ok s0)
 (hstep:∀ s,ok s→bwp P b (env s) (st s) (fun e' σ' => @NextQ (Env.keep e' live) σ' ⟨fun e' σ'=>∃ s',e'=env s'∧Store.sub (st s') σ'∧m s'<m s∧ok s'⟩) r x) : @LoopQ P e σ ⟨live,b,n,r,x⟩:=by
 refine ⟨fun k e σ=>∃ s,ok s∧env s=e∧st s=σ∧m s=k,⟨m s0,st s0,hs,s0,h0,he.symm,rfl,rfl⟩,?_⟩
 rintro k e σ ⟨s,hok,rfl,rfl,rfl⟩
 refine yl b _ _ _ _ _ _ _ _ ?_ (fun _ _ h=>h) (fun _ _ _ h=>h) (hstep s hok)
 rintro e' σ' ⟨s',h1,h2,h3,h4⟩
 exact ⟨m s',st s',h3,h2,s',h4,h1.symm,rfl,rfl⟩
theorem NextQ.to {S:Type} {env:S→Env} {st:S→Store} {ok:S→Prop} {m:S→Nat} {s:S} {e:Env} {σ:Store} (s':S) (h1:e=env s') (h2:Store.sub (st s') σ) (h3:m s'<m s) (h4:ok s') :
 @NextQ e σ ⟨fun e' σ'=>∃ s',e'=env s'∧Store.sub (st s') σ'∧m s'<m s∧ok s'⟩:=⟨s',h1,h2,h3,h4⟩
end Go.Am
namespace Go.Am
class AllocK where
 K:Nat→Prop
def AllocQ (σ:Store) [k:AllocK]:Prop:=∀ id,σ id=none→k.K id
theorem z8r {P:Program} {e:Env} {σ:Store} {d:Option Nat} {xs:List Opd} {K:Env→Store→Prop} {k:AK}:bop P d (.alloc k) xs e σ K↔wit (evs e xs) fun as=>wit (alv k as) fun p => @AllocQ σ ⟨fun id=>K (Env.putO d (p.2 id) e) (σ.set id p.1)⟩:=zb4
theorem AllocQ.i0 {σ:Store} {K:Nat→Prop} (h:∀ id,σ id=none→K id) : @AllocQ σ ⟨K⟩:=h
theorem AllocQ.i1 {σ:Store} {i:Nat} {o:Obj} {K:Nat→Prop} (h:∀ id,¬ id=i→¬ i=id→σ id=none→K id) : @AllocQ (σ.set i o) ⟨K⟩:=fun id hid=>by
 obtain ⟨⟨h1,h2⟩,h3⟩:=u_setN.1 hid
 exact h id h1 h2 h3
theorem AllocQ.i2 {σ:Store} {i j:Nat} {o p:Obj} {K:Nat→Prop} (h:∀ id,¬ id=i→¬ i=id→¬ id=j→¬ j=id→σ id=none→K id) : @AllocQ ((σ.set i o).set j p) ⟨K⟩:=fun id hid=>by
 obtain ⟨⟨h1,h2⟩,h3⟩:=u_setN.1 hid
 obtain ⟨⟨h4,h5⟩,h6⟩:=u_setN.1 h3
 exact h id h4 h5 h1 h2 h6
end Go.Am
namespace Go.Am
def slO {α:Type} (s:Nat) (c:α→List AV):Option (List α)→AV
 | none => .nils
 | some l => .sl s (l.map c)
section
variable {α:Type} {s:Nat} {c:α→List AV} {o:Option (List α)}
theorem zal:pv .len [slO s c o]=some (.int .i64 (o.getD []).length):=by cases o <;> simp [slO,pv,pLen]
theorem zag {k:IntKind} {x:Int}:pv (.idx s) [slO s c o,.int k x]=if 0≤x then (((o.getD []).map c)[x.toNat]?).map .ep else none:=by
 cases o <;> simp [slO,pv,pIdx]
theorem zf9:(slO s c o).isTup=false:=by cases o <;> rfl
theorem zei:(slO s c o).cells=[slO s c o]:=by cases o <;> rfl
theorem Pur.nil {P:Program} {f:Nat} {args:List AV} {v:AV} (k s:Nat) (ha:args[k]? = some .nils) (h:Pur P f (args.set k (.sl s [])) v):Pur P f args v:=fun σ =>
 ACalls.weakArgs (h σ).1 (WeakL.nil (Q:=fun args' σ'=>ACalls P f args' σ' (fun a s=>s=σ∧a=v)) k s ha (WeakL.pure (h σ)))
end
end Go.Am
namespace Go.Am
class EndK where
 slots:List RS
 Q:AV→Store→Prop
def EndQ (e:Env) (τ:Store) [k:EndK]:Prop:=Ends k.slots k.Q e τ
theorem EndQ.to {slots:List RS} {Q:AV→Store→Prop} {e:Env} {τ:Store} (σ:Store) (v:AV) (h1:e.res τ slots=some v) (h2:Store.sub σ τ) (h3:Q v σ) : @EndQ e τ ⟨slots,Q⟩:=z6y ⟨v,h1,h2,h3⟩
theorem EndQ.frz {slots:List RS} {Q:AV→Store→Prop} {e:Env} {τ:Store} (id esz off len:Nat) (es:List (List AV)) (σ:Store) (h1:e.res τ slots=some (.os id esz off len)) (h2:τ id=some (.arr esz es))
 (hle:off+len≤es.length) (h3:Store.sub σ (τ.del id)) (h4:Q (.sl esz ((es.drop off).take len)) σ) : @EndQ e τ ⟨slots,Q⟩ :=
 ⟨_,h1,Weak.of_one (WeakL.freeze 0 rfl h2 hle (WeakL.forget h3 (WeakL.pure ⟨_,rfl,h4⟩)))⟩
theorem zk {P:Program} {fi:Nat} (F:Fn P fi) {args:List AV} {σ:Store} {Q:AV→Store→Prop} (hargs:args.length≤F.N)
 (h:bwp P F.b (argE 0 args) σ (fun e τ => @EndQ e τ ⟨F.slots,Q⟩) (fun e τ => @EndQ e τ ⟨F.slots,Q⟩) (fun _ _ _=>False)):ACalls P fi args σ Q:=z1k F hargs h
theorem ACalls.Q {P:Program} {f:Nat} {args:List AV} {σ:Store} {Q K:AV→Store→Prop} (h:ACalls P f args σ Q) (hK:∀ a s,Q a s→K a s) : @CallQ P f args σ ⟨K⟩:=v_acalls.1 (h.mono hK)
theorem Store.set_self {σ:Store} {i:Nat} {o:Obj} (h:σ i=some o):σ.set i o=σ:=by funext j;simp only [Store.set];split <;> simp_all
end Go.Am
namespace Go.Am
class WkK where
 K:Env→Store→Prop
def WkQ (e:Env) (σ:Store) [k:WkK]:Prop:=WeakE e σ k.K
theorem zgz {P:Program} {i:Nat} {b:BC} {e:Env} {σ:Store} {n r:Env→Store→Prop} {x:Nat→Env→Store→Prop}:bwp P (.wk i b) e σ n r x ↔ @WkQ e σ ⟨fun e σ=>bwp P b e σ n r x⟩:=q9 Iff.rfl
theorem WkQ.of {e:Env} {σ:Store} {K:Env→Store→Prop} (h:WeakE e σ K) : @WkQ e σ ⟨K⟩:=h
end Go.Am
attribute [irreducible] Go.Am.WkQ Go.Am.LoopQ Go.Am.NextQ Go.Am.AllocQ Go.Am.EndQ
namespace Go.Am
set_option linter.defProp false
def vcPre :=
 And.intro @zdk (And.intro @zff (And.intro @zdj (And.intro @zfg (And.intro @zfe (And.intro @zdi (And.intro @zfh (And.intro @zb7 (And.intro @zdc (And.intro @zdh (And.intro @zdd (And.intro @z8r (And.intro @zdf (And.intro @z8s (And.intro @zb5 (And.intro @v_acalls (And.intro @zfb (And.intro @zdg (And.intro @zde (And.intro @zfd (And.intro @zgy (And.intro @zfc (And.intro @yf (And.intro @z8v (And.intro @zb8 (And.intro @z8u (And.intro @zb9 (And.intro @z8t (And.intro @zga (And.intro @zg8 (And.intro @zdx (And.intro @zdu (And.intro @zg9 (And.intro @ze0 (And.intro @zdt (And.intro @zds (And.intro @zdw (And.intro @zdv (And.intro @zg7 (And.intro @zg5 (And.intro @zg4 (And.intro @zg6 @zgz)))))))))))))))))))))))))))))))))))))))))
def vcPost :=
 And.intro @zeq (And.intro @z6t (And.intro @z6s (And.intro @zak (And.intro @zcf (And.intro @zaw (And.intro @zav (And.intro @zcb (And.intro @zca (And.intro @zcc (And.intro @za9 (And.intro @zaa (And.intro @zc5 (And.intro @zeg (And.intro @zew (And.intro @z90 (And.intro @zf8 (And.intro @zex (And.intro @zf2 (And.intro @zf3 (And.intro @zee (And.intro @zgu (And.intro @zfa (And.intro @z8i (And.intro @zen (And.intro @zez (And.intro @zeu (And.intro @zet (And.intro @zer (And.intro @zep (And.intro @zf4 (And.intro @zf5 (And.intro @zf0 (And.intro @zey (And.intro @zek (And.intro @z6n (And.intro @zem (And.intro @zcp (And.intro @zel (And.intro @zco (And.intro @zad (And.intro @zab (And.intro @zac (And.intro @z5h (And.intro @z5e (And.intro @z5f (And.intro @z5g (And.intro @z6r (And.intro @z6o (And.intro @z6p (And.intro @z6q (And.intro @zcd (And.intro @zae (And.intro @zaj (And.intro @zah (And.intro @zai (And.intro @z8l (And.intro @zao (And.intro @zam (And.intro @zan (And.intro @z5i (And.intro @z6w (And.intro @z6v (And.intro @z6u (And.intro @zcy (And.intro @zcx (And.intro @zcw (And.intro @za2 (And.intro @zeo (And.intro @zci (And.intro @zcj (And.intro @zev (And.intro @zau (And.intro @zcv (And.intro @zcu (And.intro @zf1 (And.intro @zgv (And.intro @zf6 (And.intro @zgw (And.intro @zf7 (And.intro @za3 (And.intro @za4 (And.intro @z8j (And.intro @z8k (And.intro @zc9 (And.intro @zc8 (And.intro @za6 (And.intro @za5 (And.intro @zc7 (And.intro @z5d (And.intro @zc6 (And.intro @za7 (And.intro @zay (And.intro @zaz (And.intro @z8o (And.intro @z8p (And.intro @zd9 (And.intro @zd8 (And.intro @zb1 (And.intro @zb0 (And.intro @zd7 (And.intro @z5j (And.intro @zd6 (And.intro @zb2 (And.intro @zgt (And.intro @zct (And.intro @zes (And.intro @zd0 (And.intro @zeh (And.intro @z91 (And.intro @zd1 (And.intro @zcz (And.intro @zb3 (And.intro @zdb (And.intro @zda (And.intro @za1 (And.intro @zc4 (And.intro @zar (And.intro @zas (And.intro @zat (And.intro @zap (And.intro @zcg (And.intro @zgx (And.intro @zef (And.intro @zal (And.intro @zag (And.intro @zf9 (And.intro @zei (And.intro @za8 (And.intro @zcq (And.intro @zcr (And.intro @zcs (And.intro @zcn (And.intro @zch (And.intro @zd2 (And.intro @zd3 (And.intro @zaf (And.intro @zce (And.intro @zd5 (And.intro @zd4 @zax)))))))))))))))))))))))))))))))))))))))))))))))))))))))))))))))))))))))))))))))))))))))))))))))))))))))))))))))))))))))))))))))))))))))))))
def vcStd :=
 And.intro @decide_eq_true_eq (And.intro @decide_eq_false_iff_not (And.intro @List.length_cons.{0} (And.intro @List.length_nil.{0} (And.intro @List.drop_zero.{0} (And.intro @List.drop_succ_cons.{0} (And.intro @List.take_succ_cons.{0} (And.intro @List.take_zero.{0} (And.intro @List.drop_nil.{0} (And.intro @List.length_map.{0,0} (And.intro @List.getElem_map.{0,0} (And.intro @Int.toNat_natCast (And.intro @Int.natCast_nonneg (And.intro @Int.ofNat_lt (And.intro @Int.ofNat_le (And.intro @not_true_eq_false (And.intro @exists_prop (And.intro @exists_true_left (And.intro @Option.map_some.{0,0} (And.intro @Option.bind_some.{0,0} (And.intro @true_and (And.intro @and_true (And.intro @true_implies (And.intro @false_implies (And.intro @Bool.not_true (And.intro @Bool.not_not (And.intro @decide_true (And.intro @decide_false (And.intro @Bool.not_false (And.intro @Bool.not_eq_true' (And.intro @Bool.false_eq_true (And.intro @Bool.true_eq_false (And.intro @Store.set_same (And.intro @z4c (And.intro @z8n (And.intro @z8m (And.intro @z6x (And.intro @Option.some.injEq.{0} (And.intro @AV.bool.injEq (And.intro @AV.int.injEq (And.intro @AV.agg.injEq (And.intro @List.cons.injEq.{0} (And.intro @not_false_eq_true (And.intro @and_imp (And.intro @List.cons_append.{0} (And.intro @List.nil_append.{0} (And.intro @List.getElem?_cons_zero.{0} (And.intro @List.getElem?_cons_succ.{0} @implies_true.{0})))))))))))))))))))))))))))))))))))))))))))))))
end Go.Am
namespace Go.Am
open Go.RowKit
def TOk (P:Program):Nat→TypeId→List AV→Prop
 | 0,_,_=>False
 | n+1,t,as=>match P.underlying t with
   | some .bool=>∃ b,as=[.bool b]
   | some (.int k)=>∃ m,as=[.int k m]∧k.min≤m∧m≤k.max
   | some .string=>∃ s:ByteArray,as=[.str s]∧s.size≤reachBytes
   | some (.float .f64)=>∃ m,as=[.flt m]∧m<2 ^ 64
   | some (.slice e)=>as=[.nils]∨∃ es,as=[.sl (P.cellsOf e) es]∧es.length*P.bytesOf e≤reachBytes∧∀ x ∈ es,TOk P n e x
   | some (.struct fs)=>∃ parts:List (List AV),as=parts.flatten∧parts.length=fs.toList.length∧∀ i (h:i<parts.length) (h':i<fs.toList.length),TOk P n fs.toList[i].type parts[i]
   | _=>False
section
variable {H:Type} {enc:TypeId×Value→H} {P:Program} {w:World} {sp:Nat→Bool} {held:Bool}
end
end Go.Am
attribute [irreducible] Go.Am.TOk
namespace Go.Am
open Go.RowKit
def G0 (w:World):Gh:=⟨fun _=>none,fun b=>b<w.heap.size⟩
def S0:Store:=fun _=>none
theorem zgr (w:World):Sim (G0 w) S0 w :=
 { lt:=fun b hb=>hb,fin:=⟨0,fun _ _=>rfl⟩,blk:=fun i b base hi=>(by cases hi),used:=fun i o hi=>(by cases hi),
   inj:=fun i j oi oj b base base' hi=>(by cases hi),apart:=fun i o b base hi=>(by cases hi) }
theorem z3q {P:Program} {f:Nat} {as:List AV} (h:ACalls P f as S0 (fun b _=>b = .bool true)) {w:World} {vs:List Value} (hr:Rels (VRel (G0 w) w) as vs) :
 Calls P f vs.toArray w fun e w'=>e = .returned (.bool true)∧Below w.heap.size w w':=by
 have:=h.2 _ w vs (zgr w) hr
 refine this.mono ?_
 rintro e w' ⟨v,a,G',σ',rfl,hx,_,hv,rfl⟩
 have hv':=hv.of_bool
 subst hv'
 exact ⟨rfl,hx.os,hx.tape,hx.output,hx.size,fun k hk=>hx.keep k hk (fun ⟨_,_,_,h1,_⟩=>by cases h1)⟩
section
variable {H:Type} {enc:TypeId×Value→H} {P:Program} {w:World} {sp:Nat→Bool} {held:Bool} {t:TypeId} {v:Value} {d:DataW H} {ps:List MemPlace}
end
def Parts (P:Program) (n:Nat):List TypeId→List AV→Prop
 | [],as=>as=[]
 | t::ts,as=>∃ a b,as=a++b∧TOk P n t a∧Parts P n ts b
end Go.Am
namespace Go.Am
open Go.RowKit
theorem zfi {P:Program} {f:Nat} {as:List AV} (h:Pur P f as (.bool true)) {w:World} {vs:List Value} (hr:Rels (VRel (G0 w) w) as vs) :
 Calls P f vs.toArray w fun e w'=>e = .returned (.bool true)∧Below w.heap.size w w':=z3q ((h S0).mono fun a s h=>h.2) hr
end Go.Am
