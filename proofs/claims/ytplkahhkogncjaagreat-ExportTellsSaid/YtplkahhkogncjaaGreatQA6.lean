/- A part of the proof: a logic for calls over plain values, and the functions that the law reaches, each walked once. -/
import Derived.Test.YtplkahhkogncjaaGreatQA5
import Derived.OpenShut
import Derived.ChangeOld
import Derived.ChangeShapes
import Derived.SizedLaws
import Derived.Below
set_option linter.unusedVariables false
set_option linter.unusedSimpArgs false
set_option linter.unusedSectionVars false
universe u
namespace Go.Am
theorem zp {α:Sort u} {a b:α} (h:a=b):a=b:=h
theorem uz {a b:Prop} (h:a↔b):a↔b:=h
section
variable {e:Env} {k:IntKind} {x y:Int} {a b c:AV} {t:Nat} {r:List Opd}
theorem zex {u:Nat}:Env.get ((t,a)::e) u=if u=t then some a else e.get u:=zp rfl
def keepO (o:Option AV) (t:Nat) (r:Env):Env:=match o with
 | some a=>(t,a)::r
 | none=>r
theorem z6z {r:Env}:keepO (some a) t r=(t,a)::r:=zp rfl
theorem z6y {r:Env}:keepO none t r=r:=zp rfl
theorem zap:Env.keep e []=[]:=zp rfl
theorem zci {r:List Nat}:Env.keep e (t::r)=keepO (e.get t) t (Env.keep e r):=by
 simp only [Env.keep,keepO];cases e.get t <;> rfl
theorem zb1:Env.putO (some t) a e=(t,a)::e:=zp rfl
theorem zb0:Env.putO none a e=e:=zp rfl
theorem zce:ev e (.t t)=e.get t:=zp rfl
theorem zcd:ev e (.c a)=some a:=zp rfl
theorem zcf:evs e []=some []:=zp rfl
theorem zae:evs e (.c a::r)=(evs e r).map (a :: ·):=by simp only [evs,ev];cases evs e r <;> rfl
theorem zaf:evs e (.t t::r)=(e.get t).bind fun a=>(evs e r).map (a :: ·):=by simp only [evs,ev];cases e.get t <;> cases evs e r <;> rfl
theorem zc8 {i:Nat}:argE i []=[]:=zp rfl
theorem zen {i:Nat} {l:List AV}:argE i (a::l)=(i,a)::argE (i+1) l:=zp rfl
theorem zf3:pv .mov [a]=some a:=zp rfl
theorem z94:pv (.bin .add) [.int k x,.int k y]=some (.int k (k.wrap (x+y))):=by cases k <;> rfl
theorem zff:pv (.bin .sub) [.int k x,.int k y]=some (.int k (k.wrap (x - y))):=by cases k <;> rfl
theorem zf4:pv (.bin .mul) [.int k x,.int k y]=some (.int k (k.wrap (x*y))):=by cases k <;> rfl
theorem zf9:pv (.bin .quo) [.int k x,.int k y]=if y=0 then none else some (.int k (k.wrap (x.tdiv y))):=by cases k <;> rfl
theorem zfa:pv (.bin .rem) [.int k x,.int k y]=if y=0 then none else some (.int k (x.tmod y)):=by cases k <;> rfl
theorem zel:pv (.bin .and) [.int k x,.int k y]=some (.int k (bitInt .and k x y)):=by cases k <;> rfl
theorem zh4:pv (.bin .or) [.int k x,.int k y]=some (.int k (bitInt .or k x y)):=by cases k <;> rfl
theorem zfh:pv (.bin .xor) [.int k x,.int k y]=some (.int k (bitInt .xor k x y)):=by cases k <;> rfl
theorem z8l:pv (.bin .andNot) [.int k x,.int k y]=some (.int k (bitInt .andNot k x y)):=by cases k <;> rfl
theorem zeu:pv (.bin .eql) [.int k x,.int k y]=some (.bool (decide (x=y))):=by cases k <;> rfl
theorem zf6:pv (.bin .neq) [.int k x,.int k y]=some (.bool (!decide (x=y))):=by cases k <;> rfl
theorem zf1:pv (.bin .lss) [.int k x,.int k y]=some (.bool (decide (x<y))):=by cases k <;> rfl
theorem zf0:pv (.bin .leq) [.int k x,.int k y]=some (.bool (decide (x≤y))):=by cases k <;> rfl
theorem zey:pv (.bin .gtr) [.int k x,.int k y]=some (.bool (decide (y<x))):=by cases k <;> rfl
theorem zew:pv (.bin .geq) [.int k x,.int k y]=some (.bool (decide (y≤x))):=by cases k <;> rfl
theorem zfb {j:IntKind}:pv (.bin .shl) [.int k x,.int j y]=if y<0 then none else some (.int k (shlInt k x y)):=zp rfl
theorem zfc {j:IntKind}:pv (.bin .shr) [.int k x,.int j y]=if y<0 then none else some (.int k (shrInt k x y)):=zp rfl
theorem zf7 {b:Bool}:pv .not [.bool b]=some (.bool !b):=zp rfl
theorem zf5:pv .neg [.int k x]=some (.int k (k.wrap (0 - x))):=zp rfl
theorem zer:pv .cpl [.int k x]=some (.int k (bitInt .xor k (if k.signed then -1 else k.max) x)):=zp rfl
theorem z6t {j:IntKind}:pv (.conv j) [.int k x]=some (.int j (j.wrap x)):=zp rfl
theorem zet {p q:Bool}:pv (.eqb false) [.bool p,.bool q]=some (.bool (p ==q)):=zp rfl
theorem zcs {p q:Bool}:pv (.eqb true) [.bool p,.bool q]=some (.bool (p != q)):=zp rfl
theorem zes {j:IntKind} {u v:Int}:pv (.eq2 false k j) [.agg [.int k x,.int j y],.agg [.int k u,.int j v]]=some (.bool (decide (x=u∧y=v))):=by cases k <;> cases j <;> rfl
theorem zcr {j:IntKind} {u v:Int}:pv (.eq2 true k j) [.agg [.int k x,.int j y],.agg [.int k u,.int j v]]=some (.bool (!decide (x=u∧y=v))):=by cases k <;> cases j <;> rfl
theorem zai {i o n:Nat}:pv (.fld n) [.ptr i o]=some (.ptr i (o+n)):=zp rfl
theorem zag {i s j o n:Nat}:pv (.fld n) [.aptr i s j o]=some (.aptr i s j (o+n)):=zp rfl
theorem zah {n:Nat} {l:List AV}:pv (.fld n) [.ep l]=some (.ep (l.drop n)):=zp rfl
theorem z5j {i o:Nat}:pv .nilchk [.ptr i o]=some (.ptr i o):=zp rfl
theorem z5g {i s j o:Nat}:pv .nilchk [.aptr i s j o]=some (.aptr i s j o):=zp rfl
theorem z5h {l:List AV}:pv .nilchk [.ep l]=some (.ep l):=zp rfl
theorem z5i {f:Nat} {l:List AV}:pv .nilchk [.fn f l]=some (.fn f l):=zp rfl
theorem z6x {i o:Nat} {g:Bool}:pv (.eqnil g true) [.ptr i o]=some (.bool g):=by cases g <;> rfl
theorem z6u {i s j o:Nat} {g:Bool}:pv (.eqnil g true) [.aptr i s j o]=some (.bool g):=by cases g <;> rfl
theorem z6v {l:List AV} {g:Bool}:pv (.eqnil g true) [.ep l]=some (.bool g):=by cases g <;> rfl
theorem z6w {g:Bool}:pv (.eqnil g true) [.nil]=some (.bool (!g)):=by cases g <;> rfl
theorem zcg {o s:Nat} {l:List AV}:pv (.fldv o s true) [.agg l]=if o+s≤l.length then some (.agg ((l.drop o).take s)) else none:=zp rfl
theorem zaj {o s:Nat} {l:List AV}:pv (.fldv o s false) [.agg l]=l[o]? := zp rfl
theorem zao {s:Nat} {es:List (List AV)}:pv (.idx s) [.sl s es,.int k x]=if 0≤x then (es[x.toNat]?).map .ep else none:=by simp [pv,pIdx]
theorem zam {s:Nat}:pv (.idx s) [.nils,.int k x]=none:=zp rfl
theorem zan {s i o n:Nat}:pv (.idx s) [.os i s o n,.int k x]=if 0≤x∧x<(n:Int) then some (.aptr i s (o+x.toNat) 0) else none:=by simp [pv,pIdx]
theorem z8o {i o n s:Nat}:pv (.idxa n s) [.ptr i o,.int k x]=if 0≤x∧x<(n:Int) then some (.ptr i (o+x.toNat*s)) else none:=zp rfl
theorem zat {s:Nat} {es:List (List AV)}:pv .len [.sl s es]=some (.int .i64 es.length):=zp rfl
theorem zar:pv .len [.nils]=some (.int .i64 0):=zp rfl
theorem zas {i s o n:Nat}:pv .len [.os i s o n]=some (.int .i64 n):=zp rfl
theorem z5k {s:Nat}:pv (.slice s true true) [a,.int .i64 x,.int .i64 y]=pSlice s a x (some y):=by cases a <;> rfl
theorem z72 {s:Nat}:pv (.slice s true false) [a,.int .i64 x]=pSlice s a x none:=by cases a <;> rfl
theorem z71 {s:Nat}:pv (.slice s false true) [a,.int .i64 x]=pSlice s a 0 (some x):=by cases a <;> rfl
theorem z70 {s:Nat}:pv (.slice s false false) [a]=pSlice s a 0 none:=by cases a <;> rfl
theorem zd1 {s:Nat} {es:List (List AV)} {h:Option Int}:pSlice s (.sl s es) x h=if 0≤x∧x≤h.getD es.length∧h.getD es.length≤(es.length:Int) then some (.sl s ((es.take (h.getD es.length).toNat).drop x.toNat)) else none:=by simp [pSlice]
theorem zd0 {s i o n:Nat} {h:Option Int}:pSlice s (.os i s o n) x h=if 0≤x∧x≤h.getD n∧h.getD n≤(n:Int) then some (.os i s (o+x.toNat) ((h.getD n).toNat - x.toNat)) else none:=by simp [pSlice]
theorem zcz {s:Nat} {h:Option Int}:pSlice s .nils x h=if 0≤x∧x≤h.getD 0∧h.getD 0≤0 then some .nils else none:=zp rfl
theorem za7 {z:List AV} {p:List (Nat×Nat)} {as:List AV}:pv (.build z p) as=(pBuild z p as).map .agg:=zp rfl
theorem zev {i:Nat} {l:List AV}:pv (.ext i) [.tup l]=l[i]? := zp rfl
theorem zcl {f:Nat} {l:List AV}:pv (.mkfn f) l=some (.fn f l):=zp rfl
theorem zcm {f:Nat}:pv (.mkif f) [a]=some (.iface f a):=zp rfl
theorem zf2 {l:List AV} {m:Bool}:pv (.minmax m) (a::l)=pMin m a l:=zp rfl
theorem zaz {m:Bool}:pMin m a []=some a:=by cases a <;> rfl
theorem zcy {l:List AV}:pMin false (.int k x) (.int k y::l)=pMin false (.int k (if y<x then y else x)) l:=by cases k <;> rfl
theorem zcx {l:List AV}:pMin true (.int k x) (.int k y::l)=pMin true (.int k (if y>x then y else x)) l:=by cases k <;> rfl
theorem zf8 {l:List AV}:pBuild l [] []=some l:=zp rfl
theorem zh5 {l as:List AV} {o s:Nat} {ps:List (Nat×Nat)}:pBuild l ((o,s)::ps) (a::as)=if a.cells.length=s∧a.isTup=false then (splice o a.cells l).bind fun cs=>pBuild cs ps as else none:=zp rfl
theorem zfd {l:List AV}:splice 0 [] l=some l:=by cases l <;> rfl
theorem zh6 {l v:List AV}:splice 0 (a::v) (b::l)=(splice 0 v l).map (a :: ·):=zp rfl
theorem zfe {n:Nat} {l v:List AV}:splice (n+1) v (b::l)=(splice n v l).map (b :: ·):=zp rfl
theorem za8 {l:List AV}:(AV.agg l).cells=l:=zp rfl
theorem za9:(AV.int k x).cells=[.int k x]:=zp rfl
theorem z8m {p:Bool}:(AV.bool p).cells=[.bool p]:=zp rfl
theorem z8n:AV.nils.cells=[.nils]:=zp rfl
theorem zcc {s:Nat} {l:List (List AV)}:(AV.sl s l).cells=[.sl s l]:=zp rfl
theorem zcb {i s o n:Nat}:(AV.os i s o n).cells=[.os i s o n]:=zp rfl
theorem zab {i o:Nat}:(AV.ptr i o).cells=[.ptr i o]:=zp rfl
theorem zaa:AV.nil.cells=[.nil]:=zp rfl
theorem zca {i:Nat}:(AV.mp i).cells=[.mp i]:=zp rfl
theorem z5f:AV.nilmap.cells=[.nilmap]:=zp rfl
theorem zc9 {f:Nat} {l:List AV}:(AV.fn f l).cells=[.fn f l]:=zp rfl
theorem zac {s:ByteArray}:(AV.str s).cells=[.str s]:=zp rfl
theorem zb3 {l:List AV}:(AV.agg l).isTup=false:=zp rfl
theorem zb4:(AV.int k x).isTup=false:=zp rfl
theorem z8r {p:Bool}:(AV.bool p).isTup=false:=zp rfl
theorem z8s:AV.nils.isTup=false:=zp rfl
theorem zdc {s:Nat} {l:List (List AV)}:(AV.sl s l).isTup=false:=zp rfl
theorem zdb {i s o n:Nat}:(AV.os i s o n).isTup=false:=zp rfl
theorem zb6 {i o:Nat}:(AV.ptr i o).isTup=false:=zp rfl
theorem zb5:AV.nil.isTup=false:=zp rfl
theorem zda {i:Nat}:(AV.mp i).isTup=false:=zp rfl
theorem z5l:AV.nilmap.isTup=false:=zp rfl
theorem zd9 {f:Nat} {l:List AV}:(AV.fn f l).isTup=false:=zp rfl
theorem zb7 {s:ByteArray}:(AV.str s).isTup=false:=zp rfl
variable {σ:Store}
theorem zh3 {n:Nat}:ldv (.ld n true) [a] σ=(rd σ n a).map .agg:=by cases a <;> rfl
def oneV:List AV→Option AV
 | [c]=>some c
 | _=>none
theorem zcw:oneV [a]=some a:=zp rfl
theorem zez {n:Nat}:ldv (.ld n false) [a] σ=(rd σ 1 a).bind oneV:=zp rfl
theorem zd3 {n:Nat} {l:List AV}:rd σ n (.ep l)=takeN 0 n l:=zp rfl
def boxO:Option Obj→Option (List AV)
 | some (.box l)=>some l
 | _=>none
theorem zeo {l:List AV}:boxO (some (.box l))=some l:=zp rfl
def arrO (s:Nat):Option Obj→Option (List (List AV))
 | some (.arr s' l)=>if s'=s then some l else none
 | _=>none
theorem z95 {s:Nat} {l:List (List AV)}:arrO s (some (.arr s l))=some l:=by simp [arrO]
theorem zd4 {n i o:Nat}:rd σ n (.ptr i o)=(boxO (σ i)).bind fun l=>takeN o n l:=by
 simp only [rd];cases σ i with
 | none=>rfl
 | some p=>cases p <;> rfl
theorem zd2 {n i s j o:Nat}:rd σ n (.aptr i s j o)=(arrO s (σ i)).bind fun l=>(l[j]?).bind fun c=>takeN o n c:=by
 simp only [rd];cases σ i with
 | none=>rfl
 | some p=>cases p <;> first | rfl | (simp only [arrO];split <;> rfl)
theorem zb8 {o n:Nat} {l:List AV}:takeN o n l=if o+n≤l.length then some ((l.drop o).take n) else none:=zp rfl
theorem zde {i o:Nat} {v:List AV}:wr σ v (.ptr i o)=(boxO (σ i)).bind fun l=>(splice o v l).map fun cs=>σ.set i (.box cs):=by
 simp only [wr];cases σ i with
 | none=>rfl
 | some p=>cases p <;> rfl
theorem zdd {i s j o:Nat} {v:List AV}:wr σ v (.aptr i s j o)=(arrO s (σ i)).bind fun l=>(l[j]?).bind fun c=>(splice o v c).map fun cs=>σ.set i (.arr s (l.set j cs)):=by
 simp only [wr];cases σ i with
 | none=>rfl
 | some p=>cases p <;> first | rfl | (simp only [arrO];split <;> rfl)
theorem za6 {z:List AV}:alv (.alloc z) []=some (.box z,fun id => .ptr id 0):=zp rfl
theorem zc7:alv .box [a]=if a.isTup then none else some (.box a.cells,fun id => .ptr id 0):=zp rfl
theorem zaw {s:Nat}:alv (.mksl s 0) []=some (.arr s [],fun id => .os id s 0 0):=zp rfl
theorem zax {s:Nat}:alv (.mksl s 1) [a]=if a.isTup=false∧a.cells.length=s then some (.arr s [a.cells],fun id => .os id s 0 1) else none:=by
 simp [alv]
theorem zay {s:Nat}:alv (.mksl s 2) [a,b]=if (a.isTup=false∧a.cells.length=s)∧(b.isTup=false∧b.cells.length=s) then some (.arr s [a.cells,b.cells],fun id => .os id s 0 2) else none:=by
 simp only [alv,List.length_cons,List.length_nil,List.all_cons,List.all_nil,Bool.and_true,Bool.and_eq_true,Bool.not_eq_true',decide_eq_true_eq,List.map]
 simp
theorem zau:alv .mkmap []=some (.map [],fun id => .mp id):=zp rfl
theorem zcj {z:List AV} {s n:Nat}:alv (.make s z n) [.int .i64 x,.int .i64 y]=if x=y∧0≤x∧x≤9223372036854775807∧x*n≤281474976710656 then some (.arr s (List.replicate x.toNat z),fun id => .os id s 0 x.toNat) else none:=zp rfl
theorem zh7 {P:Program} {n:Nat} {K:AV→Store→Prop}:lwp P (.st n) [a,b] σ K↔b.isTup=false∧b.cells.length=n∧wit (wr σ b.cells a) fun τ=>K (.tup []) τ:=by
 simp only [lwp]
 cases wr σ b.cells a <;> simp [wit]
theorem zem {P:Program} {n m:Nat} {K:AV→Store→Prop}:lwp P (.app n m) [a,b] σ K↔appwp n m a b σ K:=uz Iff.rfl
theorem zad {P:Program} {f:Nat} {l as:List AV} {K:AV→Store→Prop}:lwp P .callv (.fn f l::as) σ K ↔ @CallQ P f (as++l) σ ⟨K⟩:=by rw [←v_acalls];exact Iff.rfl
theorem zct {P:Program} {g:Bool} {K:AV→Store→Prop}:lwp P (.nilq g) [a] σ K↔nilqwp g a (fun b=>K b σ):=uz Iff.rfl
theorem zcu {g:Bool} {K:AV→Prop}:nilqwp g .nils K↔K (.bool (!g)):=uz Iff.rfl
theorem zcv {g:Bool} {i s o n:Nat} {K:AV→Prop}:nilqwp g (.os i s o n) K↔K (.bool g):=uz Iff.rfl
theorem z3d {g:Bool} {s:Nat} {l:List (List AV)} {K:AV→Prop} (h:∀ b,(l≠[]→b=g)→K (.bool b)):nilqwp g (.sl s l) K:=by
 cases l with
 | nil=>exact ⟨h true (fun h=>absurd rfl h),h false (fun h=>absurd rfl h)⟩
 | cons x r=>exact h g (fun _=>rfl)
theorem zcq {P:Program} {mk:MKey} {K:AV→Store→Prop}:lwp P (.mupd mk) [a,b,c] σ K↔mupdwp mk a b c σ (K (.tup [])):=uz Iff.rfl
theorem zck {P:Program} {mk:MKey} {K:AV→Store→Prop}:lwp P (.mdel mk) [a,b] σ K↔mdelwp mk a b σ (K (.tup [])):=uz Iff.rfl
theorem zd5 {s:RS}:Env.res e σ [s]=e.rs σ s:=zp rfl
theorem zd6 {s s':RS} {l:List RS}:Env.res e σ (s::s'::l)=(e.gets σ (s::s'::l)).map .tup:=zp rfl
theorem zak:Env.gets e σ []=some []:=zp rfl
theorem zch {s:RS} {l:List RS}:Env.gets e σ (s::l)=(e.rs σ s).bind fun a=>(e.gets σ l).map (a :: ·):=by
 simp only [Env.gets];cases e.rs σ s <;> cases e.gets σ l <;> rfl
theorem zd8 {n:Nat}:e.rs σ (.t n)=e.get n:=zp rfl
theorem zd7 {n s:Nat}:e.rs σ (.c n s true)=(e.get n).bind fun p=>(rd σ s p).map .agg:=by
 simp only [Env.rs];cases e.get n <;> rfl
theorem zb2 {n s:Nat}:e.rs σ (.c n s false)=(e.get n).bind fun p=>(rd σ 1 p).bind oneV:=by
 simp only [Env.rs]
 cases e.get n with
 | none=>rfl
 | some p =>
   simp only [Option.bind_some]
   cases rd σ 1 p with
   | none=>rfl
   | some l=>match l with
     | []=>rfl
     | [_]=>rfl
     | _::_::_=>rfl
end
end Go.Am
namespace Go.Am
theorem u_setN {σ:Store} {i j:Nat} {o:Obj}:((σ.set i o) j=none)↔(¬ j=i∧¬ i=j)∧σ j=none:=by
 simp only [Store.set]
 by_cases h:j=i
 ·subst h;simp
 ·simp [h,Ne.symm h]
end Go.Am
namespace Go.Am
theorem z4d {σ:Store} {i j:Nat} {o:Obj} (h:¬ j=i):(σ.set i o) j=σ j:=by simp [Store.set,h]
end Go.Am
namespace Go.Am
theorem z8q {σ τ:Store} {i:Nat} {o:Obj} (h:σ i=none):Store.sub σ (τ.set i o)↔Store.sub σ τ:=by
 constructor
 ·intro hs j p hj
  have:=hs j p hj
  simp only [Store.set] at this
  split at this
  ·rename_i e;subst e;rw [h] at hj;cases hj
  ·exact this
 ·exact fun hs=>Store.sub_upd hs h
theorem z8p {σ τ:Store} {i:Nat} (h:σ i=none):Store.sub σ (τ.del i)↔Store.sub σ τ:=by
 constructor
 ·intro hs j p hj
  have:=hs j p hj
  simp only [Store.del] at this
  split at this
  ·cases this
  ·exact this
 ·intro hs j p hj
  simp only [Store.del]
  split
  ·rename_i e;subst e;rw [h] at hj;cases hj
  ·exact hs j p hj
theorem z73 {σ:Store}:Store.sub σ σ↔True:=⟨fun _=>trivial,fun _=>Store.sub_refl σ⟩
end Go.Am
namespace Go.Am
class LoopK where
 live:List Nat
 b:BC
 n:Env→Store→Prop
 r:Env→Store→Prop
 x:Nat→Env→Store→Prop
def LoopQ (P:Program) (e:Env) (σ:Store) [k:LoopK]:Prop:=∃ I:Nat→Env→Store→Prop,(∃ j σ',Store.sub σ' σ∧I j e σ')∧∀ j e σ,I j e σ →
     bwp P k.b e σ (fun e' σ'=>∃ i σ'',i<j∧Store.sub σ'' σ'∧I i (Env.keep e' k.live) σ'') k.r k.x
theorem zdh {P:Program} {live:List Nat} {b:BC} {e:Env} {σ:Store} {n r:Env→Store→Prop} {x:Nat→Env→Store→Prop}:bwp P (.loop live b) e σ n r x ↔ @LoopQ P (e.keep live) σ ⟨live,b,n,r,x⟩:=uz Iff.rfl
class NextK where
 K:Env→Store→Prop
def NextQ (e:Env) (σ:Store) [k:NextK]:Prop:=k.K e σ
theorem LoopQ.inv {P:Program} {S:Type} (env:S→Env) (st:S→Store) (ok:S→Prop) (m:S→Nat) (s0:S) {live:List Nat} {b:BC} {e:Env} {σ:Store} {n r:Env→Store→Prop} {x:Nat→Env→Store→Prop} (he:e=env s0) (hs:Store.sub (st s0) σ) (h0:ok s0)
 (hstep:∀ s,ok s→bwp P b (env s) (st s) (fun e' σ' => @NextQ (Env.keep e' live) σ' ⟨fun e' σ'=>∃ s',e'=env s'∧Store.sub (st s') σ'∧m s'<m s∧ok s'⟩) r x) : @LoopQ P e σ ⟨live,b,n,r,x⟩:=by
 refine ⟨fun k e σ=>∃ s,ok s∧env s=e∧st s=σ∧m s=k,⟨m s0,st s0,hs,s0,h0,he.symm,rfl,rfl⟩,?_⟩
 rintro k e σ ⟨s,hok,rfl,rfl,rfl⟩
 refine ym b _ _ _ _ _ _ _ _ ?_ (fun _ _ h=>h) (fun _ _ _ h=>h) (hstep s hok)
 rintro e' σ' ⟨s',h1,h2,h3,h4⟩
 exact ⟨m s',st s',h3,h2,s',h4,h1.symm,rfl,rfl⟩
theorem NextQ.to {S:Type} {env:S→Env} {st:S→Store} {ok:S→Prop} {m:S→Nat} {s:S} {e:Env} {σ:Store} (s':S) (h1:e=env s') (h2:Store.sub (st s') σ) (h3:m s'<m s) (h4:ok s') :
 @NextQ e σ ⟨fun e' σ'=>∃ s',e'=env s'∧Store.sub (st s') σ'∧m s'<m s∧ok s'⟩:=⟨s',h1,h2,h3,h4⟩
end Go.Am
namespace Go.Am
class AllocK where
 K:Nat→Prop
def AllocQ (σ:Store) [k:AllocK]:Prop:=∀ id,σ id=none→k.K id
theorem z8u {P:Program} {e:Env} {σ:Store} {d:Option Nat} {xs:List Opd} {K:Env→Store→Prop} {k:AK}:bop P d (.alloc k) xs e σ K↔wit (evs e xs) fun as=>wit (alv k as) fun p => @AllocQ σ ⟨fun id=>K (Env.putO d (p.2 id) e) (σ.set id p.1)⟩:=zb9
theorem AllocQ.i0 {σ:Store} {K:Nat→Prop} (h:∀ id,σ id=none→K id) : @AllocQ σ ⟨K⟩:=h
theorem AllocQ.i1 {σ:Store} {i:Nat} {o:Obj} {K:Nat→Prop} (h:∀ id,¬ id=i→¬ i=id→σ id=none→K id) : @AllocQ (σ.set i o) ⟨K⟩:=fun id hid=>by
 obtain ⟨⟨h1,h2⟩,h3⟩:=u_setN.1 hid
 exact h id h1 h2 h3
theorem AllocQ.i2 {σ:Store} {i j:Nat} {o p:Obj} {K:Nat→Prop} (h:∀ id,¬ id=i→¬ i=id→¬ id=j→¬ j=id→σ id=none→K id) : @AllocQ ((σ.set i o).set j p) ⟨K⟩:=fun id hid=>by
 obtain ⟨⟨h1,h2⟩,h3⟩:=u_setN.1 hid
 obtain ⟨⟨h4,h5⟩,h6⟩:=u_setN.1 h3
 exact h id h4 h5 h1 h2 h6
end Go.Am
namespace Go.Am
def slO {α:Type} (s:Nat) (c:α→List AV):Option (List α)→AV
 | none => .nils
 | some l => .sl s (l.map c)
section
variable {α:Type} {s:Nat} {c:α→List AV} {o:Option (List α)}
theorem zaq:pv .len [slO s c o]=some (.int .i64 (o.getD []).length):=by cases o <;> simp [slO,pv,pLen]
theorem zal {k:IntKind} {x:Int}:pv (.idx s) [slO s c o,.int k x]=if 0≤x then (((o.getD []).map c)[x.toNat]?).map .ep else none:=by
 cases o <;> simp [slO,pv,pIdx]
theorem zfg:(slO s c o).isTup=false:=by cases o <;> rfl
theorem zep:(slO s c o).cells=[slO s c o]:=by cases o <;> rfl
theorem Pur.nil {P:Program} {f:Nat} {args:List AV} {v:AV} (k s:Nat) (ha:args[k]? = some .nils) (h:Pur P f (args.set k (.sl s [])) v):Pur P f args v:=fun σ =>
 ACalls.weakArgs (h σ).1 (WeakL.nil (Q:=fun args' σ'=>ACalls P f args' σ' (fun a s=>s=σ∧a=v)) k s ha (WeakL.pure (h σ)))
end
end Go.Am
namespace Go.Am
class EndK where
 slots:List RS
 Q:AV→Store→Prop
def EndQ (e:Env) (τ:Store) [k:EndK]:Prop:=Ends k.slots k.Q e τ
theorem EndQ.to {slots:List RS} {Q:AV→Store→Prop} {e:Env} {τ:Store} (σ:Store) (v:AV) (h1:e.res τ slots=some v) (h2:Store.sub σ τ) (h3:Q v σ) : @EndQ e τ ⟨slots,Q⟩:=z74 ⟨v,h1,h2,h3⟩
theorem EndQ.frz {slots:List RS} {Q:AV→Store→Prop} {e:Env} {τ:Store} (id esz off len:Nat) (es:List (List AV)) (σ:Store) (h1:e.res τ slots=some (.os id esz off len)) (h2:τ id=some (.arr esz es))
 (hle:off+len≤es.length) (h3:Store.sub σ (τ.del id)) (h4:Q (.sl esz ((es.drop off).take len)) σ) : @EndQ e τ ⟨slots,Q⟩ :=
 ⟨_,h1,Weak.of_one (WeakL.freeze 0 rfl h2 hle (WeakL.forget h3 (WeakL.pure ⟨_,rfl,h4⟩)))⟩
theorem zi {P:Program} {fi:Nat} (F:Fn P fi) {args:List AV} {σ:Store} {Q:AV→Store→Prop} (hargs:args.length≤F.N)
 (h:bwp P F.b (argE 0 args) σ (fun e τ => @EndQ e τ ⟨F.slots,Q⟩) (fun e τ => @EndQ e τ ⟨F.slots,Q⟩) (fun _ _ _=>False)):ACalls P fi args σ Q:=z1j F hargs h
theorem ACalls.Q {P:Program} {f:Nat} {args:List AV} {σ:Store} {Q K:AV→Store→Prop} (h:ACalls P f args σ Q) (hK:∀ a s,Q a s→K a s) : @CallQ P f args σ ⟨K⟩:=v_acalls.1 (h.mono hK)
theorem Store.set_self {σ:Store} {i:Nat} {o:Obj} (h:σ i=some o):σ.set i o=σ:=by funext j;simp only [Store.set];split <;> simp_all
end Go.Am
namespace Go.Am
class WkK where
 K:Env→Store→Prop
def WkQ (e:Env) (σ:Store) [k:WkK]:Prop:=WeakE e σ k.K
theorem zh9 {P:Program} {i:Nat} {b:BC} {e:Env} {σ:Store} {n r:Env→Store→Prop} {x:Nat→Env→Store→Prop}:bwp P (.wk i b) e σ n r x ↔ @WkQ e σ ⟨fun e σ=>bwp P b e σ n r x⟩:=uz Iff.rfl
theorem WkQ.of {e:Env} {σ:Store} {K:Env→Store→Prop} (h:WeakE e σ K) : @WkQ e σ ⟨K⟩:=h
end Go.Am
attribute [irreducible] Go.Am.WkQ Go.Am.LoopQ Go.Am.NextQ Go.Am.AllocQ Go.Am.EndQ
namespace Go.Am
set_option linter.defProp false
def vcPre :=
 And.intro @zdn (And.intro @zfm (And.intro @zdm (And.intro @zfn (And.intro @zfl (And.intro @zdl (And.intro @zfo (And.intro @zbc (And.intro @zdf (And.intro @zdk (And.intro @zdg (And.intro @z8u (And.intro @zdi (And.intro @z8v (And.intro @zba (And.intro @v_acalls (And.intro @zfi (And.intro @zdj (And.intro @zdh (And.intro @zfk (And.intro @zh8 (And.intro @zfj (And.intro @yf (And.intro @z8y (And.intro @zbd (And.intro @z8x (And.intro @zbe (And.intro @z8w (And.intro @zgk (And.intro @zgi (And.intro @ze4 (And.intro @ze1 (And.intro @zgj (And.intro @ze7 (And.intro @ze0 (And.intro @zdz (And.intro @ze3 (And.intro @ze2 (And.intro @zgf (And.intro @zgd (And.intro @zgc (And.intro @zge @zh9)))))))))))))))))))))))))))))))))))))))))
def vcPost :=
 And.intro @zex (And.intro @z6z (And.intro @z6y (And.intro @zap (And.intro @zci (And.intro @zb1 (And.intro @zb0 (And.intro @zce (And.intro @zcd (And.intro @zcf (And.intro @zae (And.intro @zaf (And.intro @zc8 (And.intro @zen (And.intro @zf3 (And.intro @z94 (And.intro @zff (And.intro @zf4 (And.intro @zf9 (And.intro @zfa (And.intro @zel (And.intro @zh4 (And.intro @zfh (And.intro @z8l (And.intro @zeu (And.intro @zf6 (And.intro @zf1 (And.intro @zf0 (And.intro @zey (And.intro @zew (And.intro @zfb (And.intro @zfc (And.intro @zf7 (And.intro @zf5 (And.intro @zer (And.intro @z6t (And.intro @zet (And.intro @zcs (And.intro @zes (And.intro @zcr (And.intro @zai (And.intro @zag (And.intro @zah (And.intro @z5j (And.intro @z5g (And.intro @z5h (And.intro @z5i (And.intro @z6x (And.intro @z6u (And.intro @z6v (And.intro @z6w (And.intro @zcg (And.intro @zaj (And.intro @zao (And.intro @zam (And.intro @zan (And.intro @z8o (And.intro @zat (And.intro @zar (And.intro @zas (And.intro @z5k (And.intro @z72 (And.intro @z71 (And.intro @z70 (And.intro @zd1 (And.intro @zd0 (And.intro @zcz (And.intro @za7 (And.intro @zev (And.intro @zcl (And.intro @zcm (And.intro @zf2 (And.intro @zaz (And.intro @zcy (And.intro @zcx (And.intro @zf8 (And.intro @zh5 (And.intro @zfd (And.intro @zh6 (And.intro @zfe (And.intro @za8 (And.intro @za9 (And.intro @z8m (And.intro @z8n (And.intro @zcc (And.intro @zcb (And.intro @zab (And.intro @zaa (And.intro @zca (And.intro @z5f (And.intro @zc9 (And.intro @zac (And.intro @zb3 (And.intro @zb4 (And.intro @z8r (And.intro @z8s (And.intro @zdc (And.intro @zdb (And.intro @zb6 (And.intro @zb5 (And.intro @zda (And.intro @z5l (And.intro @zd9 (And.intro @zb7 (And.intro @zh3 (And.intro @zcw (And.intro @zez (And.intro @zd3 (And.intro @zeo (And.intro @z95 (And.intro @zd4 (And.intro @zd2 (And.intro @zb8 (And.intro @zde (And.intro @zdd (And.intro @za6 (And.intro @zc7 (And.intro @zaw (And.intro @zax (And.intro @zay (And.intro @zau (And.intro @zcj (And.intro @zh7 (And.intro @zem (And.intro @zaq (And.intro @zal (And.intro @zfg (And.intro @zep (And.intro @zad (And.intro @zct (And.intro @zcu (And.intro @zcv (And.intro @zcq (And.intro @zck (And.intro @zd5 (And.intro @zd6 (And.intro @zak (And.intro @zch (And.intro @zd8 (And.intro @zd7 @zb2)))))))))))))))))))))))))))))))))))))))))))))))))))))))))))))))))))))))))))))))))))))))))))))))))))))))))))))))))))))))))))))))))))))))))))
def vcStd :=
 And.intro @decide_eq_true_eq (And.intro @decide_eq_false_iff_not (And.intro @List.length_cons.{0} (And.intro @List.length_nil.{0} (And.intro @List.drop_zero.{0} (And.intro @List.drop_succ_cons.{0} (And.intro @List.take_succ_cons.{0} (And.intro @List.take_zero.{0} (And.intro @List.drop_nil.{0} (And.intro @List.length_map.{0,0} (And.intro @List.getElem_map.{0,0} (And.intro @Int.toNat_natCast (And.intro @Int.natCast_nonneg (And.intro @Int.ofNat_lt (And.intro @Int.ofNat_le (And.intro @not_true_eq_false (And.intro @exists_prop (And.intro @exists_true_left (And.intro @Option.map_some.{0,0} (And.intro @Option.bind_some.{0,0} (And.intro @true_and (And.intro @and_true (And.intro @true_implies (And.intro @false_implies (And.intro @Bool.not_true (And.intro @Bool.not_not (And.intro @decide_true (And.intro @decide_false (And.intro @Bool.not_false (And.intro @Bool.not_eq_true' (And.intro @Bool.false_eq_true (And.intro @Bool.true_eq_false (And.intro @Store.set_same (And.intro @z4d (And.intro @z8q (And.intro @z8p (And.intro @z73 (And.intro @Option.some.injEq.{0} (And.intro @AV.bool.injEq (And.intro @AV.int.injEq (And.intro @AV.agg.injEq (And.intro @List.cons.injEq.{0} (And.intro @not_false_eq_true (And.intro @and_imp (And.intro @List.cons_append.{0} (And.intro @List.nil_append.{0} (And.intro @List.getElem?_cons_zero.{0} (And.intro @List.getElem?_cons_succ.{0} @implies_true.{0})))))))))))))))))))))))))))))))))))))))))))))))
end Go.Am
namespace Go.Am
open Go.RowKit
def TOk (P:Program):Nat→TypeId→List AV→Prop
 | 0,_,_=>False
 | n+1,t,as=>match P.underlying t with
   | some .bool=>∃ b,as=[.bool b]
   | some (.int k)=>∃ m,as=[.int k m]∧k.min≤m∧m≤k.max
   | some .string=>∃ s:ByteArray,as=[.str s]∧s.size≤reachBytes
   | some (.float .f64)=>∃ m,as=[.flt m]∧m<2 ^ 64
   | some (.slice e)=>as=[.nils]∨∃ es,as=[.sl (P.cellsOf e) es]∧es.length*P.bytesOf e≤reachBytes∧∀ x ∈ es,TOk P n e x
   | some (.struct fs)=>∃ parts:List (List AV),as=parts.flatten∧parts.length=fs.toList.length∧∀ i (h:i<parts.length) (h':i<fs.toList.length),TOk P n fs.toList[i].type parts[i]
   | _=>False
def tiles (P:Program):List Field→Nat→Nat→Bool
 | [],o,n=>o ==n
 | f::r,o,n=>f.offset ==o && tiles P r (o+P.cellsOf f.type) n
def okTy (P:Program):Nat→TypeId→Bool
 | 0,_=>false
 | n+1,t=>match P.underlying t with
   | some .bool | some (.int _) | some .string | some (.float .f64)=>true
   | some (.slice e)=>decide (0<P.cellsOf e) && okTy P n e
   | some (.struct fs)=>tiles P fs.toList 0 (P.cellsOf t) && fs.toList.all fun f=>okTy P n f.type
   | _=>false
theorem xz {α:Type} {Q:Nat→α→Prop}:∀ (n:Nat),(∀ i,i<n→∃ x,Q i x)→∃ l:List α,l.length=n∧∀ i (h:i<l.length),Q i l[i]
 | 0,_=>⟨[],rfl,fun i h=>by simp at h⟩
 | n+1,h=>by
   obtain ⟨l,hl,hq⟩:=xz n (fun i hi=>h i (by omega))
   obtain ⟨x,hx⟩:=h n (by omega)
   refine ⟨l++[x],by simp [hl],fun i hi => ?_⟩
   simp only [List.length_append,List.length_cons,List.length_nil,hl] at hi
   by_cases hin:i<n
   ·rw [List.getElem_append_left (by omega)];exact hq i (by omega)
   ·have:i=n:=by omega
    subst this
    rw [List.getElem_append_right (by omega)];simp [hl];exact hx
section
variable {H:Type} {enc:TypeId×Value→H} {P:Program} {w:World} {sp:Nat→Bool} {held:Bool}
theorem u7 {e:TypeId}:∀ {l:List (DataW H)} {d:DataW H},d ∈ l→∀ n ∈ d.weights P e,n ∈ DataW.weightsAll P e l
 | x::l,d,hd,n,hn=>by
   simp only [DataW.weightsAll,List.mem_append]
   rcases List.mem_cons.1 hd with rfl | h
   ·exact .inl hn
   ·exact .inr (u7 h n hn)
theorem qt {G:Gh}:∀ (fs:List Field) (parts:List (List AV)) (cs:List Value) (o n:Nat),tiles P fs o n=true→cs.length=n→o≤n→parts.length=fs.length →
 (∀ i (h:i<parts.length) (h':i<fs.length),Rels (VRel G w) parts[i] ((cs.drop fs[i].offset).take (P.cellsOf fs[i].type))∧∀ a ∈ parts[i],a.flat=true) →
 Rels (VRel G w) parts.flatten (cs.drop o)∧∀ a ∈ parts.flatten,a.flat=true
 | [],parts,cs,o,n,ht,hn,ho,hl,h=>by
   have:parts=[]:=by cases parts with | nil=>rfl | cons _ _=>simp at hl
   subst this
   simp only [tiles,beq_iff_eq] at ht
   have:cs.drop o=[]:=List.drop_eq_nil_of_le (by omega)
   rw [this]
   exact ⟨.nil,by simp⟩
 | f::fs,[],cs,o,n,ht,hn,ho,hl,h=>by simp at hl
 | f::fs,p::parts,cs,o,n,ht,hn,ho,hl,h=>by
   simp only [tiles,Bool.and_eq_true,beq_iff_eq] at ht
   obtain ⟨h1,h2⟩:=h 0 (by simp) (by simp)
   simp only [List.getElem_cons_zero] at h1 h2
   rw [ht.1] at h1
   have ho':o+P.cellsOf f.type≤n:=by
    have:∀ (fs:List Field) (o:Nat),tiles P fs o n=true→o≤n:=by
     intro fs
     induction fs with
     | nil=>intro o h;simp only [tiles,beq_iff_eq] at h;omega
     | cons f fs ih=>intro o h;simp only [tiles,Bool.and_eq_true] at h;have:=ih _ h.2;omega
    exact this _ _ ht.2
   obtain ⟨g1,g2⟩:=qt fs parts cs (o+P.cellsOf f.type) n ht.2 hn ho' (by simpa using hl) (fun i hi hi'=>by
    have:=h (i+1) (by simp;omega) (by simp;omega)
    simpa using this)
   have e:cs.drop o=(cs.drop o).take (P.cellsOf f.type)++cs.drop (o+P.cellsOf f.type):=by
    rw [←List.drop_drop];exact (List.take_append_drop _ _).symm
   rw [e]
   refine ⟨h1.append g1,fun a ha => ?_⟩
   simp only [List.flatten_cons,List.mem_append] at ha
   exact ha.elim (h2 a) (g2 a)
theorem vz {G:Gh} (hI:∀ b,b<w.heap.size→G.I b):∀ (k:Nat) (t:TypeId) (cs:List Value) (x:DataW H×List MemPlace) (fuel:Nat),okTy P k t=true →
 DataW.trod enc P w 0 sp held fuel t cs=some x→(∀ n ∈ x.1.weights P t,n≤reachBytes)→∃ as,TOk P k t as∧Rels (VRel G w) as cs∧∀ a ∈ as,a.flat=true
 | 0,t,cs,x,fuel,hk,_,_=>by simp [okTy] at hk
 | k+1,t,cs,x,fuel,hk,h,hz=>by
   unfold okTy at hk
   unfold TOk
   split at hk
   ·rename_i ht
    obtain ⟨b,rfl,rfl⟩:=DataW.trod_bool ht h
    exact ⟨_,⟨b,rfl⟩,.cons (.bool b) .nil,by simp [AV.flat]⟩
   ·rename_i q ht
    obtain ⟨n,rfl,rfl,hw⟩:=DataW.trod_int ht h
    simp only [Lit.wf,Bool.and_eq_true,decide_eq_true_eq] at hw
    exact ⟨_,⟨n,rfl,hw⟩,.cons (.int q n) .nil,by simp [AV.flat]⟩
   ·rename_i ht
    obtain ⟨s,rfl,rfl,hw⟩:=DataW.trod_string ht h
    refine ⟨_,⟨s,rfl,?_⟩,.cons (.str s) .nil,by simp [AV.flat]⟩
    have:=hz s.data.toList.length (by simp [DataW.weights])
    simpa using this
   ·rename_i ht
    cases fuel with
    | zero=>simp [DataW.trod] at h
    | succ m =>
      unfold DataW.trod at h
      rw [ht] at h
      split at h <;> simp_all
      rename_i q n _ hq
      obtain ⟨⟨rfl,hw⟩,_⟩:=h
      subst hq
      simp only [Lit.wf,decide_eq_true_eq] at hw
      exact ⟨_,⟨_,rfl,hw⟩,.cons (.flt _) .nil,by simp [AV.flat]⟩
   ·rename_i e ht
    simp only [Bool.and_eq_true,decide_eq_true_eq] at hk
    rcases DataW.trod_slice ht h with ⟨rfl,rfl⟩ | ⟨a,len,cap,elems,rest,m,_,rfl,rfl,hb,hl,hm,hlen,hel,_,_⟩
    ·exact ⟨_,.inl rfl,.cons .nils .nil,by simp [AV.flat]⟩
    have hz':∀ d ∈ elems.map (·.1),∀ n ∈ d.weights P e,n≤reachBytes:=fun d hd n hn=>by
     refine hz n ?_
     simp only [DataW.weights,ht,List.mem_cons,List.mem_append]
     exact .inr (.inl (u7 hd n hn))
    have hz0:len*P.bytesOf e≤reachBytes:=by
     have:=hz ((elems.map (·.1)).length*P.bytesOf e+(rest.map (·.1)).length*P.bytesOf e) (by simp [DataW.weights,ht,Nat.add_mul])
     simp only [List.length_map,hlen] at this
     omega
    have hall:∀ i,i<len→∃ as,TOk P k e as∧∃ ci,w.cells? 0 (a.add (i*P.cellsOf e)) (P.cellsOf e)=some ci∧Rels (VRel G w) as ci∧∀ a ∈ as,a.flat=true:=fun i hi=>by
     have h1:=hel i hi
     have hi':i<elems.length:=by omega
     rw [List.getElem?_eq_getElem hi'] at h1
     obtain ⟨ci,h2,h3⟩:=Option.bind_eq_some_iff.1 h1
     obtain ⟨as,g1,g2,g3⟩:=vz hI k e ci elems[i] m hk.2 h3 (hz' _ (List.mem_map_of_mem (List.getElem_mem hi')))
     exact ⟨as,g1,ci,h2,g2,g3⟩
    obtain ⟨es,hes,hq⟩:=xz len hall
    refine ⟨_,.inr ⟨es,rfl,by rw [hes];exact hz0,fun x hx => ?_⟩,.cons ?_ .nil,by simp [AV.flat]⟩
    ·obtain ⟨i,hi,rfl⟩:=List.getElem_of_mem hx
     exact (hq i hi).1
    ·by_cases h0:len=0
     ·have:es=[]:=List.length_eq_zero_iff.1 (by omega)
      subst this;subst h0
      exact .sl0
     have hne:es≠[]:=fun e=>h0 (by rw [←hes,e];rfl)
     obtain ⟨_,ci,h2,_,_⟩:=hq 0 (by omega)
     obtain ⟨_,h3,h4⟩:=World.cells?_some h2
     have h5:=h4 0 hk.1
     rw [List.getElem?_eq_getElem (by omega)] at h5
     simp only [Nat.zero_mul,Addr.add,if_true] at h5
     obtain ⟨b,off,spot⟩:=a
     have hspot:spot=none:=by
      cases spot with
      | none=>rfl
      | some s =>
        simp only [World.cell?] at h5
        split at h5 <;> simp at h5
     subst hspot
     have hb':b<w.heap.size:=by
      simp only [World.cell?] at h5
      split at h5
      ·rename_i hh
       rcases Nat.lt_or_ge b w.heap.size with h' | h'
       ·exact h'
       ·simp [h'] at hh
      ·simp at h5
     have hcell:∀ i (hi:i<es.length),∃ ci,w.cells? 0 ⟨b,off+i*P.cellsOf e,none⟩ (P.cellsOf e)=some ci∧Rels (VRel G w) es[i] ci∧∀ a ∈ es[i],a.flat=true:=fun i hi=>by
      obtain ⟨_,ci,g1,g2,g3⟩:=hq i hi
      refine ⟨ci,?_,g2,g3⟩
      rw [←g1]
      congr 1
      unfold Addr.add
      split
      ·rename_i hz;rw [hz];rfl
      ·rfl
     have hget:∀ i (hi:i<es.length),es[i].length=P.cellsOf e∧(∀ a ∈ es[i],a.flat=true)∧∀ j,(hj:j<es[i].length)→∃ v,w.cell? ⟨b,off+(i*P.cellsOf e+j),none⟩=some v∧VRel G w es[i][j] v:=fun i hi=>by
      obtain ⟨ci,g1,g2,g3⟩:=hcell i hi
      obtain ⟨_,k1,k2⟩:=World.cells?_some g1
      have hl:=g2.length
      refine ⟨by omega,g3,fun j hj => ?_⟩
      obtain ⟨v,hv,hr⟩:=g2.get j _ (List.getElem?_eq_getElem hj)
      refine ⟨v,?_,hr⟩
      have:=k2 j (by omega)
      rw [hv] at this
      rw [←this]
      congr 1
      unfold Addr.add
      split
      ·rename_i hz;subst hz;rfl
      ·simp only [Addr.mk.injEq,true_and,and_true];omega
     have:=VRel.sl (G:=G) (w:=w) (esz:=P.cellsOf e) (es:=es) (b:=b) (off:=off) (c:=cap) (fun i j=>(w.cell? ⟨b,off+(i*P.cellsOf e+j),none⟩).getD undef) (hI b hb') hne (by omega)
      (fun cs hcs=>by obtain ⟨i,hi,rfl⟩:=List.getElem_of_mem hcs;exact (hget i hi).1)
      (fun cs hcs=>by obtain ⟨i,hi,rfl⟩:=List.getElem_of_mem hcs;exact (hget i hi).2.1)
      (fun i j hi hj=>by
        obtain ⟨q1,_,q3⟩:=hget i hi
        obtain ⟨v,hv,_⟩:=q3 j (by omega)
        rw [hv];rfl)
      (fun i j hi hj=>by
        obtain ⟨q1,_,q3⟩:=hget i hi
        obtain ⟨v,hv,hr⟩:=q3 j hj
        rw [hv];exact hr)
     rw [hes] at this
     exact this
   ·rename_i fs ht
    simp only [Bool.and_eq_true,List.all_eq_true] at hk
    obtain ⟨xs,m,_,rfl,hl,hxl,hx⟩:=DataW.trod_struct ht h
    have hz':∀ i (hi:i<fs.toList.length) (hi':i<xs.length),∀ n ∈ (xs[i]).1.weights P fs.toList[i].type,n≤reachBytes:=fun i hi hi' n hn=>by
     refine hz n ?_
     simp only [DataW.weights,ht]
     exact DataW.weights_mem_each (j:=i) (by simp [List.getElem?_eq_getElem hi]) (by simp [List.getElem?_eq_getElem hi']) n hn
    have hall:∀ i,i<fs.toList.length→∃ as:List AV,∃ hi:i<fs.toList.length,TOk P k fs.toList[i].type as∧Rels (VRel G w) as ((cs.drop fs.toList[i].offset).take (P.cellsOf fs.toList[i].type))∧∀ a ∈ as,a.flat=true:=fun i hi=>by
     have hi':i<xs.length:=by simpa [hxl] using hi
     have h1:=hx i fs.toList[i] (by simp at hi;simp [hi])
     rw [List.getElem?_eq_getElem hi'] at h1
     obtain ⟨as,g1,g2,g3⟩:=vz hI k _ _ xs[i] m (hk.2 _ (List.getElem_mem hi)) h1 (hz' i hi hi')
     exact ⟨as,hi,g1,g2,g3⟩
    obtain ⟨parts,hp,hq⟩:=xz _ hall
    have:=qt (G:=G) (w:=w) fs.toList parts cs 0 (P.cellsOf t) hk.1 hl (by omega) hp (fun i hi hi'=>by
     obtain ⟨_,_,g2,g3⟩:=hq i hi
     exact ⟨g2,g3⟩)
    rw [List.drop_zero] at this
    exact ⟨_,⟨parts,rfl,hp,fun i hi hi'=>(hq i hi).2.1⟩,this.1,this.2⟩
   ·cases hk
end
end Go.Am
attribute [irreducible] Go.Am.TOk
namespace Go.Am
open Go.RowKit
def G0 (w:World):Gh:=⟨fun _=>none,fun b=>b<w.heap.size⟩
def S0:Store:=fun _=>none
theorem zh1 (w:World):Sim (G0 w) S0 w :=
 { lt:=fun b hb=>hb,fin:=⟨0,fun _ _=>rfl⟩,blk:=fun i b base hi=>(by cases hi),used:=fun i o hi=>(by cases hi),
   inj:=fun i j oi oj b base base' hi=>(by cases hi),apart:=fun i o b base hi=>(by cases hi) }
theorem z3r {P:Program} {f:Nat} {as:List AV} (h:ACalls P f as S0 (fun b _=>b = .bool true)) {w:World} {vs:List Value} (hr:Rels (VRel (G0 w) w) as vs) :
 Calls P f vs.toArray w fun e w'=>e = .returned (.bool true)∧Below w.heap.size w w':=by
 have:=h.2 _ w vs (zh1 w) hr
 refine this.mono ?_
 rintro e w' ⟨v,a,G',σ',rfl,hx,_,hv,rfl⟩
 have hv':=hv.of_bool
 subst hv'
 exact ⟨rfl,hx.os,hx.tape,hx.output,hx.size,fun k hk=>hx.keep k hk (fun ⟨_,_,_,h1,_⟩=>by cases h1)⟩
section
variable {H:Type} {enc:TypeId×Value→H} {P:Program} {w:World} {sp:Nat→Bool} {held:Bool} {t:TypeId} {v:Value} {d:DataW H} {ps:List MemPlace}
theorem zdp (k:Nat) (hk:okTy P k t=true) {cs:Array Value} (h:DataW.Trod enc P w 0 sp held t (.agg cs) d ps) (hz:∀ n ∈ d.weights P t,n≤reachBytes) :
 ∃ as,VRel (G0 w) w (.agg as) (.agg cs)∧TOk P k t as:=by
 obtain ⟨fuel,h⟩:=h
 obtain ⟨as,h1,h2,h3⟩:=vz (G:=G0 w) (fun _ h=>h) k t _ _ fuel hk h hz
 refine ⟨as,?_,h1⟩
 have h2':Rels (VRel (G0 w) w) as cs.toList:=h2
 have:=VRel.agg (G:=G0 w) (w:=w) (cells:=as) (cs:=cs.toList) h2'.length h3 (fun k hk hk'=>by
  obtain ⟨b,hb,hr⟩:=h2'.get k _ (List.getElem?_eq_getElem hk)
  rw [List.getElem?_eq_getElem hk'] at hb;cases hb;exact hr)
 simpa using this
theorem zfp {ts:List TypeId} {ds:List (DataW H)} (h:(DataW.weightsEach P ts ds).all (· ≤ reachBytes)=true) {j:Nat} (ht:ts[j]? = some t) (hd:ds[j]? = some d):∀ n ∈ d.weights P t,n≤reachBytes:=fun n hn=>by
 have:=List.all_eq_true.1 h _ (DataW.weights_mem_each ht hd n hn)
 simpa using this
end
theorem z93 {P:Program} {n:Nat} {e:TypeId} {α:Type} (c:α→List AV) (ok:α→Prop) (hd:∀ x,TOk P n e x→∃ r,c r=x∧ok r):∀ (es:List (List AV)),(∀ x ∈ es,TOk P n e x)→∃ rs:List α,es=rs.map c∧∀ r ∈ rs,ok r
 | [],_=>⟨[],rfl,by simp⟩
 | x::es,h=>by
   obtain ⟨r,hr,ho⟩:=hd x (h x (by simp))
   obtain ⟨rs,hrs,hos⟩:=z93 c ok hd es (fun y hy=>h y (by simp [hy]))
   exact ⟨r::rs,by simp [hr,hrs],fun q hq=>(List.mem_cons.1 hq).elim (fun e=>e ▸ ho) (hos q)⟩
theorem TOk.slice {P:Program} {n sz by_:Nat} {t e:TypeId} {as:List AV} (ht:P.underlying t=some (.slice e)) (hs:P.cellsOf e=sz) (hb:P.bytesOf e=by_) (h1:1≤by_) {α:Type} (c:α→List AV) (ok:α→Prop) (hd:∀ x,TOk P n e x→∃ r,c r=x∧ok r)
 (h:TOk P (n+1) t as):as=[.nils]∨∃ rs:List α,as=[.sl sz (rs.map c)]∧(rs.length*by_≤reachBytes)∧∀ r ∈ rs,ok r:=by
 unfold TOk at h
 simp only [ht] at h
 rcases h with h | ⟨es,rfl,hz,hx⟩
 ·exact .inl h
 ·obtain ⟨rs,rfl,ho⟩:=z93 c ok hd es hx
  refine .inr ⟨rs,by rw [hs],?_,ho⟩
  rw [List.length_map,hb] at hz
  exact hz
theorem TOk.int {P:Program} {n:Nat} {t:TypeId} {k:IntKind} {as:List AV} (ht:P.underlying t=some (.int k)) (h:TOk P (n+1) t as):∃ m,as=[.int k m]∧k.min≤m∧m≤k.max:=by
 unfold TOk at h;simp only [ht] at h;exact h
theorem TOk.bool {P:Program} {n:Nat} {t:TypeId} {as:List AV} (ht:P.underlying t=some .bool) (h:TOk P (n+1) t as):∃ b,as=[.bool b]:=by
 unfold TOk at h;simp only [ht] at h;exact h
def Parts (P:Program) (n:Nat):List TypeId→List AV→Prop
 | [],as=>as=[]
 | t::ts,as=>∃ a b,as=a++b∧TOk P n t a∧Parts P n ts b
theorem z2s {P:Program} {n:Nat}:∀ (ts:List TypeId) (parts:List (List AV)),parts.length=ts.length→(∀ i (h:i<parts.length) (h':i<ts.length),TOk P n ts[i] parts[i])→Parts P n ts parts.flatten
 | [],parts,hl,_=>by
   have:parts=[]:=List.length_eq_zero_iff.1 hl
   subst this;rfl
 | t::ts,[],hl,_=>by simp at hl
 | t::ts,p::parts,hl,h=>⟨p,parts.flatten,rfl,h 0 (by simp) (by simp),z2s ts parts (by simpa using hl) fun i hi hi'=>by
    have:=h (i+1) (by simp;omega) (by simp;omega)
    simpa using this⟩
theorem TOk.struct {P:Program} {n:Nat} {t:TypeId} {fs:Array Field} {ts:List TypeId} {as:List AV} (ht:P.underlying t=some (.struct fs)) (hts:fs.toList.map (·.type)=ts) (h:TOk P (n+1) t as):Parts P n ts as:=by
 unfold TOk at h;simp only [ht] at h
 obtain ⟨parts,rfl,hl,hp⟩:=h
 subst hts
 refine z2s _ parts (by simpa using hl) fun i hi hi' => ?_
 have:=hp i hi (by simpa using hi')
 simpa using this
end Go.Am
namespace Go.Am
open Go.RowKit
theorem zfq {P:Program} {f:Nat} {as:List AV} (h:Pur P f as (.bool true)) {w:World} {vs:List Value} (hr:Rels (VRel (G0 w) w) as vs) :
 Calls P f vs.toArray w fun e w'=>e = .returned (.bool true)∧Below w.heap.size w w':=z3r ((h S0).mono fun a s h=>h.2) hr
end Go.Am
namespace Go.Am
open Go.RowKit
def Imp (x y:AV):Prop:=y.flat=true∧∀ G w v,VRel G w x v→VRel G w y v
theorem Imp.refl {x:AV} (h:x.flat=true):Imp x x:=⟨h,fun _ _ _ h=>h⟩
theorem Imp.nils {esz:Nat}:Imp .nils (.sl esz []):=⟨rfl,fun _ _ _ h=>by have:=h.of_nils;subst this;exact .sl0⟩
abbrev ImpL (xs ys:List AV):Prop:=Rels Imp xs ys
theorem ImpL.refl:∀ (l:List AV),(∀ x ∈ l,x.flat=true)→ImpL l l
 | [],_ => .nil
 | x::l,h => .cons (.refl (h x (by simp))) (ImpL.refl l fun y hy=>h y (by simp [hy]))
theorem ImpL.flat {a b:List AV} (h:ImpL a b):∀ x ∈ b,x.flat=true:=by
 induction h with
 | nil=>simp
 | cons h1 _ ih=>intro x hx;exact (List.mem_cons.1 hx).elim (fun e=>e ▸ h1.1) (ih x)
theorem Imp.sl {esz:Nat} {es es':List (List AV)} (h:Rels ImpL es es'):Imp (.sl esz es) (.sl esz es'):=by
 refine ⟨rfl,fun G w v hv => ?_⟩
 by_cases he:es=[]
 ·subst he
  cases h
  exact hv
 ·have hl:=h.length
  have hne:es'≠[]:=fun e=>he (List.length_eq_zero_iff.1 (by rw [hl,e];rfl))
  have hget:∀ i (hi:i<es.length) (hi':i<es'.length),ImpL es[i] es'[i]:=fun i hi hi'=>by
   obtain ⟨b,hb,hr⟩:=h.get i _ (List.getElem?_eq_getElem hi)
   rw [List.getElem?_eq_getElem hi'] at hb;cases hb;exact hr
  cases hv with
  | sl0=>exact (he rfl).elim
  | sl vs hb hne' hcap hlen hf hc hvv =>
    have hlen':∀ cs ∈ es',cs.length=esz:=fun cs hcs=>by
     obtain ⟨i,hi,rfl⟩:=List.getElem_of_mem hcs
     rw [←(hget i (by omega) hi).length];exact hlen _ (List.getElem_mem _)
    have:=VRel.sl (G:=G) (w:=w) (esz:=esz) (es:=es') vs hb hne (by rw [←hl];exact hcap) hlen'
     (fun cs hcs=>by
       obtain ⟨i,hi,rfl⟩:=List.getElem_of_mem hcs
       exact (hget i (by omega) hi).flat)
     (fun i j hi hj=>hc i j (by omega) hj)
     (fun i j hi hj=>by
       have h1:=hget i (by omega) hi
       obtain ⟨b,hb',hr⟩:=h1.get j _ (List.getElem?_eq_getElem (by rw [h1.length];exact hj))
       rw [List.getElem?_eq_getElem hj] at hb';cases hb'
       exact hr.2 _ _ _ (hvv i j (by omega) (by rw [h1.length];exact hj)))
    rw [hl];exact this
theorem z6h {P:Program} {n:Nat} {e:TypeId} {α:Type} (c:α→List AV) (ok:α→Prop) (hd:∀ x,TOk P n e x→∃ r,ImpL x (c r)∧ok r):∀ (es:List (List AV)),(∀ x ∈ es,TOk P n e x)→∃ rs:List α,Rels ImpL es (rs.map c)∧∀ r ∈ rs,ok r
 | [],_=>⟨[],.nil,by simp⟩
 | x::es,h=>by
   obtain ⟨r,hr,ho⟩:=hd x (h x (by simp))
   obtain ⟨rs,hrs,hos⟩:=z6h c ok hd es (fun y hy=>h y (by simp [hy]))
   exact ⟨r::rs,.cons hr hrs,fun q hq=>(List.mem_cons.1 hq).elim (fun e=>e ▸ ho) (hos q)⟩
theorem TOk.slI {P:Program} {n sz by_:Nat} {t e:TypeId} {xs:List AV} (ht:P.underlying t=some (.slice e)) (hs:P.cellsOf e=sz) (hb:P.bytesOf e=by_) {α:Type} (c:α→List AV) (ok:α→Prop) (hd:∀ x,TOk P n e x→∃ r,ImpL x (c r)∧ok r)
 (h:TOk P (n+1) t xs):∃ rs:List α,ImpL xs [.sl sz (rs.map c)]∧(rs.length*by_≤reachBytes)∧∀ r ∈ rs,ok r:=by
 unfold TOk at h
 simp only [ht] at h
 rcases h with h | ⟨es,rfl,hz,hx⟩
 ·subst h;exact ⟨[],.cons .nils .nil,by simp,by simp⟩
 ·obtain ⟨rs,hr,ho⟩:=z6h c ok hd es hx
  have hl:=hr.length
  rw [List.length_map] at hl
  exact ⟨rs,.cons (by rw [hs];exact .sl hr) .nil,by rw [←hl,←hb];exact hz,ho⟩
theorem ImpL.append {a b c d:List AV} (h:ImpL a b) (h':ImpL c d):ImpL (a++c) (b++d):=Rels.append h h'
theorem ImpL.one {x:AV} (h:x.flat=true):ImpL [x] [x] := .cons (.refl h) .nil
end Go.Am
