/- A part of the proof: a logic for calls over plain values, and the functions that the law reaches, each walked once. -/
import Derived.Test.YtplkahhkogncjaaGreatQC5
import Derived.OpenShut
import Derived.ChangeOld
import Derived.ChangeShapes
import Derived.SizedLaws
import Derived.Below
import Derived.Shelf.Spec.SlicesInsertGrow
set_option linter.unusedVariables false
set_option linter.unusedSimpArgs false
set_option linter.unusedSectionVars false
universe u
namespace Go.Am
theorem zp {α:Sort u} {a b:α} (h:a=b):a=b:=h
theorem qz {a b:Prop} (h:a↔b):a↔b:=h
section
variable {e:Env} {k:IntKind} {x y:Int} {a b c:AV} {t:Nat} {r:List Opd}
theorem zgp {u:Nat}:Env.get ((t,a)::e) u=if u=t then some a else e.get u:=zp rfl
def keepO (o:Option AV) (t:Nat) (r:Env):Env:=match o with
 | some a=>(t,a)::r
 | none=>r
theorem z8f {r:Env}:keepO (some a) t r=(t,a)::r:=zp rfl
theorem z8e {r:Env}:keepO none t r=r:=zp rfl
theorem zc8:Env.keep e []=[]:=zp rfl
theorem zea {r:List Nat}:Env.keep e (t::r)=keepO (e.get t) t (Env.keep e r):=by
 simp only [Env.keep,keepO];cases e.get t <;> rfl
theorem zcj:Env.putO (some t) a e=(t,a)::e:=zp rfl
theorem zci:Env.putO none a e=e:=zp rfl
theorem ze6:ev e (.t t)=e.get t:=zp rfl
theorem ze5:ev e (.c a)=some a:=zp rfl
theorem ze7:evs e []=some []:=zp rfl
theorem zby:evs e (.c a::r)=(evs e r).map (a :: ·):=by simp only [evs,ev];cases evs e r <;> rfl
theorem zbz:evs e (.t t::r)=(e.get t).bind fun a=>(evs e r).map (a :: ·):=by simp only [evs,ev];cases e.get t <;> cases evs e r <;> rfl
theorem ze0 {i:Nat}:argE i []=[]:=zp rfl
theorem zge {i:Nat} {l:List AV}:argE i (a::l)=(i,a)::argE (i+1) l:=zp rfl
theorem zgv:pv .mov [a]=some a:=zp rfl
theorem zak:pv (.bin .add) [.int k x,.int k y]=some (.int k (k.wrap (x+y))):=by cases k <;> rfl
theorem zh8:pv (.bin .sub) [.int k x,.int k y]=some (.int k (k.wrap (x - y))):=by cases k <;> rfl
theorem zgw:pv (.bin .mul) [.int k x,.int k y]=some (.int k (k.wrap (x*y))):=by cases k <;> rfl
theorem zh2:pv (.bin .quo) [.int k x,.int k y]=if y=0 then none else some (.int k (k.wrap (x.tdiv y))):=by cases k <;> rfl
theorem zh3:pv (.bin .rem) [.int k x,.int k y]=if y=0 then none else some (.int k (x.tmod y)):=by cases k <;> rfl
theorem zgc:pv (.bin .and) [.int k x,.int k y]=some (.int k (bitInt .and k x y)):=by cases k <;> rfl
theorem ziu:pv (.bin .or) [.int k x,.int k y]=some (.int k (bitInt .or k x y)):=by cases k <;> rfl
theorem zha:pv (.bin .xor) [.int k x,.int k y]=some (.int k (bitInt .xor k x y)):=by cases k <;> rfl
theorem za2:pv (.bin .andNot) [.int k x,.int k y]=some (.int k (bitInt .andNot k x y)):=by cases k <;> rfl
theorem zgl:pv (.bin .eql) [.int k x,.int k y]=some (.bool (decide (x=y))):=by cases k <;> rfl
theorem zgy:pv (.bin .neq) [.int k x,.int k y]=some (.bool (!decide (x=y))):=by cases k <;> rfl
theorem zgt:pv (.bin .lss) [.int k x,.int k y]=some (.bool (decide (x<y))):=by cases k <;> rfl
theorem zgs:pv (.bin .leq) [.int k x,.int k y]=some (.bool (decide (x≤y))):=by cases k <;> rfl
theorem zgq:pv (.bin .gtr) [.int k x,.int k y]=some (.bool (decide (y<x))):=by cases k <;> rfl
theorem zgo:pv (.bin .geq) [.int k x,.int k y]=some (.bool (decide (y≤x))):=by cases k <;> rfl
theorem zh4 {j:IntKind}:pv (.bin .shl) [.int k x,.int j y]=if y<0 then none else some (.int k (shlInt k x y)):=zp rfl
theorem zh5 {j:IntKind}:pv (.bin .shr) [.int k x,.int j y]=if y<0 then none else some (.int k (shrInt k x y)):=zp rfl
theorem zgz {b:Bool}:pv .not [.bool b]=some (.bool !b):=zp rfl
theorem zgx:pv .neg [.int k x]=some (.int k (k.wrap (0 - x))):=zp rfl
theorem zgi:pv .cpl [.int k x]=some (.int k (bitInt .xor k (if k.signed then -1 else k.max) x)):=zp rfl
theorem z89 {j:IntKind}:pv (.conv j) [.int k x]=some (.int j (j.wrap x)):=zp rfl
theorem zgk {p q:Bool}:pv (.eqb false) [.bool p,.bool q]=some (.bool (p ==q)):=zp rfl
theorem zei {p q:Bool}:pv (.eqb true) [.bool p,.bool q]=some (.bool (p != q)):=zp rfl
theorem zgj {j:IntKind} {u v:Int}:pv (.eq2 false k j) [.agg [.int k x,.int j y],.agg [.int k u,.int j v]]=some (.bool (decide (x=u∧y=v))):=by cases k <;> cases j <;> rfl
theorem zeh {j:IntKind} {u v:Int}:pv (.eq2 true k j) [.agg [.int k x,.int j y],.agg [.int k u,.int j v]]=some (.bool (!decide (x=u∧y=v))):=by cases k <;> cases j <;> rfl
theorem zc2 {i o n:Nat}:pv (.fld n) [.ptr i o]=some (.ptr i (o+n)):=zp rfl
theorem zc0 {i s j o n:Nat}:pv (.fld n) [.aptr i s j o]=some (.aptr i s j (o+n)):=zp rfl
theorem zc1 {n:Nat} {l:List AV}:pv (.fld n) [.ep l]=some (.ep (l.drop n)):=zp rfl
theorem z6n {i o:Nat}:pv .nilchk [.ptr i o]=some (.ptr i o):=zp rfl
theorem z6k {i s j o:Nat}:pv .nilchk [.aptr i s j o]=some (.aptr i s j o):=zp rfl
theorem z6l {l:List AV}:pv .nilchk [.ep l]=some (.ep l):=zp rfl
theorem z6m {f:Nat} {l:List AV}:pv .nilchk [.fn f l]=some (.fn f l):=zp rfl
theorem z8d {i o:Nat} {g:Bool}:pv (.eqnil g true) [.ptr i o]=some (.bool g):=by cases g <;> rfl
theorem z8a {i s j o:Nat} {g:Bool}:pv (.eqnil g true) [.aptr i s j o]=some (.bool g):=by cases g <;> rfl
theorem z8b {l:List AV} {g:Bool}:pv (.eqnil g true) [.ep l]=some (.bool g):=by cases g <;> rfl
theorem z8c {g:Bool}:pv (.eqnil g true) [.nil]=some (.bool (!g)):=by cases g <;> rfl
theorem ze8 {o s:Nat} {l:List AV}:pv (.fldv o s true) [.agg l]=if o+s≤l.length then some (.agg ((l.drop o).take s)) else none:=zp rfl
theorem zc3 {o s:Nat} {l:List AV}:pv (.fldv o s false) [.agg l]=l[o]? := zp rfl
theorem zc7 {s:Nat} {es:List (List AV)}:pv (.idx s) [.sl s es,.int k x]=if 0≤x then (es[x.toNat]?).map .ep else none:=by simp [pv,pIdx]
theorem zc6 {s:Nat}:pv (.idx s) [.nils,.int k x]=none:=zp rfl
theorem z5e {s i o n:Nat}:pv (.idx s) [.os i s o n,.int k x]=if 0≤x∧x<(n:Int) then some (.aptr i s (o+x.toNat) 0) else none:=by simp [pv,pIdx]
theorem za5 {i o n s:Nat}:pv (.idxa n s) [.ptr i o,.int k x]=if 0≤x∧x<(n:Int) then some (.ptr i (o+x.toNat*s)) else none:=zp rfl
theorem zcc {s:Nat} {es:List (List AV)}:pv .len [.sl s es]=some (.int .i64 es.length):=zp rfl
theorem zca:pv .len [.nils]=some (.int .i64 0):=zp rfl
theorem zcb {i s o n:Nat}:pv .len [.os i s o n]=some (.int .i64 n):=zp rfl
theorem z6o {s:Nat}:pv (.slice s true true) [a,.int .i64 x,.int .i64 y]=pSlice s a x (some y):=by cases a <;> rfl
theorem z8j {s:Nat}:pv (.slice s true false) [a,.int .i64 x]=pSlice s a x none:=by cases a <;> rfl
theorem z8i {s:Nat}:pv (.slice s false true) [a,.int .i64 x]=pSlice s a 0 (some x):=by cases a <;> rfl
theorem z8h {s:Nat}:pv (.slice s false false) [a]=pSlice s a 0 none:=by cases a <;> rfl
theorem zer {s:Nat} {es:List (List AV)} {h:Option Int}:pSlice s (.sl s es) x h=if 0≤x∧x≤h.getD es.length∧h.getD es.length≤(es.length:Int) then some (.sl s ((es.take (h.getD es.length).toNat).drop x.toNat)) else none:=by simp [pSlice]
theorem zeq {s i o n:Nat} {h:Option Int}:pSlice s (.os i s o n) x h=if 0≤x∧x≤h.getD n∧h.getD n≤(n:Int) then some (.os i s (o+x.toNat) ((h.getD n).toNat - x.toNat)) else none:=by simp [pSlice]
theorem zep {s:Nat} {h:Option Int}:pSlice s .nils x h=if 0≤x∧x≤h.getD 0∧h.getD 0≤0 then some .nils else none:=zp rfl
theorem zbr {z:List AV} {p:List (Nat×Nat)} {aw:List AV}:pv (.build z p) aw=(pBuild z p aw).map .agg:=zp rfl
theorem zgn {i:Nat} {l:List AV}:pv (.ext i) [.tup l]=l[i]? := zp rfl
theorem zed {f:Nat} {l:List AV}:pv (.mkfn f) l=some (.fn f l):=zp rfl
theorem zee {f:Nat}:pv (.mkif f) [a]=some (.iface f a):=zp rfl
theorem zgu {l:List AV} {m:Bool}:pv (.minmax m) (a::l)=pMin m a l:=zp rfl
theorem zch {m:Bool}:pMin m a []=some a:=by cases a <;> rfl
theorem zeo {l:List AV}:pMin false (.int k x) (.int k y::l)=pMin false (.int k (if y<x then y else x)) l:=by cases k <;> rfl
theorem zen {l:List AV}:pMin true (.int k x) (.int k y::l)=pMin true (.int k (if y>x then y else x)) l:=by cases k <;> rfl
theorem zh1 {l:List AV}:pBuild l [] []=some l:=zp rfl
theorem ziv {l aw:List AV} {o s:Nat} {ps:List (Nat×Nat)}:pBuild l ((o,s)::ps) (a::aw)=if a.cells.length=s∧a.isTup=false then (splice o a.cells l).bind fun cs=>pBuild cs ps aw else none:=zp rfl
theorem zh6 {l:List AV}:splice 0 [] l=some l:=by cases l <;> rfl
theorem ziw {l v:List AV}:splice 0 (a::v) (b::l)=(splice 0 v l).map (a :: ·):=zp rfl
theorem zh7 {n:Nat} {l v:List AV}:splice (n+1) v (b::l)=(splice n v l).map (b :: ·):=zp rfl
theorem zbs {l:List AV}:(AV.agg l).cells=l:=zp rfl
theorem zbt:(AV.int k x).cells=[.int k x]:=zp rfl
theorem za3 {p:Bool}:(AV.bool p).cells=[.bool p]:=zp rfl
theorem za4:AV.nils.cells=[.nils]:=zp rfl
theorem ze4 {s:Nat} {l:List (List AV)}:(AV.sl s l).cells=[.sl s l]:=zp rfl
theorem ze3 {i s o n:Nat}:(AV.os i s o n).cells=[.os i s o n]:=zp rfl
theorem zbv {i o:Nat}:(AV.ptr i o).cells=[.ptr i o]:=zp rfl
theorem zbu:AV.nil.cells=[.nil]:=zp rfl
theorem ze2 {i:Nat}:(AV.mp i).cells=[.mp i]:=zp rfl
theorem z6j:AV.nilmap.cells=[.nilmap]:=zp rfl
theorem ze1 {f:Nat} {l:List AV}:(AV.fn f l).cells=[.fn f l]:=zp rfl
theorem zbw {s:ByteArray}:(AV.str s).cells=[.str s]:=zp rfl
theorem zcl {l:List AV}:(AV.agg l).isTup=false:=zp rfl
theorem zcm:(AV.int k x).isTup=false:=zp rfl
theorem za8 {p:Bool}:(AV.bool p).isTup=false:=zp rfl
theorem za9:AV.nils.isTup=false:=zp rfl
theorem zf2 {s:Nat} {l:List (List AV)}:(AV.sl s l).isTup=false:=zp rfl
theorem zf1 {i s o n:Nat}:(AV.os i s o n).isTup=false:=zp rfl
theorem zco {i o:Nat}:(AV.ptr i o).isTup=false:=zp rfl
theorem zcn:AV.nil.isTup=false:=zp rfl
theorem zf0 {i:Nat}:(AV.mp i).isTup=false:=zp rfl
theorem z6p:AV.nilmap.isTup=false:=zp rfl
theorem zez {f:Nat} {l:List AV}:(AV.fn f l).isTup=false:=zp rfl
theorem zcp {s:ByteArray}:(AV.str s).isTup=false:=zp rfl
variable {σ:Store}
theorem zit {n:Nat}:ldv (.ld n true) [a] σ=(rd σ n a).map .agg:=by cases a <;> rfl
def oneV:List AV→Option AV
 | [c]=>some c
 | _=>none
theorem zem:oneV [a]=some a:=zp rfl
theorem zgr {n:Nat}:ldv (.ld n false) [a] σ=(rd σ 1 a).bind oneV:=zp rfl
theorem zet {n:Nat} {l:List AV}:rd σ n (.ep l)=takeN 0 n l:=zp rfl
def boxO:Option Obj→Option (List AV)
 | some (.box l)=>some l
 | _=>none
theorem zgf {l:List AV}:boxO (some (.box l))=some l:=zp rfl
def arrO (s:Nat):Option Obj→Option (List (List AV))
 | some (.arr s' l)=>if s'=s then some l else none
 | _=>none
theorem zal {s:Nat} {l:List (List AV)}:arrO s (some (.arr s l))=some l:=by simp [arrO]
theorem zeu {n i o:Nat}:rd σ n (.ptr i o)=(boxO (σ i)).bind fun l=>takeN o n l:=by
 simp only [rd];cases σ i with
 | none=>rfl
 | some p=>cases p <;> rfl
theorem zes {n i s j o:Nat}:rd σ n (.aptr i s j o)=(arrO s (σ i)).bind fun l=>(l[j]?).bind fun c=>takeN o n c:=by
 simp only [rd];cases σ i with
 | none=>rfl
 | some p=>cases p <;> first | rfl | (simp only [arrO];split <;> rfl)
theorem zcq {o n:Nat} {l:List AV}:takeN o n l=if o+n≤l.length then some ((l.drop o).take n) else none:=zp rfl
theorem zf4 {i o:Nat} {v:List AV}:wr σ v (.ptr i o)=(boxO (σ i)).bind fun l=>(splice o v l).map fun cs=>σ.set i (.box cs):=by
 simp only [wr];cases σ i with
 | none=>rfl
 | some p=>cases p <;> rfl
theorem zf3 {i s j o:Nat} {v:List AV}:wr σ v (.aptr i s j o)=(arrO s (σ i)).bind fun l=>(l[j]?).bind fun c=>(splice o v c).map fun cs=>σ.set i (.arr s (l.set j cs)):=by
 simp only [wr];cases σ i with
 | none=>rfl
 | some p=>cases p <;> first | rfl | (simp only [arrO];split <;> rfl)
theorem zbq {z:List AV}:alv (.alloc z) []=some (.box z,fun id => .ptr id 0):=zp rfl
theorem zdz:alv .box [a]=if a.isTup then none else some (.box a.cells,fun id => .ptr id 0):=zp rfl
theorem zce {s:Nat}:alv (.mksl s 0) []=some (.arr s [],fun id => .os id s 0 0):=zp rfl
theorem zcf {s:Nat}:alv (.mksl s 1) [a]=if a.isTup=false∧a.cells.length=s then some (.arr s [a.cells],fun id => .os id s 0 1) else none:=by
 simp [alv]
theorem zcg {s:Nat}:alv (.mksl s 2) [a,b]=if (a.isTup=false∧a.cells.length=s)∧(b.isTup=false∧b.cells.length=s) then some (.arr s [a.cells,b.cells],fun id => .os id s 0 2) else none:=by
 simp only [alv,List.length_cons,List.length_nil,List.all_cons,List.all_nil,Bool.and_true,Bool.and_eq_true,Bool.not_eq_true',decide_eq_true_eq,List.map]
 simp
theorem zcd:alv .mkmap []=some (.map [],fun id => .mp id):=zp rfl
theorem zeb {z:List AV} {s n:Nat}:alv (.make s z n) [.int .i64 x,.int .i64 y]=if x=y∧0≤x∧x≤9223372036854775807∧x*n≤281474976710656 then some (.arr s (List.replicate x.toNat z),fun id => .os id s 0 x.toNat) else none:=zp rfl
theorem zix {P:Program} {n:Nat} {K:AV→Store→Prop}:lwp P (.st n) [a,b] σ K↔b.isTup=false∧b.cells.length=n∧wit (wr σ b.cells a) fun τ=>K (.tup []) τ:=by
 simp only [lwp]
 cases wr σ b.cells a <;> simp [wit]
theorem zgd {P:Program} {n m:Nat} {K:AV→Store→Prop}:lwp P (.app n m) [a,b] σ K↔appwp n m a b σ K:=qz Iff.rfl
theorem zbx {P:Program} {f:Nat} {l aw:List AV} {K:AV→Store→Prop}:lwp P .callv (.fn f l::aw) σ K ↔ @CallQ P f (aw++l) σ ⟨K⟩:=by rw [←v_acalls];exact Iff.rfl
theorem zej {P:Program} {g:Bool} {K:AV→Store→Prop}:lwp P (.nilq g) [a] σ K↔nilqwp g a (fun b=>K b σ):=qz Iff.rfl
theorem zek {g:Bool} {K:AV→Prop}:nilqwp g .nils K↔K (.bool (!g)):=qz Iff.rfl
theorem zel {g:Bool} {i s o n:Nat} {K:AV→Prop}:nilqwp g (.os i s o n) K↔K (.bool g):=qz Iff.rfl
theorem z8g {g:Bool} {s:Nat} {l:List (List AV)} {K:AV→Prop} (h:∀ b,(l≠[]→b=g)→K (.bool b)):nilqwp g (.sl s l) K:=by
 cases l with
 | nil=>exact ⟨h true (fun h=>absurd rfl h),h false (fun h=>absurd rfl h)⟩
 | cons x r=>exact h g (fun _=>rfl)
theorem zeg {P:Program} {mk:MKey} {K:AV→Store→Prop}:lwp P (.mupd mk) [a,b,c] σ K↔mupdwp mk a b c σ (K (.tup [])):=qz Iff.rfl
theorem zec {P:Program} {mk:MKey} {K:AV→Store→Prop}:lwp P (.mdel mk) [a,b] σ K↔mdelwp mk a b σ (K (.tup [])):=qz Iff.rfl
theorem zev {s:RS}:Env.res e σ [s]=e.rs σ s:=zp rfl
theorem zew {s s':RS} {l:List RS}:Env.res e σ (s::s'::l)=(e.gets σ (s::s'::l)).map .tup:=zp rfl
theorem zc4:Env.gets e σ []=some []:=zp rfl
theorem ze9 {s:RS} {l:List RS}:Env.gets e σ (s::l)=(e.rs σ s).bind fun a=>(e.gets σ l).map (a :: ·):=by
 simp only [Env.gets];cases e.rs σ s <;> cases e.gets σ l <;> rfl
theorem zey {n:Nat}:e.rs σ (.t n)=e.get n:=zp rfl
theorem zex {n s:Nat}:e.rs σ (.c n s true)=(e.get n).bind fun p=>(rd σ s p).map .agg:=by
 simp only [Env.rs];cases e.get n <;> rfl
theorem zck {n s:Nat}:e.rs σ (.c n s false)=(e.get n).bind fun p=>(rd σ 1 p).bind oneV:=by
 simp only [Env.rs]
 cases e.get n with
 | none=>rfl
 | some p =>
   simp only [Option.bind_some]
   cases rd σ 1 p with
   | none=>rfl
   | some l=>match l with
     | []=>rfl
     | [_]=>rfl
     | _::_::_=>rfl
end
end Go.Am
namespace Go.Am
theorem u_setN {σ:Store} {i j:Nat} {o:Obj}:((σ.set i o) j=none)↔(¬ j=i∧¬ i=j)∧σ j=none:=by
 simp only [Store.set]
 by_cases h:j=i
 ·subst h;simp
 ·simp [h,Ne.symm h]
end Go.Am
namespace Go.Am
theorem z5g {σ:Store} {i j:Nat} {o:Obj} (h:¬ j=i):(σ.set i o) j=σ j:=by simp [Store.set,h]
end Go.Am
namespace Go.Am
theorem za7 {σ τ:Store} {i:Nat} {o:Obj} (h:σ i=none):Store.sub σ (τ.set i o)↔Store.sub σ τ:=by
 constructor
 ·intro hs j p hj
  have:=hs j p hj
  simp only [Store.set] at this
  split at this
  ·rename_i e;subst e;rw [h] at hj;cases hj
  ·exact this
 ·exact fun hs=>Store.sub_upd hs h
theorem za6 {σ τ:Store} {i:Nat} (h:σ i=none):Store.sub σ (τ.del i)↔Store.sub σ τ:=by
 constructor
 ·intro hs j p hj
  have:=hs j p hj
  simp only [Store.del] at this
  split at this
  ·cases this
  ·exact this
 ·intro hs j p hj
  simp only [Store.del]
  split
  ·rename_i e;subst e;rw [h] at hj;cases hj
  ·exact hs j p hj
theorem z8k {σ:Store}:Store.sub σ σ↔True:=⟨fun _=>trivial,fun _=>Store.sub_refl σ⟩
end Go.Am
namespace Go.Am
class LoopK where
 live:List Nat
 b:BC
 n:Env→Store→Prop
 r:Env→Store→Prop
 x:Nat→Env→Store→Prop
def LoopQ (P:Program) (e:Env) (σ:Store) [k:LoopK]:Prop:=∃ I:Nat→Env→Store→Prop,(∃ j σ',Store.sub σ' σ∧I j e σ')∧∀ j e σ,I j e σ →
     bwp P k.b e σ (fun e' σ'=>∃ i σ'',i<j∧Store.sub σ'' σ'∧I i (Env.keep e' k.live) σ'') k.r k.x
theorem zfa {P:Program} {live:List Nat} {b:BC} {e:Env} {σ:Store} {n r:Env→Store→Prop} {x:Nat→Env→Store→Prop}:bwp P (.loop live b) e σ n r x ↔ @LoopQ P (e.keep live) σ ⟨live,b,n,r,x⟩:=qz Iff.rfl
class NextK where
 K:Env→Store→Prop
def NextQ (e:Env) (σ:Store) [k:NextK]:Prop:=k.K e σ
theorem LoopQ.inv {P:Program} {S:Type} (env:S→Env) (st:S→Store) (ok:S→Prop) (m:S→Nat) (s0:S) {live:List Nat} {b:BC} {e:Env} {σ:Store} {n r:Env→Store→Prop} {x:Nat→Env→Store→Prop} (he:e=env s0) (hs:Store.sub (st s0) σ) (h0:ok s0)
 (hstep:∀ s,ok s→bwp P b (env s) (st s) (fun e' σ' => @NextQ (Env.keep e' live) σ' ⟨fun e' σ'=>∃ s',e'=env s'∧Store.sub (st s') σ'∧m s'<m s∧ok s'⟩) r x) : @LoopQ P e σ ⟨live,b,n,r,x⟩:=by
 refine ⟨fun k e σ=>∃ s,ok s∧env s=e∧st s=σ∧m s=k,⟨m s0,st s0,hs,s0,h0,he.symm,rfl,rfl⟩,?_⟩
 rintro k e σ ⟨s,hok,rfl,rfl,rfl⟩
 refine yi b _ _ _ _ _ _ _ _ ?_ (fun _ _ h=>h) (fun _ _ _ h=>h) (hstep s hok)
 rintro e' σ' ⟨s',h1,h2,h3,h4⟩
 exact ⟨m s',st s',h3,h2,s',h4,h1.symm,rfl,rfl⟩
theorem NextQ.to {S:Type} {env:S→Env} {st:S→Store} {ok:S→Prop} {m:S→Nat} {s:S} {e:Env} {σ:Store} (s':S) (h1:e=env s') (h2:Store.sub (st s') σ) (h3:m s'<m s) (h4:ok s') :
 @NextQ e σ ⟨fun e' σ'=>∃ s',e'=env s'∧Store.sub (st s') σ'∧m s'<m s∧ok s'⟩:=⟨s',h1,h2,h3,h4⟩
end Go.Am
namespace Go.Am
class AllocK where
 K:Nat→Prop
def AllocQ (σ:Store) [k:AllocK]:Prop:=∀ id,σ id=none→k.K id
theorem zac {P:Program} {e:Env} {σ:Store} {d:Option Nat} {xs:List Opd} {K:Env→Store→Prop} {k:AK}:bop P d (.alloc k) xs e σ K↔wit (evs e xs) fun aw=>wit (alv k aw) fun p => @AllocQ σ ⟨fun id=>K (Env.putO d (p.2 id) e) (σ.set id p.1)⟩:=zcs
theorem AllocQ.i0 {σ:Store} {K:Nat→Prop} (h:∀ id,σ id=none→K id) : @AllocQ σ ⟨K⟩:=h
theorem AllocQ.i1 {σ:Store} {i:Nat} {o:Obj} {K:Nat→Prop} (h:∀ id,¬ id=i→¬ i=id→σ id=none→K id) : @AllocQ (σ.set i o) ⟨K⟩:=fun id hid=>by
 obtain ⟨⟨h1,h2⟩,h3⟩:=u_setN.1 hid
 exact h id h1 h2 h3
theorem AllocQ.i2 {σ:Store} {i j:Nat} {o p:Obj} {K:Nat→Prop} (h:∀ id,¬ id=i→¬ i=id→¬ id=j→¬ j=id→σ id=none→K id) : @AllocQ ((σ.set i o).set j p) ⟨K⟩:=fun id hid=>by
 obtain ⟨⟨h1,h2⟩,h3⟩:=u_setN.1 hid
 obtain ⟨⟨h4,h5⟩,h6⟩:=u_setN.1 h3
 exact h id h4 h5 h1 h2 h6
end Go.Am
namespace Go.Am
def slO {α:Type} (s:Nat) (c:α→List AV):Option (List α)→AV
 | none => .nils
 | some l => .sl s (l.map c)
section
variable {α:Type} {s:Nat} {c:α→List AV} {o:Option (List α)}
theorem zc9:pv .len [slO s c o]=some (.int .i64 (o.getD []).length):=by cases o <;> simp [slO,pv,pLen]
theorem zc5 {k:IntKind} {x:Int}:pv (.idx s) [slO s c o,.int k x]=if 0≤x then (((o.getD []).map c)[x.toNat]?).map .ep else none:=by
 cases o <;> simp [slO,pv,pIdx]
theorem zh9:(slO s c o).isTup=false:=by cases o <;> rfl
theorem zgg:(slO s c o).cells=[slO s c o]:=by cases o <;> rfl
theorem Pur.nil {P:Program} {f:Nat} {args:List AV} {v:AV} (k s:Nat) (ha:args[k]? = some .nils) (h:Pur P f (args.set k (.sl s [])) v):Pur P f args v:=fun σ =>
 ACalls.weakArgs (h σ).1 (WeakL.nil (Q:=fun args' σ'=>ACalls P f args' σ' (fun a s=>s=σ∧a=v)) k s ha (WeakL.pure (h σ)))
end
end Go.Am
namespace Go.Am
class EndK where
 slots:List RS
 Q:AV→Store→Prop
def EndQ (e:Env) (τ:Store) [k:EndK]:Prop:=Ends k.slots k.Q e τ
theorem EndQ.to {slots:List RS} {Q:AV→Store→Prop} {e:Env} {τ:Store} (σ:Store) (v:AV) (h1:e.res τ slots=some v) (h2:Store.sub σ τ) (h3:Q v σ) : @EndQ e τ ⟨slots,Q⟩:=z8n ⟨v,h1,h2,h3⟩
theorem EndQ.frz {slots:List RS} {Q:AV→Store→Prop} {e:Env} {τ:Store} (id esz off len:Nat) (es:List (List AV)) (σ:Store) (h1:e.res τ slots=some (.os id esz off len)) (h2:τ id=some (.arr esz es))
 (hle:off+len≤es.length) (h3:Store.sub σ (τ.del id)) (h4:Q (.sl esz ((es.drop off).take len)) σ) : @EndQ e τ ⟨slots,Q⟩ :=
 ⟨_,h1,Weak.of_one (WeakL.freeze 0 rfl h2 hle (WeakL.forget h3 (WeakL.pure ⟨_,rfl,h4⟩)))⟩
theorem ze {P:Program} {fi:Nat} (F:Fn P fi) {args:List AV} {σ:Store} {Q:AV→Store→Prop} (hargs:args.length≤F.N)
 (h:bwp P F.b (argE 0 args) σ (fun e τ => @EndQ e τ ⟨F.slots,Q⟩) (fun e τ => @EndQ e τ ⟨F.slots,Q⟩) (fun _ _ _=>False)):ACalls P fi args σ Q:=z2c F hargs h
theorem ACalls.Q {P:Program} {f:Nat} {args:List AV} {σ:Store} {Q K:AV→Store→Prop} (h:ACalls P f args σ Q) (hK:∀ a s,Q a s→K a s) : @CallQ P f args σ ⟨K⟩:=v_acalls.1 (h.mono hK)
theorem Store.set_self {σ:Store} {i:Nat} {o:Obj} (h:σ i=some o):σ.set i o=σ:=by funext j;simp only [Store.set];split <;> simp_all
end Go.Am
namespace Go.Am
class WkK where
 K:Env→Store→Prop
def WkQ (e:Env) (σ:Store) [k:WkK]:Prop:=WeakE e σ k.K
theorem zj0 {P:Program} {i:Nat} {b:BC} {e:Env} {σ:Store} {n r:Env→Store→Prop} {x:Nat→Env→Store→Prop}:bwp P (.wk i b) e σ n r x ↔ @WkQ e σ ⟨fun e σ=>bwp P b e σ n r x⟩:=qz Iff.rfl
theorem WkQ.of {e:Env} {σ:Store} {K:Env→Store→Prop} (h:WeakE e σ K) : @WkQ e σ ⟨K⟩:=h
end Go.Am
attribute [irreducible] Go.Am.WkQ Go.Am.LoopQ Go.Am.NextQ Go.Am.AllocQ Go.Am.EndQ
namespace Go.Am
set_option linter.defProp false
def vcPre :=
 And.intro @zfg (And.intro @zhi (And.intro @zff (And.intro @zhj (And.intro @zhg (And.intro @zfe (And.intro @zhk (And.intro @zcv (And.intro @zf8 (And.intro @zfd (And.intro @zf9 (And.intro @zac (And.intro @zfb (And.intro @zad (And.intro @zct (And.intro @v_acalls (And.intro @zhc (And.intro @zfc (And.intro @zfa (And.intro @zhe (And.intro @ziz (And.intro @zhd (And.intro @y7 (And.intro @zag (And.intro @zcw (And.intro @zaf (And.intro @zcx (And.intro @zae (And.intro @zi9 (And.intro @zi7 (And.intro @zfx (And.intro @zfu (And.intro @zi8 (And.intro @zfy (And.intro @zft (And.intro @zfs (And.intro @zfw (And.intro @zfv (And.intro @zi6 (And.intro @zi4 (And.intro @zi3 (And.intro @zi5 @zj0)))))))))))))))))))))))))))))))))))))))))
def vcPost :=
 And.intro @zgp (And.intro @z8f (And.intro @z8e (And.intro @zc8 (And.intro @zea (And.intro @zcj (And.intro @zci (And.intro @ze6 (And.intro @ze5 (And.intro @ze7 (And.intro @zby (And.intro @zbz (And.intro @ze0 (And.intro @zge (And.intro @zgv (And.intro @zak (And.intro @zh8 (And.intro @zgw (And.intro @zh2 (And.intro @zh3 (And.intro @zgc (And.intro @ziu (And.intro @zha (And.intro @za2 (And.intro @zgl (And.intro @zgy (And.intro @zgt (And.intro @zgs (And.intro @zgq (And.intro @zgo (And.intro @zh4 (And.intro @zh5 (And.intro @zgz (And.intro @zgx (And.intro @zgi (And.intro @z89 (And.intro @zgk (And.intro @zei (And.intro @zgj (And.intro @zeh (And.intro @zc2 (And.intro @zc0 (And.intro @zc1 (And.intro @z6n (And.intro @z6k (And.intro @z6l (And.intro @z6m (And.intro @z8d (And.intro @z8a (And.intro @z8b (And.intro @z8c (And.intro @ze8 (And.intro @zc3 (And.intro @zc7 (And.intro @zc6 (And.intro @z5e (And.intro @za5 (And.intro @zcc (And.intro @zca (And.intro @zcb (And.intro @z6o (And.intro @z8j (And.intro @z8i (And.intro @z8h (And.intro @zer (And.intro @zeq (And.intro @zep (And.intro @zbr (And.intro @zgn (And.intro @zed (And.intro @zee (And.intro @zgu (And.intro @zch (And.intro @zeo (And.intro @zen (And.intro @zh1 (And.intro @ziv (And.intro @zh6 (And.intro @ziw (And.intro @zh7 (And.intro @zbs (And.intro @zbt (And.intro @za3 (And.intro @za4 (And.intro @ze4 (And.intro @ze3 (And.intro @zbv (And.intro @zbu (And.intro @ze2 (And.intro @z6j (And.intro @ze1 (And.intro @zbw (And.intro @zcl (And.intro @zcm (And.intro @za8 (And.intro @za9 (And.intro @zf2 (And.intro @zf1 (And.intro @zco (And.intro @zcn (And.intro @zf0 (And.intro @z6p (And.intro @zez (And.intro @zcp (And.intro @zit (And.intro @zem (And.intro @zgr (And.intro @zet (And.intro @zgf (And.intro @zal (And.intro @zeu (And.intro @zes (And.intro @zcq (And.intro @zf4 (And.intro @zf3 (And.intro @zbq (And.intro @zdz (And.intro @zce (And.intro @zcf (And.intro @zcg (And.intro @zcd (And.intro @zeb (And.intro @zix (And.intro @zgd (And.intro @zc9 (And.intro @zc5 (And.intro @zh9 (And.intro @zgg (And.intro @zbx (And.intro @zej (And.intro @zek (And.intro @zel (And.intro @zeg (And.intro @zec (And.intro @zev (And.intro @zew (And.intro @zc4 (And.intro @ze9 (And.intro @zey (And.intro @zex @zck)))))))))))))))))))))))))))))))))))))))))))))))))))))))))))))))))))))))))))))))))))))))))))))))))))))))))))))))))))))))))))))))))))))))))))
def vcStd :=
 And.intro @decide_eq_true_eq (And.intro @decide_eq_false_iff_not (And.intro @List.length_cons.{0} (And.intro @List.length_nil.{0} (And.intro @List.drop_zero.{0} (And.intro @List.drop_succ_cons.{0} (And.intro @List.take_succ_cons.{0} (And.intro @List.take_zero.{0} (And.intro @List.drop_nil.{0} (And.intro @List.length_map.{0,0} (And.intro @List.getElem_map.{0,0} (And.intro @Int.toNat_natCast (And.intro @Int.natCast_nonneg (And.intro @Int.ofNat_lt (And.intro @Int.ofNat_le (And.intro @not_true_eq_false (And.intro @exists_prop (And.intro @exists_true_left (And.intro @Option.map_some.{0,0} (And.intro @Option.bind_some.{0,0} (And.intro @true_and (And.intro @and_true (And.intro @true_implies (And.intro @false_implies (And.intro @Bool.not_true (And.intro @Bool.not_not (And.intro @decide_true (And.intro @decide_false (And.intro @Bool.not_false (And.intro @Bool.not_eq_true' (And.intro @Bool.false_eq_true (And.intro @Bool.true_eq_false (And.intro @Store.set_same (And.intro @z5g (And.intro @za7 (And.intro @za6 (And.intro @z8k (And.intro @Option.some.injEq.{0} (And.intro @AV.bool.injEq (And.intro @AV.int.injEq (And.intro @AV.agg.injEq (And.intro @List.cons.injEq.{0} (And.intro @not_false_eq_true (And.intro @and_imp (And.intro @List.cons_append.{0} (And.intro @List.nil_append.{0} (And.intro @List.getElem?_cons_zero.{0} (And.intro @List.getElem?_cons_succ.{0} @implies_true.{0})))))))))))))))))))))))))))))))))))))))))))))))
end Go.Am
namespace Go.Am
open Go.RowKit
def TOk (P:Program):Nat→TypeId→List AV→Prop
 | 0,_,_=>False
 | n+1,t,aw=>match P.underlying t with
   | some .bool=>∃ b,aw=[.bool b]
   | some (.int k)=>∃ m,aw=[.int k m]∧k.min≤m∧m≤k.max
   | some .string=>∃ s:ByteArray,aw=[.str s]∧s.size≤reachBytes
   | some (.float .f64)=>∃ m,aw=[.flt m]∧m<2 ^ 64
   | some (.slice e)=>aw=[.nils]∨∃ es,aw=[.sl (P.cellsOf e) es]∧es.length*P.bytesOf e≤reachBytes∧∀ x ∈ es,TOk P n e x
   | some (.struct fs)=>∃ parts:List (List AV),aw=parts.flatten∧parts.length=fs.toList.length∧∀ i (h:i<parts.length) (h':i<fs.toList.length),TOk P n fs.toList[i].type parts[i]
   | _=>False
section
variable {H:Type} {enc:TypeId×Value→H} {P:Program} {w:World} {sp:Nat→Bool} {held:Bool}
end
end Go.Am
attribute [irreducible] Go.Am.TOk
namespace Go.Am
open Go.RowKit
def G0 (w:World):Gh:=⟨fun _=>none,fun b=>b<w.heap.size⟩
def S0:Store:=fun _=>none
theorem zis (w:World):Sim (G0 w) S0 w :=
 { lt:=fun b hb=>hb,fin:=⟨0,fun _ _=>rfl⟩,blk:=fun i b base hi=>(by cases hi),used:=fun i o hi=>(by cases hi),
   inj:=fun i j oi oj b base base' hi=>(by cases hi),apart:=fun i o b base hi=>(by cases hi) }
theorem z4l {P:Program} {f:Nat} {aw:List AV} (h:ACalls P f aw S0 (fun b _=>b = .bool true)) {w:World} {vs:List Value} (hr:Rels (VRel (G0 w) w) aw vs) :
 Calls P f vs.toArray w fun e w'=>e = .returned (.bool true)∧Below w.heap.size w w':=by
 have:=h.2 _ w vs (zis w) hr
 refine this.mono ?_
 rintro e w' ⟨v,a,G',σ',rfl,hx,_,hv,rfl⟩
 have hv':=hv.of_bool
 subst hv'
 exact ⟨rfl,hx.os,hx.tape,hx.output,hx.size,fun k hk=>hx.keep k hk (fun ⟨_,_,_,h1,_⟩=>by cases h1)⟩
section
variable {H:Type} {enc:TypeId×Value→H} {P:Program} {w:World} {sp:Nat→Bool} {held:Bool} {t:TypeId} {v:Value} {d:DataW H} {ps:List MemPlace}
end
theorem TOk.int {P:Program} {n:Nat} {t:TypeId} {k:IntKind} {aw:List AV} (ht:P.underlying t=some (.int k)) (h:TOk P (n+1) t aw):∃ m,aw=[.int k m]∧k.min≤m∧m≤k.max:=by
 unfold TOk at h;simp only [ht] at h;exact h
def Parts (P:Program) (n:Nat):List TypeId→List AV→Prop
 | [],aw=>aw=[]
 | t::ts,aw=>∃ a b,aw=a++b∧TOk P n t a∧Parts P n ts b
end Go.Am
namespace Go.Am
open Go.RowKit
theorem zhl {P:Program} {f:Nat} {aw:List AV} (h:Pur P f aw (.bool true)) {w:World} {vs:List Value} (hr:Rels (VRel (G0 w) w) aw vs) :
 Calls P f vs.toArray w fun e w'=>e = .returned (.bool true)∧Below w.heap.size w w':=z4l ((h S0).mono fun a s h=>h.2) hr
end Go.Am
namespace Go.Am
def lay (cur:Array Value) (o:Nat) (vs:List Value):Array Value:=(cur.toList.take o++vs++cur.toList.drop (o+vs.length)).toArray
theorem z30 {P:Program} (w:World) {dT sT ty elem:TypeId} {sz:Nat} (g o dLen dCap:Nat) (a:Addr) (sLen sCap k:Nat) (cur:Array Value) (t:TypeId) (cs:List Value)
 (hu:P.underlying dT=some (.slice elem)) (hs:tsz P elem=some sz) (hg:w.heap[g]? = some (.cells cur t (0,0))) (hk:k=Nat.min sLen dLen) (hn:cs.length=k*sz)
 (hsrc:∀ j v,cs[j]? = some v→w.cell? (a.add j)=some v) (hfit:o+cs.length≤cur.size) (h1:∀ v ∈ cs,v.oneCell'=true) :
 (Builtin.copy_ #[dT,sT] ty #[.slice (some ⟨g,o,none⟩) dLen dCap,.slice (some a) sLen sCap]).run P w = .ok (goInt k) (w.setRow g (lay cur o cs)):=by
 have hl:=run_loadCells_list (P:=P) w a cs hsrc
 have hst:=run_storeCells_at P g o t cs 0 cur w hg (by simpa using hfit) h1
 unfold Builtin.copy_
 simp [zj hu,z04,Builtin.firstCells,y9 hs,←hk,←hn,hl,hst,lay]
section
variable {P:Program} {w:World} {G:Gh} {σ:Store}
theorem z9i {cur:Array Value} {vs:List Value} {o:Nat} (h:o+vs.length≤cur.size) (k:Nat) :
 (lay cur o vs).getD k undef=if o≤k∧k<o+vs.length then vs.getD (k - o) undef else cur.getD k undef:=xy h k
theorem zdj {cur:Array Value} {vs:List Value} {o:Nat} (h:o+vs.length≤cur.size):(lay cur o vs).size=cur.size:=yf h
end
end Go.Am
