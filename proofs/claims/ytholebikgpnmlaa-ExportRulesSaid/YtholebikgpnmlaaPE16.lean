/- A part of the proof: a logic for calls over plain values, and the functions that the law reaches, each walked once. -/
import Derived.Test.YtholebikgpnmlaaPE15
set_option linter.unusedVariables false
set_option linter.unusedSimpArgs false
set_option linter.unusedSectionVars false
namespace Go.Am
open Go.Proofs Go.Sort
structure Easy (a:At):Prop where
 org:0≤a.org∧a.org≤2
 path:∃ ls,a.path=[⟨2,ls⟩]∧1≤ls.length∧ls.length≤10
 nxt:goodN a.nxt
 med:a.hm=false→a.med=0
 prf:a.hp=false→a.prf=0
 cml:a.cms.length≤10
 cmi:Inc a.cms
theorem Easy.right {a:At} (h:Easy a):atRight a:=by
 obtain ⟨ls,h1,h2,h3⟩:=h.path
 refine ⟨h.org,⟨fun s hs => ?_,by rw [h1];simp⟩,h.nxt,h.med,h.prf,by have:=h.cml;omega,h.cmi⟩
 rw [h1,List.mem_singleton] at hs
 subst hs
 exact ⟨.inr rfl,h2,by show ls.length≤255;omega⟩
theorem Easy.aok {a:At} (h:Easy a):a.ok:=by
 obtain ⟨ls,h1,h2,h3⟩:=h.path
 refine ⟨by rw [h1];simp,fun s hs => ?_,by have:=h.cml;omega⟩
 rw [h1,List.mem_singleton] at hs
 subst hs
 show ls.length≤1000000
 omega
theorem Easy.enc {a:At} (h:Easy a):(encA a).length≤4068:=by
 obtain ⟨ls,h1,h2,h3⟩:=h.path
 have hc:=h.cml
 have p1:(encPath a.path).length=2+4*ls.length:=by
  rw [h1];simp only [encPath,encSeg,List.flatMap_cons,List.flatMap_nil,List.append_nil,List.length_append,xh,List.length_cons,List.length_nil]
 unfold encA
 simp only [List.length_append]
 have a1:=yf 64 1 [a.org % 256]
 have a2:=yf 64 2 (encPath a.path)
 have a3:=yf 64 3 (b4 a.nxt)
 have a4:(if a.hm then oneA 128 4 (b4 a.med) else []).length≤8:=by split <;> first | exact yf .. | simp
 have a5:(if a.hp then oneA 64 5 (b4 a.prf) else []).length≤8:=by split <;> first | exact yf .. | simp
 have a6:(if a.atm then oneA 64 6 [] else []).length≤4:=by split <;> first | exact yf .. | simp
 have a8:(if a.cms=[] then ([]:List Int) else oneA 192 8 (encW a.cms)).length≤4+4*a.cms.length:=by
  split
  ·simp
  ·have:=yf 192 8 (encW a.cms);rw [xh] at this;exact this
 simp only [List.length_cons,List.length_nil,wl] at *
 omega
theorem Easy.fit {a:At} (h:Easy a):fitT a true:=⟨rfl,h.right,h.enc⟩
theorem Easy.can {a:At} (h:Easy a):canonA a=a:=by
 unfold canonA
 rw [z2w h.cmi]
 cases hm:a.hm <;> cases hp:a.hp
 ·have:=h.med hm;have:=h.prf hp;cases a;simp_all
 ·have:=h.med hm;cases a;simp_all
 ·have:=h.prf hp;cases a;simp_all
 ·cases a;simp_all
theorem uw (a:At) (x:Int) (hn:0≤a.nxt):Easy (tameA a x):=by
 obtain ⟨ls,t1,t2,t3⟩:=z1d a x
 have tc:=z1c (a.cms.take 2)
 rw [List.length_take] at tc
 refine ⟨by simp only [tameA];omega,⟨ls,t1,t2,by omega⟩,(z49 hn).1,fun h => ?_,fun h => ?_,by simp only [tameA];omega,z5t _⟩
 ·simp only [tameA] at *;simp [h]
 ·simp only [tameA] at *;simp [h]
def openT (c:Cfg) (p:Peer) (a:At):At:=if innerA c p then { a with hp:=true,prf:=if a.hp then a.prf else 100 } else { a with path:=preA c.asn 1 a.path,nxt:=c.id,hm:=false,med:=0,hp:=false,prf:=0 }
theorem z13 {c:Cfg} {p:Peer} {a:At} (h:Easy a) (hl:∀ ls,a.path=[⟨2,ls⟩]→ls.length≤9) (hg:goodN c.id):Easy (openT c p a):=by
 obtain ⟨ls,h1,h2,h3⟩:=h.path
 have h9:=hl ls h1
 unfold openT
 split
 ·exact ⟨h.org,⟨ls,h1,h2,h3⟩,h.nxt,h.med,(fun e=>by cases e),h.cml,h.cmi⟩
 ·obtain ⟨l2,p1,p2⟩:=z8q c.asn 1 (by omega) ls (by omega)
  refine ⟨h.org,⟨l2,by simp only [h1];exact p1,by omega,by omega⟩,hg,fun _=>rfl,fun _=>rfl,h.cml,h.cmi⟩
theorem z1e {c:Cfg} {k:Nat} (hk:k<c.ps.length) {q:Int×Int} {b:PathR} (h0:chkA c=0) (hq:rightF q.1 q.2=true) (h:Easy b.a) (hl:∀ ls,b.a.path=[⟨2,ls⟩]→ls.length≤9) (hg:goodN c.id) (ho:c.ps[k].out=[]) (hh:hiddenA c k c.ps[k] b=false):toldA c k q b=(openT c c.ps[k] b.a,true):=by
 have hs:startT c c.ps[k] b.a=openT c c.ps[k] b.a:=by unfold startT openT;rw [h.can]
 have he:=z13 (c:=c) (p:=c.ps[k]) h hl hg
 unfold toldA
 rw [if_pos ⟨h0,by omega⟩,Int.toNat_natCast,List.getElem?_eq_getElem hk]
 simp only
 rw [if_pos ⟨hq,h.right,hh⟩,hs]
 unfold tailT
 rw [ho]
 have ha:applyA [] c.asn q (openT c c.ps[k] b.a)=(openT c c.ps[k] b.a,true):=by unfold applyA;rw [List.find?_nil];simp only;rw [he.can]
 rw [ha]
 have hlast:lastT c c.ps[k] (openT c c.ps[k] b.a)=openT c c.ps[k] b.a:=by
  unfold lastT openT
  split <;> rfl
 simp only
 rw [hlast,if_pos he.fit]
theorem z2p {c:Cfg} {k:Nat} (hk:k<c.ps.length) {q:Int×Int} {b:PathR} (hh:hiddenA c k c.ps[k] b=true):toldA c k q b=(zeroAt,false):=by
 unfold toldA
 split
 ·rw [Int.toNat_natCast,List.getElem?_eq_getElem hk]
  simp only
  rw [if_neg (fun h=>by rw [hh] at h;cases h.2.2)]
 ·rfl
theorem z35 (r:Rule) (z:Bool):(ruleK r z).ad=(prefixF r.ad r.ln).1∧(ruleK r z).ln=(prefixF r.ad r.ln).2∧(((ruleK r z).fr=0∧(ruleK r z).tl=32)∨((ruleK r z).fr=9∧(ruleK r z).tl=12))∧((ruleK r z).sp=true∨(ruleK r z).pf=0)∧((ruleK r z).sm=true∨(ruleK r z).md=0):=by
 have kA:∀ x:Rule,x=ruleB r (ruleA r z)→x.ad=(prefixF r.ad r.ln).1∧x.ln=(prefixF r.ad r.ln).2∧((x.fr=0∧x.tl=32)∨(x.fr=9∧x.tl=12))∧x.sp=r.sp∧x.sm=r.sm∧x.pf=0∧x.md=0:=by
  rintro x rfl
  unfold ruleB
  split
  ·exact ⟨rfl,rfl,.inr ⟨rfl,rfl⟩,rfl,rfl,rfl,rfl⟩
  ·exact ⟨rfl,rfl,.inl ⟨rfl,rfl⟩,rfl,rfl,rfl,rfl⟩
 unfold ruleK
 generalize ruleB r (ruleA r z)=x at kA
 obtain ⟨h1,h2,h3,h4,h5,h6,h7⟩:=kA x rfl
 unfold ruleE ruleD ruleC
 cases hs:r.sp <;> cases hm:r.sm <;> simp only [hs,hm] at h4 h5 <;> simp only [Bool.false_eq_true,if_false,if_true] <;> split <;> exact ⟨h1,h2,h3,by simp [h4,h6],by simp [h5,h7]⟩
theorem z74 (r:Rule) (z:Bool):ruleOk (ruleK r z)=true:=by
 have hp:=z0a (bitInt .or .u32 167772160 (shlInt .u32 (Int.tmod r.ad 64) 18)) (8+r.ln % 7)
 change rightF (prefixF r.ad r.ln).1 (prefixF r.ad r.ln).2=true at hp
 obtain ⟨h1,h2,h3,h4,h5⟩:=z35 r z
 obtain ⟨h6,h7⟩:=z75 r z
 rw [←h1,←h2] at hp
 generalize ruleK r z=x at *
 unfold ruleOk
 rw [hp]
 simp only [Bool.true_and,Bool.and_eq_true,Bool.or_eq_true,decide_eq_true_eq]
 exact ⟨by omega,by omega,by omega,h6,by omega,h4,h5⟩
theorem z15 (rs:List Rule):rulesOk (rulesK rs)=true:=by
 have:=z4e rs
 unfold rulesOk
 rw [Bool.and_eq_true]
 refine ⟨by simp;omega,List.all_eq_true.2 fun x hx => ?_⟩
 unfold rulesK at hx
 rw [List.mem_mapIdx] at hx
 obtain ⟨i,hi,rfl⟩:=hx
 exact z74 _ _
end Go.Am
namespace Go.Am
open Go.Proofs Go.Sort
theorem z53 (l:List Peer):distA l=true↔l.Pairwise (fun p q=>q.ad≠p.ad):=by
 induction l with
 | nil=>simp [distA]
 | cons p r ih=>simp only [distA,Bool.and_eq_true,List.all_eq_true,decide_eq_true_eq,List.pairwise_cons,ih]
structure Kept (c:Cfg):Prop where
 asn:c.asn=65000
 id:c.id=16843009
 hold:c.hold=90
 wd:1≤c.wd∧c.wd≤8
 dp:1≤c.dp∧c.dp≤8
 rm:c.rm=300
 len:1≤c.ps.length∧c.ps.length≤4
 ps:∀ i (h:i<c.ps.length),(1≤c.ps[i].asn∧c.ps[i].asn≤65535)∧c.ps[i].ad=33686017+i∧rulesOk c.ps[i].inn=true∧rulesOk c.ps[i].out=true
theorem Kept.good {c:Cfg} (h:Kept c):goodN c.id:=by rw [h.id];decide
theorem Kept.chk {c:Cfg} (h:Kept c):chkA c=0:=by
 have hl:=h.len
 have hw:=h.wd
 have hd:=h.dp
 unfold chkA
 rw [if_neg,if_neg,if_pos]
 ·unfold peersA
  rw [Bool.and_eq_true]
  refine ⟨List.all_eq_true.2 fun p hp => ?_,(z53 _).2 (List.pairwise_iff_getElem.2 fun i j hi hj hij => ?_)⟩
  ·obtain ⟨i,hi,rfl⟩:=List.getElem_of_mem hp
   obtain ⟨h1,h2,h3,h4⟩:=h.ps i hi
   have hg:goodN c.ps[i].ad:=by rw [h2];unfold goodN;omega
   unfold peerOk
   rw [h3,h4]
   simp [h1.1,h1.2,hg]
  ·rw [(h.ps i hi).2.1,(h.ps j hj).2.1];omega
 ·exact fun x=>x ⟨hl.1,hl.2⟩
 ·refine fun x=>x ⟨by rw [h.asn];omega,h.good,by rw [h.hold];omega,by rw [h.hold];omega,hw,hd,by rw [h.rm];omega⟩
theorem Kept.fit {c:Cfg} (h:Kept c):∀ p ∈ c.ps,p.fit:=fun p hp=>by
 obtain ⟨i,hi,rfl⟩:=List.getElem_of_mem hp
 obtain ⟨_,_,h3,h4⟩:=h.ps i hi
 unfold rulesOk at h3 h4
 rw [Bool.and_eq_true,decide_eq_true_eq] at h3 h4
 exact ⟨by omega,by omega⟩
theorem z51 (n:Nat):1≤countK n∧countK n≤4:=by unfold countK;omega
theorem va (c:Cfg):Kept (configK c):=by
 have hl:(configK c).ps.length=countK c.ps.length:=by simp [configK]
 have hc:=z51 c.ps.length
 refine ⟨rfl,rfl,rfl,by show 1≤1+c.wd % 4∧1+c.wd % 4≤8;omega,by show 1≤1+c.dp % 4∧1+c.dp % 4≤8;omega,rfl,by rw [hl];exact hc,fun i hi => ?_⟩
 rw [hl] at hi
 have e:(configK c).ps[i]'(by rw [hl];exact hi)=peerK c.ps i:=by simp [configK]
 rw [e]
 unfold peerK
 split
 ·exact ⟨by constructor <;> simp only <;> omega,rfl,rfl,rfl⟩
 ·exact ⟨by constructor <;> simp only <;> split <;> omega,rfl,z15 _,z15 _⟩
def Peer.open (p:Peer):Peer:={ p with out:=[] }
def openK (c:Cfg):Cfg:={ configK c with ps:=(configK c).ps.map Peer.open }
theorem z59 (c:Cfg):Kept (openK c):=by
 have h:=va c
 have hl:(openK c).ps.length=(configK c).ps.length:=by simp [openK]
 refine ⟨h.asn,h.id,h.hold,h.wd,h.dp,h.rm,by rw [hl];exact h.len,fun i hi => ?_⟩
 rw [hl] at hi
 obtain ⟨h1,h2,h3,h4⟩:=h.ps i hi
 have e:(openK c).ps[i]'(by rw [hl];exact hi)=Peer.open (configK c).ps[i]:=by simp [openK]
 rw [e]
 exact ⟨h1,h2,h3,rfl⟩
theorem z6z (c:Cfg) (i:Nat) (hi:i<(openK c).ps.length):(openK c).ps[i].out=[]:=by simp [openK,Peer.open]
def P0:Peer:=⟨0,0,[],[]⟩
def cfg0:Cfg:=⟨0,0,0,[P0,P0,P0],0,0,0⟩
def cfg1:Cfg:=⟨65000,16843009,90,[⟨65001,33686017,[],[]⟩,⟨65002,33686018,[],[]⟩,⟨65000,33686019,[],[]⟩,⟨65002,33686020,[],[]⟩],1,1,300⟩
theorem z80:(configK cfg0).ps=[⟨65000,33686017,[],[]⟩,⟨65000,33686018,[],[]⟩,⟨65000,33686019,[],[]⟩,⟨65002,33686020,[],[]⟩]:=rfl
theorem kept_cfg1:Kept cfg1:=by
 refine ⟨rfl,rfl,rfl,by decide,by decide,rfl,by decide,fun i hi => ?_⟩
 have:i=0∨i=1∨i=2∨i=3:=by have:cfg1.ps.length=4:=rfl;omega
 rcases this with rfl | rfl | rfl | rfl <;> exact ⟨by simp [cfg1],rfl,rfl,rfl⟩
def path1:PathR:=⟨0,0,0,false,tameA zeroAt 65001⟩
theorem zcv:toldA cfg1 1 (0,0) path1=(⟨0,[⟨2,[65000,65001]⟩],16843009,false,0,false,0,false,[]⟩,true):=by
 have h:=z1e (c:=cfg1) (k:=1) (by decide) (q:=(0,0)) (b:=path1) kept_cfg1.chk (by decide) (uw zeroAt 65001 (by decide)) (fun ls e=>by
  have:(path1.a.path)=[⟨2,[65001]⟩]:=rfl
  rw [this] at e
  cases e
  decide) kept_cfg1.good rfl (by decide+kernel)
 rw [show ((1:Nat):Int)=1 from rfl] at h
 rw [h]
 rfl
theorem zcu:toldA cfg1 0 (0,0) path1=(zeroAt,false):=z2p (c:=cfg1) (k:=0) (by decide) (by decide+kernel)
end Go.Am
namespace Go.Am.Ts30
open Go.Proofs Go.Am.B
def t39_18:BC:=z [p 18 (.build [(.int .i64 0),.nils,(.int .u32 0),(.bool false),(.int .u32 0),(.bool false),(.int .u32 0),(.bool false),.nils] []) [],g 19 25 [.t 18,.c (.int .u32 65001)],p 20 (.build [(.int .i64 0),(.int .u32 0),(.int .u32 0),(.bool false),(.int .i64 0),.nils,(.int .u32 0),(.bool false),(.int .u32 0),(.bool false),(.int .u32 0),(.bool false),.nils] [(0,1),(4,9)]) [.c (.int .i64 0),.t 19],⟨some 2,none,.alloc (.alloc [(.int .i64 0),(.int .u32 0),(.int .u32 0),(.bool false),(.int .i64 0),.nils,(.int .u32 0),(.bool false),(.int .u32 0),(.bool false),(.int .u32 0),(.bool false),.nils]),[]⟩,s 13 2 20] [1,2] (z [⟨some 22,none,.load (.ld 7 true),[.t 1]⟩,p 23 (.build [(.int .u32 0),(.int .i64 0)] []) [],⟨some 24,none,.load (.ld 13 true),[.t 2]⟩,g 25 38 [.t 22,.c (.int .i64 1),.t 23,.t 24],m 21 25,e 26 0 21,e 27 1 21,⟨some 3,none,.alloc (.alloc [(.int .i64 0),.nils,(.int .u32 0),(.bool false),(.int .u32 0),(.bool false),(.int .u32 0),(.bool false),.nils]),[]⟩,s 9 3 26,m 4 27] [1,2,3,4] (z [⟨some 29,none,.load (.ld 7 true),[.t 1]⟩,p 30 (.build [(.int .u32 0),(.int .i64 0)] []) [],⟨some 31,none,.load (.ld 13 true),[.t 2]⟩,g 32 38 [.t 29,.c (.int .i64 0),.t 30,.t 31],m 28 32,e 33 0 28,e 34 1 28,⟨some 5,none,.alloc (.alloc [(.int .i64 0),.nils,(.int .u32 0),(.bool false),(.int .u32 0),(.bool false),(.int .u32 0),(.bool false),.nils]),[]⟩,s 9 5 33,m 6 34] [1,3,4,6] (z [m 35 4,m 36 35,⟨some 37,some (36,true),.pure (.mov),[.t 6]⟩,⟨some 38,some (36,true),.pure (.not),[.t 37]⟩,⟨some 39,none,.pick,[.t 36,.t 38,.c (.bool false)]⟩,m 40 39,⟨some 41,some (40,true),.pure (.fld 1),[.t 3]⟩,⟨some 42,some (40,true),.load (.ld 1 false),[.t 41]⟩,⟨some 43,some (40,true),.pure (.len),[.t 42]⟩,⟨some 44,some (40,true),.pure (.bin .eql),[.t 43,.c (.int .i64 1)]⟩,⟨some 45,none,.pick,[.t 40,.t 44,.c (.bool false)]⟩,m 46 45,⟨some 47,some (46,true),.pure (.fld 1),[.t 3]⟩,⟨some 48,some (46,true),.load (.ld 1 false),[.t 47]⟩,⟨some 49,some (46,true),.pure (.idx 2),[.t 48,.c (.int .i64 0)]⟩,⟨some 50,some (46,true),.pure (.fld 1),[.t 49]⟩,⟨some 51,some (46,true),.load (.ld 1 false),[.t 50]⟩,⟨some 52,some (46,true),.pure (.idx 1),[.t 51,.c (.int .i64 0)]⟩,⟨some 53,some (46,true),.load (.ld 1 false),[.t 52]⟩,⟨some 54,some (46,true),.pure (.bin .eql),[.t 53,.c (.int .u32 65000)]⟩,⟨some 55,none,.pick,[.t 46,.t 54,.c (.bool false)]⟩,m 56 55,⟨some 57,some (56,true),.pure (.fld 2),[.t 3]⟩,⟨some 58,some (56,true),.load (.ld 1 false),[.t 57]⟩,⟨some 59,some (56,true),.pure (.fld 1),[.t 1]⟩,⟨some 60,some (56,true),.load (.ld 1 false),[.t 59]⟩,⟨some 61,some (56,true),.pure (.bin .eql),[.t 58,.t 60]⟩,⟨some 62,none,.pick,[.t 56,.t 61,.c (.bool false)]⟩,m 0 62] [0] .ret)))
def b39:BC:=z [k 0 (.bool false)] [] (z [⟨some 7,none,.alloc (.make 4 [(.int .u32 0),(.int .u32 0),.nils,.nils] 56),[.c (.int .i64 3),.c (.int .i64 3)]⟩,p 8 (.build [(.int .u32 0),(.int .u32 0),(.int .i64 0),.nils,(.int .i64 0),(.int .i64 0),(.int .i64 0)] [(3,1)]) [.t 7],g 9 37 [.t 8],⟨some 1,none,.alloc (.alloc [(.int .u32 0),(.int .u32 0),(.int .i64 0),.nils,(.int .i64 0),(.int .i64 0),(.int .i64 0)]),[]⟩,s 7 1 9] [1] (.seq (z [f 10 3 1] [1,10] (z [f 12 3 1] [1,10,12] (z [l 11 1 10] [1,11,12] (z [p 14 (.idx 4) [.t 11,.c (.int .i64 0)]] [1,12,14] (z [f 15 0 14] [1,12,15] (.both (z [l 13 1 12] [1,13,15] (z [⟨none,none,.loud (.st 1),[.t 15,.c (.int .u32 65001)]⟩] [1,13] (z [p 16 (.idx 4) [.t 13,.c (.int .i64 1)]] [1,16] (z [f 17 0 16] [1,17] (z [⟨none,none,.loud (.st 1),[.t 17,.c (.int .u32 65002)]⟩] [1] (.ops [] [1])))))) (.both (z [⟨none,none,.loud (.st 1),[.t 15,.c (.int .u32 65001)]⟩] [1,12] (z [l 13 1 12] [1,13] (z [p 16 (.idx 4) [.t 13,.c (.int .i64 1)]] [1,16] (z [f 17 0 16] [1,17] (z [⟨none,none,.loud (.st 1),[.t 17,.c (.int .u32 65002)]⟩] [1] (.ops [] [1])))))) (.top)))))))) t39_18))
def F39:Fn Try.prog 39:=Fn.mkX false b39 [.t 0] 63 Try.f39 _ Try.func39 (by decide) rfl Try.ntmps39 (by kernel_rfl) (by kernel_rfl)
end Go.Am.Ts30
namespace Go.Am
open Go.Proofs Go.Sort
theorem vz {α:Type} {o:Option α} {b:α} {f:α→Prop} (h:o=some b) (hf:f b):wit o f:=by rw [h,yd];exact hf
section
variable {σ:Store} {n rr:Env→Store→Prop} {xx:Nat→Env→Store→Prop}
set_option maxHeartbeats 1000000 in
set_option maxRecDepth 20000 in
theorem z5r {W:Store} {p1 h:Nat} (hs:Store.sub σ W) (W1:W p1=some (.box (cfg1.cV (.os h 4 0 4)))) (Wh:W h=some (.arr 4 (cfg1.ps.map Peer.c))) (hfin:∀ t,Store.sub σ t→rr [(0,.bool true)] t):bwp Try.prog Ts30.t39_18 [(1,.ptr p1 0)] W n rr xx:=by
 simp only [Ts30.t39_18,xe]
 simp only [↓vcPre,↓z8,↓reduceIte,vcPost,vcStd,Nat.reduceEqDiff,reduceCtorEq,Nat.reduceAdd,Nat.reduceLeDiff,Int.reduceLT,Int.reduceLE,↓u_setN]
 have h0:=c25 zeroAt (by unfold I64 zeroAt;decide) 65001 W
 have hk:ACalls Try.prog 25 [.agg zCells,.int .u32 65001] W _:=ACalls.weakArgs h0.1 (WeakL.pos 0 rfl (z0h (WeakL.pure h0)))
 refine hk.Q ?_
 rintro r W ⟨rfl,rfl⟩
 have e9:∀ y:At,y.c.length=9:=fun _=>rfl
 have t9:∀ y:At,List.take 9 y.c=y.c:=fun _=>rfl
 have hz:∀ y:At,splice 0 y.c zCells=some y.c:=fun _=>rfl
 have c7:(cfg1.cV (.os h 4 0 4)).length=7:=rfl
 have t7:List.take 7 (cfg1.cV (.os h 4 0 4))=cfg1.cV (.os h 4 0 4):=rfl
 have b13:path1.c.length=13:=rfl
 have t13:List.take 13 path1.c=path1.c:=rfl
 have pf:AV.int .i64 0 :: .int .u32 0 :: .int .u32 0 :: .bool false::(tameA zeroAt 65001).c=path1.c:=rfl
 have f1:List.take 1 (List.drop 1 (cfg1.cV (.os h 4 0 4)))=[.int .u32 16843009]:=rfl
 simp only [e9,hz,pf,↓vcPre,↓z8,↓reduceIte,vcPost,vcStd,Nat.reduceEqDiff,reduceCtorEq,Nat.reduceAdd,Nat.reduceLeDiff,Int.reduceLT,Int.reduceLE,↓u_setN]
 refine AllocQ.i0 fun p2 h2 => ?_
 simp only [↓vcPre,↓z8,↓reduceIte,vcPost,vcStd,Nat.reduceEqDiff,reduceCtorEq,Nat.reduceAdd,Nat.reduceLeDiff,Int.reduceLT,Int.reduceLE,↓u_setN]
 refine ⟨b13,?_⟩
 rw [show splice 0 path1.c (AV.int .i64 0::AV.int .u32 0::AV.int .u32 0::AV.bool false::zCells)=some path1.c from rfl,yd]
 have n12:¬ p1=p2:=fun e=>by subst e;rw [W1] at h2;cases h2
 have sU:Store.sub W ((W.set p2 (.box (AV.int .i64 0::AV.int .u32 0::AV.int .u32 0::AV.bool false::zCells))).set p2 (.box path1.c)):=zd (Store.sub_set _ _ _ h2) h2
 have U2:=Store.set_same (W.set p2 (.box (AV.int .i64 0::AV.int .u32 0::AV.int .u32 0::AV.bool false::zCells))) p2 (.box path1.c)
 generalize (W.set p2 (.box (AV.int .i64 0::AV.int .u32 0::AV.int .u32 0::AV.bool false::zCells))).set p2 (.box path1.c)=U at sU U2 ⊢
 have U1:=sU _ _ W1
 have Uh:=sU _ _ Wh
 have sσU:=Store.sub_trans hs sU
 clear W1 Wh h0 hk hs sU
 have hr:=Rd.os (esz:=4) Uh
 have told:∀ (t:Store) (k:Int),Store.sub U t→ACalls Try.prog 38 [.agg (cfg1.cV (.os h 4 0 4)),.int .i64 k,.agg [.int .u32 0,.int .i64 0],.agg path1.c] t (fun r s=>s=t∧r = .tup [.agg (toldA cfg1 k (0,0) path1).1.c,.bool (toldA cfg1 k (0,0) path1).2]):=fun t k ht =>
  s38 cfg1 kept_cfg1.fit k (0,0) path1 (uw zeroAt 65001 (by decide)).aok (hr.mono ht)
 simp only [U1,U2,c7,t7,b13,t13,↓vcPre,↓z8,↓reduceIte,vcPost,vcStd,Nat.reduceEqDiff,reduceCtorEq,Nat.reduceAdd,Nat.reduceLeDiff,Int.reduceLT,Int.reduceLE,↓u_setN]
 refine (told U 1 (Store.sub_refl _)).Q ?_
 rw [zcv]
 rintro r U' ⟨rfl,rfl⟩
 generalize hX:(⟨0,[⟨2,[65000,65001]⟩],16843009,false,0,false,0,false,[]⟩:At)=X
 have X1:List.take 1 (List.drop 1 X.c)=[.sl 2 [[.int .i64 2,.sl 1 [[.int .u32 65000],[.int .u32 65001]]]]]:=by rw [←hX];rfl
 have X2:List.take 1 (List.drop 2 X.c)=[.int .u32 16843009]:=by rw [←hX];rfl
 clear hX
 simp only [e9,t9,hz,↓vcPre,↓z8,↓reduceIte,vcPost,vcStd,Nat.reduceEqDiff,reduceCtorEq,Nat.reduceAdd,Nat.reduceLeDiff,Int.reduceLT,Int.reduceLE,↓u_setN]
 refine AllocQ.i0 fun p3 h3 => ?_
 simp only [hz,e9,↓vcPre,↓z8,↓reduceIte,vcPost,vcStd,Nat.reduceEqDiff,reduceCtorEq,Nat.reduceAdd,Nat.reduceLeDiff,Int.reduceLT,Int.reduceLE,↓u_setN]
 have n13:¬ p1=p3:=fun e=>by subst e;rw [U1] at h3;cases h3
 have sV:Store.sub U' ((U'.set p3 (.box zCells)).set p3 (.box X.c)):=zd (Store.sub_set _ _ _ h3) h3
 have V3:=Store.set_same (U'.set p3 (.box zCells)) p3 (.box X.c)
 generalize (U'.set p3 (.box zCells)).set p3 (.box X.c)=V at sV V3 ⊢
 have V1:=sV _ _ U1
 have V2:=sV _ _ U2
 have sσV:=Store.sub_trans sσU sV
 simp only [V1,V2,c7,t7,b13,t13,↓vcPre,↓z8,↓reduceIte,vcPost,vcStd,Nat.reduceEqDiff,reduceCtorEq,Nat.reduceAdd,Nat.reduceLeDiff,Int.reduceLT,Int.reduceLE,↓u_setN]
 refine (told V 0 sV).Q ?_
 rw [zcu]
 rintro r V' ⟨rfl,rfl⟩
 have zt:∀ w:List AV,w=zCells→splice 0 zeroAt.c w=some zeroAt.c:=fun w e=>by subst e;rfl
 simp only [e9,t9,hz,↓vcPre,↓z8,↓reduceIte,vcPost,vcStd,Nat.reduceEqDiff,reduceCtorEq,Nat.reduceAdd,Nat.reduceLeDiff,Int.reduceLT,Int.reduceLE,↓u_setN]
 refine AllocQ.i0 fun p5 h5 => ?_
 simp only [hz,e9,↓vcPre,↓z8,↓reduceIte,vcPost,vcStd,Nat.reduceEqDiff,reduceCtorEq,Nat.reduceAdd,Nat.reduceLeDiff,Int.reduceLT,Int.reduceLE,↓u_setN]
 have sY:Store.sub V' ((V'.set p5 (.box zCells)).set p5 (.box zeroAt.c)):=zd (Store.sub_set _ _ _ h5) h5
 generalize (V'.set p5 (.box zCells)).set p5 (.box zeroAt.c)=Y at sY ⊢
 have Y1:=sY _ _ V1
 have Y3:=sY _ _ V3
 simp only [Y1,Y3,X1,X2,e9,c7,f1,↓vcPre,↓z8,↓reduceIte,vcPost,vcStd,Nat.reduceEqDiff,reduceCtorEq,Nat.reduceAdd,Nat.reduceLeDiff,Int.reduceLT,Int.reduceLE,↓u_setN]
 refine ⟨fun _=>⟨by decide,by decide,vz (b := .sl 1 [[.int .u32 65000],[.int .u32 65001]]) rfl (vz (b := .ep [.int .u32 65000]) rfl ?_)⟩,fun h=>absurd rfl h⟩
 simp only [↓vcPre,↓z8,↓reduceIte,vcPost,vcStd,Nat.reduceEqDiff,reduceCtorEq,Nat.reduceAdd,Nat.reduceLeDiff,Int.reduceLT,Int.reduceLE,↓u_setN]
 exact hfin _ (Store.sub_trans sσV sY)
end
set_option maxHeartbeats 1000000 in
set_option maxRecDepth 20000 in
theorem c39:Pur Try.prog 39 [] (.bool true):=by
 refine zq Ts30.F39 (by simp [Ts30.F39,Fn.mkX]) fun σ => ?_
 simp only [Ts30.F39,Fn.mkX,Ts30.b39]
 simp only [↓vcPre,↓z8,↓reduceIte,vcPost,vcStd,Nat.reduceEqDiff,reduceCtorEq,Nat.reduceAdd,Nat.reduceLeDiff,Int.reduceLT,Int.reduceLE,↓u_setN]
 refine ⟨by decide,AllocQ.i0 fun g hg => ?_⟩
 simp only [↓vcPre,↓z8,↓reduceIte,vcPost,vcStd,Nat.reduceEqDiff,reduceCtorEq,Nat.reduceAdd,Nat.reduceLeDiff,Int.reduceLT,Int.reduceLE,↓u_setN]
 have imp:Rels ImpL (List.replicate 3 [AV.int .u32 0,.int .u32 0,.nils,.nils]) (cfg0.ps.map Peer.c):=by
  have e:ImpL [AV.int .u32 0,.int .u32 0,.nils,.nils] P0.c := .cons (.refl rfl) (.cons (.refl rfl) (.cons .nils (.cons .nils .nil)))
  exact .cons e (.cons e (.cons e .nil))
 have sU:Store.sub σ ((σ.set g (.arr 4 (List.replicate 3 [AV.int .u32 0,.int .u32 0,.nils,.nils]))).set g (.arr 4 (cfg0.ps.map Peer.c))):=zd (Store.sub_set _ _ _ hg) hg
 have hcall:=zap (σ:=(σ.set g (.arr 4 (List.replicate 3 [AV.int .u32 0,.int .u32 0,.nils,.nils]))).set g (.arr 4 (cfg0.ps.map Peer.c))) cfg0 ⟨by unfold I64 cfg0;decide,by unfold I64 cfg0;decide,by unfold Small cfg0;decide,fun p hp=>by
  have:p=P0:=by simp [cfg0] at hp;exact hp
  subst this
  exact ⟨by simp [P0],by simp [P0]⟩⟩ (lv := .os g 4 0 3) (Rd.os (Store.set_same _ _ _))
 have hcall2:=ACalls.weakArgs (σ:=σ.set g (.arr 4 (List.replicate 3 [AV.int .u32 0,.int .u32 0,.nils,.nils]))) hcall.1 (WeakL.arrImp g (Store.set_same _ _ _) imp (WeakL.pure hcall))
 generalize (σ.set g (.arr 4 (List.replicate 3 [AV.int .u32 0,.int .u32 0,.nils,.nils]))).set g (.arr 4 (cfg0.ps.map Peer.c))=U at *
 clear hcall
 refine hcall2.Q ?_
 rintro r T ⟨v,rfl,q1,q2⟩
 rw [z80] at q2
 rcases q2 with ⟨e,_⟩ | ⟨h,rfl,hh,hT⟩
 ·simp at e
 have c7:((configK cfg0).cV (.os h 4 0 4)).length=7:=rfl
 simp only [c7,↓vcPre,↓z8,↓reduceIte,vcPost,vcStd,Nat.reduceEqDiff,reduceCtorEq,Nat.reduceAdd,Nat.reduceLeDiff,Int.reduceLT,Int.reduceLE,↓u_setN]
 refine AllocQ.i0 fun p1 h1' => ?_
 simp only [c7,↓vcPre,↓z8,↓reduceIte,vcPost,vcStd,Nat.reduceEqDiff,reduceCtorEq,Nat.reduceAdd,Nat.reduceLeDiff,Int.reduceLT,Int.reduceLE,↓u_setN]
 have n1h:¬ p1=h:=fun e=>by subst e;rw [hT] at h1';cases h1'
 have hn1:¬ h=p1:=fun e=>n1h e.symm
 have sT:=Store.sub_trans sU q1
 have hz:splice 0 ((configK cfg0).cV (.os h 4 0 4)) [AV.int .u32 0,.int .u32 0,.int .i64 0,.nils,.int .i64 0,.int .i64 0,.int .i64 0]=some ((configK cfg0).cV (.os h 4 0 4)):=rfl
 have f3:List.take 1 (List.drop 3 ((configK cfg0).cV (.os h 4 0 4)))=[.os h 4 0 4]:=rfl
 rw [hz,yd]
 have V1:=Store.set_same (T.set p1 (.box [AV.int .u32 0,.int .u32 0,.int .i64 0,.nils,.int .i64 0,.int .i64 0,.int .i64 0])) p1 (.box ((configK cfg0).cV (.os h 4 0 4)))
 have sV:Store.sub T ((T.set p1 (.box [AV.int .u32 0,.int .u32 0,.int .i64 0,.nils,.int .i64 0,.int .i64 0,.int .i64 0])).set p1 (.box ((configK cfg0).cV (.os h 4 0 4)))):=zd (Store.sub_set _ _ _ h1') h1'
 generalize (T.set p1 (.box [AV.int .u32 0,.int .u32 0,.int .i64 0,.nils,.int .i64 0,.int .i64 0,.int .i64 0])).set p1 (.box ((configK cfg0).cV (.os h 4 0 4)))=V at V1 sV ⊢
 have Vh:=sV _ _ hT
 have hσh:=zm sU hh
 have sσV:=Store.sub_trans sT sV
 have hσ1:=zm sT h1'
 clear hT hz imp hcall2
 simp only [V1,Vh,f3,c7,↓vcPre,↓z8,↓reduceIte,vcPost,vcStd,Nat.reduceEqDiff,reduceCtorEq,Nat.reduceAdd,Nat.reduceLeDiff,Int.reduceLT,Int.reduceLE,↓u_setN]
 have fin:=z5r (n:=fun e τ=>e.get 0=some (AV.bool true)∧σ.sub τ) (rr:=fun e τ=>e.get 0=some (AV.bool true)∧σ.sub τ) (xx:=fun _ _ _=>False) (W:=V.set h (.arr 4 (cfg1.ps.map Peer.c))) (p1:=p1) (h:=h) (zd sσV hσh) (by rw [Store.set_ne _ _ n1h];exact V1) (Store.set_same _ _ _) (fun t ht=>⟨rfl,ht⟩)
 refine ⟨by decide,⟨by decide,vz (b:=(⟨65001,33686017,[],[]⟩:Peer).c) rfl ⟨by decide,by decide,vz (b:=(⟨65002,33686018,[],[]⟩:Peer).c) rfl ?_⟩⟩,⟨by decide,vz (b:=(⟨65001,33686017,[],[]⟩:Peer).c) rfl ?_⟩⟩
 ·rw [Store.set_set]
  exact fin
 ·simp only [Store.set_ne _ _ n1h,V1,f3,c7,↓vcPre,↓z8,↓reduceIte,vcPost,vcStd,Nat.reduceEqDiff,reduceCtorEq,Nat.reduceAdd,Nat.reduceLeDiff,Int.reduceLT,Int.reduceLE,↓u_setN]
  refine ⟨by decide,by decide,vz (b:=(⟨65002,33686018,[],[]⟩:Peer).c) rfl ?_⟩
  rw [Store.set_set]
  exact fin
end Go.Am
namespace Go.Am.Ts27
open Go.Proofs Go.Am.B
def b10:BC:=z [⟨some 4,none,.alloc (.box),[.t 0]⟩,⟨some 6,none,.alloc (.box),[.t 2]⟩,⟨some 7,none,.alloc (.box),[.t 3]⟩,k 8 (.bool false)] [4,6,7] (z [⟨some 23,none,.load (.ld 7 true),[.t 4]⟩,g 24 37 [.t 23],⟨some 9,none,.alloc (.alloc [(.int .u32 0),(.int .u32 0),(.int .i64 0),.nils,(.int .i64 0),(.int .i64 0),(.int .i64 0)]),[]⟩,s 7 9 24] [6,7,9] (.seq (z [j 10 0] [6,7,9,10] (.block 0 (.loop [6,7,9,10] (.seq (z [m 25 10,f 26 3 9,l 27 1 26,u 28 .len 27,b 29 .lss 25 28] [6,7,9,10,29] (.cond (.t 29) .skip (.exit 0))) (.seq (.block 1 (.ops [f 32 3 9,l 33 1 32,m 34 10,x 35 4 33 34,f 36 3 35,⟨none,none,.loud (.st 1),[.t 36,.c .nils]⟩] [6,7,9,10])) (.ops [m 30 10,c 31 .add 30 1,m 10 31] [6,7,9,10])))))) (.seq (.wk 6 (.ops [f 37 0 6,l 38 1 37,f 39 1 6,l 40 1 39,g 41 24 [.t 38,.t 40],⟨some 11,none,.alloc (.alloc [(.int .u32 0),(.int .i64 0)]),[]⟩,s 2 11 41] [7,9,11])) (z [f 42 0 7,⟨none,none,.loud (.st 1),[.t 42,.c (.int .i64 (-1))]⟩] [7,9,11] (z [f 43 3 7,⟨none,none,.loud (.st 1),[.t 43,.c (.bool false)]⟩] [7,9,11] (z [f 44 4 7,⟨some 45,none,.load (.ld 9 true),[.t 44]⟩,g 46 25 [.t 45,.c (.int .u32 65001)],f 47 4 7,s 9 47 46] [7,9,11] (z [f 48 4 7,f 49 8 48,⟨none,none,.loud (.st 1),[.t 49,.c .nils]⟩] [7,9,11] (.seq (.seq (.wk 11 (.ops [j 12 0] [7,9,11,12])) (.block 2 (.loop [7,9,11,12] (.seq (z [m 50 12,f 51 3 9,l 52 1 51,u 53 .len 52,b 54 .lss 50 53] [7,9,11,12,54] (.cond (.t 54) .skip (.exit 2))) (.seq (.block 3 (z [f 57 3 9,m 59 12,f 63 0 9,l 58 1 57,x 60 4 58 59,f 61 0 60,l 62 1 61,l 64 1 63,b 65 .eql 62 64,m 13 65] [7,9,11,12,13] (z [⟨some 67,none,.load (.ld 7 true),[.t 9]⟩,m 68 12,⟨some 69,none,.load (.ld 2 true),[.t 11]⟩,⟨some 70,none,.load (.ld 13 true),[.t 7]⟩,g 71 38 [.t 67,.t 68,.t 69,.t 70],m 66 71,e 72 0 66,e 73 1 66,⟨some 14,none,.alloc (.alloc [(.int .i64 0),.nils,(.int .u32 0),(.bool false),(.int .u32 0),(.bool false),(.int .u32 0),(.bool false),.nils]),[]⟩,s 9 14 72,m 15 73] [7,9,11,12,13,15] (z [⟨some 74,none,.load (.ld 13 true),[.t 7]⟩,⟨some 16,none,.alloc (.alloc [(.int .i64 0),(.int .u32 0),(.int .u32 0),(.bool false),(.int .i64 0),.nils,(.int .u32 0),(.bool false),(.int .u32 0),(.bool false),(.int .u32 0),(.bool false),.nils]),[]⟩,s 13 16 74] [7,9,11,12,13,15,16] (z [⟨some 75,none,.alloc (.mksl 1 1),[.c (.int .u32 4294967041)]⟩,f 76 4 16,f 77 8 76,s 1 77 75] [7,9,11,12,13,15,16] (.seq (.wk 18 (.ops [⟨some 79,none,.load (.ld 7 true),[.t 9]⟩,m 80 12,⟨some 81,none,.load (.ld 2 true),[.t 11]⟩,⟨some 82,none,.load (.ld 13 true),[.t 16]⟩,g 83 38 [.t 79,.t 80,.t 81,.t 82],m 78 83,e 84 0 78,e 85 1 78,⟨some 17,none,.alloc (.alloc [(.int .i64 0),.nils,(.int .u32 0),(.bool false),(.int .u32 0),(.bool false),(.int .u32 0),(.bool false),.nils]),[]⟩,s 9 17 84,m 18 85] [7,9,11,12,13,15,16,18])) (z [⟨some 86,none,.alloc (.mksl 1 2),[.c (.int .u32 5),.c (.int .u32 4294967042)]⟩,f 87 4 16,f 88 8 87,s 1 88 86] [7,9,11,12,13,15,16,18] (.seq (.wk 20 (.ops [⟨some 90,none,.load (.ld 7 true),[.t 9]⟩,m 91 12,⟨some 92,none,.load (.ld 2 true),[.t 11]⟩,⟨some 93,none,.load (.ld 13 true),[.t 16]⟩,g 94 38 [.t 90,.t 91,.t 92,.t 93],m 89 94,e 95 0 89,e 96 1 89,⟨some 19,none,.alloc (.alloc [(.int .i64 0),.nils,(.int .u32 0),(.bool false),(.int .u32 0),(.bool false),(.int .u32 0),(.bool false),.nils]),[]⟩,s 9 19 95,m 20 96] [7,9,11,12,13,15,18,20])) (z [m 97 15,u 98 .not 97,m 99 98,⟨some 100,some (99,false),.pure (.mov),[.t 18]⟩,⟨some 101,some (99,false),.pure (.mov),[.t 13]⟩,⟨some 102,some (99,false),.pure (.eqb true),[.t 100,.t 101]⟩,⟨some 103,none,.pick,[.t 99,.c (.bool true),.t 102]⟩,m 104 103,⟨some 105,some (104,false),.pure (.mov),[.t 20]⟩,⟨some 106,none,.pick,[.t 104,.c (.bool true),.t 105]⟩] [7,9,11,12,106] (.cond (.t 106) (z [k 8 (.bool false)] [8] .ret) .skip)))))))))) (.ops [m 55 12,c 56 .add 55 1,m 12 56] [7,9,11,12])))))) (z [⟨some 108,none,.load (.ld 7 true),[.t 9]⟩,f 109 3 9,l 110 1 109,u 111 .len 110,⟨some 112,none,.load (.ld 2 true),[.t 11]⟩,⟨some 113,none,.load (.ld 13 true),[.t 7]⟩,g 114 38 [.t 108,.t 111,.t 112,.t 113],m 107 114,e 115 0 107,e 116 1 107,⟨some 21,none,.alloc (.alloc [(.int .i64 0),.nils,(.int .u32 0),(.bool false),(.int .u32 0),(.bool false),(.int .u32 0),(.bool false),.nils]),[]⟩,s 9 21 115,m 22 116] [22] (z [m 117 22,u 118 .not 117,m 119 118,⟨some 120,some (119,true),.loud (.call 39),[]⟩,⟨some 121,none,.pick,[.t 119,.t 120,.c (.bool false)]⟩,m 8 121] [8] .ret))))))))))
end Go.Am.Ts27
namespace Go.Am
open Go.Proofs Go.Sort
def Peer.cN (p:Peer):List AV:=[.int .u32 p.asn,.int .u32 p.ad,.sl 12 (p.inn.map Rule.c),.nils]
def openL (ps:List Peer) (k:Nat):List (List AV):=ps.mapIdx fun i p=>if i<k then p.cN else p.c
theorem z5f (ps:List Peer) (k:Nat):(openL ps k).length=ps.length:=by simp [openL]
theorem z4b (ps:List Peer):openL ps 0=ps.map Peer.c:=by
 apply List.ext_getElem
 ·simp [openL]
 ·intro i h1 h2;simp [openL]
theorem z5e (ps:List Peer) (k:Nat) (hk:k<ps.length) (h:k<(openL ps k).length):(openL ps k)[k]=ps[k].c:=by simp [openL]
theorem z5g (ps:List Peer) (k:Nat) (hk:k<ps.length):(openL ps k).set k ps[k].cN=openL ps (k+1):=by
 apply List.ext_getElem
 ·simp [openL]
 ·intro i h1 h2
  rw [List.getElem_set]
  split
  ·rename_i e;subst e;simp [openL]
  ·rename_i e
   simp only [openL,List.getElem_mapIdx]
   by_cases h3:i<k
   ·rw [if_pos h3,if_pos (by omega)]
   ·rw [if_neg h3,if_neg (by omega)]
theorem z2c {α β:Type} {R:α→β→Prop}:∀ {l:List α} {l':List β},l.length=l'.length→(∀ i (h:i<l.length) (h':i<l'.length),R l[i] l'[i])→Rels R l l'
 | [],[],_,_ => .nil
 | [],_::_,h,_=>by simp at h
 | _::_,[],h,_=>by simp at h
 | a::l,b::l',h,hr => .cons (hr 0 (by simp) (by simp)) (z2c (by simpa using h) fun i h1 h2=>by have:=hr (i+1) (by simpa using h1) (by simpa using h2);simpa using this)
theorem z5d (ps:List Peer):Rels ImpL (openL ps ps.length) ((ps.map Peer.open).map Peer.c):=by
 refine z2c (by simp [openL]) fun i h1 h2 => ?_
 have hi:i<ps.length:=by simpa [openL] using h1
 simp only [openL,List.getElem_mapIdx,if_pos hi,List.getElem_map]
 exact .cons (.refl rfl) (.cons (.refl rfl) (.cons (.refl (by simp [AV.flat])) (.cons .nils .nil)))
theorem zen {σ:Store} (c:Cfg) (hc:c.Ok) {lv:AV} (hr:Rd 4 σ (c.ps.map Peer.c) lv) :
 ACalls Try.prog 37 [.agg (c.cV lv)] σ (fun r s=>∃ g,r = .agg ((configK c).cV (.os g 4 0 (configK c).ps.length))∧Store.sub σ s∧σ g=none∧s g=some (.arr 4 ((configK c).ps.map Peer.c))) :=
 (zap c hc hr).mono (by
   rintro r s ⟨v,rfl,h1,h2⟩
   rcases h2 with ⟨e,_⟩ | ⟨g,rfl,h3,h4⟩
   ·have:=(va c).len
    have e2:=congrArg List.length e
    rw [List.length_map,List.length_nil] at e2
    omega
   ·exact ⟨g,by rw [List.length_map],h1,h3,h4⟩)
end Go.Am
namespace Go.Am
open Go.Proofs Go.Sort
theorem z52 (xs:List AV) (h:TOk Try.prog 4 48 xs):∃ rs:List Rule,ImpL xs [.sl 12 (rs.map Rule.c)]∧(∀ r ∈ rs,r.ok):=by
 obtain ⟨rs,hi,_,ho⟩:=TOk.slI (sz:=12) (by_:=72) Try.underlying48 (by kernel_rfl) (by kernel_rfl) Rule.c Rule.ok zca h
 exact ⟨rs,hi,ho⟩
theorem zc9 (xs:List AV) (h:TOk Try.prog 5 76 xs):∃ p:Peer,ImpL xs p.c∧((∀ r ∈ p.inn,r.ok)∧(∀ r ∈ p.out,r.ok)):=by
 obtain ⟨a1,b1,rfl,h1,a2,b2,rfl,h2,a3,b3,rfl,h3,a4,b4,rfl,h4,rfl⟩:=TOk.struct (ts:=[30,30,48,48]) Try.underlying76 rfl h
 obtain ⟨m1,rfl,_,_⟩:=TOk.int Try.underlying30 h1
 obtain ⟨m2,rfl,_,_⟩:=TOk.int Try.underlying30 h2
 obtain ⟨r3,i3,o3⟩:=z52 _ h3
 obtain ⟨r4,i4,o4⟩:=z52 _ h4
 exact ⟨⟨m1,m2,r3,r4⟩,(ImpL.one rfl).append ((ImpL.one rfl).append (i3.append (i4.append .nil))),o3,o4⟩
theorem zed (xs:List AV) (h:TOk Try.prog 7 71 xs):∃ c:Cfg,ImpL xs (c.cV (.sl 4 (c.ps.map Peer.c)))∧c.Ok:=by
 obtain ⟨a1,b1,rfl,h1,a2,b2,rfl,h2,a3,b3,rfl,h3,a4,b4,rfl,h4,a5,b5,rfl,h5,a6,b6,rfl,h6,a7,b7,rfl,h7,rfl⟩:=TOk.struct (ts:=[30,30,3,69,3,3,3]) Try.underlying71 rfl h
 obtain ⟨m1,rfl,_,_⟩:=TOk.int Try.underlying30 h1
 obtain ⟨m2,rfl,_,_⟩:=TOk.int Try.underlying30 h2
 obtain ⟨m3,rfl,_,_⟩:=TOk.int Try.underlying3 h3
 obtain ⟨ps,i4,z4,o4⟩:=TOk.slI (sz:=4) (by_:=56) Try.underlying69 (by kernel_rfl) (by kernel_rfl) Peer.c (fun p=>(∀ r ∈ p.inn,r.ok)∧(∀ r ∈ p.out,r.ok)) zc9 h4
 obtain ⟨m5,rfl,w1,w2⟩:=TOk.int Try.underlying3 h5
 obtain ⟨m6,rfl,d1,d2⟩:=TOk.int Try.underlying3 h6
 obtain ⟨m7,rfl,_,_⟩:=TOk.int Try.underlying3 h7
 exact ⟨⟨m1,m2,m3,ps,m5,m6,m7⟩,(ImpL.one rfl).append ((ImpL.one rfl).append ((ImpL.one rfl).append (i4.append ((ImpL.one rfl).append ((ImpL.one rfl).append ((ImpL.one rfl).append .nil)))))),⟨w1,w2⟩,⟨d1,d2⟩,z78 (by omega) z4,o4⟩
theorem zf4 {w:World} {a:List AV} {v:Array Value} (hr:VRel (G0 w) w (.agg a) (.agg v)) (h:TOk Try.prog 7 71 a):∃ c:Cfg,VRel (G0 w) w (.agg (c.cV (.sl 4 (c.ps.map Peer.c)))) (.agg v)∧c.Ok:=by
 obtain ⟨r,hi,ho⟩:=zed _ h
 exact ⟨r,z3k hi hr,ho⟩
def pfC (q:Int×Int):List AV:=[.int .u32 q.1,.int .i64 q.2]
theorem zf3 {w:World} {a:List AV} {v:Array Value} (hr:VRel (G0 w) w (.agg a) (.agg v)) (h:TOk Try.prog 2 51 a):∃ q:Int×Int,VRel (G0 w) w (.agg (pfC q)) (.agg v)∧I64 q.2:=by
 obtain ⟨p1,q1,rfl,g1,p2,q2,rfl,g2,rfl⟩:=TOk.struct (ts:=[30,3]) Try.underlying51 rfl h
 obtain ⟨m1,rfl,_,_⟩:=TOk.int Try.underlying30 g1
 obtain ⟨m2,rfl,l1,l2⟩:=TOk.int Try.underlying3 g2
 exact ⟨(m1,m2),hr,⟨l1,l2⟩⟩
theorem zf2 {w:World} {a:List AV} {v:Array Value} (hr:VRel (G0 w) w (.agg a) (.agg v)) (h:TOk Try.prog 6 73 a):∃ b:PathR,VRel (G0 w) w (.agg b.c) (.agg v)∧(I64 b.peer∧I64 b.a.org∧okNums b.a):=by
 obtain ⟨a1,b1,rfl,h1,a2,b2,rfl,h2,a3,b3,rfl,h3,a4,b4,rfl,h4,a5,b5,rfl,h5,rfl⟩:=TOk.struct (ts:=[3,30,30,4,33]) Try.underlying73 rfl h
 obtain ⟨m1,rfl,w1,w2⟩:=TOk.int Try.underlying3 h1
 obtain ⟨m2,rfl,_,_⟩:=TOk.int Try.underlying30 h2
 obtain ⟨m3,rfl,_,_⟩:=TOk.int Try.underlying30 h3
 obtain ⟨m4,rfl⟩:=TOk.bool Try.underlying4 h4
 obtain ⟨m5,i5,o5⟩:=dAt _ h5
 refine ⟨⟨m1,m2,m3,m4,m5⟩,z3k ?_ hr,⟨w1,w2⟩,o5⟩
 have:=(ImpL.one (x:=AV.int .i64 m1) rfl).append ((ImpL.one (x:=AV.int .u32 m2) rfl).append ((ImpL.one (x:=AV.int .u32 m3) rfl).append ((ImpL.one (x:=AV.bool m4) rfl).append (i5.append .nil))))
 simpa [PathR.c] using this
end Go.Am
namespace Go.Am.Ts28
open Go.Proofs Go.Am.B
def t9_98:BC := .seq (z [f 98 0 7,l 99 1 98,m 100 1,b 101 .eql 99 100,m 102 101,⟨some 103,some (102,false),.pure (.fld 3),[.t 7]⟩,⟨some 104,some (102,false),.load (.ld 1 false),[.t 103]⟩,⟨some 105,some (102,false),.pure (.mov),[.t 104]⟩,⟨some 106,some (105,true),.pure (.mov),[.t 12]⟩,⟨some 107,some (102,false),.pick,[.t 105,.t 106,.c (.bool false)]⟩,⟨some 108,none,.pick,[.t 102,.c (.bool true),.t 107]⟩] [7,9,12,13,14,108] (.cond (.t 108) (z [m 109 14,u 110 .not 109,m 111 110,⟨some 112,some (111,true),.pure (.fld 2),[.t 13]⟩,⟨some 113,some (111,true),.load (.ld 1 false),[.t 112]⟩,⟨some 114,some (111,true),.pure (.bin .eql),[.t 113,.c (.int .u32 0)]⟩,⟨some 115,none,.pick,[.t 111,.t 114,.c (.bool false)]⟩,m 116 115,⟨some 117,some (116,true),.loud (.call 39),[]⟩,⟨some 118,none,.pick,[.t 116,.t 117,.c (.bool false)]⟩,m 8 118] [8] .ret) .skip)) (.seq (z [m 119 14,u 120 .not 119] [7,9,12,13,120] (.cond (.t 120) (z [f 121 4 7,f 122 8 121,l 123 1 122,u 124 .len 123,c 125 .gtr 124 0,m 126 125,⟨some 127,some (126,true),.loud (.call 39),[]⟩,⟨some 128,none,.pick,[.t 126,.t 127,.c (.bool false)]⟩,m 8 128] [8] .ret) .skip)) (.seq (z [⟨some 129,none,.load (.ld 9 true),[.t 13]⟩,g 130 40 [.t 129],u 131 .not 130,m 132 131,⟨some 133,some (132,false),.pure (.fld 0),[.t 13]⟩,⟨some 134,some (132,false),.load (.ld 1 false),[.t 133]⟩,⟨some 135,some (132,false),.pure (.fld 4),[.t 7]⟩,⟨some 136,some (132,false),.pure (.fld 0),[.t 135]⟩,⟨some 137,some (132,false),.load (.ld 1 false),[.t 136]⟩,⟨some 138,some (132,false),.pure (.bin .neq),[.t 134,.t 137]⟩,⟨some 139,none,.pick,[.t 132,.c (.bool true),.t 138]⟩,m 140 139,⟨some 141,some (140,false),.pure (.fld 8),[.t 13]⟩,⟨some 142,some (140,false),.load (.ld 1 false),[.t 141]⟩,⟨some 143,some (140,false),.pure (.len),[.t 142]⟩,⟨some 144,some (140,false),.pure (.fld 4),[.t 7]⟩,⟨some 145,some (140,false),.pure (.fld 8),[.t 144]⟩,⟨some 146,some (140,false),.load (.ld 1 false),[.t 145]⟩,⟨some 147,some (140,false),.pure (.len),[.t 146]⟩,⟨some 148,some (140,false),.pure (.bin .neq),[.t 143,.t 147]⟩,⟨some 149,none,.pick,[.t 140,.c (.bool true),.t 148]⟩] [7,9,12,13,149] (.cond (.t 149) (z [k 8 (.bool false)] [8] .ret) .skip)) (.seq (z [m 150 12] [7,9,13,150] (.cond (.t 150) (z [f 151 5 13,l 152 1 151,m 153 152,⟨some 154,some (153,true),.pure (.fld 2),[.t 13]⟩,⟨some 155,some (153,true),.load (.ld 1 false),[.t 154]⟩,⟨some 156,some (153,true),.pure (.fld 4),[.t 7]⟩,⟨some 157,some (153,true),.pure (.fld 2),[.t 156]⟩,⟨some 158,some (153,true),.load (.ld 1 false),[.t 157]⟩,⟨some 159,some (153,true),.pure (.bin .eql),[.t 155,.t 158]⟩,⟨some 160,none,.pick,[.t 153,.t 159,.c (.bool false)]⟩,m 161 160,⟨some 162,some (161,true),.pure (.fld 1),[.t 13]⟩,⟨some 163,some (161,true),.load (.ld 1 false),[.t 162]⟩,⟨some 164,some (161,true),.pure (.fld 4),[.t 7]⟩,⟨some 165,some (161,true),.pure (.fld 1),[.t 164]⟩,⟨some 166,some (161,true),.load (.ld 1 false),[.t 165]⟩,⟨some 167,some (161,true),.loud (.call 32),[.t 163,.t 166]⟩,⟨some 168,some (161,true),.pure (.bin .eql),[.t 167,.c (.int .i64 0)]⟩,⟨some 169,none,.pick,[.t 161,.t 168,.c (.bool false)]⟩,m 170 169,⟨some 171,some (170,true),.pure (.fld 3),[.t 13]⟩,⟨some 172,some (170,true),.load (.ld 1 false),[.t 171]⟩,⟨some 173,some (170,true),.pure (.fld 4),[.t 7]⟩,⟨some 174,some (170,true),.pure (.fld 3),[.t 173]⟩,⟨some 175,some (170,true),.load (.ld 1 false),[.t 174]⟩,⟨some 176,some (170,true),.pure (.eqb false),[.t 172,.t 175]⟩,⟨some 177,none,.pick,[.t 170,.t 176,.c (.bool false)]⟩,m 178 177,⟨some 179,some (178,true),.loud (.call 39),[]⟩,⟨some 180,none,.pick,[.t 178,.t 179,.c (.bool false)]⟩,m 8 180] [8] .ret) .skip)) (z [f 182 1 13,l 183 1 182,g 184 41 [.t 183],m 181 184,e 185 0 181,e 186 1 181,m 15 185,m 16 186] [7,9,13,15,16] (z [m 187 16,m 188 187,⟨some 189,some (188,true),.pure (.mov),[.t 15]⟩,⟨some 190,some (188,true),.pure (.fld 0),[.t 9]⟩,⟨some 191,some (188,true),.load (.ld 1 false),[.t 190]⟩,⟨some 192,some (188,true),.pure (.bin .eql),[.t 189,.t 191]⟩,⟨some 193,none,.pick,[.t 188,.t 192,.c (.bool false)]⟩,m 194 193,⟨some 195,some (194,true),.pure (.fld 1),[.t 13]⟩,⟨some 198,some (194,true),.pure (.fld 4),[.t 7]⟩,⟨some 199,some (194,true),.pure (.fld 1),[.t 198]⟩,⟨some 196,some (194,true),.load (.ld 1 false),[.t 195]⟩,⟨some 200,some (194,true),.load (.ld 1 false),[.t 199]⟩,⟨some 197,some (194,true),.qcall 29,[.t 196]⟩,⟨some 201,some (194,true),.qcall 29,[.t 200]⟩,⟨some 202,some (194,true),.pure (.bin .add),[.t 201,.c (.int .i64 1)]⟩,⟨some 203,some (194,true),.pure (.bin .eql),[.t 197,.t 202]⟩,⟨some 204,none,.pick,[.t 194,.t 203,.c (.bool false)]⟩,m 205 204,⟨some 206,some (205,true),.pure (.fld 2),[.t 13]⟩,⟨some 208,some (205,true),.pure (.fld 1),[.t 9]⟩,⟨some 207,some (205,true),.load (.ld 1 false),[.t 206]⟩,⟨some 209,some (205,true),.load (.ld 1 false),[.t 208]⟩,⟨some 210,some (205,true),.pure (.bin .eql),[.t 207,.t 209]⟩,⟨some 211,none,.pick,[.t 205,.t 210,.c (.bool false)]⟩,m 212 211,⟨some 213,some (212,true),.pure (.fld 3),[.t 13]⟩,⟨some 214,some (212,true),.load (.ld 1 false),[.t 213]⟩,⟨some 215,some (212,true),.pure (.not),[.t 214]⟩,⟨some 216,none,.pick,[.t 212,.t 215,.c (.bool false)]⟩,m 217 216,⟨some 218,some (217,true),.pure (.fld 5),[.t 13]⟩,⟨some 219,some (217,true),.load (.ld 1 false),[.t 218]⟩,⟨some 220,some (217,true),.pure (.not),[.t 219]⟩,⟨some 221,none,.pick,[.t 217,.t 220,.c (.bool false)]⟩,m 222 221,⟨some 223,some (222,true),.qcall 39,[]⟩,⟨some 224,none,.pick,[.t 222,.t 223,.c (.bool false)]⟩,m 8 224] [8] .ret)))))
def t9_50:BC:=z [f 50 0 7,l 51 1 50,m 52 11,b 53 .rem 51 52,f 54 0 7,s 1 54 53] [1,6,7,9] (z [f 55 3 9,f 57 0 7,f 62 0 9,l 56 1 55,l 58 1 57,x 59 4 56 58,f 60 0 59,l 61 1 60,l 63 1 62,b 64 .eql 61 63,f 65 3 7,s 1 65 64] [1,6,7,9] (z [f 66 4 7,f 68 3 9,f 70 0 7,⟨some 67,none,.load (.ld 9 true),[.t 66]⟩,l 69 1 68,l 71 1 70,x 72 4 69 71,f 73 0 72,l 74 1 73,g 75 25 [.t 67,.t 74],f 76 4 7,s 9 76 75] [1,6,7,9] (z [f 77 3 9,m 79 1,f 83 0 9,l 78 1 77,x 80 4 78 79,f 81 0 80,l 82 1 81,l 84 1 83,b 85 .eql 82 84,m 12 85] [1,6,7,9,12] (z [m 88 1,f 89 0 6,f 91 1 6,⟨some 87,none,.load (.ld 7 true),[.t 9]⟩,l 90 1 89,l 92 1 91,⟨some 94,none,.load (.ld 13 true),[.t 7]⟩,⟨some 93,none,.qcall 24,[.t 90,.t 92]⟩,⟨some 95,none,.qcall 38,[.t 87,.t 88,.t 93,.t 94]⟩,m 86 95,e 96 0 86,e 97 1 86,⟨some 13,none,.alloc (.alloc [(.int .i64 0),.nils,(.int .u32 0),(.bool false),(.int .u32 0),(.bool false),(.int .u32 0),(.bool false),.nils]),[]⟩,s 9 13 96,m 14 97] [1,7,9,12,13,14] t9_98))))
def t9_39:BC:=z [m 39 1,m 40 11,b 41 .rem 39 40,m 1 41] [1,6,7,9,11] (.seq (z [f 42 0 7,l 43 1 42,c 44 .lss 43 0] [1,6,7,9,11,44] (.cond (.t 44) (.ops [f 45 0 7,l 46 1 45,c 47 .add 46 1,u 48 .neg 47,f 49 0 7,s 1 49 48] [1,6,7,9,11]) .skip)) t9_50)
def b9:BC:=z [⟨some 4,none,.alloc (.box),[.t 0]⟩,⟨some 6,none,.alloc (.box),[.t 2]⟩,⟨some 7,none,.alloc (.box),[.t 3]⟩,k 8 (.bool false)] [1,4,6,7] (z [⟨some 17,none,.load (.ld 7 true),[.t 4]⟩,g 18 37 [.t 17],⟨some 9,none,.alloc (.alloc [(.int .u32 0),(.int .u32 0),(.int .i64 0),.nils,(.int .i64 0),(.int .i64 0),(.int .i64 0)]),[]⟩,s 7 9 18] [1,6,7,9] (.seq (z [j 10 0] [1,6,7,9,10] (.block 0 (.loop [1,6,7,9,10] (.seq (z [m 19 10,f 20 3 9,l 21 1 20,u 22 .len 21,b 23 .lss 19 22] [1,6,7,9,10,23] (.cond (.t 23) .skip (.exit 0))) (.seq (.block 1 (.ops [f 26 3 9,l 27 1 26,m 28 10,x 29 4 27 28,f 30 3 29,⟨none,none,.loud (.st 1),[.t 30,.c .nils]⟩] [1,6,7,9,10])) (.ops [m 24 10,c 25 .add 24 1,m 10 25] [1,6,7,9,10])))))) (.seq (.wk 6 (.ops [f 31 3 9,l 32 1 31,u 33 .len 32,m 11 33] [1,6,7,9,11])) (.seq (z [m 34 1,c 35 .lss 34 0] [1,6,7,9,11,35] (.cond (.t 35) (.ops [m 36 1,c 37 .add 36 1,u 38 .neg 37,m 1 38] [1,6,7,9,11]) .skip)) t9_39))))
def F9:Fn Try.prog 9:=Fn.mkW false [6] b9 [.t 8] 225 Try.f9 _ Try.func9 (by decide) rfl Try.ntmps9 (by kernel_rfl) (by kernel_rfl)
end Go.Am.Ts28
namespace Go.Am
open Go.Proofs Go.Sort
theorem ze7 (x:Int) (ls:List Int) (hl:ls.length≤1000):Pur Try.prog 41 [.sl 2 [(⟨2,x::ls⟩:Seg).c]] (.tup [.int .u32 x,.bool true]):=by
 refine zq Tst.F41 (by simp [Tst.F41,Fn.mkX]) fun σ => ?_
 simp only [Tst.F41,Fn.mkX,Tst.b41]
 have h:(⟨2,x::ls⟩:Seg).c=[.int .i64 2,.sl 1 ([.int .u32 x]::ls.map cU)]:=rfl
 rw [h]
 have g:∀ hh,([[AV.int .i64 2,.sl 1 ([AV.int .u32 x]::ls.map cU)]]:List (List AV))[Int.toNat 0]'hh=[AV.int .i64 2,.sl 1 ([AV.int .u32 x]::ls.map cU)]:=fun _=>rfl
 have g2:∀ hh,([AV.int .u32 x]::ls.map cU:List (List AV))[Int.toNat 0]'hh=[AV.int .u32 x]:=fun _=>rfl
 simp only [g,g2,↓vcPre,↓z8,↓reduceIte,vcPost,vcStd,Nat.reduceEqDiff,reduceCtorEq,Nat.reduceAdd,Nat.reduceLeDiff,Int.reduceLT,Int.reduceLE,↓u_setN]
 exact ⟨fun _=>⟨by decide,by decide,fun h=>absurd h (by omega),fun _=>⟨by decide,by show 0<ls.length+1;omega⟩⟩,fun h=>absurd h (by decide)⟩
theorem z32 (c:Cfg) (p:Peer) (a:At):(openT c p a).org=a.org∧(openT c p a).cms=a.cms:=by
 unfold openT;split <;> exact ⟨rfl,rfl⟩
section
variable {e:Cfg} {σ:Store} {nn rr:Env→Store→Prop} {xx:Nat→Env→Store→Prop} {p6 p7 p9 g:Nat}
theorem z5q {T:Store} {p13:Nat} (hK:Kept e) (b:PathR) (m j:Nat) (hm:m<e.ps.length) (hj:j<e.ps.length) (hbp:b.peer=(m:Int)) (hbi:b.inr=innerA e e.ps[m]) (hbe:Easy b.a) (hbl:∀ ls,b.a.path=[⟨2,ls⟩]→ls.length≤9) {lv:AV} (T7:T p7=some (.box b.c)) (T9:T p9=some (.box (e.cV lv))) {R:At×Bool} (T13:T p13=some (.box R.1.c))
 (hR:R=if hiddenA e j e.ps[j] b then (zeroAt,false) else (openT e e.ps[j] b.a,true)) (hs:Store.sub σ T) (E:List (Nat×AV)) (hfin:∀ t,Store.sub σ t→rr [(8,.bool true)] t) :
 bwp Try.prog Ts28.t9_98 [(1,.int .i64 (j:Int)),(7,.ptr p7 0),(9,.ptr p9 0),(12,.bool (innerA e e.ps[j])),(13,.ptr p13 0),(14,.bool R.2)] T nn rr xx:=by
 simp only [Ts28.t9_98]
 have c7:∀ v,(e.cV v).length=7:=fun _=>rfl
 have f0:∀ v,List.take 1 (e.cV v)=[.int .u32 e.asn]:=fun _=>rfl
 have f1:∀ v,List.take 1 (List.drop 1 (e.cV v))=[.int .u32 e.id]:=fun _=>rfl
 have c13:∀ b:PathR,b.c.length=13:=fun _=>rfl
 have b0:∀ b:PathR,List.take 1 b.c=[.int .i64 b.peer]:=fun _=>rfl
 have b3:∀ b:PathR,List.take 1 (List.drop 3 b.c)=[.bool b.inr]:=fun _=>rfl
 have b4:∀ b:PathR,List.take 1 (List.drop 4 b.c)=[.int .i64 b.a.org]:=fun _=>rfl
 have b5:∀ b:PathR,List.take 1 (List.drop 5 b.c)=[.sl 2 (b.a.path.map Seg.c)]:=fun _=>rfl
 have b6:∀ b:PathR,List.take 1 (List.drop 6 b.c)=[.int .u32 b.a.nxt]:=fun _=>rfl
 have b7:∀ b:PathR,List.take 1 (List.drop 7 b.c)=[.bool b.a.hm]:=fun _=>rfl
 have b12:∀ b:PathR,List.take 1 (List.drop 12 b.c)=[.sl 1 (b.a.cms.map cU)]:=fun _=>rfl
 have e9:∀ y:At,y.c.length=9:=fun _=>rfl
 have t9:∀ y:At,List.take 9 y.c=y.c:=fun _=>rfl
 have a0:∀ y:At,List.take 1 y.c=[.int .i64 y.org]:=fun _=>rfl
 have a1:∀ y:At,List.take 1 (List.drop 1 y.c)=[.sl 2 (y.path.map Seg.c)]:=fun _=>rfl
 have a2:∀ y:At,List.take 1 (List.drop 2 y.c)=[.int .u32 y.nxt]:=fun _=>rfl
 have a3:∀ y:At,List.take 1 (List.drop 3 y.c)=[.bool y.hm]:=fun _=>rfl
 have a5:∀ y:At,List.take 1 (List.drop 5 y.c)=[.bool y.hp]:=fun _=>rfl
 have a8:∀ y:At,List.take 1 (List.drop 8 y.c)=[.sl 1 (y.cms.map cU)]:=fun _=>rfl
 cases hh:hiddenA e j e.ps[j] b
 ·rw [hh] at hR
  simp only [Bool.false_eq_true,if_false] at hR
  subst hR
  have hhh:=hh
  unfold hiddenA at hh
  simp only [Bool.or_eq_false_iff,decide_eq_false_iff_not] at hh
  have h1:¬ (m:Int)=(j:Int):=by rw [←hbp];exact hh.1
  have h2:=hh.2.1
  rw [hbi] at h2
  have hoe:Easy (openT e e.ps[j] b.a):=z13 hbe hbl hK.good
  obtain ⟨po,pc⟩:=z32 e e.ps[j] b.a
  have hax:=c40 (openT e e.ps[j] b.a) hoe.aok
  rw [decide_eq_true hoe.right] at hax
  simp only [T7,T13,T9,c13,b0,b3,hbp,hbi,e9,t9,↓vcPre,↓z8,↓reduceIte,vcPost,vcStd,Nat.reduceEqDiff,reduceCtorEq,Nat.reduceAdd,Nat.reduceLeDiff,Int.reduceLT,Int.reduceLE,↓u_setN]
  refine ⟨fun _ => ?_,fun h=>absurd h h1⟩
  obtain ⟨l1,hp1,hp2,hp3⟩:=hbe.path
  have hl9:=hbl l1 hp1
  cases hk:innerA e e.ps[j]
  ·have hX:openT e e.ps[j] b.a={ b.a with path:=[⟨2,e.asn::l1⟩],nxt:=e.id,hm:=false,med:=0,hp:=false,prf:=0 }:=by
    unfold openT
    rw [hk,hp1]
    simp only [Bool.false_eq_true,if_false,preA,preA1]
    rw [if_pos (by simp;omega)]
   have hcX:=c29 [⟨2,e.asn::l1⟩] (by simp) (by have:=hoe.aok.2.1;rw [hX] at this;exact this)
   have hcb:=c29 b.a.path hbe.aok.1 hbe.aok.2.1
   have hcnt:(countF [⟨2,e.asn::l1⟩]:Int)=countF b.a.path+1:=by rw [hp1];simp [countF,segL]
   have hcs:countF b.a.path≤100:=by rw [hp1];simp [countF,segL];omega
   have hfX:=ze7 e.asn l1 (by omega)
   have ew:IntKind.i64.wrap ((countF b.a.path:Int)+1)=(countF b.a.path:Int)+1:=zk (by unfold I64;omega)
   generalize openT e e.ps[j] b.a=X at *
   have x1:List.take 1 (List.drop 1 X.c)=[.sl 2 [(⟨2,e.asn::l1⟩:Seg).c]]:=by rw [hX];rfl
   have x2:List.take 1 (List.drop 2 X.c)=[.int .u32 e.id]:=by rw [hX];rfl
   have x3:List.take 1 (List.drop 3 X.c)=[.bool false]:=by rw [hX];rfl
   have x5:List.take 1 (List.drop 5 X.c)=[.bool false]:=by rw [hX];rfl
   clear hX
   cases hi:innerA e e.ps[m]
   all_goals
    simp only [↓vcPre,↓z8,↓reduceIte,vcPost,vcStd,Nat.reduceEqDiff,reduceCtorEq,Nat.reduceAdd,Nat.reduceLeDiff,Int.reduceLT,Int.reduceLE,↓u_setN]
    refine hax.Q ?_
    simp only [T7,T13,T9,c13,e9,t9,a0,a8,b4,b12,po,pc,x1,↓vcPre,↓z8,↓reduceIte,vcPost,vcStd,Nat.reduceEqDiff,reduceCtorEq,Nat.reduceAdd,Nat.reduceLeDiff,Int.reduceLT,Int.reduceLE,↓u_setN]
    refine hfX.Q ?_
    simp only [T7,T13,T9,c13,e9,c7,f0,x1,b5,↓vcPre,↓z8,↓reduceIte,vcPost,vcStd,Nat.reduceEqDiff,reduceCtorEq,Nat.reduceAdd,Nat.reduceLeDiff,Int.reduceLT,Int.reduceLE,↓u_setN]
    refine hcX.Q ?_
    simp only [T7,c13,b5,↓vcPre,↓z8,↓reduceIte,vcPost,vcStd,Nat.reduceEqDiff,reduceCtorEq,Nat.reduceAdd,Nat.reduceLeDiff,Int.reduceLT,Int.reduceLE,↓u_setN]
    refine hcb.Q ?_
    simp only [ew,hcnt,T13,T9,c7,e9,x2,x3,x5,f1,↓vcPre,↓z8,↓reduceIte,vcPost,vcStd,Nat.reduceEqDiff,reduceCtorEq,Nat.reduceAdd,Nat.reduceLeDiff,Int.reduceLT,Int.reduceLE,↓u_setN]
    refine c39.Q ?_
    simp only [↓vcPre,↓z8,↓reduceIte,vcPost,vcStd,Nat.reduceEqDiff,reduceCtorEq,Nat.reduceAdd,Nat.reduceLeDiff,Int.reduceLT,Int.reduceLE,↓u_setN]
    exact hfin _ hs
  ·have hi:innerA e e.ps[m]=false:=by rw [hk] at h2;simpa using h2
   have hX:openT e e.ps[j] b.a={ b.a with hp:=true,prf:=if b.a.hp then b.a.prf else 100 }:=by unfold openT;rw [hk];rfl
   have hox:=c32 b.a.path b.a.path hbe.aok.1 hbe.aok.1 hbe.aok.2.1 hbe.aok.2.1
   rw [cmpPath_z.2 rfl] at hox
   generalize openT e e.ps[j] b.a=X at *
   have x1:List.take 1 (List.drop 1 X.c)=[.sl 2 (b.a.path.map Seg.c)]:=by rw [hX];rfl
   have x2:List.take 1 (List.drop 2 X.c)=[.int .u32 b.a.nxt]:=by rw [hX];rfl
   have x3:List.take 1 (List.drop 3 X.c)=[.bool b.a.hm]:=by rw [hX];rfl
   have x5:List.take 1 (List.drop 5 X.c)=[.bool true]:=by rw [hX];rfl
   clear hX
   rw [hi]
   simp only [↓vcPre,↓z8,↓reduceIte,vcPost,vcStd,Nat.reduceEqDiff,reduceCtorEq,Nat.reduceAdd,Nat.reduceLeDiff,Int.reduceLT,Int.reduceLE,↓u_setN]
   refine hax.Q ?_
   simp only [T7,T13,T9,c13,e9,t9,a0,a8,b4,b12,po,pc,x2,x5,b6,x1,b5,↓vcPre,↓z8,↓reduceIte,vcPost,vcStd,Nat.reduceEqDiff,reduceCtorEq,Nat.reduceAdd,Nat.reduceLeDiff,Int.reduceLT,Int.reduceLE,↓u_setN]
   refine hox.Q ?_
   simp only [T7,T13,c13,e9,x3,b7,↓vcPre,↓z8,↓reduceIte,vcPost,vcStd,Nat.reduceEqDiff,reduceCtorEq,Nat.reduceAdd,Nat.reduceLeDiff,Int.reduceLT,Int.reduceLE,↓u_setN]
   rw [show (b.a.hm ==b.a.hm)=true by simp]
   simp only [↓vcPre,↓z8,↓reduceIte,vcPost,vcStd,Nat.reduceEqDiff,reduceCtorEq,Nat.reduceAdd,Nat.reduceLeDiff,Int.reduceLT,Int.reduceLE,↓u_setN]
   refine c39.Q ?_
   simp only [↓vcPre,↓z8,↓reduceIte,vcPost,vcStd,Nat.reduceEqDiff,reduceCtorEq,Nat.reduceAdd,Nat.reduceLeDiff,Int.reduceLT,Int.reduceLE,↓u_setN]
   exact hfin _ hs
 ·rw [hh] at hR
  simp only [if_true] at hR
  subst hR
  simp only [T7,T13,T9,c13,b0,b3,b12,hbp,hbi,a2,e9,↓vcPre,↓z8,↓reduceIte,vcPost,vcStd,Nat.reduceEqDiff,reduceCtorEq,Nat.reduceAdd,Nat.reduceLeDiff,Int.reduceLT,Int.reduceLE,↓u_setN]
  have hcm:¬ (m:Int)=(j:Int)→¬ (innerA e e.ps[m]=true∧innerA e e.ps[j]=true)→0<(b.a.cms.length:Int):=fun h1 h2=>by
   unfold hiddenA at hh
   rw [hbp,hbi] at hh
   simp only [Bool.or_eq_true,Bool.and_eq_true,decide_eq_true_eq] at hh
   rcases hh with h | h | h | h
   ·exact absurd h h1
   ·exact absurd h h2
   ·have:=List.length_pos_of_mem h;omega
   ·have:=List.length_pos_of_mem h.1;omega
  have z0:zeroAt.nxt=0:=rfl
  refine ⟨fun h1 => ?_,fun h1=>⟨fun _ => ?_,fun h=>absurd z0 h⟩⟩
  ·cases hi:innerA e e.ps[m] <;> cases hk:innerA e e.ps[j]
   ·simp only [↓vcPre,↓z8,↓reduceIte,vcPost,vcStd,Nat.reduceEqDiff,reduceCtorEq,Nat.reduceAdd,Nat.reduceLeDiff,Int.reduceLT,Int.reduceLE,↓u_setN]
    refine ⟨fun _=>c39.Q ?_,fun h=>absurd (hcm h1 (by simp [hi])) h⟩
    simp only [↓vcPre,↓z8,↓reduceIte,vcPost,vcStd,Nat.reduceEqDiff,reduceCtorEq,Nat.reduceAdd,Nat.reduceLeDiff,Int.reduceLT,Int.reduceLE,↓u_setN]
    exact hfin _ hs
   ·simp only [↓vcPre,↓z8,↓reduceIte,vcPost,vcStd,Nat.reduceEqDiff,reduceCtorEq,Nat.reduceAdd,Nat.reduceLeDiff,Int.reduceLT,Int.reduceLE,↓u_setN]
    refine ⟨fun _=>c39.Q ?_,fun h=>absurd (hcm h1 (by simp [hi])) h⟩
    simp only [↓vcPre,↓z8,↓reduceIte,vcPost,vcStd,Nat.reduceEqDiff,reduceCtorEq,Nat.reduceAdd,Nat.reduceLeDiff,Int.reduceLT,Int.reduceLE,↓u_setN]
    exact hfin _ hs
   ·simp only [↓vcPre,↓z8,↓reduceIte,vcPost,vcStd,Nat.reduceEqDiff,reduceCtorEq,Nat.reduceAdd,Nat.reduceLeDiff,Int.reduceLT,Int.reduceLE,↓u_setN]
    refine ⟨fun _=>c39.Q ?_,fun h=>absurd (hcm h1 (by simp [hk])) h⟩
    simp only [↓vcPre,↓z8,↓reduceIte,vcPost,vcStd,Nat.reduceEqDiff,reduceCtorEq,Nat.reduceAdd,Nat.reduceLeDiff,Int.reduceLT,Int.reduceLE,↓u_setN]
    exact hfin _ hs
   ·simp only [↓vcPre,↓z8,↓reduceIte,vcPost,vcStd,Nat.reduceEqDiff,reduceCtorEq,Nat.reduceAdd,Nat.reduceLeDiff,Int.reduceLT,Int.reduceLE,↓u_setN]
    refine ⟨fun _=>c39.Q ?_,fun h=>absurd z0 h⟩
    simp only [↓vcPre,↓z8,↓reduceIte,vcPost,vcStd,Nat.reduceEqDiff,reduceCtorEq,Nat.reduceAdd,Nat.reduceLeDiff,Int.reduceLT,Int.reduceLE,↓u_setN]
    exact hfin _ hs
  ·refine c39.Q ?_
   simp only [↓vcPre,↓z8,↓reduceIte,vcPost,vcStd,Nat.reduceEqDiff,reduceCtorEq,Nat.reduceAdd,Nat.reduceLeDiff,Int.reduceLT,Int.reduceLE,↓u_setN]
   exact hfin _ hs
set_option maxHeartbeats 1000000 in
set_option maxRecDepth 20000 in
theorem z1b {T:Store} (hK:Kept e) (oo:∀ i (hi:i<e.ps.length),e.ps[i].out=[]) (b:PathR) (j:Nat) (hj:j<e.ps.length) (hbp:0≤b.peer∧I64 b.peer) (ho:I64 b.a.org) (hna:0≤b.a.nxt) (x n:Int) (hn:I64 n) (T6:T p6=some (.box [.int .u32 x,.int .i64 n])) (T7:T p7=some (.box b.c)) (T9:T p9=some (.box (e.cV (.os g 4 0 e.ps.length)))) (Tg:T g=some (.arr 4 (e.ps.map Peer.c))) (n97:¬ p9=p7) (n67:¬ p6=p7) (hs:Store.sub σ T) (h7:σ p7=none) (E:List (Nat×AV)) (hfin:∀ t,Store.sub σ t→rr [(8,.bool true)] t) :
 bwp Try.prog Ts28.t9_50 ((1,.int .i64 (j:Int))::(6,.ptr p6 0)::(7,.ptr p7 0)::(9,.ptr p9 0)::(11,.int .i64 (e.ps.length:Int))::E) T nn rr xx:=by
 simp only [Ts28.t9_50,xe]
 have c7:∀ v,(e.cV v).length=7:=fun _=>rfl
 have t7:∀ v,List.take 7 (e.cV v)=e.cV v:=fun _=>rfl
 have f0:∀ v,List.take 1 (e.cV v)=[.int .u32 e.asn]:=fun _=>rfl
 have f3:∀ v,List.take 1 (List.drop 3 (e.cV v))=[v]:=fun _=>rfl
 have c13:∀ b:PathR,b.c.length=13:=fun _=>rfl
 have t13:∀ b:PathR,List.take 13 b.c=b.c:=fun _=>rfl
 have b0:∀ b:PathR,List.take 1 b.c=[.int .i64 b.peer]:=fun _=>rfl
 have b9:∀ b:PathR,List.take 9 (List.drop 4 b.c)=b.a.c:=fun _=>rfl
 have w0:∀ (b:PathR) z,splice 0 [.int .i64 z] b.c=some ({ b with peer:=z }:PathR).c:=fun _ _=>rfl
 have w3:∀ (b:PathR) z,splice 3 [.bool z] b.c=some ({ b with inr:=z }:PathR).c:=fun _ _=>rfl
 have w4:∀ (b:PathR) (a:At),splice 4 a.c b.c=some ({ b with a:=a }:PathR).c:=fun _ _=>rfl
 have e9:∀ y:At,y.c.length=9:=fun _=>rfl
 have t9:∀ y:At,List.take 9 y.c=y.c:=fun _=>rfl
 have hz:∀ y:At,splice 0 y.c zCells=some y.c:=fun _=>rfl
 have hl:=hK.len
 have hlm:(e.ps.map Peer.c).length=e.ps.length:=List.length_map _
 obtain ⟨m,hm,hmr⟩:∃ m:Nat,m<e.ps.length∧Int.tmod b.peer (e.ps.length:Int)=(m:Int):=by
  refine ⟨(b.peer % (e.ps.length:Int)).toNat,?_,?_⟩
  ·have:=Int.emod_lt_of_pos b.peer (b:=(e.ps.length:Int)) (by omega);omega
  ·rw [Int.tmod_eq_emod_of_nonneg hbp.1];have:=Int.emod_nonneg b.peer (b:=(e.ps.length:Int)) (by omega);omega
 have eg:∀ (i:Nat) (hi:i<e.ps.length) h,(List.map Peer.c e.ps)[i]'h=e.ps[i].c:=fun i hi h=>List.getElem_map ..
 have g0:∀ p:Peer,List.take 1 p.c=[.int .u32 p.asn]:=fun _=>rfl
 have g4:∀ p:Peer,p.c.length=4:=fun _=>rfl
 have ng7:¬ g=p7:=fun e=>by subst e;rw [T7] at Tg;cases Tg
 have egm:∀ h,(List.map Peer.c e.ps)[0+m]'h=e.ps[m].c:=fun h=>by
  simp only [Nat.zero_add];exact List.getElem_map ..
 have egj:∀ h,(List.map Peer.c e.ps)[0+j]'h=e.ps[j].c:=fun h=>by
  simp only [Nat.zero_add];exact List.getElem_map ..
 have hm0:(0:Int)≤(m:Int):=by omega
 have hmi:(m:Int)<(e.ps.length:Int):=by omega
 have hji:(j:Int)<(e.ps.length:Int):=by omega
 simp only [T7,c13,b0,hmr,↓vcPre,↓z8,↓reduceIte,vcPost,vcStd,Nat.reduceEqDiff,reduceCtorEq,Nat.reduceAdd,Nat.reduceLeDiff,Int.reduceLT,Int.reduceLE,↓u_setN]
 refine ⟨by omega,?_⟩
 rw [w0,yd]
 simp only [c13,b0,n97,T9,c7,f3,f0,ng7,Tg,hlm,egm,g0,g4,w3,hmi,↓vcPre,↓z8,↓reduceIte,vcPost,vcStd,Nat.reduceEqDiff,reduceCtorEq,Nat.reduceAdd,Nat.reduceLeDiff,Int.reduceLT,Int.reduceLE,↓u_setN]
 refine ⟨by omega,by omega,?_⟩
 rw [b9]
 refine (c25 b.a ho _).Q ?_
 simp only [c13,w4,e9,n97,T9,c7,f3,f0,ng7,Tg,hlm,egj,g0,g4,hji,↓vcPre,↓z8,↓reduceIte,vcPost,vcStd,Nat.reduceEqDiff,reduceCtorEq,Nat.reduceAdd,Nat.reduceLeDiff,Int.reduceLT,Int.reduceLE,↓u_setN]
 refine ⟨by omega,?_⟩
 simp only [Store.set_set]
 have te:=uw b.a e.ps[m].asn hna
 have tl:∀ ls,(tameA b.a e.ps[m].asn).path=[⟨2,ls⟩]→ls.length≤9:=fun ls e1=>by
  obtain ⟨l2,h1,_,h3⟩:=z1d b.a e.ps[m].asn
  rw [e1] at h1
  simp only [List.cons.injEq,Seg.mk.injEq,true_and,and_true] at h1
  subst h1;omega
 have U7:=Store.set_same T p7 (.box (⟨m,b.id,b.addr,decide (e.ps[m].asn=e.asn),tameA b.a e.ps[m].asn⟩:PathR).c)
 have U6:=(Store.set_ne T (.box (⟨m,b.id,b.addr,decide (e.ps[m].asn=e.asn),tameA b.a e.ps[m].asn⟩:PathR).c) n67).trans T6
 have U9:=(Store.set_ne T (.box (⟨m,b.id,b.addr,decide (e.ps[m].asn=e.asn),tameA b.a e.ps[m].asn⟩:PathR).c) n97).trans T9
 have Ug:=(Store.set_ne T (.box (⟨m,b.id,b.addr,decide (e.ps[m].asn=e.asn),tameA b.a e.ps[m].asn⟩:PathR).c) ng7).trans Tg
 have sU:Store.sub σ (T.set p7 (.box (⟨m,b.id,b.addr,decide (e.ps[m].asn=e.asn),tameA b.a e.ps[m].asn⟩:PathR).c)):=zd hs h7
 generalize hU:T.set p7 (.box (⟨m,b.id,b.addr,decide (e.ps[m].asn=e.asn),tameA b.a e.ps[m].asn⟩:PathR).c)=U at U6 U7 U9 Ug sU ⊢
 clear T6 T7 T9 Tg hs
 have hβa:(⟨m,b.id,b.addr,decide (e.ps[m].asn=e.asn),tameA b.a e.ps[m].asn⟩:PathR).a=tameA b.a e.ps[m].asn:=rfl
 have hβi:(⟨m,b.id,b.addr,decide (e.ps[m].asn=e.asn),tameA b.a e.ps[m].asn⟩:PathR).inr=innerA e e.ps[m]:=rfl
 have hβp:(⟨m,b.id,b.addr,decide (e.ps[m].asn=e.asn),tameA b.a e.ps[m].asn⟩:PathR).peer=(m:Int):=rfl
 rw [←hβa] at te tl
 generalize (⟨m,b.id,b.addr,decide (e.ps[m].asn=e.asn),tameA b.a e.ps[m].asn⟩:PathR)=β at *
 simp only [U6,↓vcPre,↓z8,↓reduceIte,vcPost,vcStd,Nat.reduceEqDiff,reduceCtorEq,Nat.reduceAdd,Nat.reduceLeDiff,Int.reduceLT,Int.reduceLE,↓u_setN]
 refine (c24 x n hn).Q ?_
 have hq:rightF (prefixF x n).1 (prefixF x n).2=true:=z0a _ _
 generalize prefixF x n=q at hq ⊢
 have hr:=Rd.os Ug
 rw [hlm] at hr
 have tld:=s38 e hK.fit j q β te.aok hr
 simp only [U9,U7,t7,t13,c7,c13,↓vcPre,↓z8,↓reduceIte,vcPost,vcStd,Nat.reduceEqDiff,reduceCtorEq,Nat.reduceAdd,Nat.reduceLeDiff,Int.reduceLT,Int.reduceLE,↓u_setN]
 refine ⟨by rw [Store.set_set,Store.set_set,hU];exact Store.sub_refl _,tld.Q ?_⟩
 have hR:toldA e j q β=if hiddenA e j e.ps[j] β then (zeroAt,false) else (openT e e.ps[j] β.a,true):=by
  cases hh:hiddenA e j e.ps[j] β
  ·rw [z1e hj hK.chk hq te tl hK.good (oo j hj) hh];rfl
  ·rw [z2p hj hh];rfl
 generalize toldA e (j:Int) q β=R at hR ⊢
 clear hU
 rintro r U ⟨rfl,rfl⟩
 simp only [e9,t9,hz,↓vcPre,↓z8,↓reduceIte,vcPost,vcStd,Nat.reduceEqDiff,reduceCtorEq,Nat.reduceAdd,Nat.reduceLeDiff,Int.reduceLT,Int.reduceLE,↓u_setN]
 refine AllocQ.i0 fun p13 h13 => ?_
 simp only [e9,t9,hz,↓vcPre,↓z8,↓reduceIte,vcPost,vcStd,Nat.reduceEqDiff,reduceCtorEq,Nat.reduceAdd,Nat.reduceLeDiff,Int.reduceLT,Int.reduceLE,↓u_setN]
 have sV:Store.sub U ((U.set p13 (.box zCells)).set p13 (.box R.1.c)):=zd (Store.sub_set _ _ _ h13) h13
 have V13:=Store.set_same (U.set p13 (.box zCells)) p13 (.box R.1.c)
 generalize (U.set p13 (.box zCells)).set p13 (.box R.1.c)=V at sV V13 ⊢
 exact z5q hK β m j hm hj hβp hβi te tl (sV _ _ U7) (sV _ _ U9) V13 hR (Store.sub_trans sU sV) [] hfin
set_option maxHeartbeats 1000000 in
set_option maxRecDepth 20000 in
theorem z1a {T:Store} (hK:Kept e) (oo:∀ i (hi:i<e.ps.length),e.ps[i].out=[]) (b:PathR) (k:Int) (hk:0≤k) (hbp:I64 b.peer) (ho:I64 b.a.org) (hna:0≤b.a.nxt) (x n:Int) (hn:I64 n) (T6:T p6=some (.box [.int .u32 x,.int .i64 n])) (T7:T p7=some (.box b.c)) (T9:T p9=some (.box (e.cV (.os g 4 0 e.ps.length)))) (Tg:T g=some (.arr 4 (e.ps.map Peer.c))) (n97:¬ p9=p7) (n67:¬ p6=p7) (hs:Store.sub σ T) (h7:σ p7=none) (E:List (Nat×AV)) (hfin:∀ t,Store.sub σ t→rr [(8,.bool true)] t) :
 bwp Try.prog Ts28.t9_39 ((1,.int .i64 k)::(6,.ptr p6 0)::(7,.ptr p7 0)::(9,.ptr p9 0)::(11,.int .i64 (e.ps.length:Int))::E) T nn rr xx:=by
 simp only [Ts28.t9_39]
 have c13:∀ b:PathR,b.c.length=13:=fun _=>rfl
 have b0:∀ b:PathR,List.take 1 b.c=[.int .i64 b.peer]:=fun _=>rfl
 have w0:∀ (b:PathR) z,splice 0 [.int .i64 z] b.c=some ({ b with peer:=z }:PathR).c:=fun _ _=>rfl
 have hl:=hK.len
 have ng7:¬ g=p7:=fun e=>by subst e;rw [T7] at Tg;cases Tg
 obtain ⟨j,hj,hjr⟩:∃ j:Nat,j<e.ps.length∧Int.tmod k (e.ps.length:Int)=(j:Int):=by
  refine ⟨(k % (e.ps.length:Int)).toNat,?_,?_⟩
  ·have:=Int.emod_lt_of_pos k (b:=(e.ps.length:Int)) (by omega);omega
  ·rw [Int.tmod_eq_emod_of_nonneg hk];have:=Int.emod_nonneg k (b:=(e.ps.length:Int)) (by omega);omega
 simp only [hjr,T7,c13,b0,↓vcPre,↓z8,↓reduceIte,vcPost,vcStd,Nat.reduceEqDiff,reduceCtorEq,Nat.reduceAdd,Nat.reduceLeDiff,Int.reduceLT,Int.reduceLE,↓u_setN]
 refine ⟨by omega,fun c1 => ?_,fun c1 => ?_⟩
 ·have w1:IntKind.i64.wrap (b.peer+1)=b.peer+1:=zk (by unfold I64 at *;omega)
  have w2:IntKind.i64.wrap (0 - (b.peer+1)) = -(b.peer+1):=by rw [zk (by unfold I64 at *;omega)];omega
  simp only [T7,c13,b0,w1,w2,w0,↓vcPre,↓z8,↓reduceIte,vcPost,vcStd,Nat.reduceEqDiff,reduceCtorEq,Nat.reduceAdd,Nat.reduceLeDiff,Int.reduceLT,Int.reduceLE,↓u_setN]
  refine z1b hK oo { b with peer := -(b.peer+1) } j hj ⟨by simp only;omega,by unfold I64 at *;simp only;omega⟩ ho hna x n hn (by rw [Store.set_ne _ _ n67];exact T6) (Store.set_same _ _ _) (by rw [Store.set_ne _ _ n97];exact T9) (by rw [Store.set_ne _ _ ng7];exact Tg) n97 n67 (zd hs h7) h7 [] hfin
 ·exact z1b hK oo b j hj ⟨by omega,hbp⟩ ho hna x n hn T6 T7 T9 Tg n97 n67 hs h7 _ hfin
end
set_option maxHeartbeats 1000000 in
set_option maxRecDepth 20000 in
theorem z6w (c:Cfg) (hc:c.Ok) (k x n:Int) (hkI:I64 k) (hn:I64 n) (b:PathR) (hbp:I64 b.peer) (ho:I64 b.a.org) (hna:0≤b.a.nxt):Pur Try.prog 9 [.agg (c.cV (.sl 4 (c.ps.map Peer.c))),.int .i64 k,.agg [.int .u32 x,.int .i64 n],.agg b.c] (.bool true):=by
 refine zq Ts28.F9 (by simp [Ts28.F9,Fn.mkW]) fun σ => ?_
 simp only [Ts28.F9,Fn.mkW,Ts28.b9,xe]
 have c7:∀ (c:Cfg) v,(c.cV v).length=7:=fun _ _=>rfl
 have t7:∀ (c:Cfg) v,List.take 7 (c.cV v)=c.cV v:=fun _ _=>rfl
 have f3:∀ (c:Cfg) v,List.take 1 (List.drop 3 (c.cV v))=[v]:=fun _ _=>rfl
 simp only [↓vcPre,↓z8,↓reduceIte,vcPost,vcStd,Nat.reduceEqDiff,reduceCtorEq,Nat.reduceAdd,Nat.reduceLeDiff,Int.reduceLT,Int.reduceLE,↓u_setN]
 refine AllocQ.i0 fun p4 h4 => ?_
 simp only [↓vcPre,↓z8,↓reduceIte,vcPost,vcStd,Nat.reduceEqDiff,reduceCtorEq,Nat.reduceAdd,Nat.reduceLeDiff,Int.reduceLT,Int.reduceLE,↓u_setN]
 refine AllocQ.i1 fun p6 h64 h46 h6 => ?_
 simp only [↓vcPre,↓z8,↓reduceIte,vcPost,vcStd,Nat.reduceEqDiff,reduceCtorEq,Nat.reduceAdd,Nat.reduceLeDiff,Int.reduceLT,Int.reduceLE,↓u_setN]
 refine AllocQ.i2 fun p7 h74 h47 h76 h67 h7 => ?_
 simp only [↓vcPre,↓z8,↓reduceIte,vcPost,vcStd,Nat.reduceEqDiff,reduceCtorEq,Nat.reduceAdd,Nat.reduceLeDiff,Int.reduceLT,Int.reduceLE,↓u_setN]
 have sT:Store.sub σ (((σ.set p4 (.box (c.cV (.sl 4 (c.ps.map Peer.c))))).set p6 (.box [.int .u32 x,.int .i64 n])).set p7 (.box b.c)):=zd (zw h4 h6 h64) h7
 have T7:=Store.set_same ((σ.set p4 (.box (c.cV (.sl 4 (c.ps.map Peer.c))))).set p6 (.box [.int .u32 x,.int .i64 n])) p7 (.box b.c)
 have T6:(((σ.set p4 (.box (c.cV (.sl 4 (c.ps.map Peer.c))))).set p6 (.box [.int .u32 x,.int .i64 n])).set p7 (.box b.c)) p6=some (.box [.int .u32 x,.int .i64 n]):=by rw [Store.set_ne _ _ h67];exact Store.set_same _ _ _
 have T4:(((σ.set p4 (.box (c.cV (.sl 4 (c.ps.map Peer.c))))).set p6 (.box [.int .u32 x,.int .i64 n])).set p7 (.box b.c)) p4=some (.box (c.cV (.sl 4 (c.ps.map Peer.c)))):=by rw [Store.set_ne _ _ h47,Store.set_ne _ _ h46];exact Store.set_same _ _ _
 generalize ((σ.set p4 (.box (c.cV (.sl 4 (c.ps.map Peer.c))))).set p6 (.box [.int .u32 x,.int .i64 n])).set p7 (.box b.c)=T at sT T4 T6 T7 ⊢
 simp only [T4,c7,t7,↓vcPre,↓z8,↓reduceIte,vcPost,vcStd,Nat.reduceEqDiff,reduceCtorEq,Nat.reduceAdd,Nat.reduceLeDiff,Int.reduceLT,Int.reduceLE,↓u_setN]
 refine (zen (σ:=T) c hc Rd.sl).Q ?_
 rintro r U ⟨g,rfl,sU,hTg,Ug⟩
 have hK:=va c
 have U6:=sU _ _ T6
 have U7:=sU _ _ T7
 have hσg:=zm sT hTg
 have sσU:=Store.sub_trans sT sU
 clear T4 T6 T7 sT sU hTg
 simp only [c7,↓vcPre,↓z8,↓reduceIte,vcPost,vcStd,Nat.reduceEqDiff,reduceCtorEq,Nat.reduceAdd,Nat.reduceLeDiff,Int.reduceLT,Int.reduceLE,↓u_setN]
 refine AllocQ.i0 fun p9 h9 => ?_
 have zK:∀ v,splice 0 ((configK c).cV v) [AV.int .u32 0,.int .u32 0,.int .i64 0,.nils,.int .i64 0,.int .i64 0,.int .i64 0]=some ((configK c).cV v):=fun _=>rfl
 have hσ9:=zm sσU h9
 have n69:¬ p6=p9:=fun e=>by subst e;rw [U6] at h9;cases h9
 have n79:¬ p7=p9:=fun e=>by subst e;rw [U7] at h9;cases h9
 have n9g:¬ p9=g:=fun e=>by subst e;rw [Ug] at h9;cases h9
 have ng9:¬ g=p9:=fun e=>n9g e.symm
 simp only [c7,zK,↓vcPre,↓z8,↓reduceIte,vcPost,vcStd,Nat.reduceEqDiff,reduceCtorEq,Nat.reduceAdd,Nat.reduceLeDiff,Int.reduceLT,Int.reduceLE,↓u_setN]
 have V9:=Store.set_same (U.set p9 (.box [AV.int .u32 0,.int .u32 0,.int .i64 0,.nils,.int .i64 0,.int .i64 0,.int .i64 0])) p9 (.box ((configK c).cV (.os g 4 0 (configK c).ps.length)))
 have sV:Store.sub U ((U.set p9 (.box [AV.int .u32 0,.int .u32 0,.int .i64 0,.nils,.int .i64 0,.int .i64 0,.int .i64 0])).set p9 (.box ((configK c).cV (.os g 4 0 (configK c).ps.length)))):=zd (Store.sub_set _ _ _ h9) h9
 generalize (U.set p9 (.box [AV.int .u32 0,.int .u32 0,.int .i64 0,.nils,.int .i64 0,.int .i64 0,.int .i64 0])).set p9 (.box ((configK c).cV (.os g 4 0 (configK c).ps.length)))=V at sV V9 ⊢
 have V6:=sV _ _ U6
 have V7:=sV _ _ U7
 have Vg:=sV _ _ Ug
 have sσV:=Store.sub_trans sσU sV
 clear U6 U7 Ug sV sσU h9 zK
 generalize hd:configK c=d at *
 have hl:=hK.len
 have wN:∀ p:Peer,splice 3 [.nils] p.c=some p.cN:=fun _=>rfl
 refine LoopQ.inv (S:=Nat×Store) (fun q=>[(1,.int .i64 k),(6,.ptr p6 0),(7,.ptr p7 0),(9,.ptr p9 0),(10,.int .i64 (q.1:Int))]) (fun q=>q.2)
  (fun q=>q.1≤d.ps.length∧Store.sub σ q.2∧q.2 p6=some (.box [.int .u32 x,.int .i64 n])∧q.2 p7=some (.box b.c)∧q.2 p9=some (.box (d.cV (.os g 4 0 d.ps.length)))∧q.2 g=some (.arr 4 (openL d.ps q.1)))
  (fun q=>d.ps.length+1 - q.1) (0,V) rfl (Store.sub_refl _) ⟨Nat.zero_le _,sσV,V6,V7,V9,by rw [z4b];exact Vg⟩ ?_
 clear V6 V7 V9 Vg sσV
 rintro ⟨j,s⟩ ⟨hj,hs,s6,s7,s9,sg⟩
 simp only at hj hs s6 s7 s9 sg
 have ol:=z5f d.ps j
 simp only [s9,c7,f3,sg,ol,↓vcPre,↓z8,↓reduceIte,vcPost,vcStd,Nat.reduceEqDiff,reduceCtorEq,Nat.reduceAdd,Nat.reduceLeDiff,Int.reduceLT,Int.reduceLE,↓u_setN]
 have n6g:¬ p6=g:=fun e=>by subst e;rw [s6] at sg;cases sg
 have n7g:¬ p7=g:=fun e=>by subst e;rw [s7] at sg;cases sg
 have n9g:¬ p9=g:=fun e=>by subst e;rw [s9] at sg;cases sg
 refine ⟨fun c1 => ?_,fun c1 => ?_⟩
 ·have hj':j<d.ps.length:=by omega
  have ej:IntKind.i64.wrap ((j:Int)+1)=((j+1:Nat):Int):=by rw [zk (by unfold I64;omega)];omega
  refine ⟨hj',by simpa using by omega,?_⟩
  have e0:0+j=j:=by omega
  simp only [e0]
  rw [z5e d.ps j hj',wN,yd,z5g d.ps j hj',ej]
  refine NextQ.to (j+1,s.set g (.arr 4 (openL d.ps (j+1)))) rfl (Store.sub_refl _) (by simp only;omega) ⟨hj',zd hs hσg,?_,?_,?_,Store.set_same _ _ _⟩
  ·exact (Store.set_ne _ _ n6g).trans s6
  ·exact (Store.set_ne _ _ n7g).trans s7
  ·exact (Store.set_ne _ _ n9g).trans s9
 ·have ej:j=d.ps.length:=by omega
  subst ej
  have hc2:openK c={ d with ps:=d.ps.map Peer.open }:=by rw [←hd];rfl
  refine WkQ.of (WeakE.arrImp g sg (z5d d.ps) (WeakE.pure ?_))
  have hKo:=z59 c
  have oo:=z6z c
  have ecv:∀ v,d.cV v=(openK c).cV v:=fun v=>by rw [hc2];rfl
  have eps:(openK c).ps=d.ps.map Peer.open:=by rw [hc2]
  have elen:d.ps.length=(openK c).ps.length:=by rw [eps,List.length_map]
  have T6:=(Store.set_ne s (.arr 4 ((d.ps.map Peer.open).map Peer.c)) n6g).trans s6
  have T7:=(Store.set_ne s (.arr 4 ((d.ps.map Peer.open).map Peer.c)) n7g).trans s7
  have T9:=(Store.set_ne s (.arr 4 ((d.ps.map Peer.open).map Peer.c)) n9g).trans s9
  have Tg:=Store.set_same s g (.arr 4 ((d.ps.map Peer.open).map Peer.c))
  have sT:Store.sub σ (s.set g (.arr 4 ((d.ps.map Peer.open).map Peer.c))):=zd hs hσg
  rw [ecv,elen] at T9
  rw [←eps] at *
  generalize s.set g (.arr 4 ((openK c).ps.map Peer.c))=T at T6 T7 T9 Tg sT ⊢
  clear s6 s7 s9 sg hs
  generalize openK c=e at *
  clear hd hc2 ecv elen eps hK hl wN ol c1 hj
  simp only [T9,c7,f3,↓vcPre,↓z8,↓reduceIte,vcPost,vcStd,Nat.reduceEqDiff,reduceCtorEq,Nat.reduceAdd,Nat.reduceLeDiff,Int.reduceLT,Int.reduceLE,↓u_setN]
  have n97:¬ p9=p7:=fun e=>n79 e.symm
  refine ⟨fun c1 => ?_,fun c1 => ?_⟩
  ·have w1:IntKind.i64.wrap (k+1)=k+1:=zk (by unfold I64 at *;omega)
   have w2:IntKind.i64.wrap (0 - (k+1)) = -(k+1):=by rw [zk (by unfold I64 at *;omega)];omega
   rw [w1,w2]
   exact z1a hKo oo b (-(k+1)) (by omega) hbp ho hna x n hn T6 T7 T9 Tg n97 h67 sT h7 [] (fun t ht=>⟨rfl,ht⟩)
  ·exact z1a hKo oo b k (by omega) hbp ho hna x n hn T6 T7 T9 Tg n97 h67 sT h7 _ (fun t ht=>⟨rfl,ht⟩)
end Go.Am
namespace Go.Am
open Go.Proofs Go.Sort
theorem ze1 (c:Cfg) (hc:c.Ok) (k:Int) (hk:I64 k) (q:Int×Int) (hq:I64 q.2) (b:PathR) (hb:I64 b.peer∧I64 b.a.org∧okNums b.a):Pur Try.prog 9 [.agg (c.cV (.sl 4 (c.ps.map Peer.c))),.int .i64 k,.agg (pfC q),.agg b.c] (.bool true):=z6w c hc k q.1 q.2 hk hq b hb.1 hb.2.1 hb.2.2.1.1
end Go.Am
