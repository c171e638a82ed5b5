/- A part of the proof: a logic for calls over plain values, and the functions that the law reaches, each walked once. -/
import Derived.Test.YtplkahhkogncjaaGreatQC13
set_option linter.unusedVariables false
set_option linter.unusedSimpArgs false
set_option linter.unusedSectionVars false
namespace Go.Am
def val4 (l:List Int):Int:=n4 (l.getD 0 0) (l.getD 1 0) (l.getD 2 0) (l.getD 3 0)
def szN (n:Int):Nat:=((n+7) / 8).toNat
def decN:Nat→List Int→Option (List (Int×Int))
 | _,[]=>some []
 | 0,_::_=>none
 | f+1,n::r=>if 32<n then none else if r.length<szN n then none else (decN f (r.drop (szN n))).map (ofF (val4 (r.take (szN n))) n :: ·)
def dN (b:List Int):Option (List (Int×Int)):=decN b.length b
theorem z2d:∀ (f g:Nat) (b:List Int),b.length≤f→b.length≤g→decN f b=decN g b
 | 0,0,_,_,_=>rfl
 | 0,g+1,[],_,_=>by simp [decN]
 | 0,g+1,_::_,h,_=>by simp at h
 | f+1,0,[],_,_=>by simp [decN]
 | f+1,0,_::_,_,h=>by simp at h
 | f+1,g+1,[],_,_=>by simp [decN]
 | f+1,g+1,n::r,h1,h2=>by
   simp only [decN]
   rw [z2d f g (r.drop (szN n)) (by simp at h1 ⊢;omega) (by simp at h2 ⊢;omega)]
theorem zdc:dN []=some []:=rfl
theorem z1u (n:Int) (r:List Int):dN (n::r)=if 32<n then none else if r.length<szN n then none else (dN (r.drop (szN n))).map (ofF (val4 (r.take (szN n))) n :: ·):=by
 simp only [dN,List.length_cons,decN]
 rw [z2d r.length (r.drop (szN n)).length _ (by simp) (Nat.le_refl _)]
theorem zg6 {M b i m:Nat} (hM:m*2 ^ i=M) (h:b<2 ^ i) (hm:M+b<4294967296):bitInt .or .u32 (M:Int) (b:Int)=((M+b:Nat):Int):=by
 have e:=Nat.shiftLeft_add_eq_or_of_lt h m
 rw [Nat.shiftLeft_eq,hM] at e
 show IntKind.u32.wrap ((BitVec.ofInt 32 (M:Int) ||| BitVec.ofInt 32 (b:Int)).toNat:Int)=_
 have e3:((M:Int) % ((2 ^ 32:Nat):Int)).toNat=M:=by omega
 have e4:((b:Int) % ((2 ^ 32:Nat):Int)).toNat=b:=by omega
 rw [BitVec.toNat_or,BitVec.toNat_ofInt,BitVec.toNat_ofInt,e3,e4,←e,za1]
 omega
theorem zdt (x:Int) (hx:0≤x∧x<256) (s:Nat) (hs:s≤24):shlInt .u32 x (s:Int)=x*2 ^ s:=by
 unfold shlInt
 have:min ((s:Int).toNat) IntKind.u32.bits=s:=by simp [IntKind.bits];omega
 rw [this]
 have h1:(2:Int) ^ s≤2 ^ 24:=by
  have:(2:Nat) ^ s≤2 ^ 24:=Nat.pow_le_pow_right (by decide) hs
  exact_mod_cast this
 have h0:(0:Int)≤2 ^ s:=Int.pow_nonneg (by decide)
 have h2:x*2 ^ s≤255*2 ^ s:=Int.mul_le_mul_of_nonneg_right (by omega) h0
 have h3:0≤x*2 ^ s:=Int.mul_nonneg hx.1 h0
 simp only [IntKind.wrap,IntKind.bits,IntKind.signed]
 simp
 omega
theorem z8l {l:List Int} (hl:U8s l) {k:Nat} (hk:k<l.length) (h4:k<4):bitInt .or .u32 (val4 (l.take k)) (shlInt .u32 l[k] (32 - 8*((k:Int)+1)))=val4 (l.take (k+1)):=by
 have st:∀ (M b x s m:Nat),s≤24→b=x*2 ^ s→x<256→m*2 ^ (s+8)=M→M+b<4294967296→bitInt .or .u32 (M:Int) (shlInt .u32 (x:Int) (s:Int))=((M+b:Nat):Int):=by
  intro M b x s m hs hb hx hM hlt
  have h2:b<2 ^ (s+8):=by
   rw [hb,Nat.pow_add,Nat.mul_comm (2 ^ s)]
   exact Nat.mul_lt_mul_of_pos_right hx (Nat.two_pow_pos s)
  rw [zdt _ ⟨by omega,by omega⟩ s hs]
  have e:(x:Int)*2 ^ s=(b:Int):=by rw [hb];simp
  rw [e]
  exact zg6 hM h2 hlt
 have nat:∀ y ∈ l,∃ n:Nat,y=n∧n<256:=fun y hy=>by
  have:=hl y hy
  exact ⟨y.toNat,by omega,by omega⟩
 have hkc:k=0∨k=1∨k=2∨k=3:=by omega
 rcases hkc with rfl | rfl | rfl | rfl
 ·match l,hk with
  | a::l,_ =>
    obtain ⟨a,rfl,ha⟩:=nat a (by simp)
    have:=st 0 (a*16777216) a 24 0 (by omega) (by simp) ha (by simp) (by omega)
    refine Eq.trans ?_ (this.trans ?_)
    ·simp [val4,n4]
    ·simp [val4,n4];omega
 ·match l,hk with
  | a::b::l,_ =>
    obtain ⟨a,rfl,ha⟩:=nat a (by simp)
    obtain ⟨b,rfl,hb⟩:=nat b (by simp)
    have:=st (a*16777216) (b*65536) b 16 a (by omega) (by simp) hb (by simp) (by omega)
    refine Eq.trans (congr (congrArg (bitInt .or .u32) ?_) (congr (congrArg (shlInt .u32) ?_) ?_)) (this.trans ?_)
    ·simp [val4,n4];omega
    ·rfl
    ·rfl
    ·simp [val4,n4];omega
 ·match l,hk with
  | a::b::c::l,_ =>
    obtain ⟨a,rfl,ha⟩:=nat a (by simp)
    obtain ⟨b,rfl,hb⟩:=nat b (by simp)
    obtain ⟨c,rfl,hc⟩:=nat c (by simp)
    have:=st (a*16777216+b*65536) (c*256) c 8 (a*256+b) (by omega) (by simp) hc (by simp;omega) (by omega)
    refine Eq.trans (congr (congrArg (bitInt .or .u32) ?_) (congr (congrArg (shlInt .u32) ?_) ?_)) (this.trans ?_)
    ·simp [val4,n4];omega
    ·rfl
    ·rfl
    ·simp [val4,n4];omega
 ·match l,hk with
  | a::b::c::d::l,_ =>
    obtain ⟨a,rfl,ha⟩:=nat a (by simp)
    obtain ⟨b,rfl,hb⟩:=nat b (by simp)
    obtain ⟨c,rfl,hc⟩:=nat c (by simp)
    obtain ⟨d,rfl,hd⟩:=nat d (by simp)
    have:=st (a*16777216+b*65536+c*256) d d 0 (a*65536+b*256+c) (by omega) (by simp) hd (by simp;omega) (by omega)
    refine Eq.trans (congr (congrArg (bitInt .or .u32) ?_) (congr (congrArg (shlInt .u32) ?_) ?_)) (this.trans ?_)
    ·simp [val4,n4];omega
    ·rfl
    ·rfl
    ·simp [val4,n4];omega
end Go.Am
namespace Go.Am.Tsp
open Go.Proofs Go.Am.B
def t219_47:BC:=z [f 47 2 3,l 48 1 47,g 49 237 [.t 48],m 8 49] [0,3,4,8] (.seq (z [f 50 1 3,l 51 1 50] [0,3,4,8,51] (.block 1 (z [c 63 .eql 51 1,m 62 63] [0,3,4,8,51,62] (.cond (.t 62) (z [m 64 0,f 65 2 3,l 66 1 65,p 67 (.idx 1) [.t 66,.c (.int .i64 0)],l 68 1 67,u 69 (.conv .i64) 68,u 70 .nilchk 64,f 71 0 70,s 1 71 69] [0,3,4] (z [m 72 0,u 73 .nilchk 72,f 74 0 73,l 75 1 74,c 76 .gtr 75 2] [3,4,76] (.cond (.t 76) (z [f 77 3 3,l 78 1 77,g 79 218 [.c (.int .i64 6),.t 78],s 3 4 79] [4] .ret) .skip))) (z [c 81 .eql 51 2,m 80 81] [0,3,4,8,51,80] (.cond (.t 80) (z [k 9 (.bool false)] [0,3,4] (z [m 83 0,f 84 2 3,l 85 1 84,g 86 238 [.t 85],m 82 86,e 87 0 82,e 88 1 82,u 89 .nilchk 83,f 90 1 89,s 1 90 87,m 9 88] [4,9] (z [m 91 9,u 92 .not 91] [4,92] (.cond (.t 92) (z [g 93 218 [.c (.int .i64 11),.c .nils],s 3 4 93] [4] .ret) .skip)))) (z [c 95 .eql 51 3,m 94 95] [0,3,4,8,51,94] (.cond (.t 94) (z [m 96 0,m 97 8,p 98 (.idx 1) [.t 97,.c (.int .i64 0)],l 99 1 98,u 100 .nilchk 96,f 101 2 100,s 1 101 99] [0,3,4] (z [m 102 0,u 103 .nilchk 102,f 104 2 103,l 105 1 104,g 106 124 [.t 105],u 107 .not 106] [3,4,107] (.cond (.t 107) (z [f 108 3 3,l 109 1 108,g 110 218 [.c (.int .i64 8),.t 109],s 3 4 110] [4] .ret) .skip))) (z [c 112 .eql 51 4,m 111 112] [0,3,4,8,51,111] (.cond (.t 111) (.ops [m 113 0,m 114 0,m 115 8,p 116 (.idx 1) [.t 115,.c (.int .i64 0)],l 117 1 116,u 118 .nilchk 113,f 119 3 118,⟨none,none,.loud (.st 1),[.t 119,.c (.bool true)]⟩,u 120 .nilchk 114,f 121 4 120,s 1 121 117] [4]) (z [c 123 .eql 51 5,m 122 123] [0,3,4,8,51,122] (.cond (.t 122) (.ops [m 124 0,m 125 0,m 126 8,p 127 (.idx 1) [.t 126,.c (.int .i64 0)],l 128 1 127,u 129 .nilchk 124,f 130 5 129,⟨none,none,.loud (.st 1),[.t 130,.c (.bool true)]⟩,u 131 .nilchk 125,f 132 6 131,s 1 132 128] [4]) (z [c 134 .eql 51 6,m 133 134] [0,3,4,8,133] (.cond (.t 133) (.ops [m 135 0,u 136 .nilchk 135,f 137 7 136,⟨none,none,.loud (.st 1),[.t 137,.c (.bool true)]⟩] [4]) (z [m 52 0,m 53 8,u 54 .nilchk 52,f 55 8 54,s 1 55 53] [3,4,8] (z [m 56 8,u 57 .len 56,c 58 .gtr 57 32] [3,4,58] (.cond (.t 58) (z [f 59 3 3,l 60 1 59,g 61 218 [.c (.int .i64 9),.t 60],s 3 4 61] [4] .ret) .skip))))))))))))))))) (z [p 138 (.build [(.int .i64 0),(.int .i64 0),.nils] []) [],s 3 4 138] [4] .ret))
def b219:BC:=z [⟨some 3,none,.alloc (.box),[.t 1]⟩,⟨some 4,none,.alloc (.alloc [(.int .i64 0),(.int .i64 0),.nils]),[]⟩] [0,3,4] (z [f 11 1 3,l 12 1 11,g 13 181 [.t 12],m 10 13,e 14 0 10,e 15 1 10,e 16 2 10,m 5 14,m 6 15,m 7 16] [0,3,4,5,6] (.seq (.block 0 (z [f 18 0 3,l 19 1 18,c 20 .and 19 192,m 21 5,b 22 .neq 20 21,m 23 22,⟨some 24,some (23,false),.pure (.fld 0),[.t 3]⟩,⟨some 25,some (23,false),.load (.ld 1 false),[.t 24]⟩,⟨some 26,some (23,false),.pure (.bin .and),[.t 25,.c (.int .i64 32)]⟩,⟨some 27,some (23,false),.pure (.bin .neq),[.t 26,.c (.int .i64 0)]⟩,⟨some 28,some (23,false),.pure (.mov),[.t 27]⟩,⟨some 29,some (28,true),.pure (.fld 1),[.t 3]⟩,⟨some 30,some (28,true),.load (.ld 1 false),[.t 29]⟩,⟨some 31,some (28,true),.pure (.bin .neq),[.t 30,.c (.int .i64 8)]⟩,⟨some 32,some (23,false),.pick,[.t 28,.t 31,.c (.bool false)]⟩,⟨some 33,none,.pick,[.t 23,.c (.bool true),.t 32]⟩,m 17 33] [0,3,4,6,17] (.cond (.t 17) (z [f 34 3 3,l 35 1 34,g 36 218 [.c (.int .i64 4),.t 35],s 3 4 36] [4] .ret) (z [m 38 6,f 39 2 3,l 40 1 39,u 41 .len 40,g 42 236 [.t 38,.t 41],u 43 .not 42,m 37 43] [0,3,4,37] (.cond (.t 37) (z [f 44 3 3,l 45 1 44,g 46 218 [.c (.int .i64 5),.t 45],s 3 4 46] [4] .ret) .skip))))) t219_47))
def F219:Fn Tryz.prog 219:=Fn.mkX false b219 [.c 4 3 true] 139 Tryz.f219 _ Tryz.func219 (by decide) rfl Tryz.ntmps219 (by kernel_rfl) (by kernel_rfl)
end Go.Am.Tsp
namespace Go.Am
open Go.Proofs Go.Sort
theorem z54 {k:Int} (hk:wantOf k≠0):k=1∨k=2∨k=3∨k=4∨k=5∨k=6∨k=8:=by
 unfold wantOf at hk
 split at hk
 ·omega
 ·split at hk
  ·omega
  ·split at hk
   ·omega
   ·exact absurd rfl hk
theorem zd7 (k:Int) (hk:wantOf k≠0) (n:Nat) (hn:n≤1000000):Pur Tryz.prog 236 [.int .i64 (ofSz k),.int .i64 (n:Int)] (.bool (decide (fitsOf k n))):=by
 refine zw Tst.F236 (by simp [Tst.F236,Fn.mkX]) fun σ => ?_
 simp only [Tst.F236,Fn.mkX,Tst.b236]
 have hk':=z54 hk
 have w1:IntKind.i64.wrap (-(-1))=1:=by decide
 have w4:IntKind.i64.wrap (-(-4))=4:=by decide
 have e1:(n:Int).tmod 1=0:=by rw [Int.tmod_one]
 have e4:(n:Int).tmod 4=(n:Int) % 4:=Int.tmod_eq_emod_of_nonneg (by omega)
 rcases hk' with rfl | rfl | rfl | rfl | rfl | rfl | rfl <;> simp only [show ofSz 1=1 from rfl,show ofSz 2 = -1 from rfl,show ofSz 3=4 from rfl,show ofSz 4=4 from rfl,show ofSz 5=4 from rfl,show ofSz 6=0 from rfl,show ofSz 8 = -4 from rfl]
 ·simp only [↓vcPre,↓z8,↓reduceIte,vcPost,vcStd,Nat.reduceEqDiff,reduceCtorEq,Nat.reduceAdd,Nat.reduceLeDiff,Int.reduceLT,Int.reduceLE,↓u_setN]
  exact decide_eq_decide.2 (by unfold fitsOf;omega)
 ·simp only [↓vcPre,↓z8,↓reduceIte,vcPost,vcStd,Nat.reduceEqDiff,reduceCtorEq,Nat.reduceAdd,Nat.reduceLeDiff,Int.reduceLT,Int.reduceLE,↓u_setN]
  rw [show IntKind.i64.wrap (0 - -1)=1 by decide,e1]
  exact ⟨by decide,decide_eq_decide.2 (by unfold fitsOf;omega)⟩
 ·simp only [↓vcPre,↓z8,↓reduceIte,vcPost,vcStd,Nat.reduceEqDiff,reduceCtorEq,Nat.reduceAdd,Nat.reduceLeDiff,Int.reduceLT,Int.reduceLE,↓u_setN]
  exact decide_eq_decide.2 (by unfold fitsOf;omega)
 ·simp only [↓vcPre,↓z8,↓reduceIte,vcPost,vcStd,Nat.reduceEqDiff,reduceCtorEq,Nat.reduceAdd,Nat.reduceLeDiff,Int.reduceLT,Int.reduceLE,↓u_setN]
  exact decide_eq_decide.2 (by unfold fitsOf;omega)
 ·simp only [↓vcPre,↓z8,↓reduceIte,vcPost,vcStd,Nat.reduceEqDiff,reduceCtorEq,Nat.reduceAdd,Nat.reduceLeDiff,Int.reduceLT,Int.reduceLE,↓u_setN]
  exact decide_eq_decide.2 (by unfold fitsOf;omega)
 ·simp only [↓vcPre,↓z8,↓reduceIte,vcPost,vcStd,Nat.reduceEqDiff,reduceCtorEq,Nat.reduceAdd,Nat.reduceLeDiff,Int.reduceLT,Int.reduceLE,↓u_setN]
  exact decide_eq_decide.2 (by unfold fitsOf;omega)
 ·simp only [↓vcPre,↓z8,↓reduceIte,vcPost,vcStd,Nat.reduceEqDiff,reduceCtorEq,Nat.reduceAdd,Nat.reduceLeDiff,Int.reduceLT,Int.reduceLE,↓u_setN]
  rw [show IntKind.i64.wrap (0 - -4)=4 by decide,e4]
  exact ⟨by decide,decide_eq_decide.2 (by unfold fitsOf;omega)⟩
theorem z24 {σ:Store} {M:List Int} {v:AV} (hr:Rd 1 σ (M.map cB) v) (hM:M.length≤1000000000) (n:Int):ACalls Tryz.prog 218 [.int .i64 n,v] σ (fun r s=>s=σ∧r = .agg [.int .i64 3,.int .i64 n,.sl 1 (M.map cB)]):=by
 refine ze Tst.F218 (by simp [Tst.F218,Fn.mkX]) ?_
 simp only [Tst.F218,Fn.mkX,Tst.b218]
 simp only [↓vcPre,↓z8,↓reduceIte,vcPost,vcStd,Nat.reduceEqDiff,reduceCtorEq,Nat.reduceAdd,Nat.reduceLeDiff,Int.reduceLT,Int.reduceLE,↓u_setN]
 refine AllocQ.i0 fun i hi => ?_
 simp only [↓vcPre,↓z8,↓reduceIte,vcPost,vcStd,Nat.reduceEqDiff,reduceCtorEq,Nat.reduceAdd,Nat.reduceLeDiff,Int.reduceLT,Int.reduceLE,↓u_setN]
 have hsi:=Store.sub_set σ i (.box [.int .i64 0,.int .i64 0,.nils]) hi
 refine (z21 (hr.mono hsi) hM).Q ?_
 rintro r s ⟨rfl,rfl⟩
 simp only [↓vcPre,↓z8,↓reduceIte,vcPost,vcStd,Nat.reduceEqDiff,reduceCtorEq,Nat.reduceAdd,Nat.reduceLeDiff,Int.reduceLT,Int.reduceLE,↓u_setN]
 refine EndQ.to σ _ ?_ (zb hsi hi) ⟨rfl,rfl⟩
 show Env.res [(4,AV.ptr i 0)] _ [RS.c 4 3 true]=_
 simp only [↓vcPre,↓z8,↓reduceIte,vcPost,vcStd,Nat.reduceEqDiff,reduceCtorEq,Nat.reduceAdd,Nat.reduceLeDiff,Int.reduceLT,Int.reduceLE,↓u_setN]
def AI (τ:Store) (id:Nat) (a:At) (s:Store):Prop:=τ id=none∧Store.sub τ s∧∃ pv cv,s id=some (.box [.int .i64 a.org,pv,.int .u32 a.nxt,.bool a.hm,.int .u32 a.med,.bool a.hp,.int .u32 a.prf,.bool a.atm,cv]) ∧
 (pv = .sl 2 (a.path.map Seg.c)∨pv = .nils∧a.path=[])∧(cv = .sl 1 (a.cms.map cU)∨cv = .nils∧a.cms=[])
def noteV (n:Nt):AV := .agg [.int .i64 3,.int .i64 n.1,.sl 1 (n.2.map cB)]
def note0:AV := .agg [.int .i64 0,.int .i64 0,.nils]
set_option maxHeartbeats 1000000 in
theorem zip {τ s:Store} {id:Nat} {a:At} (h:AI τ id a s) (c:Ch) (hw:wantOf c.kind≠0) (hv:c.val.length≤1000000) (hu:U8s c.val) (ha:c.all.length≤1000000) {av:AV} (hav:Rd 1 τ (c.all.map cB) av) :
 ACalls Tryz.prog 219 [.ptr id 0,.agg [.int .i64 c.fl,.int .i64 c.kind,.sl 1 (c.val.map cB),av]] s (fun r s'=>(∀ q o,q≠id→s q=some o→s' q=some o)∧match stepA c a with | .ok a'=>r=note0∧AI τ id a' s' | .error n=>r=noteV n∧Store.sub τ s'):=by
 obtain ⟨hτ,hs,pv,cv,hid,hp,hc⟩:=h
 refine ze Tsp.F219 (by simp [Tsp.F219,Fn.mkX]) ?_
 simp only [Tsp.F219,Fn.mkX,Tsp.b219]
 simp only [↓vcPre,↓z8,↓reduceIte,vcPost,vcStd,Nat.reduceEqDiff,reduceCtorEq,Nat.reduceAdd,Nat.reduceLeDiff,Int.reduceLT,Int.reduceLE,↓u_setN]
 refine AllocQ.i0 fun i hi => ?_
 simp only [↓vcPre,↓z8,↓reduceIte,vcPost,vcStd,Nat.reduceEqDiff,reduceCtorEq,Nat.reduceAdd,Nat.reduceLeDiff,Int.reduceLT,Int.reduceLE,↓u_setN]
 refine AllocQ.i1 fun j hj1 hj2 hj => ?_
 simp only [hj1,hj2,↓vcPre,↓z8,↓reduceIte,vcPost,vcStd,Nat.reduceEqDiff,reduceCtorEq,Nat.reduceAdd,Nat.reduceLeDiff,Int.reduceLT,Int.reduceLE,↓u_setN]
 have hji:¬ id=i:=fun e=>by rw [←e,hid] at hi;cases hi
 have hjj:¬ id=j:=fun e=>by rw [←e,hid] at hj;cases hj
 have hij:¬ i=id:=fun e=>hji e.symm
 have hjd:¬ j=id:=fun e=>hjj e.symm
 have hsT:=y0 (o:=Obj.box [.int .i64 c.fl,.int .i64 c.kind,.sl 1 (c.val.map cB),av]) (p:=Obj.box [.int .i64 0,.int .i64 0,.nils]) hi hj hj1
 have hTi:((s.set i (.box [.int .i64 c.fl,.int .i64 c.kind,.sl 1 (c.val.map cB),av])).set j (.box [.int .i64 0,.int .i64 0,.nils])) i=some (.box [.int .i64 c.fl,.int .i64 c.kind,.sl 1 (c.val.map cB),av]):=by rw [Store.set_ne _ _ hj2,Store.set_same]
 have hTj:((s.set i (.box [.int .i64 c.fl,.int .i64 c.kind,.sl 1 (c.val.map cB),av])).set j (.box [.int .i64 0,.int .i64 0,.nils])) j=some (.box [.int .i64 0,.int .i64 0,.nils]):=Store.set_same _ _ _
 generalize (s.set i (.box [.int .i64 c.fl,.int .i64 c.kind,.sl 1 (c.val.map cB),av])).set j (.box [.int .i64 0,.int .i64 0,.nils])=T at hsT hTi hTj ⊢
 have hTd:=hsT _ _ hid
 have hτT:=Store.sub_trans hs hsT
 have hτi:τ i=none:=zo hs hi
 have hτj:τ j=none:=zo hs hj
 have bad:∀ (t:Store) (n:Nt),(∀ q o,q≠id→s q=some o→t q=some o)→Store.sub τ t→stepA c a = .error n → @EndQ [(4,.ptr j 0)] (t.set j (.box [.int .i64 3,.int .i64 n.1,.sl 1 (n.2.map cB)])) ⟨Tsp.F219.slots,fun r s'=>(∀ q o,q≠id→s q=some o→s' q=some o)∧match stepA c a with | .ok a'=>r=note0∧AI τ id a' s' | .error n=>r=noteV n∧Store.sub τ s'⟩:=by
  intro t n hkp ht he
  rw [he]
  have hkj:∀ (w:Obj) q o,q≠id→s q=some o→(t.set j w) q=some o:=fun w q o h1 h2=>by rw [Store.set_ne _ _ (fun e=>by rw [e,hj] at h2;cases h2)];exact hkp q o h1 h2
  have ht':Store.sub τ (t.set j (.box [.int .i64 3,.int .i64 n.1,.sl 1 (n.2.map cB)])):=zb ht hτj
  refine EndQ.to _ (noteV n) ?_ (Store.sub_refl _) ⟨hkj _,rfl,ht'⟩
  show Env.res [(4,AV.ptr j 0)] _ [RS.c 4 3 true]=_
  simp only [↓vcPre,↓z8,↓reduceIte,vcPost,vcStd,Nat.reduceEqDiff,reduceCtorEq,Nat.reduceAdd,Nat.reduceLeDiff,Int.reduceLT,Int.reduceLE,↓u_setN]
  rfl
 have good:∀ (t:Store) (a':At) (pv' cv':AV),(∀ q o,q≠id→s q=some o→t q=some o)→stepA c a = .ok a'→Store.sub τ t→t id=some (.box [.int .i64 a'.org,pv',.int .u32 a'.nxt,.bool a'.hm,.int .u32 a'.med,.bool a'.hp,.int .u32 a'.prf,.bool a'.atm,cv']) →
  (pv' = .sl 2 (a'.path.map Seg.c)∨pv' = .nils∧a'.path=[])→(cv' = .sl 1 (a'.cms.map cU)∨cv' = .nils∧a'.cms=[]) → @EndQ [(4,.ptr j 0)] (t.set j (.box [.int .i64 0,.int .i64 0,.nils])) ⟨Tsp.F219.slots,fun r s'=>(∀ q o,q≠id→s q=some o→s' q=some o)∧match stepA c a with | .ok a'=>r=note0∧AI τ id a' s' | .error n=>r=noteV n∧Store.sub τ s'⟩:=by
  intro t a' pv' cv' hkp he ht h1 h2 h3
  rw [he]
  have hkj:∀ (w:Obj) q o,q≠id→s q=some o→(t.set j w) q=some o:=fun w q o h1 h2=>by rw [Store.set_ne _ _ (fun e=>by rw [e,hj] at h2;cases h2)];exact hkp q o h1 h2
  have ht':Store.sub τ (t.set j (.box [.int .i64 0,.int .i64 0,.nils])):=zb ht hτj
  refine EndQ.to _ note0 ?_ (Store.sub_refl _) ⟨hkj _,rfl,hτ,ht',pv',cv',by rw [Store.set_ne _ _ hjj];exact h1,h2,h3⟩
  show Env.res [(4,AV.ptr j 0)] _ [RS.c 4 3 true]=_
  simp only [↓vcPre,↓z8,↓reduceIte,vcPost,vcStd,Nat.reduceEqDiff,reduceCtorEq,Nat.reduceAdd,Nat.reduceLeDiff,Int.reduceLT,Int.reduceLE,↓u_setN]
  rfl
 have havT:=hav.mono hτT
 have kT:∀ q o,q≠id→s q=some o→T q=some o:=fun q o _ h=>hsT _ _ h
 have kT1:∀ (w:Obj) q o,q≠id→s q=some o→(T.set id w) q=some o:=fun w q o h1 h=>by rw [Store.set_ne _ _ h1];exact hsT _ _ h
 have kT2:∀ (w w':Obj) q o,q≠id→s q=some o→((T.set id w).set id w') q=some o:=fun w w' q o h1 h=>by rw [Store.set_ne _ _ h1];exact kT1 w q o h1 h
 refine (zd6 c.kind).Q ?_
 simp only [hTi,hTj,↓vcPre,↓z8,↓reduceIte,vcPost,vcStd,Nat.reduceEqDiff,reduceCtorEq,Nat.reduceAdd,Nat.reduceLeDiff,Int.reduceLT,Int.reduceLE,↓u_setN]
 have hna:=havT
 have e1:andI c.fl 192=bitInt .and .i64 c.fl 192:=rfl
 have e2:andI c.fl 32=bitInt .and .i64 c.fl 32:=rfl
 have note:∀ (x:Int),stepA c a = .error (x,c.all)→ACalls Tryz.prog 218 [.int .i64 x,av] T (fun r s'=>s'=T∧r = .agg [.int .i64 3,.int .i64 x,.sl 1 (c.all.map cB)]):=fun x _=>z24 havT (by omega) x
 have rest:¬ (andI c.fl 192≠wantOf c.kind∨andI c.fl 32≠0∧c.kind≠8)→fitsOf c.kind c.val.length→bwp Tryz.prog Tsp.t219_47 [(0,.ptr id 0),(3,.ptr i 0),(4,.ptr j 0)] T (fun _ _=>False) (fun e tt => @EndQ e tt ⟨Tsp.F219.slots,fun r s'=>(∀ q o,q≠id→s q=some o→s' q=some o)∧match stepA c a with | .ok a'=>r=note0∧AI τ id a' s' | .error n=>r=noteV n∧Store.sub τ s'⟩) (fun _ _ _=>False):=by
  intro hb hf
  have hst:stepA c a=valA c a:=by unfold stepA;rw [if_neg hw,if_neg hb,if_neg (not_not_intro hf)]
  simp only [Tsp.t219_47]
  simp only [hTi,↓vcPre,↓z8,↓reduceIte,vcPost,vcStd,Nat.reduceEqDiff,reduceCtorEq,Nat.reduceAdd,Nat.reduceLeDiff,Int.reduceLT,Int.reduceLE,↓u_setN]
  refine (ziq (by omega) hu T).Q ?_
  rintro r s' ⟨rfl,l,rfl,hl⟩
  have one:c.val.length=4→∃ w,l=[w]∧(words 1 c.val).headD 0=w:=fun h4=>by
   have e:=hl (by omega)
   rw [show c.val.length / 4=1 by omega] at e
   have h1:=w5 1 c.val (by omega)
   rw [←e] at h1
   obtain ⟨w,hw⟩:=List.length_eq_one_iff.1 h1
   exact ⟨w,hw,by rw [←e,hw];rfl⟩
  have tk1:∀ (k:IntKind) (x:Int),List.take 1 [AV.int k x]=[AV.int k x]:=fun _ _=>rfl
  have d21:((2:Int)=1)=False:=by simp
  have d31:((3:Int)=1)=False:=by simp
  have d32:((3:Int)=2)=False:=by simp
  have d41:((4:Int)=1)=False:=by simp
  have d42:((4:Int)=2)=False:=by simp
  have d43:((4:Int)=3)=False:=by simp
  have d51:((5:Int)=1)=False:=by simp
  have d52:((5:Int)=2)=False:=by simp
  have d53:((5:Int)=3)=False:=by simp
  have d54:((5:Int)=4)=False:=by simp
  have d61:((6:Int)=1)=False:=by simp
  have d62:((6:Int)=2)=False:=by simp
  have d63:((6:Int)=3)=False:=by simp
  have d64:((6:Int)=4)=False:=by simp
  have d65:((6:Int)=5)=False:=by simp
  have d81:((8:Int)=1)=False:=by simp
  have d82:((8:Int)=2)=False:=by simp
  have d83:((8:Int)=3)=False:=by simp
  have d84:((8:Int)=4)=False:=by simp
  have d85:((8:Int)=5)=False:=by simp
  have d86:((8:Int)=6)=False:=by simp
  have nt:∀ (t:Store) (x:Int),Store.sub τ t→ACalls Tryz.prog 218 [.int .i64 x,av] t (fun r s'=>s'=t∧r = .agg [.int .i64 3,.int .i64 x,.sl 1 (c.all.map cB)]):=fun t x h=>z24 (hav.mono h) (by omega) x
  rcases z54 hw with hk | hk | hk | hk | hk | hk | hk
  ·have hl1:c.val.length=1:=hf.1 hk
   obtain ⟨x,hx⟩:=List.length_eq_one_iff.1 hl1
   have hbx:=hu x (by simp [hx])
   have hva:valA c a=if 2<x then .error (6,c.all) else .ok { a with org:=x }:=by
    unfold valA;rw [if_pos hk,hx];rfl
   have wx:IntKind.i64.wrap x=x:=zd (by unfold I64;omega)
   simp only [hk,hTi,hTj,hTd,hij,hjd,hji,hjj,hj1,hj2,hx,List.map_cons,List.map_nil,cB,List.getElem_cons_zero,Int.toNat_zero,tk1,↓vcPre,↓z8,↓reduceIte,vcPost,vcStd,Nat.reduceEqDiff,reduceCtorEq,Nat.reduceAdd,Nat.reduceLeDiff,Int.reduceLT,Int.reduceLE,↓u_setN]
   rw [wx]
   have hs1:=zb (o:=Obj.box [.int .i64 x,pv,.int .u32 a.nxt,.bool a.hm,.int .u32 a.med,.bool a.hp,.int .u32 a.prf,.bool a.atm,cv]) hτT hτ
   refine ⟨fun h2 => ?_,fun h2 => ?_⟩
   ·refine (nt _ 6 hs1).Q ?_
    rintro r t ⟨rfl,rfl⟩
    simp only [hTi,hTj,hTd,hij,hjd,hji,hjj,hj1,hj2,↓vcPre,↓z8,↓reduceIte,vcPost,vcStd,Nat.reduceEqDiff,reduceCtorEq,Nat.reduceAdd,Nat.reduceLeDiff,Int.reduceLT,Int.reduceLE,↓u_setN]
    exact bad _ (6,c.all) (kT1 _) hs1 (by rw [hst,hva,if_pos h2])
   ·exact good _ { a with org:=x } pv cv (kT1 _) (by rw [hst,hva,if_neg h2]) hs1 (Store.set_same _ _ _) hp hc
  ·have hva:valA c a=match decPath c.val with | some l => .ok { a with path:=l } | none => .error (11,[]):=by
    unfold valA;rw [if_neg (by omega),if_pos hk];rfl
   simp only [hk,hTi,hTj,hTd,hij,hjd,hji,hjj,hj1,hj2,d21,d31,d32,d41,d42,d43,d51,d52,d53,d54,d61,d62,d63,d64,d65,d81,d82,d83,d84,d85,d86,↓vcPre,↓z8,↓reduceIte,vcPost,vcStd,Nat.reduceEqDiff,reduceCtorEq,Nat.reduceAdd,Nat.reduceLeDiff,Int.reduceLT,Int.reduceLE,↓u_setN]
   refine (zi1 hv hu).Q ?_
   cases hd:decPath c.val with
   | some l =>
     rw [hd] at hva
     simp only [pathR]
     simp only [hTi,hTj,hTd,hij,hjd,hji,hjj,hj1,hj2,AV.cells,↓vcPre,↓z8,↓reduceIte,vcPost,vcStd,Nat.reduceEqDiff,reduceCtorEq,Nat.reduceAdd,Nat.reduceLeDiff,Int.reduceLT,Int.reduceLE,↓u_setN]
     exact good _ { a with path:=l } (.sl 2 (l.map Seg.c)) cv (kT1 _) (hst.trans hva) (zb hτT hτ) (Store.set_same _ _ _) (.inl rfl) hc
   | none =>
     rw [hd] at hva
     simp only [pathR]
     simp only [hTi,hTj,hTd,hij,hjd,hji,hjj,hj1,hj2,AV.cells,↓vcPre,↓z8,↓reduceIte,vcPost,vcStd,Nat.reduceEqDiff,reduceCtorEq,Nat.reduceAdd,Nat.reduceLeDiff,Int.reduceLT,Int.reduceLE,↓u_setN]
     have hs1:=zb (o:=Obj.box [.int .i64 a.org,.sl 2 [],.int .u32 a.nxt,.bool a.hm,.int .u32 a.med,.bool a.hp,.int .u32 a.prf,.bool a.atm,cv]) hτT hτ
     refine (z24 (M:=[]) Rd.nils (by simp) 11).Q ?_
     rintro r t ⟨rfl,rfl⟩
     simp only [hTi,hTj,hTd,hij,hjd,hji,hjj,hj1,hj2,↓vcPre,↓z8,↓reduceIte,vcPost,vcStd,Nat.reduceEqDiff,reduceCtorEq,Nat.reduceAdd,Nat.reduceLeDiff,Int.reduceLT,Int.reduceLE,↓u_setN]
     exact bad _ (11,[]) (kT1 _) hs1 (hst.trans hva)
  ·obtain ⟨w,rfl,hw1⟩:=one (hf.2.1 (by omega))
   have hva:valA c a=if goodN w then .ok { a with nxt:=w } else .error (8,c.all):=by
    unfold valA;rw [if_neg (by omega),if_neg (by omega),if_pos hk,hw1]
   simp only [hk,hTi,hTj,hTd,hij,hjd,hji,hjj,hj1,hj2,List.map_cons,List.map_nil,cU,List.getElem_cons_zero,Int.toNat_zero,tk1,d21,d31,d32,d41,d42,d43,d51,d52,d53,d54,d61,d62,d63,d64,d65,d81,d82,d83,d84,d85,d86,↓vcPre,↓z8,↓reduceIte,vcPost,vcStd,Nat.reduceEqDiff,reduceCtorEq,Nat.reduceAdd,Nat.reduceLeDiff,Int.reduceLT,Int.reduceLE,↓u_setN]
   have hs1:=zb (o:=Obj.box [.int .i64 a.org,pv,.int .u32 w,.bool a.hm,.int .u32 a.med,.bool a.hp,.int .u32 a.prf,.bool a.atm,cv]) hτT hτ
   refine (zhn w).Q ?_
   by_cases hg:goodN w
   ·rw [decide_eq_true hg]
    simp only [hTi,hTj,hTd,hij,hjd,hji,hjj,hj1,hj2,↓vcPre,↓z8,↓reduceIte,vcPost,vcStd,Nat.reduceEqDiff,reduceCtorEq,Nat.reduceAdd,Nat.reduceLeDiff,Int.reduceLT,Int.reduceLE,↓u_setN]
    exact good _ { a with nxt:=w } pv cv (kT1 _) (by rw [hst,hva,if_pos hg]) hs1 (Store.set_same _ _ _) hp hc
   ·rw [decide_eq_false hg]
    simp only [hTi,hTj,hTd,hij,hjd,hji,hjj,hj1,hj2,↓vcPre,↓z8,↓reduceIte,vcPost,vcStd,Nat.reduceEqDiff,reduceCtorEq,Nat.reduceAdd,Nat.reduceLeDiff,Int.reduceLT,Int.reduceLE,↓u_setN]
    refine (nt _ 8 hs1).Q ?_
    rintro r t ⟨rfl,rfl⟩
    simp only [hTi,hTj,hTd,hij,hjd,hji,hjj,hj1,hj2,↓vcPre,↓z8,↓reduceIte,vcPost,vcStd,Nat.reduceEqDiff,reduceCtorEq,Nat.reduceAdd,Nat.reduceLeDiff,Int.reduceLT,Int.reduceLE,↓u_setN]
    exact bad _ (8,c.all) (kT1 _) hs1 (by rw [hst,hva,if_neg hg])
  ·obtain ⟨w,rfl,hw1⟩:=one (hf.2.1 (by omega))
   have hva:valA c a = .ok { a with hm:=true,med:=w }:=by
    unfold valA;rw [if_neg (by omega),if_neg (by omega),if_neg (by omega),if_pos hk,hw1]
   simp only [hk,hTi,hTj,hTd,hij,hjd,hji,hjj,hj1,hj2,List.map_cons,List.map_nil,cU,List.getElem_cons_zero,Int.toNat_zero,tk1,d21,d31,d32,d41,d42,d43,d51,d52,d53,d54,d61,d62,d63,d64,d65,d81,d82,d83,d84,d85,d86,↓vcPre,↓z8,↓reduceIte,vcPost,vcStd,Nat.reduceEqDiff,reduceCtorEq,Nat.reduceAdd,Nat.reduceLeDiff,Int.reduceLT,Int.reduceLE,↓u_setN]
   exact good _ { a with hm:=true,med:=w } pv cv (kT2 _ _) (hst.trans hva) (zb (zb hτT hτ) hτ) (Store.set_same _ _ _) hp hc
  ·obtain ⟨w,rfl,hw1⟩:=one (hf.2.1 (by omega))
   have hva:valA c a = .ok { a with hp:=true,prf:=w }:=by
    unfold valA;rw [if_neg (by omega),if_neg (by omega),if_neg (by omega),if_neg (by omega),if_pos hk,hw1]
   simp only [hk,hTi,hTj,hTd,hij,hjd,hji,hjj,hj1,hj2,List.map_cons,List.map_nil,cU,List.getElem_cons_zero,Int.toNat_zero,tk1,d21,d31,d32,d41,d42,d43,d51,d52,d53,d54,d61,d62,d63,d64,d65,d81,d82,d83,d84,d85,d86,↓vcPre,↓z8,↓reduceIte,vcPost,vcStd,Nat.reduceEqDiff,reduceCtorEq,Nat.reduceAdd,Nat.reduceLeDiff,Int.reduceLT,Int.reduceLE,↓u_setN]
   exact good _ { a with hp:=true,prf:=w } pv cv (kT2 _ _) (hst.trans hva) (zb (zb hτT hτ) hτ) (Store.set_same _ _ _) hp hc
  ·have hva:valA c a = .ok { a with atm:=true }:=by
    unfold valA;rw [if_neg (by omega),if_neg (by omega),if_neg (by omega),if_neg (by omega),if_neg (by omega),if_pos hk]
   simp only [hk,hTi,hTj,hTd,hij,hjd,hji,hjj,hj1,hj2,d21,d31,d32,d41,d42,d43,d51,d52,d53,d54,d61,d62,d63,d64,d65,d81,d82,d83,d84,d85,d86,↓vcPre,↓z8,↓reduceIte,vcPost,vcStd,Nat.reduceEqDiff,reduceCtorEq,Nat.reduceAdd,Nat.reduceLeDiff,Int.reduceLT,Int.reduceLE,↓u_setN]
   exact good _ { a with atm:=true } pv cv (kT1 _) (hst.trans hva) (zb hτT hτ) (Store.set_same _ _ _) hp hc
  ·simp only [hk,hTi,hTj,hTd,hij,hjd,hji,hjj,hj1,hj2,d21,d31,d32,d41,d42,d43,d51,d52,d53,d54,d61,d62,d63,d64,d65,d81,d82,d83,d84,d85,d86,↓vcPre,↓z8,↓reduceIte,vcPost,vcStd,Nat.reduceEqDiff,reduceCtorEq,Nat.reduceAdd,Nat.reduceLeDiff,Int.reduceLT,Int.reduceLE,↓u_setN]
   have hwl:l=words (c.val.length / 4) c.val:=hl (hf.2.2.2 hk)
   have hll:l.length=c.val.length / 4:=by rw [hwl];exact w5 _ _ (by omega)
   have hva:valA c a=if 32<l.length then .error (9,c.all) else .ok { a with cms:=l }:=by
    unfold valA;rw [if_neg (by omega),if_neg (by omega),if_neg (by omega),if_neg (by omega),if_neg (by omega),if_neg (by omega),hll,←hwl]
   have hs1:=zb (o:=Obj.box [.int .i64 a.org,pv,.int .u32 a.nxt,.bool a.hm,.int .u32 a.med,.bool a.hp,.int .u32 a.prf,.bool a.atm,.sl 1 (l.map cU)]) hτT hτ
   refine ⟨fun h2 => ?_,fun h2 => ?_⟩
   ·refine (nt _ 9 hs1).Q ?_
    rintro r t ⟨rfl,rfl⟩
    simp only [hTi,hTj,hTd,hij,hjd,hji,hjj,hj1,hj2,↓vcPre,↓z8,↓reduceIte,vcPost,vcStd,Nat.reduceEqDiff,reduceCtorEq,Nat.reduceAdd,Nat.reduceLeDiff,Int.reduceLT,Int.reduceLE,↓u_setN]
    exact bad _ (9,c.all) (kT1 _) hs1 (by rw [hst,hva,if_pos (by omega)])
   ·exact good _ { a with cms:=l } pv (.sl 1 (l.map cU)) (kT1 _) (by rw [hst,hva,if_neg (by omega)]) hs1 (Store.set_same _ _ _) hp (.inl rfl)
 have f4:(andI c.fl 192≠wantOf c.kind∨andI c.fl 32≠0∧c.kind≠8)→stepA c a = .error (4,c.all):=fun h=>by unfold stepA;rw [if_neg hw,if_pos h]
 refine ⟨fun c1=>⟨fun c2=>⟨fun c3 => ?_,fun c3 => ?_⟩,fun c2 => ?_⟩,fun c1 => ?_⟩
 ·refine (note 4 (f4 (by rw [e1,e2];omega))).Q ?_
  rintro r s' ⟨rfl,rfl⟩
  simp only [hTj,↓vcPre,↓z8,↓reduceIte,vcPost,vcStd,Nat.reduceEqDiff,reduceCtorEq,Nat.reduceAdd,Nat.reduceLeDiff,Int.reduceLT,Int.reduceLE,↓u_setN]
  exact bad _ (4,c.all) kT hτT (f4 (by rw [e1,e2];omega))
 ·refine (zd7 c.kind hw c.val.length hv).Q ?_
  have hb:¬ (andI c.fl 192≠wantOf c.kind∨andI c.fl 32≠0∧c.kind≠8):=by rw [e1,e2];omega
  by_cases hf:fitsOf c.kind c.val.length
  ·rw [decide_eq_true hf]
   simp only [↓vcPre,↓z8,↓reduceIte,vcPost,vcStd,Nat.reduceEqDiff,reduceCtorEq,Nat.reduceAdd,Nat.reduceLeDiff,Int.reduceLT,Int.reduceLE,↓u_setN]
   exact rest hb hf
  ·have h5:stepA c a = .error (5,c.all):=by unfold stepA;rw [if_neg hw,if_neg hb,if_pos hf]
   rw [decide_eq_false hf]
   simp only [hTi,↓vcPre,↓z8,↓reduceIte,vcPost,vcStd,Nat.reduceEqDiff,reduceCtorEq,Nat.reduceAdd,Nat.reduceLeDiff,Int.reduceLT,Int.reduceLE,↓u_setN]
   refine (note 5 h5).Q ?_
   rintro r s' ⟨rfl,rfl⟩
   simp only [hTj,↓vcPre,↓z8,↓reduceIte,vcPost,vcStd,Nat.reduceEqDiff,reduceCtorEq,Nat.reduceAdd,Nat.reduceLeDiff,Int.reduceLT,Int.reduceLE,↓u_setN]
   exact bad _ (5,c.all) kT hτT h5
 ·refine (zd7 c.kind hw c.val.length hv).Q ?_
  have hb:¬ (andI c.fl 192≠wantOf c.kind∨andI c.fl 32≠0∧c.kind≠8):=by rw [e1,e2];omega
  by_cases hf:fitsOf c.kind c.val.length
  ·rw [decide_eq_true hf]
   simp only [↓vcPre,↓z8,↓reduceIte,vcPost,vcStd,Nat.reduceEqDiff,reduceCtorEq,Nat.reduceAdd,Nat.reduceLeDiff,Int.reduceLT,Int.reduceLE,↓u_setN]
   exact rest hb hf
  ·have h5:stepA c a = .error (5,c.all):=by unfold stepA;rw [if_neg hw,if_neg hb,if_pos hf]
   rw [decide_eq_false hf]
   simp only [hTi,↓vcPre,↓z8,↓reduceIte,vcPost,vcStd,Nat.reduceEqDiff,reduceCtorEq,Nat.reduceAdd,Nat.reduceLeDiff,Int.reduceLT,Int.reduceLE,↓u_setN]
   refine (note 5 h5).Q ?_
   rintro r s' ⟨rfl,rfl⟩
   simp only [hTj,↓vcPre,↓z8,↓reduceIte,vcPost,vcStd,Nat.reduceEqDiff,reduceCtorEq,Nat.reduceAdd,Nat.reduceLeDiff,Int.reduceLT,Int.reduceLE,↓u_setN]
   exact bad _ (5,c.all) kT hτT h5
 ·refine (note 4 (f4 (by rw [e1,e2];omega))).Q ?_
  rintro r s' ⟨rfl,rfl⟩
  simp only [hTj,↓vcPre,↓z8,↓reduceIte,vcPost,vcStd,Nat.reduceEqDiff,reduceCtorEq,Nat.reduceAdd,Nat.reduceLeDiff,Int.reduceLT,Int.reduceLE,↓u_setN]
  exact bad _ (4,c.all) kT hτT (f4 (by rw [e1,e2];omega))
end Go.Am
namespace Go.Am
open Go.Proofs Go.Sort
def NI:SN:=⟨246,250,256,247,253,254,259,258,257,249,251,248,239,252,220,242,243,208⟩
theorem zfk (h1:∀ x y:Int,Pur Tryz.prog 252 [.int .i64 x,.int .i64 y] (.bool (decide (cfU x y<0)))) (h2:∀ (x:Nat) (hx:x<18446744073709551616),Pur Tryz.prog 208 [.int .u64 x] (.int .i64 (bitsLen x:Nat)))
 (h3:∀ (n:Nat) (hn:n<4611686018427387904),Pur Tryz.prog 242 [.int .i64 n] (.int .u64 (1 <<<bitsLen n:Nat)))
 (h4:∀ (X:Nat) (hX:X<18446744073709551616) (σ:Store) (i:Nat) (hi:σ i=some (.box [.int .u64 X])),ACalls Tryz.prog 243 [.ptr i 0] σ (fun r s=>r = .int .u64 (xorNextN X:Nat)∧s=σ.set i (.box [.int .u64 (xorNextN X:Nat)]))):SH Tryz.prog NI .i64 where
 ins:=yd 49 Tryz.f246 _ Tryz.func246 (by decide) rfl Tryz.ntmps246 (by kernel_rfl) (by kernel_rfl) (by decide)
 rev:=yd 32 Tryz.f250 _ Tryz.func250 (by decide) rfl Tryz.ntmps250 (by kernel_rfl) (by kernel_rfl) (by decide)
 sift:=yd 76 Tryz.f256 _ Tryz.func256 (by decide) rfl Tryz.ntmps256 (by kernel_rfl) (by kernel_rfl) (by decide)
 heap:=yd 56 Tryz.f247 _ Tryz.func247 (by decide) rfl Tryz.ntmps247 (by kernel_rfl) (by kernel_rfl) (by decide)
 parteq:=yd 84 Tryz.f253 _ Tryz.func253 (by decide) rfl Tryz.ntmps253 (by kernel_rfl) (by kernel_rfl) (by decide)
 part:=yd 168 Tryz.f254 _ Tryz.func254 (by decide) rfl Tryz.ntmps254 (by kernel_rfl) (by kernel_rfl) (by decide)
 ord2:=yd 28 Tryz.f259 _ Tryz.func259 (by decide) rfl Tryz.ntmps259 (by kernel_rfl) (by kernel_rfl) (by decide)
 med:=yd 36 Tryz.f258 _ Tryz.func258 (by decide) rfl Tryz.ntmps258 (by kernel_rfl) (by kernel_rfl) (by decide)
 medadj:=yd 15 Tryz.f257 _ Tryz.func257 (by decide) rfl Tryz.ntmps257 (by kernel_rfl) (by kernel_rfl) (by decide)
 piv:=yd 57 Tryz.f249 _ Tryz.func249 (by decide) rfl Tryz.ntmps249 (by kernel_rfl) (by kernel_rfl) (by decide)
 partins:=yd 133 Tryz.f251 _ Tryz.func251 (by decide) rfl Tryz.ntmps251 (by kernel_rfl) (by kernel_rfl) (by decide)
 brk:=yd 65 Tryz.f248 _ Tryz.func248 (by decide) rfl Tryz.ntmps248 (by kernel_rfl) (by kernel_rfl) (by decide)
 pdq:=yd 134 Tryz.f239 _ Tryz.func239 (by decide) rfl Tryz.ntmps239 (by kernel_rfl) (by kernel_rfl) (by decide)
 sort:=yd 11 Tryz.f220 _ Tryz.func220 (by decide) rfl Tryz.ntmps220 (by kernel_rfl) (by kernel_rfl) (by decide)
 less:=h1
 len:=h2
 npow:=h3
 next:=h4
end Go.Am
namespace Go.Am
open Go.Proofs Go.Sort
abbrev LessI:Prop:=∀ x y:Int,Pur Tryz.prog 252 [.int .i64 x,.int .i64 y] (.bool (decide (cfU x y<0)))
theorem zfn (x:Int):Pur Tryz.prog 183 [.int .i64 x] (.bool false):=by
 refine zw Tst.F183 (by simp [Tst.F183,Fn.mkX]) fun σ => ?_
 simp only [Tst.F183,Fn.mkX,Tst.b183]
 simp only [↓vcPre,↓z8,↓reduceIte,vcPost,vcStd,Nat.reduceEqDiff,reduceCtorEq,Nat.reduceAdd,Nat.reduceLeDiff,Int.reduceLT,Int.reduceLE,↓u_setN]
theorem zg2:LessI:=by
 intro x y
 refine zw Tst.F252 (by simp [Tst.F252,Fn.mkX]) fun σ => ?_
 simp only [Tst.F252,Fn.mkX,Tst.b252]
 simp only [↓vcPre,↓z8,↓reduceIte,vcPost,vcStd,Nat.reduceEqDiff,reduceCtorEq,Nat.reduceAdd,Nat.reduceLeDiff,Int.reduceLT,Int.reduceLE,↓u_setN]
 refine (zfn x).Q ?_
 simp only [↓vcPre,↓z8,↓reduceIte,vcPost,vcStd,Nat.reduceEqDiff,reduceCtorEq,Nat.reduceAdd,Nat.reduceLeDiff,Int.reduceLT,Int.reduceLE,↓u_setN]
 have e:decide (x<y)=decide (cfU x y<0):=by
  rw [Bool.eq_iff_iff,decide_eq_true_eq,decide_eq_true_eq];unfold cfU;omega
 rw [e]
theorem hI:SH Tryz.prog NI .i64:=zfk zg2 z8v zd8 zdr
end Go.Am
namespace Go.Am.Tsq
open Go.Proofs Go.Am.B
def t200_82:BC:=z [m 82 8,g 83 220 [.t 82]] [4,6,7,8] (z [⟨some 84,none,.load (.ld 9 true),[.t 7]⟩,g 85 74 [.t 84],m 86 8,p 87 (.build [(.int .i64 0),(.int .i64 0),.nils] []) [],s 9 4 85,m 5 86,s 3 6 87] [4,5,6] .ret)
def t200_49:BC := .seq (z [f 49 1 10,l 50 1 49,g 51 181 [.t 50],m 48 51,e 52 0 48,e 53 1 48,e 54 2 48,m 13 52,m 14 53,m 15 54] [0,1,4,6,7,8,9,10,15] (z [m 55 15,u 56 .not 55] [0,1,4,6,7,8,9,10,56] (.cond (.t 56) (.seq (z [f 57 0 10,l 58 1 57,c 59 .and 58 128,c 60 .eql 59 0] [0,1,4,6,7,8,9,10,60] (.cond (.t 60) (z [p 61 (.build [(.int .i64 0),.nils,(.int .u32 0),(.bool false),(.int .u32 0),(.bool false),(.int .u32 0),(.bool false),.nils] []) [],f 62 3 10,l 63 1 62,g 64 218 [.c (.int .i64 2),.t 63],s 9 4 61,k 5 .nils,s 3 6 64] [4,5,6] .ret) .skip)) (z [m 65 8,f 66 1 10,l 67 1 66,⟨some 68,none,.alloc (.mksl 1 1),[.t 67]⟩,⟨some 69,none,.loud (.app 1 8),[.t 65,.t 68]⟩,m 8 69] [0,1,4,6,7,8,9] (.exit 1))) .skip))) (.seq (z [⟨some 70,none,.load (.ld 4 true),[.t 10]⟩,g 71 219 [.t 7,.t 70],⟨some 16,none,.alloc (.alloc [(.int .i64 0),(.int .i64 0),.nils]),[]⟩,s 3 16 71] [0,1,4,6,7,8,9,10,16] (z [f 72 0 16,l 73 1 72,c 74 .neq 73 0] [0,1,4,6,7,8,9,10,16,74] (.cond (.t 74) (.seq (z [p 75 (.build [(.int .i64 0),.nils,(.int .u32 0),(.bool false),(.int .u32 0),(.bool false),(.int .u32 0),(.bool false),.nils] []) []] [4,6,16,75] (.both (z [⟨some 76,none,.load (.ld 3 true),[.t 16]⟩] [4,6,75,76] (z [s 9 4 75] [4,6,76] (z [k 5 .nils] [4,5,6,76] (z [s 3 6 76] [4,5,6] (.ops [] [4,5,6]))))) (.both (z [s 9 4 75] [4,6,16] (z [k 5 .nils] [4,5,6,16] (z [⟨some 76,none,.load (.ld 3 true),[.t 16]⟩] [4,5,6,76] (z [s 3 6 76] [4,5,6] (.ops [] [4,5,6]))))) (.top)))) .ret) .skip))) (.ops [m 77 8,f 78 1 10,l 79 1 78,⟨some 80,none,.alloc (.mksl 1 1),[.t 79]⟩,⟨some 81,none,.loud (.app 1 8),[.t 77,.t 80]⟩,m 8 81] [0,1,4,6,7,8,9]))
def b200:BC:=z [⟨some 4,none,.alloc (.alloc [(.int .i64 0),.nils,(.int .u32 0),(.bool false),(.int .u32 0),(.bool false),(.int .u32 0),(.bool false),.nils]),[]⟩,k 5 .nils,⟨some 6,none,.alloc (.alloc [(.int .i64 0),(.int .i64 0),.nils]),[]⟩] [0,1,4,6] (z [⟨some 7,none,.alloc (.alloc [(.int .i64 0),.nils,(.int .u32 0),(.bool false),(.int .u32 0),(.bool false),(.int .u32 0),(.bool false),.nils]),[]⟩] [0,1,4,6,7] (z [k 8 .nils] [0,1,4,6,7,8] (z [⟨some 17,none,.alloc (.mkmap),[]⟩,m 9 17] [0,1,4,6,7,8,9] (.seq .skip (.seq (.block 0 (.loop [0,1,4,6,7,8,9] (.seq (z [m 18 0,u 19 .len 18,c 20 .gtr 19 0] [0,1,4,6,7,8,9,20] (.cond (.t 20) .skip (.exit 0))) (.block 1 (z [m 22 0,g 23 217 [.t 22],m 21 23,e 24 0 21,e 25 1 21,e 26 2 21,⟨some 10,none,.alloc (.alloc [(.int .i64 0),(.int .i64 0),.nils,.nils]),[]⟩,s 4 10 24,m 11 25,m 12 26] [1,4,6,7,8,9,10,11,12] (.seq (z [m 27 12,u 28 .not 27,m 29 28,⟨some 30,some (29,false),.pure (.mov),[.t 9]⟩,⟨some 31,some (29,false),.pure (.fld 1),[.t 10]⟩,⟨some 32,some (29,false),.load (.ld 1 false),[.t 31]⟩,⟨some 33,some (29,false),.load (.look false (.int .i64) (.bool false)),[.t 30,.t 32]⟩,⟨some 34,none,.pick,[.t 29,.c (.bool true),.t 33]⟩] [1,4,6,7,8,9,10,11,34] (.cond (.t 34) (z [p 35 (.build [(.int .i64 0),.nils,(.int .u32 0),(.bool false),(.int .u32 0),(.bool false),(.int .u32 0),(.bool false),.nils] []) [],g 36 218 [.c (.int .i64 1),.c .nils],s 9 4 35,k 5 .nils,s 3 6 36] [4,5,6] .ret) .skip)) (z [m 37 11,m 0 37] [0,1,4,6,7,8,9,10] (z [m 38 9,f 39 1 10,l 40 1 39,⟨none,none,.loud (.mupd (.int .i64)),[.t 38,.t 40,.c (.bool true)]⟩] [0,1,4,6,7,8,9,10] (.seq (z [f 41 1 10,l 42 1 41,c 43 .eql 42 5,m 44 43,⟨some 45,some (44,true),.pure (.mov),[.t 1]⟩,⟨some 46,some (44,true),.pure (.not),[.t 45]⟩,⟨some 47,none,.pick,[.t 44,.t 46,.c (.bool false)]⟩] [0,1,4,6,7,8,9,10,47] (.cond (.t 47) (.exit 1) .skip)) t200_49))))))))) t200_82)))))
def F200:Fn Tryz.prog 200:=Fn.mkX false b200 [.c 4 9 true,.t 5,.c 6 3 true] 88 Tryz.f200 _ Tryz.func200 (by decide) rfl Tryz.ntmps200 (by kernel_rfl) (by kernel_rfl)
end Go.Am.Tsq
namespace Go.Am
open Go.Proofs Go.Sort
theorem Imp.agg {cs ds:List AV} {σ:Store} {Q:AV→Store→Prop} (h:ImpL cs ds) (hq:Q (.agg ds) σ):Weak (.agg cs) σ Q:=Weak.agg (WeakL.imp h (WeakL.pure ⟨h.flat,hq⟩))
theorem EndQ.three {slots:List RS} {Q:AV→Store→Prop} {e:Env} {τ:Store} {cs cs' ns ns':List AV} {tv:AV} (h1:e.res τ slots=some (.tup [.agg cs,tv,.agg ns])) (hc:ImpL cs cs') (hn:ImpL ns ns')
 (hQ:Q (.tup [.agg cs',tv,.agg ns']) τ) : @EndQ e τ ⟨slots,Q⟩:=by
 unfold EndQ
 refine ⟨_,h1,Weak.tup (WeakL.pos 0 rfl (Imp.agg hc (WeakL.pos 2 rfl (Imp.agg hn (WeakL.pure ?_)))))⟩
 simp only [List.set]
 exact hQ
theorem z48 {Q:AV→Store→Prop} {σ τ:Store} {x y tv:AV} {L:List (List AV)} (ho:Own 1 σ L tv τ) (hs:Store.sub σ τ) (hQ:Q (.tup [x,.sl 1 L,y]) σ):WeakL [x,tv,y] τ (fun l s=>Q (.tup l) s):=by
 rcases ho with ⟨rfl,rfl⟩ | ⟨g,rfl,hg,hh⟩
 ·exact WeakL.nil 1 1 rfl (WeakL.forget hs (WeakL.pure hQ))
 ·refine WeakL.freeze 1 rfl hh (by omega) (WeakL.forget (sub_del hs hg) (WeakL.pure ?_))
  simpa using hQ
def seenM (S:List Int):List (AV×AV):=S.map fun k=>(.int .i64 k,.bool true)
theorem ua (k:Int):∀ (S:List Int) (i:Nat),(k ∈ S→∃ j,mfind (.int .i64 k) (seenM S) i=some (some (j,.bool true)))∧(k ∉ S→mfind (.int .i64 k) (seenM S) i=some none)
 | [],i=>⟨fun h=>by simp at h,fun _=>rfl⟩
 | x::S,i=>by
   have ih:=ua k S (i+1)
   have e:kEq (.int .i64 k) (.int .i64 x)=some (decide (k=x)):=by simp [kEq,asOne]
   simp only [seenM,List.map_cons,mfind,e]
   by_cases h:k=x
   ·subst h
    simp only [decide_true]
    exact ⟨fun _=>⟨i,rfl⟩,fun h=>by simp at h⟩
   ·rw [decide_eq_false h]
    simp only
    exact ⟨fun hm=>ih.1 (by simpa [h] using hm),fun hm=>ih.2 (fun h'=>hm (by simp [h']))⟩
theorem zbb {s:Store} {m:Nat} {S:List Int} (hm:s m=some (.map (seenM S))) (k:Int):ldv (.look false (.int .i64) (.bool false)) [.mp m,.int .i64 k] s=some (.bool (decide (k ∈ S))):=by
 have hf:keyFits (.int .i64) (.int .i64 k)=true:=by simp [keyFits,asOne]
 simp only [ldv,hf,if_true,mpOf,hm,Option.bind_some]
 by_cases h:k ∈ S
 ·obtain ⟨j,hj⟩:=(ua k S 0).1 h
  rw [hj,decide_eq_true h];rfl
 ·rw [(ua k S 0).2 h,decide_eq_false h];rfl
theorem zaa {s:Store} {m:Nat} {S:List Int} {k:Int} {K:Store→Prop} (hm:s m=some (.map (seenM S))) (hk:k ∉ S) (h:K (s.set m (.map (seenM (S++[k]))))):mupdwp (.int .i64) (.mp m) (.int .i64 k) (.bool true) s K:=by
 refine ⟨by simp [keyFits,asOne],?_⟩
 simp only [hm,(ua k S 0).2 hk]
 simpa [seenM] using h
def zC:List AV:=[.int .i64 0,.nils,.int .u32 0,.bool false,.int .u32 0,.bool false,.int .u32 0,.bool false,.nils]
def zN:List AV:=[.int .i64 0,.int .i64 0,.nils]
theorem zC_imp:ImpL zC zeroAt.c := .cons (.refl rfl) (.cons .nils (.cons (.refl rfl) (.cons (.refl rfl) (.cons (.refl rfl) (.cons (.refl rfl) (.cons (.refl rfl) (.cons (.refl rfl) (.cons .nils .nil))))))))
def outD (x:Except Nt (At×List Int)):AV:=match x with
 | .ok (a,ty) => .tup [.agg a.c,.sl 1 (ty.map cI),.agg [.int .i64 0,.int .i64 0,.sl 1 []]]
 | .error n => .tup [.agg zeroAt.c,.sl 1 [],.agg [.int .i64 3,.int .i64 n.1,.sl 1 (n.2.map cB)]]
def outO (x:Except Nt (At×List Int)) (tv:AV):AV:=match x with
 | .ok (a,_) => .tup [.agg a.c,tv,.agg [.int .i64 0,.int .i64 0,.sl 1 []]]
 | .error n => .tup [.agg zeroAt.c,tv,.agg [.int .i64 3,.int .i64 n.1,.sl 1 (n.2.map cB)]]
def tyO (x:Except Nt (At×List Int)):List (List AV):=match x with
 | .ok (_,ty)=>ty.map cI
 | .error _=>[]
theorem z14 {c:Ch} {a a':At} (h:stepA c a = .ok a') (ha:a.ok) (hv:c.val.length≤1000000):a'.ok:=by
 unfold stepA at h
 split at h
 ·split at h
  ·cases h
  ·cases h;exact ha
 ·split at h
  ·cases h
  ·split at h
   ·cases h
   ·unfold valA at h
    repeat' split at h
    all_goals first
     | (cases h;exact ha)
     | cases h
     | skip
    ·rename_i l hl
     unfold decPath at hl
     split at hl
     ·split at hl
      ·rename_i hp
       cases hl
       exact ⟨by have:=hp.2;show l.length≤1000000;omega,fun s hs=>by have:=(hp.1 s hs).2.2;show s.ls.length≤_;omega,ha.2.2⟩
      ·cases hl
     ·cases hl
    ·refine ⟨ha.1,ha.2.1,?_⟩
     have:=w5 (c.val.length / 4) c.val (by omega)
     simp only
     omega
theorem z7p {σ V:Store} {p4 p6 p7 m x:Nat} (inner:Bool) {rv tv av bo:AV} (c:Ch) (a:At) (ty:List Int) (h46:¬ p4=p6) (h6:¬ p6=p4) (hx4:¬ p4=x) (hx6:¬ p6=x) (hx7:¬ p7=x) (h47:¬ p4=p7) (h67:¬ p6=p7) (m7:¬ m=p7)
 (hV:Store.sub σ V) (Vx:V x=some (.box [.int .i64 c.fl,.int .i64 c.kind,.sl 1 (c.val.map cB),av])) (V4:V p4=some (.box zC)) (V6:V p6=some (.box zN)) {M:Obj} (Vm:V m=some M) (hM:∀ L,M ≠ .arr 1 L) (hm7:¬ p7=m) (VA:AI σ p7 a V) (Vo:Own 1 σ (ty.map cI) tv V)
 (hv:c.val.length≤1000000) (hu:U8s c.val) (hal:c.all.length≤1000000) (hty:ty.length≤1000000) (hra:Rd 1 σ (c.all.map cB) av) {n r:Env→Store→Prop} {xx:Nat→Env→Store→Prop}
 (hgo:∀ a' tv' t,stepA c a = .ok a'→AI σ p7 a' t→t p4=some (.box zC)→t p6=some (.box zN)→t m=some M→Own 1 σ ((ty++[c.kind]).map cI) tv' t→n [(0,rv),(1,.bool inner),(4,.ptr p4 0),(6,.ptr p6 0),(7,.ptr p7 0),(8,tv'),(9,.mp m)] t∧xx 1 [(0,rv),(1,.bool inner),(4,.ptr p4 0),(6,.ptr p6 0),(7,.ptr p7 0),(8,tv'),(9,.mp m)] t)
 (hbad:∀ t nt,stepA c a = .error nt→Store.sub σ t→r [(4,.ptr p4 0),(5,.nils),(6,.ptr p6 0)] ((t.set p4 (.box zC)).set p6 (.box [.int .i64 3,.int .i64 nt.1,.sl 1 (nt.2.map cB)]))) :
 bwp Tryz.prog Tsq.t200_49 [(0,rv),(1,.bool inner),(4,.ptr p4 0),(6,.ptr p6 0),(7,.ptr p7 0),(8,tv),(9,.mp m),(10,.ptr x 0),(47,bo)] V n r xx:=by
 simp only [Tsq.t200_49]
 have zC9:zC.length=9:=rfl
 have szz:splice 0 zC zC=some zC:=rfl
 have szn:∀ x y z:AV,splice 0 [x,y,z] zN=some [x,y,z]:=fun _ _ _=>rfl
 have szl:splice 0 [.int .i64 0,.nils,.int .u32 0,.bool false,.int .u32 0,.bool false,.int .u32 0,.bool false,.nils] zC=some zC:=rfl
 simp only [Vx,↓vcPre,↓z8,↓reduceIte,vcPost,vcStd,Nat.reduceEqDiff,reduceCtorEq,Nat.reduceAdd,Nat.reduceLeDiff,Int.reduceLT,Int.reduceLE,↓u_setN]
 refine (zd6 c.kind).Q ?_
 by_cases hw:wantOf c.kind=0
 ·rw [show ofOk c.kind=false by simp [ofOk,hw]]
  simp only [Vx,↓vcPre,↓z8,↓reduceIte,vcPost,vcStd,Nat.reduceEqDiff,reduceCtorEq,Nat.reduceAdd,Nat.reduceLeDiff,Int.reduceLT,Int.reduceLE,↓u_setN]
  have e1:andI c.fl 128=bitInt .and .i64 c.fl 128:=rfl
  have hst:stepA c a=if andI c.fl 128=0 then .error (2,c.all) else .ok a:=by unfold stepA;rw [if_pos hw]
  refine ⟨fun g => ?_,fun g => ?_⟩
  ·refine (z24 (hra.mono hV) (by omega) 2).Q ?_
   rintro r' t ⟨rfl,rfl⟩
   simp only [V4,V6,h46,h6,zC9,szz,szn,szl,↓vcPre,↓z8,↓reduceIte,vcPost,vcStd,Nat.reduceEqDiff,reduceCtorEq,Nat.reduceAdd,Nat.reduceLeDiff,Int.reduceLT,Int.reduceLE,↓u_setN]
   exact hbad _ (2,c.all) (by rw [hst,if_pos (e1.trans g)]) hV
  ·refine AllocQ.i0 fun b hb => ?_
   simp only [↓vcPre,↓z8,↓reduceIte,vcPost,vcStd,Nat.reduceEqDiff,reduceCtorEq,Nat.reduceAdd,Nat.reduceLeDiff,Int.reduceLT,Int.reduceLE,↓u_setN]
   have hsb:=Store.sub_set V b (.arr 1 [[.int .i64 c.kind]]) hb
   have hVA:=VA.2.1
   refine Own.appK (τ:=σ) (bytes:=8) (Store.sub_trans hV hsb) (Vo.mono hsb) (zq (Store.set_same _ _ _) rfl) (by simp;omega) fun v' t ht ho hk => ?_
   have kk:∀ q o,V q=some o→(∀ L,o ≠ .arr 1 L)→t q=some o:=fun q o hq hn=>hk _ _ (hsb _ _ hq) (fun L=>hn L)
   obtain ⟨q1,q2,pv,cv,q3,q4,q5⟩:=VA
   exact (hgo a v' t (by rw [hst,if_neg (by rw [e1];exact g)]) ⟨q1,ht,pv,cv,kk _ _ q3 (fun L e=>by cases e),q4,q5⟩ (kk _ _ V4 (fun L e=>by cases e)) (kk _ _ V6 (fun L e=>by cases e)) (kk _ _ Vm hM) (by simpa [cI] using ho)).2
 ·rw [show ofOk c.kind=true by simp [ofOk,hw]]
  simp only [Vx,↓vcPre,↓z8,↓reduceIte,vcPost,vcStd,Nat.reduceEqDiff,reduceCtorEq,Nat.reduceAdd,Nat.reduceLeDiff,Int.reduceLT,Int.reduceLE,↓u_setN]
  refine (zip VA c hw hv hu hal hra).Q ?_
  rintro r' t ⟨hk,hpost⟩
  have t4:=hk _ _ h47 V4
  have t6:=hk _ _ h67 V6
  have tm:=hk _ _ m7 Vm
  have to:Own 1 σ (ty.map cI) tv t:=by
   rcases Vo with h | ⟨g,h1,h2,h3⟩
   ·exact .inl h
   ·refine .inr ⟨g,h1,h2,hk _ _ (fun e => ?_) h3⟩
    obtain ⟨_,_,pv,cv,h,_⟩:=VA
    rw [←e,h3] at h;cases h
  have tx:=hk _ _ (fun e=>hx7 e.symm) Vx
  cases hs:stepA c a with
  | ok a' =>
    rw [hs] at hpost
    obtain ⟨rfl,hA⟩:=hpost
    simp only [note0]
    simp only [↓vcPre,↓z8,↓reduceIte,vcPost,vcStd,Nat.reduceEqDiff,reduceCtorEq,Nat.reduceAdd,Nat.reduceLeDiff,Int.reduceLT,Int.reduceLE,↓u_setN]
    refine AllocQ.i0 fun b hb => ?_
    have hsb:Store.sub t ((t.set b (.box zN)).set b (.box zN)):=zb (Store.sub_set _ _ _ hb) hb
    rw [show [AV.int .i64 0,.int .i64 0,.nils]=zN from rfl]
    have hbb:((t.set b (.box zN)).set b (.box zN)) b=some (.box zN):=Store.set_same _ _ _
    have szN:splice 0 zN zN=some zN:=rfl
    have z3:zN.length=3:=rfl
    have zt:List.take 1 zN=[.int .i64 0]:=rfl
    have d00:((0:Int)=0)=True:=by simp
    simp only [szN,↓vcPre,↓z8,↓reduceIte,vcPost,vcStd,Nat.reduceEqDiff,reduceCtorEq,Nat.reduceAdd,Nat.reduceLeDiff,Int.reduceLT,Int.reduceLE,↓u_setN]
    generalize (t.set b (.box zN)).set b (.box zN)=W at hsb hbb ⊢
    simp only [z3,zt,hsb _ _ tx,hsb _ _ t4,hsb _ _ t6,d00,↓vcPre,↓z8,↓reduceIte,vcPost,vcStd,Nat.reduceEqDiff,reduceCtorEq,Nat.reduceAdd,Nat.reduceLeDiff,Int.reduceLT,Int.reduceLE,↓u_setN]
    refine AllocQ.i0 fun d hd => ?_
    simp only [↓vcPre,↓z8,↓reduceIte,vcPost,vcStd,Nat.reduceEqDiff,reduceCtorEq,Nat.reduceAdd,Nat.reduceLeDiff,Int.reduceLT,Int.reduceLE,↓u_setN]
    have hsd:=Store.sub_set W d (.arr 1 [[.int .i64 c.kind]]) hd
    obtain ⟨q1,q2,pv,cv,q3,q4,q5⟩:=hA
    refine Own.appK (τ:=σ) (bytes:=8) (Store.sub_trans q2 (Store.sub_trans hsb hsd)) ((to.mono hsb).mono hsd) (zq (Store.set_same _ _ _) rfl) (by simp;omega) fun v' y hy ho hk2 => ?_
    have kk:∀ q o,t q=some o→(∀ L,o ≠ .arr 1 L)→y q=some o:=fun q o hq hn=>hk2 _ _ (hsd _ _ (hsb _ _ hq)) (fun L=>hn L)
    exact (hgo a' v' y hs ⟨q1,hy,pv,cv,kk _ _ q3 (fun L e=>by cases e),q4,q5⟩ (kk _ _ t4 (fun L e=>by cases e)) (kk _ _ t6 (fun L e=>by cases e)) (kk _ _ tm hM) (by simpa [cI] using ho)).1
  | error nt =>
    rw [hs] at hpost
    obtain ⟨rfl,hA⟩:=hpost
    simp only [noteV]
    simp only [↓vcPre,↓z8,↓reduceIte,vcPost,vcStd,Nat.reduceEqDiff,reduceCtorEq,Nat.reduceAdd,Nat.reduceLeDiff,Int.reduceLT,Int.reduceLE,↓u_setN]
    refine AllocQ.i0 fun b hb => ?_
    simp only [↓vcPre,↓z8,↓reduceIte,vcPost,vcStd,Nat.reduceEqDiff,reduceCtorEq,Nat.reduceAdd,Nat.reduceLeDiff,Int.reduceLT,Int.reduceLE,↓u_setN]
    have hsb:Store.sub t ((t.set b (.box [.int .i64 0,.int .i64 0,.nils])).set b (.box [.int .i64 3,.int .i64 nt.1,.sl 1 (nt.2.map cB)])):=zb (Store.sub_set _ _ _ hb) hb
    have hbb:((t.set b (.box [.int .i64 0,.int .i64 0,.nils])).set b (.box [.int .i64 3,.int .i64 nt.1,.sl 1 (nt.2.map cB)])) b=some (.box [.int .i64 3,.int .i64 nt.1,.sl 1 (nt.2.map cB)]):=Store.set_same _ _ _
    generalize (t.set b (.box [.int .i64 0,.int .i64 0,.nils])).set b (.box [.int .i64 3,.int .i64 nt.1,.sl 1 (nt.2.map cB)])=W at hsb hbb ⊢
    have b4:¬ p4=b:=fun e=>by rw [e,hb] at t4;cases t4
    have b4':¬ b=p4:=fun e=>b4 e.symm
    have d30:((3:Int)=0)=False:=by simp
    simp only [d30,hsb _ _ t4,hsb _ _ t6,hbb,h46,h6,b4,b4',zC9,szz,szn,szl,↓vcPre,↓z8,↓reduceIte,vcPost,vcStd,Nat.reduceEqDiff,reduceCtorEq,Nat.reduceAdd,Nat.reduceLeDiff,Int.reduceLT,Int.reduceLE,↓u_setN]
    exact ⟨hbad _ nt hs (Store.sub_trans hA hsb),hbad _ nt hs (Store.sub_trans hA hsb)⟩
theorem zd1 {f:Nat} {cells cells':List AV} {s:Store} {Q:AV→Store→Prop} (hi:ImpL cells cells') (h:ACalls Tryz.prog f [.agg cells'] s Q):ACalls Tryz.prog f [.agg cells] s Q :=
 ACalls.weakArgs h.1 (WeakL.pos 0 rfl (Imp.agg hi (WeakL.pure h)))
theorem AI.imp {a:At} {pv cv:AV} (hp:pv = .sl 2 (a.path.map Seg.c)∨pv = .nils∧a.path=[]) (hc:cv = .sl 1 (a.cms.map cU)∨cv = .nils∧a.cms=[]):ImpL [.int .i64 a.org,pv,.int .u32 a.nxt,.bool a.hm,.int .u32 a.med,.bool a.hp,.int .u32 a.prf,.bool a.atm,cv] a.c:=by
 have h1:Imp pv (.sl 2 (a.path.map Seg.c)):=by
  rcases hp with rfl | ⟨rfl,e⟩
  ·exact .refl rfl
  ·rw [e];exact .nils
 have h2:Imp cv (.sl 1 (a.cms.map cU)):=by
  rcases hc with rfl | ⟨rfl,e⟩
  ·exact .refl rfl
  ·rw [e];exact .nils
 exact .cons (.refl rfl) (.cons h1 (.cons (.refl rfl) (.cons (.refl rfl) (.cons (.refl rfl) (.cons (.refl rfl) (.cons (.refl rfl) (.cons (.refl rfl) (.cons h2 .nil))))))))
def InvD (σ:Store) (p4 p6 p7 m:Nat) (inner:Bool) (B0:List Int) (w:(List Int×AV)×(At×List Int)×(List Int×AV)×Store):Prop :=
 Rd 1 σ (w.1.1.map cB) w.1.2∧U8s w.1.1∧AI σ p7 w.2.1.1 w.2.2.2∧w.2.1.1.ok∧w.2.2.2 p4=some (.box zC)∧w.2.2.2 p6=some (.box zN)∧w.2.2.2 m=some (.map (seenM w.2.1.2.reverse)) ∧
  Own 1 σ (w.2.2.1.1.map cI) w.2.2.1.2 w.2.2.2∧w.2.2.1.1.length+w.1.1.length≤B0.length∧decL inner w.1.1.length w.1.1 w.2.1.1 w.2.1.2 w.2.2.1.1=decL inner B0.length B0 zeroAt [] []
theorem z3b {b:List Int} {c:Ch} (hu:U8s b) (h:chunk b=some c):U8s c.val∧U8s c.rest∧c.val.length≤b.length∧c.all.length≤b.length:=by
 have ht:∀ (l:List Int) (n:Nat),(∀ x ∈ l,x ∈ b)→U8s (l.take n)∧U8s (l.drop n):=fun l n hl=>⟨fun x hx=>hu x (hl x (List.mem_of_mem_take hx)),fun x hx=>hu x (hl x (List.mem_of_mem_drop hx))⟩
 unfold chunk at h
 split at h
 ·split at h
  ·split at h
   ·cases h
   ·cases h
    refine ⟨(ht _ _ fun x hx=>by simp [hx]).1,(ht _ _ fun x hx=>by simp [hx]).2,by simp;omega,by simp;omega⟩
  ·split at h
   ·split at h
    ·cases h
    ·cases h
     refine ⟨(ht _ _ fun x hx=>by simp [hx]).1,(ht _ _ fun x hx=>by simp [hx]).2,by simp;omega,by simp;omega⟩
   ·cases h
 ·cases h
set_option maxHeartbeats 1000000 in
theorem zgb {σ:Store} {B:List Int} {v:AV} (hr:Rd 1 σ (B.map cB) v) (hB:B.length≤1000000) (hu:U8s B) (inner:Bool):ACalls Tryz.prog 200 [v,.bool inner] σ (fun r s=>Store.sub σ s∧∃ tv,r=outO (decA inner B) tv∧Own 1 σ (tyO (decA inner B)) tv s):=by
 refine ze Tsq.F200 (by simp [Tsq.F200,Fn.mkX]) ?_
 simp only [Tsq.F200,Fn.mkX,Tsq.b200]
 simp only [↓vcPre,↓z8,↓reduceIte,vcPost,vcStd,Nat.reduceEqDiff,reduceCtorEq,Nat.reduceAdd,Nat.reduceLeDiff,Int.reduceLT,Int.reduceLE,↓u_setN]
 refine AllocQ.i0 fun p4 h4 => ?_
 simp only [↓vcPre,↓z8,↓reduceIte,vcPost,vcStd,Nat.reduceEqDiff,reduceCtorEq,Nat.reduceAdd,Nat.reduceLeDiff,Int.reduceLT,Int.reduceLE,↓u_setN]
 refine AllocQ.i1 fun p6 h6 h46 h6s => ?_
 simp only [↓vcPre,↓z8,↓reduceIte,vcPost,vcStd,Nat.reduceEqDiff,reduceCtorEq,Nat.reduceAdd,Nat.reduceLeDiff,Int.reduceLT,Int.reduceLE,↓u_setN]
 refine AllocQ.i2 fun p7 h74 h47 h76 h67 h7s => ?_
 simp only [↓vcPre,↓z8,↓reduceIte,vcPost,vcStd,Nat.reduceEqDiff,reduceCtorEq,Nat.reduceAdd,Nat.reduceLeDiff,Int.reduceLT,Int.reduceLE,↓u_setN]
 rw [show [AV.int .i64 0,.nils,.int .u32 0,.bool false,.int .u32 0,.bool false,.int .u32 0,.bool false,.nils]=zC from rfl,show [AV.int .i64 0,.int .i64 0,.nils]=zN from rfl]
 have T4:(((σ.set p4 (.box zC)).set p6 (.box zN)).set p7 (.box zC)) p4=some (.box zC):=by rw [Store.set_ne _ _ h47,Store.set_ne _ _ h46,Store.set_same]
 have T6:(((σ.set p4 (.box zC)).set p6 (.box zN)).set p7 (.box zC)) p6=some (.box zN):=by rw [Store.set_ne _ _ h67,Store.set_same]
 have T7:(((σ.set p4 (.box zC)).set p6 (.box zN)).set p7 (.box zC)) p7=some (.box zC):=Store.set_same _ _ _
 have sT:Store.sub σ (((σ.set p4 (.box zC)).set p6 (.box zN)).set p7 (.box zC)):=zb (zb (zb (Store.sub_refl _) h4) h6s) h7s
 generalize ((σ.set p4 (.box zC)).set p6 (.box zN)).set p7 (.box zC)=T at T4 T6 T7 sT ⊢
 refine AllocQ.i0 fun m hm => ?_
 have hσm:σ m=none:=zo sT hm
 have m4:¬ m=p4:=fun e=>by rw [e,T4] at hm;cases hm
 have m6:¬ m=p6:=fun e=>by rw [e,T6] at hm;cases hm
 have m7:¬ m=p7:=fun e=>by rw [e,T7] at hm;cases hm
 have n4:¬ p4=m:=fun e=>m4 e.symm
 have n6:¬ p6=m:=fun e=>m6 e.symm
 have n7:¬ p7=m:=fun e=>m7 e.symm
 simp only [↓vcPre,↓z8,↓reduceIte,vcPost,vcStd,Nat.reduceEqDiff,reduceCtorEq,Nat.reduceAdd,Nat.reduceLeDiff,Int.reduceLT,Int.reduceLE,↓u_setN]
 have zC9:zC.length=9:=rfl
 have szz:splice 0 zC zC=some zC:=rfl
 have szn:∀ x y z:AV,splice 0 [x,y,z] zN=some [x,y,z]:=fun _ _ _=>rfl
 have bad:∀ (t:Store) (n:Nt),Store.sub σ t→decL inner B.length B zeroAt [] [] = .error n → @EndQ [(4,.ptr p4 0),(5,.nils),(6,.ptr p6 0)] ((t.set p4 (.box zC)).set p6 (.box [.int .i64 3,.int .i64 n.1,.sl 1 (n.2.map cB)])) ⟨Tsq.F200.slots,fun r s=>Store.sub σ s∧∃ tv,r=outO (decA inner B) tv∧Own 1 σ (tyO (decA inner B)) tv s⟩:=by
  intro t n ht he
  refine EndQ.three (cs:=zC) (cs':=zeroAt.c) (ns:=[.int .i64 3,.int .i64 n.1,.sl 1 (n.2.map cB)]) (ns':=[.int .i64 3,.int .i64 n.1,.sl 1 (n.2.map cB)]) (tv := .nils) ?_ zC_imp (ImpL.refl _ (by simp [AV.flat])) ⟨zb (zb ht h4) h6s,.nils,?_,?_⟩
  ·show Env.res [(4,AV.ptr p4 0),(5,.nils),(6,AV.ptr p6 0)] _ [RS.c 4 9 true,RS.t 5,RS.c 6 3 true]=_
   simp only [h46,h6,Store.set_same,↓vcPre,↓z8,↓reduceIte,vcPost,vcStd,Nat.reduceEqDiff,reduceCtorEq,Nat.reduceAdd,Nat.reduceLeDiff,Int.reduceLT,Int.reduceLE,↓u_setN]
   rfl
  ·simp only [decA,he,outO]
  ·simp only [decA,he,tyO];exact Own.nil
 refine LoopQ.inv (S:=(List Int×AV)×(At×List Int)×(List Int×AV)×Store) (fun w=>[(0,w.1.2),(1,.bool inner),(4,.ptr p4 0),(6,.ptr p6 0),(7,.ptr p7 0),(8,w.2.2.1.2),(9,.mp m)]) (fun w=>w.2.2.2) (InvD σ p4 p6 p7 m inner B) (fun w=>w.1.1.length) ((B,v),(zeroAt,[]),([],.nils),T.set m (.map [])) rfl (Store.sub_refl _) ⟨hr,hu,⟨h7s,zb sT hσm,.nils,.nils,(Store.set_ne _ _ n7).trans T7,.inr ⟨rfl,rfl⟩,.inr ⟨rfl,rfl⟩⟩,z09,(Store.set_ne _ _ n4).trans T4,(Store.set_ne _ _ n6).trans T6,Store.set_same _ _ _,Own.nil,by simp,rfl⟩ ?_
 rintro ⟨⟨B1,bv⟩,⟨a,S⟩,⟨ty,tv⟩,s⟩ ⟨k1,k2,k3,k4,k5,k6,k7,k8,k9,k10⟩
 simp only at k1 k2 k3 k4 k5 k6 k7 k8 k9 k10
 have hlen:pv .len [bv]=some (.int .i64 (B1.length:Int)):=by rw [k1.2];simp
 simp only [hlen,↓vcPre,↓z8,↓reduceIte,vcPost,vcStd,Nat.reduceEqDiff,reduceCtorEq,Nat.reduceAdd,Nat.reduceLeDiff,Int.reduceLT,Int.reduceLE,↓u_setN]
 have hσs:=k3.2.1
 refine ⟨fun c1 => ?_,fun c1 => ?_⟩
 ·obtain ⟨x0,B2,hB2⟩:∃ x r,B1=x::r:=by cases B1 with | nil=>simp at c1 | cons x r=>exact ⟨x,r,rfl⟩
  refine (zio k3.2.1 k1 (by omega) k2).Q ?_
  rintro r s1 ⟨rfl,hcr⟩
  have hstep:decL inner B1.length B1 a S ty=match chunk B1 with
   | none => .error (1,[])
   | some c=>if c.kind ∈ S then .error (1,[]) else if c.kind=5∧inner=false then decL inner c.rest.length c.rest a (c.kind::S) ty
     else match stepA c a with | .error n => .error n | .ok a'=>decL inner c.rest.length c.rest a' (c.kind::S) (ty++[c.kind]):=by
   rw [hB2]
   show decL inner (B2.length+1) (x0::B2) a S ty=_
   simp only [decL]
   cases hc:chunk (x0::B2) with
   | none=>rfl
   | some c =>
     have hl:=u7 hc
     simp only [List.length_cons] at hl
     have e:=fun a S ty=>qs inner B2.length c.rest.length c.rest a S ty (by omega) (Nat.le_refl _)
     simp only [e]
     rfl
  rw [k10] at hstep
  cases hc:chunk B1 with
  | none =>
    rw [hc] at hcr hstep
    subst hcr
    simp only [↓vcPre,↓z8,↓reduceIte,vcPost,vcStd,Nat.reduceEqDiff,reduceCtorEq,Nat.reduceAdd,Nat.reduceLeDiff,Int.reduceLT,Int.reduceLE,↓u_setN]
    refine AllocQ.i0 fun x hx => ?_
    simp only [↓vcPre,↓z8,↓reduceIte,vcPost,vcStd,Nat.reduceEqDiff,reduceCtorEq,Nat.reduceAdd,Nat.reduceLeDiff,Int.reduceLT,Int.reduceLE,↓u_setN]
    have sU:Store.sub s1 ((s1.set x (.box [.int .i64 0,.int .i64 0,.nils,.nils])).set x (.box [.int .i64 0,.int .i64 0,.nils,.nils])):=zb (Store.sub_set _ _ _ hx) hx
    have Ux:((s1.set x (.box [.int .i64 0,.int .i64 0,.nils,.nils])).set x (.box [.int .i64 0,.int .i64 0,.nils,.nils])) x=some (.box [.int .i64 0,.int .i64 0,.nils,.nils]):=Store.set_same _ _ _
    generalize (s1.set x (.box [.int .i64 0,.int .i64 0,.nils,.nils])).set x (.box [.int .i64 0,.int .i64 0,.nils,.nils])=U at sU Ux ⊢
    have U4:=sU _ _ k5
    have U6:=sU _ _ k6
    have Um:=sU _ _ k7
    have σU:=Store.sub_trans hσs sU
    refine (z24 (M:=[]) Rd.nils (by simp) 1).Q ?_
    rintro r t ⟨rfl,rfl⟩
    simp only [U4,U6,h46,h6,zC9,szz,szn,↓vcPre,↓z8,↓reduceIte,vcPost,vcStd,Nat.reduceEqDiff,reduceCtorEq,Nat.reduceAdd,Nat.reduceLeDiff,Int.reduceLT,Int.reduceLE,↓u_setN]
    exact bad _ (1,[]) σU hstep
  | some c =>
    rw [hc] at hcr hstep
    simp only at hcr hstep
    obtain ⟨av,rv,rfl,hra,hrr⟩:=hcr
    have hcl:=u7 hc
    have cu:=z3b k2 hc
    simp only [↓vcPre,↓z8,↓reduceIte,vcPost,vcStd,Nat.reduceEqDiff,reduceCtorEq,Nat.reduceAdd,Nat.reduceLeDiff,Int.reduceLT,Int.reduceLE,↓u_setN]
    refine AllocQ.i0 fun x hx => ?_
    simp only [↓vcPre,↓z8,↓reduceIte,vcPost,vcStd,Nat.reduceEqDiff,reduceCtorEq,Nat.reduceAdd,Nat.reduceLeDiff,Int.reduceLT,Int.reduceLE,↓u_setN]
    have sU:Store.sub s1 ((s1.set x (.box [.int .i64 0,.int .i64 0,.nils,.nils])).set x (.box [.int .i64 c.fl,.int .i64 c.kind,.sl 1 (c.val.map cB),av])):=zb (Store.sub_set _ _ _ hx) hx
    have Ux:((s1.set x (.box [.int .i64 0,.int .i64 0,.nils,.nils])).set x (.box [.int .i64 c.fl,.int .i64 c.kind,.sl 1 (c.val.map cB),av])) x=some (.box [.int .i64 c.fl,.int .i64 c.kind,.sl 1 (c.val.map cB),av]):=Store.set_same _ _ _
    generalize (s1.set x (.box [.int .i64 0,.int .i64 0,.nils,.nils])).set x (.box [.int .i64 c.fl,.int .i64 c.kind,.sl 1 (c.val.map cB),av])=U at sU Ux ⊢
    have U4:=sU _ _ k5
    have U6:=sU _ _ k6
    have Um:=sU _ _ k7
    have σU:=Store.sub_trans hσs sU
    have hx7:¬ p7=x:=fun e=>by obtain ⟨_,_,pv,cv,h,_⟩:=k3;rw [e,hx] at h;cases h
    have hx4:¬ p4=x:=fun e=>by rw [e,hx] at k5;cases k5
    have hx6:¬ p6=x:=fun e=>by rw [e,hx] at k6;cases k6
    have hxm:¬ m=x:=fun e=>by rw [e,hx] at k7;cases k7
    have g7:¬ x=p7:=fun e=>hx7 e.symm
    have gm:¬ x=m:=fun e=>hxm e.symm
    have g4:¬ x=p4:=fun e=>hx4 e.symm
    have g6:¬ x=p6:=fun e=>hx6 e.symm
    rw [zbb Um]
    by_cases hk:c.kind ∈ S
    ·rw [if_pos hk] at hstep
     rw [decide_eq_true (List.mem_reverse.2 hk)]
     simp only [↓vcPre,↓z8,↓reduceIte,vcPost,vcStd,Nat.reduceEqDiff,reduceCtorEq,Nat.reduceAdd,Nat.reduceLeDiff,Int.reduceLT,Int.reduceLE,↓u_setN]
     refine (z24 (M:=[]) Rd.nils (by simp) 1).Q ?_
     rintro r t ⟨rfl,rfl⟩
     simp only [U4,U6,h46,h6,zC9,szz,szn,↓vcPre,↓z8,↓reduceIte,vcPost,vcStd,Nat.reduceEqDiff,reduceCtorEq,Nat.reduceAdd,Nat.reduceLeDiff,Int.reduceLT,Int.reduceLE,↓u_setN]
     exact bad _ (1,[]) σU hstep
    ·rw [if_neg hk] at hstep
     have hk':c.kind ∉ S.reverse:=fun h=>hk (List.mem_reverse.1 h)
     rw [decide_eq_false hk']
     simp only [↓vcPre,↓z8,↓reduceIte,vcPost,vcStd,Nat.reduceEqDiff,reduceCtorEq,Nat.reduceAdd,Nat.reduceLeDiff,Int.reduceLT,Int.reduceLE,↓u_setN]
     refine zaa Um hk' ?_
     rw [←List.reverse_cons]
     have hV:Store.sub σ (U.set m (.map (seenM (c.kind::S).reverse))):=zb σU hσm
     have Vx:(U.set m (.map (seenM (c.kind::S).reverse))) x=some (.box [.int .i64 c.fl,.int .i64 c.kind,.sl 1 (c.val.map cB),av]):=by rw [Store.set_ne _ _ gm];exact Ux
     have V4:(U.set m (.map (seenM (c.kind::S).reverse))) p4=some (.box zC):=by rw [Store.set_ne _ _ n4];exact U4
     have V6:(U.set m (.map (seenM (c.kind::S).reverse))) p6=some (.box zN):=by rw [Store.set_ne _ _ n6];exact U6
     have Vm:(U.set m (.map (seenM (c.kind::S).reverse))) m=some (.map (seenM (c.kind::S).reverse)):=Store.set_same _ _ _
     have VA:AI σ p7 a (U.set m (.map (seenM (c.kind::S).reverse))):=by
      obtain ⟨q1,q2,pv,cv,q3,q4,q5⟩:=k3
      exact ⟨q1,hV,pv,cv,by rw [Store.set_ne _ _ n7];exact sU _ _ q3,q4,q5⟩
     have Vo:Own 1 σ (ty.map cI) tv (U.set m (.map (seenM (c.kind::S).reverse))):=(k8.mono sU).setId Um (fun M e=>by cases e)
     generalize U.set m (.map (seenM (c.kind::S).reverse))=V at hV Vx V4 V6 Vm VA Vo ⊢
     simp only [Vx,↓vcPre,↓z8,↓reduceIte,vcPost,vcStd,Nat.reduceEqDiff,reduceCtorEq,Nat.reduceAdd,Nat.reduceLeDiff,Int.reduceLT,Int.reduceLE,↓u_setN]
     have next:∀ (a':At) (ty':List Int) (tv':AV) (t:Store),AI σ p7 a' t→a'.ok→t p4=some (.box zC)→t p6=some (.box zN)→t m=some (.map (seenM (c.kind::S).reverse))→Own 1 σ (ty'.map cI) tv' t→ty'.length≤ty.length+1→decL inner B.length B zeroAt [] []=decL inner c.rest.length c.rest a' (c.kind::S) ty' →
      InvD σ p4 p6 p7 m inner B ((c.rest,rv),(a',c.kind::S),(ty',tv'),t):=by
      intro a' ty' tv' t g1 g2 g3 g4' g5 g6' g7' g8
      exact ⟨hrr,cu.2.1,g1,g2,g3,g4',g5,g6',by simp only;omega,g8.symm⟩
     have go5:c.kind=5∧inner=false→InvD σ p4 p6 p7 m inner B ((c.rest,rv),(a,c.kind::S),(ty,tv),V):=fun h=>next a ty tv V VA k4 V4 V6 Vm Vo (by omega) (by rw [hstep,if_pos h])
     refine ⟨fun e5 => ?_,fun e5 => ?_⟩
     ·cases inner with
      | false =>
        simp only [↓vcPre,↓z8,↓reduceIte,vcPost,vcStd,Nat.reduceEqDiff,reduceCtorEq,Nat.reduceAdd,Nat.reduceLeDiff,Int.reduceLT,Int.reduceLE,↓u_setN]
        exact NextQ.to ((c.rest,rv),(a,c.kind::S),(ty,tv),V) rfl (Store.sub_refl _) (by simp only;omega) (go5 ⟨e5,rfl⟩)
      | true =>
        have hn:¬ (c.kind=5∧true=false):=by simp
        simp only [↓vcPre,↓z8,↓reduceIte,vcPost,vcStd,Nat.reduceEqDiff,reduceCtorEq,Nat.reduceAdd,Nat.reduceLeDiff,Int.reduceLT,Int.reduceLE,↓u_setN]
        refine z7p (σ:=σ) true c a ty h46 h6 hx4 hx6 hx7 h47 h67 m7 hV Vx V4 V6 Vm (fun L e=>by cases e) n7 VA Vo (by omega) cu.1 (by omega) (by omega) hra (fun a' tv' t g0 g1 g3 g4' g5 g6' => ?_) (fun t nt g0 g1 => ?_)
        ·have I:=next a' (ty++[c.kind]) tv' t g1 (z14 g0 k4 (by omega)) g3 g4' g5 g6' (by simp) (by rw [hstep,if_neg hn,g0])
         refine ⟨NextQ.to ((c.rest,rv),(a',c.kind::S),(ty++[c.kind],tv'),t) rfl (Store.sub_refl _) (by simp only;omega) I,?_⟩
         rw [if_pos rfl]
         exact NextQ.to ((c.rest,rv),(a',c.kind::S),(ty++[c.kind],tv'),t) rfl (Store.sub_refl _) (by simp only;omega) I
        ·exact bad t nt g1 (by rw [hstep,if_neg hn,g0])
     ·have hn:¬ (c.kind=5∧inner=false):=fun h=>e5 h.1
      refine z7p (σ:=σ) inner c a ty h46 h6 hx4 hx6 hx7 h47 h67 m7 hV Vx V4 V6 Vm (fun L e=>by cases e) n7 VA Vo (by omega) cu.1 (by omega) (by omega) hra (fun a' tv' t g0 g1 g3 g4' g5 g6' => ?_) (fun t nt g0 g1 => ?_)
      ·have I:=next a' (ty++[c.kind]) tv' t g1 (z14 g0 k4 (by omega)) g3 g4' g5 g6' (by simp) (by rw [hstep,if_neg hn,g0])
       refine ⟨NextQ.to ((c.rest,rv),(a',c.kind::S),(ty++[c.kind],tv'),t) rfl (Store.sub_refl _) (by simp only;omega) I,?_⟩
       rw [if_pos rfl]
       exact NextQ.to ((c.rest,rv),(a',c.kind::S),(ty++[c.kind],tv'),t) rfl (Store.sub_refl _) (by simp only;omega) I
      ·exact bad t nt g1 (by rw [hstep,if_neg hn,g0])
 ·have hB0:B1=[]:=by cases B1 with | nil=>rfl | cons x r=>simp at c1
  subst hB0
  simp only [Tsq.t200_82]
  have hfin:decL inner B.length B zeroAt [] [] = .ok (a,ty):=by rw [←k10];rfl
  simp only [↓vcPre,↓z8,↓reduceIte,vcPost,vcStd,Nat.reduceEqDiff,reduceCtorEq,Nat.reduceAdd,Nat.reduceLeDiff,Int.reduceLT,Int.reduceLE,↓u_setN]
  have e9:∀ x:At,x.c.length=9:=fun _=>rfl
  have spZ:∀ x:At,splice 0 x.c zC=some x.c:=fun _=>rfl
  have snl:splice 0 [.int .i64 0,.int .i64 0,.nils] zN=some zN:=rfl
  have z3:zN.length=3:=rfl
  obtain ⟨q1,q2,pv,cv,q3,q4,q5⟩:=k3
  have fin:∀ (t:Store) (ty':List Int),ty'=ty.mergeSort leI→Store.sub σ t→t p7=some (.box [.int .i64 a.org,pv,.int .u32 a.nxt,.bool a.hm,.int .u32 a.med,.bool a.hp,.int .u32 a.prf,.bool a.atm,cv])→t p4=some (.box zC)→t p6=some (.box zN)→Own 1 σ (ty'.map cI) tv t →
   ACalls Tryz.prog 74 [.agg [.int .i64 a.org,pv,.int .u32 a.nxt,.bool a.hm,.int .u32 a.med,.bool a.hp,.int .u32 a.prf,.bool a.atm,cv]] t (fun r s'=>s'=t∧r = .agg (canonA a).c) ∧
   @EndQ [(4,.ptr p4 0),(5,tv),(6,.ptr p6 0)] ((t.set p4 (.box (canonA a).c)).set p6 (.box zN)) ⟨Tsq.F200.slots,fun r s=>Store.sub σ s∧∃ tv,r=outO (decA inner B) tv∧Own 1 σ (tyO (decA inner B)) tv s⟩:=by
   intro t ty' hty ht h7 h4' h6' ho
   refine ⟨zd1 (AI.imp q4 q5) (c74 a k4 t),?_⟩
   have ho2:Own 1 σ (ty'.map cI) tv ((t.set p4 (.box (canonA a).c)).set p6 (.box zN)):=(ho.setId h4' (fun M e=>by cases e)).setId (by rw [Store.set_ne _ _ h6];exact h6') (fun M e=>by cases e)
   refine EndQ.three (cs:=(canonA a).c) (cs':=(canonA a).c) (ns:=zN) (ns':=[.int .i64 0,.int .i64 0,.sl 1 []]) (tv:=tv) ?_ (ImpL.refl _ (fun c hc => ?_)) (.cons (.refl rfl) (.cons (.refl rfl) (.cons .nils .nil))) ⟨zb (zb ht h4) h6s,tv,?_,?_⟩
   ·show Env.res [(4,AV.ptr p4 0),(5,tv),(6,AV.ptr p6 0)] _ [RS.c 4 9 true,RS.t 5,RS.c 6 3 true]=_
    simp only [h46,h6,Store.set_same,↓vcPre,↓z8,↓reduceIte,vcPost,vcStd,Nat.reduceEqDiff,reduceCtorEq,Nat.reduceAdd,Nat.reduceLeDiff,Int.reduceLT,Int.reduceLE,↓u_setN]
    rfl
   ·simp only [At.c,List.mem_cons,List.not_mem_nil,or_false] at hc
    rcases hc with rfl | rfl | rfl | rfl | rfl | rfl | rfl | rfl | rfl <;> rfl
   ·simp only [decA,hfin,outO]
   ·simp only [decA,hfin,tyO];rw [←hty];exact ho2
  rcases k8 with ⟨hL,hv⟩ | ⟨g,hv,hg,hh⟩
  ·have hnil:ty=[]:=List.map_eq_nil_iff.1 hL
   subst hv
   refine (z4z hI s).Q ?_
   rintro r t ⟨rfl,rfl⟩
   have F:=fin t ty (by rw [hnil];simp) q2 q3 k5 k6 (.inl ⟨hL,rfl⟩)
   simp only [q3,↓vcPre,↓z8,↓reduceIte,vcPost,vcStd,Nat.reduceEqDiff,reduceCtorEq,Nat.reduceAdd,Nat.reduceLeDiff,Int.reduceLT,Int.reduceLE,↓u_setN]
   refine F.1.Q ?_
   rintro r t' ⟨rfl,rfl⟩
   simp only [k5,k6,h46,h6,e9,spZ,snl,z3,↓vcPre,↓z8,↓reduceIte,vcPost,vcStd,Nat.reduceEqDiff,reduceCtorEq,Nat.reduceAdd,Nat.reduceLeDiff,Int.reduceLT,Int.reduceLE,↓u_setN]
   exact F.2
  ·rw [List.length_map] at hv
   subst hv
   refine (z3l hI hh (by omega)).Q ?_
   rintro r t ⟨rfl,L',hp1,hp2,rfl⟩
   have g7:¬ p7=g:=fun e=>by rw [e,hh] at q3;cases q3
   have g4:¬ p4=g:=fun e=>by rw [e,hh] at k5;cases k5
   have g6:¬ p6=g:=fun e=>by rw [e,hh] at k6;cases k6
   have t7:(s.set g (.arr 1 (L'.map (cK .i64)))) p7=some (.box [.int .i64 a.org,pv,.int .u32 a.nxt,.bool a.hm,.int .u32 a.med,.bool a.hp,.int .u32 a.prf,.bool a.atm,cv]):=by rw [Store.set_ne _ _ g7];exact q3
   have t4:(s.set g (.arr 1 (L'.map (cK .i64)))) p4=some (.box zC):=by rw [Store.set_ne _ _ g4];exact k5
   have t6:(s.set g (.arr 1 (L'.map (cK .i64)))) p6=some (.box zN):=by rw [Store.set_ne _ _ g6];exact k6
   have F:=fin (s.set g (.arr 1 (L'.map (cK .i64)))) L' (z43 hp1 hp2) (zb q2 hg) t7 t4 t6 (.inr ⟨g,by simp [hp1.length_eq],hg,Store.set_same _ _ _⟩)
   generalize s.set g (.arr 1 (L'.map (cK .i64)))=t at t7 t4 t6 F ⊢
   simp only [t7,↓vcPre,↓z8,↓reduceIte,vcPost,vcStd,Nat.reduceEqDiff,reduceCtorEq,Nat.reduceAdd,Nat.reduceLeDiff,Int.reduceLT,Int.reduceLE,↓u_setN]
   refine F.1.Q ?_
   rintro r t' ⟨rfl,rfl⟩
   simp only [t4,t6,h46,h6,e9,spZ,snl,z3,↓vcPre,↓z8,↓reduceIte,vcPost,vcStd,Nat.reduceEqDiff,reduceCtorEq,Nat.reduceAdd,Nat.reduceLeDiff,Int.reduceLT,Int.reduceLE,↓u_setN]
   exact F.2
theorem zin {σ:Store} {B:List Int} {v:AV} (hr:Rd 1 σ (B.map cB) v) (hB:B.length≤1000000) (hu:U8s B) (inner:Bool):ACalls Tryz.prog 200 [v,.bool inner] σ (fun r s=>s=σ∧r=outD (decA inner B)):=by
 refine (zgb hr hB hu inner).weakRes ?_
 rintro r s ⟨hs,tv,rfl,ho⟩
 cases h:decA inner B with
 | error n=>rw [h] at ho;exact Weak.tup (z48 (Q:=fun a s=>s=σ∧a=outD (.error n)) ho hs ⟨rfl,rfl⟩)
 | ok x=>rw [h] at ho;exact Weak.tup (z48 (Q:=fun a s=>s=σ∧a=outD (.ok x)) ho hs ⟨rfl,rfl⟩)
end Go.Am
namespace Go.Am
open Go.Proofs Go.Sort
theorem zhr (p:List Seg) (h:p.length≤1000000) (ho:∀ s ∈ p,s.ok):Pur Tryz.prog 146 [.sl 2 (p.map Seg.c)] (.sl 2 (p.map Seg.c)):=by
 intro σ
 refine ze Tst.F146 (by simp [Tst.F146,Fn.mkX]) ?_
 simp only [Tst.F146,Fn.mkX,Tst.b146]
 simp only [↓vcPre,↓z8,↓reduceIte,vcPost,vcStd,Nat.reduceEqDiff,reduceCtorEq,Nat.reduceAdd,Nat.reduceLeDiff,Int.reduceLT,Int.reduceLE,↓u_setN]
 refine LoopQ.inv (S:=Nat×AV×Store) (fun q=>[(0,.sl 2 (p.map Seg.c)),(3,q.2.1),(4,.int .i64 (q.1:Int))]) (fun q=>q.2.2)
  (fun q=>q.1≤p.length∧Store.sub σ q.2.2∧OwnP σ (p.take q.1) q.2.1 q.2.2) (fun q=>p.length+1 - q.1) (0,.nils,σ) rfl (Store.sub_refl _) ⟨by simp only;omega,Store.sub_refl _,OwnP.nil⟩ ?_
 rintro ⟨k,v,s⟩ ⟨hk,hs,ho'⟩
 simp only at hk hs ho'
 simp only [↓vcPre,↓z8,↓reduceIte,vcPost,vcStd,Nat.reduceEqDiff,reduceCtorEq,Nat.reduceAdd,Nat.reduceLeDiff,Int.reduceLT,Int.reduceLE,↓u_setN]
 refine ⟨fun c1 => ?_,fun c1 => ?_⟩
 ·have ek:IntKind.i64.wrap ((k:Int)+1)=((k+1:Nat):Int):=by rw [zd (by unfold I64;omega)];omega
  have hx:=ho _ (List.getElem_mem c1)
  unfold Seg.ok at hx
  refine ⟨c1,c1,by simp [Seg.c],?_⟩
  simp only [Seg.c,↓vcPre,↓z8,↓reduceIte,vcPost,vcStd,Nat.reduceEqDiff,reduceCtorEq,Nat.reduceAdd,Nat.reduceLeDiff,Int.reduceLT,Int.reduceLE,↓u_setN]
  have hroom:(([]:List (List AV)).length+(p[k].ls.map cU).length)*4≤140737488355328:=by simp;omega
  refine ⟨?_,?_⟩
  ·refine AllocQ.i0 fun i hi => ?_
   simp only [↓vcPre,↓z8,↓reduceIte,vcPost,vcStd,Nat.reduceEqDiff,reduceCtorEq,Nat.reduceAdd,Nat.reduceLeDiff,Int.reduceLT,Int.reduceLE,↓u_setN]
   refine xd (zq (Store.set_same _ _ _) rfl) us hroom fun j hj => ?_
   simp only [↓vcPre,↓z8,↓reduceIte,vcPost,vcStd,Nat.reduceEqDiff,reduceCtorEq,Nat.reduceAdd,Nat.reduceLeDiff,Int.reduceLT,Int.reduceLE,↓u_setN]
   have hji:j≠i:=fun e=>by subst e;rw [Store.set_same] at hj;cases hj
   have hj0:s j=none:=by rw [Store.set_ne _ _ hji] at hj;exact hj
   have hsub:Store.sub s (((s.set i (Obj.arr 1 [])).del i).set j (Obj.arr 1 (List.map cU p[k].ls))):=fun y o hy=>by
    have h1:y≠i:=fun e=>by subst e;rw [hi] at hy;cases hy
    have h2:y≠j:=fun e=>by subst e;rw [hj0] at hy;cases hy
    rw [Store.set_ne _ _ h2,Store.del_ne _ h1,Store.set_ne _ _ h1];exact hy
   have hjs:(((s.set i (Obj.arr 1 [])).del i).set j (Obj.arr 1 (List.map cU p[k].ls))) j=some (.arr 1 (p[k].ls.map cU)):=Store.set_same _ _ _
   refine AllocQ.i0 fun b hb => ?_
   simp only [Nat.zero_add,↓vcPre,↓z8,↓reduceIte,vcPost,vcStd,Nat.reduceEqDiff,reduceCtorEq,Nat.reduceAdd,Nat.reduceLeDiff,Int.reduceLT,Int.reduceLE,↓u_setN]
   refine OwnP.app (τ:=σ) (s0:=s) (x:=p[k]) (j:=j) hs (Store.sub_trans hsub (Store.sub_set _ b _ hb)) ho' (Store.sub_set _ b _ hb _ _ hjs) hj0 (zq (Store.set_same _ _ _) rfl) (by simp;omega) fun v' s' hs' ho'' => ?_
   rw [ek]
   refine NextQ.to (k+1,v',s') rfl (Store.sub_refl _) (by simp only;omega) ⟨by simp only;omega,hs',?_⟩
   simp only [List.take_add_one,List.getElem?_eq_getElem c1,Option.toList_some]
   exact ho''
  ·refine AllocQ.i0 fun i hi => ?_
   simp only [↓vcPre,↓z8,↓reduceIte,vcPost,vcStd,Nat.reduceEqDiff,reduceCtorEq,Nat.reduceAdd,Nat.reduceLeDiff,Int.reduceLT,Int.reduceLE,↓u_setN]
   refine ⟨⟨by simp [Seg.c],?_⟩,?_⟩
   ·simp only [Seg.c,↓vcPre,↓z8,↓reduceIte,vcPost,vcStd,Nat.reduceEqDiff,reduceCtorEq,Nat.reduceAdd,Nat.reduceLeDiff,Int.reduceLT,Int.reduceLE,↓u_setN]
    refine xd (zq (Store.set_same _ _ _) rfl) us hroom fun j hj => ?_
    simp only [↓vcPre,↓z8,↓reduceIte,vcPost,vcStd,Nat.reduceEqDiff,reduceCtorEq,Nat.reduceAdd,Nat.reduceLeDiff,Int.reduceLT,Int.reduceLE,↓u_setN]
    have hji:j≠i:=fun e=>by subst e;rw [Store.set_same] at hj;cases hj
    have hj0:s j=none:=by rw [Store.set_ne _ _ hji] at hj;exact hj
    have hsub:Store.sub s (((s.set i (Obj.arr 1 [])).del i).set j (Obj.arr 1 (List.map cU p[k].ls))):=fun y o hy=>by
     have h1:y≠i:=fun e=>by subst e;rw [hi] at hy;cases hy
     have h2:y≠j:=fun e=>by subst e;rw [hj0] at hy;cases hy
     rw [Store.set_ne _ _ h2,Store.del_ne _ h1,Store.set_ne _ _ h1];exact hy
    have hjs:(((s.set i (Obj.arr 1 [])).del i).set j (Obj.arr 1 (List.map cU p[k].ls))) j=some (.arr 1 (p[k].ls.map cU)):=Store.set_same _ _ _
    refine AllocQ.i0 fun b hb => ?_
    simp only [Nat.zero_add,↓vcPre,↓z8,↓reduceIte,vcPost,vcStd,Nat.reduceEqDiff,reduceCtorEq,Nat.reduceAdd,Nat.reduceLeDiff,Int.reduceLT,Int.reduceLE,↓u_setN]
    refine OwnP.app (τ:=σ) (s0:=s) (x:=p[k]) (j:=j) hs (Store.sub_trans hsub (Store.sub_set _ b _ hb)) ho' (Store.sub_set _ b _ hb _ _ hjs) hj0 (zq (Store.set_same _ _ _) rfl) (by simp;omega) fun v' s' hs' ho'' => ?_
    rw [ek]
    refine NextQ.to (k+1,v',s') rfl (Store.sub_refl _) (by simp only;omega) ⟨by simp only;omega,hs',?_⟩
    simp only [List.take_add_one,List.getElem?_eq_getElem c1,Option.toList_some]
    exact ho''
   ·refine xd (zq (Store.set_same _ _ _) rfl) us hroom fun j hj => ?_
    refine ⟨by simp [Seg.c],?_⟩
    simp only [Seg.c,↓vcPre,↓z8,↓reduceIte,vcPost,vcStd,Nat.reduceEqDiff,reduceCtorEq,Nat.reduceAdd,Nat.reduceLeDiff,Int.reduceLT,Int.reduceLE,↓u_setN]
    have hji:j≠i:=fun e=>by subst e;rw [Store.set_same] at hj;cases hj
    have hj0:s j=none:=by rw [Store.set_ne _ _ hji] at hj;exact hj
    have hsub:Store.sub s (((s.set i (Obj.arr 1 [])).del i).set j (Obj.arr 1 (List.map cU p[k].ls))):=fun y o hy=>by
     have h1:y≠i:=fun e=>by subst e;rw [hi] at hy;cases hy
     have h2:y≠j:=fun e=>by subst e;rw [hj0] at hy;cases hy
     rw [Store.set_ne _ _ h2,Store.del_ne _ h1,Store.set_ne _ _ h1];exact hy
    have hjs:(((s.set i (Obj.arr 1 [])).del i).set j (Obj.arr 1 (List.map cU p[k].ls))) j=some (.arr 1 (p[k].ls.map cU)):=Store.set_same _ _ _
    refine AllocQ.i0 fun b hb => ?_
    simp only [Nat.zero_add,↓vcPre,↓z8,↓reduceIte,vcPost,vcStd,Nat.reduceEqDiff,reduceCtorEq,Nat.reduceAdd,Nat.reduceLeDiff,Int.reduceLT,Int.reduceLE,↓u_setN]
    refine OwnP.app (τ:=σ) (s0:=s) (x:=p[k]) (j:=j) hs (Store.sub_trans hsub (Store.sub_set _ b _ hb)) ho' (Store.sub_set _ b _ hb _ _ hjs) hj0 (zq (Store.set_same _ _ _) rfl) (by simp;omega) fun v' s' hs' ho'' => ?_
    rw [ek]
    refine NextQ.to (k+1,v',s') rfl (Store.sub_refl _) (by simp only;omega) ⟨by simp only;omega,hs',?_⟩
    simp only [List.take_add_one,List.getElem?_eq_getElem c1,Option.toList_some]
    exact ho''
 ·have hkl:p.take k=p:=List.take_of_length_le (by omega)
  rw [hkl] at ho'
  exact EndQ.ownP rfl ho' hs ⟨rfl,rfl⟩
end Go.Am
namespace Go.Am.Tsf
open Go.Proofs Go.Am.B
def t40_34:BC := .seq (z [m 34 0] [0,1,5,34] (z [m 35 5] [0,1,5,34,35] (z [p 36 (.slice 1 false true) [.t 34,.t 35]] [0,1,5,36] (z [m 38 1] [0,5,36,38] (z [m 41 0] [5,36,38,41] (z [m 42 5] [36,38,41,42] (z [p 43 (.slice 1 true false) [.t 41,.t 42]] [36,38,43] (.both (z [⟨some 33,none,.alloc (.mksl 1 0),[]⟩] [33,36,38,43] (.both (z [⟨some 37,none,.loud (.app 1 4),[.t 33,.t 36]⟩] [37,38,43] (z [⟨some 39,none,.alloc (.mksl 1 1),[.t 38]⟩] [37,39,43] (z [⟨some 40,none,.loud (.app 1 4),[.t 37,.t 39]⟩] [40,43] (z [⟨some 44,none,.loud (.app 1 4),[.t 40,.t 43]⟩] [44] (z [m 4 44] [4] (.ops [] [4])))))) (.both (z [⟨some 39,none,.alloc (.mksl 1 1),[.t 38]⟩] [33,36,39,43] (z [⟨some 37,none,.loud (.app 1 4),[.t 33,.t 36]⟩] [37,39,43] (z [⟨some 40,none,.loud (.app 1 4),[.t 37,.t 39]⟩] [40,43] (z [⟨some 44,none,.loud (.app 1 4),[.t 40,.t 43]⟩] [44] (z [m 4 44] [4] (.ops [] [4])))))) (.top)))) (.both (z [⟨some 39,none,.alloc (.mksl 1 1),[.t 38]⟩] [36,39,43] (z [⟨some 33,none,.alloc (.mksl 1 0),[]⟩] [33,36,39,43] (z [⟨some 37,none,.loud (.app 1 4),[.t 33,.t 36]⟩] [37,39,43] (z [⟨some 40,none,.loud (.app 1 4),[.t 37,.t 39]⟩] [40,43] (z [⟨some 44,none,.loud (.app 1 4),[.t 40,.t 43]⟩] [44] (z [m 4 44] [4] (.ops [] [4]))))))) (.top)))))))))) .ret
def b40:BC:=z [k 4 .nils] [0,1] (z [j 5 0] [0,1,5] (.seq (.block 0 (.loop [0,1,5] (.seq (z [m 6 5,m 7 0,u 8 .len 7,b 9 .lss 6 8,m 10 9,⟨some 11,some (10,true),.pure (.mov),[.t 0]⟩,⟨some 12,some (10,true),.pure (.mov),[.t 5]⟩,⟨some 13,some (10,true),.pure (.idx 1),[.t 11,.t 12]⟩,⟨some 14,some (10,true),.load (.ld 1 false),[.t 13]⟩,⟨some 15,some (10,true),.pure (.mov),[.t 1]⟩,⟨some 16,some (10,true),.pure (.bin .lss),[.t 14,.t 15]⟩,⟨some 17,none,.pick,[.t 10,.t 16,.c (.bool false)]⟩] [0,1,5,17] (.cond (.t 17) .skip (.exit 0))) (.block 1 (.ops [m 18 5,c 19 .add 18 1,m 5 19] [0,1,5]))))) (.seq (z [m 20 5,m 21 0,u 22 .len 21,b 23 .lss 20 22,m 24 23,⟨some 25,some (24,true),.pure (.mov),[.t 0]⟩,⟨some 26,some (24,true),.pure (.mov),[.t 5]⟩,⟨some 27,some (24,true),.pure (.idx 1),[.t 25,.t 26]⟩,⟨some 28,some (24,true),.load (.ld 1 false),[.t 27]⟩,⟨some 29,some (24,true),.pure (.mov),[.t 1]⟩,⟨some 30,some (24,true),.pure (.bin .eql),[.t 28,.t 29]⟩,⟨some 31,none,.pick,[.t 24,.t 30,.c (.bool false)]⟩] [0,1,5,31] (.cond (.t 31) (z [m 32 0,m 4 32] [4] .ret) .skip)) t40_34)))
def F40:Fn Tryz.prog 40:=Fn.mkX false b40 [.t 4] 45 Tryz.f40 _ Tryz.func40 (by decide) rfl Tryz.ntmps40 (by kernel_rfl) (by kernel_rfl)
end Go.Am.Tsf
namespace Go.Am
open Go.Proofs Go.Sort
def putL:List Int→Int→List Int
 | [],n=>[n]
 | x::r,n=>if x<n then x::putL r n else if x=n then x::r else n::x::r
theorem zbk {L:List Int} {n:Int} {k:Nat} (hk:k≤L.length) (h:∀ i (h:i<L.length),i<k→L[i]<n):putL L n=L.take k++putL (L.drop k) n:=by
 induction L generalizing k with
 | nil=>simp at hk;subst hk;rfl
 | cons x r ih =>
   cases k with
   | zero=>simp
   | succ k =>
     have h0:=h 0 (by simp) (by omega)
     simp only [List.getElem_cons_zero] at h0
     simp only [putL,if_pos h0,List.take_succ_cons,List.drop_succ_cons,List.cons_append]
     rw [ih (by simpa using hk) (fun i hi hik=>by
      have:=h (i+1) (by simpa using hi) (by omega)
      simpa using this)]
theorem putL_mem {L:List Int} {n x:Int}:x ∈ putL L n↔x=n∨x ∈ L:=by
 induction L with
 | nil=>simp [putL]
 | cons y r ih =>
   simp only [putL]
   split
   ·simp [ih];grind
   ·split
    ·rename_i h;subst h;simp
    ·simp
theorem z3w {L:List Int} {n:Int} (h:Inc L):Inc (putL L n):=by
 induction L with
 | nil=>simp [putL,Inc]
 | cons y r ih =>
   simp only [putL]
   unfold Inc at h ih ⊢
   rw [List.pairwise_cons] at h
   split
   ·rename_i h1
    rw [List.pairwise_cons]
    refine ⟨fun z hz => ?_,ih h.2⟩
    rcases putL_mem.1 hz with rfl | hz
    ·exact h1
    ·exact h.1 z hz
   ·split
    ·rw [List.pairwise_cons];exact h
    ·rw [List.pairwise_cons,List.pairwise_cons]
     refine ⟨fun z hz => ?_,h⟩
     rcases List.mem_cons.1 hz with rfl | hz
     ·omega
     ·have:=h.1 z hz;omega
theorem z4c (l:List Int):l.foldl putL []=canonC l:=by
 have key:∀ (l:List Int) (b:List Int),Inc b→Inc (l.foldl putL b)∧∀ x,x ∈ l.foldl putL b↔x ∈ b∨x ∈ l:=by
  intro l
  induction l with
  | nil=>intro b hb;exact ⟨hb,by simp⟩
  | cons y r ih =>
    intro b hb
    obtain ⟨h1,h2⟩:=ih (putL b y) (z3w hb)
    refine ⟨h1,fun x => ?_⟩
    show x ∈ r.foldl putL (putL b y)↔_
    rw [h2,putL_mem];simp;grind
 obtain ⟨h1,h2⟩:=key l [] (by simp [Inc])
 exact zb7 h1 (z5k l) fun x=>by rw [h2,z5m];simp
theorem z3x (L:List Int) (n:Int):(putL L n).length≤L.length+1:=by
 induction L with
 | nil=>simp [putL]
 | cons y r ih =>
   simp only [putL]
   split
   ·simp;omega
   ·split <;> simp
end Go.Am
namespace Go.Am
open Go.Proofs Go.Sort
theorem Own.appN {esz bytes g:Nat} {τ s:Store} {L ys:List (List AV)} {wv:AV} {K:AV→Store→Prop} (hsub:Store.sub τ s) (hg:τ g=none) (hs:s g=some (.arr esz L)) (hw:slc s esz wv=some ys) (hsz:(L.length+ys.length)*bytes≤140737488355328)
 (h:∀ j s',Store.sub τ s'→τ j=none→s' j=some (.arr esz (L++ys))→K (.os j esz 0 (L.length+ys.length)) s'):appwp esz bytes (.os g esz 0 L.length) wv s K:=by
 refine xd (zq hs rfl) hw hsz fun j hj => ?_
 have hτ:τ j=none:=zo hsub hj
 refine h _ _ (fun x q hx => ?_) hτ (Store.set_same _ _ _)
 have hxj:x≠j:=fun e=>by subst e;rw [hτ] at hx;cases hx
 have hxg:x≠g:=fun e=>by subst e;rw [hg] at hx;cases hx
 rw [Store.set_ne _ _ hxj,Store.del_ne _ hxg];exact hsub x q hx
theorem z26 {esz id off n:Nat} {es:List (List AV)} {σ:Store} (h:σ id=some (.arr esz es)) (hn:off+n≤es.length):slc σ esz (.os id esz off n)=some ((es.drop off).take n):=by
 simp [slc,h,hn]
theorem z3y (L:List Int) (n:Int) (k:Nat) (hk:k≤L.length) (hL:L.length≤1000000) {g j b:Nat} {s t:Store} (hg:s g=some (.arr 1 (L.map cU))) (hsub:Store.sub s t) (hj:s j=none) (hb:s b=none) (hjb:b≠j)
 (htj:t j=some (.arr 1 ((L.take k).map cU))) (htb:t b=some (.arr 1 [cU n])) {K:AV→Store→Prop}
 (h:∀ j s',Store.sub s s'→s j=none→s' j=some (.arr 1 ((L.take k++n::L.drop k).map cU))→K (.os j 1 0 (L.length+1)) s') :
 appwp 1 4 (.os j 1 0 k) (.os b 1 0 1) t fun v s'=>appwp 1 4 v (.os g 1 k (L.length - k)) s' K:=by
 have e1:((L.take k).map cU).length=k:=by simp;omega
 have a1:=Own.appN (τ:=s) (g:=j) (bytes:=4) (L:=(L.take k).map cU) (K:=fun v s'=>appwp 1 4 v (.os g 1 k (L.length - k)) s' K) hsub hj htj (zq htb rfl) (by rw [e1];simp;omega) (fun j' s' q1 q2 q3=>by
  have e2:((L.take k).map cU++[cU n]).length=k+1:=by simp;omega
  have hs2:slc s' 1 (.os g 1 k (L.length - k))=some ((L.drop k).map cU):=by
   rw [z26 (q1 _ _ hg) (by simp;omega)]
   rw [List.take_of_length_le (by simp),List.map_drop]
  have a2:=Own.appN (τ:=s) (g:=j') (bytes:=4) (L:=(L.take k).map cU++[cU n]) (K:=K) q1 q2 q3 hs2 (by rw [e2];simp;omega) (fun j2 s2 p1 p2 p3=>by
   have e3:((L.take k).map cU++[cU n]).length+((L.drop k).map cU).length=L.length+1:=by simp;omega
   rw [e3]
   refine h j2 s2 p1 p2 ?_
   rw [p3];simp)
  rw [e2] at a2
  rw [e1];exact a2)
 rw [e1] at a1
 exact a1
theorem z59 (L:List Int) (n:Int) (k:Nat) (hk:k≤L.length) (hL:L.length≤1000000) {g i b:Nat} {s t:Store} (hg:s g=some (.arr 1 (L.map cU))) (hsub:Store.sub s t) (hi:s i=none) (hb:s b=none) (hib:b≠i)
 (hti:t i=some (.arr 1 [])) (htb:t b=some (.arr 1 [cU n])) {K:AV→Store→Prop}
 (h:∀ j s',Store.sub s s'→s j=none→s' j=some (.arr 1 ((L.take k++n::L.drop k).map cU))→K (.os j 1 0 (L.length+1)) s') :
 appwp 1 4 (.os i 1 0 0) (.os g 1 0 k) t fun v s'=>appwp 1 4 v (.os b 1 0 1) s' fun v s'=>appwp 1 4 v (.os g 1 k (L.length - k)) s' K:=by
 have hsb:Store.sub (s.set b (.arr 1 [cU n])) t:=fun y o hy=>by
  by_cases hyb:y=b
  ·subst hyb;rw [Store.set_same] at hy;cases hy;exact htb
  ·rw [Store.set_ne _ _ hyb] at hy;exact hsub _ _ hy
 have e1:((L.take k).map cU).length=k:=by simp;omega
 have hs2:slc t 1 (.os g 1 0 k)=some ((L.take k).map cU):=by
  rw [z26 (hsub _ _ hg) (by simp;omega)]
  rw [List.drop_zero,List.map_take]
 refine Own.appN (τ:=s.set b (.arr 1 [cU n])) (g:=i) (L:=[]) hsb (by rw [Store.set_ne _ _ (fun e=>hib e.symm)];exact hi) hti hs2 (by rw [e1];simp;omega) fun j s' q1 q2 q3 => ?_
 have hjb:j≠b:=fun e=>by subst e;rw [Store.set_same] at q2;cases q2
 rw [Store.set_ne _ _ hjb] at q2
 have:=z3y L n k hk hL hg (Store.sub_trans (Store.sub_set _ b _ hb) q1) q2 hb (fun e=>hjb e.symm) (by simpa using q3) (q1 _ _ (Store.set_same _ _ _)) h
 simp only [List.length_nil,Nat.zero_add,e1]
 exact this
theorem z9y (E:Env) (L:List Int) (n:Int) (k:Nat) (hk:k≤L.length) (hL:L.length≤1000000) {g:Nat} {s:Store} (hg:s g=some (.arr 1 (L.map cU))) {nn rr:Env→Store→Prop} {x:Nat→Env→Store→Prop}
 (hr:∀ j s',Store.sub s s'→s j=none→s' j=some (.arr 1 ((L.take k++n::L.drop k).map cU))→rr [(4,.os j 1 0 (L.length+1))] s') :
 bwp Tryz.prog Tsf.t40_34 ((0,.os g 1 0 L.length)::(1,.int .u32 n)::(5,.int .i64 (k:Int))::E) s nn rr x:=by
 simp only [Tsf.t40_34]
 simp only [hg,↓vcPre,↓z8,↓reduceIte,vcPost,vcStd,Nat.reduceEqDiff,reduceCtorEq,Nat.reduceAdd,Nat.reduceLeDiff,Int.reduceLT,Int.reduceLE,↓u_setN]
 refine ⟨⟨by simp only [Option.getD_some];omega,by simp only [Option.getD_some];omega⟩,⟨by simp only [Option.getD_none];omega,by simp only [Option.getD_none];omega⟩,?_,?_⟩
 ·refine AllocQ.i0 fun i hi => ?_
  simp only [hg,Option.getD_some,Option.getD_none,Int.toNat_natCast,Int.toNat_zero,Nat.sub_zero,Nat.zero_add,↓vcPre,↓z8,↓reduceIte,vcPost,vcStd,Nat.reduceEqDiff,reduceCtorEq,Nat.reduceAdd,Nat.reduceLeDiff,Int.reduceLT,Int.reduceLE,↓u_setN]
  have e1:((L.take k).map cU).length=k:=by simp;omega
  refine ⟨?_,?_⟩
  ·refine Own.appN (τ:=s) (g:=i) (L:=[]) (ys:=(L.take k).map cU) (Store.sub_set _ _ _ hi) hi (Store.set_same _ _ _) ?_ (by rw [e1];simp;omega) fun j s1 q1 q2 q3 => ?_
   ·rw [z26 (Store.sub_set _ _ _ hi _ _ hg) (by simp;omega),List.drop_zero,List.map_take]
   refine AllocQ.i0 fun b hb => ?_
   have hjb:b≠j:=fun e=>by subst e;rw [q3] at hb;cases hb
   simp only [List.length_nil,Nat.zero_add,e1,List.nil_append] at q3 ⊢
   simp only [hg,↓vcPre,↓z8,↓reduceIte,vcPost,vcStd,Nat.reduceEqDiff,reduceCtorEq,Nat.reduceAdd,Nat.reduceLeDiff,Int.reduceLT,Int.reduceLE,↓u_setN]
   refine z3y L n k hk hL hg (Store.sub_trans q1 (Store.sub_set _ b _ hb)) q2 (zo q1 hb) hjb (Store.sub_set _ b _ hb _ _ q3) (Store.set_same _ _ _) fun j2 s2 p1 p2 p3 => ?_
   exact hr j2 s2 p1 p2 p3
  ·refine AllocQ.i0 fun b hb => ?_
   simp only [hg,Option.getD_some,Option.getD_none,Int.toNat_natCast,Int.toNat_zero,Nat.sub_zero,Nat.zero_add,↓vcPre,↓z8,↓reduceIte,vcPost,vcStd,Nat.reduceEqDiff,reduceCtorEq,Nat.reduceAdd,Nat.reduceLeDiff,Int.reduceLT,Int.reduceLE,↓u_setN]
   have hbi:b≠i:=fun e=>by subst e;rw [Store.set_same] at hb;cases hb
   rw [Store.set_ne _ _ hbi] at hb
   refine z59 L n k hk hL hg (y0 hi hb hbi) hi hb hbi (by rw [Store.set_ne _ _ (fun e=>hbi e.symm),Store.set_same]) (Store.set_same _ _ _) fun j2 s2 p1 p2 p3=>hr j2 s2 p1 p2 p3
 ·refine AllocQ.i0 fun b hb => ?_
  simp only [hg,↓vcPre,↓z8,↓reduceIte,vcPost,vcStd,Nat.reduceEqDiff,reduceCtorEq,Nat.reduceAdd,Nat.reduceLeDiff,Int.reduceLT,Int.reduceLE,↓u_setN]
  refine AllocQ.i0 fun i hi => ?_
  simp only [hg,Option.getD_some,Option.getD_none,Int.toNat_natCast,Int.toNat_zero,Nat.sub_zero,Nat.zero_add,↓vcPre,↓z8,↓reduceIte,vcPost,vcStd,Nat.reduceEqDiff,reduceCtorEq,Nat.reduceAdd,Nat.reduceLeDiff,Int.reduceLT,Int.reduceLE,↓u_setN]
  have hib:i≠b:=fun e=>by subst e;rw [Store.set_same] at hi;cases hi
  rw [Store.set_ne _ _ hib] at hi
  refine z59 L n k hk hL hg (y0 hb hi hib) hi hb (fun e=>hib e.symm) (Store.set_same _ _ _) (by rw [Store.set_ne _ _ (fun e=>hib e.symm),Store.set_same];rfl) fun j2 s2 p1 p2 p3=>hr j2 s2 p1 p2 p3
end Go.Am
namespace Go.Am
open Go.Proofs Go.Sort
theorem z34 {A B:List (List AV)} {y:List AV} {w2:AV} {j b:Nat} {s t:Store} (hsub:Store.sub s t) (hj:s j=none)
 (htj:t j=some (.arr 1 A)) (htb:t b=some (.arr 1 [y])) (h2:∀ t,Store.sub s t→slc t 1 w2=some B) (hsz:(A.length+1+B.length)*4≤140737488355328) {K:AV→Store→Prop}
 (h:∀ j s',Store.sub s s'→s j=none→s' j=some (.arr 1 (A++y::B))→K (.os j 1 0 (A.length+1+B.length)) s') :
 appwp 1 4 (.os j 1 0 A.length) (.os b 1 0 1) t fun v s'=>appwp 1 4 v w2 s' K:=by
 refine Own.appN (τ:=s) (g:=j) (L:=A) hsub hj htj (zq htb rfl) (by simp;omega) fun j' s' q1 q2 q3 => ?_
 have e2:(A++[y]).length=A.length+1:=by simp
 have a2:=Own.appN (τ:=s) (g:=j') (bytes:=4) (L:=A++[y]) (K:=K) q1 q2 q3 (h2 _ q1) (by rw [e2];exact hsz) (fun j2 s2 p1 p2 p3=>by
  rw [e2]
  refine h j2 s2 p1 p2 ?_
  rw [p3];simp)
 rw [e2] at a2
 exact a2
theorem z4o {A B:List (List AV)} {y:List AV} {w1 w2:AV} {i b:Nat} {s t:Store} (hsub:Store.sub s t) (hi:s i=none) (hb:s b=none) (hib:b≠i)
 (hti:t i=some (.arr 1 [])) (htb:t b=some (.arr 1 [y])) (h1:∀ t,Store.sub s t→slc t 1 w1=some A) (h2:∀ t,Store.sub s t→slc t 1 w2=some B) (hsz:(A.length+1+B.length)*4≤140737488355328) {K:AV→Store→Prop}
 (h:∀ j s',Store.sub s s'→s j=none→s' j=some (.arr 1 (A++y::B))→K (.os j 1 0 (A.length+1+B.length)) s') :
 appwp 1 4 (.os i 1 0 0) w1 t fun v s'=>appwp 1 4 v (.os b 1 0 1) s' fun v s'=>appwp 1 4 v w2 s' K:=by
 have hsb:Store.sub (s.set b (.arr 1 [y])) t:=fun z o hy=>by
  by_cases hyb:z=b
  ·subst hyb;rw [Store.set_same] at hy;cases hy;exact htb
  ·rw [Store.set_ne _ _ hyb] at hy;exact hsub _ _ hy
 refine Own.appN (τ:=s.set b (.arr 1 [y])) (g:=i) (L:=[]) hsb (by rw [Store.set_ne _ _ (fun e=>hib e.symm)];exact hi) hti (h1 _ hsub) (by simp;omega) fun j s' q1 q2 q3 => ?_
 have hjb:j≠b:=fun e=>by subst e;rw [Store.set_same] at q2;cases q2
 rw [Store.set_ne _ _ hjb] at q2
 have:=z34 (A:=A) (B:=B) (Store.sub_trans (Store.sub_set _ b _ hb) q1) q2 (by simpa using q3) (q1 _ _ (Store.set_same _ _ _)) h2 hsz h
 simp only [List.length_nil,Nat.zero_add]
 exact this
theorem z7w (E:Env) (n:Int) {s:Store} {nn rr:Env→Store→Prop} {x:Nat→Env→Store→Prop}
 (hr:∀ j s',Store.sub s s'→s j=none→s' j=some (.arr 1 [cU n])→rr [(4,.os j 1 0 1)] s') :
 bwp Tryz.prog Tsf.t40_34 ((0,.nils)::(1,.int .u32 n)::(5,.int .i64 0)::E) s nn rr x:=by
 simp only [Tsf.t40_34]
 have hn:∀ t,Store.sub s t→slc t 1 .nils=some []:=fun _ _=>rfl
 simp only [↓vcPre,↓z8,↓reduceIte,vcPost,vcStd,Nat.reduceEqDiff,reduceCtorEq,Nat.reduceAdd,Nat.reduceLeDiff,Int.reduceLT,Int.reduceLE,↓u_setN]
 refine ⟨⟨by simp,by simp⟩,⟨by simp,by simp⟩,?_,?_⟩
 ·refine AllocQ.i0 fun i hi => ?_
  simp only [↓vcPre,↓z8,↓reduceIte,vcPost,vcStd,Nat.reduceEqDiff,reduceCtorEq,Nat.reduceAdd,Nat.reduceLeDiff,Int.reduceLT,Int.reduceLE,↓u_setN]
  refine ⟨?_,?_⟩
  ·refine Own.appN (τ:=s) (g:=i) (L:=[]) (ys:=[]) (Store.sub_set _ _ _ hi) hi (Store.set_same _ _ _) rfl (by simp) fun j s1 q1 q2 q3 => ?_
   refine AllocQ.i0 fun b hb => ?_
   have hjb:b≠j:=fun e=>by subst e;rw [q3] at hb;cases hb
   simp only [List.length_nil,Nat.zero_add,List.nil_append] at q3 ⊢
   simp only [↓vcPre,↓z8,↓reduceIte,vcPost,vcStd,Nat.reduceEqDiff,reduceCtorEq,Nat.reduceAdd,Nat.reduceLeDiff,Int.reduceLT,Int.reduceLE,↓u_setN]
   exact z34 (A:=[]) (B:=[]) (Store.sub_trans q1 (Store.sub_set _ b _ hb)) q2 (Store.sub_set _ b _ hb _ _ q3) (Store.set_same _ _ _) hn (by simp) fun j2 s2 p1 p2 p3=>hr j2 s2 p1 p2 p3
  ·refine AllocQ.i0 fun b hb => ?_
   simp only [↓vcPre,↓z8,↓reduceIte,vcPost,vcStd,Nat.reduceEqDiff,reduceCtorEq,Nat.reduceAdd,Nat.reduceLeDiff,Int.reduceLT,Int.reduceLE,↓u_setN]
   have hbi:b≠i:=fun e=>by subst e;rw [Store.set_same] at hb;cases hb
   rw [Store.set_ne _ _ hbi] at hb
   exact z4o (A:=[]) (B:=[]) (y0 hi hb hbi) hi hb hbi (by rw [Store.set_ne _ _ (fun e=>hbi e.symm),Store.set_same]) (Store.set_same _ _ _) hn hn (by simp) fun j2 s2 p1 p2 p3=>hr j2 s2 p1 p2 p3
 ·refine AllocQ.i0 fun b hb => ?_
  simp only [↓vcPre,↓z8,↓reduceIte,vcPost,vcStd,Nat.reduceEqDiff,reduceCtorEq,Nat.reduceAdd,Nat.reduceLeDiff,Int.reduceLT,Int.reduceLE,↓u_setN]
  refine AllocQ.i0 fun i hi => ?_
  simp only [↓vcPre,↓z8,↓reduceIte,vcPost,vcStd,Nat.reduceEqDiff,reduceCtorEq,Nat.reduceAdd,Nat.reduceLeDiff,Int.reduceLT,Int.reduceLE,↓u_setN]
  have hib:i≠b:=fun e=>by subst e;rw [Store.set_same] at hi;cases hi
  rw [Store.set_ne _ _ hib] at hi
  exact z4o (A:=[]) (B:=[]) (y0 hb hi hib) hi hb (fun e=>hib e.symm) (Store.set_same _ _ _) (by rw [Store.set_ne _ _ (fun e=>hib e.symm),Store.set_same];rfl) hn hn (by simp) fun j2 s2 p1 p2 p3=>hr j2 s2 p1 p2 p3
theorem s40 {τ s:Store} (hτ:Store.sub τ s) (L:List Int) (n:Int) (hL:L.length≤1000000) {v:AV} (ho:Own 1 τ (L.map cU) v s):ACalls Tryz.prog 40 [v,.int .u32 n] s (fun r s'=>Store.sub τ s'∧Own 1 τ ((putL L n).map cU) r s'):=by
 refine ze Tsf.F40 (by simp [Tsf.F40,Fn.mkX]) ?_
 simp only [Tsf.F40,Fn.mkX,Tsf.b40]
 rcases ho with ⟨h0,rfl⟩ | ⟨g,rfl,hgg,hg⟩
 ·have hL0:L=[]:=by simpa using h0
  subst hL0
  simp only [↓vcPre,↓z8,↓reduceIte,vcPost,vcStd,Nat.reduceEqDiff,reduceCtorEq,Nat.reduceAdd,Nat.reduceLeDiff,Int.reduceLT,Int.reduceLE,↓u_setN]
  refine LoopQ.inv (S:=Unit) (fun _=>[(0,.nils),(1,.int .u32 n),(5,.int .i64 0)]) (fun _=>s) (fun _=>True) (fun _=>0) () rfl (Store.sub_refl _) trivial ?_
  intro _ _
  simp only [↓vcPre,↓z8,↓reduceIte,vcPost,vcStd,Nat.reduceEqDiff,reduceCtorEq,Nat.reduceAdd,Nat.reduceLeDiff,Int.reduceLT,Int.reduceLE,↓u_setN]
  refine z7w _ n fun j s' h1 h2 h3 => ?_
  refine EndQ.to s' (.os j 1 0 1) rfl (Store.sub_refl _) ⟨Store.sub_trans hτ h1,.inr ⟨j,rfl,zo hτ h2,h3⟩⟩
 ·simp only [List.length_map]
  simp only [hg,↓vcPre,↓z8,↓reduceIte,vcPost,vcStd,Nat.reduceEqDiff,reduceCtorEq,Nat.reduceAdd,Nat.reduceLeDiff,Int.reduceLT,Int.reduceLE,↓u_setN]
  refine LoopQ.inv (S:=Nat) (fun k=>[(0,.os g 1 0 L.length),(1,.int .u32 n),(5,.int .i64 (k:Int))]) (fun _=>s) (fun k=>k≤L.length∧∀ i (h:i<L.length),i<k→L[i]<n) (fun k=>L.length+1 - k) 0 rfl (Store.sub_refl _) ⟨by omega,fun i _ h=>by omega⟩ ?_
  rintro k ⟨hk,hlt⟩
  simp only [hg,Nat.zero_add,↓vcPre,↓z8,↓reduceIte,vcPost,vcStd,Nat.reduceEqDiff,reduceCtorEq,Nat.reduceAdd,Nat.reduceLeDiff,Int.reduceLT,Int.reduceLE,↓u_setN]
  have ek:IntKind.i64.wrap ((k:Int)+1)=((k+1:Nat):Int):=by rw [zd (by unfold I64;omega)];omega
  have hput:=zbk hk hlt
  have tail:(∀ h:k<L.length,n<L[k])→∀ E,bwp Tryz.prog Tsf.t40_34 ((0,.os g 1 0 L.length)::(1,.int .u32 n)::(5,.int .i64 (k:Int))::E) s (fun e τ' => @EndQ e τ' ⟨Tsf.F40.slots,fun r s'=>Store.sub τ s'∧Own 1 τ ((putL L n).map cU) r s'⟩) (fun e τ' => @EndQ e τ' ⟨Tsf.F40.slots,fun r s'=>Store.sub τ s'∧Own 1 τ ((putL L n).map cU) r s'⟩) fun _ _ _=>False:=fun hkn E=>by
   have hpl:putL L n=L.take k++n::L.drop k:=by
    rw [hput]
    by_cases c1:k<L.length
    ·have:=hkn c1
     rw [List.drop_eq_getElem_cons c1]
     simp only [putL]
     rw [if_neg (by omega),if_neg (by omega)]
    ·rw [List.drop_eq_nil_of_le (by omega)];rfl
   refine z9y E L n k hk hL hg fun j s' h1 h2 h3 => ?_
   refine EndQ.to s' (.os j 1 0 (L.length+1)) rfl (Store.sub_refl _) ⟨Store.sub_trans hτ h1,.inr ⟨j,?_,zo hτ h2,by rw [hpl];exact h3⟩⟩
   rw [hpl];simp;omega
  refine ⟨fun c1=>⟨c1,c1,by simp [cU],?_⟩,fun c1=>⟨fun c2=>absurd c2 c1,fun _=>tail (fun h=>absurd h c1) _⟩⟩
  simp only [cU,↓vcPre,↓z8,↓reduceIte,vcPost,vcStd,Nat.reduceEqDiff,reduceCtorEq,Nat.reduceAdd,Nat.reduceLeDiff,Int.reduceLT,Int.reduceLE,↓u_setN]
  refine ⟨fun g1 => ?_,fun g1=>⟨fun _=>⟨c1,c1,?_⟩,fun c2=>absurd c1 c2⟩⟩
  ·rw [ek]
   refine NextQ.to (k+1) rfl (Store.sub_refl _) (by omega) ⟨by omega,fun i hi hik => ?_⟩
   by_cases hik':i=k
   ·subst hik';exact g1
   ·exact hlt i hi (by omega)
  ·refine ⟨fun g2 => ?_,fun g2=>tail (fun _=>by omega) _⟩
   refine EndQ.to s (.os g 1 0 L.length) rfl (Store.sub_refl _) ⟨hτ,.inr ⟨g,?_,hgg,?_⟩⟩
   ·have hpl:putL L n=L:=by
     rw [hput,List.drop_eq_getElem_cons c1]
     simp only [putL]
     rw [if_neg (by omega),if_pos g2,←List.drop_eq_getElem_cons c1,List.take_append_drop]
    rw [hpl];simp
   ·have hpl:putL L n=L:=by
     rw [hput,List.drop_eq_getElem_cons c1]
     simp only [putL]
     rw [if_neg (by omega),if_pos g2,←List.drop_eq_getElem_cons c1,List.take_append_drop]
    rw [hpl];exact hg
end Go.Am
namespace Go.Am.Tsg
open Go.Proofs Go.Am.B
def t83_3:BC:=z [k 3 .nils] [1,2,3] (.seq (z [j 4 0] [1,2,3,4] (.block 0 (.loop [1,2,3,4] (.seq (z [m 17 4,f 18 8 1,l 19 1 18,u 20 .len 19,b 21 .lss 17 20] [1,2,3,4,21] (.cond (.t 21) .skip (.exit 0))) (.seq (.block 1 (.ops [m 24 3,f 25 8 1,l 26 1 25,m 27 4,x 28 1 26 27,l 29 1 28,g 30 40 [.t 24,.t 29],m 3 30] [1,2,3,4])) (.ops [m 22 4,c 23 .add 22 1,m 4 23] [1,2,3,4])))))) (z [m 31 3,f 32 8 1,s 1 32 31] [1,2] (z [⟨some 33,none,.load (.ld 9 true),[.t 1]⟩,s 9 2 33] [2] .ret)))
def b83:BC:=z [⟨some 1,none,.alloc (.box),[.t 0]⟩,⟨some 2,none,.alloc (.alloc [(.int .i64 0),.nils,(.int .u32 0),(.bool false),(.int .u32 0),(.bool false),(.int .u32 0),(.bool false),.nils]),[]⟩] [1,2] (z [f 5 1 1,l 6 1 5,g 7 146 [.t 6],f 8 1 1,s 1 8 7] [1,2] (.seq (z [f 9 3 1,l 10 1 9,u 11 .not 10] [1,2,11] (.cond (.t 11) (.ops [f 12 4 1,⟨none,none,.loud (.st 1),[.t 12,.c (.int .u32 0)]⟩] [1,2]) .skip)) (.seq (z [f 13 5 1,l 14 1 13,u 15 .not 14] [1,2,15] (.cond (.t 15) (.ops [f 16 6 1,⟨none,none,.loud (.st 1),[.t 16,.c (.int .u32 0)]⟩] [1,2]) .skip)) t83_3)))
def F83:Fn Tryz.prog 83:=Fn.mkX false b83 [.c 2 9 true] 34 Tryz.f83 _ Tryz.func83 (by decide) rfl Tryz.ntmps83 (by kernel_rfl) (by kernel_rfl)
end Go.Am.Tsg
namespace Go.Am
open Go.Proofs Go.Sort
theorem z4k (E:Env) (a:At) (ha:a.ok) {σ t:Store} {i j:Nat} {z:List AV} (hz:z.length=9) (hi:t i=some (.box a.c)) (hj:t j=some (.box z)) (hij:¬ i=j) (hi0:σ i=none) (hj0:σ j=none) (hs:Store.sub σ t) {nn rr:Env→Store→Prop} {x:Nat→Env→Store→Prop}
 (hr:∀ v s',Store.sub σ s'→Own 1 σ ((canonC a.cms).map cU) v s'→s' j=some (.box (a.cO v))→rr [(2,.ptr j 0)] s') :
 bwp Tryz.prog Tsg.t83_3 ((1,.ptr i 0)::(2,.ptr j 0)::E) t nn rr x:=by
 simp only [Tsg.t83_3]
 have hji:¬ j=i:=fun e=>hij e.symm
 have hcm:a.cms.length≤1000000:=ha.2.2
 simp only [↓vcPre,↓z8,↓reduceIte,vcPost,vcStd,Nat.reduceEqDiff,reduceCtorEq,Nat.reduceAdd,Nat.reduceLeDiff,Int.reduceLT,Int.reduceLE,↓u_setN]
 refine LoopQ.inv (S:=Nat×AV×Store) (fun q=>[(1,.ptr i 0),(2,.ptr j 0),(3,q.2.1),(4,.int .i64 (q.1:Int))]) (fun q=>q.2.2) (fun q=>q.1≤a.cms.length∧Store.sub t q.2.2∧Own 1 t (((a.cms.take q.1).foldl putL []).map cU) q.2.1 q.2.2) (fun q=>a.cms.length+1 - q.1) (0,.nils,t) rfl (Store.sub_refl _) ⟨by simp only;omega,Store.sub_refl _,.nil⟩ ?_
 rintro ⟨k,v,s⟩ ⟨hk,hts,ho⟩
 simp only at hk hts ho
 have hsi:=hts _ _ hi
 have hsj:=hts _ _ hj
 simp only [hsi,At.c,↓vcPre,↓z8,↓reduceIte,vcPost,vcStd,Nat.reduceEqDiff,reduceCtorEq,Nat.reduceAdd,Nat.reduceLeDiff,Int.reduceLT,Int.reduceLE,↓u_setN]
 refine ⟨fun c1 => ?_,fun c1 => ?_⟩
 ·have ek:IntKind.i64.wrap ((k:Int)+1)=((k+1:Nat):Int):=by rw [zd (by unfold I64;omega)];omega
  refine ⟨c1,by simp [cU],?_⟩
  simp only [cU,↓vcPre,↓z8,↓reduceIte,vcPost,vcStd,Nat.reduceEqDiff,reduceCtorEq,Nat.reduceAdd,Nat.reduceLeDiff,Int.reduceLT,Int.reduceLE,↓u_setN]
  have hfl:∀ (l:List Int) (b:List Int),(l.foldl putL b).length≤b.length+l.length:=by
   intro l
   induction l with
   | nil=>intro b;simp
   | cons y r ih=>intro b;have h1:=ih (putL b y);have h2:=z3x b y;simp only [List.foldl_cons,List.length_cons];omega
  have hlen:=hfl (a.cms.take k) []
  simp only [List.length_take,List.length_nil] at hlen
  refine (s40 hts ((a.cms.take k).foldl putL []) a.cms[k] (by omega) ho).Q ?_
  rintro r s' ⟨h1,h2⟩
  simp only [↓vcPre,↓z8,↓reduceIte,vcPost,vcStd,Nat.reduceEqDiff,reduceCtorEq,Nat.reduceAdd,Nat.reduceLeDiff,Int.reduceLT,Int.reduceLE,↓u_setN]
  rw [ek]
  refine NextQ.to (k+1,r,s') rfl (Store.sub_refl _) (by simp only;omega) ⟨by simp only;omega,h1,?_⟩
  simp only
  rw [ub putL [] c1]
  exact h2
 ·have hkl:a.cms.take k=a.cms:=List.take_of_length_le (by omega)
  rw [hkl,z4c] at ho
  have hv:v.isTup=false∧v.cells=[v]:=by
   rcases ho with ⟨_,rfl⟩ | ⟨g,rfl,_,_⟩ <;> exact ⟨rfl,rfl⟩
  simp only [hv.1,hv.2,hsi,hsj,hij,hji,At.c,hz,↓vcPre,↓z8,↓reduceIte,vcPost,vcStd,Nat.reduceEqDiff,reduceCtorEq,Nat.reduceAdd,Nat.reduceLeDiff,Int.reduceLT,Int.reduceLE,↓u_setN]
  rw [xl _ _ (by simp [hz]),y7]
  refine hr v _ (zb (zb (Store.sub_trans hs hts) hi0) hj0) ?_ (Store.set_same _ _ _)
  rcases ho.weak hs with h | ⟨g,h1,h2,h3⟩
  ·exact .inl h
  ·refine .inr ⟨g,h1,h2,?_⟩
   have hgi:¬ g=i:=fun e=>by rw [e,hsi] at h3;cases h3
   have hgj:¬ g=j:=fun e=>by rw [e,hsj] at h3;cases h3
   rw [Store.set_ne _ _ hgj,Store.set_ne _ _ hgi];exact h3
theorem s83 (a:At) (ha:a.ok) {σ:Store} {Q:AV→Store→Prop} (hQ:∀ v s',Store.sub σ s'→Own 1 σ ((canonC a.cms).map cU) v s'→Weak (.agg ((canonA a).cO v)) s' Q):ACalls Tryz.prog 83 [.agg a.c] σ Q:=by
 refine ze Tsg.F83 (by simp [Tsg.F83,Fn.mkX]) ?_
 simp only [Tsg.F83,Fn.mkX,Tsg.b83]
 simp only [At.c,↓vcPre,↓z8,↓reduceIte,vcPost,vcStd,Nat.reduceEqDiff,reduceCtorEq,Nat.reduceAdd,Nat.reduceLeDiff,Int.reduceLT,Int.reduceLE,↓u_setN]
 refine AllocQ.i0 fun i hi => ?_
 simp only [At.c,↓vcPre,↓z8,↓reduceIte,vcPost,vcStd,Nat.reduceEqDiff,reduceCtorEq,Nat.reduceAdd,Nat.reduceLeDiff,Int.reduceLT,Int.reduceLE,↓u_setN]
 refine AllocQ.i1 fun j hj1 hj2 hj => ?_
 simp only [hj1,hj2,↓vcPre,↓z8,↓reduceIte,vcPost,vcStd,Nat.reduceEqDiff,reduceCtorEq,Nat.reduceAdd,Nat.reduceLeDiff,Int.reduceLT,Int.reduceLE,↓u_setN]
 refine (zhr _ ha.1 ha.2.1).Q ?_
 simp only [hj1,hj2,↓vcPre,↓z8,↓reduceIte,vcPost,vcStd,Nat.reduceEqDiff,reduceCtorEq,Nat.reduceAdd,Nat.reduceLeDiff,Int.reduceLT,Int.reduceLE,↓u_setN]
 have key:∀ (E:Env) (t:Store) (z:List AV) (x:Nat→Env→Store→Prop) (n:Env→Store→Prop) (m p:Int),z.length=9→t i=some (.box ({ a with med:=m,prf:=p }:At).c)→t j=some (.box z)→Store.sub σ t→(if a.hm then a.med else 0)=m→(if a.hp then a.prf else 0)=p →
  bwp Tryz.prog Tsg.t83_3 ((1,.ptr i 0)::(2,.ptr j 0)::E) t n (fun e s => @EndQ e s ⟨Tsg.F83.slots,Q⟩) x:=by
  intro E t z x n m p hz h1 h2 h3 rfl rfl
  refine z4k E { a with med:=(if a.hm then a.med else 0),prf:=(if a.hp then a.prf else 0) } ha hz h1 h2 hj2 hi hj h3 ?_
  intro v s' q1 q2 q3
  unfold EndQ
  refine ⟨_,?_,hQ v s' q1 q2⟩
  show Env.res [(2,AV.ptr j 0)] s' [RS.c 2 9 true]=_
  have e9:∀ x:At,(x.cO v).length=9:=fun _=>rfl
  have t9:∀ x:At,List.take 9 (x.cO v)=x.cO v:=fun _=>rfl
  simp only [q3,e9,t9,Nat.le_refl,↓vcPre,↓z8,↓reduceIte,vcPost,vcStd,Nat.reduceEqDiff,reduceCtorEq,Nat.reduceAdd,Nat.reduceLeDiff,Int.reduceLT,Int.reduceLE,↓u_setN]
  rfl
 cases hm:a.hm <;> cases hp:a.hp
 all_goals simp only [↓vcPre,↓z8,↓reduceIte,vcPost,vcStd,Nat.reduceEqDiff,reduceCtorEq,Nat.reduceAdd,Nat.reduceLeDiff,Int.reduceLT,Int.reduceLE,↓u_setN]
 all_goals
  refine key _ _ zCells _ _ (if a.hm then a.med else 0) (if a.hp then a.prf else 0) rfl ?_ ?_ ?_ rfl rfl
  ·rw [Store.set_same];simp [At.c,hm,hp]
  ·simp only [Store.set_ne _ _ hj1,Store.set_same];rfl
  ·first
    | exact zb (zb (zb (y0 hi hj hj1) hi) hi) hi
    | exact zb (zb (y0 hi hj hj1) hi) hi
    | exact zb (y0 hi hj hj1) hi
theorem c83 (a:At) (ha:a.ok):Pur Tryz.prog 83 [.agg a.c] (.agg (canonA a).c):=fun σ =>
 s83 a ha fun v s' hs ho=>by
  rcases ho with ⟨h0,rfl⟩ | ⟨g,rfl,hg,hh⟩
  ·have h0':canonC a.cms=[]:=by simpa using h0
   refine Weak.agg (WeakL.nil 8 1 rfl (WeakL.forget hs (WeakL.pure ⟨?_,rfl,?_⟩)))
   ·intro c hc
    simp [At.cO] at hc
    rcases hc with rfl | rfl | rfl | rfl | rfl | rfl | rfl | rfl | rfl <;> rfl
   ·simp [At.cO,At.c,canonA,h0']
  ·refine Weak.agg (WeakL.freeze 8 rfl hh (by simp) (WeakL.forget (fun i o hi => ?_) (WeakL.pure ⟨?_,rfl,?_⟩)))
   ·rw [Store.del_ne _ (fun e=>by subst e;rw [hg] at hi;cases hi)];exact hs i o hi
   ·intro c hc
    simp [At.cO] at hc
    rcases hc with rfl | rfl | rfl | rfl | rfl | rfl | rfl | rfl | rfl <;> rfl
   ·have:List.take (canonC a.cms).length ((canonC a.cms).map cU)=(canonC a.cms).map cU:=List.take_of_length_le (by simp)
    simp [At.cO,At.c,canonA,this]
end Go.Am
namespace Go.Am
open Go.Proofs Go.Sort
theorem c92 (b:Bool):Pur Tryz.prog 92 [.bool b] (.int .i64 (sideF b)):=by
 refine zw Tst.F92 (by simp [Tst.F92,Fn.mkX]) fun σ => ?_
 simp only [Tst.F92,Fn.mkX,Tst.b92]
 cases b <;> simp only [↓vcPre,↓z8,↓reduceIte,vcPost,vcStd,Nat.reduceEqDiff,reduceCtorEq,Nat.reduceAdd,Nat.reduceLeDiff,Int.reduceLT,Int.reduceLE,↓u_setN] <;> rfl
theorem z8u {x y:Bool} (h:x≠y):(x != y)=true:=by cases x <;> cases y <;> simp_all
theorem z8t {x y:Bool} (h:x=y):(x != y)=false:=by cases x <;> cases y <;> simp_all
end Go.Am
namespace Go.Am
open Go.Proofs Go.Sort
theorem z1l {x y:Int} (h:¬ x=y):sideF (decide (x<y))=cmpI x y:=by
 unfold sideF cmpI
 by_cases g:x<y
 ·simp [g]
 ·simp [g];omega
theorem z6b {x y:Bool} (h:¬ x=y):sideF (!x)=IntKind.i64.wrap (truthF x - truthF y):=by
 cases x <;> cases y <;> first | exact absurd rfl h | decide
set_option maxHeartbeats 1000000 in
theorem zj3 (a b:At) (ha:a.ok) (hb:b.ok) (σ:Store):ACalls Tryz.prog 46 [.agg a.c,.agg b.c] σ (fun r s=>s=σ∧r = .int .i64 (cmpAs (canonA a) (canonA b))):=by
 refine ze Tst.F46 (by simp [Tst.F46,Fn.mkX]) ?_
 simp only [Tst.F46,Fn.mkX,Tst.b46]
 simp only [At.c,↓vcPre,↓z8,↓reduceIte,vcPost,vcStd,Nat.reduceEqDiff,reduceCtorEq,Nat.reduceAdd,Nat.reduceLeDiff,Int.reduceLT,Int.reduceLE,↓u_setN]
 refine AllocQ.i0 fun i hi => ?_
 simp only [At.c,↓vcPre,↓z8,↓reduceIte,vcPost,vcStd,Nat.reduceEqDiff,reduceCtorEq,Nat.reduceAdd,Nat.reduceLeDiff,Int.reduceLT,Int.reduceLE,↓u_setN]
 refine AllocQ.i1 fun j hj1 hj2 hj => ?_
 simp only [hj1,hj2,↓vcPre,↓z8,↓reduceIte,vcPost,vcStd,Nat.reduceEqDiff,reduceCtorEq,Nat.reduceAdd,Nat.reduceLeDiff,Int.reduceLT,Int.reduceLE,↓u_setN]
 refine (c83 a ha).Q ?_
 simp only [hj1,hj2,↓vcPre,↓z8,↓reduceIte,vcPost,vcStd,Nat.reduceEqDiff,reduceCtorEq,Nat.reduceAdd,Nat.reduceLeDiff,Int.reduceLT,Int.reduceLE,↓u_setN]
 refine (c83 b hb).Q ?_
 simp only [hj1,hj2,↓vcPre,↓z8,↓reduceIte,vcPost,vcStd,Nat.reduceEqDiff,reduceCtorEq,Nat.reduceAdd,Nat.reduceLeDiff,Int.reduceLT,Int.reduceLE,↓u_setN]
 have hx:=qr ha
 have hy:=qr hb
 generalize canonA a=p at hx ⊢
 generalize canonA b=q at hy ⊢
 simp only [hj1,hj2,At.c,↓vcPre,↓z8,↓reduceIte,vcPost,vcStd,Nat.reduceEqDiff,reduceCtorEq,Nat.reduceAdd,Nat.reduceLeDiff,Int.reduceLT,Int.reduceLE,↓u_setN]
 have hti:((((σ.set i (Obj.box [AV.int IntKind.i64 a.org,AV.sl 2 (List.map Seg.c a.path),AV.int IntKind.u32 a.nxt,AV.bool a.hm,AV.int IntKind.u32 a.med,AV.bool a.hp,AV.int IntKind.u32 a.prf,AV.bool a.atm,AV.sl 1 (List.map cU a.cms)])).set j (Obj.box [AV.int IntKind.i64 b.org,AV.sl 2 (List.map Seg.c b.path),AV.int IntKind.u32 b.nxt,AV.bool b.hm,AV.int IntKind.u32 b.med,AV.bool b.hp,AV.int IntKind.u32 b.prf,AV.bool b.atm,AV.sl 1 (List.map cU b.cms)])).set i (Obj.box [AV.int IntKind.i64 p.org,AV.sl 2 (List.map Seg.c p.path),AV.int IntKind.u32 p.nxt,AV.bool p.hm,AV.int IntKind.u32 p.med,AV.bool p.hp,AV.int IntKind.u32 p.prf,AV.bool p.atm,AV.sl 1 (List.map cU p.cms)])).set j (Obj.box [AV.int IntKind.i64 q.org,AV.sl 2 (List.map Seg.c q.path),AV.int IntKind.u32 q.nxt,AV.bool q.hm,AV.int IntKind.u32 q.med,AV.bool q.hp,AV.int IntKind.u32 q.prf,AV.bool q.atm,AV.sl 1 (List.map cU q.cms)])) i=some (Obj.box [AV.int IntKind.i64 p.org,AV.sl 2 (List.map Seg.c p.path),AV.int IntKind.u32 p.nxt,AV.bool p.hm,AV.int IntKind.u32 p.med,AV.bool p.hp,AV.int IntKind.u32 p.prf,AV.bool p.atm,AV.sl 1 (List.map cU p.cms)]):=by rw [Store.set_ne _ _ hj2,Store.set_same]
 have htj:((((σ.set i (Obj.box [AV.int IntKind.i64 a.org,AV.sl 2 (List.map Seg.c a.path),AV.int IntKind.u32 a.nxt,AV.bool a.hm,AV.int IntKind.u32 a.med,AV.bool a.hp,AV.int IntKind.u32 a.prf,AV.bool a.atm,AV.sl 1 (List.map cU a.cms)])).set j (Obj.box [AV.int IntKind.i64 b.org,AV.sl 2 (List.map Seg.c b.path),AV.int IntKind.u32 b.nxt,AV.bool b.hm,AV.int IntKind.u32 b.med,AV.bool b.hp,AV.int IntKind.u32 b.prf,AV.bool b.atm,AV.sl 1 (List.map cU b.cms)])).set i (Obj.box [AV.int IntKind.i64 p.org,AV.sl 2 (List.map Seg.c p.path),AV.int IntKind.u32 p.nxt,AV.bool p.hm,AV.int IntKind.u32 p.med,AV.bool p.hp,AV.int IntKind.u32 p.prf,AV.bool p.atm,AV.sl 1 (List.map cU p.cms)])).set j (Obj.box [AV.int IntKind.i64 q.org,AV.sl 2 (List.map Seg.c q.path),AV.int IntKind.u32 q.nxt,AV.bool q.hm,AV.int IntKind.u32 q.med,AV.bool q.hp,AV.int IntKind.u32 q.prf,AV.bool q.atm,AV.sl 1 (List.map cU q.cms)])) j=some (Obj.box [AV.int IntKind.i64 q.org,AV.sl 2 (List.map Seg.c q.path),AV.int IntKind.u32 q.nxt,AV.bool q.hm,AV.int IntKind.u32 q.med,AV.bool q.hp,AV.int IntKind.u32 q.prf,AV.bool q.atm,AV.sl 1 (List.map cU q.cms)]):=Store.set_same _ _ _
 have hts:Store.sub σ ((((σ.set i (Obj.box [AV.int IntKind.i64 a.org,AV.sl 2 (List.map Seg.c a.path),AV.int IntKind.u32 a.nxt,AV.bool a.hm,AV.int IntKind.u32 a.med,AV.bool a.hp,AV.int IntKind.u32 a.prf,AV.bool a.atm,AV.sl 1 (List.map cU a.cms)])).set j (Obj.box [AV.int IntKind.i64 b.org,AV.sl 2 (List.map Seg.c b.path),AV.int IntKind.u32 b.nxt,AV.bool b.hm,AV.int IntKind.u32 b.med,AV.bool b.hp,AV.int IntKind.u32 b.prf,AV.bool b.atm,AV.sl 1 (List.map cU b.cms)])).set i (Obj.box [AV.int IntKind.i64 p.org,AV.sl 2 (List.map Seg.c p.path),AV.int IntKind.u32 p.nxt,AV.bool p.hm,AV.int IntKind.u32 p.med,AV.bool p.hp,AV.int IntKind.u32 p.prf,AV.bool p.atm,AV.sl 1 (List.map cU p.cms)])).set j (Obj.box [AV.int IntKind.i64 q.org,AV.sl 2 (List.map Seg.c q.path),AV.int IntKind.u32 q.nxt,AV.bool q.hm,AV.int IntKind.u32 q.med,AV.bool q.hp,AV.int IntKind.u32 q.prf,AV.bool q.atm,AV.sl 1 (List.map cU q.cms)])):=zb (zb (y0 hi hj hj1) hi) hj
 generalize ((((σ.set i (Obj.box [AV.int IntKind.i64 a.org,AV.sl 2 (List.map Seg.c a.path),AV.int IntKind.u32 a.nxt,AV.bool a.hm,AV.int IntKind.u32 a.med,AV.bool a.hp,AV.int IntKind.u32 a.prf,AV.bool a.atm,AV.sl 1 (List.map cU a.cms)])).set j (Obj.box [AV.int IntKind.i64 b.org,AV.sl 2 (List.map Seg.c b.path),AV.int IntKind.u32 b.nxt,AV.bool b.hm,AV.int IntKind.u32 b.med,AV.bool b.hp,AV.int IntKind.u32 b.prf,AV.bool b.atm,AV.sl 1 (List.map cU b.cms)])).set i (Obj.box [AV.int IntKind.i64 p.org,AV.sl 2 (List.map Seg.c p.path),AV.int IntKind.u32 p.nxt,AV.bool p.hm,AV.int IntKind.u32 p.med,AV.bool p.hp,AV.int IntKind.u32 p.prf,AV.bool p.atm,AV.sl 1 (List.map cU p.cms)])).set j (Obj.box [AV.int IntKind.i64 q.org,AV.sl 2 (List.map Seg.c q.path),AV.int IntKind.u32 q.nxt,AV.bool q.hm,AV.int IntKind.u32 q.med,AV.bool q.hp,AV.int IntKind.u32 q.prf,AV.bool q.atm,AV.sl 1 (List.map cU q.cms)]))=t at hti htj hts ⊢
 have nz:∀ {bb:Bool} {E:Env},sideF bb=cmpAs p q → @EndQ ((4,.int .i64 (sideF bb))::E) t ⟨Tst.F46.slots,fun r s=>s=σ∧r = .int .i64 (cmpAs p q)⟩:=fun {bb E} h=>EndQ.to σ _ rfl hts ⟨rfl,by rw [h]⟩
 refine ⟨fun g1=>(c92 _).Q ?_,fun g1=>(c88 _ _ hx.1 hy.1 hx.2.1 hy.2.1).Q ?_⟩
 ·simp only [↓vcPre,↓z8,↓reduceIte,vcPost,vcStd,Nat.reduceEqDiff,reduceCtorEq,Nat.reduceAdd,Nat.reduceLeDiff,Int.reduceLT,Int.reduceLE,↓u_setN]
  exact nz (by simp only [cmpAs,orL,ya,yn,if_neg g1];exact z1l g1)
 ·simp only [hti,htj,↓vcPre,↓z8,↓reduceIte,vcPost,vcStd,Nat.reduceEqDiff,reduceCtorEq,Nat.reduceAdd,Nat.reduceLeDiff,Int.reduceLT,Int.reduceLE,↓u_setN]
  refine ⟨fun g2=>EndQ.to σ _ rfl hts ⟨rfl,by simp only [cmpAs,orL,ya,yn,if_pos g1,if_neg g2]⟩,fun g2=>⟨fun g3=>(c92 _).Q ?_,fun g3 => ?_⟩⟩
  ·simp only [↓vcPre,↓z8,↓reduceIte,vcPost,vcStd,Nat.reduceEqDiff,reduceCtorEq,Nat.reduceAdd,Nat.reduceLeDiff,Int.reduceLT,Int.reduceLE,↓u_setN]
   exact nz (by simp only [cmpAs,orL,ya,yn,if_pos g1,if_pos g2,if_neg g3];exact z1l g3)
  by_cases g4:p.hm=q.hm
  case neg =>
   rw [z8u g4]
   simp only [↓vcPre,↓z8,↓reduceIte,vcPost,vcStd,Nat.reduceEqDiff,reduceCtorEq,Nat.reduceAdd,Nat.reduceLeDiff,Int.reduceLT,Int.reduceLE,↓u_setN]
   refine (c92 _).Q ?_
   simp only [↓vcPre,↓z8,↓reduceIte,vcPost,vcStd,Nat.reduceEqDiff,reduceCtorEq,Nat.reduceAdd,Nat.reduceLeDiff,Int.reduceLT,Int.reduceLE,↓u_setN]
   exact nz (by simp only [cmpAs,orL,ya,yn,if_pos g1,if_pos g2,if_pos g3,if_neg g4];exact z6b g4)
  rw [z8t g4]
  simp only [↓vcPre,↓z8,↓reduceIte,vcPost,vcStd,Nat.reduceEqDiff,reduceCtorEq,Nat.reduceAdd,Nat.reduceLeDiff,Int.reduceLT,Int.reduceLE,↓u_setN]
  refine ⟨fun g5=>(c92 _).Q ?_,fun g5 => ?_⟩
  ·simp only [↓vcPre,↓z8,↓reduceIte,vcPost,vcStd,Nat.reduceEqDiff,reduceCtorEq,Nat.reduceAdd,Nat.reduceLeDiff,Int.reduceLT,Int.reduceLE,↓u_setN]
   exact nz (by simp only [cmpAs,orL,ya,yn,if_pos g1,if_pos g2,if_pos g3,if_pos g4,if_neg g5];exact z1l g5)
  by_cases g6:p.hp=q.hp
  case neg =>
   rw [z8u g6]
   simp only [↓vcPre,↓z8,↓reduceIte,vcPost,vcStd,Nat.reduceEqDiff,reduceCtorEq,Nat.reduceAdd,Nat.reduceLeDiff,Int.reduceLT,Int.reduceLE,↓u_setN]
   refine (c92 _).Q ?_
   simp only [↓vcPre,↓z8,↓reduceIte,vcPost,vcStd,Nat.reduceEqDiff,reduceCtorEq,Nat.reduceAdd,Nat.reduceLeDiff,Int.reduceLT,Int.reduceLE,↓u_setN]
   exact nz (by simp only [cmpAs,orL,ya,yn,if_pos g1,if_pos g2,if_pos g3,if_pos g4,if_pos g5,if_neg g6];exact z6b g6)
  rw [z8t g6]
  simp only [↓vcPre,↓z8,↓reduceIte,vcPost,vcStd,Nat.reduceEqDiff,reduceCtorEq,Nat.reduceAdd,Nat.reduceLeDiff,Int.reduceLT,Int.reduceLE,↓u_setN]
  refine ⟨fun g7=>(c92 _).Q ?_,fun g7 => ?_⟩
  ·simp only [↓vcPre,↓z8,↓reduceIte,vcPost,vcStd,Nat.reduceEqDiff,reduceCtorEq,Nat.reduceAdd,Nat.reduceLeDiff,Int.reduceLT,Int.reduceLE,↓u_setN]
   exact nz (by simp only [cmpAs,orL,ya,yn,if_pos g1,if_pos g2,if_pos g3,if_pos g4,if_pos g5,if_pos g6,if_neg g7];exact z1l g7)
  by_cases g8:p.atm=q.atm
  case neg =>
   rw [z8u g8]
   simp only [↓vcPre,↓z8,↓reduceIte,vcPost,vcStd,Nat.reduceEqDiff,reduceCtorEq,Nat.reduceAdd,Nat.reduceLeDiff,Int.reduceLT,Int.reduceLE,↓u_setN]
   refine (c92 _).Q ?_
   simp only [↓vcPre,↓z8,↓reduceIte,vcPost,vcStd,Nat.reduceEqDiff,reduceCtorEq,Nat.reduceAdd,Nat.reduceLeDiff,Int.reduceLT,Int.reduceLE,↓u_setN]
   exact nz (by simp only [cmpAs,orL,ya,yn,if_pos g1,if_pos g2,if_pos g3,if_pos g4,if_pos g5,if_pos g6,if_pos g7,if_neg g8];exact z6b g8)
  rw [z8t g8]
  simp only [↓vcPre,↓z8,↓reduceIte,vcPost,vcStd,Nat.reduceEqDiff,reduceCtorEq,Nat.reduceAdd,Nat.reduceLeDiff,Int.reduceLT,Int.reduceLE,↓u_setN]
  have hpc:p.cms.length≤1000000:=hx.2.2
  have hqc:q.cms.length≤1000000:=hy.2.2
  have hA:cmpAs p q=cmpG cmpI p.cms q.cms:=by
   simp only [cmpAs,orL,ya,yn,if_pos g1,if_pos g2,if_pos g3,if_pos g4,if_pos g5,if_pos g6,if_pos g7,if_pos g8]
   split
   ·rename_i h;rw [h]
   ·rfl
  refine LoopQ.inv (S:=Nat) (fun k=>[(2,.ptr i 0),(3,.ptr j 0),(6,.int .i64 (k:Int))]) (fun _=>t) (fun k=>k≤p.cms.length∧k≤q.cms.length∧cmpG cmpI (p.cms.drop k) (q.cms.drop k)=cmpAs p q) (fun k=>p.cms.length+1 - k) 0 rfl (Store.sub_refl _) ⟨by omega,by omega,by rw [hA];rfl⟩ ?_
  rintro k ⟨hk,hk2,htk⟩
  simp only [hti,htj,↓vcPre,↓z8,↓reduceIte,vcPost,vcStd,Nat.reduceEqDiff,reduceCtorEq,Nat.reduceAdd,Nat.reduceLeDiff,Int.reduceLT,Int.reduceLE,↓u_setN]
  have ek:IntKind.i64.wrap ((k:Int)+1)=((k+1:Nat):Int):=by rw [zd (by unfold I64;omega)];omega
  have endL:¬ ((p.cms.length:Int)=(q.cms.length:Int))→(k=p.cms.length∨k=q.cms.length)→sideF (decide (p.cms.length<q.cms.length))=cmpAs p q:=fun hne hkk=>by
   rw [←htk]
   by_cases e:k=p.cms.length
   ·have h1:p.cms.drop k=[]:=List.drop_eq_nil_of_le (by omega)
    have h2:k<q.cms.length:=by omega
    rw [h1,List.drop_eq_getElem_cons h2,decide_eq_true (by omega)];rfl
   ·have h1:q.cms.drop k=[]:=List.drop_eq_nil_of_le (by omega)
    have h2:k<p.cms.length:=by omega
    rw [h1,List.drop_eq_getElem_cons h2,decide_eq_false (by omega)];rfl
  have cls:∀ {E:Env},(k=p.cms.length∨k=q.cms.length)→(p.cms.length:Int)=(q.cms.length:Int) → @EndQ ((4,.int .i64 0)::E) t ⟨Tst.F46.slots,fun r s=>s=σ∧r = .int .i64 (cmpAs p q)⟩:=fun {E} h1 h2=>EndQ.to σ _ rfl hts ⟨rfl,by
   rw [←htk,List.drop_eq_nil_of_le (by omega),List.drop_eq_nil_of_le (by omega)];rfl⟩
  refine ⟨fun c1=>⟨fun c2 => ?_,fun c2=>⟨fun h=>(c92 _).Q ?_,fun h=>cls (by omega) h⟩⟩,fun c1=>⟨fun h=>(c92 _).Q ?_,fun h=>cls (by omega) h⟩⟩
  ·refine ⟨c1,by simp [cU],?_⟩
   simp only [cU,↓vcPre,↓z8,↓reduceIte,vcPost,vcStd,Nat.reduceEqDiff,reduceCtorEq,Nat.reduceAdd,Nat.reduceLeDiff,Int.reduceLT,Int.reduceLE,↓u_setN]
   have hs1:cmpAs p q=if cmpI p.cms[k] q.cms[k]=0 then cmpG cmpI (p.cms.drop (k+1)) (q.cms.drop (k+1)) else cmpI p.cms[k] q.cms[k]:=by
    rw [←htk,List.drop_eq_getElem_cons c1,List.drop_eq_getElem_cons c2];rfl
   refine ⟨c2,fun g9=>⟨c1,c2,(c92 _).Q ?_⟩,fun g9 => ?_⟩
   ·simp only [↓vcPre,↓z8,↓reduceIte,vcPost,vcStd,Nat.reduceEqDiff,reduceCtorEq,Nat.reduceAdd,Nat.reduceLeDiff,Int.reduceLT,Int.reduceLE,↓u_setN]
    exact nz (by rw [hs1];simp only [ya,if_neg g9];exact z1l g9)
   ·rw [ek]
    refine NextQ.to (k+1) rfl (Store.sub_refl _) (by omega) ⟨by omega,by omega,?_⟩
    rw [hs1,if_pos ((ya _ _).2 g9)]
  ·simp only [↓vcPre,↓z8,↓reduceIte,vcPost,vcStd,Nat.reduceEqDiff,reduceCtorEq,Nat.reduceAdd,Nat.reduceLeDiff,Int.reduceLT,Int.reduceLE,↓u_setN]
   exact nz (endL h (by omega))
  ·simp only [↓vcPre,↓z8,↓reduceIte,vcPost,vcStd,Nat.reduceEqDiff,reduceCtorEq,Nat.reduceAdd,Nat.reduceLeDiff,Int.reduceLT,Int.reduceLE,↓u_setN]
   exact nz (endL h (by omega))
theorem zhp (n:Int):Pur Tryz.prog 143 [.int .u32 n] (.bool (decide (goodN n))):=by
 refine zw Tst.F143 (by simp [Tst.F143,Fn.mkX]) fun σ => ?_
 simp only [Tst.F143,Fn.mkX,Tst.b143]
 have e:shrInt .u32 n 24=n / 16777216:=by
  simp [shrInt,IntKind.bits,z3h]
 simp only [e,↓vcPre,↓z8,↓reduceIte,vcPost,vcStd,Nat.reduceEqDiff,reduceCtorEq,Nat.reduceAdd,Nat.reduceLeDiff,Int.reduceLT,Int.reduceLE,↓u_setN]
 (repeat' first
   | (refine ⟨fun _ => ?_,fun _ => ?_⟩)
   | (refine decide_eq_decide.2 ?_;unfold goodN;omega)
   | (symm;rw [decide_eq_false_iff_not];unfold goodN;omega)
   | (symm;rw [decide_eq_true_iff];unfold goodN;omega))
theorem zhq (l:List Seg) (hl:l.length≤1000000):Pur Tryz.prog 145 [.sl 2 (l.map Seg.c)] (.bool (decide (pathRight l))):=by
 refine zw Tst.F145 (by simp [Tst.F145,Fn.mkX]) fun σ => ?_
 simp only [Tst.F145,Fn.mkX,Tst.b145]
 simp only [↓vcPre,↓z8,↓reduceIte,vcPost,vcStd,Nat.reduceEqDiff,reduceCtorEq,Nat.reduceAdd,Nat.reduceLeDiff,Int.reduceLT,Int.reduceLE,↓u_setN]
 refine LoopQ.inv (S:=Nat) (fun k=>[(0,.sl 2 (l.map Seg.c)),(3,.int .i64 (k:Int))]) (fun _=>σ) (fun k=>k≤l.length∧∀ s ∈ l.take k,segRight s) (fun k=>l.length+1 - k) 0 rfl (Store.sub_refl _) ⟨by omega,by simp⟩ ?_
 rintro k ⟨hk,hr⟩
 simp only [↓vcPre,↓z8,↓reduceIte,vcPost,vcStd,Nat.reduceEqDiff,reduceCtorEq,Nat.reduceAdd,Nat.reduceLeDiff,Int.reduceLT,Int.reduceLE,↓u_setN]
 refine ⟨fun c1 => ?_,fun c1 => ?_⟩
 ·have ek:IntKind.i64.wrap ((k:Int)+1)=((k+1:Nat):Int):=by rw [zd (by unfold I64;omega)];omega
  refine ⟨c1,by simp [Seg.c],?_⟩
  simp only [Seg.c,c1,↓vcPre,↓z8,↓reduceIte,vcPost,vcStd,Nat.reduceEqDiff,reduceCtorEq,Nat.reduceAdd,Nat.reduceLeDiff,Int.reduceLT,Int.reduceLE,↓u_setN]
  rw [ek]
  have no:¬ segRight l[k]→false=decide (pathRight l):=fun h=>by rw [decide_eq_false (fun h2:pathRight l=>h (h2.1 _ (List.getElem_mem c1)))]
  (repeat' first
    | (refine ⟨fun _ => ?_,fun _ => ?_⟩)
    | (refine no fun h => ?_;unfold segRight at h;omega))
  all_goals
   refine NextQ.to (k+1) rfl (Store.sub_refl _) (by omega) ⟨by omega,fun s hs => ?_⟩
   rw [List.take_add_one,List.getElem?_eq_getElem c1] at hs
   rcases List.mem_append.1 hs with h | h
   ·exact hr s h
   ·simp at h;subst h;unfold segRight;omega
 ·have e:l.take k=l:=List.take_of_length_le (by omega)
  rw [e] at hr
  refine decide_eq_decide.2 ⟨fun h=>⟨hr,by omega⟩,fun h => ?_⟩
  have:=h.2;omega
theorem c81 (a:At) (ha:a.ok):Pur Tryz.prog 81 [.agg a.c] (.bool (decide (atRight a))):=by
 refine zw Tst.F81 (by simp [Tst.F81,Fn.mkX]) fun σ => ?_
 simp only [Tst.F81,Fn.mkX,Tst.b81]
 simp only [At.c,↓vcPre,↓z8,↓reduceIte,vcPost,vcStd,Nat.reduceEqDiff,reduceCtorEq,Nat.reduceAdd,Nat.reduceLeDiff,Int.reduceLT,Int.reduceLE,↓u_setN]
 refine AllocQ.i0 fun i hi => ?_
 have hsb:=Store.sub_set σ i (.box a.c) hi
 have hTb:(σ.set i (.box a.c)) i=some (.box [.int .i64 a.org,.sl 2 (a.path.map Seg.c),.int .u32 a.nxt,.bool a.hm,.int .u32 a.med,.bool a.hp,.int .u32 a.prf,.bool a.atm,.sl 1 (a.cms.map cU)]):=Store.set_same _ _ _
 change bops _ _ _ (σ.set i (.box a.c)) _
 generalize σ.set i (.box a.c)=T at hsb hTb ⊢
 have no:¬ atRight a→false=decide (atRight a)∧Store.sub σ T:=fun h=>⟨by rw [decide_eq_false h],hsb⟩
 by_cases h1:a.org<0
 ·simp only [hTb,h1,↓vcPre,↓z8,↓reduceIte,vcPost,vcStd,Nat.reduceEqDiff,reduceCtorEq,Nat.reduceAdd,Nat.reduceLeDiff,Int.reduceLT,Int.reduceLE,↓u_setN]
  exact no fun h=>by have:=h.1;omega
 by_cases h2:2<a.org
 ·simp only [hTb,h1,h2,↓vcPre,↓z8,↓reduceIte,vcPost,vcStd,Nat.reduceEqDiff,reduceCtorEq,Nat.reduceAdd,Nat.reduceLeDiff,Int.reduceLT,Int.reduceLE,↓u_setN]
  exact no fun h=>by have:=h.1;omega
 simp only [hTb,h1,h2,↓vcPre,↓z8,↓reduceIte,vcPost,vcStd,Nat.reduceEqDiff,reduceCtorEq,Nat.reduceAdd,Nat.reduceLeDiff,Int.reduceLT,Int.reduceLE,↓u_setN]
 refine (zhq a.path ha.1).Q ?_
 by_cases g1:pathRight a.path
 case neg=>rw [decide_eq_false g1];simp only [hTb,↓vcPre,↓z8,↓reduceIte,vcPost,vcStd,Nat.reduceEqDiff,reduceCtorEq,Nat.reduceAdd,Nat.reduceLeDiff,Int.reduceLT,Int.reduceLE,↓u_setN];exact no fun h=>g1 h.2.1
 rw [decide_eq_true g1]
 simp only [hTb,↓vcPre,↓z8,↓reduceIte,vcPost,vcStd,Nat.reduceEqDiff,reduceCtorEq,Nat.reduceAdd,Nat.reduceLeDiff,Int.reduceLT,Int.reduceLE,↓u_setN]
 refine (zhp a.nxt).Q ?_
 by_cases g2:goodN a.nxt
 case neg=>rw [decide_eq_false g2];simp only [hTb,↓vcPre,↓z8,↓reduceIte,vcPost,vcStd,Nat.reduceEqDiff,reduceCtorEq,Nat.reduceAdd,Nat.reduceLeDiff,Int.reduceLT,Int.reduceLE,↓u_setN];exact no fun h=>g2 h.2.2.1
 rw [decide_eq_true g2]
 by_cases g3:a.hm=false→a.med=0
 case neg =>
  have hm:a.hm=false:=by cases h:a.hm <;> simp_all
  have hz:¬ a.med=0:=fun h=>g3 fun _=>h
  simp only [hTb,hm,hz,↓vcPre,↓z8,↓reduceIte,vcPost,vcStd,Nat.reduceEqDiff,reduceCtorEq,Nat.reduceAdd,Nat.reduceLeDiff,Int.reduceLT,Int.reduceLE,↓u_setN]
  exact no fun h=>g3 h.2.2.2.1
 by_cases g4:a.hp=false→a.prf=0
 case neg =>
  have hp:a.hp=false:=by cases h:a.hp <;> simp_all
  have hz:¬ a.prf=0:=fun h=>g4 fun _=>h
  cases hm:a.hm
  ·have hz2:a.med=0:=g3 hm
   simp only [hTb,hm,hp,hz,hz2,↓vcPre,↓z8,↓reduceIte,vcPost,vcStd,Nat.reduceEqDiff,reduceCtorEq,Nat.reduceAdd,Nat.reduceLeDiff,Int.reduceLT,Int.reduceLE,↓u_setN]
   exact no fun h=>g4 h.2.2.2.2.1
  ·simp only [hTb,hm,hp,hz,↓vcPre,↓z8,↓reduceIte,vcPost,vcStd,Nat.reduceEqDiff,reduceCtorEq,Nat.reduceAdd,Nat.reduceLeDiff,Int.reduceLT,Int.reduceLE,↓u_setN]
   exact no fun h=>g4 h.2.2.2.2.1
 cases hm:a.hm <;> cases hp:a.hp
 ·have e1:=g3 hm
  have e2:=g4 hp
  simp only [hTb,hm,hp,e1,e2,↓vcPre,↓z8,↓reduceIte,vcPost,vcStd,Nat.reduceEqDiff,reduceCtorEq,Nat.reduceAdd,Nat.reduceLeDiff,Int.reduceLT,Int.reduceLE,↓u_setN]
  refine ⟨fun c=>no fun h=>by have:=h.2.2.2.2.2.1;omega,fun c => ?_⟩
  refine LoopQ.inv (S:=Nat) (fun k=>[(1,.ptr i 0),(3,.int .i64 ((k+1:Nat):Int))]) (fun _=>T) (fun k=>k≤a.cms.length∧∀ i,∀ h:i+1<a.cms.length,i<k→a.cms[i]<a.cms[i+1]) (fun k=>a.cms.length+1 - k) 0 rfl (Store.sub_refl _) ⟨by omega,fun i _ h=>by omega⟩ ?_
  rintro k ⟨hk,hr⟩
  simp only [hTb,↓vcPre,↓z8,↓reduceIte,vcPost,vcStd,Nat.reduceEqDiff,reduceCtorEq,Nat.reduceAdd,Nat.reduceLeDiff,Int.reduceLT,Int.reduceLE,↓u_setN]
  refine ⟨fun c1 => ?_,fun c1 => ?_⟩
  ·have ek:IntKind.i64.wrap (((k+1:Nat):Int)+1)=((k+1+1:Nat):Int):=by rw [zd (by unfold I64;omega)];omega
   have em:IntKind.i64.wrap (((k+1:Nat):Int) - 1)=(k:Int):=by rw [zd (by unfold I64;omega)];omega
   rw [em]
   simp only [Int.toNat_natCast]
   refine ⟨by omega,by omega,by simp [cU],?_⟩
   simp only [cU,↓vcPre,↓z8,↓reduceIte,vcPost,vcStd,Nat.reduceEqDiff,reduceCtorEq,Nat.reduceAdd,Nat.reduceLeDiff,Int.reduceLT,Int.reduceLE,↓u_setN]
   refine ⟨c1,fun g => ?_,fun g => ?_⟩
   ·exact no fun h=>by have:=inc_pt.1 h.2.2.2.2.2.2 k (by omega);omega
   ·rw [ek]
    refine NextQ.to (k+1) rfl (Store.sub_refl _) (by omega) ⟨by omega,fun i hi hik => ?_⟩
    by_cases e:i=k
    ·subst e;omega
    ·exact hr i hi (by omega)
  ·refine ⟨?_,hsb⟩
   symm
   rw [decide_eq_true_iff]
   exact ⟨⟨by omega,by omega⟩,g1,g2,g3,g4,by omega,inc_pt.2 fun i hi=>hr i hi (by omega)⟩
 ·have e1:=g3 hm
  simp only [hTb,hm,hp,e1,↓vcPre,↓z8,↓reduceIte,vcPost,vcStd,Nat.reduceEqDiff,reduceCtorEq,Nat.reduceAdd,Nat.reduceLeDiff,Int.reduceLT,Int.reduceLE,↓u_setN]
  refine ⟨fun c=>no fun h=>by have:=h.2.2.2.2.2.1;omega,fun c => ?_⟩
  refine LoopQ.inv (S:=Nat) (fun k=>[(1,.ptr i 0),(3,.int .i64 ((k+1:Nat):Int))]) (fun _=>T) (fun k=>k≤a.cms.length∧∀ i,∀ h:i+1<a.cms.length,i<k→a.cms[i]<a.cms[i+1]) (fun k=>a.cms.length+1 - k) 0 rfl (Store.sub_refl _) ⟨by omega,fun i _ h=>by omega⟩ ?_
  rintro k ⟨hk,hr⟩
  simp only [hTb,↓vcPre,↓z8,↓reduceIte,vcPost,vcStd,Nat.reduceEqDiff,reduceCtorEq,Nat.reduceAdd,Nat.reduceLeDiff,Int.reduceLT,Int.reduceLE,↓u_setN]
  refine ⟨fun c1 => ?_,fun c1 => ?_⟩
  ·have ek:IntKind.i64.wrap (((k+1:Nat):Int)+1)=((k+1+1:Nat):Int):=by rw [zd (by unfold I64;omega)];omega
   have em:IntKind.i64.wrap (((k+1:Nat):Int) - 1)=(k:Int):=by rw [zd (by unfold I64;omega)];omega
   rw [em]
   simp only [Int.toNat_natCast]
   refine ⟨by omega,by omega,by simp [cU],?_⟩
   simp only [cU,↓vcPre,↓z8,↓reduceIte,vcPost,vcStd,Nat.reduceEqDiff,reduceCtorEq,Nat.reduceAdd,Nat.reduceLeDiff,Int.reduceLT,Int.reduceLE,↓u_setN]
   refine ⟨c1,fun g => ?_,fun g => ?_⟩
   ·exact no fun h=>by have:=inc_pt.1 h.2.2.2.2.2.2 k (by omega);omega
   ·rw [ek]
    refine NextQ.to (k+1) rfl (Store.sub_refl _) (by omega) ⟨by omega,fun i hi hik => ?_⟩
    by_cases e:i=k
    ·subst e;omega
    ·exact hr i hi (by omega)
  ·refine ⟨?_,hsb⟩
   symm
   rw [decide_eq_true_iff]
   exact ⟨⟨by omega,by omega⟩,g1,g2,g3,g4,by omega,inc_pt.2 fun i hi=>hr i hi (by omega)⟩
 ·have e2:=g4 hp
  simp only [hTb,hm,hp,e2,↓vcPre,↓z8,↓reduceIte,vcPost,vcStd,Nat.reduceEqDiff,reduceCtorEq,Nat.reduceAdd,Nat.reduceLeDiff,Int.reduceLT,Int.reduceLE,↓u_setN]
  refine ⟨fun c=>no fun h=>by have:=h.2.2.2.2.2.1;omega,fun c => ?_⟩
  refine LoopQ.inv (S:=Nat) (fun k=>[(1,.ptr i 0),(3,.int .i64 ((k+1:Nat):Int))]) (fun _=>T) (fun k=>k≤a.cms.length∧∀ i,∀ h:i+1<a.cms.length,i<k→a.cms[i]<a.cms[i+1]) (fun k=>a.cms.length+1 - k) 0 rfl (Store.sub_refl _) ⟨by omega,fun i _ h=>by omega⟩ ?_
  rintro k ⟨hk,hr⟩
  simp only [hTb,↓vcPre,↓z8,↓reduceIte,vcPost,vcStd,Nat.reduceEqDiff,reduceCtorEq,Nat.reduceAdd,Nat.reduceLeDiff,Int.reduceLT,Int.reduceLE,↓u_setN]
  refine ⟨fun c1 => ?_,fun c1 => ?_⟩
  ·have ek:IntKind.i64.wrap (((k+1:Nat):Int)+1)=((k+1+1:Nat):Int):=by rw [zd (by unfold I64;omega)];omega
   have em:IntKind.i64.wrap (((k+1:Nat):Int) - 1)=(k:Int):=by rw [zd (by unfold I64;omega)];omega
   rw [em]
   simp only [Int.toNat_natCast]
   refine ⟨by omega,by omega,by simp [cU],?_⟩
   simp only [cU,↓vcPre,↓z8,↓reduceIte,vcPost,vcStd,Nat.reduceEqDiff,reduceCtorEq,Nat.reduceAdd,Nat.reduceLeDiff,Int.reduceLT,Int.reduceLE,↓u_setN]
   refine ⟨c1,fun g => ?_,fun g => ?_⟩
   ·exact no fun h=>by have:=inc_pt.1 h.2.2.2.2.2.2 k (by omega);omega
   ·rw [ek]
    refine NextQ.to (k+1) rfl (Store.sub_refl _) (by omega) ⟨by omega,fun i hi hik => ?_⟩
    by_cases e:i=k
    ·subst e;omega
    ·exact hr i hi (by omega)
  ·refine ⟨?_,hsb⟩
   symm
   rw [decide_eq_true_iff]
   exact ⟨⟨by omega,by omega⟩,g1,g2,g3,g4,by omega,inc_pt.2 fun i hi=>hr i hi (by omega)⟩
 ·simp only [hTb,hm,hp,↓vcPre,↓z8,↓reduceIte,vcPost,vcStd,Nat.reduceEqDiff,reduceCtorEq,Nat.reduceAdd,Nat.reduceLeDiff,Int.reduceLT,Int.reduceLE,↓u_setN]
  refine ⟨fun c=>no fun h=>by have:=h.2.2.2.2.2.1;omega,fun c => ?_⟩
  refine LoopQ.inv (S:=Nat) (fun k=>[(1,.ptr i 0),(3,.int .i64 ((k+1:Nat):Int))]) (fun _=>T) (fun k=>k≤a.cms.length∧∀ i,∀ h:i+1<a.cms.length,i<k→a.cms[i]<a.cms[i+1]) (fun k=>a.cms.length+1 - k) 0 rfl (Store.sub_refl _) ⟨by omega,fun i _ h=>by omega⟩ ?_
  rintro k ⟨hk,hr⟩
  simp only [hTb,↓vcPre,↓z8,↓reduceIte,vcPost,vcStd,Nat.reduceEqDiff,reduceCtorEq,Nat.reduceAdd,Nat.reduceLeDiff,Int.reduceLT,Int.reduceLE,↓u_setN]
  refine ⟨fun c1 => ?_,fun c1 => ?_⟩
  ·have ek:IntKind.i64.wrap (((k+1:Nat):Int)+1)=((k+1+1:Nat):Int):=by rw [zd (by unfold I64;omega)];omega
   have em:IntKind.i64.wrap (((k+1:Nat):Int) - 1)=(k:Int):=by rw [zd (by unfold I64;omega)];omega
   rw [em]
   simp only [Int.toNat_natCast]
   refine ⟨by omega,by omega,by simp [cU],?_⟩
   simp only [cU,↓vcPre,↓z8,↓reduceIte,vcPost,vcStd,Nat.reduceEqDiff,reduceCtorEq,Nat.reduceAdd,Nat.reduceLeDiff,Int.reduceLT,Int.reduceLE,↓u_setN]
   refine ⟨c1,fun g => ?_,fun g => ?_⟩
   ·exact no fun h=>by have:=inc_pt.1 h.2.2.2.2.2.2 k (by omega);omega
   ·rw [ek]
    refine NextQ.to (k+1) rfl (Store.sub_refl _) (by omega) ⟨by omega,fun i hi hik => ?_⟩
    by_cases e:i=k
    ·subst e;omega
    ·exact hr i hi (by omega)
  ·refine ⟨?_,hsb⟩
   symm
   rw [decide_eq_true_iff]
   exact ⟨⟨by omega,by omega⟩,g1,g2,g3,g4,by omega,inc_pt.2 fun i hi=>hr i hi (by omega)⟩
end Go.Am
namespace Go.Am
open Go.Proofs Go.Sort
def RZ (σ:Store) (v:AV) (B:List Int) (τ:Store) (id:Nat) (R:List Int) (lack:Bool) (s:Store):Prop:=∃ (at_:Nat),τ id=none∧Store.sub τ s∧Store.sub σ τ∧s id=some (.box [v,.int .i64 (at_:Int),.bool lack])∧Rd 1 σ (B.map cB) v∧at_≤B.length∧R=B.drop at_∧B.length≤1000000000∧U8s B
section
variable {σ τ s:Store} {v:AV} {B:List Int} {id:Nat} {R:List Int} {lack:Bool}
theorem RZ.base (h:RZ σ v B τ id R lack s):RZ σ v B (s.del id) id R lack s∧Store.sub τ (s.del id):=by
 obtain ⟨at_,h1,h2,h3,h4,h5⟩:=h
 exact ⟨⟨at_,by simp,zz _ _,Store.sub_trans h3 (sub_del h2 h1),h4,h5⟩,sub_del h2 h1⟩
theorem RZ.of {at_:Nat} (h:RF τ id v B at_ lack s) (h1:B.length≤1000000000) (h2:U8s B) (h3:Store.sub σ τ) (h4:Rd 1 σ (B.map cB) v):RZ σ v B τ id (B.drop at_) lack s:=⟨at_,h.1,h.2.1,h3,h.2.2.1,h4,h.2.2.2.2,rfl,h1,h2⟩
end
end Go.Am
