/- A part of the proof: a logic for calls over plain values, and the functions that the law reaches, each walked once. -/
import Derived.Test.YtcjiacchgddnpaaPJ13
set_option linter.unusedVariables false
set_option linter.unusedSimpArgs false
set_option linter.unusedSectionVars false
namespace Go.Am
open Go.Proofs Go.Sort
theorem z3c (l:List Int):U8s (encW l):=by
 intro x hx
 simp only [encW,List.mem_flatMap] at hx
 obtain ⟨n,_,h⟩:=hx
 exact z1f n x h
theorem z42 (l:List Seg):U8s (encPath l):=by
 intro x hx
 simp only [encPath,List.mem_flatMap] at hx
 obtain ⟨s,_,h⟩:=hx
 simp only [encSeg,List.mem_append,List.mem_cons,List.not_mem_nil,or_false] at h
 rcases h with (rfl | rfl) | h
 ·omega
 ·omega
 ·exact z3c _ x h
theorem z41 {l:List Seg} (h:∀ s ∈ l,s.ls.length≤5):(encPath l).length≤22*l.length:=by
 induction l with
 | nil=>simp [encPath]
 | cons s l ih =>
   have h1:=h s (by simp)
   have h2:=ih fun x hx=>h x (by simp [hx])
   have h3:=zq s.ls
   simp only [encPath,List.flatMap_cons,List.length_append,encSeg,List.length_cons,List.length_nil] at h2 ⊢
   omega
theorem x7 {fl k:Int} {v:List Int} (h1:0≤fl∧fl<240) (h2:0≤k∧k<256) (h3:U8s v):U8s (oneA fl k v):=by
 intro x hx
 unfold oneA at hx
 rcases List.mem_append.1 hx with h | h
 ·split at h
  ·simp only [List.mem_cons,List.not_mem_nil,or_false] at h;omega
  ·simp only [List.mem_cons,List.not_mem_nil,or_false] at h;omega
 ·exact h3 x h
theorem z3a (a:At):U8s (encA a):=by
 have e1:U8s (oneA 64 1 [a.org % 256]):=x7 (by omega) (by omega) fun x hx=>by simp only [List.mem_singleton] at hx;omega
 have e2:=x7 (fl:=64) (k:=2) (by omega) (by omega) (z42 a.path)
 have e3:=x7 (fl:=64) (k:=3) (by omega) (by omega) (z1f a.nxt)
 have e4:U8s (if a.hm then oneA 128 4 (b4 a.med) else []):=by
  split
  ·exact x7 (by omega) (by omega) (z1f _)
  ·intro x hx;simp at hx
 have e5:U8s (if a.hp then oneA 64 5 (b4 a.prf) else []):=by
  split
  ·exact x7 (by omega) (by omega) (z1f _)
  ·intro x hx;simp at hx
 have e6:U8s (if a.atm then oneA 64 6 [] else []):=by
  split
  ·exact x7 (by omega) (by omega) fun x hx=>by simp at hx
  ·intro x hx;simp at hx
 have e8:U8s (if a.cms=[] then [] else oneA 192 8 (encW a.cms)):=by
  split
  ·intro x hx;simp at hx
  ·exact x7 (by omega) (by omega) (z3c _)
 unfold encA
 exact (((((e1.append e2).append e3).append e4).append e5).append e6).append e8
theorem yf (fl k:Int) (v:List Int):3≤(oneA fl k v).length∧(oneA fl k v).length≤4+v.length:=by
 rw [qm];split <;> omega
theorem z08 (a:At):4≤(encA (rightK a)).length∧(encA (rightK a)).length≤1000:=by
 have hp:(rightK a).path.length≤4∧∀ s ∈ (rightK a).path,s.ls.length≤5:=by
  constructor
  ·have:=List.length_filter_le okS ((a.path.take 4).map cutS)
   simp only [rightK,canonA,rightP]
   simp only [List.length_map,List.length_take] at this
   omega
  ·intro s hs
   simp only [rightK,canonA,rightP] at hs
   have h2:=(List.mem_filter.mp hs).1
   simp only [List.mem_map] at h2
   obtain ⟨x,_,rfl⟩:=h2
   unfold cutS;simp only [List.length_take];omega
 have hc:(rightK a).cms.length≤5:=by
  simp only [rightK,canonA]
  have:=xn (a.cms.take 5)
  simp only [List.length_take] at this
  omega
 generalize rightK a=r at hp hc ⊢
 have h1:=z41 hp.2
 have h2:=zq r.cms
 have b:∀ n,(b4 n).length=4:=fun _=>rfl
 unfold encA
 simp only [List.length_append]
 have z1:=yf 64 1 [r.org % 256]
 have z1e:(oneA 64 1 [r.org % 256]).length=4:=rfl
 have z2:=yf 64 2 (encPath r.path)
 have z3:=yf 64 3 (b4 r.nxt)
 have z3b:=b r.nxt
 have q4:(if r.hm=true then oneA 128 4 (b4 r.med) else []).length≤8:=by
  split
  ·have:=(yf 128 4 (b4 r.med)).2;have:=(yf 64 5 (b4 r.prf)).2;have:=b r.med;have:=b r.prf;omega
  ·simp
 have q5:(if r.hp=true then oneA 64 5 (b4 r.prf) else []).length≤8:=by
  split
  ·have:=(yf 128 4 (b4 r.med)).2;have:=(yf 64 5 (b4 r.prf)).2;have:=b r.med;have:=b r.prf;omega
  ·simp
 have q6:(if r.atm=true then oneA 64 6 [] else []).length≤8:=by
  split
  ·have:=(yf 64 6 []).2;simp only [List.length_nil] at this;omega
  ·simp
 have q8:(if r.cms=[] then [] else oneA 192 8 (encW r.cms)).length≤24:=by
  split
  ·simp
  ·have:=(yf 192 8 (encW r.cms)).2;omega
 omega
end Go.Am
namespace Go.Am
open Go.Proofs Go.Sort
theorem z0t:[AV.int .i64 0,.nils,.int .u32 0,.bool false,.int .u32 0,.bool false,.int .u32 0,.bool false,.nils]=zC:=rfl
theorem z0u:[AV.int .i64 0,.int .i64 0,.nils]=zN:=rfl
theorem z0a (a:At):encOk (shortA a):=by
 refine ⟨by simp only [shortA,List.length_map,List.length_take];omega,fun s hs => ?_,by simp only [shortA,List.length_take];omega⟩
 simp only [shortA,List.mem_map] at hs
 obtain ⟨x,_,rfl⟩:=hs
 simp only [shortS,List.length_take];omega
theorem encOk.ok {a:At} (h:encOk a):a.ok:=⟨by have:=h.1;omega,fun s hs=>by have:=h.2.1 s hs;show s.ls.length≤_;omega,by have:=h.2.2;omega⟩
theorem z5j (a:At):encOk (rightK (shortA a))∧(rightK (shortA a)).path.length≤4∧(∀ s ∈ (rightK (shortA a)).path,s.ls.length≤5)∧(rightK (shortA a)).cms.length≤5:=by
 have h1:(rightK (shortA a)).path.length≤4:=by
  have:=List.length_filter_le okS (((shortA a).path.take 4).map cutS)
  simp only [rightK,canonA,rightP]
  simp only [List.length_map,List.length_take] at this
  omega
 have h2:∀ s ∈ (rightK (shortA a)).path,s.ls.length≤5:=fun s hs=>by
  simp only [rightK,canonA,rightP] at hs
  have h2:=(List.mem_filter.mp hs).1
  simp only [List.mem_map] at h2
  obtain ⟨x,_,rfl⟩:=h2
  unfold cutS;simp only [List.length_take];omega
 have h3:(rightK (shortA a)).cms.length≤5:=by
  simp only [rightK,canonA]
  have:=xn ((shortA a).cms.take 5)
  simp only [List.length_take] at this
  omega
 exact ⟨⟨by omega,fun s hs=>by have:=h2 s hs;omega,by omega⟩,h1,h2,h3⟩
theorem z1r {a:At} (hr:atRight a) (hn:okNums a) (inner:Bool) (r:List Int):decB inner (encA a++r) zeroAt [] []=decB inner r (outA inner a) ((itsA a).map It.k).reverse (typesA inner a):=by
 obtain ⟨h1,h2⟩:=us hr hn
 have h:=x5 inner (itsA a) r zeroAt [] [] h1 h2 (by simp)
 rw [←qi,uq] at h
 obtain ⟨s1,s2⟩:=qo hr hn
 have e:(keepI inner (itsA a)).foldl (fun a i=>setV i.k i.v a) zeroAt=outA inner a:=by
  unfold outA
  cases inner
  ·exact s2
  ·exact s1
 rw [h,e,List.append_nil];rfl
theorem z39 {inner:Bool} {b:List Int} {n:Nt} (h:decB inner b zeroAt [] [] = .error n):decA inner b = .error n:=by rw [v7,h]
end Go.Am
namespace Go.Am
theorem zaf:∀ n:Fin 256,(andI (bitInt .andNot .u8 (n.val:Int) 16) 16=0)∧0≤bitInt .andNot .u8 (n.val:Int) 16∧bitInt .andNot .u8 (n.val:Int) 16<256:=by decide+kernel
theorem zag:∀ n:Fin 256,(bitInt .and .u8 (n.val:Int) 224=64)↔(andI (n.val:Int) 192=64∧andI (n.val:Int) 32=0):=by decide+kernel
theorem z55 {x:Int} (h:0≤x∧x<256):∃ n:Fin 256,x=(n.val:Int):=⟨⟨x.toNat,by omega⟩,by simp;omega⟩
theorem no5 {a:At} (h:a.hp=false):(5:Int) ∉ ((itsA a).map It.k).reverse:=by
 rw [List.mem_reverse]
 unfold itsA
 cases a.hm <;> cases a.atm <;> by_cases hc:a.cms=[] <;> simp [h,hc]
theorem z50 {fl:Int} (h:andI fl 16=0) (k:Int) (v:List Int):chunk (fl::k::(v.length:Int)::v)=some ⟨fl,k,v,fl::k::(v.length:Int)::v,[]⟩:=by
 unfold chunk
 simp only [h,if_true]
 rw [if_neg (by omega)]
 simp only [Int.toNat_natCast,List.take_length,List.drop_length]
 rw [List.take_of_length_le (by simp only [List.length_cons];omega)]
theorem z5e {a:At} (hr:atRight a) (hn:okNums a) {fl:Int} (h:andI fl 16=0) (v:List Int) (hp:a.hp=false) (h0:a.prf=0) :
 decA false (encA a++(fl::5::(v.length:Int)::v)) = .ok (a,typesA false a):=by
 have e:outA false a=a:=by obtain ⟨o,p,n,hm,m,hp',q,t,c⟩:=a;simp only at hp h0;subst hp;subst h0;rfl
 rw [v7,z1r hr hn,we _ (by simp),z50 h]
 simp only
 rw [if_neg (no5 hp)]
 simp only [and_self,if_true,vi]
 rw [e,xw hr,z00 (vu false a)]
theorem z71 {a:At} (hr:atRight a) (hn:okNums a) {fl:Int} (h:andI fl 16=0) (v:List Int) (hp:a.hp=false) (h0:a.prf=0) :
 (¬ (andI fl 192=64∧andI fl 32=0)→∃ M,decA true (encA a++(fl::5::(v.length:Int)::v)) = .error (4,M)) ∧
 (andI fl 192=64∧andI fl 32=0→¬ v.length=4→∃ M,decA true (encA a++(fl::5::(v.length:Int)::v)) = .error (5,M)) ∧
 (andI fl 192=64∧andI fl 32=0→v.length=4→∃ b l,decA true (encA a++(fl::5::(v.length:Int)::v)) = .ok (b,l)∧b.hp=true∧l.length≤100):=by
 have st:∀ x y z,stepA ⟨fl,5,v,x,y⟩ z=if andI fl 192≠64∨andI fl 32≠0∧(5:Int)≠8 then .error (4,x) else if ¬ fitsOf 5 v.length then .error (5,x) else .ok { z with hp:=true,prf:=(words 1 v).headD 0 }:=fun x y z=>by
  unfold stepA
  rw [if_neg (show ¬ wantOf 5=0 by decide)]
  rfl
 have e:decB true (encA a++(fl::5::(v.length:Int)::v)) zeroAt [] []=match stepA ⟨fl,5,v,fl::5::(v.length:Int)::v,[]⟩ a with
  | .error n => .error n
  | .ok a' => .ok (a',typesA true a++[5]):=by
  rw [z1r hr hn,we _ (by simp),z50 h]
  simp only
  rw [if_neg (no5 hp)]
  simp only [and_false,if_false,vi,reduceCtorEq]
  rfl
 rw [st] at e
 have f5:fitsOf 5 v.length↔v.length=4:=by unfold fitsOf;simp
 refine ⟨fun g => ?_,fun g g2 => ?_,fun g g2 => ?_⟩
 ·rw [if_pos (by by_cases g1:andI fl 192=64 <;> simp_all)] at e
  exact ⟨_,z39 e⟩
 ·rw [if_neg (by simp [g.1,g.2]),if_pos (by rw [f5];exact g2)] at e
  exact ⟨_,z39 e⟩
 ·rw [if_neg (by simp [g.1,g.2]),if_neg (by rw [f5];simp [g2])] at e
  refine ⟨_,_,by rw [v7,e],rfl,?_⟩
  rw [List.length_mergeSort,List.length_append]
  unfold typesA
  cases a.hm <;> cases a.hp <;> cases a.atm <;> by_cases h:a.cms=[] <;> simp [h]
end Go.Am
namespace Go.Am.Tsw
open Go.Proofs Go.Am.B
def b5:BC:=z [⟨some 3,none,.alloc (.box),[.t 0]⟩,k 6 (.bool false)] [1,2,3] (z [⟨some 18,none,.load (.ld 9 true),[.t 3]⟩,g 19 8 [.t 18],g 20 7 [.t 19],s 9 3 20] [1,2,3] (z [f 21 5 3,⟨none,none,.loud (.st 1),[.t 21,.c (.bool false)]⟩,f 22 6 3,⟨none,none,.loud (.st 1),[.t 22,.c (.int .u32 0)]⟩] [1,2,3] (z [⟨some 23,none,.load (.ld 9 true),[.t 3]⟩,g 24 9 [.t 23],m 7 24] [1,2,3,7] (z [m 25 2,g 26 10 [.t 25,.c (.int .i64 40)],m 2 26] [1,2,3,7] (z [m 27 1,p 28 (.bin .andNot) [.t 27,.c (.int .u8 16)],m 1 28] [1,2,3,7] (z [⟨some 29,none,.alloc (.mksl 1 0),[]⟩,m 30 7,⟨some 31,none,.loud (.app 1 1),[.t 29,.t 30]⟩,m 32 1,m 33 2,u 34 .len 33,u 35 (.conv .u8) 34,⟨some 36,none,.alloc (.mksl 1 3),[.t 32,.c (.int .u8 5),.t 35]⟩,m 37 2,⟨some 38,none,.loud (.app 1 1),[.t 36,.t 37]⟩,⟨some 39,none,.loud (.app 1 1),[.t 31,.t 38]⟩,m 8 39] [1,2,3,7,8] (z [m 41 8,g 42 12 [.t 41,.c (.bool false)],m 40 42,e 43 0 40,e 44 1 40,e 45 2 40,⟨some 9,none,.alloc (.alloc [(.int .i64 0),.nils,(.int .u32 0),(.bool false),(.int .u32 0),(.bool false),(.int .u32 0),(.bool false),.nils]),[]⟩,⟨some 11,none,.alloc (.alloc [(.int .i64 0),(.int .i64 0),.nils]),[]⟩,s 9 9 43,m 10 44,s 3 11 45] [1,2,3,7,8,9,10,11] (z [m 47 7,g 48 12 [.t 47,.c (.bool false)],m 46 48,e 49 0 46,e 50 1 46,e 51 2 46,⟨some 12,none,.alloc (.alloc [(.int .i64 0),.nils,(.int .u32 0),(.bool false),(.int .u32 0),(.bool false),(.int .u32 0),(.bool false),.nils]),[]⟩,⟨some 14,none,.alloc (.alloc [(.int .i64 0),(.int .i64 0),.nils]),[]⟩,s 9 12 49,m 13 50,s 3 14 51] [1,2,3,8,9,10,11,13] (.seq (z [f 52 0 11,l 53 1 52,c 54 .neq 53 0,m 55 54,⟨some 56,some (55,false),.load (.ld 9 true),[.t 9]⟩,⟨some 57,some (55,false),.load (.ld 9 true),[.t 3]⟩,⟨some 58,some (55,false),.loud (.call 13),[.t 56,.t 57]⟩,⟨some 59,some (55,false),.pure (.not),[.t 58]⟩,⟨some 60,none,.pick,[.t 55,.c (.bool true),.t 59]⟩,m 61 60,⟨some 62,some (61,false),.pure (.mov),[.t 10]⟩,⟨some 63,some (61,false),.pure (.mov),[.t 13]⟩,⟨some 64,some (61,false),.loud (.call 14),[.t 62,.t 63]⟩,⟨some 65,some (61,false),.pure (.not),[.t 64]⟩,⟨some 66,none,.pick,[.t 61,.c (.bool true),.t 65]⟩] [1,2,8,66] (.cond (.t 66) (z [k 6 (.bool false)] [6] .ret) .skip)) (z [m 68 8,g 69 12 [.t 68,.c (.bool true)],m 67 69,e 70 0 67,e 71 1 67,e 72 2 67,⟨some 15,none,.alloc (.alloc [(.int .i64 0),.nils,(.int .u32 0),(.bool false),(.int .u32 0),(.bool false),(.int .u32 0),(.bool false),.nils]),[]⟩,⟨some 17,none,.alloc (.alloc [(.int .i64 0),(.int .i64 0),.nils]),[]⟩,s 9 15 70,m 16 71,s 3 17 72] [1,2,15,17] (.seq (z [m 73 1,p 74 (.bin .and) [.t 73,.c (.int .u8 224)],p 75 (.bin .neq) [.t 74,.c (.int .u8 64)]] [2,15,17,75] (.cond (.t 75) (z [f 76 0 17,l 77 1 76,c 78 .eql 77 3,m 79 78,⟨some 80,some (79,true),.pure (.fld 1),[.t 17]⟩,⟨some 81,some (79,true),.load (.ld 1 false),[.t 80]⟩,⟨some 82,some (79,true),.pure (.bin .eql),[.t 81,.c (.int .i64 4)]⟩,⟨some 83,none,.pick,[.t 79,.t 82,.c (.bool false)]⟩,m 84 83,⟨some 85,some (84,true),.loud (.call 15),[]⟩,⟨some 86,none,.pick,[.t 84,.t 85,.c (.bool false)]⟩,m 6 86] [6] .ret) .skip)) (.seq (z [m 87 2,u 88 .len 87,c 89 .neq 88 4] [15,17,89] (.cond (.t 89) (z [f 90 0 17,l 91 1 90,c 92 .eql 91 3,m 93 92,⟨some 94,some (93,true),.pure (.fld 1),[.t 17]⟩,⟨some 95,some (93,true),.load (.ld 1 false),[.t 94]⟩,⟨some 96,some (93,true),.pure (.bin .eql),[.t 95,.c (.int .i64 5)]⟩,⟨some 97,none,.pick,[.t 93,.t 96,.c (.bool false)]⟩,m 98 97,⟨some 99,some (98,true),.loud (.call 15),[]⟩,⟨some 100,none,.pick,[.t 98,.t 99,.c (.bool false)]⟩,m 6 100] [6] .ret) .skip)) (z [f 101 0 17,l 102 1 101,c 103 .eql 102 0,m 104 103,⟨some 105,some (104,true),.pure (.fld 5),[.t 15]⟩,⟨some 106,some (104,true),.load (.ld 1 false),[.t 105]⟩,⟨some 107,none,.pick,[.t 104,.t 106,.c (.bool false)]⟩,m 108 107,⟨some 109,some (108,true),.loud (.call 15),[]⟩,⟨some 110,none,.pick,[.t 108,.t 109,.c (.bool false)]⟩,m 6 110] [6] .ret)))))))))))))
def F5:Fn Try.prog 5:=Fn.mkX false b5 [.t 6] 111 Try.f5 _ Try.func5 (by decide) rfl Try.ntmps5 (by kernel_rfl) (by kernel_rfl)
end Go.Am.Tsw
namespace Go.Am
open Go.Proofs Go.Sort
set_option maxHeartbeats 1000000 in
theorem z6w (a:At) (ho:I64 a.org) (hn:okNums a) (fl0:Int) (hf0:0≤fl0∧fl0<256) (V:List Int) (hV:U8s V):Pur Try.prog 5 [.agg a.c,.int .u8 fl0,.sl 1 (V.map cB)] (.bool true):=by
 refine zl Tsw.F5 (by simp [Tsw.F5,Fn.mkX]) fun σ => ?_
 simp only [Tsw.F5,Fn.mkX,Tsw.b5,z0t,z0u]
 have e9:∀ x:At,x.c.length=9:=fun _=>rfl
 have t9:∀ x:At,List.take 9 x.c=x.c:=fun _=>rfl
 have spA:∀ x y:At,splice 0 x.c y.c=some x.c:=fun _ _=>rfl
 have spZ:∀ x:At,splice 0 x.c zC=some x.c:=fun _=>rfl
 have szn:∀ x y z:AV,splice 0 [x,y,z] zN=some [x,y,z]:=fun _ _ _=>rfl
 have sp5:∀ (x:At) (b:Bool),splice 5 [.bool b] x.c=some { x with hp:=b }.c:=fun _ _=>rfl
 have sp6:∀ (x:At) (b:Int),splice 6 [.int .u32 b] x.c=some { x with prf:=b }.c:=fun _ _=>rfl
 have hen:=z0a a
 obtain ⟨hr,hnn⟩:=qe hn
 obtain ⟨hre,hl1,hl2,hl3⟩:=z5j a
 simp only [↓vcPre,↓z0,↓reduceIte,vcPost,vcStd,Nat.reduceEqDiff,reduceCtorEq,Nat.reduceAdd,Nat.reduceLeDiff,Int.reduceLT,Int.reduceLE,↓u_setN]
 refine AllocQ.i0 fun i hi => ?_
 simp only [e9,t9,Nat.le_refl,↓vcPre,↓z0,↓reduceIte,vcPost,vcStd,Nat.reduceEqDiff,reduceCtorEq,Nat.reduceAdd,Nat.reduceLeDiff,Int.reduceLT,Int.reduceLE,↓u_setN]
 refine (c8 a).Q ?_
 simp only [↓vcPre,↓z0,↓reduceIte,vcPost,vcStd,Nat.reduceEqDiff,reduceCtorEq,Nat.reduceAdd,Nat.reduceLeDiff,Int.reduceLT,Int.reduceLE,↓u_setN]
 refine (c7 _ hen.ok ho).Q ?_
 simp only [spA,e9,t9,Nat.le_refl,sp5,sp6,↓vcPre,↓z0,↓reduceIte,vcPost,vcStd,Nat.reduceEqDiff,reduceCtorEq,Nat.reduceAdd,Nat.reduceLeDiff,Int.reduceLT,Int.reduceLE,↓u_setN]
 have hyl:=z08 (shortA a)
 generalize rightK (shortA a)=r at hr hnn hre hl1 hl2 hl3 hyl ⊢
 obtain ⟨b,hb⟩:∃ b:At,b={ r with hp:=false,prf:=0 }:=⟨_,rfl⟩
 have hb1:b.hp=false:=by rw [hb]
 have hb2:b.prf=0:=by rw [hb]
 have hbr:atRight b:=by
  rw [hb]
  obtain ⟨h1,h2,h3,h4,h5,h6,h7⟩:=hr
  exact ⟨h1,h2,h3,h4,fun _=>rfl,h6,h7⟩
 have hbn:okNums b:=by
  rw [hb]
  obtain ⟨h1,h2,h3,h4,h5⟩:=hnn
  exact ⟨h1,h2,⟨Int.le_refl 0,show (0:Int)<4294967296 by omega⟩,h4,h5⟩
 have hbe:encOk b:=by rw [hb];exact hre
 have hbl:(encA b).length≤1000:=by
  refine Nat.le_trans ?_ hyl.2
  rw [hb];unfold encA
  simp only [List.length_append]
  cases r.hp <;> simp
 have hbu:=z3a b
 have sT:Store.sub σ ((((σ.set i (.box a.c)).set i (.box r.c)).set i (.box { r with hp:=false }.c)).set i (.box b.c)):=z6 (z6 (z6 (Store.sub_set σ i _ hi) hi) hi) hi
 have Ti:((((σ.set i (.box a.c)).set i (.box r.c)).set i (.box { r with hp:=false }.c)).set i (.box b.c)) i=some (.box b.c):=Store.set_same _ _ _
 rw [←hb]
 generalize ((((σ.set i (.box a.c)).set i (.box r.c)).set i (.box { r with hp:=false }.c)).set i (.box b.c))=T at sT Ti ⊢
 refine (s9 b hbe T).Q ?_
 rintro y s ⟨hs,hy⟩
 have si:=hs _ _ Ti
 simp only [↓vcPre,↓z0,↓reduceIte,vcPost,vcStd,Nat.reduceEqDiff,reduceCtorEq,Nat.reduceAdd,Nat.reduceLeDiff,Int.reduceLT,Int.reduceLE,↓u_setN]
 refine (s10 (σ:=s) (B:=V) Rd.sl 40).Q ?_
 rintro v s' ⟨rfl,hv⟩
 have hVl:(V.take 40).length≤40:=by simp only [List.length_take];omega
 have hVu:U8s (V.take 40):=hV.take 40
 generalize V.take 40=W at hv hVl hVu
 simp only [↓vcPre,↓z0,↓reduceIte,vcPost,vcStd,Nat.reduceEqDiff,reduceCtorEq,Nat.reduceAdd,Nat.reduceLeDiff,Int.reduceLT,Int.reduceLE,↓u_setN]
 obtain ⟨n,hn'⟩:=z55 hf0
 obtain ⟨f1,f2,f3⟩:=zaf n
 rw [hn']
 generalize bitInt .andNot .u8 (n.val:Int) 16=fl at f1 f2 f3 ⊢
 obtain ⟨n2,hn2⟩:=z55 ⟨f2,f3⟩
 have hg:=zag n2
 rw [←hn2] at hg
 have hyr:Rd 1 s' ((encA b).map cB) y:=Rd.own hy
 have hlv:pv .len [v]=some (.int .i64 (W.length:Int)):=by rw [hv.2];simp
 have w8:IntKind.u8.wrap (W.length:Int)=W.length:=by simp [IntKind.wrap,IntKind.bits,IntKind.signed];omega
 refine AllocQ.i0 fun d hd => ?_
 simp only [↓vcPre,↓z0,↓reduceIte,vcPost,vcStd,Nat.reduceEqDiff,reduceCtorEq,Nat.reduceAdd,Nat.reduceLeDiff,Int.reduceLT,Int.reduceLE,↓u_setN]
 have hsd:=Store.sub_set s' d (.arr 1 []) hd
 refine Own.appM (τ:=s') hsd (Own.new (L:=[]) hd) (hyr.1 _ hsd) (by simp;omega) fun v1 u1 hu1 ho1 => ?_
 simp only [hlv,w8,z0q,↓vcPre,↓z0,↓reduceIte,vcPost,vcStd,Nat.reduceEqDiff,reduceCtorEq,Nat.reduceAdd,Nat.reduceLeDiff,Int.reduceLT,Int.reduceLE,↓u_setN]
 refine AllocQ.i0 fun q hq => ?_
 simp only [↓vcPre,↓z0,↓reduceIte,vcPost,vcStd,Nat.reduceEqDiff,reduceCtorEq,Nat.reduceAdd,Nat.reduceLeDiff,Int.reduceLT,Int.reduceLE,↓u_setN]
 have hsq:=Store.sub_set u1 q (.arr 1 [[.int .u8 fl],[.int .u8 5],[.int .u8 (W.length:Int)]]) hq
 refine Own.appM (τ:=u1) hsq (Own.new (L:=[[.int .u8 fl],[.int .u8 5],[.int .u8 (W.length:Int)]]) hq) (hv.1 _ (Store.sub_trans hu1 hsq)) (by simp;omega) fun v2 u2 hu2 ho2 => ?_
 obtain ⟨τ',t1,t2,t3,t4⟩:=Own.addG ho1 hu1 hu2 ho2
 refine Own.appM (τ:=τ') t2 t3 (t4.1 _ t2) (by simp;omega) fun v3 u3 hu3 ho3 => ?_
 have ho3':Own 1 τ' ((encA b++(fl::5::(W.length:Int)::W)).map cB) v3 u3:=by simpa [cB] using ho3
 have hXu:U8s (encA b++(fl::5::(W.length:Int)::W)):=hbu.append fun x hx=>by
  simp only [List.mem_cons] at hx
  rcases hx with rfl | rfl | rfl | hx
  ·exact ⟨f2,f3⟩
  ·omega
  ·omega
  ·exact hVu x hx
 have hXl:(encA b++(fl::5::(W.length:Int)::W)).length≤1000000:=by simp only [List.length_append,List.length_cons];omega
 have O1:=z5e hbr hbn f1 W hb1 hb2
 obtain ⟨O2,O3,O4⟩:=z71 hbr hbn f1 W hb1 hb2
 generalize (encA b++(fl::5::(W.length:Int)::W))=X at ho3' hXu hXl O1 O2 O3 O4
 have hsu:Store.sub s' u3:=Store.sub_trans t1 hu3
 have ui:=hsu _ _ si
 have hyu3:=hyr.mono hsu
 have sσ3:=Store.sub_trans sT (Store.sub_trans hs hsu)
 have D1:=s12 (Rd.own ho3') hXl hXu false
 rw [O1] at D1
 have D3:=fun t (ht:Store.sub u3 t)=>s12 ((Rd.own ho3').mono ht) hXl hXu true
 have hty:(typesA false b).length≤1000000:=by
  unfold typesA
  cases b.hm <;> cases b.hp <;> cases b.atm <;> by_cases h:b.cms=[] <;> simp [h]
 refine D1.Q ?_
 rintro r1 w ⟨rfl,rfl⟩
 simp only [outD,List.map_nil]
 simp only [↓vcPre,↓z0,↓reduceIte,vcPost,vcStd,Nat.reduceEqDiff,reduceCtorEq,Nat.reduceAdd,Nat.reduceLeDiff,Int.reduceLT,Int.reduceLE,↓u_setN]
 refine AllocQ.i0 fun p9 hp9 => ?_
 simp only [↓vcPre,↓z0,↓reduceIte,vcPost,vcStd,Nat.reduceEqDiff,reduceCtorEq,Nat.reduceAdd,Nat.reduceLeDiff,Int.reduceLT,Int.reduceLE,↓u_setN]
 refine AllocQ.i1 fun p11 h119 h911 hp11 => ?_
 simp only [h119,h911,e9,spZ,szn,↓vcPre,↓z0,↓reduceIte,vcPost,vcStd,Nat.reduceEqDiff,reduceCtorEq,Nat.reduceAdd,Nat.reduceLeDiff,Int.reduceLT,Int.reduceLE,↓u_setN]
 have sU:Store.sub w ((((w.set p9 (.box zC)).set p11 (.box zN)).set p9 (.box b.c)).set p11 (.box [.int .i64 0,.int .i64 0,.sl 1 []])):=z6 (z6 (zj hp9 hp11 h119) hp9) hp11
 have U11:((((w.set p9 (.box zC)).set p11 (.box zN)).set p9 (.box b.c)).set p11 (.box [.int .i64 0,.int .i64 0,.sl 1 []])) p11=some (.box [.int .i64 0,.int .i64 0,.sl 1 []]):=Store.set_same _ _ _
 have U9:((((w.set p9 (.box zC)).set p11 (.box zN)).set p9 (.box b.c)).set p11 (.box [.int .i64 0,.int .i64 0,.sl 1 []])) p9=some (.box b.c):=by rw [Store.set_ne _ _ h911];exact Store.set_same _ _ _
 generalize ((((w.set p9 (.box zC)).set p11 (.box zN)).set p9 (.box b.c)).set p11 (.box [.int .i64 0,.int .i64 0,.sl 1 []]))=U at sU U11 U9 ⊢
 have Ui:=sU _ _ ui
 have hyU:=hyu3.mono sU
 have hb0:outA false b=b:=by rw [hb];rfl
 have D2:=s12 hyU (by omega) hbu false
 rw [z38 hbr hbn false,hb0] at D2
 refine D2.Q ?_
 rintro r2 w2 ⟨rfl,rfl⟩
 simp only [outD,List.map_nil]
 simp only [↓vcPre,↓z0,↓reduceIte,vcPost,vcStd,Nat.reduceEqDiff,reduceCtorEq,Nat.reduceAdd,Nat.reduceLeDiff,Int.reduceLT,Int.reduceLE,↓u_setN]
 refine AllocQ.i0 fun p12 hp12 => ?_
 simp only [↓vcPre,↓z0,↓reduceIte,vcPost,vcStd,Nat.reduceEqDiff,reduceCtorEq,Nat.reduceAdd,Nat.reduceLeDiff,Int.reduceLT,Int.reduceLE,↓u_setN]
 refine AllocQ.i1 fun p14 h1412 h1214 hp14 => ?_
 simp only [h1412,h1214,e9,spZ,szn,↓vcPre,↓z0,↓reduceIte,vcPost,vcStd,Nat.reduceEqDiff,reduceCtorEq,Nat.reduceAdd,Nat.reduceLeDiff,Int.reduceLT,Int.reduceLE,↓u_setN]
 have sV:Store.sub w2 ((((w2.set p12 (.box zC)).set p14 (.box zN)).set p12 (.box b.c)).set p14 (.box [.int .i64 0,.int .i64 0,.sl 1 []])):=z6 (z6 (zj hp12 hp14 h1412) hp12) hp14
 generalize ((((w2.set p12 (.box zC)).set p14 (.box zN)).set p12 (.box b.c)).set p14 (.box [.int .i64 0,.int .i64 0,.sl 1 []]))=V2 at sV ⊢
 have V11:=sV _ _ U11
 have V9:=sV _ _ U9
 have Vi:=sV _ _ Ui
 simp only [V11,V9,Vi,e9,t9,Nat.le_refl,↓vcPre,↓z0,↓reduceIte,vcPost,vcStd,Nat.reduceEqDiff,reduceCtorEq,Nat.reduceAdd,Nat.reduceLeDiff,Int.reduceLT,Int.reduceLE,↓u_setN]
 have sm:=z5m b b hbe.ok hbe.ok
 rw [decide_eq_true rfl] at sm
 refine sm.Q ?_
 simp only [↓vcPre,↓z0,↓reduceIte,vcPost,vcStd,Nat.reduceEqDiff,reduceCtorEq,Nat.reduceAdd,Nat.reduceLeDiff,Int.reduceLT,Int.reduceLE,↓u_setN]
 refine (c14 _ hty).Q ?_
 simp only [↓vcPre,↓z0,↓reduceIte,vcPost,vcStd,Nat.reduceEqDiff,reduceCtorEq,Nat.reduceAdd,Nat.reduceLeDiff,Int.reduceLT,Int.reduceLE,↓u_setN]
 have sσV:=Store.sub_trans sσ3 (Store.sub_trans sU sV)
 have D4:=D3 V2 (Store.sub_trans sU sV)
 have sub3:∀ {t:Store} {p q:Nat} {x y:Obj},Store.sub V2 t→t p=none→t q=none→¬ q=p→Store.sub σ ((((t.set p (.box zC)).set q (.box zN)).set p x).set q y):=fun h hp hq hqp=>Store.sub_trans sσV (Store.sub_trans h (z6 (z6 (zj hp hq hqp) hp) hq))
 by_cases g1:andI fl 192=64∧andI fl 32=0
 ·have hg':=hg.2 g1
  by_cases g2:W.length=4
  ·obtain ⟨c,l,hM,hc,hl⟩:=O4 g1 g2
   rw [hM] at D4
   refine D4.Q ?_
   rintro r4 w4 ⟨rfl,rfl⟩
   simp only [outD,List.map_nil]
   simp only [↓vcPre,↓z0,↓reduceIte,vcPost,vcStd,Nat.reduceEqDiff,reduceCtorEq,Nat.reduceAdd,Nat.reduceLeDiff,Int.reduceLT,Int.reduceLE,↓u_setN]
   refine AllocQ.i0 fun p15 hp15 => ?_
   simp only [↓vcPre,↓z0,↓reduceIte,vcPost,vcStd,Nat.reduceEqDiff,reduceCtorEq,Nat.reduceAdd,Nat.reduceLeDiff,Int.reduceLT,Int.reduceLE,↓u_setN]
   refine AllocQ.i1 fun p17 h1715 h1517 hp17 => ?_
   have c5:List.take 1 (List.drop 5 c.c)=[.bool true]:=by show [AV.bool c.hp]=_;rw [hc]
   simp only [h1715,h1517,e9,spZ,szn,hlv,c5,↓vcPre,↓z0,↓reduceIte,vcPost,vcStd,Nat.reduceEqDiff,reduceCtorEq,Nat.reduceAdd,Nat.reduceLeDiff,Int.reduceLT,Int.reduceLE,↓u_setN]
   refine ⟨fun h=>absurd hg' h,fun _=>⟨fun h=>absurd (by omega) h,fun _ => ?_⟩⟩
   refine c15.Q ?_
   simp only [↓vcPre,↓z0,↓reduceIte,vcPost,vcStd,Nat.reduceEqDiff,reduceCtorEq,Nat.reduceAdd,Nat.reduceLeDiff,Int.reduceLT,Int.reduceLE,↓u_setN]
   exact sub3 (Store.sub_refl _) hp15 hp17 h1715
  ·obtain ⟨M,hM⟩:=O3 g1 g2
   rw [hM] at D4
   refine D4.Q ?_
   rintro r4 w4 ⟨rfl,rfl⟩
   simp only [outD,List.map_nil]
   simp only [↓vcPre,↓z0,↓reduceIte,vcPost,vcStd,Nat.reduceEqDiff,reduceCtorEq,Nat.reduceAdd,Nat.reduceLeDiff,Int.reduceLT,Int.reduceLE,↓u_setN]
   refine AllocQ.i0 fun p15 hp15 => ?_
   simp only [↓vcPre,↓z0,↓reduceIte,vcPost,vcStd,Nat.reduceEqDiff,reduceCtorEq,Nat.reduceAdd,Nat.reduceLeDiff,Int.reduceLT,Int.reduceLE,↓u_setN]
   refine AllocQ.i1 fun p17 h1715 h1517 hp17 => ?_
   simp only [h1715,h1517,e9,spZ,szn,hlv,↓vcPre,↓z0,↓reduceIte,vcPost,vcStd,Nat.reduceEqDiff,reduceCtorEq,Nat.reduceAdd,Nat.reduceLeDiff,Int.reduceLT,Int.reduceLE,↓u_setN]
   refine ⟨fun h=>absurd hg' h,fun _=>⟨fun _ => ?_,fun h=>absurd (by omega) g2⟩⟩
   refine c15.Q ?_
   simp only [↓vcPre,↓z0,↓reduceIte,vcPost,vcStd,Nat.reduceEqDiff,reduceCtorEq,Nat.reduceAdd,Nat.reduceLeDiff,Int.reduceLT,Int.reduceLE,↓u_setN]
   exact sub3 (Store.sub_refl _) hp15 hp17 h1715
 ·have hg':¬ bitInt .and .u8 fl 224=64:=fun h=>g1 (hg.1 h)
  obtain ⟨M,hM⟩:=O2 g1
  rw [hM] at D4
  refine D4.Q ?_
  rintro r4 w4 ⟨rfl,rfl⟩
  simp only [outD,List.map_nil]
  simp only [↓vcPre,↓z0,↓reduceIte,vcPost,vcStd,Nat.reduceEqDiff,reduceCtorEq,Nat.reduceAdd,Nat.reduceLeDiff,Int.reduceLT,Int.reduceLE,↓u_setN]
  refine AllocQ.i0 fun p15 hp15 => ?_
  simp only [↓vcPre,↓z0,↓reduceIte,vcPost,vcStd,Nat.reduceEqDiff,reduceCtorEq,Nat.reduceAdd,Nat.reduceLeDiff,Int.reduceLT,Int.reduceLE,↓u_setN]
  refine AllocQ.i1 fun p17 h1715 h1517 hp17 => ?_
  simp only [h1715,h1517,e9,spZ,szn,hlv,↓vcPre,↓z0,↓reduceIte,vcPost,vcStd,Nat.reduceEqDiff,reduceCtorEq,Nat.reduceAdd,Nat.reduceLeDiff,Int.reduceLT,Int.reduceLE,↓u_setN]
  refine ⟨fun _ => ?_,fun h=>absurd h hg'⟩
  refine c15.Q ?_
  simp only [↓vcPre,↓z0,↓reduceIte,vcPost,vcStd,Nat.reduceEqDiff,reduceCtorEq,Nat.reduceAdd,Nat.reduceLeDiff,Int.reduceLT,Int.reduceLE,↓u_setN]
  exact sub3 (Store.sub_refl _) hp15 hp17 h1715
end Go.Am
namespace Go.Am
open Go.Proofs
theorem ze7 (a:At) (ha:I64 a.org∧okNums a) (f:Int) (h1:0≤f∧f<256) (b:List Int) (_:Small b) (hb:U8s b):Pur Try.prog 5 [.agg a.c,.int .u8 f,.sl 1 (b.map cB)] (.bool true):=z6w a ha.1 ha.2 f h1 b hb
end Go.Am
namespace Go.Am
theorem z5r {k k':Int} (h:k≠k') (hk:wantOf k≠0) (hk':wantOf k'≠0) (v v':List Int) (a:At):setV k v (setV k' v' a)=setV k' v' (setV k v a):=by
 rcases vb hk with rfl | rfl | rfl | rfl | rfl | rfl | rfl <;> rcases vb hk' with rfl | rfl | rfl | rfl | rfl | rfl | rfl <;> first | exact absurd rfl h | simp [setV]
theorem qv {α β:Type} (f:β→α→β) (x:α):∀ (l:List α) (b:β),(∀ y ∈ l,∀ b,f (f b x) y=f (f b y) x)→l.foldl f (f b x)=f (l.foldl f b) x
 | [],b,_=>rfl
 | y::l,b,h=>by
   simp only [List.foldl_cons]
   rw [h y (by simp) b,qv f x l (f b y) (fun z hz=>h z (by simp [hz]))]
theorem qu {α β:Type} (f:β→α→β):∀ (l m:List α) (b:β),(∀ x ∈ l,∀ y ∈ m,∀ b,f (f b x) y=f (f b y) x)→(l++m).foldl f b=(m++l).foldl f b
 | [],m,b,_=>by simp
 | x::l,m,b,h=>by
   have h1:=qu f l m (f b x) (fun z hz=>h z (by simp [hz]))
   rw [List.cons_append,List.foldl_cons,h1,List.foldl_append,List.foldl_append,List.foldl_cons,qv f x m b (fun y hy=>h x (by simp) y hy)]
theorem z5n (l m:List It) (h:∀ i ∈ l++m,i.ok) (hn:((l++m).map It.k).Nodup) (b:At):(l++m).foldl (fun a i=>setV i.k i.v a) b=(m++l).foldl (fun a i=>setV i.k i.v a) b:=by
 refine qu _ l m b fun x hx y hy b => ?_
 refine z5r (fun e => ?_) (h y (by simp [hy])).1 (h x (by simp [hx])).1 _ _ _
 rw [List.map_append,List.nodup_append] at hn
 exact hn.2.2 x.k (List.mem_map_of_mem hx) y.k (List.mem_map_of_mem hy) e.symm
theorem zai {fl:Int} (h:andI fl 16=0) (k:Int) (v r:List Int):chunk (fl::k::(v.length:Int)::(v++r))=some ⟨fl,k,v,fl::k::(v.length:Int)::v,r⟩:=by
 unfold chunk
 simp only [h,if_true]
 rw [if_neg (by rw [List.length_append];omega)]
 simp only [Int.toNat_natCast,List.take_left',List.drop_left']
 rw [show 3+v.length=v.length+3 by omega]
 simp only [List.take_succ_cons,List.take_left']
theorem vj (l:List It):keepI true l=l:=by
 unfold keepI
 rw [List.filter_eq_self]
 intro i _
 simp
theorem z6y {l m:List Int} (hm:m.Pairwise (· < ·)) (h:l.Perm m):l.mergeSort leI=m:=by
 have h1:=vr (L:=m) (zs:=l) h.symm (hm.imp fun h=>by omega)
 exact h1.symm
theorem z6i {a:At} (hr:atRight a) (hn:okNums a) (k:Nat) (K:Int) (hK:100≤K) (v:List Int) :
 decA true (encIts ((itsA a).drop k)++(192::K::(v.length:Int)::(v++encIts ((itsA a).take k)))) = .ok (a,typesA true a++[K]):=by
 obtain ⟨h1,h2⟩:=us hr hn
 have hall:(itsA a).take k++(itsA a).drop k=itsA a:=List.take_append_drop _ _
 have h1d:∀ i ∈ (itsA a).drop k,i.ok:=fun i hi=>h1 i (List.mem_of_mem_drop hi)
 have h1t:∀ i ∈ (itsA a).take k,i.ok:=fun i hi=>h1 i (List.mem_of_mem_take hi)
 have hsp:((itsA a).take k).map It.k++((itsA a).drop k).map It.k=(itsA a).map It.k:=by rw [←List.map_append,hall]
 have h2':=h2
 rw [←hsp,List.nodup_append] at h2'
 obtain ⟨nt,nd,nx⟩:=h2'
 have kb:∀ i ∈ itsA a,i.k≤8∧i.k≠5∨i.k=5:=fun i hi=>by
  rcases vb (h1 i hi).1 with h | h | h | h | h | h | h <;> omega
 have k8:∀ i ∈ itsA a,i.k≤8:=fun i hi=>by rcases kb i hi with h | h <;> omega
 rw [v7,x5 true _ _ zeroAt [] [] h1d nd (by simp)]
 rw [we _ (by simp),zai (by decide)]
 simp only
 have hK1:K ∉ (((itsA a).drop k).map It.k).reverse++[]:=by
  rw [List.append_nil,List.mem_reverse,List.mem_map]
  rintro ⟨i,hi,e⟩
  have:=k8 i (List.mem_of_mem_drop hi)
  omega
 have hw:wantOf K=0:=by unfold wantOf;rw [if_neg (by omega),if_neg (by omega),if_neg (by omega)]
 have st:∀ x y z b,stepA ⟨192,K,x,y,z⟩ b = .ok b:=fun x y z b=>by
  unfold stepA
  rw [if_pos hw,if_neg (show ¬ andI 192 128=0 by decide)]
 rw [if_neg hK1,if_neg (by simp),st]
 simp only
 have e2:=x5 true ((itsA a).take k) [] ((keepI true ((itsA a).drop k)).foldl (fun a i=>setV i.k i.v a) zeroAt) (K::((((itsA a).drop k).map It.k).reverse++[])) ([]++(keepI true ((itsA a).drop k)).map It.k++[K]) h1t nt (fun i hi=>by
  simp only [List.append_nil,List.mem_cons,List.mem_reverse,List.mem_map,not_or]
  refine ⟨fun e => ?_,?_⟩
  ·have:=k8 i (List.mem_of_mem_take hi);omega
  ·rintro ⟨j,hj,e⟩
   exact nx i.k (List.mem_map_of_mem hi) j.k (List.mem_map_of_mem hj) e.symm)
 rw [List.append_nil] at e2
 rw [e2,vi]
 simp only [vj,List.nil_append]
 rw [←List.foldl_append]
 have ht:=z5n ((itsA a).drop k) ((itsA a).take k) (fun i hi=>by
  rcases List.mem_append.1 hi with h | h
  ·exact h1d i h
  ·exact h1t i h) (by rw [List.map_append,List.nodup_append];exact ⟨nd,nt,fun x hx y hy e=>nx y hy x hx e.symm⟩) zeroAt
 rw [ht,hall]
 have hs:=(qo hr hn).1
 rw [vj] at hs
 unfold saysI at hs
 rw [hs,xw hr]
 congr 2
 have ht2:=uq true a
 rw [vj] at ht2
 refine z6y ?_ ?_
 ·rw [List.pairwise_append]
  refine ⟨vu true a,by simp,fun x hx y hy => ?_⟩
  rw [←ht2] at hx
  obtain ⟨i,hi,rfl⟩:=List.mem_map.1 hx
  simp only [List.mem_singleton] at hy
  have:=k8 i hi
  omega
 ·rw [←ht2,←hsp]
  have p1:(((itsA a).drop k).map It.k++[K]++((itsA a).take k).map It.k).Perm (((itsA a).take k).map It.k++(((itsA a).drop k).map It.k++[K])):=List.perm_append_comm
  rw [List.append_assoc (((itsA a).take k).map It.k)]
  exact p1
end Go.Am
namespace Go.Am
open Go.Proofs Go.Sort
theorem zel {σ:Store} {l m:List Int} {v w:AV} (hv:Rd 1 σ (l.map cI) v) (hw:Rd 1 σ (m.map cI) w) (hl:l.length≤1000000) (hm:m.length≤1000000):ACalls Try.prog 14 [v,w] σ (fun r s=>s=σ∧r = .bool (decide (l=m))):=by
 refine zg Tst.F14 (by simp [Tst.F14,Fn.mkX]) ?_
 simp only [Tst.F14,Fn.mkX,Tst.b14]
 have lv:pv .len [v]=some (.int .i64 (l.length:Int)):=by rw [hv.2];simp
 have lw:pv .len [w]=some (.int .i64 (m.length:Int)):=by rw [hw.2];simp
 simp only [lv,lw,↓vcPre,↓z0,↓reduceIte,vcPost,vcStd,Nat.reduceEqDiff,reduceCtorEq,Nat.reduceAdd,Nat.reduceLeDiff,Int.reduceLT,Int.reduceLE,↓u_setN]
 refine ⟨fun c1 => ?_,fun c1 => ?_⟩
 ·exact EndQ.to σ _ rfl (Store.sub_refl _) ⟨rfl,by rw [decide_eq_false (fun e=>c1 (by rw [e]))]⟩
 ·have hlm:l.length=m.length:=by omega
  refine LoopQ.inv (S:=Nat) (fun k=>[(0,v),(1,w),(5,.int .i64 (k:Int))]) (fun _=>σ) (fun k=>k≤l.length∧l.take k=m.take k) (fun k=>l.length+1 - k) 0 rfl (Store.sub_refl _) ⟨by omega,by simp⟩ ?_
  rintro k ⟨hk,hE⟩
  simp only [lv,lw,↓vcPre,↓z0,↓reduceIte,vcPost,vcStd,Nat.reduceEqDiff,reduceCtorEq,Nat.reduceAdd,Nat.reduceLeDiff,Int.reduceLT,Int.reduceLE,↓u_setN]
  refine ⟨fun c2 => ?_,fun c2 => ?_⟩
  ·have ek:IntKind.i64.wrap ((k:Int)+1)=((k+1:Nat):Int):=by rw [ze (by unfold I64;omega)];omega
   obtain ⟨p,hp,hp2⟩:=hv.at (k:=k) (by simp;omega)
   obtain ⟨q,hq,hq2⟩:=hw.at (k:=k) (by simp;omega)
   have r1:=hp2 σ (Store.sub_refl _) 1
   have r2:=hq2 σ (Store.sub_refl _) 1
   simp only [List.getElem_map] at r1 r2
   have hkl:k<l.length:=by omega
   have hkm:k<m.length:=by omega
   simp only [hp,hq,r1,r2,cI,↓vcPre,↓z0,↓reduceIte,vcPost,vcStd,Nat.reduceEqDiff,reduceCtorEq,Nat.reduceAdd,Nat.reduceLeDiff,Int.reduceLT,Int.reduceLE,↓u_setN]
   refine ⟨fun c3 => ?_,fun c3 => ?_⟩
   ·refine EndQ.to σ _ rfl (Store.sub_refl _) ⟨rfl,?_⟩
    rw [decide_eq_false]
    intro e
    subst e
    exact c3 rfl
   ·rw [ek]
    refine NextQ.to (k+1) rfl (Store.sub_refl _) (by omega) ⟨by omega,?_⟩
    have c3':l[k]=m[k]:=by omega
    rw [List.take_succ_eq_append_getElem hkl,List.take_succ_eq_append_getElem hkm,hE,c3']
  ·refine EndQ.to σ _ rfl (Store.sub_refl _) ⟨rfl,?_⟩
   have:k=l.length:=by omega
   subst this
   rw [List.take_length,hlm,List.take_length] at hE
   rw [decide_eq_true hE]
end Go.Am
namespace Go.Am.Tsx
open Go.Proofs Go.Am.B
def t3_119:BC:=z [m 119 14,g 120 12 [.t 119,.c (.bool true)],m 118 120,e 121 0 118,e 122 1 118,e 123 2 118,⟨some 16,none,.alloc (.alloc [(.int .i64 0),.nils,(.int .u32 0),(.bool false),(.int .u32 0),(.bool false),(.int .u32 0),(.bool false),.nils]),[]⟩,⟨some 18,none,.alloc (.alloc [(.int .i64 0),(.int .i64 0),.nils]),[]⟩,s 9 16 121,m 17 122,s 3 18 123] [2,4,9,16,17,18] (z [m 125 9,g 126 12 [.t 125,.c (.bool true)],m 124 126,e 127 0 124,e 128 1 124,e 129 2 124,⟨some 19,none,.alloc (.alloc [(.int .i64 0),.nils,(.int .u32 0),(.bool false),(.int .u32 0),(.bool false),(.int .u32 0),(.bool false),.nils]),[]⟩,⟨some 21,none,.alloc (.alloc [(.int .i64 0),(.int .i64 0),.nils]),[]⟩,s 9 19 127,m 20 128,s 3 21 129] [2,4,16,17,18,20] (z [f 130 0 18,l 131 1 130,c 132 .eql 131 0,m 133 132,⟨some 134,some (133,true),.load (.ld 9 true),[.t 16]⟩,⟨some 135,some (133,true),.load (.ld 9 true),[.t 4]⟩,⟨some 136,some (133,true),.loud (.call 13),[.t 134,.t 135]⟩,⟨some 137,none,.pick,[.t 133,.t 136,.c (.bool false)]⟩,m 138 137,⟨some 139,some (138,true),.pure (.mov),[.t 17]⟩,⟨some 140,some (138,true),.pure (.mov),[.t 20]⟩,⟨some 141,some (138,true),.pure (.mov),[.t 2]⟩,⟨some 142,some (138,true),.pure (.bin .rem),[.t 141,.c (.int .u8 100)]⟩,⟨some 143,some (138,true),.pure (.bin .add),[.c (.int .u8 100),.t 142]⟩,⟨some 144,some (138,true),.pure (.conv .i64),[.t 143]⟩,⟨some 145,some (138,true),.alloc (.mksl 1 1),[.t 144]⟩,⟨some 146,some (138,true),.loud (.app 1 8),[.t 140,.t 145]⟩,⟨some 147,some (138,true),.loud (.call 14),[.t 139,.t 146]⟩,⟨some 148,none,.pick,[.t 138,.t 147,.c (.bool false)]⟩,m 149 148,⟨some 150,some (149,true),.loud (.call 15),[]⟩,⟨some 151,none,.pick,[.t 149,.t 150,.c (.bool false)]⟩,m 8 151] [8] .ret))
def t3_82:BC:=z [m 82 3,g 83 10 [.t 82,.c (.int .i64 50)],m 3 83] [1,2,3,4,9,10] (z [m 84 10,m 85 2,p 86 (.bin .rem) [.t 85,.c (.int .u8 100)],p 87 (.bin .add) [.c (.int .u8 100),.t 86],m 88 3,u 89 .len 88,u 90 (.conv .u8) 89,⟨some 91,none,.alloc (.mksl 1 3),[.c (.int .u8 192),.t 87,.t 90]⟩,m 92 3,⟨some 93,none,.loud (.app 1 1),[.t 91,.t 92]⟩,⟨some 94,none,.alloc (.mksl 1 1),[.t 93]⟩,⟨some 95,none,.loud (.app 1 24),[.t 84,.t 94]⟩,m 10 95] [1,2,4,9,10] (z [m 96 1,m 97 10,u 98 .len 97,c 99 .sub 98 1,g 100 11 [.t 96,.c (.int .i64 0),.t 99],m 13 100] [2,4,9,10,13] (z [k 14 .nils] [2,4,9,10,13,14] (.seq (z [j 15 0] [2,4,9,10,13,14,15] (.block 2 (.loop [2,4,9,10,13,14,15] (.seq (z [m 101 15,m 102 10,u 103 .len 102,b 104 .lss 101 103] [2,4,9,10,13,14,15,104] (.cond (.t 104) .skip (.exit 2))) (.seq (.block 3 (.ops [m 107 14,m 108 10,m 109 15,m 110 13,b 111 .add 109 110,m 112 10,u 113 .len 112,b 114 .rem 111 113,x 115 1 108 114,l 116 1 115,⟨some 117,none,.loud (.app 1 1),[.t 107,.t 116]⟩,m 14 117] [2,4,9,10,13,14,15])) (.ops [m 105 15,c 106 .add 105 1,m 15 106] [2,4,9,10,13,14,15])))))) t3_119))))
def b3:BC:=z [⟨some 4,none,.alloc (.box),[.t 0]⟩,k 8 (.bool false)] [1,2,3,4] (z [⟨some 22,none,.load (.ld 9 true),[.t 4]⟩,g 23 8 [.t 22],g 24 7 [.t 23],s 9 4 24] [1,2,3,4] (z [⟨some 25,none,.load (.ld 9 true),[.t 4]⟩,g 26 9 [.t 25],m 9 26] [1,2,3,4,9] (z [k 10 .nils] [1,2,3,4,9,10] (.seq (z [j 11 0] [1,2,3,4,9,10,11] (.block 0 (.loop [1,2,3,4,9,10,11] (.seq (z [m 27 11,m 28 9,u 29 .len 28,b 30 .lss 27 29,m 31 30,⟨some 32,some (31,true),.pure (.mov),[.t 10]⟩,⟨some 33,some (31,true),.pure (.len),[.t 32]⟩,⟨some 34,some (31,true),.pure (.bin .lss),[.t 33,.c (.int .i64 9)]⟩,⟨some 35,none,.pick,[.t 31,.t 34,.c (.bool false)]⟩] [1,2,3,4,9,10,11,35] (.cond (.t 35) .skip (.exit 0))) (.block 1 (z [m 36 9,m 37 11,c 38 .add 37 2,x 39 1 36 38,l 40 1 39,u 41 (.conv .i64) 40,p 42 (.bin .add) [.c (.int .i64 3),.t 41],m 12 42] [1,2,3,4,9,10,11,12] (.seq (z [m 43 9,m 44 11,x 45 1 43 44,l 46 1 45,p 47 (.bin .and) [.t 46,.c (.int .u8 16)],p 48 (.bin .neq) [.t 47,.c (.int .u8 0)]] [1,2,3,4,9,10,11,12,48] (.cond (.t 48) (.ops [m 49 9,m 50 11,c 51 .add 50 2,x 52 1 49 51,m 57 9,m 58 11,c 59 .add 58 3,x 60 1 57 59,l 53 1 52,u 54 (.conv .i64) 53,p 55 (.bin .shl) [.t 54,.c (.int .u64 8)],p 56 (.bin .add) [.c (.int .i64 4),.t 55],l 61 1 60,u 62 (.conv .i64) 61,b 63 .add 56 62,m 12 63] [1,2,3,4,9,10,11,12]) .skip)) (.seq (z [m 64 11,m 65 12,b 66 .add 64 65,m 67 9,u 68 .len 67,b 69 .gtr 66 68] [1,2,3,4,9,10,11,12,69] (.cond (.t 69) (z [k 8 (.bool false)] [8] .ret) .skip)) (z [m 70 10,m 71 9,m 72 11,m 73 11,m 74 12,b 75 .add 73 74,p 76 (.slice 1 true true) [.t 71,.t 72,.t 75],⟨some 77,none,.alloc (.mksl 1 1),[.t 76]⟩,⟨some 78,none,.loud (.app 1 24),[.t 70,.t 77]⟩,m 10 78] [1,2,3,4,9,10,11,12] (.ops [m 79 11,m 80 12,b 81 .add 79 80,m 11 81] [1,2,3,4,9,10,11])))))))))) t3_82))))
def F3:Fn Try.prog 3:=Fn.mkX false b3 [.t 8] 152 Try.f3 _ Try.func3 (by decide) rfl Try.ntmps3 (by kernel_rfl) (by kernel_rfl)
end Go.Am.Tsx
namespace Go.Am
open Go.Proofs Go.Sort
theorem z59 {a:At} (h1:a.path.length≤4) (h2:∀ s ∈ a.path,s.ls.length≤5) (h3:a.cms.length≤5):∀ i ∈ itsA a,i.v.length≤200:=by
 have hp:∀ l:List Seg,(∀ s ∈ l,s.ls.length≤5)→(encPath l).length≤22*l.length:=by
  intro l
  induction l with
  | nil=>intro _;simp [encPath]
  | cons s r ih =>
    intro h
    have g1:=ih fun x hx=>h x (by simp [hx])
    have g2:=h s (by simp)
    have g3:=zq s.ls
    simp only [encPath,List.flatMap_cons,List.length_append,encSeg,List.length_cons,List.length_nil] at *
    omega
 have hp1:=hp a.path h2
 have hc:=zq a.cms
 intro i hi
 simp only [itsA,List.mem_append,List.mem_cons,List.not_mem_nil,or_false] at hi
 rcases hi with ((((rfl | rfl | rfl) | hi) | hi) | hi) | hi
 ·simp
 ·simp only;omega
 ·simp [b4]
 ·split at hi
  ·simp only [List.mem_cons,List.not_mem_nil,or_false] at hi;subst hi;simp [b4]
  ·simp at hi
 ·split at hi
  ·simp only [List.mem_cons,List.not_mem_nil,or_false] at hi;subst hi;simp [b4]
  ·simp at hi
 ·split at hi
  ·simp only [List.mem_cons,List.not_mem_nil,or_false] at hi;subst hi;simp
  ·simp at hi
 ·split at hi
  ·simp at hi
  ·simp only [List.mem_cons,List.not_mem_nil,or_false] at hi;subst hi;simp only;omega
theorem z8j (a:At):(itsA a).length≤7:=by
 unfold itsA
 cases a.hm <;> cases a.hp <;> cases a.atm <;> by_cases h:a.cms=[] <;> simp [h]
theorem ud {i:It} (h:i.v.length≤200):i.enc=wantOf i.k::i.k::(i.v.length:Int)::i.v:=by
 unfold It.enc oneA
 rw [if_neg (by omega)];rfl
theorem zbf {v:AV} (h:v.isTup=false∧v.cells=[v]):alv (.mksl 1 1) [v]=some (.arr 1 [[v]],fun id => .os id 1 0 1):=by
 simp [alv,h.1,h.2]
def PartsB (T:Store) (l:List (List Int)) (pv:AV) (s:Store):Prop:=∃ vs:List AV,vs.length=l.length∧(∀ q (h:q<l.length) (h':q<vs.length),Rd 1 T (l[q].map cB) vs[q])∧Own 1 T (vs.map fun v=>[v]) pv s∧Store.sub T s
theorem zce {k:Int} (h:wantOf k≠0):bitInt .and .u8 (wantOf k) 16=0:=by
 rcases z3u h with h | h | h <;> rw [h] <;> decide
theorem qs (l:List It) (j:Nat) (h:j<l.length):(encIts (l.take (j+1))).length=(encIts (l.take j)).length+l[j].enc.length:=by
 unfold encIts
 rw [List.take_succ_eq_append_getElem h,List.flatMap_append,List.length_append]
 simp
theorem uc (l:List It) (j:Nat) (h:j<l.length):encIts l=encIts (l.take j)++(l[j].enc++encIts (l.drop (j+1))):=by
 unfold encIts
 have e:=List.take_append_drop j l
 rw [List.drop_eq_getElem_cons h] at e
 rw [←List.flatMap_cons,←List.flatMap_append,e]
theorem z83 {α:Type} (A X B:List α) {n:Nat} (h:n=A.length):((A++(X++B)).take (n+X.length)).drop n=X:=by
 subst h
 rw [List.take_length_add_append,List.drop_left]
 exact List.take_left
set_option maxHeartbeats 1000000 in
theorem z5a (a:At) (ho:I64 a.org) (hn:okNums a) (turn:Int) (ht:I64 turn) (kind:Int) (hk:0≤kind∧kind<256) (V:List Int) (hV:U8s V):Pur Try.prog 3 [.agg a.c,.int .i64 turn,.int .u8 kind,.sl 1 (V.map cB)] (.bool true):=by
 refine zl Tsx.F3 (by simp [Tsx.F3,Fn.mkX]) fun σ => ?_
 simp only [Tsx.F3,Fn.mkX,Tsx.b3,z0t,z0u]
 have e9:∀ x:At,x.c.length=9:=fun _=>rfl
 have t9:∀ x:At,List.take 9 x.c=x.c:=fun _=>rfl
 have spA:∀ x y:At,splice 0 x.c y.c=some x.c:=fun _ _=>rfl
 have hen:=z0a a
 obtain ⟨hr,hnn⟩:=qe hn
 obtain ⟨hre,hl1,hl2,hl3⟩:=z5j a
 have hyl:=z08 (shortA a)
 have hyu:=z3a (rightK (shortA a))
 simp only [↓vcPre,↓z0,↓reduceIte,vcPost,vcStd,Nat.reduceEqDiff,reduceCtorEq,Nat.reduceAdd,Nat.reduceLeDiff,Int.reduceLT,Int.reduceLE,↓u_setN]
 refine AllocQ.i0 fun i hi => ?_
 simp only [e9,t9,Nat.le_refl,↓vcPre,↓z0,↓reduceIte,vcPost,vcStd,Nat.reduceEqDiff,reduceCtorEq,Nat.reduceAdd,Nat.reduceLeDiff,Int.reduceLT,Int.reduceLE,↓u_setN]
 refine (c8 a).Q ?_
 simp only [↓vcPre,↓z0,↓reduceIte,vcPost,vcStd,Nat.reduceEqDiff,reduceCtorEq,Nat.reduceAdd,Nat.reduceLeDiff,Int.reduceLT,Int.reduceLE,↓u_setN]
 refine (c7 _ hen.ok ho).Q ?_
 simp only [spA,e9,t9,Nat.le_refl,↓vcPre,↓z0,↓reduceIte,vcPost,vcStd,Nat.reduceEqDiff,reduceCtorEq,Nat.reduceAdd,Nat.reduceLeDiff,Int.reduceLT,Int.reduceLE,↓u_setN]
 generalize rightK (shortA a)=r at hr hnn hre hl1 hl2 hl3 hyl hyu ⊢
 have sT:Store.sub σ ((σ.set i (.box a.c)).set i (.box r.c)):=z6 (Store.sub_set σ i _ hi) hi
 have Ti:((σ.set i (.box a.c)).set i (.box r.c)) i=some (.box r.c):=Store.set_same _ _ _
 generalize (σ.set i (.box a.c)).set i (.box r.c)=T at sT Ti ⊢
 refine (s9 r hre T).Q ?_
 rintro y s ⟨hs,hy⟩
 simp only [↓vcPre,↓z0,↓reduceIte,vcPost,vcStd,Nat.reduceEqDiff,reduceCtorEq,Nat.reduceAdd,Nat.reduceLeDiff,Int.reduceLT,Int.reduceLE,↓u_setN]
 have hyr:Rd 1 s ((encA r).map cB) y:=Rd.own hy
 have si:=hs _ _ Ti
 have sσ:=Store.sub_trans sT hs
 obtain ⟨okI,ndI⟩:=us hr hnn
 have shI:=z59 hl1 hl2 hl3
 have fewI:=z8j r
 have hY:=qi r
 obtain ⟨I,hI⟩:∃ I,I=itsA r:=⟨_,rfl⟩
 rw [←hI] at okI ndI shI fewI hY
 have hlY:pv .len [y]=some (.int .i64 ((encA r).length:Int)):=by rw [hyr.2];simp
 refine LoopQ.inv (S:=Nat×AV×Store) (fun w=>[(1,.int .i64 turn),(2,.int .u8 kind),(3,.sl 1 (V.map cB)),(4,.ptr i 0),(9,y),(10,w.2.1),(11,.int .i64 ((encIts (I.take w.1)).length:Int))]) (fun w=>w.2.2)
  (fun w=>w.1≤I.length∧PartsB s ((I.take w.1).map It.enc) w.2.1 w.2.2) (fun w=>I.length+1 - w.1) (0,.nils,s) rfl (Store.sub_refl _) ⟨by omega,[],rfl,by simp,Own.nil,Store.sub_refl _⟩ ?_
 rintro ⟨j,pv,u⟩ ⟨hj,vs,hvl,hvr,hvo,hsu⟩
 simp only at hj hvl hvr hvo hsu
 have hpv:=Rd.own hvo
 have hlP:Go.Am.pv .len [pv]=some (.int .i64 (j:Int)):=by rw [hpv.2];simp [hvl];omega
 simp only [hlY,hlP,↓vcPre,↓z0,↓reduceIte,vcPost,vcStd,Nat.reduceEqDiff,reduceCtorEq,Nat.reduceAdd,Nat.reduceLeDiff,Int.reduceLT,Int.reduceLE,↓u_setN]
 have hYl:(encIts I).length≤1000:=by rw [←hY];exact hyl.2
 have hpre:(encIts (I.take j)).length≤(encIts I).length:=by
  have e:encIts I=encIts (I.take j)++encIts (I.drop j):=by unfold encIts;rw [←List.flatMap_append,List.take_append_drop]
  rw [e,List.length_append];omega
 refine ⟨fun c1=>⟨fun c2 => ?_,fun c2=>absurd (by omega) c2⟩,fun c1 => ?_⟩
 ·have hj':j<I.length:=by
   rcases Nat.lt_or_ge j I.length with h | h
   ·exact h
   ·rw [List.take_of_length_le h,←hY] at c1;omega
  have sp:=uc I j hj'
  have le1:=qs I j hj'
  have hx:=okI I[j] (List.getElem_mem hj')
  have hxs:=shI I[j] (List.getElem_mem hj')
  have hxe:=ud hxs
  have hw16:=zce hx.1
  have hle:I[j].enc.length=3+I[j].v.length:=by rw [hxe];simp;omega
  obtain ⟨at0,hat0⟩:∃ n,n=(encIts (I.take j)).length:=⟨_,rfl⟩
  have lY:(encA r).length=at0+(I[j].enc.length+(encIts (I.drop (j+1))).length):=by rw [hY,sp,hat0];simp
  have hget:∀ q,(hq:q<I[j].enc.length)→(encA r)[at0+q]'(by omega)=I[j].enc[q]:=fun q hq=>by
   subst hat0
   have:∀ (L A X B:List Int) (hL:L=A++(X++B)) (q:Nat) (h1:q<X.length) (h2:A.length+q<L.length),L[A.length+q]=X[q]:=by
    rintro L A X B rfl q h1 h2
    rw [List.getElem_append_right (by omega)]
    simp only [Nat.add_sub_cancel_left]
    rw [List.getElem_append_left h1]
   exact this _ _ _ _ (hY.trans sp) q hq _
  rw [←hat0] at le1 c1 hpre ⊢
  obtain ⟨p0,hp0,hp0r⟩:=hyr.at (k:=at0) (by simp;omega)
  obtain ⟨p2,hp2,hp2r⟩:=hyr.at (k:=at0+2) (by simp;omega)
  have g0:=hget 0 (by omega)
  have g2:=hget 2 (by omega)
  simp only [Nat.add_zero] at g0
  have v0:I[j].enc[0]'(by omega)=wantOf I[j].k:=by simp only [hxe,List.getElem_cons_zero]
  have v2:I[j].enc[2]'(by omega)=(I[j].v.length:Int):=by simp only [hxe,List.getElem_cons_succ,List.getElem_cons_zero]
  have r0:=hp0r u hsu 1
  have r2:=hp2r u hsu 1
  simp only [List.getElem_map,g0,g2,v0,v2,cB,takeN] at r0 r2
  have w2:IntKind.i64.wrap ((at0:Int)+2)=((at0+2:Nat):Int):=by rw [ze (by unfold I64;omega)];omega
  have w3:IntKind.i64.wrap (I[j].v.length:Int)=(I[j].v.length:Int):=ze (by unfold I64;omega)
  have w4:IntKind.i64.wrap (3+(I[j].v.length:Int))=(I[j].enc.length:Int):=by rw [ze (by unfold I64;omega)];omega
  have w5:IntKind.i64.wrap ((at0:Int)+(I[j].enc.length:Int))=((at0+I[j].enc.length:Nat):Int):=by rw [ze (by unfold I64;omega)];omega
  simp only [w2,hp0,hp2,r0,r2,w3,w4,hw16,w5,hlY,↓vcPre,↓z0,↓reduceIte,vcPost,vcStd,Nat.reduceEqDiff,reduceCtorEq,Nat.reduceAdd,Nat.reduceLeDiff,Int.reduceLT,Int.reduceLE,↓u_setN]
  refine ⟨fun h=>absurd h (by omega),fun _ => ?_⟩
  obtain ⟨v',hs',hr'⟩:=hyr.slice (lo:=at0) (hi:=at0+I[j].enc.length) (by omega) (by simp;omega)
  have hcut:(((encA r).map cB).take (at0+I[j].enc.length)).drop at0=I[j].enc.map cB:=by
   rw [←List.map_take,←List.map_drop]
   congr 1
   rw [hY.trans sp]
   exact z83 _ _ _ hat0
  rw [hcut] at hr'
  rw [hs',y8]
  have hti:=hr'.isTup
  refine ⟨⟨hti.1,by rw [hti.2];rfl⟩,AllocQ.i0 fun q hq => ?_⟩
  simp only [hti.2,↓vcPre,↓z0,↓reduceIte,vcPost,vcStd,Nat.reduceEqDiff,reduceCtorEq,Nat.reduceAdd,Nat.reduceLeDiff,Int.reduceLT,Int.reduceLE,↓u_setN]
  have h1:=Store.sub_set u q (.arr 1 [[v']]) hq
  refine Own.appM (τ:=s) (Store.sub_trans hsu h1) (hvo.mono h1) (zi (Store.set_same _ _ _) rfl) (by simp [hvl];omega) fun v1 u1 hu1 ho1 => ?_
  refine NextQ.to (j+1,v1,u1) ?_ ?_ ?_ ?_
  ·simp only [le1,←hat0,w5]
  ·exact Store.sub_refl _
  ·simp only;omega
  ·refine ⟨by simp only;omega,vs++[v'],by simp [hvl];omega,fun k h h' => ?_,by simpa using ho1,hu1⟩
   simp only [List.length_map,List.length_take] at h hvl
   simp only [List.getElem_map,List.getElem_take]
   by_cases hkj:k<j
   ·rw [List.getElem_append_left (by omega)]
    have:=hvr k (by simp;omega) (by omega)
    simpa using this
   ·have hkj2:k=j:=by omega
    subst hkj2
    rw [List.getElem_append_right (by omega)]
    simp only [show k - vs.length=0 by omega,List.getElem_cons_zero]
    exact hr'
 ·have hjI:j=I.length:=by
   rcases Nat.lt_or_ge j I.length with h | h
   ·have sp:=uc I j h
    have hxe:=ud (shI I[j] (List.getElem_mem h))
    have:(encA r).length=(encIts (I.take j)).length+(I[j].enc.length+(encIts (I.drop (j+1))).length):=by rw [hY,sp];simp
    rw [hxe] at this
    simp at this
    omega
   ·omega
  subst hjI
  have hvl':vs.length=I.length:=by simpa using hvl
  have hvr':∀ q (h:q<I.length) (h':q<vs.length),Rd 1 s (I[q].enc.map cB) vs[q]:=fun q h h'=>by
   have:=hvr q (by simp;omega) h'
   simpa using this
  clear hvr hvl
  simp only [Tsx.t3_82]
  simp only [↓vcPre,↓z0,↓reduceIte,vcPost,vcStd,Nat.reduceEqDiff,reduceCtorEq,Nat.reduceAdd,Nat.reduceLeDiff,Int.reduceLT,Int.reduceLE,↓u_setN]
  have hv50:=Rd.sl (esz:=1) (τ:=u) (L:=V.map cB)
  refine (s10 hv50 50).Q ?_
  rintro v u' ⟨rfl,hv⟩
  have hVl:(V.take 50).length≤50:=by simp only [List.length_take];omega
  have hVu:U8s (V.take 50):=hV.take 50
  generalize V.take 50=W at hv hVl hVu
  have hlv:Go.Am.pv .len [v]=some (.int .i64 (W.length:Int)):=by rw [hv.2];simp
  have w8:IntKind.u8.wrap (W.length:Int)=W.length:=by simp [IntKind.wrap,IntKind.bits,IntKind.signed];omega
  have hkm:kind.tmod 100=kind % 100:=Int.tmod_eq_emod_of_nonneg hk.1
  obtain ⟨K,hKe⟩:∃ K,K=100+kind % 100:=⟨_,rfl⟩
  have hK:100≤K∧K<200:=by omega
  have w9:IntKind.u8.wrap (100+kind.tmod 100)=K:=by
   rw [hkm,←hKe]
   simp only [IntKind.wrap,IntKind.bits,IntKind.signed]
   simp
   omega
  simp only [hlv,w8,w9,z0q,↓vcPre,↓z0,↓reduceIte,vcPost,vcStd,Nat.reduceEqDiff,reduceCtorEq,Nat.reduceAdd,Nat.reduceLeDiff,Int.reduceLT,Int.reduceLE,↓u_setN]
  refine ⟨by decide,AllocQ.i0 fun q1 hq1 => ?_⟩
  simp only [↓vcPre,↓z0,↓reduceIte,vcPost,vcStd,Nat.reduceEqDiff,reduceCtorEq,Nat.reduceAdd,Nat.reduceLeDiff,Int.reduceLT,Int.reduceLE,↓u_setN]
  have hsq:=Store.sub_set u' q1 (.arr 1 [[.int .u8 192],[.int .u8 K],[.int .u8 (W.length:Int)]]) hq1
  refine Own.appM (τ:=u') hsq (Own.new (L:=[[.int .u8 192],[.int .u8 K],[.int .u8 (W.length:Int)]]) hq1) (hv.1 _ hsq) (by simp;omega) fun v2 u2 hu2 ho2 => ?_
  obtain ⟨U,hU⟩:∃ U:List Int,U=192::K::(W.length:Int)::W:=⟨_,rfl⟩
  have ho2':Own 1 u' (U.map cB) v2 u2:=by rw [hU];simpa [cB] using ho2
  have hc2:=ho2'.cell
  simp only [zbf hc2,hc2.1,hc2.2,↓vcPre,↓z0,↓reduceIte,vcPost,vcStd,Nat.reduceEqDiff,reduceCtorEq,Nat.reduceAdd,Nat.reduceLeDiff,Int.reduceLT,Int.reduceLE,↓u_setN]
  obtain ⟨τ',t1,t2,t3,t4⟩:=Own.addG hvo hsu hu2 ho2'
  refine AllocQ.i0 fun q2 hq2 => ?_
  simp only [hc2.2,↓vcPre,↓z0,↓reduceIte,vcPost,vcStd,Nat.reduceEqDiff,reduceCtorEq,Nat.reduceAdd,Nat.reduceLeDiff,Int.reduceLT,Int.reduceLE,↓u_setN]
  have hs2:=Store.sub_set u2 q2 (.arr 1 [[v2]]) hq2
  refine Own.appM (τ:=τ') (Store.sub_trans t2 hs2) (t3.mono hs2) (zi (Store.set_same _ _ _) rfl) (by simp [hvl'];omega) fun pw u3 hu3 ho3 => ?_
  obtain ⟨ws,hws⟩:∃ ws,ws=vs++[v2]:=⟨_,rfl⟩
  have ho3':Own 1 τ' (ws.map fun v=>[v]) pw u3:=by rw [hws];simpa using ho3
  obtain ⟨Q,hQ⟩:∃ Q:List (List Int),Q=I.map It.enc++[U]:=⟨_,rfl⟩
  have hQl:Q.length=I.length+1:=by rw [hQ];simp
  have hwl:ws.length=I.length+1:=by rw [hws];simp [hvl']
  have hrd:∀ q (h:q<Q.length) (h':q<ws.length),Rd 1 u3 (Q[q].map cB) ws[q]:=fun q h h'=>by
   subst hws hQ
   by_cases hq:q<I.length
   ·rw [List.getElem_append_left (by simp;exact hq),List.getElem_append_left (by omega),List.getElem_map]
    exact (hvr' q hq (by omega)).mono (Store.sub_trans t1 hu3)
   ·have:q=I.length:=by simp at h;omega
    subst this
    rw [List.getElem_append_right (by simp),List.getElem_append_right (by omega)]
    simp only [List.length_map,Nat.sub_self,List.getElem_cons_zero,hvl']
    exact t4.mono hu3
  have hpr:Rd 1 u3 (ws.map fun v=>[v]) pw:=Rd.own ho3'
  have hlp:Go.Am.pv .len [pw]=some (.int .i64 ((I.length:Int)+1)):=by rw [hpr.2];simp [hwl]
  have w10:IntKind.i64.wrap ((I.length:Int)+1 - 1)=(I.length:Int):=by rw [ze (by unfold I64;omega)];omega
  simp only [hlp,w10,↓vcPre,↓z0,↓reduceIte,vcPost,vcStd,Nat.reduceEqDiff,reduceCtorEq,Nat.reduceAdd,Nat.reduceLeDiff,Int.reduceLT,Int.reduceLE,↓u_setN]
  refine (c11 turn 0 (I.length:Int) ht (by omega) (by omega) (by omega)).Q ?_
  obtain ⟨k,hk0,hkI⟩:∃ k:Nat,(0:Int)+turn % ((I.length:Int) - 0+1)=k∧k≤I.length:=by
   have h1:=Int.emod_nonneg turn (b:=(I.length:Int) - 0+1) (by omega)
   have h2:=Int.emod_lt_of_pos turn (b:=(I.length:Int) - 0+1) (by omega)
   exact ⟨(turn % ((I.length:Int) - 0+1)).toNat,by omega,by omega⟩
  rw [hk0]
  obtain ⟨R,hR⟩:∃ R,R=Q.drop k++Q.take k:=⟨_,rfl⟩
  have hRl:R.length=I.length+1:=by rw [hR];simp;omega
  have hRe:∀ n (h:n<R.length),∃ h':(n+k) % (I.length+1)<Q.length,R[n]=Q[(n+k) % (I.length+1)]:=fun n h=>by
   have hm:(n+k) % (I.length+1)<Q.length:=by rw [hQl];exact Nat.mod_lt _ (by omega)
   refine ⟨hm,?_⟩
   subst hR
   by_cases hn':n<Q.length - k
   ·rw [List.getElem_append_left (by simp;omega),List.getElem_drop]
    congr 1
    rw [Nat.mod_eq_of_lt (by omega)];omega
   ·rw [List.getElem_append_right (by simp;omega),List.getElem_take]
    congr 1
    rw [List.length_drop,show n+k=(n - (Q.length - k))+(I.length+1) by omega,Nat.add_mod_right,Nat.mod_eq_of_lt (by omega)]
  have hflat:R.flatten=encIts (I.drop k)++(192::K::(W.length:Int)::(W++encIts (I.take k))):=by
   subst hR hQ
   rw [List.drop_append_of_le_length (by simp;exact hkI),List.take_append_of_le_length (by simp;exact hkI)]
   simp only [←List.map_drop,←List.map_take,List.flatten_append,List.flatten_cons,List.flatten_nil,List.append_nil]
   rw [hU]
   simp only [encIts,List.flatMap_def,List.append_assoc,List.cons_append]
  simp only [↓vcPre,↓z0,↓reduceIte,vcPost,vcStd,Nat.reduceEqDiff,reduceCtorEq,Nat.reduceAdd,Nat.reduceLeDiff,Int.reduceLT,Int.reduceLE,↓u_setN]
  have hRlen:∀ n (h:n<R.length),R[n].length≤1000:=fun n h=>by
   obtain ⟨h',e⟩:=hRe n h
   rw [e]
   generalize (n+k) % (I.length+1)=m at h' ⊢
   subst hQ
   by_cases hm:m<I.length
   ·rw [List.getElem_append_left (by simp;exact hm),List.getElem_map,ud (shI I[m] (List.getElem_mem hm))]
    have:=shI I[m] (List.getElem_mem hm)
    simp;omega
   ·rw [List.getElem_append_right (by simp;omega),List.getElem_singleton,hU]
    simp;omega
  have htl:∀ n,(R.take n).flatten.length≤1000*n:=by
   intro n
   induction n with
   | zero=>simp
   | succ n ih =>
     by_cases hn':n<R.length
     ·have:=hRlen n hn'
      rw [List.take_succ_eq_append_getElem hn',List.flatten_append,List.length_append,show [R[n]].flatten=R[n] by simp]
      omega
     ·rw [List.take_of_length_le (by omega)]
      rw [List.take_of_length_le (by omega)] at ih
      omega
  refine LoopQ.inv (S:=Nat×AV×Store) (fun w=>[(2,.int .u8 kind),(4,.ptr i 0),(9,y),(10,pw),(13,.int .i64 (k:Int)),(14,w.2.1),(15,.int .i64 (w.1:Int))]) (fun w=>w.2.2)
   (fun w=>w.1≤I.length+1∧Own 1 u3 ((R.take w.1).flatten.map cB) w.2.1 w.2.2∧Store.sub u3 w.2.2) (fun w=>I.length+2 - w.1) (0,.nils,u3) rfl (Store.sub_refl _) ⟨by omega,Own.nil,Store.sub_refl _⟩ ?_
  rintro ⟨n,av,w⟩ ⟨hn1,hao,hsw⟩
  simp only at hn1 hao hsw
  simp only [hlp,↓vcPre,↓z0,↓reduceIte,vcPost,vcStd,Nat.reduceEqDiff,reduceCtorEq,Nat.reduceAdd,Nat.reduceLeDiff,Int.reduceLT,Int.reduceLE,↓u_setN]
  refine ⟨fun c3 => ?_,fun c3 => ?_⟩
  ·have hnR:n<R.length:=by omega
   obtain ⟨hm,eR⟩:=hRe n hnR
   have w11:IntKind.i64.wrap ((n:Int)+(k:Int))=((n+k:Nat):Int):=by rw [ze (by unfold I64;omega)];omega
   have w12:((n+k:Nat):Int).tmod ((I.length:Int)+1)=(((n+k) % (I.length+1):Nat):Int):=by
    rw [Int.tmod_eq_emod_of_nonneg (by omega),Int.natCast_emod]
    rfl
   have w13:IntKind.i64.wrap ((n:Int)+1)=((n+1:Nat):Int):=by rw [ze (by unfold I64;omega)];omega
   obtain ⟨p,hp,hpr2⟩:=hpr.at (k:=(n+k) % (I.length+1)) (by simp;omega)
   have rr:=hpr2 w hsw 1
   simp only [List.getElem_map,takeN] at rr
   have hmw:(n+k) % (I.length+1)<ws.length:=by omega
   have hq:=hrd _ hm hmw
   rw [←eR] at hq
   simp only [w11,w12,hp,rr,↓vcPre,↓z0,↓reduceIte,vcPost,vcStd,Nat.reduceEqDiff,reduceCtorEq,Nat.reduceAdd,Nat.reduceLeDiff,Int.reduceLT,Int.reduceLE,↓u_setN]
   refine ⟨by omega,?_⟩
   have h1:=hRlen n hnR
   have h2:=htl n
   refine Own.appM (τ:=u3) hsw hao (hq.1 _ hsw) (by simp only [List.length_map];omega) fun a1 u4 hu4 ho4 => ?_
   simp only [w13,↓vcPre,↓z0,↓reduceIte,vcPost,vcStd,Nat.reduceEqDiff,reduceCtorEq,Nat.reduceAdd,Nat.reduceLeDiff,Int.reduceLT,Int.reduceLE,↓u_setN]
   refine NextQ.to (n+1,a1,u4) rfl (Store.sub_refl _) (by simp only;omega) ⟨by simp only;omega,?_,hu4⟩
   rw [List.take_succ_eq_append_getElem hnR,List.flatten_append,List.map_append]
   simpa using ho4
  ·have hnI:n=I.length+1:=by omega
   subst hnI
   rw [List.take_of_length_le (by omega),hflat] at hao
   have h2:=htl (I.length+1)
   rw [List.take_of_length_le (by omega),hflat] at h2
   simp only [Tsx.t3_119,z0t,z0u]
   simp only [↓vcPre,↓z0,↓reduceIte,vcPost,vcStd,Nat.reduceEqDiff,reduceCtorEq,Nat.reduceAdd,Nat.reduceLeDiff,Int.reduceLT,Int.reduceLE,↓u_setN]
   have hXu:U8s (encIts (I.drop k)++(192::K::(W.length:Int)::(W++encIts (I.take k)))):=by
    rw [←hflat,hR,hQ]
    intro x hx
    rw [List.mem_flatten] at hx
    obtain ⟨l,hl,hx⟩:=hx
    have hl':l ∈ I.map It.enc++[U]:=by
     rcases List.mem_append.1 hl with h | h
     ·exact List.mem_of_mem_drop h
     ·exact List.mem_of_mem_take h
    rcases List.mem_append.1 hl' with h | h
    ·refine hyu x ?_
     rw [hY,encIts,List.flatMap_def,List.mem_flatten]
     exact ⟨l,h,hx⟩
    ·rw [List.mem_singleton] at h
     rw [h,hU] at hx
     simp only [List.mem_cons] at hx
     rcases hx with rfl | rfl | rfl | hx
     ·omega
     ·omega
     ·omega
     ·exact hVu x hx
   have D1:=s12 (Rd.own hao) (by omega) hXu true
   have dt:=z6i hr hnn k K hK.1 W
   rw [←hI] at dt
   rw [dt] at D1
   have hyw:=hyr.mono (Store.sub_trans (Store.sub_trans t1 hu3) hsw)
   have wi:=Store.sub_trans (Store.sub_trans t1 hu3) hsw _ _ si
   have sσw:=Store.sub_trans sσ (Store.sub_trans (Store.sub_trans t1 hu3) hsw)
   refine D1.Q ?_
   rintro r1 w' ⟨rfl,rfl⟩
   simp only [outD,List.map_nil]
   simp only [↓vcPre,↓z0,↓reduceIte,vcPost,vcStd,Nat.reduceEqDiff,reduceCtorEq,Nat.reduceAdd,Nat.reduceLeDiff,Int.reduceLT,Int.reduceLE,↓u_setN]
   have spZ:∀ x:At,splice 0 x.c zC=some x.c:=fun _=>rfl
   have szn:∀ x y z:AV,splice 0 [x,y,z] zN=some [x,y,z]:=fun _ _ _=>rfl
   refine AllocQ.i0 fun p9 hp9 => ?_
   simp only [↓vcPre,↓z0,↓reduceIte,vcPost,vcStd,Nat.reduceEqDiff,reduceCtorEq,Nat.reduceAdd,Nat.reduceLeDiff,Int.reduceLT,Int.reduceLE,↓u_setN]
   refine AllocQ.i1 fun p11 h119 h911 hp11 => ?_
   simp only [h119,h911,e9,spZ,szn,↓vcPre,↓z0,↓reduceIte,vcPost,vcStd,Nat.reduceEqDiff,reduceCtorEq,Nat.reduceAdd,Nat.reduceLeDiff,Int.reduceLT,Int.reduceLE,↓u_setN]
   have sU:Store.sub w' ((((w'.set p9 (.box zC)).set p11 (.box zN)).set p9 (.box r.c)).set p11 (.box [.int .i64 0,.int .i64 0,.sl 1 []])):=z6 (z6 (zj hp9 hp11 h119) hp9) hp11
   have U11:((((w'.set p9 (.box zC)).set p11 (.box zN)).set p9 (.box r.c)).set p11 (.box [.int .i64 0,.int .i64 0,.sl 1 []])) p11=some (.box [.int .i64 0,.int .i64 0,.sl 1 []]):=Store.set_same _ _ _
   have U9:((((w'.set p9 (.box zC)).set p11 (.box zN)).set p9 (.box r.c)).set p11 (.box [.int .i64 0,.int .i64 0,.sl 1 []])) p9=some (.box r.c):=by rw [Store.set_ne _ _ h911];exact Store.set_same _ _ _
   generalize ((((w'.set p9 (.box zC)).set p11 (.box zN)).set p9 (.box r.c)).set p11 (.box [.int .i64 0,.int .i64 0,.sl 1 []]))=U' at sU U11 U9 ⊢
   have Ui:=sU _ _ wi
   have sσU:=Store.sub_trans sσw sU
   have D2:=zav (hyw.mono sU) (by omega) hyu true
   rw [z38 hr hnn true] at D2
   refine D2.Q ?_
   rintro r2 u5 ⟨s5,tv,rfl,ho5⟩
   simp only [outO,tyO] at ho5 ⊢
   simp only [↓vcPre,↓z0,↓reduceIte,vcPost,vcStd,Nat.reduceEqDiff,reduceCtorEq,Nat.reduceAdd,Nat.reduceLeDiff,Int.reduceLT,Int.reduceLE,↓u_setN]
   refine AllocQ.i0 fun p12 hp12 => ?_
   simp only [↓vcPre,↓z0,↓reduceIte,vcPost,vcStd,Nat.reduceEqDiff,reduceCtorEq,Nat.reduceAdd,Nat.reduceLeDiff,Int.reduceLT,Int.reduceLE,↓u_setN]
   refine AllocQ.i1 fun p14 h1412 h1214 hp14 => ?_
   simp only [h1412,h1214,e9,spZ,szn,↓vcPre,↓z0,↓reduceIte,vcPost,vcStd,Nat.reduceEqDiff,reduceCtorEq,Nat.reduceAdd,Nat.reduceLeDiff,Int.reduceLT,Int.reduceLE,↓u_setN]
   have sV:Store.sub u5 ((((u5.set p12 (.box zC)).set p14 (.box zN)).set p12 (.box (outA true r).c)).set p14 (.box [.int .i64 0,.int .i64 0,.sl 1 []])):=z6 (z6 (zj hp12 hp14 h1412) hp12) hp14
   generalize ((((u5.set p12 (.box zC)).set p14 (.box zN)).set p12 (.box (outA true r).c)).set p14 (.box [.int .i64 0,.int .i64 0,.sl 1 []]))=V2 at sV ⊢
   have s5V:=Store.sub_trans s5 sV
   have V11:=s5V _ _ U11
   have V9:=s5V _ _ U9
   have Vi:=s5V _ _ Ui
   simp only [V11,V9,Vi,e9,t9,Nat.le_refl,↓vcPre,↓z0,↓reduceIte,vcPost,vcStd,Nat.reduceEqDiff,reduceCtorEq,Nat.reduceAdd,Nat.reduceLeDiff,Int.reduceLT,Int.reduceLE,↓u_setN]
   have sm:=z5m r r hre.ok hre.ok
   rw [decide_eq_true rfl] at sm
   refine sm.Q ?_
   have w14:IntKind.i64.wrap K=K:=ze (by unfold I64;omega)
   simp only [w9,w14,↓vcPre,↓z0,↓reduceIte,vcPost,vcStd,Nat.reduceEqDiff,reduceCtorEq,Nat.reduceAdd,Nat.reduceLeDiff,Int.reduceLT,Int.reduceLE,↓u_setN]
   refine ⟨by decide,AllocQ.i0 fun q5 hq5 => ?_⟩
   simp only [↓vcPre,↓z0,↓reduceIte,vcPost,vcStd,Nat.reduceEqDiff,reduceCtorEq,Nat.reduceAdd,Nat.reduceLeDiff,Int.reduceLT,Int.reduceLE,↓u_setN]
   have h6:=Store.sub_set V2 q5 (.arr 1 [[.int .i64 K]]) hq5
   have hty:(typesA true r).length≤7:=by
    unfold typesA
    cases r.hm <;> cases r.hp <;> cases r.atm <;> by_cases h:r.cms=[] <;> simp [h]
   refine Own.appM (τ:=U') (Store.sub_trans s5V h6) (ho5.mono (Store.sub_trans sV h6)) (zi (Store.set_same _ _ _) rfl) (by simp;omega) fun t1' u6 hu6 ho6 => ?_
   have ho6':Own 1 U' ((typesA true r++[K]).map cI) t1' u6:=by rw [List.map_append];exact ho6
   refine (zel Rd.sl (Rd.own ho6') (by simp;omega) (by simp;omega)).Q ?_
   rintro q s6 ⟨rfl,rfl⟩
   rw [decide_eq_true rfl]
   simp only [↓vcPre,↓z0,↓reduceIte,vcPost,vcStd,Nat.reduceEqDiff,reduceCtorEq,Nat.reduceAdd,Nat.reduceLeDiff,Int.reduceLT,Int.reduceLE,↓u_setN]
   refine c15.Q ?_
   simp only [↓vcPre,↓z0,↓reduceIte,vcPost,vcStd,Nat.reduceEqDiff,reduceCtorEq,Nat.reduceAdd,Nat.reduceLeDiff,Int.reduceLT,Int.reduceLE,↓u_setN]
   exact Store.sub_trans sσU hu6
end Go.Am
namespace Go.Am
open Go.Proofs
theorem zcw (a:At) (ha:I64 a.org∧okNums a) (turn:Int) (h1:I64 turn) (kind:Int) (h2:0≤kind∧kind<256) (b:List Int) (_:Small b) (hb:U8s b):Pur Try.prog 3 [.agg a.c,.int .i64 turn,.int .u8 kind,.sl 1 (b.map cB)] (.bool true):=z5a a ha.1 ha.2 turn h1 kind h2 b hb
end Go.Am
