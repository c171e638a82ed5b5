/- A part of the proof: a logic for calls over plain values, and the functions that the law reaches, each walked once. -/
import Derived.Test.YtcjiacchgddnpabGreatPO15
set_option linter.unusedVariables false
set_option linter.unusedSimpArgs false
set_option linter.unusedSectionVars false
namespace Go.Am.Ts8
open Go.Proofs Go.Am.B
def t7_33:BC:=z [g 33 22 [],m 9 33] [4,6,8,9] (z [m 34 9,m 35 4,u 36 .len 35,g 37 23 [.t 34,.t 36]] [4,6,8,9] (z [m 38 9,m 39 4,g 40 24 [.t 38,.t 39]] [6,8,9] (z [m 41 9,m 42 8,u 43 .len 42,g 44 23 [.t 41,.t 43]] [6,8,9] (z [m 45 9,m 46 8,g 47 24 [.t 45,.t 46]] [6,9] (z [m 48 9,m 49 6,g 50 24 [.t 48,.t 49]] [9] (.seq (z [m 51 9,g 52 25 [.t 51],c 53 .gtr 52 4077] [9,53] (.cond (.t 53) (z [k 2 .nils,j 3 3] [2,3] .ret) .skip)) (z [m 54 9,g 55 26 [.t 54],m 2 55,j 3 0] [2,3] .ret)))))))
def b7:BC:=z [⟨some 1,none,.alloc (.box),[.t 0]⟩,k 2 .nils,j 3 0] [1] (.seq (z [⟨some 10,none,.load (.ld 12 true),[.t 1]⟩,g 11 19 [.t 10],u 12 .not 11] [1,12] (.cond (.t 12) (z [k 2 .nils,j 3 12] [2,3] .ret) .skip)) (z [f 14 0 1,l 15 1 14,g 16 20 [.t 15],m 13 16,e 17 0 13,e 18 1 13,m 4 17,m 5 18] [1,4] (z [f 20 11 1,l 21 1 20,g 22 20 [.t 21],m 19 22,e 23 0 19,e 24 1 19,m 6 23,m 7 24] [1,4,6] (z [k 8 .nils] [1,4,6,8] (.seq (z [f 25 1 1,l 26 1 25] [1,4,6,8,26] (.cond (.t 26) (.ops [f 28 2 1,⟨some 29,none,.load (.ld 9 true),[.t 28]⟩,g 30 21 [.t 29],m 27 30,e 31 0 27,e 32 1 27,m 8 31] [4,6,8]) .skip)) t7_33)))))
def F7:Fn Tryz.prog 7:=Fn.mkX false b7 [.t 2,.t 3] 56 Tryz.f7 _ Tryz.func7 (by decide) rfl Tryz.ntmps7 (by kernel_rfl) (by kernel_rfl)
end Go.Am.Ts8
namespace Go.Am
open Go.Proofs Go.Sort
theorem s25 {τ s:Store} {id:Nat} {L:List Int} (h:WI τ id L s):ACalls Tryz.prog 25 [.ptr id 0] s (fun r s'=>s'=s∧r = .int .i64 (L.length:Int)):=by
 obtain ⟨h1,h2,v,h3,h4⟩:=h
 refine zd Tst.F25 (by simp [Tst.F25,Fn.mkX]) ?_
 simp only [Tst.F25,Fn.mkX,Tst.b25]
 have hv:pv .len [v]=some (.int .i64 (L.length:Int)):=by rw [(Rd.own h4).2];simp
 simp only [h3,hv,↓vcPre,↓z0,↓reduceIte,vcPost,vcStd,Nat.reduceEqDiff,reduceCtorEq,Nat.reduceAdd,Nat.reduceLeDiff,Int.reduceLT,Int.reduceLE,↓u_setN]
 exact EndQ.to _ _ rfl (Store.sub_refl _) ⟨rfl,rfl⟩
theorem z7w (k:Nat):beN 2 (IntKind.u64.wrap (k:Int))=u16 k:=by rw [be2];rfl
theorem z7q {W A N:List Int} {T:Store} {av:AV} (ha:Rd 1 T (A.map cB) av) (lW:W.length≤1000000) (lA:A.length≤1000000) (lN:N.length≤1000000) (e:Env) {p:Nat} {b:Bool}
 (hE:e=[(4,.sl 1 (W.map cB)),(6,.sl 1 (N.map cB)),(8,av)]∨e=[(1,.ptr p 0),(4,.sl 1 (W.map cB)),(6,.sl 1 (N.map cB)),(8,av),(26,.bool b)]) {n rr:Env→Store→Prop} {xx:Nat→Env→Store→Prop}
 (hr1:4077<4+W.length+A.length+N.length→∀ t',Store.sub T t'→rr [(2,.nils),(3,.int .i64 3)] t') (hr2:¬ 4077<4+W.length+A.length+N.length→∀ t',Store.sub T t'→rr [(2,.sl 1 ((joinU W A N).map cB)),(3,.int .i64 0)] t') :
 bwp Tryz.prog Ts8.t7_33 e T n rr xx:=by
 simp only [Ts8.t7_33]
 have la:pv .len [av]=some (.int .i64 (A.length:Int)):=by rw [ha.2];simp
 rcases hE with rfl | rfl
 all_goals
  simp only [↓vcPre,↓z0,↓reduceIte,vcPost,vcStd,Nat.reduceEqDiff,reduceCtorEq,Nat.reduceAdd,Nat.reduceLeDiff,Int.reduceLT,Int.reduceLE,↓u_setN]
  refine (s22 T).Q ?_
  rintro r s ⟨id,rfl,h0⟩
  simp only [↓vcPre,↓z0,↓reduceIte,vcPost,vcStd,Nat.reduceEqDiff,reduceCtorEq,Nat.reduceAdd,Nat.reduceLeDiff,Int.reduceLT,Int.reduceLE,↓u_setN]
  refine (s23 h0 (by simp) _).Q ?_
  rintro r s1 ⟨rfl,h1⟩
  simp only [↓vcPre,↓z0,↓reduceIte,vcPost,vcStd,Nat.reduceEqDiff,reduceCtorEq,Nat.reduceAdd,Nat.reduceLeDiff,Int.reduceLT,Int.reduceLE,↓u_setN]
  refine (s24 h1 Rd.sl (by simp [be2]) (by omega)).Q ?_
  rintro r s2 ⟨rfl,h2⟩
  simp only [la,↓vcPre,↓z0,↓reduceIte,vcPost,vcStd,Nat.reduceEqDiff,reduceCtorEq,Nat.reduceAdd,Nat.reduceLeDiff,Int.reduceLT,Int.reduceLE,↓u_setN]
  refine (s23 h2 (by simp [be2];omega) _).Q ?_
  rintro r s3 ⟨rfl,h3⟩
  simp only [↓vcPre,↓z0,↓reduceIte,vcPost,vcStd,Nat.reduceEqDiff,reduceCtorEq,Nat.reduceAdd,Nat.reduceLeDiff,Int.reduceLT,Int.reduceLE,↓u_setN]
  refine (s24 h3 ha (by simp [be2];omega) (by omega)).Q ?_
  rintro r s4 ⟨rfl,h4⟩
  simp only [↓vcPre,↓z0,↓reduceIte,vcPost,vcStd,Nat.reduceEqDiff,reduceCtorEq,Nat.reduceAdd,Nat.reduceLeDiff,Int.reduceLT,Int.reduceLE,↓u_setN]
  refine (s24 h4 Rd.sl (by simp [be2];omega) (by omega)).Q ?_
  rintro r s5 ⟨rfl,h5⟩
  have ej:[]++beN 2 (IntKind.u64.wrap (W.length:Int))++W++beN 2 (IntKind.u64.wrap (A.length:Int))++A++N=joinU W A N:=by
   rw [z7w,z7w];simp [joinU]
  rw [ej] at h5
  have lj:(joinU W A N).length=4+W.length+A.length+N.length:=by simp [joinU,u16];omega
  simp only [↓vcPre,↓z0,↓reduceIte,vcPost,vcStd,Nat.reduceEqDiff,reduceCtorEq,Nat.reduceAdd,Nat.reduceLeDiff,Int.reduceLT,Int.reduceLE,↓u_setN]
  refine (s25 h5).Q ?_
  rintro r s6 ⟨rfl,rfl⟩
  rw [lj]
  simp only [↓vcPre,↓z0,↓reduceIte,vcPost,vcStd,Nat.reduceEqDiff,reduceCtorEq,Nat.reduceAdd,Nat.reduceLeDiff,Int.reduceLT,Int.reduceLE,↓u_setN]
  refine ⟨fun g => ?_,fun g => ?_⟩
  ·exact hr1 (by omega) _ h5.2.1
  ·refine (s26 h5 (by omega)).Q ?_
   rintro r s7 ⟨rfl,rfl⟩
   simp only [↓vcPre,↓z0,↓reduceIte,vcPost,vcStd,Nat.reduceEqDiff,reduceCtorEq,Nat.reduceAdd,Nat.reduceLeDiff,Int.reduceLT,Int.reduceLE,↓u_setN]
   exact hr2 (by omega) _ h5.2.1
set_option maxHeartbeats 1000000 in
theorem c7 (u:Up) (hu:u.a.ok) (lw:u.w.length≤100000) (ln:u.n.length≤100000) (he:u.has=true→(encA u.a).length≤1000000):Pur Tryz.prog 7 [.agg u.c] (.tup [.sl 1 ((encU9 u).1.map cB),.int .i64 (encU9 u).2]):=by
 intro σ
 refine zd Ts8.F7 (by simp [Ts8.F7,Fn.mkX]) ?_
 simp only [Ts8.F7,Fn.mkX,Ts8.b7]
 have f0:List.take 1 u.c=[.sl 2 (u.w.map pxC)]:=rfl
 have f1:List.take 1 (List.drop 1 u.c)=[.bool u.has]:=rfl
 have f2:List.take 9 (List.drop 2 u.c)=u.a.c:=rfl
 have f11:List.take 1 (List.drop 11 u.c)=[.sl 2 (u.n.map pxC)]:=rfl
 have t12:List.take 12 u.c=u.c:=rfl
 simp only [zj,↓vcPre,↓z0,↓reduceIte,vcPost,vcStd,Nat.reduceEqDiff,reduceCtorEq,Nat.reduceAdd,Nat.reduceLeDiff,Int.reduceLT,Int.reduceLE,↓u_setN]
 refine AllocQ.i0 fun p hp => ?_
 have hP:=Store.sub_set σ p (.box u.c) hp
 have P1:(σ.set p (.box u.c)) p=some (.box u.c):=Store.set_same _ _ _
 generalize σ.set p (.box u.c)=P at hP P1 ⊢
 simp only [P1,t12,zj,Nat.le_refl,↓vcPre,↓z0,↓reduceIte,vcPost,vcStd,Nat.reduceEqDiff,reduceCtorEq,Nat.reduceAdd,Nat.reduceLeDiff,Int.reduceLT,Int.reduceLE,↓u_setN]
 refine (c19 u hu (by omega) (by omega)).Q ?_
 cases hr:rightU u with
 | false =>
   simp only [↓vcPre,↓z0,↓reduceIte,vcPost,vcStd,Nat.reduceEqDiff,reduceCtorEq,Nat.reduceAdd,Nat.reduceLeDiff,Int.reduceLT,Int.reduceLE,↓u_setN]
   have e:encU9 u=([],12):=by unfold encU9;rw [hr];rfl
   rw [e]
   exact EndQ.twoNil _ 1 _ rfl hP ⟨rfl,rfl⟩
 | true =>
   obtain ⟨hrw,hrn⟩:=qe hr
   have e:encU9 u=if 4077<4+(encN u.w).length+(aOf u).length+(encN u.n).length then ([],3) else (joinU (encN u.w) (aOf u) (encN u.n),0):=by unfold encU9;rw [if_pos hr]
   have l1:=xl u.w hrw
   have l2:=xl u.n hrn
   simp only [P1,f0,zj,↓vcPre,↓z0,↓reduceIte,vcPost,vcStd,Nat.reduceEqDiff,reduceCtorEq,Nat.reduceAdd,Nat.reduceLeDiff,Int.reduceLT,Int.reduceLE,↓u_setN]
   refine (c20 u.w lw hrw).Q ?_
   simp only [P1,f11,zj,↓vcPre,↓z0,↓reduceIte,vcPost,vcStd,Nat.reduceEqDiff,reduceCtorEq,Nat.reduceAdd,Nat.reduceLeDiff,Int.reduceLT,Int.reduceLE,↓u_setN]
   refine (c20 u.n ln hrn).Q ?_
   simp only [P1,f1,zj,↓vcPre,↓z0,↓reduceIte,vcPost,vcStd,Nat.reduceEqDiff,reduceCtorEq,Nat.reduceAdd,Nat.reduceLeDiff,Int.reduceLT,Int.reduceLE,↓u_setN]
   cases hh:u.has with
   | true =>
     have hat:atRight u.a:=by
      unfold rightU at hr
      rw [hh] at hr
      simp only [Bool.and_eq_true,if_true,decide_eq_true_eq] at hr
      exact hr.2.2.2
     have ea:aOf u=encA u.a:=by unfold aOf;rw [hh];rfl
     rw [ea] at e
     have ae:=c21 u.a hu
     rw [if_pos hat,if_pos hat] at ae
     simp only [P1,f2,zj,↓vcPre,↓z0,↓reduceIte,vcPost,vcStd,Nat.reduceEqDiff,reduceCtorEq,Nat.reduceAdd,Nat.reduceLeDiff,Int.reduceLT,Int.reduceLE,↓u_setN]
     refine ae.Q ?_
     simp only [↓vcPre,↓z0,↓reduceIte,vcPost,vcStd,Nat.reduceEqDiff,reduceCtorEq,Nat.reduceAdd,Nat.reduceLeDiff,Int.reduceLT,Int.reduceLE,↓u_setN]
     refine z7q (A:=encA u.a) (p:=0) (b:=true) Rd.sl (by omega) (he hh) (by omega) _ (.inl rfl) (fun hL t' ht' => ?_) (fun hL t' ht' => ?_)
     ·rw [if_pos hL] at e
      rw [e]
      exact EndQ.twoNil _ 1 _ rfl (Store.sub_trans hP ht') ⟨rfl,rfl⟩
     ·rw [if_neg hL] at e
      rw [e]
      exact EndQ.to _ _ rfl (Store.sub_trans hP ht') ⟨rfl,rfl⟩
   | false =>
     have ea:aOf u=[]:=by unfold aOf;rw [hh];rfl
     rw [ea] at e
     simp only [↓vcPre,↓z0,↓reduceIte,vcPost,vcStd,Nat.reduceEqDiff,reduceCtorEq,Nat.reduceAdd,Nat.reduceLeDiff,Int.reduceLT,Int.reduceLE,↓u_setN]
     refine z7q (A:=[]) Rd.nils (by omega) (by simp) (by omega) _ (.inr rfl) (fun hL t' ht' => ?_) (fun hL t' ht' => ?_)
     ·rw [if_pos hL] at e
      rw [e]
      exact EndQ.twoNil _ 1 _ rfl (Store.sub_trans hP ht') ⟨rfl,rfl⟩
     ·rw [if_neg hL] at e
      rw [e]
      exact EndQ.to _ _ rfl (Store.sub_trans hP ht') ⟨rfl,rfl⟩
end Go.Am
namespace Go.Am
open Go.Proofs Go.Sort
theorem z2z (x:Raw9) (h:N9 x≠[]):A9 x=rightK (shortA x.a):=by unfold A9;rw [if_neg h]
theorem z5j (x:Raw9) (h:N9 x=[]):A9 x=zeroAt:=by unfold A9;rw [if_pos h]
theorem z3w (x:Raw9) (h:x.Ok):rightU (right9U x)=true:=by
 obtain ⟨r1,_⟩:=xw (madeP x.w x.wl)
 obtain ⟨r2,_⟩:=xw (madeP x.n x.nl)
 have a1:((W9 x).all fun p=>rightF p.1 p.2)=true:=List.all_eq_true.2 fun p hp=>r1 p hp
 have a2:((N9 x).all fun p=>rightF p.1 p.2)=true:=List.all_eq_true.2 fun p hp=>r2 p hp
 show ((W9 x).all _ && ((N9 x).all _ && (decide (decide (N9 x≠[])=decide (0<(N9 x).length)) && if decide (N9 x≠[])=true then decide (atRight (A9 x)) else zAt (A9 x))))=true
 rw [a1,a2]
 by_cases e:N9 x=[]
 ·rw [z5j x e]
  simp [e,zAt,zeroAt]
 ·have hl:0<(N9 x).length:=List.length_pos_iff.2 e
  rw [z2z x e]
  simp [e,hl,(uf h.num).1]
theorem z0g (inner:Bool) (a:At):lacksF (typesA inner a) inner=if inner && !a.hp then 5 else 0:=by
 unfold lacksF mustF typesA
 cases inner <;> cases a.hp <;> cases a.hm <;> cases a.atm <;> by_cases h:a.cms=[] <;> simp [h]
theorem z0j (x:Raw9) (h:x.Ok):(encU9 (right9U x))=if 4077<4+(encN (W9 x)).length+(aOf (right9U x)).length+(encN (N9 x)).length then ([],3) else (joinU (encN (W9 x)) (aOf (right9U x)) (encN (N9 x)),0):=by
 unfold encU9;rw [if_pos (z3w x h)];rfl
theorem z27 (x:Raw9) (h:x.Ok) (inner:Bool):decU inner (joinU (encN (W9 x)) (aOf (right9U x)) (encN (N9 x))) =
 if N9 x=[] then .ok ⟨W9 x,false,zeroAt,[]⟩ else if inner && !(A9 x).hp then .error (3,[5]) else .ok ⟨W9 x,true,outA inner (A9 x),N9 x⟩:=by
 obtain ⟨r1,u1⟩:=xw (madeP x.w x.wl)
 obtain ⟨r2,u2⟩:=xw (madeP x.n x.nl)
 have l1:=xl (W9 x) r1
 have hl:=vh x
 obtain ⟨_,ha⟩:=xm x
 have la:(aOf (right9U x)).length<65536:=by
  unfold aOf;split
  ·rename_i hh;have:=(ha hh).2;omega
  ·simp
 have hc:=z25 (w:=encN (W9 x)) (a:=aOf (right9U x)) (r:=encN (N9 x)) (by omega) la
 have d1:dN (encN (W9 x))=some (W9 x):=qj _ r1 u1
 have d2:dN (encN (N9 x))=some (N9 x):=qj _ r2 u2
 unfold decU joinU
 rw [hc]
 by_cases e:N9 x=[]
 ·have ea:aOf (right9U x)=[]:=by unfold aOf;rw [if_neg (by show ¬ decide (N9 x≠[])=true;simp [e])]
  rw [ea]
  simp only [d1,d2,z0o]
  rw [if_pos e,if_pos e]
 ·have ea:aOf (right9U x)=encA (A9 x):=by unfold aOf;rw [if_pos (by show decide (N9 x≠[])=true;simp [e])];rfl
  rw [ea]
  obtain ⟨hr,hn⟩:=uf h.num
  rw [←z2z x e] at hr hn
  simp only [d1,d2,z4x hr hn inner,z0g]
  rw [if_neg e,if_neg e]
  cases hb:(inner && !(A9 x).hp) <;> simp
theorem zd0 (x:Raw9) (h:x.Ok):∃ (v:Up) (p q:Int) (M:List Int),outU (decU true (joinU (encN (W9 x)) (aOf (right9U x)) (encN (N9 x)))) = .tup [.agg v.c,.agg [.int .i64 p,.int .i64 q,.sl 1 (M.map cB)]] ∧
 v.a.ok∧(v.w.length≤1000000∧v.n.length≤1000000)∧((decide (N9 x≠[]) && !(A9 x).hp)=true→p=3∧q=3∧M=[5])∧((decide (N9 x≠[]) && !(A9 x).hp)=false→p=0∧v=right9U x):=by
 rw [z27 x h true]
 obtain ⟨ha,_⟩:=xm x
 have hl:=vh x
 by_cases e:N9 x=[]
 ·rw [if_pos e]
  refine ⟨_,0,0,[],rfl,yg,⟨by show (W9 x).length≤_;omega,by simp⟩,by simp [e],fun _=>⟨rfl,?_⟩⟩
  unfold right9U;rw [z5j x e,e];rfl
 ·rw [if_neg e]
  cases hh:(A9 x).hp
  ·exact ⟨zeroUp,3,3,[5],rfl,yg,⟨by simp [zeroUp],by simp [zeroUp]⟩,fun _=>⟨rfl,rfl,rfl⟩,by simp [e]⟩
  ·refine ⟨right9U x,0,0,[],?_,ha,⟨by show (W9 x).length≤_;omega,by show (N9 x).length≤_;omega⟩,by simp,fun _=>⟨rfl,rfl⟩⟩
   have hd:decide (N9 x≠[])=true:=by simp [e]
   unfold right9U
   rw [hd];rfl
theorem zb3 (x:Raw9) (h:x.Ok):outU (decU false (joinU (encN (W9 x)) (aOf (right9U x)) (encN (N9 x)))) = .tup [.agg (⟨W9 x,decide (N9 x≠[]),outA false (A9 x),N9 x⟩:Up).c,.agg [.int .i64 0,.int .i64 0,.sl 1 []]]:=by
 rw [z27 x h false]
 by_cases e:N9 x=[]
 ·rw [if_pos e,e,z5j x e];rfl
 ·have hd:decide (N9 x≠[])=true:=by simp [e]
  rw [if_neg e,hd];rfl
end Go.Am
namespace Go.Am.Ts10
open Go.Proofs Go.Am.B
def t3_67:BC:=z [f 67 2 3,f 68 5 67,⟨none,none,.loud (.st 1),[.t 68,.c (.bool false)]⟩,f 69 2 3,f 70 6 69,⟨none,none,.loud (.st 1),[.t 70,.c (.int .u32 0)]⟩] [3,4,8,9] (z [f 72 11 3,l 73 1 72,g 74 11 [.t 73],m 71 74,e 75 0 71,e 76 1 71,m 10 75,m 11 76] [3,4,8,9,10,11] (z [f 77 0 9,l 78 1 77,c 79 .eql 78 0,m 80 79,⟨some 81,some (80,true),.load (.ld 12 true),[.t 3]⟩,⟨some 82,some (80,true),.load (.ld 12 true),[.t 8]⟩,⟨some 83,some (80,true),.loud (.call 10),[.t 81,.t 82]⟩,⟨some 84,none,.pick,[.t 80,.t 83,.c (.bool false)]⟩,m 85 84,⟨some 86,some (85,true),.pure (.mov),[.t 11]⟩,⟨some 87,none,.pick,[.t 85,.t 86,.c (.bool false)]⟩,m 88 87,⟨some 89,some (88,true),.pure (.mov),[.t 10]⟩,⟨some 90,some (88,true),.pure (.len),[.t 89]⟩,⟨some 91,some (88,true),.pure (.mov),[.t 4]⟩,⟨some 92,some (88,true),.pure (.len),[.t 91]⟩,⟨some 93,some (88,true),.pure (.bin .leq),[.t 90,.t 92]⟩,⟨some 94,none,.pick,[.t 88,.t 93,.c (.bool false)]⟩,m 95 94,⟨some 96,some (95,true),.loud (.call 8),[]⟩,⟨some 97,none,.pick,[.t 95,.t 96,.c (.bool false)]⟩,m 2 97] [2] .ret))
def b3:BC:=z [⟨some 1,none,.alloc (.box),[.t 0]⟩,k 2 (.bool false)] [1] (z [⟨some 12,none,.load (.ld 14 true),[.t 1]⟩,g 13 6 [.t 12],⟨some 3,none,.alloc (.alloc [.nils,(.bool false),(.int .i64 0),.nils,(.int .u32 0),(.bool false),(.int .u32 0),(.bool false),(.int .u32 0),(.bool false),.nils,.nils]),[]⟩,s 12 3 13] [3] (z [⟨some 15,none,.load (.ld 12 true),[.t 3]⟩,g 16 7 [.t 15],m 14 16,e 17 0 14,e 18 1 14,m 4 17,m 5 18] [3,4,5] (.seq (z [m 19 5,c 20 .neq 19 0] [3,4,5,20] (.cond (.t 20) (z [m 21 5,c 22 .eql 21 3,m 23 22,⟨some 24,some (23,true),.loud (.call 8),[]⟩,⟨some 25,none,.pick,[.t 23,.t 24,.c (.bool false)]⟩,m 2 25] [2] .ret) .skip)) (z [m 27 4,g 28 9 [.t 27,.c (.bool true)],m 26 28,e 29 0 26,e 30 1 26,⟨some 6,none,.alloc (.alloc [.nils,(.bool false),(.int .i64 0),.nils,(.int .u32 0),(.bool false),(.int .u32 0),(.bool false),(.int .u32 0),(.bool false),.nils,.nils]),[]⟩,⟨some 7,none,.alloc (.alloc [(.int .i64 0),(.int .i64 0),.nils]),[]⟩,s 12 6 29,s 3 7 30] [3,4,6,7] (z [m 32 4,g 33 9 [.t 32,.c (.bool false)],m 31 33,e 34 0 31,e 35 1 31,⟨some 8,none,.alloc (.alloc [.nils,(.bool false),(.int .i64 0),.nils,(.int .u32 0),(.bool false),(.int .u32 0),(.bool false),(.int .u32 0),(.bool false),.nils,.nils]),[]⟩,⟨some 9,none,.alloc (.alloc [(.int .i64 0),(.int .i64 0),.nils]),[]⟩,s 12 8 34,s 3 9 35] [3,4,6,7,8,9] (.seq (z [f 36 1 3,l 37 1 36,m 38 37,⟨some 39,some (38,true),.pure (.fld 2),[.t 3]⟩,⟨some 40,some (38,true),.pure (.fld 5),[.t 39]⟩,⟨some 41,some (38,true),.load (.ld 1 false),[.t 40]⟩,⟨some 42,some (38,true),.pure (.not),[.t 41]⟩,⟨some 43,none,.pick,[.t 38,.t 42,.c (.bool false)]⟩] [3,4,6,7,8,9,43] (.cond (.t 43) (z [f 44 0 7,l 45 1 44,c 46 .neq 45 3,m 47 46,⟨some 48,some (47,false),.pure (.fld 1),[.t 7]⟩,⟨some 49,some (47,false),.load (.ld 1 false),[.t 48]⟩,⟨some 50,some (47,false),.pure (.bin .neq),[.t 49,.c (.int .i64 3)]⟩,⟨some 51,none,.pick,[.t 47,.c (.bool true),.t 50]⟩,m 52 51,⟨some 53,some (52,false),.pure (.fld 2),[.t 7]⟩,⟨some 54,some (52,false),.load (.ld 1 false),[.t 53]⟩,⟨some 55,some (52,false),.load (.str),[.t 54]⟩,⟨some 56,some (52,false),.pure (.eqs true),[.t 55,.c (.str ⟨[5].toArray⟩)]⟩,⟨some 57,none,.pick,[.t 52,.c (.bool true),.t 56]⟩] [3,4,8,9,57] (.cond (.t 57) (z [k 2 (.bool false)] [2] .ret) .skip)) (z [f 58 0 7,l 59 1 58,c 60 .neq 59 0,m 61 60,⟨some 62,some (61,false),.load (.ld 12 true),[.t 3]⟩,⟨some 63,some (61,false),.load (.ld 12 true),[.t 6]⟩,⟨some 64,some (61,false),.loud (.call 10),[.t 62,.t 63]⟩,⟨some 65,some (61,false),.pure (.not),[.t 64]⟩,⟨some 66,none,.pick,[.t 61,.c (.bool true),.t 65]⟩] [3,4,8,9,66] (.cond (.t 66) (z [k 2 (.bool false)] [2] .ret) .skip)))) t3_67))))))
def F3:Fn Tryz.prog 3:=Fn.mkX false b3 [.t 2] 98 Tryz.f3 _ Tryz.func3 (by decide) rfl Tryz.ntmps3 (by kernel_rfl) (by kernel_rfl)
end Go.Am.Ts10
namespace Go.Am
open Go.Proofs Go.Sort
def offU1 (u:Up):Up:={ u with a:={ u.a with hp:=false } }
def offU (u:Up):Up:={ u with a:={ u.a with hp:=false,prf:=0 } }
theorem z9m {x:Raw9} (hx:x.Ok) {T:Store} {p3 p8 p9:Nat} {Bv:List Int} (h38:¬ p3=p8) (h39:¬ p3=p9) (T3:T p3=some (.box (right9U x).c)) (T8:T p8=some (.box (⟨W9 x,decide (N9 x≠[]),outA false (A9 x),N9 x⟩:Up).c))
 (T9:T p9=some (.box [.int .i64 0,.int .i64 0,.sl 1 []])) (hl:(encN (N9 x)).length≤Bv.length) (hBl:Bv.length≤1000000) (E:List (Nat×AV)) {n rr:Env→Store→Prop} {xx:Nat→Env→Store→Prop} {σ:Store} (h3:σ p3=none) (hs:Store.sub σ T)
 (hr:∀ t',Store.sub σ t'→rr [(2,.bool true)] t'):bwp Tryz.prog Ts10.t3_67 ((3,.ptr p3 0)::(4,.sl 1 (Bv.map cB))::(8,.ptr p8 0)::(9,.ptr p9 0)::E) T n rr xx:=by
 simp only [Ts10.t3_67]
 have s7:∀ u:Up,splice 7 [.bool false] u.c=some (offU1 u).c:=fun _=>rfl
 have s8:∀ u:Up,splice 8 [.int .u32 0] (offU1 u).c=some (offU u).c:=fun _=>rfl
 have f11:∀ u:Up,List.take 1 (List.drop 11 u.c)=[.sl 2 (u.n.map pxC)]:=fun _=>rfl
 have t12:∀ u:Up,List.take 12 u.c=u.c:=fun _=>rfl
 obtain ⟨ha,hae⟩:=xm x
 have hl9:=vh x
 obtain ⟨r2,u2⟩:=xw (madeP x.n x.nl)
 simp only [T3,zj,s7,s8,↓vcPre,↓z0,↓reduceIte,vcPost,vcStd,Nat.reduceEqDiff,reduceCtorEq,Nat.reduceAdd,Nat.reduceLeDiff,Int.reduceLT,Int.reduceLE,↓u_setN]
 have sU:Store.sub σ ((T.set p3 (.box (offU1 (right9U x)).c)).set p3 (.box (offU (right9U x)).c)):=z5 (z5 hs h3) h3
 have U3:((T.set p3 (.box (offU1 (right9U x)).c)).set p3 (.box (offU (right9U x)).c)) p3=some (.box (offU (right9U x)).c):=Store.set_same _ _ _
 have U8:((T.set p3 (.box (offU1 (right9U x)).c)).set p3 (.box (offU (right9U x)).c)) p8=some (.box (⟨W9 x,decide (N9 x≠[]),outA false (A9 x),N9 x⟩:Up).c):=by rw [Store.set_ne _ _ (fun e=>h38 e.symm),Store.set_ne _ _ (fun e=>h38 e.symm)];exact T8
 have U9:((T.set p3 (.box (offU1 (right9U x)).c)).set p3 (.box (offU (right9U x)).c)) p9=some (.box [.int .i64 0,.int .i64 0,.sl 1 []]):=by rw [Store.set_ne _ _ (fun e=>h39 e.symm),Store.set_ne _ _ (fun e=>h39 e.symm)];exact T9
 generalize (T.set p3 (.box (offU1 (right9U x)).c)).set p3 (.box (offU (right9U x)).c)=U at sU U3 U8 U9 ⊢
 have hnn:(offU (right9U x)).n=N9 x:=rfl
 simp only [f11,hnn,↓vcPre,↓z0,↓reduceIte,vcPost,vcStd,Nat.reduceEqDiff,reduceCtorEq,Nat.reduceAdd,Nat.reduceLeDiff,Int.reduceLT,Int.reduceLE,↓u_setN]
 refine (s11 (N9 x) (by omega) r2 U).Q ?_
 rintro r s ⟨hs2,v,rfl,hv⟩
 have S3:=hs2 _ _ U3
 have S8:=hs2 _ _ U8
 have S9:=hs2 _ _ U9
 have ho:(offU (right9U x))=⟨W9 x,decide (N9 x≠[]),outA false (A9 x),N9 x⟩:=rfl
 have lv:pv .len [v]=some (.int .i64 ((encN (N9 x)).length:Int)):=by rw [(Rd.own hv).2];simp
 have ku:=c10 (offU (right9U x)) (offU (right9U x)) ha ha ⟨by show (W9 x).length≤_;omega,by show (N9 x).length≤_;omega⟩ ⟨by show (W9 x).length≤_;omega,by show (N9 x).length≤_;omega⟩
 rw [decide_eq_true rfl] at ku
 rw [←ho] at S8
 simp only [S9,S3,S8,t12,zj,Nat.le_refl,↓vcPre,↓z0,↓reduceIte,vcPost,vcStd,Nat.reduceEqDiff,reduceCtorEq,Nat.reduceAdd,Nat.reduceLeDiff,Int.reduceLT,Int.reduceLE,↓u_setN]
 refine ku.Q ?_
 simp only [lv,↓vcPre,↓z0,↓reduceIte,vcPost,vcStd,Nat.reduceEqDiff,reduceCtorEq,Nat.reduceAdd,Nat.reduceLeDiff,Int.reduceLT,Int.reduceLE,↓u_setN]
 refine ⟨fun _ => ?_,fun e=>absurd hl e⟩
 refine c8.Q ?_
 simp only [↓vcPre,↓z0,↓reduceIte,vcPost,vcStd,Nat.reduceEqDiff,reduceCtorEq,Nat.reduceAdd,Nat.reduceLeDiff,Int.reduceLT,Int.reduceLE,↓u_setN]
 exact hr _ (Store.sub_trans sU hs2)
theorem z93 (x:Raw9) (h:x.Ok):Pur Tryz.prog 3 [.agg x.c] (.bool true):=by
 refine zh Ts10.F3 (by simp [Ts10.F3,Fn.mkX]) fun σ => ?_
 simp only [Ts10.F3,Fn.mkX,Ts10.b3,yh,x8,w7]
 have e14:x.c.length=14:=rfl
 have t14:List.take 14 x.c=x.c:=rfl
 have t12:∀ u:Up,List.take 12 u.c=u.c:=fun _=>rfl
 have szn:∀ x y z:AV,splice 0 [x,y,z] zN=some [x,y,z]:=fun _ _ _=>rfl
 have f1:∀ u:Up,List.take 1 (List.drop 1 u.c)=[.bool u.has]:=fun _=>rfl
 have f7:∀ u:Up,List.take 1 (List.drop 7 u.c)=[.bool u.a.hp]:=fun _=>rfl
 obtain ⟨ha,hae⟩:=xm x
 have hl:=vh x
 obtain ⟨hyu,hyl⟩:=z12 x
 simp only [↓vcPre,↓z0,↓reduceIte,vcPost,vcStd,Nat.reduceEqDiff,reduceCtorEq,Nat.reduceAdd,Nat.reduceLeDiff,Int.reduceLT,Int.reduceLE,↓u_setN]
 refine AllocQ.i0 fun p1 hp1 => ?_
 simp only [e14,t14,Nat.le_refl,↓vcPre,↓z0,↓reduceIte,vcPost,vcStd,Nat.reduceEqDiff,reduceCtorEq,Nat.reduceAdd,Nat.reduceLeDiff,Int.reduceLT,Int.reduceLE,↓u_setN]
 refine (c6 x h).Q ?_
 simp only [↓vcPre,↓z0,↓reduceIte,vcPost,vcStd,Nat.reduceEqDiff,reduceCtorEq,Nat.reduceAdd,Nat.reduceLeDiff,Int.reduceLT,Int.reduceLE,↓u_setN]
 refine AllocQ.i1 fun p3 h31 h13 hp3 => ?_
 simp only [h31,h13,zj,we,↓vcPre,↓z0,↓reduceIte,vcPost,vcStd,Nat.reduceEqDiff,reduceCtorEq,Nat.reduceAdd,Nat.reduceLeDiff,Int.reduceLT,Int.reduceLE,↓u_setN]
 have sT:Store.sub σ (((σ.set p1 (.box x.c)).set p3 (.box zU)).set p3 (.box (right9U x).c)):=z5 (zk hp1 hp3 h31) hp3
 have T3:(((σ.set p1 (.box x.c)).set p3 (.box zU)).set p3 (.box (right9U x).c)) p3=some (.box (right9U x).c):=Store.set_same _ _ _
 generalize ((σ.set p1 (.box x.c)).set p3 (.box zU)).set p3 (.box (right9U x).c)=T at sT T3 ⊢
 simp only [T3,t12,zj,Nat.le_refl,↓vcPre,↓z0,↓reduceIte,vcPost,vcStd,Nat.reduceEqDiff,reduceCtorEq,Nat.reduceAdd,Nat.reduceLeDiff,Int.reduceLT,Int.reduceLE,↓u_setN]
 refine (c7 (right9U x) ha (by show (W9 x).length≤_;omega) (by show (N9 x).length≤_;omega) (fun e=>by have:=(hae e).2;omega)).Q ?_
 rw [z0j x h] at hyu hyl ⊢
 by_cases hbig:4077<4+(encN (W9 x)).length+(aOf (right9U x)).length+(encN (N9 x)).length
 ·rw [if_pos hbig]
  simp only [↓vcPre,↓z0,↓reduceIte,vcPost,vcStd,Nat.reduceEqDiff,reduceCtorEq,Nat.reduceAdd,Nat.reduceLeDiff,Int.reduceLT,Int.reduceLE,↓u_setN]
  refine ⟨fun _=>c8.Q ?_,fun e=>absurd e (by decide)⟩
  simp only [↓vcPre,↓z0,↓reduceIte,vcPost,vcStd,Nat.reduceEqDiff,reduceCtorEq,Nat.reduceAdd,Nat.reduceLeDiff,Int.reduceLT,Int.reduceLE,↓u_setN]
  exact sT
 rw [if_neg hbig] at hyu hyl ⊢
 obtain ⟨v,np,nq,M,D1,hva,hvl,c1,c2⟩:=zd0 x h
 have D2:=zb3 x h
 have hjl:(encN (N9 x)).length≤(joinU (encN (W9 x)) (aOf (right9U x)) (encN (N9 x))).length:=by simp [joinU];omega
 simp only at hyu hyl
 generalize joinU (encN (W9 x)) (aOf (right9U x)) (encN (N9 x))=B at hyu hyl D1 D2 hjl ⊢
 simp only [↓vcPre,↓z0,↓reduceIte,vcPost,vcStd,Nat.reduceEqDiff,reduceCtorEq,Nat.reduceAdd,Nat.reduceLeDiff,Int.reduceLT,Int.reduceLE,↓u_setN]
 have R1:=s9 (σ:=T) (B:=B) Rd.sl (by omega) hyu true
 rw [D1] at R1
 refine R1.Q ?_
 rintro r s ⟨rfl,rfl⟩
 simp only [↓vcPre,↓z0,↓reduceIte,vcPost,vcStd,Nat.reduceEqDiff,reduceCtorEq,Nat.reduceAdd,Nat.reduceLeDiff,Int.reduceLT,Int.reduceLE,↓u_setN]
 refine AllocQ.i0 fun p6 hp6 => ?_
 simp only [↓vcPre,↓z0,↓reduceIte,vcPost,vcStd,Nat.reduceEqDiff,reduceCtorEq,Nat.reduceAdd,Nat.reduceLeDiff,Int.reduceLT,Int.reduceLE,↓u_setN]
 refine AllocQ.i1 fun p7 h76 h67 hp7 => ?_
 simp only [h76,h67,zj,we,szn,↓vcPre,↓z0,↓reduceIte,vcPost,vcStd,Nat.reduceEqDiff,reduceCtorEq,Nat.reduceAdd,Nat.reduceLeDiff,Int.reduceLT,Int.reduceLE,↓u_setN]
 have sU:Store.sub s ((((s.set p6 (.box zU)).set p7 (.box zN)).set p6 (.box v.c)).set p7 (.box [.int .i64 np,.int .i64 nq,.sl 1 (M.map cB)])):=z5 (z5 (zk hp6 hp7 h76) hp6) hp7
 have U7:((((s.set p6 (.box zU)).set p7 (.box zN)).set p6 (.box v.c)).set p7 (.box [.int .i64 np,.int .i64 nq,.sl 1 (M.map cB)])) p7=some (.box [.int .i64 np,.int .i64 nq,.sl 1 (M.map cB)]):=Store.set_same _ _ _
 have U6:((((s.set p6 (.box zU)).set p7 (.box zN)).set p6 (.box v.c)).set p7 (.box [.int .i64 np,.int .i64 nq,.sl 1 (M.map cB)])) p6=some (.box v.c):=by rw [Store.set_ne _ _ h67];exact Store.set_same _ _ _
 generalize ((((s.set p6 (.box zU)).set p7 (.box zN)).set p6 (.box v.c)).set p7 (.box [.int .i64 np,.int .i64 nq,.sl 1 (M.map cB)]))=U at sU U7 U6 ⊢
 have R2:=s9 (σ:=U) (B:=B) Rd.sl (by omega) hyu false
 rw [D2] at R2
 refine R2.Q ?_
 rintro r s2 ⟨rfl,rfl⟩
 simp only [↓vcPre,↓z0,↓reduceIte,vcPost,vcStd,Nat.reduceEqDiff,reduceCtorEq,Nat.reduceAdd,Nat.reduceLeDiff,Int.reduceLT,Int.reduceLE,↓u_setN]
 refine AllocQ.i0 fun p8 hp8 => ?_
 simp only [↓vcPre,↓z0,↓reduceIte,vcPost,vcStd,Nat.reduceEqDiff,reduceCtorEq,Nat.reduceAdd,Nat.reduceLeDiff,Int.reduceLT,Int.reduceLE,↓u_setN]
 refine AllocQ.i1 fun p9 h98 h89 hp9 => ?_
 simp only [h98,h89,zj,we,szn,↓vcPre,↓z0,↓reduceIte,vcPost,vcStd,Nat.reduceEqDiff,reduceCtorEq,Nat.reduceAdd,Nat.reduceLeDiff,Int.reduceLT,Int.reduceLE,↓u_setN]
 have sV:Store.sub s2 ((((s2.set p8 (.box zU)).set p9 (.box zN)).set p8 (.box (⟨W9 x,decide (N9 x≠[]),outA false (A9 x),N9 x⟩:Up).c)).set p9 (.box [.int .i64 0,.int .i64 0,.sl 1 []])):=z5 (z5 (zk hp8 hp9 h98) hp8) hp9
 have V9:((((s2.set p8 (.box zU)).set p9 (.box zN)).set p8 (.box (⟨W9 x,decide (N9 x≠[]),outA false (A9 x),N9 x⟩:Up).c)).set p9 (.box [.int .i64 0,.int .i64 0,.sl 1 []])) p9=some (.box [.int .i64 0,.int .i64 0,.sl 1 []]):=Store.set_same _ _ _
 have V8:((((s2.set p8 (.box zU)).set p9 (.box zN)).set p8 (.box (⟨W9 x,decide (N9 x≠[]),outA false (A9 x),N9 x⟩:Up).c)).set p9 (.box [.int .i64 0,.int .i64 0,.sl 1 []])) p8=some (.box (⟨W9 x,decide (N9 x≠[]),outA false (A9 x),N9 x⟩:Up).c):=by rw [Store.set_ne _ _ h89];exact Store.set_same _ _ _
 generalize ((((s2.set p8 (.box zU)).set p9 (.box zN)).set p8 (.box (⟨W9 x,decide (N9 x≠[]),outA false (A9 x),N9 x⟩:Up).c)).set p9 (.box [.int .i64 0,.int .i64 0,.sl 1 []]))=V at sV V9 V8 ⊢
 have V7:=sV _ _ U7
 have V6:=sV _ _ U6
 have V3:=sV _ _ (sU _ _ T3)
 have n38:¬ p3=p8:=fun e=>by subst e;rw [sU _ _ T3] at hp8;cases hp8
 have n39:¬ p3=p9:=fun e=>by subst e;rw [sU _ _ T3] at hp9;cases hp9
 have sσ:Store.sub σ V:=Store.sub_trans sT (Store.sub_trans sU sV)
 have hhas:(right9U x).has=decide (N9 x≠[]):=rfl
 have hhp:(right9U x).a.hp=(A9 x).hp:=rfl
 have L7:∀ u:Up,List.take 1 (List.drop 5 (List.drop 2 u.c))=[.bool u.a.hp]:=fun _=>rfl
 simp only [V3,f1,f7,zj,↓vcPre,↓z0,↓reduceIte,vcPost,vcStd,Nat.reduceEqDiff,reduceCtorEq,Nat.reduceAdd,Nat.reduceLeDiff,Int.reduceLT,Int.reduceLE,↓u_setN]
 rw [hhas,hhp]
 have hlw:(right9U x).w.length≤1000000∧(right9U x).n.length≤1000000:=⟨by show (W9 x).length≤_;omega,by show (N9 x).length≤_;omega⟩
 have l1:=z7a (τ:=V) (L:=[5]) Rd.sl (Store.sub_refl _)
 have hby:(byL [5]).toArray = #[5]:=rfl
 rw [hby] at l1
 have eqq:pv (.eqs true) [.str ⟨#[5]⟩,.str ⟨#[5]⟩]=some (.bool false):=by simp [pv,pEqs]
 have fin:∀ (E:List (Nat×AV)),bwp Tryz.prog Ts10.t3_67 ((3,.ptr p3 0)::(4,.sl 1 (B.map cB))::(8,.ptr p8 0)::(9,.ptr p9 0)::E) V (fun e τ=>e.get 2=some (AV.bool true)∧σ.sub τ) (fun e τ=>e.get 2=some (AV.bool true)∧σ.sub τ) fun x x_1 x_2=>False:=fun E =>
  z9m h n38 n39 V3 V8 V9 hjl (by omega) E hp3 sσ fun t' ht'=>⟨rfl,ht'⟩
 have ku:=c10 (right9U x) (right9U x) ha ha hlw hlw
 rw [decide_eq_true rfl] at ku
 cases hd:decide (N9 x≠[])
 ·obtain ⟨rfl,rfl⟩:=c2 (by rw [hd];rfl)
  simp only [V7,V6,t12,zj,Nat.le_refl,↓vcPre,↓z0,↓reduceIte,vcPost,vcStd,Nat.reduceEqDiff,reduceCtorEq,Nat.reduceAdd,Nat.reduceLeDiff,Int.reduceLT,Int.reduceLE,↓u_setN]
  refine ku.Q ?_
  simp only [↓vcPre,↓z0,↓reduceIte,vcPost,vcStd,Nat.reduceEqDiff,reduceCtorEq,Nat.reduceAdd,Nat.reduceLeDiff,Int.reduceLT,Int.reduceLE,↓u_setN]
  exact fin _
 ·cases hh:(A9 x).hp
  ·obtain ⟨rfl,rfl,rfl⟩:=c1 (by rw [hd,hh];rfl)
   simp only [V7,l1,eqq,↓vcPre,↓z0,↓reduceIte,vcPost,vcStd,Nat.reduceEqDiff,reduceCtorEq,Nat.reduceAdd,Nat.reduceLeDiff,Int.reduceLT,Int.reduceLE,↓u_setN]
   exact fin _
  ·obtain ⟨rfl,rfl⟩:=c2 (by rw [hd,hh];rfl)
   simp only [V7,V6,t12,zj,Nat.le_refl,↓vcPre,↓z0,↓reduceIte,vcPost,vcStd,Nat.reduceEqDiff,reduceCtorEq,Nat.reduceAdd,Nat.reduceLeDiff,Int.reduceLT,Int.reduceLE,↓u_setN]
   refine ku.Q ?_
   simp only [↓vcPre,↓z0,↓reduceIte,vcPost,vcStd,Nat.reduceEqDiff,reduceCtorEq,Nat.reduceAdd,Nat.reduceLeDiff,Int.reduceLT,Int.reduceLE,↓u_setN]
   exact fin _
end Go.Am
namespace Go.Am.Ts11
open Go.Proofs Go.Am.B
def t4_46:BC := .seq (z [m 46 8,u 47 .len 46,m 48 12,b 49 .lss 47 48] [1,2,8,12,49] (.cond (.t 49) (z [k 6 (.bool false)] [6] .ret) .skip)) (z [m 51 8,m 52 2,m 53 12,c 54 .sub 53 1,g 55 13 [.t 52,.c (.int .i64 0),.t 54],p 56 (.slice 1 false true) [.t 51,.t 55],g 57 9 [.t 56,.c (.bool true)],m 50 57,e 58 0 50,e 59 1 50,⟨some 13,none,.alloc (.alloc [.nils,(.bool false),(.int .i64 0),.nils,(.int .u32 0),(.bool false),(.int .u32 0),(.bool false),(.int .u32 0),(.bool false),.nils,.nils]),[]⟩,⟨some 14,none,.alloc (.alloc [(.int .i64 0),(.int .i64 0),.nils]),[]⟩,s 12 13 58,s 3 14 59] [1,8,14] (z [⟨some 60,none,.alloc (.mksl 1 0),[]⟩,m 61 8,⟨some 62,none,.loud (.app 1 1),[.t 60,.t 61]⟩,m 15 62] [1,8,14,15] (z [m 63 1,g 64 13 [.t 63,.c (.int .i64 0),.c (.int .i64 60000)],m 65 8,u 66 .len 65,b 67 .add 64 66,m 16 67] [14,15,16] (z [m 68 15,m 69 15,m 70 16,p 71 (.bin .shr) [.t 70,.c (.int .u64 8)],u 72 (.conv .u8) 71,m 73 16,u 74 (.conv .u8) 73,p 75 (.idx 1) [.t 68,.c (.int .i64 0)],s 1 75 72,p 76 (.idx 1) [.t 69,.c (.int .i64 1)],s 1 76 74] [14,15,16] (z [m 78 15,g 79 9 [.t 78,.c (.bool true)],m 77 79,e 80 0 77,e 81 1 77,⟨some 17,none,.alloc (.alloc [.nils,(.bool false),(.int .i64 0),.nils,(.int .u32 0),(.bool false),(.int .u32 0),(.bool false),(.int .u32 0),(.bool false),.nils,.nils]),[]⟩,⟨some 18,none,.alloc (.alloc [(.int .i64 0),(.int .i64 0),.nils]),[]⟩,s 12 17 80,s 3 18 81] [14,16,18] (z [f 82 0 14,l 83 1 82,c 84 .eql 83 3,m 85 84,⟨some 86,some (85,true),.pure (.fld 1),[.t 14]⟩,⟨some 87,some (85,true),.load (.ld 1 false),[.t 86]⟩,⟨some 88,some (85,true),.pure (.bin .eql),[.t 87,.c (.int .i64 1)]⟩,⟨some 89,none,.pick,[.t 85,.t 88,.c (.bool false)]⟩,m 90 89,⟨some 91,some (90,true),.pure (.fld 2),[.t 14]⟩,⟨some 92,some (90,true),.load (.ld 1 false),[.t 91]⟩,⟨some 93,some (90,true),.pure (.len),[.t 92]⟩,⟨some 94,some (90,true),.pure (.bin .eql),[.t 93,.c (.int .i64 0)]⟩,⟨some 95,none,.pick,[.t 90,.t 94,.c (.bool false)]⟩,m 96 95,⟨some 97,some (96,true),.pure (.mov),[.t 16]⟩,⟨some 98,some (96,true),.pure (.bin .gtr),[.t 97,.c (.int .i64 65535)]⟩,⟨some 99,some (96,true),.pure (.mov),[.t 98]⟩,⟨some 100,some (99,false),.pure (.fld 0),[.t 18]⟩,⟨some 101,some (99,false),.load (.ld 1 false),[.t 100]⟩,⟨some 102,some (99,false),.pure (.bin .eql),[.t 101,.c (.int .i64 3)]⟩,⟨some 103,some (99,false),.pure (.mov),[.t 102]⟩,⟨some 104,some (103,true),.pure (.fld 1),[.t 18]⟩,⟨some 105,some (103,true),.load (.ld 1 false),[.t 104]⟩,⟨some 106,some (103,true),.pure (.bin .eql),[.t 105,.c (.int .i64 1)]⟩,⟨some 107,some (99,false),.pick,[.t 103,.t 106,.c (.bool false)]⟩,⟨some 108,some (96,true),.pick,[.t 99,.c (.bool true),.t 107]⟩,⟨some 109,none,.pick,[.t 96,.t 108,.c (.bool false)]⟩,m 110 109,⟨some 111,some (110,true),.loud (.call 8),[]⟩,⟨some 112,none,.pick,[.t 110,.t 111,.c (.bool false)]⟩,m 6 112] [6] .ret))))))
def b4:BC:=z [⟨some 3,none,.alloc (.box),[.t 0]⟩,k 6 (.bool false)] [1,2,3] (z [⟨some 19,none,.load (.ld 14 true),[.t 3]⟩,g 20 6 [.t 19],⟨some 7,none,.alloc (.alloc [.nils,(.bool false),(.int .i64 0),.nils,(.int .u32 0),(.bool false),(.int .u32 0),(.bool false),(.int .u32 0),(.bool false),.nils,.nils]),[]⟩,s 12 7 20] [1,2,7] (z [⟨some 22,none,.load (.ld 12 true),[.t 7]⟩,g 23 7 [.t 22],m 21 23,e 24 0 21,e 25 1 21,m 8 24,m 9 25] [1,2,7,8,9] (.seq (z [m 26 9,c 27 .neq 26 0] [1,2,7,8,27] (.cond (.t 27) (z [g 28 8 [],m 6 28] [6] .ret) .skip)) (z [f 30 0 7,l 31 1 30,g 32 11 [.t 31],m 29 32,e 33 0 29,e 34 1 29,m 10 33,m 11 34] [1,2,7,8,10] (z [m 35 10,u 36 .len 35,p 37 (.bin .add) [.c (.int .i64 4),.t 36],m 12 37] [1,2,7,8,12] (.seq (z [f 38 1 7,l 39 1 38] [1,2,7,8,12,39] (.cond (.t 39) (.ops [m 40 12,f 41 2 7,⟨some 42,none,.load (.ld 9 true),[.t 41]⟩,g 43 12 [.t 42],u 44 .len 43,b 45 .add 40 44,m 12 45] [1,2,8,12]) .skip)) t4_46))))))
def F4:Fn Tryz.prog 4:=Fn.mkX false b4 [.t 6] 113 Tryz.f4 _ Tryz.func4 (by decide) rfl Tryz.ntmps4 (by kernel_rfl) (by kernel_rfl)
end Go.Am.Ts11
namespace Go.Am
open Go.Proofs Go.Sort
theorem z5p {w a r:List Int} (hw:w.length<65536) (ha:a.length<65536) {k:Nat} (hk:k<4+w.length+a.length):cutU ((u16 w.length++w++(u16 a.length++a)++r).take k)=none:=by
 have e1:(w.length:Int) / 256 % 256*256+(w.length:Int) % 256=(w.length:Int):=by omega
 have e2:(a.length:Int) / 256 % 256*256+(a.length:Int) % 256=(a.length:Int):=by omega
 simp only [u16,List.cons_append,List.nil_append,List.append_assoc]
 match k,hk with
 | 0,_=>rfl
 | 1,_=>rfl
 | k+2,hk =>
   simp only [List.take_succ_cons,cutU,e1,Int.toNat_natCast]
   by_cases c:(((w++((a.length:Int) / 256 % 256::(a.length:Int) % 256::(a++r))).take k).length:Int)<(w.length:Int)
   ·rw [if_pos c]
   ·rw [if_neg c]
    have hk2:w.length≤k:=by
     rw [List.length_take] at c;omega
    rw [List.drop_take,List.drop_left]
    generalize hj:k - w.length=j
    match j,hj with
    | 0,_=>rfl
    | 1,_=>rfl
    | j+2,hj =>
      simp only [List.take_succ_cons,e2]
      rw [if_pos (by rw [List.length_take];omega)]
theorem z70 {h l:Int} {r:List Int} (c:(r.length:Int)<h*256+l):cutU (h::l::r)=none:=by
 simp only [cutU];rw [if_pos c]
theorem z28 {inner:Bool} {B:List Int} (h:cutU B=none):decU inner B = .error (1,[]):=by unfold decU;rw [h]
theorem z42 {B:List Int} {nn:Nat} {T σ:Store} (hB:B.length≤10000) (hBu:U8s B) (hn:nn≤B.length) (h4:4≤nn) (hcut:∀ k,k<nn→cutU (B.take k)=none) (more cut:Int) (hm:I64 more) (hc:I64 cut) (e:Env) {p:Nat} {b:Bool}
 (hE:e=[(1,.int .i64 more),(2,.int .i64 cut),(8,.sl 1 (B.map cB)),(12,.int .i64 (nn:Int))]∨e=[(1,.int .i64 more),(2,.int .i64 cut),(7,.ptr p 0),(8,.sl 1 (B.map cB)),(12,.int .i64 (nn:Int)),(39,.bool b)])
 (hs:Store.sub σ T) {n rr:Env→Store→Prop} {xx:Nat→Env→Store→Prop}
 (hr:∀ t',Store.sub σ t'→rr [(6,.bool true)] t'):bwp Tryz.prog Ts11.t4_46 e T n rr xx:=by
 simp only [Ts11.t4_46,yh,x8]
 have szn:∀ x y z:AV,splice 0 [x,y,z] zN=some [x,y,z]:=fun _ _ _=>rfl
 have w1:IntKind.i64.wrap ((nn:Int) - 1)=(nn:Int) - 1:=z7 (by unfold I64;omega)
 obtain ⟨k,hk,hk2⟩:∃ k:Nat,(0:Int)+cut % ((nn:Int) - 1 - 0+1)=k∧k<nn:=by
  have h1:=Int.emod_nonneg cut (b:=(nn:Int) - 1 - 0+1) (by omega)
  have h2:=Int.emod_lt_of_pos cut (b:=(nn:Int) - 1 - 0+1) (by omega)
  exact ⟨(cut % ((nn:Int) - 1 - 0+1)).toNat,by omega,by omega⟩
 obtain ⟨m,hm1,hm2⟩:∃ m:Nat,(0:Int)+more % ((60000:Int) - 0+1)=m∧m≤60000:=by
  have h1:=Int.emod_nonneg more (b:=(60000:Int) - 0+1) (by omega)
  have h2:=Int.emod_lt_of_pos more (b:=(60000:Int) - 0+1) (by omega)
  exact ⟨(more % ((60000:Int) - 0+1)).toNat,by omega,by omega⟩
 have hwc:=c13 cut 0 ((nn:Int) - 1) hc (by omega) (by omega) (by omega)
 have hwm:=c13 more 0 60000 hm (by omega) (by omega) (by omega)
 rw [hk] at hwc
 rw [hm1] at hwm
 have wm:IntKind.i64.wrap ((m:Int)+(B.length:Int))=(m:Int)+(B.length:Int):=z7 (by unfold I64;omega)
 rcases hE with rfl | rfl
 all_goals
  simp only [↓vcPre,↓z0,↓reduceIte,vcPost,vcStd,Nat.reduceEqDiff,reduceCtorEq,Nat.reduceAdd,Nat.reduceLeDiff,Int.reduceLT,Int.reduceLE,↓u_setN]
  refine ⟨fun c=>absurd c (by omega),fun _ => ?_⟩
  simp only [w1,↓vcPre,↓z0,↓reduceIte,vcPost,vcStd,Nat.reduceEqDiff,reduceCtorEq,Nat.reduceAdd,Nat.reduceLeDiff,Int.reduceLT,Int.reduceLE,↓u_setN]
  refine hwc.Q ?_
  simp only [↓vcPre,↓z0,↓reduceIte,vcPost,vcStd,Nat.reduceEqDiff,reduceCtorEq,Nat.reduceAdd,Nat.reduceLeDiff,Int.reduceLT,Int.reduceLE,↓u_setN]
  refine ⟨⟨by simp,by simp;omega⟩,?_⟩
  have ed:List.drop (Int.toNat 0) (List.take ((some (k:Int)).getD (B.length:Int)).toNat (List.map cB B))=(B.take k).map cB:=by simp [List.map_take]
  rw [ed]
  have R1:=s9 (σ:=T) (B:=B.take k) Rd.sl (by rw [List.length_take];omega) (hBu.take k) true
  rw [z28 (hcut k hk2)] at R1
  refine R1.Q ?_
  rintro r s ⟨rfl,rfl⟩
  simp only [outU,List.map_nil]
  simp only [↓vcPre,↓z0,↓reduceIte,vcPost,vcStd,Nat.reduceEqDiff,reduceCtorEq,Nat.reduceAdd,Nat.reduceLeDiff,Int.reduceLT,Int.reduceLE,↓u_setN]
  refine AllocQ.i0 fun p13 hp13 => ?_
  simp only [↓vcPre,↓z0,↓reduceIte,vcPost,vcStd,Nat.reduceEqDiff,reduceCtorEq,Nat.reduceAdd,Nat.reduceLeDiff,Int.reduceLT,Int.reduceLE,↓u_setN]
  refine AllocQ.i1 fun p14 h1413 h1314 hp14 => ?_
  simp only [h1413,h1314,zj,we,szn,↓vcPre,↓z0,↓reduceIte,vcPost,vcStd,Nat.reduceEqDiff,reduceCtorEq,Nat.reduceAdd,Nat.reduceLeDiff,Int.reduceLT,Int.reduceLE,↓u_setN]
  have sU:Store.sub s ((((s.set p13 (.box zU)).set p14 (.box zN)).set p13 (.box zeroUp.c)).set p14 (.box [.int .i64 3,.int .i64 1,.sl 1 []])):=z5 (z5 (zk hp13 hp14 h1413) hp13) hp14
  have U14:((((s.set p13 (.box zU)).set p14 (.box zN)).set p13 (.box zeroUp.c)).set p14 (.box [.int .i64 3,.int .i64 1,.sl 1 []])) p14=some (.box [.int .i64 3,.int .i64 1,.sl 1 []]):=Store.set_same _ _ _
  generalize ((((s.set p13 (.box zU)).set p14 (.box zN)).set p13 (.box zeroUp.c)).set p14 (.box [.int .i64 3,.int .i64 1,.sl 1 []]))=U at sU U14 ⊢
  refine AllocQ.i0 fun d hd => ?_
  simp only [↓vcPre,↓z0,↓reduceIte,vcPost,vcStd,Nat.reduceEqDiff,reduceCtorEq,Nat.reduceAdd,Nat.reduceLeDiff,Int.reduceLT,Int.reduceLE,↓u_setN]
  have hsd:=Store.sub_set U d (.arr 1 []) hd
  refine Own.appM (bytes:=1) (τ:=U) hsd (Own.new (L:=[]) hd) vp (by simp;omega) fun y V hV hy => ?_
  rw [List.nil_append] at hy
  have V14:=hV _ _ U14
  refine hwm.Q ?_
  simp only [wm,↓vcPre,↓z0,↓reduceIte,vcPost,vcStd,Nat.reduceEqDiff,reduceCtorEq,Nat.reduceAdd,Nat.reduceLeDiff,Int.reduceLT,Int.reduceLE,↓u_setN]
  obtain ⟨g,rfl,hg,hh⟩:∃ g,y = .os g 1 0 B.length∧U g=none∧V g=some (.arr 1 (B.map cB)):=by
   rcases hy with ⟨h0,_⟩ | ⟨g,e,h1,h2⟩
   ·have:=List.map_eq_nil_iff.1 h0;rw [this] at hn;simp at hn;omega
   ·exact ⟨g,by rw [e,List.length_map],h1,h2⟩
  have hs8:shrInt .i64 ((m:Int)+(B.length:Int)) 8=((m:Int)+(B.length:Int)) / 256:=by simp [shrInt,IntKind.bits,z2w]
  rw [hs8,u8w,u8w]
  have hkk:(m:Int)+(B.length:Int)≤70000∧(B.length:Int)≤(m:Int)+(B.length:Int):=by omega
  generalize (m:Int)+(B.length:Int)=kk at hkk ⊢
  obtain ⟨b0,b1,R,rfl⟩:∃ b0 b1 R,B=b0::b1::R:=by
   match B,h4,hn with
   | b0::b1::R,_,_=>exact ⟨b0,b1,R,rfl⟩
   | [_],h4,hn=>simp at hn;omega
   | [],h4,hn=>simp at hn;omega
  simp only [hh,cB,↓vcPre,↓z0,↓reduceIte,vcPost,vcStd,Nat.reduceEqDiff,reduceCtorEq,Nat.reduceAdd,Nat.reduceLeDiff,Int.reduceLT,Int.reduceLE,↓u_setN]
  refine ⟨by omega,by simp,by omega,by simp,?_⟩
  have hR:(R.length:Int)+2≤kk:=by have:=hkk.2;simp at this;omega
  have hBl:R.length+2≤10000:=by simpa using hB
  have hst1:∀ a:Int,(List.map cB (b0::b1::R)).set (0+Int.toNat 0) [.int .u8 a]=(a::b1::R).map cB:=fun _=>rfl
  have hst2:∀ a b:Int,(List.map cB (a::b1::R)).set (0+Int.toNat 1) [.int .u8 b]=(a::b::R).map cB:=fun _ _=>rfl
  change wit (splice 0 [.int .u8 (kk % 256)] (cB b1)) _
  simp only [cB,↓vcPre,↓z0,↓reduceIte,vcPost,vcStd,Nat.reduceEqDiff,reduceCtorEq,Nat.reduceAdd,Nat.reduceLeDiff,Int.reduceLT,Int.reduceLE,↓u_setN]
  simp only [hst1,hst2]
  have W1:((V.set g (.arr 1 ((kk / 256 % 256::b1::R).map cB))).set g (.arr 1 ((kk / 256 % 256::kk % 256::R).map cB))) g=some (.arr 1 ((kk / 256 % 256::kk % 256::R).map cB)):=Store.set_same _ _ _
  have n14:¬ p14=g:=fun e=>by subst e;rw [U14] at hg;cases hg
  have W14:((V.set g (.arr 1 ((kk / 256 % 256::b1::R).map cB))).set g (.arr 1 ((kk / 256 % 256::kk % 256::R).map cB))) p14=some (.box [.int .i64 3,.int .i64 1,.sl 1 []]):=by rw [Store.set_ne _ _ n14,Store.set_ne _ _ n14];exact V14
  have hσg:σ g=none:=zi (Store.sub_trans hs sU) hg
  have sW:Store.sub σ ((V.set g (.arr 1 ((kk / 256 % 256::b1::R).map cB))).set g (.arr 1 ((kk / 256 % 256::kk % 256::R).map cB))):=z5 (z5 (Store.sub_trans (Store.sub_trans hs sU) hV) hσg) hσg
  generalize (V.set g (.arr 1 ((kk / 256 % 256::b1::R).map cB))).set g (.arr 1 ((kk / 256 % 256::kk % 256::R).map cB))=W at W1 W14 sW ⊢
  have hYu:U8s (kk / 256 % 256::kk % 256::R):=by
   intro z hz
   simp only [List.mem_cons] at hz
   rcases hz with rfl | rfl | hz
   ·omega
   ·omega
   ·exact hBu z (by simp [hz])
  have hY:Rd 1 W ((kk / 256 % 256::kk % 256::R).map cB) (.os g 1 0 (R.length+1+1)):=by
   have:=Rd.os W1
   simpa using this
  obtain ⟨A,np,nq,M,_,_,_,hO⟩:=z7f true hYu (by simp;omega)
  have hsm:kk≤65535→np=3∧nq=1:=fun hk=>by
   rw [z28 (z70 (by omega))] at hO
   simp only [outU,AV.tup.injEq,List.cons.injEq,AV.agg.injEq,AV.int.injEq] at hO
   exact ⟨hO.2.1.1.2.symm,hO.2.1.2.1.2.symm⟩
  have R2:=s9 hY (by simp;omega) hYu true
  rw [hO] at R2
  refine R2.Q ?_
  rintro r s3 ⟨rfl,rfl⟩
  simp only [↓vcPre,↓z0,↓reduceIte,vcPost,vcStd,Nat.reduceEqDiff,reduceCtorEq,Nat.reduceAdd,Nat.reduceLeDiff,Int.reduceLT,Int.reduceLE,↓u_setN]
  refine AllocQ.i0 fun p17 hp17 => ?_
  simp only [↓vcPre,↓z0,↓reduceIte,vcPost,vcStd,Nat.reduceEqDiff,reduceCtorEq,Nat.reduceAdd,Nat.reduceLeDiff,Int.reduceLT,Int.reduceLE,↓u_setN]
  refine AllocQ.i1 fun p18 h1817 h1718 hp18 => ?_
  simp only [h1817,h1718,zj,we,szn,↓vcPre,↓z0,↓reduceIte,vcPost,vcStd,Nat.reduceEqDiff,reduceCtorEq,Nat.reduceAdd,Nat.reduceLeDiff,Int.reduceLT,Int.reduceLE,↓u_setN]
  have sX:Store.sub s3 ((((s3.set p17 (.box zU)).set p18 (.box zN)).set p17 (.box A.c)).set p18 (.box [.int .i64 np,.int .i64 nq,.sl 1 (M.map cB)])):=z5 (z5 (zk hp17 hp18 h1817) hp17) hp18
  have X14:=sX _ _ W14
  have X18:((((s3.set p17 (.box zU)).set p18 (.box zN)).set p17 (.box A.c)).set p18 (.box [.int .i64 np,.int .i64 nq,.sl 1 (M.map cB)])) p18=some (.box [.int .i64 np,.int .i64 nq,.sl 1 (M.map cB)]):=Store.set_same _ _ _
  generalize ((((s3.set p17 (.box zU)).set p18 (.box zN)).set p17 (.box A.c)).set p18 (.box [.int .i64 np,.int .i64 nq,.sl 1 (M.map cB)]))=X at sX X14 X18 ⊢
  simp only [X14,↓vcPre,↓z0,↓reduceIte,vcPost,vcStd,Nat.reduceEqDiff,reduceCtorEq,Nat.reduceAdd,Nat.reduceLeDiff,Int.reduceLT,Int.reduceLE,↓u_setN]
  refine ⟨fun _=>⟨fun g1=>⟨fun g2=>⟨fun g3 => ?_,fun g3=>absurd (hsm (by omega)).2 g3⟩,fun g2=>absurd (hsm (by omega)).1 g2⟩,fun _ => ?_⟩,fun e=>absurd rfl e⟩
  all_goals
   refine c8.Q ?_
   simp only [↓vcPre,↓z0,↓reduceIte,vcPost,vcStd,Nat.reduceEqDiff,reduceCtorEq,Nat.reduceAdd,Nat.reduceLeDiff,Int.reduceLT,Int.reduceLE,↓u_setN]
   exact hr _ (Store.sub_trans sW sX)
theorem z4f (x:Raw9) (h:x.Ok) (more cut:Int) (hm:I64 more) (hc:I64 cut):Pur Tryz.prog 4 [.agg x.c,.int .i64 more,.int .i64 cut] (.bool true):=by
 refine zh Ts11.F4 (by simp [Ts11.F4,Fn.mkX]) fun σ => ?_
 simp only [Ts11.F4,Fn.mkX,Ts11.b4,yh,x8,w7]
 have e14:x.c.length=14:=rfl
 have t14:List.take 14 x.c=x.c:=rfl
 have t12:∀ u:Up,List.take 12 u.c=u.c:=fun _=>rfl
 have f0:∀ u:Up,List.take 1 u.c=[.sl 2 (u.w.map pxC)]:=fun _=>rfl
 have f1:∀ u:Up,List.take 1 (List.drop 1 u.c)=[.bool u.has]:=fun _=>rfl
 have f2:∀ u:Up,List.take 9 (List.drop 2 u.c)=u.a.c:=fun _=>rfl
 obtain ⟨ha,hae⟩:=xm x
 have hl:=vh x
 obtain ⟨hyu,hyl⟩:=z12 x
 obtain ⟨r1,u1⟩:=xw (madeP x.w x.wl)
 simp only [↓vcPre,↓z0,↓reduceIte,vcPost,vcStd,Nat.reduceEqDiff,reduceCtorEq,Nat.reduceAdd,Nat.reduceLeDiff,Int.reduceLT,Int.reduceLE,↓u_setN]
 refine AllocQ.i0 fun p1 hp1 => ?_
 simp only [e14,t14,Nat.le_refl,↓vcPre,↓z0,↓reduceIte,vcPost,vcStd,Nat.reduceEqDiff,reduceCtorEq,Nat.reduceAdd,Nat.reduceLeDiff,Int.reduceLT,Int.reduceLE,↓u_setN]
 refine (c6 x h).Q ?_
 simp only [↓vcPre,↓z0,↓reduceIte,vcPost,vcStd,Nat.reduceEqDiff,reduceCtorEq,Nat.reduceAdd,Nat.reduceLeDiff,Int.reduceLT,Int.reduceLE,↓u_setN]
 refine AllocQ.i1 fun p3 h31 h13 hp3 => ?_
 simp only [h31,h13,zj,we,↓vcPre,↓z0,↓reduceIte,vcPost,vcStd,Nat.reduceEqDiff,reduceCtorEq,Nat.reduceAdd,Nat.reduceLeDiff,Int.reduceLT,Int.reduceLE,↓u_setN]
 have sT:Store.sub σ (((σ.set p1 (.box x.c)).set p3 (.box zU)).set p3 (.box (right9U x).c)):=z5 (zk hp1 hp3 h31) hp3
 have T3:(((σ.set p1 (.box x.c)).set p3 (.box zU)).set p3 (.box (right9U x).c)) p3=some (.box (right9U x).c):=Store.set_same _ _ _
 generalize ((σ.set p1 (.box x.c)).set p3 (.box zU)).set p3 (.box (right9U x).c)=T at sT T3 ⊢
 simp only [T3,t12,zj,Nat.le_refl,↓vcPre,↓z0,↓reduceIte,vcPost,vcStd,Nat.reduceEqDiff,reduceCtorEq,Nat.reduceAdd,Nat.reduceLeDiff,Int.reduceLT,Int.reduceLE,↓u_setN]
 refine (c7 (right9U x) ha (by show (W9 x).length≤_;omega) (by show (N9 x).length≤_;omega) (fun e=>by have:=(hae e).2;omega)).Q ?_
 rw [z0j x h] at hyu hyl ⊢
 by_cases hbig:4077<4+(encN (W9 x)).length+(aOf (right9U x)).length+(encN (N9 x)).length
 ·rw [if_pos hbig]
  simp only [↓vcPre,↓z0,↓reduceIte,vcPost,vcStd,Nat.reduceEqDiff,reduceCtorEq,Nat.reduceAdd,Nat.reduceLeDiff,Int.reduceLT,Int.reduceLE,↓u_setN]
  refine ⟨fun _=>c8.Q ?_,fun e=>absurd e (by decide)⟩
  simp only [↓vcPre,↓z0,↓reduceIte,vcPost,vcStd,Nat.reduceEqDiff,reduceCtorEq,Nat.reduceAdd,Nat.reduceLeDiff,Int.reduceLT,Int.reduceLE,↓u_setN]
  exact sT
 rw [if_neg hbig] at hyu hyl ⊢
 simp only at hyu hyl
 have hcut:∀ k,k<4+(encN (W9 x)).length+(aOf (right9U x)).length→cutU ((joinU (encN (W9 x)) (aOf (right9U x)) (encN (N9 x))).take k)=none:=fun k hk=>z5p (by omega) (by omega) hk
 have hjl:4+(encN (W9 x)).length+(aOf (right9U x)).length≤(joinU (encN (W9 x)) (aOf (right9U x)) (encN (N9 x))).length:=by simp [joinU,u16];omega
 generalize joinU (encN (W9 x)) (aOf (right9U x)) (encN (N9 x))=B at hyu hyl hcut hjl ⊢
 have hw:(right9U x).w=W9 x:=rfl
 simp only [T3,f0,hw,zj,↓vcPre,↓z0,↓reduceIte,vcPost,vcStd,Nat.reduceEqDiff,reduceCtorEq,Nat.reduceAdd,Nat.reduceLeDiff,Int.reduceLT,Int.reduceLE,↓u_setN]
 refine (s11 (W9 x) (by omega) r1 T).Q ?_
 rintro r s ⟨hs,v,rfl,hv⟩
 have lv:pv .len [v]=some (.int .i64 ((encN (W9 x)).length:Int)):=by rw [(Rd.own hv).2];simp
 have w4:IntKind.i64.wrap (4+((encN (W9 x)).length:Int))=((4+(encN (W9 x)).length:Nat):Int):=by rw [z7 (by unfold I64;omega)];omega
 have S3:=hs _ _ T3
 have hhas:(right9U x).has=decide (N9 x≠[]):=rfl
 simp only [lv,S3,f1,w4,zj,↓vcPre,↓z0,↓reduceIte,vcPost,vcStd,Nat.reduceEqDiff,reduceCtorEq,Nat.reduceAdd,Nat.reduceLeDiff,Int.reduceLT,Int.reduceLE,↓u_setN]
 cases hd:(right9U x).has
 ·have ea:aOf (right9U x)=[]:=by unfold aOf;rw [hd];rfl
  rw [ea] at hcut hjl
  simp only [List.length_nil,Nat.add_zero] at hcut hjl
  simp only [↓vcPre,↓z0,↓reduceIte,vcPost,vcStd,Nat.reduceEqDiff,reduceCtorEq,Nat.reduceAdd,Nat.reduceLeDiff,Int.reduceLT,Int.reduceLE,↓u_setN]
  exact z42 hyl hyu hjl (by omega) hcut more cut hm hc _ (.inr rfl) (Store.sub_trans sT hs) fun t' ht'=>⟨rfl,ht'⟩
 ·have ea:aOf (right9U x)=encA (right9U x).a:=by unfold aOf;rw [hd];rfl
  rw [ea] at hcut hjl
  obtain ⟨he1,he2⟩:=hae hd
  simp only [S3,f2,zj,↓vcPre,↓z0,↓reduceIte,vcPost,vcStd,Nat.reduceEqDiff,reduceCtorEq,Nat.reduceAdd,Nat.reduceLeDiff,Int.reduceLT,Int.reduceLE,↓u_setN]
  refine (s12 (right9U x).a he1 s).Q ?_
  rintro y s3 ⟨hs3,hy⟩
  have ly:pv .len [y]=some (.int .i64 ((encA (right9U x).a).length:Int)):=by rw [(Rd.own hy).2];simp
  have wy:IntKind.i64.wrap (((4+(encN (W9 x)).length:Nat):Int)+((encA (right9U x).a).length:Int))=((4+(encN (W9 x)).length+(encA (right9U x).a).length:Nat):Int):=by rw [z7 (by unfold I64;omega)];omega
  simp only [ly,wy,↓vcPre,↓z0,↓reduceIte,vcPost,vcStd,Nat.reduceEqDiff,reduceCtorEq,Nat.reduceAdd,Nat.reduceLeDiff,Int.reduceLT,Int.reduceLE,↓u_setN]
  exact z42 (p:=0) (b:=true) hyl hyu hjl (by omega) hcut more cut hm hc _ (.inl rfl) (Store.sub_trans sT (Store.sub_trans hs hs3)) fun t' ht'=>⟨rfl,ht'⟩
end Go.Am
namespace Go.Am
theorem Sim.obj {G:Gh} {σ:Store} {w:World} (hs:Sim G σ w) {p:Nat} {o o':Obj} (hp:σ p=some o) (h:∀ b base,G.ρ p=some (b,base)→ORel G w b base o→ORel G w b base o') :
 Sim G (σ.set p o') w∧Ext G σ w G (σ.set p o') w:=by
 have hset:∀ i oi,(σ.set p o') i=some oi→∃ oj,σ i=some oj:=fun i oi h=>by
  by_cases hi:i=p
  ·subst hi;exact ⟨o,hp⟩
  ·rw [Store.set_ne _ _ hi] at h;exact ⟨oi,h⟩
 refine ⟨{ lt:=hs.lt,fin:=hs.fin,blk:=hs.blk,used := ?_,inj := ?_,apart := ?_ },{ Ext.refl G σ w with newOwn := ?_,newId := ?_ }⟩
 ·intro i oi hi
  by_cases e:i=p
  ·subst e
   rw [Store.set_same] at hi;cases hi
   obtain ⟨c,bi,h2,h3⟩:=hs.used i _ hp
   exact ⟨c,bi,h2,h c bi h2 h3⟩
  ·rw [Store.set_ne _ _ e] at hi;exact hs.used i oi hi
 ·intro i j oi oj b bi bj h1 h2
  obtain ⟨a1,k1⟩:=hset i oi h1
  obtain ⟨a2,k2⟩:=hset j oj h2
  exact hs.inj i j a1 a2 b bi bj k1 k2
 ·intro i oi b bi h1
  obtain ⟨a1,k1⟩:=hset i oi h1
  exact hs.apart i a1 b bi k1
 ·rintro c ⟨i,oi,bi,h1,h2⟩
  obtain ⟨a1,k1⟩:=hset i oi h1
  exact .inl ⟨i,a1,bi,k1,h2⟩
 ·intro i oi h1;exact .inl (hset i oi h1)
theorem WeakE.frz {e:Env} {σ:Store} {Q:Env→Store→Prop} (t:Nat) {id esz off len:Nat} {es:List (List AV)} (ht:e.get t=some (.os id esz off len)) (hσ:σ id=some (.arr esz es)) (hle:off+len≤es.length)
 (h:WeakE ((t,.sl esz ((es.drop off).take len))::e) (σ.del id) Q):WeakE e σ Q:=fun G w vs hs hv=>by
 obtain ⟨x,hx,hr⟩:=hv t _ ht
 obtain ⟨G',h1,h2,h3⟩:=v8 hs hσ hle hr
 obtain ⟨G2,e2,σ2,g1,g2,g3,g4⟩:=h G' w vs h2 (fun u v hu=>by
  simp only [Env.get] at hu
  split at hu
  ·rename_i he;subst he;cases hu;exact ⟨x,hx,h3⟩
  ·obtain ⟨y,hy,hyr⟩:=hv u v hu;exact ⟨y,hy,h1.vrel hs hyr⟩)
 exact ⟨G2,e2,σ2,h1.trans g1,g2,g3,g4⟩
theorem WeakE.pure {e:Env} {σ:Store} {Q:Env→Store→Prop} (h:Q e σ):WeakE e σ Q:=fun G w vs hs hv=>⟨G,e,σ,Ext.refl _ _ _,hs,hv,h⟩
theorem WeakE.slot {e:Env} {σ:Store} {Q:Env→Store→Prop} (t:Nat) {a b:AV} (ht:e.get t=some a) (hab:∀ G w v,VRel G w a v→VRel G w b v) (h:WeakE ((t,b)::e) σ Q):WeakE e σ Q:=fun G w vs hs hv=>by
 obtain ⟨x,hx,hr⟩:=hv t _ ht
 exact h G w vs hs (fun u v hu=>by
  simp only [Env.get] at hu
  split at hu
  ·rename_i he;subst he;cases hu;exact ⟨x,hx,hab _ _ _ hr⟩
  ·exact hv u v hu)
theorem z5b (esz:Nat) (G:Gh) (w:World) (v:Value) (h:VRel G w .nils v):VRel G w (.sl esz []) v:=by
 have e:=h.of_nils;subst e;exact .sl0
theorem WeakE.nil {e:Env} {σ:Store} {Q:Env→Store→Prop} (t esz:Nat) (ht:e.get t=some .nils) (h:WeakE ((t,.sl esz [])::e) σ Q):WeakE e σ Q := .slot t ht (fun G w v h=>z5b esz G w v h) h
theorem WeakE.own {e:Env} {τ σ:Store} {Q:Env→Store→Prop} (t:Nat) {esz:Nat} {L:List (List AV)} {v:AV} (ht:e.get t=some v) (ho:Own esz τ L v σ) (hs:Store.sub τ σ)
 (h:∀ σ',Store.sub τ σ'→Store.sub σ' σ→(∀ i o,σ i=some o→(∀ n,v ≠ .os i esz 0 n)→σ' i=some o)→WeakE ((t,.sl esz L)::e) σ' Q):WeakE e σ Q:=by
 rcases ho with ⟨rfl,rfl⟩ | ⟨g,rfl,h2,h3⟩
 ·exact .nil t esz ht (h σ hs (Store.sub_refl _) fun _ _ h _=>h)
 ·refine .frz t ht h3 (by omega) ?_
  rw [List.drop_zero,List.take_length]
  refine h _ (sub_del hs h2) (fun j o hj => ?_) fun i o hi hn => ?_
  ·simp only [Store.del] at hj;split at hj
   ·cases hj
   ·exact hj
  ·rw [Store.del_ne _ (fun e=>hn _ (by rw [e]))];exact hi
theorem WeakE.frzBox {e:Env} {σ:Store} {Q:Env→Store→Prop} (p k:Nat) {id esz off len:Nat} {es:List (List AV)} {cs:List AV} (hp:σ p=some (.box cs)) (hk:cs[k]? = some (.os id esz off len)) (hσ:σ id=some (.arr esz es)) (hle:off+len≤es.length)
 (h:WeakE e ((σ.del id).set p (.box (cs.set k (.sl esz ((es.drop off).take len))))) Q):WeakE e σ Q:=fun G w vs hs hv=>by
 have hne:¬ p=id:=fun e=>by subst e;rw [hp] at hσ;cases hσ
 obtain ⟨b,base,hb,ho⟩:=hs.used p _ hp
 obtain ⟨hk',hk2⟩:=List.getElem?_eq_some_iff.1 hk
 cases ho with
 | box hh hsz hf hvv =>
   rename_i ccs ty
   have h0:=hvv k hk'
   rw [hk2] at h0
   obtain ⟨G',h1,h2,h3⟩:=v8 hs hσ hle h0
   have hp':(σ.del id) p=some (.box cs):=by rw [Store.del_ne _ hne];exact hp
   obtain ⟨h4,h5⟩:=h2.obj (o' := .box (cs.set k (.sl esz ((es.drop off).take len)))) hp' (fun b' base' hb' ho'=>by
    have e1:=h1.ρ _ _ hb
    rw [hb'] at e1;cases e1
    refine .box hh (by rw [List.length_set];exact hsz) (fun c hc => ?_) (fun i hi => ?_)
    ·rcases List.mem_or_eq_of_mem_set hc with hc | rfl
     ·exact hf c hc
     ·rfl
    ·by_cases hik:i=k
     ·subst hik;rw [List.getElem_set_self];exact h3
     ·rw [List.getElem_set_ne (fun e=>hik e.symm)]
      exact h1.vrel hs (hvv i (by simpa using hi)))
   have hx:=h1.trans h5
   obtain ⟨G2,e2,σ2,g1,g2,g3,g4⟩:=h G' w vs h4 (fun u v hu=>by
    obtain ⟨y,hy,hyr⟩:=hv u v hu;exact ⟨y,hy,h1.vrel hs hyr⟩)
   exact ⟨G2,e2,σ2,hx.trans g1,g2,g3,g4⟩
theorem WeakE.cell {e:Env} {σ:Store} {Q:Env→Store→Prop} (p k:Nat) {a b:AV} {cs:List AV} (hp:σ p=some (.box cs)) (hk:cs[k]? = some a) (hab:∀ G w v,VRel G w a v→VRel G w b v) (hbf:b.flat=true)
 (h:WeakE e (σ.set p (.box (cs.set k b))) Q):WeakE e σ Q:=fun G w vs hs hv=>by
 obtain ⟨hk',hk2⟩:=List.getElem?_eq_some_iff.1 hk
 obtain ⟨h4,h5⟩:=hs.obj (o' := .box (cs.set k b)) hp (fun b' base' hb' ho'=>by
  cases ho' with
  | box hh hsz hf hvv =>
    refine .box hh (by rw [List.length_set];exact hsz) (fun c hc => ?_) (fun i hi => ?_)
    ·rcases List.mem_or_eq_of_mem_set hc with hc | rfl
     ·exact hf c hc
     ·exact hbf
    ·by_cases hik:i=k
     ·subst hik;rw [List.getElem_set_self];have:=hvv i hk';rw [hk2] at this;exact hab _ _ _ this
     ·rw [List.getElem_set_ne (fun e=>hik e.symm)]
      exact hvv i (by simpa using hi))
 obtain ⟨G2,e2,σ2,g1,g2,g3,g4⟩:=h G w vs h4 hv
 exact ⟨G2,e2,σ2,h5.trans g1,g2,g3,g4⟩
end Go.Am
namespace Go.Am
theorem WeakE.boxImp {e:Env} {σ:Store} {Q:Env→Store→Prop} (p:Nat) {cs cs':List AV} (hp:σ p=some (.box cs)) (hi:ImpL cs cs') (h:WeakE e (σ.set p (.box cs')) Q):WeakE e σ Q:=fun G w vs hs hv=>by
 have hl:=hi.length
 obtain ⟨h4,h5⟩:=hs.obj (o' := .box cs') hp (fun b' base' hb' ho'=>by
  cases ho' with
  | box hh hsz hf hvv =>
    refine .box hh (by rw [←hl];exact hsz) (fun c hc=>hi.flat c hc) (fun i hx => ?_)
    have hi':i<cs.length:=by rw [hl];exact hx
    obtain ⟨b,hb,hr⟩:=hi.get i _ (List.getElem?_eq_getElem hi')
    rw [List.getElem?_eq_getElem hx] at hb;cases hb
    exact hr.2 _ _ _ (hvv i hi'))
 obtain ⟨G2,e2,σ2,g1,g2,g3,g4⟩:=h G w vs h4 hv
 exact ⟨G2,e2,σ2,h5.trans g1,g2,g3,g4⟩
theorem WeakE.ownBox {e:Env} {τ σ:Store} {Q:Env→Store→Prop} (p k:Nat) {esz:Nat} {L:List (List AV)} {v:AV} {cs:List AV} (hp:σ p=some (.box cs)) (hk:cs[k]? = some v) (ho:Own esz τ L v σ) (hs:Store.sub τ σ) (hτ:τ p=none)
 (h:∀ σ',Store.sub τ σ'→σ' p=some (.box (cs.set k (.sl esz L)))→(∀ i o,σ i=some o→i≠p→(∀ n,v ≠ .os i esz 0 n)→σ' i=some o)→WeakE e σ' Q):WeakE e σ Q:=by
 rcases ho with ⟨rfl,rfl⟩ | ⟨g,rfl,h2,h3⟩
 ·exact .cell p k hp hk (fun G w v h=>z5b esz G w v h) rfl (h _ (z5 hs hτ) (Store.set_same _ _ _) fun i o hi hn _=>by rw [Store.set_ne _ _ hn];exact hi)
 ·refine .frzBox p k hp hk h3 (by omega) ?_
  rw [List.drop_zero,List.take_length]
  refine h _ (z5 (sub_del hs h2) hτ) (Store.set_same _ _ _) fun i o hi hn hv => ?_
  rw [Store.set_ne _ _ hn,Store.del_ne _ (fun e=>hv _ (by rw [e]))];exact hi
end Go.Am
namespace Go.Am.Ts12
open Go.Proofs Go.Am.B
def t5_35:BC := .seq (.wk 9 (.ops [⟨some 35,none,.load (.ld 12 true),[.t 5]⟩,g 36 7 [.t 35],m 34 36,e 37 0 34,e 38 1 34,m 7 37,m 8 38] [5,7,8])) (z [m 40 7,g 41 9 [.t 40,.c (.bool false)],m 39 41,e 42 0 39,e 43 1 39,⟨some 9,none,.alloc (.alloc [.nils,(.bool false),(.int .i64 0),.nils,(.int .u32 0),(.bool false),(.int .u32 0),(.bool false),(.int .u32 0),(.bool false),.nils,.nils]),[]⟩,⟨some 10,none,.alloc (.alloc [(.int .i64 0),(.int .i64 0),.nils]),[]⟩,s 12 9 42,s 3 10 43] [5,8,9,10] (z [m 44 8,c 45 .eql 44 0,m 46 45,⟨some 47,some (46,true),.pure (.fld 0),[.t 10]⟩,⟨some 48,some (46,true),.load (.ld 1 false),[.t 47]⟩,⟨some 49,some (46,true),.pure (.bin .eql),[.t 48,.c (.int .i64 0)]⟩,⟨some 50,none,.pick,[.t 46,.t 49,.c (.bool false)]⟩,m 51 50,⟨some 52,some (51,true),.pure (.fld 0),[.t 9]⟩,⟨some 53,some (51,true),.load (.ld 1 false),[.t 52]⟩,⟨some 54,some (51,true),.pure (.fld 0),[.t 5]⟩,⟨some 55,some (51,true),.load (.ld 1 false),[.t 54]⟩,⟨some 56,some (51,true),.loud (.call 14),[.t 53,.t 55]⟩,⟨some 57,none,.pick,[.t 51,.t 56,.c (.bool false)]⟩,m 58 57,⟨some 59,some (58,true),.pure (.fld 11),[.t 9]⟩,⟨some 60,some (58,true),.load (.ld 1 false),[.t 59]⟩,⟨some 61,some (58,true),.pure (.fld 11),[.t 5]⟩,⟨some 62,some (58,true),.load (.ld 1 false),[.t 61]⟩,⟨some 63,some (58,true),.loud (.call 14),[.t 60,.t 62]⟩,⟨some 64,none,.pick,[.t 58,.t 63,.c (.bool false)]⟩,m 65 64,⟨some 66,some (65,true),.pure (.fld 1),[.t 9]⟩,⟨some 67,some (65,true),.load (.ld 1 false),[.t 66]⟩,⟨some 68,none,.pick,[.t 65,.t 67,.c (.bool false)]⟩,m 69 68,⟨some 70,some (69,true),.loud (.call 8),[]⟩,⟨some 71,none,.pick,[.t 69,.t 70,.c (.bool false)]⟩,m 4 71] [4] .ret))
def b5:BC:=z [⟨some 2,none,.alloc (.box),[.t 0]⟩,k 4 (.bool false)] [1,2] (z [⟨some 11,none,.load (.ld 14 true),[.t 2]⟩,g 12 6 [.t 11],⟨some 5,none,.alloc (.alloc [.nils,(.bool false),(.int .i64 0),.nils,(.int .u32 0),(.bool false),(.int .u32 0),(.bool false),(.int .u32 0),(.bool false),.nils,.nils]),[]⟩,s 12 5 12] [1,5] (.seq (z [f 13 1 5,l 14 1 13,u 15 .not 14] [1,5,15] (.cond (.t 15) (z [g 16 8 [],m 4 16] [4] .ret) .skip)) (z [⟨some 17,none,.alloc (.mksl 2 0),[]⟩,f 18 11 5,l 19 1 18,⟨some 20,none,.loud (.app 2 16),[.t 17,.t 19]⟩,f 21 0 5,s 1 21 20] [1,5] (.seq (.seq (.wk 5 (.ops [m 22 1,g 23 13 [.t 22,.c (.int .i64 0),.c (.int .i64 3)],m 6 23] [5,6])) (.block 0 (.loop [5,6] (.seq (z [m 24 6,c 25 .gtr 24 0] [5,6,25] (.cond (.t 25) .skip (.exit 0))) (.seq (.block 1 (.ops [f 28 11 5,l 29 1 28,f 30 0 5,l 31 1 30,⟨some 32,none,.loud (.app 2 16),[.t 29,.t 31]⟩,f 33 11 5,s 1 33 32] [5,6])) (.ops [m 26 6,c 27 .sub 26 1,m 6 27] [5,6])))))) t5_35))))
def F5:Fn Tryz.prog 5:=Fn.mkW false [5,9] b5 [.t 4] 72 Tryz.f5 _ Tryz.func5 (by decide) rfl Tryz.ntmps5 (by kernel_rfl) (by kernel_rfl)
end Go.Am.Ts12
namespace Go.Am
open Go.Proofs Go.Sort
theorem zab (u:Up) (r1:Rights u.w) (u1:U32p u.w) (r2:Rights u.n) (u2:U32p u.n) (hr:atRight u.a) (hn:okNums u.a) (e:u.n≠[]) (l1:(encN u.w).length<65536) (l2:(encA u.a).length<65536) (inner:Bool):decU inner (joinU (encN u.w) (encA u.a) (encN u.n)) =
 if inner && !u.a.hp then .error (3,[5]) else .ok ⟨u.w,true,outA inner u.a,u.n⟩:=by
 have hc:=z25 (w:=encN u.w) (a:=encA u.a) (r:=encN u.n) l1 l2
 have d1:dN (encN u.w)=some u.w:=qj _ r1 u1
 have d2:dN (encN u.n)=some u.n:=qj _ r2 u2
 unfold decU joinU
 rw [hc]
 simp only [d1,d2,z4x hr hn inner,z0g]
 rw [if_neg e]
 cases hb:(inner && !u.a.hp) <;> simp
theorem z8o (u:Up) (r1:Rights u.w) (u1:U32p u.w) (r2:Rights u.n) (u2:U32p u.n) (hr:atRight u.a) (hn:okNums u.a) (e:u.n≠[]) (l1:(encN u.w).length<65536) (l2:(encA u.a).length<65536):decU false (joinU (encN u.w) (encA u.a) (encN u.n)) = .ok ⟨u.w,true,outA false u.a,u.n⟩:=by
 rw [zab u r1 u1 r2 u2 hr hn e l1 l2 false];rfl
def timesL (N:List (Int×Int)):Nat→List (Int×Int)
 | 0=>N
 | k+1=>timesL N k++N
theorem z2r (N:List (Int×Int)) (k:Nat):(timesL N k).length=(k+1)*N.length:=by
 induction k with
 | zero=>simp [timesL]
 | succ k ih=>simp only [timesL,List.length_append,ih];rw [Nat.add_mul (k+1),Nat.one_mul]
theorem z2q {p:Int×Int→Prop} {N:List (Int×Int)} (h:∀ x ∈ N,p x) (k:Nat):∀ x ∈ timesL N k,p x:=by
 induction k with
 | zero=>exact h
 | succ k ih=>intro x hx;rcases List.mem_append.1 hx with hx | hx;exact ih x hx;exact h x hx
theorem z45 {N:List (Int×Int)} (h:N≠[]) (k:Nat):timesL N k≠[]:=by
 induction k with
 | zero=>exact h
 | succ k ih=>simp [timesL,ih]
def bothU (x:Raw9) (k:Nat):Up:=⟨N9 x,true,A9 x,timesL (N9 x) k⟩
set_option maxHeartbeats 400000 in
theorem z9i {x:Raw9} (hx:x.Ok) (hne:N9 x≠[]) (k:Nat) (hk:k≤3) {T σ τ:Store} {p:Nat} {nv:AV} {cs:List AV} (Tp:T p=some (.box cs)) (hcs:cs = .sl 2 ((N9 x).map pxC) :: .bool true::((A9 x).c++[nv])) (ho:Own 2 τ ((timesL (N9 x) k).map pxC) nv T) (hτ:Store.sub τ T) (hτp:τ p=none) (hs:Store.sub σ τ) (E:List (Nat×AV))
 {n rr:Env→Store→Prop} {xx:Nat→Env→Store→Prop} (hr:∀ t',Store.sub σ t'→rr [(4,.bool true)] t'):bwp Tryz.prog Ts12.t5_35 ((5,.ptr p 0)::E) T n rr xx:=by
 simp only [Ts12.t5_35,yh,x8]
 have szn:∀ x y z:AV,splice 0 [x,y,z] zN=some [x,y,z]:=fun _ _ _=>rfl
 have t12:∀ u:Up,List.take 12 u.c=u.c:=fun _=>rfl
 have f0:∀ u:Up,List.take 1 u.c=[.sl 2 (u.w.map pxC)]:=fun _=>rfl
 have f1:∀ u:Up,List.take 1 (List.drop 1 u.c)=[.bool u.has]:=fun _=>rfl
 have f11:∀ u:Up,List.take 1 (List.drop 11 u.c)=[.sl 2 (u.n.map pxC)]:=fun _=>rfl
 simp only [↓vcPre,↓z0,↓reduceIte,vcPost,vcStd,Nat.reduceEqDiff,reduceCtorEq,Nat.reduceAdd,Nat.reduceLeDiff,Int.reduceLT,Int.reduceLE,↓u_setN]
 refine WkQ.of (WeakE.ownBox p 11 Tp (by rw [hcs];rfl) ho hτ hτp fun U hU hUp _=>WeakE.pure ?_)
 have hUp:U p=some (.box (bothU x k).c):=by rw [hUp,hcs];rfl
 have sU:Store.sub σ U:=Store.sub_trans hs hU
 obtain ⟨hr9,hn9⟩:=uf hx.num
 rw [←z2z x hne] at hr9 hn9
 obtain ⟨ha,hae⟩:=xm x
 obtain ⟨hae1,hae2⟩:=hae (by show decide (N9 x≠[])=true;simp [hne])
 have hl:=vh x
 obtain ⟨r2,u2⟩:=xw (madeP x.n x.nl)
 have hR:Rights (N9 x):=r2
 have hU2:U32p (N9 x):=u2
 have hRk:Rights (timesL (N9 x) k):=z2q hR k
 have hUk:U32p (timesL (N9 x) k):=z2q hU2 k
 have htl:=z2r (N9 x) k
 have htl2:(timesL (N9 x) k).length≤80:=by rw [htl];calc (k+1)*(N9 x).length≤4*20:=Nat.mul_le_mul (by omega) hl.2
  _=80:=rfl
 have l1:=xl _ hR
 have l2:=xl _ hRk
 have hpos:0<(timesL (N9 x) k).length:=List.length_pos_iff.2 (z45 hne k)
 have hrt:rightU (bothU x k)=true:=by
  have a1:((N9 x).all fun p=>rightF p.1 p.2)=true:=List.all_eq_true.2 fun p hp=>hR p hp
  have a2:((timesL (N9 x) k).all fun p=>rightF p.1 p.2)=true:=List.all_eq_true.2 fun p hp=>hRk p hp
  show ((N9 x).all _ && ((timesL (N9 x) k).all _ && (decide (true=decide (0<(timesL (N9 x) k).length)) && if true=true then decide (atRight (A9 x)) else zAt (A9 x))))=true
  rw [a1,a2,decide_eq_true hpos]
  simp [hr9]
 have hen:encU9 (bothU x k)=(joinU (encN (N9 x)) (encA (A9 x)) (encN (timesL (N9 x) k)),0):=by
  unfold encU9
  rw [if_pos hrt,if_neg ?_]
  ·rfl
  ·show ¬ 4077<4+(encN (N9 x)).length+(encA (A9 x)).length+(encN (timesL (N9 x) k)).length
   have:(encA (A9 x)).length≤1000:=hae2
   omega
 simp only [hUp,t12,zj,Nat.le_refl,↓vcPre,↓z0,↓reduceIte,vcPost,vcStd,Nat.reduceEqDiff,reduceCtorEq,Nat.reduceAdd,Nat.reduceLeDiff,Int.reduceLT,Int.reduceLE,↓u_setN]
 refine (c7 (bothU x k) ha (by show (N9 x).length≤_;omega) (by show (timesL (N9 x) k).length≤_;omega) (fun e=>by show (encA (A9 x)).length≤_;have:(encA (A9 x)).length≤1000:=hae2;omega)).Q ?_
 rw [hen]
 have hjl:(joinU (encN (N9 x)) (encA (A9 x)) (encN (timesL (N9 x) k))).length≤10000:=by
  have:(encA (A9 x)).length≤1000:=hae2
  simp only [joinU,u16,List.length_append,List.length_cons,List.length_nil];omega
 have hju:U8s (joinU (encN (N9 x)) (encA (A9 x)) (encN (timesL (N9 x) k))):=(((z1m _).append (z03 hR)).append ((z1m _).append (z4y _))).append (z03 hRk)
 have hde:=z8o (bothU x k) hR hU2 hRk hUk hr9 hn9 (z45 hne k) (by show (encN (N9 x)).length<_;omega) (by have:(encA (A9 x)).length≤1000:=hae2;show (encA (A9 x)).length<_;omega)
 change decU false (joinU (encN (N9 x)) (encA (A9 x)) (encN (timesL (N9 x) k)))=_ at hde
 generalize joinU (encN (N9 x)) (encA (A9 x)) (encN (timesL (N9 x) k))=B at hjl hju hde ⊢
 simp only [↓vcPre,↓z0,↓reduceIte,vcPost,vcStd,Nat.reduceEqDiff,reduceCtorEq,Nat.reduceAdd,Nat.reduceLeDiff,Int.reduceLT,Int.reduceLE,↓u_setN]
 have R1:=s9 (σ:=U) (B:=B) Rd.sl (by omega) hju false
 rw [hde] at R1
 refine R1.Q ?_
 rintro r s ⟨rfl,rfl⟩
 simp only [outU]
 simp only [↓vcPre,↓z0,↓reduceIte,vcPost,vcStd,Nat.reduceEqDiff,reduceCtorEq,Nat.reduceAdd,Nat.reduceLeDiff,Int.reduceLT,Int.reduceLE,↓u_setN]
 refine AllocQ.i0 fun p9 hp9 => ?_
 simp only [↓vcPre,↓z0,↓reduceIte,vcPost,vcStd,Nat.reduceEqDiff,reduceCtorEq,Nat.reduceAdd,Nat.reduceLeDiff,Int.reduceLT,Int.reduceLE,↓u_setN]
 refine AllocQ.i1 fun p10 h109 h910 hp10 => ?_
 simp only [h109,h910,zj,we,szn,↓vcPre,↓z0,↓reduceIte,vcPost,vcStd,Nat.reduceEqDiff,reduceCtorEq,Nat.reduceAdd,Nat.reduceLeDiff,Int.reduceLT,Int.reduceLE,↓u_setN]
 have sX:Store.sub s ((((s.set p9 (.box zU)).set p10 (.box zN)).set p9 (.box (⟨(bothU x k).w,true,outA false (bothU x k).a,(bothU x k).n⟩:Up).c)).set p10 (.box [.int .i64 0,.int .i64 0,.sl 1 []])):=z5 (z5 (zk hp9 hp10 h109) hp9) hp10
 have Xp:=sX _ _ hUp
 have X9:((((s.set p9 (.box zU)).set p10 (.box zN)).set p9 (.box (⟨(bothU x k).w,true,outA false (bothU x k).a,(bothU x k).n⟩:Up).c)).set p10 (.box [.int .i64 0,.int .i64 0,.sl 1 []])) p9=some (.box (⟨(bothU x k).w,true,outA false (bothU x k).a,(bothU x k).n⟩:Up).c):=by rw [Store.set_ne _ _ h910];exact Store.set_same _ _ _
 generalize ((((s.set p9 (.box zU)).set p10 (.box zN)).set p9 (.box (⟨(bothU x k).w,true,outA false (bothU x k).a,(bothU x k).n⟩:Up).c)).set p10 (.box [.int .i64 0,.int .i64 0,.sl 1 []]))=X at sX Xp X9 ⊢
 simp only [Xp,X9,f0,f1,f11,zj,↓vcPre,↓z0,↓reduceIte,vcPost,vcStd,Nat.reduceEqDiff,reduceCtorEq,Nat.reduceAdd,Nat.reduceLeDiff,Int.reduceLT,Int.reduceLE,↓u_setN]
 have hw1:(bothU x k).w.length≤1000000:=by show (N9 x).length≤_;omega
 have hw2:(bothU x k).n.length≤1000000:=by show (timesL (N9 x) k).length≤_;omega
 refine (z6b (σ:=X) (l:=(bothU x k).w) (m:=(bothU x k).w) Rd.sl Rd.sl hw1 hw1).Q ?_
 rintro q s2 ⟨rfl,rfl⟩
 rw [decide_eq_true rfl]
 simp only [Xp,X9,f0,f1,f11,zj,↓vcPre,↓z0,↓reduceIte,vcPost,vcStd,Nat.reduceEqDiff,reduceCtorEq,Nat.reduceAdd,Nat.reduceLeDiff,Int.reduceLT,Int.reduceLE,↓u_setN]
 refine (z6b (σ:=s2) (l:=(bothU x k).n) (m:=(bothU x k).n) Rd.sl Rd.sl hw2 hw2).Q ?_
 rintro q s3 ⟨rfl,rfl⟩
 rw [decide_eq_true rfl]
 simp only [Xp,X9,f0,f1,f11,zj,↓vcPre,↓z0,↓reduceIte,vcPost,vcStd,Nat.reduceEqDiff,reduceCtorEq,Nat.reduceAdd,Nat.reduceLeDiff,Int.reduceLT,Int.reduceLE,↓u_setN]
 refine c8.Q ?_
 simp only [↓vcPre,↓z0,↓reduceIte,vcPost,vcStd,Nat.reduceEqDiff,reduceCtorEq,Nat.reduceAdd,Nat.reduceLeDiff,Int.reduceLT,Int.reduceLE,↓u_setN]
 exact hr _ (Store.sub_trans sU sX)
theorem z94 (x:Raw9) (h:x.Ok) (times:Int) (ht:I64 times):Pur Tryz.prog 5 [.agg x.c,.int .i64 times] (.bool true):=by
 refine zh Ts12.F5 (by simp [Ts12.F5,Fn.mkW]) fun σ => ?_
 simp only [Ts12.F5,Fn.mkW,Ts12.b5,yh,x8,w7]
 have e14:x.c.length=14:=rfl
 have t14:List.take 14 x.c=x.c:=rfl
 simp only [↓vcPre,↓z0,↓reduceIte,vcPost,vcStd,Nat.reduceEqDiff,reduceCtorEq,Nat.reduceAdd,Nat.reduceLeDiff,Int.reduceLT,Int.reduceLE,↓u_setN]
 refine AllocQ.i0 fun p1 hp1 => ?_
 simp only [e14,t14,Nat.le_refl,↓vcPre,↓z0,↓reduceIte,vcPost,vcStd,Nat.reduceEqDiff,reduceCtorEq,Nat.reduceAdd,Nat.reduceLeDiff,Int.reduceLT,Int.reduceLE,↓u_setN]
 have s1:=Store.sub_set σ p1 (.box x.c) hp1
 generalize σ.set p1 (.box x.c)=S at s1 ⊢
 refine (so6 x h.w h.n h.wl h.nl h.org h.wl2 h.nl2 S).Q ?_
 rintro r T ⟨wv,nv,ac,rfl,hac,hST,hW,hN,hap⟩
 simp only [↓vcPre,↓z0,↓reduceIte,vcPost,vcStd,Nat.reduceEqDiff,reduceCtorEq,Nat.reduceAdd,Nat.reduceLeDiff,Int.reduceLT,Int.reduceLE,↓u_setN]
 refine AllocQ.i0 fun p hp => ?_
 obtain ⟨y0,y1,y2,y3,y4,y5,y6,y7,y8,rfl⟩:∃ y0 y1 y2 y3 y4 y5 y6 y7 y8,ac=[y0,y1,y2,y3,y4,y5,y6,y7,y8]:=by
  have hl9:ac.length=9:=hac.length
  match ac,hl9 with
  | [y0,y1,y2,y3,y4,y5,y6,y7,y8],_=>exact ⟨y0,y1,y2,y3,y4,y5,y6,y7,y8,rfl⟩
 have spw:∀ b:Bool,splice 0 [wv,.bool b,y0,y1,y2,y3,y4,y5,y6,y7,y8,nv] zU=some [wv,.bool b,y0,y1,y2,y3,y4,y5,y6,y7,y8,nv]:=fun _=>rfl
 have hSp:S p=none:=zi hST hp
 simp only [spw,↓vcPre,↓z0,↓reduceIte,vcPost,vcStd,Nat.reduceEqDiff,reduceCtorEq,Nat.reduceAdd,Nat.reduceLeDiff,Int.reduceLT,Int.reduceLE,↓u_setN]
 have U0:∀ b:Bool,((T.set p (.box zU)).set p (.box [wv,.bool b,y0,y1,y2,y3,y4,y5,y6,y7,y8,nv])) p=some (.box [wv,.bool b,y0,y1,y2,y3,y4,y5,y6,y7,y8,nv]):=fun _=>Store.set_same _ _ _
 have sU:∀ b:Bool,Store.sub S ((T.set p (.box zU)).set p (.box [wv,.bool b,y0,y1,y2,y3,y4,y5,y6,y7,y8,nv])):=fun _=>z5 (z5 hST hSp) hSp
 refine ⟨fun e => ?_,fun hne => ?_⟩
 ·refine c8.Q ?_
  simp only [↓vcPre,↓z0,↓reduceIte,vcPost,vcStd,Nat.reduceEqDiff,reduceCtorEq,Nat.reduceAdd,Nat.reduceLeDiff,Int.reduceLT,Int.reduceLE,↓u_setN]
  exact Store.sub_trans s1 (sU _)
 have hd:decide (N9 x≠[])=true:=by simp [hne]
 rw [hd]
 have U0:=U0 true
 have sU:=sU true
 have hN:Own 2 S ((N9 x).map pxC) nv ((T.set p (.box zU)).set p (.box [wv,.bool true,y0,y1,y2,y3,y4,y5,y6,y7,y8,nv])):=by
  have h1:=hN.mono (Store.sub_set T p (.box zU) hp)
  exact h1.setId (Store.set_same _ _ _) (fun M e=>by cases e)
 generalize (T.set p (.box zU)).set p (.box [wv,.bool true,y0,y1,y2,y3,y4,y5,y6,y7,y8,nv])=U at U0 sU hN ⊢
 refine AllocQ.i0 fun d hd => ?_
 have sd:=Store.sub_set U d (.arr 2 []) hd
 simp only [sd _ _ U0,↓vcPre,↓z0,↓reduceIte,vcPost,vcStd,Nat.reduceEqDiff,reduceCtorEq,Nat.reduceAdd,Nat.reduceLeDiff,Int.reduceLT,Int.reduceLE,↓u_setN]
 have hl:=vh x
 refine Own.appM (bytes:=16) (τ:=U) sd (Own.new (L:=[]) hd) ((Rd.own hN).1 _ sd) (by simp;omega) fun v1 V hV h1 => ?_
 rw [List.nil_append] at h1
 have Vp:=hV _ _ U0
 have spv:splice 0 [v1] [wv,.bool true,y0,y1,y2,y3,y4,y5,y6,y7,y8,nv]=some [v1,.bool true,y0,y1,y2,y3,y4,y5,y6,y7,y8,nv]:=rfl
 simp only [Vp,h1.cell.1,h1.cell.2,spv,↓vcPre,↓z0,↓reduceIte,vcPost,vcStd,Nat.reduceEqDiff,reduceCtorEq,Nat.reduceAdd,Nat.reduceLeDiff,Int.reduceLT,Int.reduceLE,↓u_setN]
 have hσp:σ p=none:=zi s1 hSp
 have W0:(V.set p (.box [v1,.bool true,y0,y1,y2,y3,y4,y5,y6,y7,y8,nv])) p=some (.box [v1,.bool true,y0,y1,y2,y3,y4,y5,y6,y7,y8,nv]):=Store.set_same _ _ _
 have sW:Store.sub S (V.set p (.box [v1,.bool true,y0,y1,y2,y3,y4,y5,y6,y7,y8,nv])):=z5 (Store.sub_trans sU hV) hSp
 have hN':=hN
 have h1':=h1
 have hN:Own 2 S ((N9 x).map pxC) nv (V.set p (.box [v1,.bool true,y0,y1,y2,y3,y4,y5,y6,y7,y8,nv])):=(hN.mono hV).setId Vp (fun M e=>by cases e)
 have h1:Own 2 S ((N9 x).map pxC) v1 (V.set p (.box [v1,.bool true,y0,y1,y2,y3,y4,y5,y6,y7,y8,nv])):=(h1.weak sU).setId Vp (fun M e=>by cases e)
 have hvn:∀ g n m,v1 = .os g 2 0 n→nv ≠ .os g 2 0 m:=fun g n m e e2=>by
  rcases h1' with ⟨_,e3⟩ | ⟨g1,e3,k1,_⟩
  ·rw [e3] at e;cases e
  ·rcases hN' with ⟨_,e4⟩ | ⟨g2,e4,k2,k3⟩
   ·rw [e4] at e2;cases e2
   ·rw [e3] at e;rw [e4] at e2;cases e;cases e2;rw [k1] at k3;cases k3
 generalize V.set p (.box [v1,.bool true,y0,y1,y2,y3,y4,y5,y6,y7,y8,nv])=W at W0 sW hN h1 ⊢
 have hnf:nv.flat=true:=by rcases hN with ⟨_,e⟩ | ⟨_,e,_⟩ <;> rw [e] <;> rfl
 refine WkQ.of (WeakE.ownBox p 0 W0 rfl h1 sW hSp fun X hX X0 hk=>WeakE.boxImp p X0 (cs' := .sl 2 ((N9 x).map pxC) :: .bool true::((A9 x).c++[nv])) (.cons (.refl rfl) (.cons (.refl rfl) (hac.append (.cons (.refl hnf) .nil)))) (WeakE.pure ?_))
 have hNX:Own 2 S ((N9 x).map pxC) nv (X.set p (.box (.sl 2 ((N9 x).map pxC) :: .bool true::((A9 x).c++[nv])))):=by
  refine Own.setId ?_ X0 (fun M e=>by cases e)
  rcases hN with h2 | ⟨g2,e4,k2,k3⟩
  ·exact .inl h2
  ·refine .inr ⟨g2,e4,k2,hk _ _ k3 (fun e => ?_) fun n e=>hvn g2 n _ e e4⟩
   subst e;rw [W0] at k3;cases k3
 have hXS:Store.sub S (X.set p (.box (.sl 2 ((N9 x).map pxC) :: .bool true::((A9 x).c++[nv])))):=z5 hX hSp
 have hXp:(X.set p (.box (.sl 2 ((N9 x).map pxC) :: .bool true::((A9 x).c++[nv])))) p=some (.box (.sl 2 ((N9 x).map pxC) :: .bool true::((A9 x).c++[nv]))):=Store.set_same _ _ _
 generalize X.set p (.box (.sl 2 ((N9 x).map pxC) :: .bool true::((A9 x).c++[nv])))=Z at hNX hXS hXp ⊢
 obtain ⟨m,hm1,hm2⟩:∃ m:Nat,(0:Int)+times % ((3:Int) - 0+1)=m∧m≤3:=by
  have h1:=Int.emod_nonneg times (b:=(3:Int) - 0+1) (by omega)
  have h2:=Int.emod_lt_of_pos times (b:=(3:Int) - 0+1) (by omega)
  exact ⟨(times % ((3:Int) - 0+1)).toNat,by omega,by omega⟩
 have hwm:=c13 times 0 3 ht (by omega) (by omega) (by omega)
 rw [hm1] at hwm
 simp only [↓vcPre,↓z0,↓reduceIte,vcPost,vcStd,Nat.reduceEqDiff,reduceCtorEq,Nat.reduceAdd,Nat.reduceLeDiff,Int.reduceLT,Int.reduceLE,↓u_setN]
 refine hwm.Q ?_
 simp only [↓vcPre,↓z0,↓reduceIte,vcPost,vcStd,Nat.reduceEqDiff,reduceCtorEq,Nat.reduceAdd,Nat.reduceLeDiff,Int.reduceLT,Int.reduceLE,↓u_setN]
 have g11:∀ v:AV,(AV.sl 2 ((N9 x).map pxC)::AV.bool true::((A9 x).c++[v])).length=12:=fun _=>rfl
 have g1:∀ v:AV,List.take 1 (List.drop 9 ((A9 x).c++[v]))=[v]:=fun _=>rfl
 have s11:∀ v w:AV,splice 11 [w] (AV.sl 2 ((N9 x).map pxC)::AV.bool true::((A9 x).c++[v]))=some (AV.sl 2 ((N9 x).map pxC)::AV.bool true::((A9 x).c++[w])):=fun _ _=>rfl
 have g0:∀ v:AV,List.take 1 (AV.sl 2 ((N9 x).map pxC)::AV.bool true::((A9 x).c++[v]))=[AV.sl 2 ((N9 x).map pxC)]:=fun _=>rfl
 refine LoopQ.inv (S:=Nat×AV×Store) (fun q=>[(5,.ptr p 0),(6,.int .i64 ((m:Int) - (q.1:Int)))]) (fun q=>q.2.2) (fun q=>q.1≤m∧Store.sub S q.2.2∧q.2.2 p=some (.box (.sl 2 ((N9 x).map pxC) :: .bool true::((A9 x).c++[q.2.1])))∧Own 2 S ((timesL (N9 x) q.1).map pxC) q.2.1 q.2.2) (fun q=>m+1 - q.1) (0,nv,Z) (by simp) (Store.sub_refl _) ⟨by simp,hXS,hXp,hNX⟩ ?_
 rintro ⟨j,v,s⟩ ⟨i1,i2,i3,i4⟩
 simp only at i1 i2 i3 i4
 simp only [↓vcPre,↓z0,↓reduceIte,vcPost,vcStd,Nat.reduceEqDiff,reduceCtorEq,Nat.reduceAdd,Nat.reduceLeDiff,Int.reduceLT,Int.reduceLE,↓u_setN]
 refine ⟨fun c1 => ?_,fun c1 => ?_⟩
 ·have ej:IntKind.i64.wrap ((m:Int) - (j:Int) - 1)=(m:Int) - ((j+1:Nat):Int):=by rw [z7 (by unfold I64;omega)];omega
  have htl:=z2r (N9 x) j
  have htl2:(timesL (N9 x) j).length≤80:=by rw [htl];calc (j+1)*(N9 x).length≤4*20:=Nat.mul_le_mul (by omega) hl.2
   _=80:=rfl
  simp only [i3,g11,g1,g0,↓vcPre,↓z0,↓reduceIte,vcPost,vcStd,Nat.reduceEqDiff,reduceCtorEq,Nat.reduceAdd,Nat.reduceLeDiff,Int.reduceLT,Int.reduceLE,↓u_setN]
  refine Own.appK (bytes:=16) (ys:=(N9 x).map pxC) i2 i4 vp (by simp only [List.length_map];omega) fun v' s' hs' ho' hk' => ?_
  have hp':=hk' _ _ i3 (fun M e=>by cases e)
  simp only [hp',s11,ho'.cell.1,ho'.cell.2,ej,↓vcPre,↓z0,↓reduceIte,vcPost,vcStd,Nat.reduceEqDiff,reduceCtorEq,Nat.reduceAdd,Nat.reduceLeDiff,Int.reduceLT,Int.reduceLE,↓u_setN]
  refine NextQ.to (j+1,v',s'.set p (.box (.sl 2 ((N9 x).map pxC) :: .bool true::((A9 x).c++[v'])))) rfl (Store.sub_refl _) (by simp only;omega) ⟨by simp only;omega,z5 hs' hSp,Store.set_same _ _ _,?_⟩
  have:(timesL (N9 x) (j+1)).map pxC=(timesL (N9 x) j).map pxC++(N9 x).map pxC:=by rw [←List.map_append];rfl
  simp only
  rw [this]
  exact ho'.setId hp' (fun M e=>by cases e)
 ·have:j=m:=by omega
  subst this
  exact z9i h hne j hm2 i3 rfl i4 i2 hSp s1 _ fun t' ht'=>⟨rfl,ht'⟩
end Go.Am
namespace Go.Am
open Go.Proofs
theorem zgl (x:Raw9) (h:x.Ok):Pur Tryz.prog 3 [.agg x.c] (.bool true):=z93 x h
theorem zcx (x:Raw9) (h:x.Ok) (more:Int) (hm:I64 more) (cut:Int) (hc:I64 cut):Pur Tryz.prog 4 [.agg x.c,.int .i64 more,.int .i64 cut] (.bool true):=z4f x h more cut hm hc
theorem zgm (x:Raw9) (h:x.Ok) (times:Int) (ht:I64 times):Pur Tryz.prog 5 [.agg x.c,.int .i64 times] (.bool true):=z94 x h times ht
end Go.Am
