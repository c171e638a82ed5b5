/- A part of the proof: a logic for calls over plain values, and the functions that the law reaches, each walked once. -/
import Derived.Test.YtplkahhkogncjaaGreatQC15
set_option linter.unusedVariables false
set_option linter.unusedSimpArgs false
set_option linter.unusedSectionVars false
namespace Go.Am
open Go.Proofs Go.Sort
section
variable {τ s:Store} {p:Nat} {x:Tri} {nn rr:Env→Store→Prop} {xx:Nat→Env→Store→Prop}
set_option maxHeartbeats 1000000 in
theorem zid (h:SFt τ p x s) (hx:x.fit) {body:List Int} {v:AV} (hr:Rd 1 s (body.map cB) v) (hb:body.length≤1000000) (hu:U8s body):ACalls Tryz.prog 104 [.ptr p 0,v] s (fun r s'=>r = .tup []∧SFt τ p (newsT x body) s'):=by
 refine ze Ts37.F104 (by simp [Ts37.F104,Fn.mkX]) ?_
 simp only [Ts37.F104,Fn.mkX,Ts37.b104]
 simp only [↓vcPre,↓z8,↓reduceIte,vcPost,vcStd,Nat.reduceEqDiff,reduceCtorEq,Nat.reduceAdd,Nat.reduceLeDiff,Int.reduceLT,Int.reduceLE,↓u_setN]
 refine (s55 h).Q ?_
 rintro r s ⟨rfl,rfl⟩
 simp only [↓vcPre,↓z8,↓reduceIte,vcPost,vcStd,Nat.reduceEqDiff,reduceCtorEq,Nat.reduceAdd,Nat.reduceLeDiff,Int.reduceLT,Int.reduceLE,↓u_setN]
 refine (zil hr hb hu _).Q ?_
 rintro r s ⟨rfl,rfl⟩
 unfold newsT
 generalize decU (decide (x.1.peer=x.1.asn)) body=R
 obtain ⟨u,nt,hout,hR⟩:∃ (u:Up) (nt:Nt3),outU R = .tup [.agg u.c,.agg nt.c]∧(R = .ok u∧nt.code=0∨∃ n,R = .error n∧nt=⟨3,n.1,n.2⟩):=by
  cases R with
  | ok u=>exact ⟨u,nt0,rfl,.inl ⟨rfl,rfl⟩⟩
  | error n=>exact ⟨zeroUp,⟨3,n.1,n.2⟩,rfl,.inr ⟨n,rfl,rfl⟩⟩
 rw [hout]
 have l3:∀ n:Nt3,n.c.length=3:=fun _=>rfl
 have ul:u.c.length=12:=rfl
 have zu:splice 0 u.c [AV.nils,.bool false,.int .i64 0,.nils,.int .u32 0,.bool false,.int .u32 0,.bool false,.int .u32 0,.bool false,.nils,.nils]=some u.c:=rfl
 have zn:splice 0 nt.c [AV.int .i64 0,.int .i64 0,.nils]=some nt.c:=rfl
 have u3:List.take 1 (List.drop 3 u.c)=[.sl 2 (u.a.path.map Seg.c)]:=rfl
 simp only [↓vcPre,↓z8,↓reduceIte,vcPost,vcStd,Nat.reduceEqDiff,reduceCtorEq,Nat.reduceAdd,Nat.reduceLeDiff,Int.reduceLT,Int.reduceLE,↓u_setN]
 refine AllocQ.i0 fun p4 h4 => ?_
 simp only [↓vcPre,↓z8,↓reduceIte,vcPost,vcStd,Nat.reduceEqDiff,reduceCtorEq,Nat.reduceAdd,Nat.reduceLeDiff,Int.reduceLT,Int.reduceLE,↓u_setN]
 refine AllocQ.i0 fun p5 h5 => ?_
 have hpS:∃ o,s p=some o:=by obtain ⟨bv,ov,hv,hp,_⟩:=h;exact ⟨_,hp⟩
 obtain ⟨o,hpo⟩:=hpS
 have n4:¬ p=p4:=fun e=>by subst e;rw [hpo] at h4;cases h4
 have sA:=Store.sub_set s p4 (.box [AV.nils,.bool false,.int .i64 0,.nils,.int .u32 0,.bool false,.int .u32 0,.bool false,.int .u32 0,.bool false,.nils,.nils]) h4
 have A4:=Store.set_same s p4 (.box [AV.nils,.bool false,.int .i64 0,.nils,.int .u32 0,.bool false,.int .u32 0,.bool false,.int .u32 0,.bool false,.nils,.nils])
 have hA:=SF.mono h sA
 have n5:¬ p=p5:=fun e=>by subst e;rw [sA _ _ hpo] at h5;cases h5
 have n45:¬ p4=p5:=fun e=>by subst e;rw [A4] at h5;cases h5
 have sB:=Store.sub_set _ p5 (.box [AV.int .i64 0,.int .i64 0,.nils]) h5
 have B5:=Store.set_same (s.set p4 (.box [AV.nils,.bool false,.int .i64 0,.nils,.int .u32 0,.bool false,.int .u32 0,.bool false,.int .u32 0,.bool false,.nils,.nils])) p5 (.box [AV.int .i64 0,.int .i64 0,.nils])
 have B4:=sB _ _ A4
 have hB2:=hA.mono sB
 have t4:τ p4=none:=zo (SF.sub h) h4
 have t5:τ p5=none:=zo (Store.sub_trans (SF.sub h) sA) h5
 have hC:=hB2.setQ (cs':=u.c) B4 t4 n4
 have C4:=Store.set_same ((s.set p4 (.box [AV.nils,.bool false,.int .i64 0,.nils,.int .u32 0,.bool false,.int .u32 0,.bool false,.int .u32 0,.bool false,.nils,.nils])).set p5 (.box [AV.int .i64 0,.int .i64 0,.nils])) p4 (.box u.c)
 have C5:=(Store.set_ne ((s.set p4 (.box [AV.nils,.bool false,.int .i64 0,.nils,.int .u32 0,.bool false,.int .u32 0,.bool false,.int .u32 0,.bool false,.nils,.nils])).set p5 (.box [AV.int .i64 0,.int .i64 0,.nils])) (.box u.c) (fun e=>n45 e.symm)).trans B5
 have hD:=hC.setQ (cs':=nt.c) C5 t5 n5
 have D5:=Store.set_same (((s.set p4 (.box [AV.nils,.bool false,.int .i64 0,.nils,.int .u32 0,.bool false,.int .u32 0,.bool false,.int .u32 0,.bool false,.nils,.nils])).set p5 (.box [AV.int .i64 0,.int .i64 0,.nils])).set p4 (.box u.c)) p5 (.box nt.c)
 have D4:=(Store.set_ne (((s.set p4 (.box [AV.nils,.bool false,.int .i64 0,.nils,.int .u32 0,.bool false,.int .u32 0,.bool false,.int .u32 0,.bool false,.nils,.nils])).set p5 (.box [AV.int .i64 0,.int .i64 0,.nils])).set p4 (.box u.c)) (.box nt.c) n45).trans C4
 have n54:¬ p5=p4:=fun e=>n45 e.symm
 simp only [l3,ul,zu,zn,n45,n54,↓vcPre,↓z8,↓reduceIte,vcPost,vcStd,Nat.reduceEqDiff,reduceCtorEq,Nat.reduceAdd,Nat.reduceLeDiff,Int.reduceLT,Int.reduceLE,↓u_setN]
 generalize (((s.set p4 (.box [AV.nils,.bool false,.int .i64 0,.nils,.int .u32 0,.bool false,.int .u32 0,.bool false,.int .u32 0,.bool false,.nils,.nils])).set p5 (.box [AV.int .i64 0,.int .i64 0,.nils])).set p4 (.box u.c)).set p5 (.box nt.c)=U at hD D4 D5 ⊢
 clear hA hB2 hC sA sB A4 B5 B4 C4 C5
 simp only [D4,ul,u3,↓vcPre,↓z8,↓reduceIte,vcPost,vcStd,Nat.reduceEqDiff,reduceCtorEq,Nat.reduceAdd,Nat.reduceLeDiff,Int.reduceLT,Int.reduceLE,↓u_setN]
 refine (zhu u.a.path).Q ?_
 simp only [↓vcPre,↓z8,↓reduceIte,vcPost,vcStd,Nat.reduceEqDiff,reduceCtorEq,Nat.reduceAdd,Nat.reduceLeDiff,Int.reduceLT,Int.reduceLE,↓u_setN]
 exact z7z hD hx D4 D5 (fun e=>n4 e.symm) _ R hR fun s' X' h'=>EndQ.to _ _ rfl (Store.sub_refl _) ⟨rfl,h'⟩
def takeT (x:Tri) (kind:Int) (body:List Int):Tri :=
 if kind=3 then endT x nt0
 else if x.1.st=2∧kind=1 then helloT x body
 else if x.1.st=3∧kind=4 then ({ x.1 with st:=4,silent:=0 },x.2.1,x.2.2++[.opened])
 else if x.1.st=4∧kind=4 then ({ x.1 with silent:=0 },x.2.1,x.2.2)
 else if x.1.st=4∧kind=2 then newsT x body
 else endT x ⟨5,0,[]⟩
set_option maxHeartbeats 1000000 in
theorem s52 (h:SFt τ p x s) (hx:x.fit) (kind:Int) {body:List Int} {v:AV} (hr:Rd 1 s (body.map cB) v) (hb:body.length≤1000000) (hu:U8s body):ACalls Tryz.prog 52 [.ptr p 0,.int .i64 kind,v] s (fun r s'=>r = .tup []∧SFt τ p (takeT x kind body) s'):=by
 refine ze Tst.F52 (by simp [Tst.F52,Fn.mkX]) ?_
 simp only [Tst.F52,Fn.mkX,Tst.b52]
 have hS:=h
 obtain ⟨bv,ov,hv,hp,hSP⟩:=hS
 have eo:alv (.mksl 13 1) [.agg Ev.opened.c]=some (.arr 13 [Ev.opened.c],fun id => .os id 13 0 1):=rfl
 have eoc:[AV.int .i64 1,.nils,.bool false,.int .i64 0,.nils,.int .u32 0,.bool false,.int .u32 0,.bool false,.int .u32 0,.bool false,.nils,.nils]=Ev.opened.c:=rfl
 have fin:∀ s',SF τ p (takeT x kind body).1 (takeT x kind body).2.1 (takeT x kind body).2.2 s' → @EndQ [] s' ⟨Tst.F52.slots,fun r s'=>r = .tup []∧SFt τ p (takeT x kind body) s'⟩:=fun s' h'=>EndQ.to _ _ rfl (Store.sub_refl _) ⟨rfl,h'⟩
 have b1:=hx.1
 have b2:=hx.2.1
 simp only [hp,zx,sc4,↓vcPre,↓z8,↓reduceIte,vcPost,vcStd,Nat.reduceEqDiff,reduceCtorEq,Nat.reduceAdd,Nat.reduceLeDiff,Int.reduceLT,Int.reduceLE,↓u_setN]
 repeat' (with_reducible refine And.intro (fun _ => ?_) (fun _ => ?_))
 all_goals first
  | (exfalso;omega)
  | (refine (z0b (n:=nt0) rfl (s51 h (by omega) (by omega) nt0)).Q ?_
     rintro r s' ⟨rfl,h'⟩
     simp only [↓vcPre,↓z8,↓reduceIte,vcPost,vcStd,Nat.reduceEqDiff,reduceCtorEq,Nat.reduceAdd,Nat.reduceLeDiff,Int.reduceLT,Int.reduceLE,↓u_setN]
     exact fin _ (by unfold takeT;rw [if_pos (by omega)];exact h'))
  | (refine (z0b (n:=⟨5,0,[]⟩) rfl (s51 h (by omega) (by omega) ⟨5,0,[]⟩)).Q ?_
     rintro r s' ⟨rfl,h'⟩
     simp only [↓vcPre,↓z8,↓reduceIte,vcPost,vcStd,Nat.reduceEqDiff,reduceCtorEq,Nat.reduceAdd,Nat.reduceLeDiff,Int.reduceLT,Int.reduceLE,↓u_setN]
     exact fin _ (by unfold takeT;rw [if_neg (by omega),if_neg (by omega),if_neg (by omega),if_neg (by omega),if_neg (by omega)];exact h'))
  | (refine (zic h hx hr hb hu).Q ?_
     rintro r s' ⟨rfl,h'⟩
     simp only [↓vcPre,↓z8,↓reduceIte,vcPost,vcStd,Nat.reduceEqDiff,reduceCtorEq,Nat.reduceAdd,Nat.reduceLeDiff,Int.reduceLT,Int.reduceLE,↓u_setN]
     exact fin _ (by unfold takeT;rw [if_neg (by omega),if_pos (by omega)];exact h'))
  | (refine (zid h hx hr hb hu).Q ?_
     rintro r s' ⟨rfl,h'⟩
     simp only [↓vcPre,↓z8,↓reduceIte,vcPost,vcStd,Nat.reduceEqDiff,reduceCtorEq,Nat.reduceAdd,Nat.reduceLeDiff,Int.reduceLT,Int.reduceLE,↓u_setN]
     exact fin _ (by unfold takeT;rw [if_neg (by omega),if_neg (by omega),if_neg (by omega),if_neg (by omega),if_pos (by omega)];exact h'))
  | (simp only [sw4,sw8,zx,z6a,eoc,eo,↓vcPre,↓z8,↓reduceIte,vcPost,vcStd,Nat.reduceEqDiff,reduceCtorEq,Nat.reduceAdd,Nat.reduceLeDiff,Int.reduceLT,Int.reduceLE,↓u_setN]
     refine AllocQ.i0 fun q hq => ?_
     simp only [Store.set_set] at hq
     have hq':s q=none:=by
      by_cases e:q=p
      ·subst e;rw [Store.set_same] at hq;cases hq
      ·rwa [Store.set_ne _ _ e] at hq
     have P1:=hSP.setP (cs':=(({ x.1 with st:=4,silent:=0 }:Ses).c bv ov hv)) hp
     have P2:=P1.mono (Store.sub_set _ q (.arr 13 [Ev.opened.c]) hq)
     have Pp:=Store.sub_set _ q (.arr 13 [Ev.opened.c]) hq _ _ (Store.set_same s p (.box (({ x.1 with st:=4,silent:=0 }:Ses).c bv ov hv)))
     simp only [↓vcPre,↓z8,↓reduceIte,vcPost,vcStd,Nat.reduceEqDiff,reduceCtorEq,Nat.reduceAdd,Nat.reduceLeDiff,Int.reduceLT,Int.reduceLE,↓u_setN]
     simp only [Store.set_set]
     refine P2.appE (x := .opened) Pp (zq (Store.set_same _ _ _) rfl) (by omega) fun hv' s' hp' h' => ?_
     have hcl:=h'.2.2.2.2.1.cell
     simp only [hp',hcl.1,hcl.2,z6d,↓vcPre,↓z8,↓reduceIte,vcPost,vcStd,Nat.reduceEqDiff,reduceCtorEq,Nat.reduceAdd,Nat.reduceLeDiff,Int.reduceLT,Int.reduceLE,↓u_setN]
     exact fin _ (by unfold takeT;rw [if_neg (by omega),if_neg (by omega),if_pos (by omega)];exact ⟨bv,ov,hv',Store.set_same _ _ _,h'.setP hp'⟩))
  | (simp only [sw8,↓vcPre,↓z8,↓reduceIte,vcPost,vcStd,Nat.reduceEqDiff,reduceCtorEq,Nat.reduceAdd,Nat.reduceLeDiff,Int.reduceLT,Int.reduceLE,↓u_setN]
     exact fin _ (by unfold takeT;rw [if_neg (by omega),if_neg (by omega),if_neg (by omega),if_pos (by omega)];exact ⟨bv,ov,hv,Store.set_same _ _ _,hSP.setP hp⟩))
  | (trace_state;sorry)
end
end Go.Am
namespace Go.Am
open Go.Proofs Go.Sort
def stepT (x:Tri):Option Tri :=
 if (splitF x.1.b).note.code≠0 then some (endT x (splitF x.1.b).note)
 else if (splitF x.1.b).n=0 then none
 else some (takeT ({ x.1 with b:=x.1.b.drop (splitF x.1.b).n.toNat },x.2.1,x.2.2) (splitF x.1.b).kind (splitF x.1.b).body)
def loopT:Nat→Tri→Tri
 | 0,x=>x
 | f+1,x=>if x.1.st=1 then x else match stepT x with
   | none=>x
   | some y=>loopT f y
def mu (x:Tri):Nat:=x.1.b.length+(if x.1.st=1 then 0 else 1)
def runT (x:Tri):Tri:=loopT (mu x+1) x
def feedT (x:Tri) (B:List Int):Tri:=if x.1.st=1 then x else runT ({ x.1 with b:=x.1.b++B },x.2.1,x.2.2)
structure Calm (x y:Tri):Prop where
 peer:y.1.peer=x.1.peer
 asn:y.1.asn=x.1.asn
 b:y.1.b=x.1.b∨y.1.b=[]∧y.1.st=1
 o:y.2.1.length≤x.2.1.length+4096
 e:y.2.2.length≤x.2.2.length+1
theorem xf (x:Tri) (n:Nt3):Calm x (endT x n):=⟨rfl,rfl,.inr ⟨rfl,rfl⟩,by
 unfold endT endO;dsimp only;split
 ·omega
 ·rw [List.length_append];have:=ue 3 (enoteF (cutN n));omega,by
 unfold endT endE;dsimp only;split
 ·simp
 ·omega⟩
theorem z4h (x:Tri) (B:List Int):Calm x (helloT x B):=by
 unfold helloT helloD
 split
 ·exact xf _ _
 ·split
  ·exact xf _ _
  ·refine ⟨rfl,rfl,.inl rfl,?_,by simp [sendT]⟩
   unfold sendT;dsimp only
   rw [List.length_append];have:=ue 4 [];omega
theorem z60 (x:Tri) (B:List Int):Calm x (newsT x B):=by
 unfold newsT newsD
 split
 ·exact xf _ _
 ·split
  ·exact xf _ _
  ·exact ⟨rfl,rfl,.inl rfl,by simp,by simp⟩
theorem z1r (x:Tri) (k:Int) (B:List Int):Calm x (takeT x k B):=by
 unfold takeT
 split
 ·exact xf _ _
 ·split
  ·exact z4h _ _
  ·split
   ·exact ⟨rfl,rfl,.inl rfl,by simp,by simp⟩
   ·split
    ·exact ⟨rfl,rfl,.inl rfl,by simp,by simp⟩
    ·split
     ·exact z60 _ _
     ·exact xf _ _
theorem uk {B:List Int} (h1:(splitF B).note.code=0) (h2:(splitF B).n≠0):19≤(splitF B).n∧(splitF B).n≤(B.length:Int)∧(splitF B).n≤4096∧(splitF B).body=(B.take (splitF B).n.toNat).drop 19∧(splitF B).kind=B.getD 18 0:=by
 revert h1 h2
 unfold splitF
 repeat' split
 all_goals simp [noneS,nt0]
 all_goals omega
theorem qe {x y:Tri} (hs:x.1.st≠1) (h:stepT x=some y):mu y<mu x:=by
 unfold stepT at h
 split at h
 ·cases h
  unfold mu
  rw [if_neg hs]
  simp [endT,endS]
 ·split at h
  ·cases h
  ·rename_i c1 c2
   cases h
   obtain ⟨q1,q2,_⟩:=uk (by simpa using c1) c2
   have hc:=z1r ({ x.1 with b:=x.1.b.drop (splitF x.1.b).n.toNat },x.2.1,x.2.2) (splitF x.1.b).kind (splitF x.1.b).body
   generalize takeT ({ x.1 with b:=x.1.b.drop (splitF x.1.b).n.toNat },x.2.1,x.2.2) (splitF x.1.b).kind (splitF x.1.b).body=y at hc ⊢
   unfold mu
   rw [if_neg hs]
   rcases hc.b with hb | ⟨hb,hst⟩
   ·rw [hb]
    simp only [List.length_drop]
    split <;> omega
   ·rw [hb,hst];simp
theorem z1c:∀ (f g:Nat) (x:Tri),mu x<f→mu x<g→loopT f x=loopT g x
 | 0,_,_,h,_=>by omega
 | _,0,_,_,h=>by omega
 | f+1,g+1,x,h1,h2=>by
   unfold loopT
   split
   ·rfl
   ·rename_i hs
    cases h:stepT x with
    | none=>rfl
    | some y =>
      have:=qe hs h
      exact z1c f g y (by omega) (by omega)
theorem z7k {x:Tri} (h:x.1.st=1):runT x=x:=by unfold runT loopT;rw [if_pos h]
theorem z2o {x:Tri} (h:x.1.st≠1) (h2:stepT x=none):runT x=x:=by unfold runT loopT;rw [if_neg h,h2]
theorem z03 {x y:Tri} (h:x.1.st≠1) (h2:stepT x=some y):runT x=runT y:=by
 have:=qe h h2
 conv=>lhs;unfold runT loopT
 rw [if_neg h,h2]
 exact z1c _ _ _ (by omega) (by omega)
end Go.Am
namespace Go.Am.Ts38
open Go.Proofs Go.Am.B
def t24_62:BC:=z [m 62 0,g 63 53 [.t 62],e 64 0 63,e 65 1 63,m 4 64,m 5 65] [4,5] .ret
def b24:BC:=z [k 4 .nils,k 5 .nils] [0,1] (.seq (z [m 10 0,u 11 .nilchk 10,f 12 4 11,l 13 1 12,c 14 .eql 13 1] [0,1,14] (.cond (.t 14) (z [k 4 .nils,k 5 .nils] [4,5] .ret) .skip)) (z [m 15 0,m 16 0,u 17 .nilchk 16,f 18 5 17,l 19 1 18,m 20 1,⟨some 21,none,.loud (.app 1 1),[.t 19,.t 20]⟩,u 22 .nilchk 15,f 23 5 22,s 1 23 21] [0] (.seq .skip (.seq (.block 0 (.loop [0] (.seq (z [m 24 0,u 25 .nilchk 24,f 26 4 25,l 27 1 26,c 28 .neq 27 1] [0,28] (.cond (.t 28) .skip (.exit 0))) (.block 1 (z [m 30 0,u 31 .nilchk 30,f 32 5 31,l 33 1 32,g 34 50 [.t 33],m 29 34,e 35 0 29,e 36 1 29,e 37 2 29,e 38 3 29,⟨some 9,none,.alloc (.alloc [(.int .i64 0),(.int .i64 0),.nils]),[]⟩,m 6 35,m 7 36,m 8 37,s 3 9 38] [0,6,7,8,9] (.block 2 (z [f 53 0 9,l 54 1 53,c 55 .neq 54 0,m 52 55] [0,6,7,8,9,52] (.cond (.t 52) (.ops [m 56 0,⟨some 57,none,.load (.ld 3 true),[.t 9]⟩,g 58 51 [.t 56,.t 57]] [0]) (z [m 60 8,c 61 .eql 60 0,m 59 61] [0,6,7,8,59] (.cond (.t 59) (.exit 0) (z [m 39 0,m 40 0,u 41 .nilchk 40,f 42 5 41,l 43 1 42,m 44 8,p 45 (.slice 1 true false) [.t 43,.t 44],u 46 .nilchk 39,f 47 5 46,s 1 47 45] [0,6,7] (.ops [m 48 0,m 49 6,m 50 7,g 51 52 [.t 48,.t 49,.t 50]] [0])))))))))))) t24_62))))
def F24:Fn Tryz.prog 24:=Fn.mkX false b24 [.t 4,.t 5] 66 Tryz.f24 _ Tryz.func24 (by decide) rfl Tryz.ntmps24 (by kernel_rfl) (by kernel_rfl)
end Go.Am.Ts38
namespace Go.Am
open Go.Proofs Go.Sort
theorem OwnO.drop {esz:Nat} {τ s:Store} {L:List (List AV)} {v:AV} (h:OwnO esz τ L v s) {n:Nat} (hn:n≤L.length):∃ w,pSlice esz v (n:Int) none=some w∧OwnO esz τ (L.drop n) w s∧∀ g o m,w = .os g esz o m→∃ o' m',v = .os g esz o' m':=by
 rcases h with ⟨rfl,rfl⟩ | ⟨g,o,es,rfl,h2,h3,h4⟩
 ·have:n=0:=by simpa using hn
  subst this
  exact ⟨.nils,rfl,.inl ⟨rfl,rfl⟩,fun g o m h=>by cases h⟩
 ·refine ⟨.os g esz (o+n) (L.length - n),?_,.inr ⟨g,o+n,es,by simp,h2,h3,?_⟩,fun g' o' m h=>by cases h;exact ⟨_,_,rfl⟩⟩
  ·simp [pSlice,hn]
  ·simp only [slc,h3] at h4 ⊢
   split at h4
   ·rename_i hc
    rw [if_pos ⟨hc.1,hc.2.1,by have:=hc.2.2;omega⟩]
    have h5:=Option.some.inj h4
    congr 1
    conv=>rhs;rw [←h5]
    rw [List.drop_take,List.drop_drop]
   ·cases h4
theorem SP.drop {τ s:Store} {p:Nat} {B O:List Int} {E:List Ev} {bv ov hv:AV} (h:SP τ p B O E bv ov hv s) {n:Nat} (hn:n≤B.length):∃ w,pSlice 1 bv (n:Int) none=some w∧SP τ p (B.drop n) O E w ov hv s:=by
 obtain ⟨h1,h2,h3,h4,h5,h6⟩:=h
 obtain ⟨w,q1,q2,q3⟩:=h3.drop (n:=n) (by simpa using hn)
 refine ⟨w,q1,h1,h2,by rw [List.map_drop];exact q2,h4,h5,fun g o m hw e o' n' hov => ?_⟩
 obtain ⟨o2,m2,rfl⟩:=q3 g o m hw
 exact h6 _ _ _ rfl _ _ _ hov
def Inv (x:Tri):Prop:=x.2.1.length+216*x.1.b.length+(if x.1.st=1 then 0 else 5000)≤89000000∧x.2.2.length+x.1.b.length+(if x.1.st=1 then 0 else 2)≤890000∧x.1.b.length≤1000000∧U8s x.1.b∧0≤x.1.peer∧x.1.peer≤65535
theorem Inv.fit {x:Tri} (h:Inv x):x.fit:=by
 obtain ⟨h1,h2,h3,h4,h5⟩:=h
 exact ⟨by split at h1 <;> omega,by split at h2 <;> omega,h5⟩
theorem Inv.endT {x:Tri} (h:Inv x) (hs:x.1.st≠1) (n:Nt3):Inv (endT x n):=by
 obtain ⟨h1,h2,h3,h4,h5⟩:=h
 rw [if_neg hs] at h1 h2
 have hc:=xf x n
 refine ⟨?_,?_,by simp [Go.Am.endT,endS],(fun y hy=>by cases hy),h5⟩
 ·show (Go.Am.endT x n).2.1.length+216*0+0≤_
  have:=hc.o;omega
 ·show (Go.Am.endT x n).2.2.length+0+0≤_
  have:=hc.e;omega
theorem Inv.step {x y:Tri} (h:Inv x) (hs:x.1.st≠1) (hst:stepT x=some y):Inv y:=by
 unfold stepT at hst
 split at hst
 ·cases hst;exact h.endT hs _
 ·split at hst
  ·cases hst
  ·rename_i c1 c2
   cases hst
   obtain ⟨q1,q2,_⟩:=uk (by simpa using c1) c2
   have hc:=z1r ({ x.1 with b:=x.1.b.drop (splitF x.1.b).n.toNat },x.2.1,x.2.2) (splitF x.1.b).kind (splitF x.1.b).body
   generalize takeT ({ x.1 with b:=x.1.b.drop (splitF x.1.b).n.toNat },x.2.1,x.2.2) (splitF x.1.b).kind (splitF x.1.b).body=y at hc ⊢
   obtain ⟨h1,h2,h3,h4,h5⟩:=h
   rw [if_neg hs] at h1 h2
   obtain ⟨k1,k2,k3,k4,k5⟩:=hc
   simp only at k1 k3 k4 k5
   have hl:y.1.b.length+19≤x.1.b.length:=by
    rcases k3 with e | ⟨e,_⟩
    ·rw [e,List.length_drop];omega
    ·rw [e];simp;omega
   refine ⟨?_,?_,by omega,?_,by rw [k1];exact h5⟩
   ·split <;> omega
   ·split <;> omega
   ·rcases k3 with e | ⟨e,_⟩
    ·rw [e];exact h4.drop _
    ·rw [e];exact fun y hy=>by cases hy
def SQ (τ:Store) (p:Nat) (S:Ses) (s:Store):Prop:=ST τ p S [] [] .nils .nils s
section
variable {τ s:Store} {p:Nat} {nn rr:Env→Store→Prop} {xx:Nat→Env→Store→Prop}
theorem SQ.sf {S:Ses} (h:SQ τ p S s):SFt τ p (S,[],[]) s:=by
 obtain ⟨bv,h1,h2⟩:=h
 exact ⟨bv,.nils,.nils,h1,h2⟩
theorem ST.sn {S:Ses} {O:List Int} {E:List Ev} {ov hv:AV} (h:ST τ p S O E ov hv s):SQ τ p S s:=by
 obtain ⟨bv,h1,h2,h3,h4,_,_,_⟩:=h
 exact ⟨bv,h1,h2,h3,h4,.inl ⟨rfl,rfl⟩,.inl ⟨rfl,rfl⟩,fun _ _ _ _ _ _ _ h=>by cases h⟩
set_option maxHeartbeats 1000000 in
theorem s24 {S:Ses} (h:SQ τ p S s) {B:List Int} {v:AV} (hr:Rd 1 s (B.map cB) v) (hB:S.b.length+B.length≤400000) (hu:U8s S.b) (hu2:U8s B) (hpe:0≤S.peer∧S.peer≤65535) :
 ACalls Tryz.prog 24 [.ptr p 0,v] s (fun r s'=>∃ ov hv,r = .tup [ov,hv]∧ST τ p (feedT (S,[],[]) B).1 (feedT (S,[],[]) B).2.1 (feedT (S,[],[]) B).2.2 ov hv s'):=by
 refine ze Ts38.F24 (by simp [Ts38.F24,Fn.mkX]) ?_
 simp only [Ts38.F24,Fn.mkX,Ts38.b24]
 have l3:∀ n:Nt3,n.c.length=3:=fun _=>rfl
 have t3:∀ n:Nt3,List.take 3 n.c=n.c:=fun _=>rfl
 have f0:∀ n:Nt3,List.take 1 n.c=[.int .i64 n.code]:=fun _=>rfl
 have zn:∀ n:Nt3,splice 0 n.c [AV.int .i64 0,.int .i64 0,.nils]=some n.c:=fun _=>rfl
 have hS:=h
 obtain ⟨bv,hp,hSP⟩:=hS
 simp only [hp,zx,sc4,↓vcPre,↓z8,↓reduceIte,vcPost,vcStd,Nat.reduceEqDiff,reduceCtorEq,Nat.reduceAdd,Nat.reduceLeDiff,Int.reduceLT,Int.reduceLE,↓u_setN]
 refine ⟨fun c1 => ?_,fun c1 => ?_⟩
 ·have e:feedT (S,[],[]) B=(S,[],[]):=by unfold feedT;rw [if_pos c1]
  rw [e]
  exact EndQ.to _ _ rfl (Store.sub_refl _) ⟨.nils,.nils,rfl,h⟩
 ·have e:feedT (S,[],[]) B=runT ({ S with b:=S.b++B },[],[]):=by unfold feedT;rw [if_neg c1]
  rw [e]
  simp only [hp,zx,sc5,↓vcPre,↓z8,↓reduceIte,vcPost,vcStd,Nat.reduceEqDiff,reduceCtorEq,Nat.reduceAdd,Nat.reduceLeDiff,Int.reduceLT,Int.reduceLE,↓u_setN]
  refine hSP.appB hp (hr.1 _ (Store.sub_refl _)) (by omega) fun bv' s1 hp1 h1 => ?_
  have hcl:=h1.2.2.1.cell
  simp only [hp1,hcl.1,hcl.2,sw5,↓vcPre,↓z8,↓reduceIte,vcPost,vcStd,Nat.reduceEqDiff,reduceCtorEq,Nat.reduceAdd,Nat.reduceLeDiff,Int.reduceLT,Int.reduceLE,↓u_setN]
  have hI:Inv ({ S with b:=S.b++B },[],[]):=by
   refine ⟨?_,?_,by simp;omega,hu.append hu2,hpe⟩
   ·simp only [List.length_nil,List.length_append];split <;> omega
   ·simp only [List.length_nil,List.length_append];split <;> omega
  have hF:SFt τ p ({ S with b:=S.b++B },[],[]) (s1.set p (.box (S.c bv' .nils .nils))):=⟨bv',.nils,.nils,Store.set_same _ _ _,h1.setP hp1⟩
  generalize (({ S with b:=S.b++B },[],[]):Tri)=x0 at hI hF ⊢
  generalize s1.set p (.box (S.c bv' .nils .nils))=s2 at hF ⊢
  refine LoopQ.inv (S:=Tri×Store) (fun _=>[(0,.ptr p 0)]) (fun q=>q.2) (fun q=>SFt τ p q.1 q.2∧Inv q.1∧runT q.1=runT x0) (fun q=>mu q.1) (x0,s2) rfl (Store.sub_refl _) ⟨hF,hI,rfl⟩ ?_
  rintro ⟨x,t⟩ ⟨hx,hi,hrn⟩
  simp only at hx hi hrn
  have hxS:=hx
  obtain ⟨bv2,ov2,hv2,hp2,hSP2⟩:=hxS
  simp only [hp2,zx,sc4,↓vcPre,↓z8,↓reduceIte,vcPost,vcStd,Nat.reduceEqDiff,reduceCtorEq,Nat.reduceAdd,Nat.reduceLeDiff,Int.reduceLT,Int.reduceLE,↓u_setN]
  have tail:∀ t,SFt τ p x t→runT x=x→∀ X,bwp Tryz.prog Ts38.t24_62 ((0,.ptr p 0)::X) t (fun e τ' => @EndQ e τ' ⟨Tst.F24.slots,fun r s'=>∃ ov hv,r = .tup [ov,hv]∧ST τ p (runT x0).1 (runT x0).2.1 (runT x0).2.2 ov hv s'⟩) (fun e τ' => @EndQ e τ' ⟨Tst.F24.slots,fun r s'=>∃ ov hv,r = .tup [ov,hv]∧ST τ p (runT x0).1 (runT x0).2.1 (runT x0).2.2 ov hv s'⟩) (fun _ _ _=>False):=fun t hx he X=>by
   simp only [Ts38.t24_62]
   simp only [↓vcPre,↓z8,↓reduceIte,vcPost,vcStd,Nat.reduceEqDiff,reduceCtorEq,Nat.reduceAdd,Nat.reduceLeDiff,Int.reduceLT,Int.reduceLE,↓u_setN]
   refine (s53 hx).Q ?_
   rintro r t' ⟨ov,hv,rfl,h'⟩
   simp only [↓vcPre,↓z8,↓reduceIte,vcPost,vcStd,Nat.reduceEqDiff,reduceCtorEq,Nat.reduceAdd,Nat.reduceLeDiff,Int.reduceLT,Int.reduceLE,↓u_setN]
   rw [←hrn,he]
   exact EndQ.to _ _ rfl (Store.sub_refl _) ⟨ov,hv,rfl,h'⟩
  refine ⟨fun c2 => ?_,fun c2 => ?_⟩
  ·simp only [hp2,zx,sc5,↓vcPre,↓z8,↓reduceIte,vcPost,vcStd,Nat.reduceEqDiff,reduceCtorEq,Nat.reduceAdd,Nat.reduceLeDiff,Int.reduceLT,Int.reduceLE,↓u_setN]
   refine (s50 hSP2.2.2.1.rd (by have:=hi.2.2.1;omega) hi.2.2.2.1).Q ?_
   rintro r t ⟨rfl,rfl⟩
   have hs1:x.1.st≠1:=by omega
   obtain ⟨D,hD⟩:∃ D,splitF x.1.b=D:=⟨_,rfl⟩
   have hst:stepT x=(if D.note.code≠0 then some (endT x D.note) else if D.n=0 then none else some (takeT ({ x.1 with b:=x.1.b.drop D.n.toNat },x.2.1,x.2.2) D.kind D.body)):=by unfold stepT;rw [hD]
   have hsome:=uk (B:=x.1.b)
   rw [hD] at hsome ⊢
   simp only [Spl.v,↓vcPre,↓z8,↓reduceIte,vcPost,vcStd,Nat.reduceEqDiff,reduceCtorEq,Nat.reduceAdd,Nat.reduceLeDiff,Int.reduceLT,Int.reduceLE,↓u_setN]
   refine AllocQ.i0 fun p9 h9 => ?_
   have n9:¬ p=p9:=fun e=>by subst e;rw [hp2] at h9;cases h9
   have hA:=SF.mono hx (Store.sub_set t p9 (.box [AV.int .i64 0,.int .i64 0,.nils]) h9)
   have hB2:=hA.setQ (cs':=D.note.c) (Store.set_same _ _ _) (zo (SF.sub hx) h9) n9
   have T9:=Store.set_same (t.set p9 (.box [AV.int .i64 0,.int .i64 0,.nils])) p9 (.box D.note.c)
   simp only [zn,l3,↓vcPre,↓z8,↓reduceIte,vcPost,vcStd,Nat.reduceEqDiff,reduceCtorEq,Nat.reduceAdd,Nat.reduceLeDiff,Int.reduceLT,Int.reduceLE,↓u_setN]
   generalize (t.set p9 (.box [AV.int .i64 0,.int .i64 0,.nils])).set p9 (.box D.note.c)=U at hB2 T9 ⊢
   simp only [T9,l3,f0,↓vcPre,↓z8,↓reduceIte,vcPost,vcStd,Nat.reduceEqDiff,reduceCtorEq,Nat.reduceAdd,Nat.reduceLeDiff,Int.reduceLT,Int.reduceLE,↓u_setN]
   have b1:=hi.fit
   refine ⟨fun c3 => ?_,fun c3 => ?_⟩
   ·rw [if_pos c3] at hst
    simp only [T9,l3,t3,↓vcPre,↓z8,↓reduceIte,vcPost,vcStd,Nat.reduceEqDiff,reduceCtorEq,Nat.reduceAdd,Nat.reduceLeDiff,Int.reduceLT,Int.reduceLE,↓u_setN]
    refine (s51 hB2 (by have:=b1.1;omega) (by have:=b1.2.1;omega) D.note).Q ?_
    rintro r s' ⟨rfl,h'⟩
    simp only [↓vcPre,↓z8,↓reduceIte,vcPost,vcStd,Nat.reduceEqDiff,reduceCtorEq,Nat.reduceAdd,Nat.reduceLeDiff,Int.reduceLT,Int.reduceLE,↓u_setN]
    exact NextQ.to (endT x D.note,s') rfl (Store.sub_refl _) (qe hs1 hst) ⟨h',hi.step hs1 hst,by rw [←hrn];exact (z03 hs1 hst).symm⟩
   ·rw [if_neg (by simpa using c3)] at hst
    refine ⟨fun c4 => ?_,fun c4 => ?_⟩
    ·rw [if_pos c4] at hst
     exact tail _ hB2 (z2o hs1 hst) _
    ·rw [if_neg c4] at hst
     obtain ⟨q1,q2,q3,q4,q5⟩:=hsome (by simpa using c3) c4
     obtain ⟨bv3,ov3,hv3,hp3,hSP3⟩:=hB2
     obtain ⟨w,hw,hSP4⟩:=hSP3.drop (n:=D.n.toNat) (by omega)
     have en:((D.n.toNat:Nat):Int)=D.n:=by omega
     rw [en] at hw
     have hcl:=hSP4.2.2.1.cell
     simp only [hp3,zx,sc5,hw,hcl.1,hcl.2,sw5,↓vcPre,↓z8,↓reduceIte,vcPost,vcStd,Nat.reduceEqDiff,reduceCtorEq,Nat.reduceAdd,Nat.reduceLeDiff,Int.reduceLT,Int.reduceLE,↓u_setN]
     have hN:SFt τ p ({ x.1 with b:=x.1.b.drop D.n.toNat },x.2.1,x.2.2) (U.set p (.box (x.1.c w ov3 hv3))):=⟨w,ov3,hv3,Store.set_same _ _ _,hSP4.setP hp3⟩
     have hbl:D.body.length≤1000000:=by rw [q4];simp;omega
     have hbu:U8s D.body:=by rw [q4];exact (hi.2.2.2.1.take _).drop _
     refine (s52 hN b1 D.kind Rd.sl hbl hbu).Q ?_
     rintro r s' ⟨rfl,h'⟩
     simp only [↓vcPre,↓z8,↓reduceIte,vcPost,vcStd,Nat.reduceEqDiff,reduceCtorEq,Nat.reduceAdd,Nat.reduceLeDiff,Int.reduceLT,Int.reduceLE,↓u_setN]
     exact NextQ.to (takeT ({ x.1 with b:=x.1.b.drop D.n.toNat },x.2.1,x.2.2) D.kind D.body,s') rfl (Store.sub_refl _) (qe hs1 hst) ⟨h',hi.step hs1 hst,by rw [←hrn];exact (z03 hs1 hst).symm⟩
  ·exact tail _ hx (z7k (by omega)) _
end
end Go.Am
namespace Go.Am.Ts39
open Go.Proofs Go.Am.B
def t34_76:BC:=z [m 76 0,g 77 53 [.t 76],e 78 0 77,e 79 1 77,m 2 78,m 3 79] [2,3] .ret
def b34:BC:=z [k 2 .nils,k 3 .nils] [0] (.seq (.block 0 (z [m 5 0,u 6 .nilchk 5,f 7 4 6,l 8 1 7,c 9 .eql 8 2,m 4 9] [0,4] (.cond (.t 4) (z [m 10 0,u 11 .nilchk 10,f 12 8 11,l 13 1 12,c 14 .add 13 1,u 15 .nilchk 10,f 16 8 15,s 1 16 14] [0] (z [m 17 0,u 18 .nilchk 17,f 19 8 18,l 20 1 19,c 21 .geq 20 240] [0,21] (.cond (.t 21) (.ops [m 22 0,p 23 (.build [(.int .i64 0),(.int .i64 0),.nils] [(0,1)]) [.c (.int .i64 4)],g 24 51 [.t 22,.t 23]] [0]) .skip))) (z [m 26 0,u 27 .nilchk 26,f 28 4 27,l 29 1 28,c 30 .gtr 29 2,m 31 30,⟨some 32,some (31,true),.pure (.mov),[.t 0]⟩,⟨some 33,some (31,true),.pure (.nilchk),[.t 32]⟩,⟨some 34,some (31,true),.pure (.fld 7),[.t 33]⟩,⟨some 35,some (31,true),.load (.ld 1 false),[.t 34]⟩,⟨some 36,some (31,true),.pure (.bin .gtr),[.t 35,.c (.int .i64 0)]⟩,⟨some 37,none,.pick,[.t 31,.t 36,.c (.bool false)]⟩,m 25 37] [0,25] (.cond (.t 25) (z [m 38 0,u 39 .nilchk 38,f 40 8 39,l 41 1 40,c 42 .add 41 1,u 43 .nilchk 38,f 44 8 43,s 1 44 42] [0] (z [m 45 0,u 46 .nilchk 45,f 47 9 46,l 48 1 47,c 49 .add 48 1,u 50 .nilchk 45,f 51 9 50,s 1 51 49] [0] (z [m 52 0,u 53 .nilchk 52,f 54 8 53,m 56 0,u 57 .nilchk 56,f 58 7 57,l 55 1 54,l 59 1 58,b 60 .geq 55 59] [0,60] (.cond (.t 60) (.ops [m 61 0,p 62 (.build [(.int .i64 0),(.int .i64 0),.nils] [(0,1)]) [.c (.int .i64 4)],g 63 51 [.t 61,.t 62]] [0]) (z [m 64 0,u 65 .nilchk 64,f 66 9 65,m 68 0,u 69 .nilchk 68,f 70 7 69,l 67 1 66,l 71 1 70,c 72 .quo 71 3,b 73 .geq 67 72] [0,73] (.cond (.t 73) (.ops [m 74 0,g 75 57 [.t 74,.c (.int .i64 4),.c .nils]] [0]) .skip)))))) .skip))))) t34_76)
def F34:Fn Tryz.prog 34:=Fn.mkX false b34 [.t 2,.t 3] 80 Tryz.f34 _ Tryz.func34 (by decide) rfl Tryz.ntmps34 (by kernel_rfl) (by kernel_rfl)
end Go.Am.Ts39
namespace Go.Am
open Go.Proofs Go.Sort
def badS (asn id hold peer:Int):Prop:=asn<1∨65535<asn∨peer<1∨65535<peer∨id=0∨(hold≠0∧hold<3)∨65535<hold
instance (a b c d:Int):Decidable (badS a b c d):=by unfold badS;infer_instance
def newS (asn id hold peer:Int):Ses:=⟨asn,id,hold,peer,1,[],0,0,0,0⟩
theorem s28 (σ:Store) (asn id hold peer:Int):ACalls Tryz.prog 28 [.int .u32 asn,.int .u32 id,.int .i64 hold,.int .u32 peer] σ (fun r s=>(badS asn id hold peer∧s=σ∧r = .tup [.nil,.int .i64 1])∨(¬ badS asn id hold peer∧∃ p,r = .tup [.ptr p 0,.int .i64 0]∧SQ σ p (newS asn id hold peer) s)):=by
 refine ze Tst.F28 (by simp [Tst.F28,Fn.mkX]) ?_
 simp only [Tst.F28,Fn.mkX,Tst.b28]
 simp only [↓vcPre,↓z8,↓reduceIte,vcPost,vcStd,Nat.reduceEqDiff,reduceCtorEq,Nat.reduceAdd,Nat.reduceLeDiff,Int.reduceLT,Int.reduceLE,↓u_setN]
 repeat' (with_reducible refine And.intro (fun _ => ?_) (fun _ => ?_))
 all_goals first
  | exact EndQ.to σ _ rfl (Store.sub_refl _) (.inl ⟨by unfold badS;omega,rfl,rfl⟩)
  | (exfalso;omega)
  | (refine AllocQ.i0 fun p hp => ?_
     simp only [↓vcPre,↓z8,↓reduceIte,vcPost,vcStd,Nat.reduceEqDiff,reduceCtorEq,Nat.reduceAdd,Nat.reduceLeDiff,Int.reduceLT,Int.reduceLE,↓u_setN]
     refine EndQ.to _ _ rfl (Store.sub_refl _) (.inr ⟨by unfold badS;omega,p,rfl,.nils,Store.set_same _ _ _,hp,Store.sub_set _ _ _ hp,.inl ⟨rfl,rfl⟩,.inl ⟨rfl,rfl⟩,.inl ⟨rfl,rfl⟩,fun _ _ _ h=>by cases h⟩))
def SOk (S:Ses):Prop:=¬ badS S.asn S.id S.hold S.peer
section
variable {τ s:Store} {p:Nat} {S:Ses} {nn rr:Env→Store→Prop} {xx:Nat→Env→Store→Prop}
def upO (S:Ses):List Int:=(joinF 1 (encH ⟨S.asn,S.hold,S.id⟩)).1
def upT (S:Ses):Ses×List Int:=if S.st≠1 then (S,[]) else ({ S with st:=2,silent:=0 },upO S)
set_option maxHeartbeats 1000000 in
theorem s29 (h:SQ τ p S s) (hk:SOk S):ACalls Tryz.prog 29 [.ptr p 0] s (fun r s'=>∃ ov hv,r=ov∧ST τ p (upT S).1 (upT S).2 [] ov hv s'):=by
 refine ze Tst.F29 (by simp [Tst.F29,Fn.mkX]) ?_
 simp only [Tst.F29,Fn.mkX,Tst.b29]
 have hS:=h
 obtain ⟨bv,hp,hSP⟩:=hS
 unfold SOk badS at hk
 have w0:IntKind.i64.wrap S.asn=S.asn:=zd (by unfold I64;omega)
 have nb:¬ badH ⟨S.asn,S.hold,S.id⟩:=by unfold badH;simp only;omega
 have ho:=c56 ⟨S.asn,S.hold,S.id⟩
 rw [if_neg nb,if_neg nb] at ho
 simp only [hp,zx,sc4,↓vcPre,↓z8,↓reduceIte,vcPost,vcStd,Nat.reduceEqDiff,reduceCtorEq,Nat.reduceAdd,Nat.reduceLeDiff,Int.reduceLT,Int.reduceLE,↓u_setN]
 refine ⟨fun c1 => ?_,fun c1 => ?_⟩
 ·have e:upT S=(S,[]):=by unfold upT;rw [if_pos c1]
  rw [e]
  exact EndQ.to _ _ rfl (Store.sub_refl _) ⟨.nils,.nils,rfl,h⟩
 ·have e:upT S=({ S with st:=2,silent:=0 },upO S):=by unfold upT;rw [if_neg (by simpa using c1)]
  rw [e]
  simp only [hp,zx,sc0,sc2,sc1,w0,↓vcPre,↓z8,↓reduceIte,vcPost,vcStd,Nat.reduceEqDiff,reduceCtorEq,Nat.reduceAdd,Nat.reduceLeDiff,Int.reduceLT,Int.reduceLE,↓u_setN]
  refine ho.Q ?_
  simp only [↓vcPre,↓z8,↓reduceIte,vcPost,vcStd,Nat.reduceEqDiff,reduceCtorEq,Nat.reduceAdd,Nat.reduceLeDiff,Int.reduceLT,Int.reduceLE,↓u_setN]
  refine (s57 h.sf (by simp) 1 Rd.sl (by simp [encH,b4])).Q ?_
  rintro r s' ⟨rfl,h'⟩
  have e1:sentS S 1=S:=by unfold sentS;rw [if_neg (by decide)]
  simp only [e1,List.nil_append] at h'
  obtain ⟨bv2,ov2,hv2,hp2,hSP2⟩:=h'
  simp only [hp2,zx,sw4,sw8,↓vcPre,↓z8,↓reduceIte,vcPost,vcStd,Nat.reduceEqDiff,reduceCtorEq,Nat.reduceAdd,Nat.reduceLeDiff,Int.reduceLT,Int.reduceLE,↓u_setN]
  have hF:SFt τ p ({ S with st:=2,silent:=0 },upO S,[]) ((s'.set p (.box (({ S with st:=2 }:Ses).c bv2 ov2 hv2))).set p (.box (({ S with st:=2,silent:=0 }:Ses).c bv2 ov2 hv2))):=by
   rw [Store.set_set]
   exact ⟨bv2,ov2,hv2,Store.set_same _ _ _,hSP2.setP hp2⟩
  refine (s53 hF).Q ?_
  rintro r t ⟨ov,hv,rfl,ht⟩
  simp only [↓vcPre,↓z8,↓reduceIte,vcPost,vcStd,Nat.reduceEqDiff,reduceCtorEq,Nat.reduceAdd,Nat.reduceLeDiff,Int.reduceLT,Int.reduceLE,↓u_setN]
  exact EndQ.to _ _ rfl (Store.sub_refl _) ⟨ov,hv,rfl,ht⟩
end
end Go.Am
namespace Go.Am
open Go.Proofs Go.Sort
def lateN:Nt3:=⟨4,0,[]⟩
def tickT (S:Ses):Tri :=
 if S.st=2 then if 240≤S.silent+1 then endT ({ S with silent:=S.silent+1 },[],[]) lateN else ({ S with silent:=S.silent+1 },[],[])
 else if 2<S.st∧0<S.time then
  if S.time≤S.silent+1 then endT ({ S with silent:=S.silent+1,said:=S.said+1 },[],[]) lateN
  else if S.time / 3≤S.said+1 then sendT ({ S with silent:=S.silent+1,said:=S.said+1 },[],[]) 4 []
  else ({ S with silent:=S.silent+1,said:=S.said+1 },[],[])
 else (S,[],[])
section
variable {τ s:Store} {p:Nat} {S:Ses} {nn rr:Env→Store→Prop} {xx:Nat→Env→Store→Prop}
theorem z84 {x:Tri} (h:SFt τ p x s) (X:List (Nat×AV)) (hn:∀ s' ov hv,ST τ p x.1 x.2.1 x.2.2 ov hv s'→rr [(2,ov),(3,hv)] s'):bwp Tryz.prog Ts39.t34_76 ((0,.ptr p 0)::X) s nn rr xx:=by
 simp only [Ts39.t34_76]
 simp only [↓vcPre,↓z8,↓reduceIte,vcPost,vcStd,Nat.reduceEqDiff,reduceCtorEq,Nat.reduceAdd,Nat.reduceLeDiff,Int.reduceLT,Int.reduceLE,↓u_setN]
 refine (s53 h).Q ?_
 rintro r t ⟨ov,hv,rfl,ht⟩
 simp only [↓vcPre,↓z8,↓reduceIte,vcPost,vcStd,Nat.reduceEqDiff,reduceCtorEq,Nat.reduceAdd,Nat.reduceLeDiff,Int.reduceLT,Int.reduceLE,↓u_setN]
 exact hn _ _ _ ht
set_option maxHeartbeats 1000000 in
set_option maxRecDepth 20000 in
theorem s34 (h:SQ τ p S s) (h1:0≤S.silent∧S.silent≤1000000000) (h2:0≤S.said∧S.said≤1000000000) (h3:S.time≤1000000000):ACalls Tryz.prog 34 [.ptr p 0] s (fun r s'=>∃ ov hv,r = .tup [ov,hv]∧ST τ p (tickT S).1 (tickT S).2.1 (tickT S).2.2 ov hv s'):=by
 refine ze Ts39.F34 (by simp [Ts39.F34,Fn.mkX]) ?_
 simp only [Ts39.F34,Fn.mkX,Ts39.b34]
 have hS:=h
 obtain ⟨bv,hp,hSP⟩:=hS
 have w1:IntKind.i64.wrap (S.silent+1)=S.silent+1:=zd (by unfold I64;omega)
 have w2:IntKind.i64.wrap (S.said+1)=S.said+1:=zd (by unfold I64;omega)
 have fin:∀ x s',tickT S=x→SFt τ p x s'→∀ X,bwp Tryz.prog Ts39.t34_76 ((0,.ptr p 0)::X) s' (fun e τ' => @EndQ e τ' ⟨Tst.F34.slots,fun r s'=>∃ ov hv,r = .tup [ov,hv]∧ST τ p (tickT S).1 (tickT S).2.1 (tickT S).2.2 ov hv s'⟩) (fun e τ' => @EndQ e τ' ⟨Tst.F34.slots,fun r s'=>∃ ov hv,r = .tup [ov,hv]∧ST τ p (tickT S).1 (tickT S).2.1 (tickT S).2.2 ov hv s'⟩) (fun _ _ _=>False):=fun x s' e hx X=>by
  refine z84 hx X fun s2 ov hv h2 => ?_
  rw [e]
  exact EndQ.to _ _ rfl (Store.sub_refl _) ⟨ov,hv,rfl,h2⟩
 simp only [hp,zx,sc4,↓vcPre,↓z8,↓reduceIte,vcPost,vcStd,Nat.reduceEqDiff,reduceCtorEq,Nat.reduceAdd,Nat.reduceLeDiff,Int.reduceLT,Int.reduceLE,↓u_setN]
 refine ⟨fun c1 => ?_,fun c1=>⟨fun c2 => ?_,fun c2 => ?_⟩⟩
 ·simp only [hp,zx,sc8,sw8,w1,↓vcPre,↓z8,↓reduceIte,vcPost,vcStd,Nat.reduceEqDiff,reduceCtorEq,Nat.reduceAdd,Nat.reduceLeDiff,Int.reduceLT,Int.reduceLE,↓u_setN]
  have hF:SFt τ p ({ S with silent:=S.silent+1 },[],[]) (s.set p (.box (({ S with silent:=S.silent+1 }:Ses).c bv .nils .nils))):=⟨bv,.nils,.nils,Store.set_same _ _ _,hSP.setP hp⟩
  refine ⟨fun c3 => ?_,fun c3 => ?_⟩
  ·refine (z0b (n:=lateN) rfl (s51 hF (by simp) (by simp) lateN)).Q ?_
   rintro r s' ⟨rfl,h'⟩
   simp only [↓vcPre,↓z8,↓reduceIte,vcPost,vcStd,Nat.reduceEqDiff,reduceCtorEq,Nat.reduceAdd,Nat.reduceLeDiff,Int.reduceLT,Int.reduceLE,↓u_setN]
   exact fin (endT ({ S with silent:=S.silent+1 },[],[]) lateN) _ (by unfold tickT;rw [if_pos c1,if_pos (by omega)]) h' _
  ·exact fin _ _ (by unfold tickT;rw [if_pos c1,if_neg (by omega)]) hF _
 ·simp only [hp,zx,sc7,↓vcPre,↓z8,↓reduceIte,vcPost,vcStd,Nat.reduceEqDiff,reduceCtorEq,Nat.reduceAdd,Nat.reduceLeDiff,Int.reduceLT,Int.reduceLE,↓u_setN]
  refine ⟨fun c3 => ?_,fun c3 => ?_⟩
  ·have hq:IntKind.i64.wrap (S.time.tdiv 3)=S.time / 3:=by
    rw [Int.tdiv_eq_ediv_of_nonneg (by omega),zd (by unfold I64;omega)]
   simp only [hp,zx,sc8,sw8,w1,sc9,sw9,w2,sc7,hq,↓vcPre,↓z8,↓reduceIte,vcPost,vcStd,Nat.reduceEqDiff,reduceCtorEq,Nat.reduceAdd,Nat.reduceLeDiff,Int.reduceLT,Int.reduceLE,↓u_setN]
   simp only [Store.set_set]
   have hF:SFt τ p ({ S with silent:=S.silent+1,said:=S.said+1 },[],[]) (s.set p (.box (({ S with silent:=S.silent+1,said:=S.said+1 }:Ses).c bv .nils .nils))):=⟨bv,.nils,.nils,Store.set_same _ _ _,hSP.setP hp⟩
   refine ⟨fun c4 => ?_,fun c4 => ?_⟩
   ·refine (z0b (n:=lateN) rfl (s51 hF (by simp) (by simp) lateN)).Q ?_
    rintro r s' ⟨rfl,h'⟩
    simp only [↓vcPre,↓z8,↓reduceIte,vcPost,vcStd,Nat.reduceEqDiff,reduceCtorEq,Nat.reduceAdd,Nat.reduceLeDiff,Int.reduceLT,Int.reduceLE,↓u_setN]
    exact fin (endT ({ S with silent:=S.silent+1,said:=S.said+1 },[],[]) lateN) _ (by unfold tickT;rw [if_neg c1,if_pos (by omega),if_pos (by omega)]) h' _
   ·refine ⟨by decide,fun c5 => ?_,fun c5 => ?_⟩
    ·refine (s57 hF (by simp) 4 (body:=[]) Rd.nils (by simp)).Q ?_
     rintro r s' ⟨rfl,h'⟩
     simp only [↓vcPre,↓z8,↓reduceIte,vcPost,vcStd,Nat.reduceEqDiff,reduceCtorEq,Nat.reduceAdd,Nat.reduceLeDiff,Int.reduceLT,Int.reduceLE,↓u_setN]
     exact fin (sendT ({ S with silent:=S.silent+1,said:=S.said+1 },[],[]) 4 []) _ (by unfold tickT;rw [if_neg c1,if_pos (by omega),if_neg (by omega),if_pos (by omega)]) h' _
    ·exact fin _ _ (by unfold tickT;rw [if_neg c1,if_pos (by omega),if_neg (by omega),if_neg (by omega)]) hF _
  ·exact fin _ _ (by unfold tickT;rw [if_neg c1,if_neg (by omega)]) h.sf _
 ·exact fin _ _ (by unfold tickT;rw [if_neg c1,if_neg (by omega)]) h.sf _
end
end Go.Am
namespace Go.Am
open Go.Proofs Go.Sort
theorem zir {n:Int} (h:0≤n):shrInt .i64 n 8=n / 256:=by
 show n.fdiv 256=n / 256
 exact Int.fdiv_eq_ediv_of_nonneg n (by omega)
section
variable {σ:Store}
set_option maxHeartbeats 1000000 in
theorem s47 {B:List Int} {v:AV} (hr:Rd 1 σ (B.map cB) v) (hB:B.length≤1000000) (k:Int):ACalls Tryz.prog 47 [.int .i64 k,v] σ (fun r s=>Store.sub σ s∧∃ w,r = .tup [w,.int .i64 (joinF k B).2]∧Own 1 σ ((joinF k B).1.map cB) w s):=by
 refine ze Tst.F47 (by simp [Tst.F47,Fn.mkX]) ?_
 simp only [Tst.F47,Fn.mkX,Tst.b47]
 have lv:pv .len [v]=some (.int .i64 (B.length:Int)):=by rw [hr.2];simp
 have bad:∀ e,(joinF k B)=([],e) → @EndQ [(4,.nils),(5,.int .i64 e)] σ ⟨Tst.F47.slots,fun r s=>Store.sub σ s∧∃ w,r = .tup [w,.int .i64 (joinF k B).2]∧Own 1 σ ((joinF k B).1.map cB) w s⟩:=fun e h=>by
  rw [h]
  exact EndQ.to _ _ rfl (Store.sub_refl _) ⟨Store.sub_refl _,.nils,rfl,.inl ⟨rfl,rfl⟩⟩
 have w1:IntKind.i64.wrap ((B.length:Int)+19)=((B.length+19:Nat):Int):=by rw [zd (by unfold I64;omega)];omega
 simp only [lv,w1,↓vcPre,↓z8,↓reduceIte,vcPost,vcStd,Nat.reduceEqDiff,reduceCtorEq,Nat.reduceAdd,Nat.reduceLeDiff,Int.reduceLT,Int.reduceLE,↓u_setN]
 refine ⟨fun c1=>⟨fun c2 => ?_,fun c2=>⟨fun c3 => ?_,fun c3 => ?_⟩⟩,fun c1 => ?_⟩
 ·exact bad 23 (by unfold joinF;rw [if_pos (.inr c2)])
 ·exact bad 3 (by unfold joinF;rw [if_neg (by omega),if_pos (by omega)])
 ·have e3:joinF k B=(ones16++[((B.length+19:Nat):Int) / 256 % 256,((B.length+19:Nat):Int) % 256,k % 256]++B,0):=by unfold joinF;rw [if_neg (by omega),if_neg (by omega)]
  have a1:alv (.mksl 1 1) [AV.int .u8 255]=some (.arr 1 [[.int .u8 255]],fun id => .os id 1 0 1):=rfl
  refine LoopQ.inv (S:=Nat×AV×Store) (fun q=>[(0,.int .i64 k),(1,v),(6,.int .i64 ((B.length+19:Nat):Int)),(7,q.2.1),(8,.int .i64 (q.1:Int))]) (fun q=>q.2.2) (fun q=>q.1≤16∧Store.sub σ q.2.2∧Own 1 σ ((List.replicate q.1 (255:Int)).map cB) q.2.1 q.2.2) (fun q=>17 - q.1) (0,.nils,σ) rfl (Store.sub_refl _) ⟨by simp,Store.sub_refl _,.inl ⟨rfl,rfl⟩⟩ ?_
  rintro ⟨i,u,t⟩ ⟨hi,ht,hu⟩
  simp only at hi ht hu
  simp only [↓vcPre,↓z8,↓reduceIte,vcPost,vcStd,Nat.reduceEqDiff,reduceCtorEq,Nat.reduceAdd,Nat.reduceLeDiff,Int.reduceLT,Int.reduceLE,↓u_setN]
  refine ⟨fun c4 => ?_,fun c4 => ?_⟩
  ·have ei:IntKind.i64.wrap ((i:Int)+1)=((i+1:Nat):Int):=by rw [zd (by unfold I64;omega)];omega
   refine AllocQ.i0 fun q hq => ?_
   simp only [↓vcPre,↓z8,↓reduceIte,vcPost,vcStd,Nat.reduceEqDiff,reduceCtorEq,Nat.reduceAdd,Nat.reduceLeDiff,Int.reduceLT,Int.reduceLE,↓u_setN]
   have hs2:=Store.sub_set t q (.arr 1 [[.int .u8 255]]) hq
   refine Own.appM (τ:=σ) (Store.sub_trans ht hs2) (hu.mono hs2) (zq (Store.set_same _ _ _) rfl) (by simp;omega) fun v' s' q1 q2 => ?_
   rw [ei]
   refine NextQ.to (i+1,v',s') rfl (Store.sub_refl _) (by simp only;omega) ⟨by simp only;omega,q1,?_⟩
   simp only
   rw [List.replicate_succ',List.map_append]
   exact q2
  ·have hi16:i=16:=by omega
   subst hi16
   have a3:∀ x y z:Int,alv (.mksl 1 3) [AV.int .u8 x,.int .u8 y,.int .u8 z]=some (.arr 1 [cB x,cB y,cB z],fun id => .os id 1 0 3):=fun _ _ _=>rfl
   have sh:=zir (n:=((B.length+19:Nat):Int)) (by omega)
   simp only [a3,sh,↓vcPre,↓z8,↓reduceIte,vcPost,vcStd,Nat.reduceEqDiff,reduceCtorEq,Nat.reduceAdd,Nat.reduceLeDiff,Int.reduceLT,Int.reduceLE,↓u_setN]
   refine AllocQ.i0 fun q hq => ?_
   simp only [↓vcPre,↓z8,↓reduceIte,vcPost,vcStd,Nat.reduceEqDiff,reduceCtorEq,Nat.reduceAdd,Nat.reduceLeDiff,Int.reduceLT,Int.reduceLE,↓u_setN]
   rw [u8w,u8w,u8w]
   have hs2:=Store.sub_set t q (.arr 1 [cB (((B.length+19:Nat):Int) / 256 % 256),cB (((B.length+19:Nat):Int) % 256),cB (k % 256)]) hq
   refine Own.appM (τ:=σ) (Store.sub_trans ht hs2) (hu.mono hs2) (zq (Store.set_same _ _ _) rfl) (by simp) fun v' s' q1 q2 => ?_
   refine Own.appM (τ:=σ) q1 q2 (hr.1 _ q1) (by simp;omega) fun v2 s2 q3 q4 => ?_
   rw [e3]
   refine EndQ.to _ _ rfl (Store.sub_refl _) ⟨q3,v2,rfl,?_⟩
   have el:List.map cB (List.replicate 16 (255:Int))++[cB (((B.length+19:Nat):Int) / 256 % 256),cB (((B.length+19:Nat):Int) % 256),cB (k % 256)]++List.map cB B=(ones16++[((B.length+19:Nat):Int) / 256 % 256,((B.length+19:Nat):Int) % 256,k % 256]++B).map cB:=by
    simp [ones16]
   rw [←el]
   exact q4
 ·exact bad 23 (by unfold joinF;rw [if_pos (.inl c1)])
set_option maxHeartbeats 1000000 in
theorem s48 (h:Hel):ACalls Tryz.prog 48 [.agg h.c] σ (fun r s=>Store.sub σ s∧Own 1 σ ((encH h).map cB) r s):=by
 refine ze Tst.F48 (by simp [Tst.F48,Fn.mkX]) ?_
 simp only [Tst.F48,Fn.mkX,Tst.b48]
 have l3:h.c.length=3:=rfl
 have f0:List.take 1 h.c=[.int .i64 h.asn]:=rfl
 have f1:List.take 1 (List.drop 1 h.c)=[.int .i64 h.hold]:=rfl
 have f2:List.take 1 (List.drop 2 h.c)=[.int .u32 h.id]:=rfl
 simp only [↓vcPre,↓z8,↓reduceIte,vcPost,vcStd,Nat.reduceEqDiff,reduceCtorEq,Nat.reduceAdd,Nat.reduceLeDiff,Int.reduceLT,Int.reduceLE,↓u_setN]
 refine AllocQ.i0 fun p hp => ?_
 have sT:=Store.sub_set σ p (.box h.c) hp
 have Tp:=Store.set_same σ p (.box h.c)
 generalize σ.set p (.box h.c)=T at sT Tp ⊢
 simp only [Tp,l3,f0,f1,↓vcPre,↓z8,↓reduceIte,vcPost,vcStd,Nat.reduceEqDiff,reduceCtorEq,Nat.reduceAdd,Nat.reduceLeDiff,Int.reduceLT,Int.reduceLE,↓u_setN]
 refine AllocQ.i0 fun q hq => ?_
 have sU:=Store.sub_set T q (.arr 1 [[AV.int .u8 4]]) hq
 have rq:Rd 1 (T.set q (.arr 1 [[AV.int .u8 4]])) (([4]:List Int).map cB) (.os q 1 0 1):=Rd.os (Store.set_same _ _ _)
 simp only [↓vcPre,↓z8,↓reduceIte,vcPost,vcStd,Nat.reduceEqDiff,reduceCtorEq,Nat.reduceAdd,Nat.reduceLeDiff,Int.reduceLT,Int.reduceLE,↓u_setN]
 generalize T.set q (.arr 1 [[AV.int .u8 4]])=U at sU rq ⊢
 refine (s93 rq (by simp) h.asn).Q ?_
 rintro r s1 ⟨h1,h2⟩
 refine ⟨h1,?_⟩
 simp only [↓vcPre,↓z8,↓reduceIte,vcPost,vcStd,Nat.reduceEqDiff,reduceCtorEq,Nat.reduceAdd,Nat.reduceLeDiff,Int.reduceLT,Int.reduceLE,↓u_setN]
 refine (s93 (Rd.own h2) (by simp) h.hold).Q ?_
 rintro r s2 ⟨h3,h4⟩
 refine ⟨h3,?_⟩
 have T2:=h3 _ _ (h1 _ _ (sU _ _ Tp))
 simp only [T2,l3,f2,↓vcPre,↓z8,↓reduceIte,vcPost,vcStd,Nat.reduceEqDiff,reduceCtorEq,Nat.reduceAdd,Nat.reduceLeDiff,Int.reduceLT,Int.reduceLE,↓u_setN]
 refine (s94 (Rd.own h4) (by simp) h.id).Q ?_
 rintro r s3 ⟨h5,h6⟩
 have hσ3:=Store.sub_trans sT (Store.sub_trans sU (Store.sub_trans h1 (Store.sub_trans h3 h5)))
 have hσ2:=Store.sub_trans sT (Store.sub_trans sU (Store.sub_trans h1 h3))
 have a1:alv (.mksl 1 1) [AV.int .u8 0]=some (.arr 1 [cB 0],fun id => .os id 1 0 1):=rfl
 simp only [a1,↓vcPre,↓z8,↓reduceIte,vcPost,vcStd,Nat.reduceEqDiff,reduceCtorEq,Nat.reduceAdd,Nat.reduceLeDiff,Int.reduceLT,Int.reduceLE,↓u_setN]
 refine AllocQ.i0 fun q2 hq2 => ?_
 simp only [↓vcPre,↓z8,↓reduceIte,vcPost,vcStd,Nat.reduceEqDiff,reduceCtorEq,Nat.reduceAdd,Nat.reduceLeDiff,Int.reduceLT,Int.reduceLE,↓u_setN]
 have hs4:=Store.sub_set s3 q2 (.arr 1 [cB 0]) hq2
 refine Own.appM (τ:=σ) (Store.sub_trans hσ3 hs4) ((h6.weak hσ2).mono hs4) (zq (Store.set_same _ _ _) rfl) (by simp [b4]) fun v' s' q1 q2 => ?_
 refine EndQ.to _ _ rfl (Store.sub_refl _) ⟨q1,?_⟩
 have el:(([4]++[h.asn / 256 % 256,h.asn % 256]++[h.hold / 256 % 256,h.hold % 256]++b4 h.id).map cB++[cB 0])=(encH h).map cB:=by simp [encH]
 rw [←el]
 exact q2
end
end Go.Am
namespace Go.Am
open Go.Proofs Go.Sort
theorem zj4 {σ s:Store} {W N:List (Int×Int)} {wv nv:AV} {b:Bool} {ac:List AV} {a:At} {Q:AV→Store→Prop} (h:OwnW σ W wv N nv s) (hs:Store.sub σ s) (hac:ImpL ac a.c) (hQ:Q (.agg (⟨W,b,a,N⟩:Up).c) σ):Weak (.agg (wv :: .bool b::(ac++[nv]))) s Q:=by
 have h12:∀ v w:AV,(upC v b a w)[11]? = some w:=fun _ _=>rfl
 have s0:∀ u v w:AV,(upC v b a w).set 0 u=upC u b a w:=fun _ _ _=>rfl
 have s11:∀ u v w:AV,(upC v b a w).set 11 u=upC v b a u:=fun _ _ _=>rfl
 obtain ⟨h1,h2,h3⟩:=h
 have hf1:wv.flat=true:=by rcases h1 with ⟨_,rfl⟩ | ⟨g,rfl,_⟩ <;> rfl
 have hf2:nv.flat=true:=by rcases h2 with ⟨_,rfl⟩ | ⟨g,rfl,_⟩ <;> rfl
 have hi:ImpL (wv :: .bool b::(ac++[nv])) (upC wv b a nv) := .cons (.refl hf1) (.cons (.refl rfl) (hac.append (.cons (.refl hf2) .nil)))
 have hfl:∀ c ∈ (⟨W,b,a,N⟩:Up).c,c.flat=true:=by
  intro c hc
  simp only [Up.c,upC,At.c,List.mem_cons,List.mem_append,List.not_mem_nil,or_false] at hc
  rcases hc with rfl | rfl | (rfl | rfl | rfl | rfl | rfl | rfl | rfl | rfl | rfl) | rfl <;> rfl
 refine Weak.agg (WeakL.imp hi ?_)
 have last:∀ (t:Store),Store.sub σ t→Own 2 σ (N.map pxC) nv t→WeakL (upC (.sl 2 (W.map pxC)) b a nv) t (fun cs u=>(∀ c ∈ cs,c.flat=true)∧Q (.agg cs) u):=by
  intro t ht hn
  rcases hn with ⟨e,rfl⟩ | ⟨g,rfl,hg,hh⟩
  ·refine WeakL.nil 11 2 (h12 _ _) ?_
   rw [s11]
   have:N=[]:=List.map_eq_nil_iff.1 e
   subst this
   exact WeakL.forget ht (WeakL.pure ⟨hfl,hQ⟩)
  ·refine WeakL.freeze 11 (h12 _ _) hh (by omega) ?_
   rw [s11,List.drop_zero,List.take_of_length_le (Nat.le_refl _)]
   exact WeakL.forget (sub_del ht hg) (WeakL.pure ⟨hfl,hQ⟩)
 rcases h1 with ⟨e,rfl⟩ | ⟨g,rfl,hg,hh⟩
 ·refine WeakL.nil 0 2 rfl ?_
  rw [s0]
  have:W=[]:=List.map_eq_nil_iff.1 e
  subst this
  exact last s hs h2
 ·refine WeakL.freeze 0 rfl hh (by omega) ?_
  rw [s0,List.drop_zero,List.take_of_length_le (Nat.le_refl _)]
  refine last _ (sub_del hs hg) ?_
  rcases h2 with h2 | ⟨g2,f1,f2,f3⟩
  ·exact .inl h2
  ·exact .inr ⟨g2,f1,f2,by rw [Store.del_ne _ (fun e=>by subst e;exact h3 _ _ _ rfl f1)];exact f3⟩
def u16 (n:Nat):List Int:=[(n:Int) / 256 % 256,(n:Int) % 256]
theorem z4v {l:List (Int×Int)} (h:Rights l):U8s (encN l):=by
 intro x hx
 simp only [encN,List.mem_flatMap] at hx
 obtain ⟨p,hp,hx⟩:=hx
 have:=ve (h p hp)
 simp only [pxB,List.mem_cons] at hx
 rcases hx with rfl | hx
 ·omega
 ·exact z16 _ _ (List.mem_of_mem_take hx)
theorem zdy (n:Nat):U8s (u16 n):=by
 intro x hx
 simp only [u16,List.mem_cons,List.not_mem_nil,or_false] at hx
 omega
end Go.Am
namespace Go.Am
open Go.Proofs Go.Sort
theorem xa (u:Up):u.c.length=12:=rfl
end Go.Am
namespace Go.Am
open Go.Proofs Go.Sort
theorem zf7 (u v:Up):(u=v)↔(u.w=v.w∧u.has=v.has∧u.a=v.a∧u.n=v.n):=by
 constructor
 ·rintro rfl;exact ⟨rfl,rfl,rfl,rfl⟩
 ·rintro ⟨a,b,c,d⟩;cases u;cases v;simp_all
instance:DecidableEq Up:=fun u v=>decidable_of_iff _ (zf7 u v).symm
end Go.Am
namespace Go.Am.Ts5
open Go.Proofs Go.Am.B
def t95_37:BC := .seq (z [f 37 1 1,l 38 1 37] [1,38] (.cond (.t 38) (z [f 39 2 1,⟨some 40,none,.load (.ld 9 true),[.t 39]⟩,g 41 81 [.t 40],m 2 41] [2] .ret) .skip)) (z [f 42 2 1,⟨some 43,none,.load (.ld 9 true),[.t 42]⟩,⟨some 6,none,.alloc (.alloc [(.int .i64 0),.nils,(.int .u32 0),(.bool false),(.int .u32 0),(.bool false),(.int .u32 0),(.bool false),.nils]),[]⟩,s 9 6 43] [6] (z [f 44 0 6,l 45 1 44,c 46 .eql 45 0,m 47 46,⟨some 48,some (47,true),.pure (.fld 1),[.t 6]⟩,⟨some 49,some (47,true),.load (.ld 1 false),[.t 48]⟩,⟨some 50,some (47,true),.pure (.len),[.t 49]⟩,⟨some 51,some (47,true),.pure (.bin .eql),[.t 50,.c (.int .i64 0)]⟩,⟨some 52,none,.pick,[.t 47,.t 51,.c (.bool false)]⟩,m 53 52,⟨some 54,some (53,true),.pure (.fld 2),[.t 6]⟩,⟨some 55,some (53,true),.load (.ld 1 false),[.t 54]⟩,⟨some 56,some (53,true),.pure (.bin .eql),[.t 55,.c (.int .u32 0)]⟩,⟨some 57,none,.pick,[.t 53,.t 56,.c (.bool false)]⟩,m 58 57,⟨some 59,some (58,true),.pure (.fld 3),[.t 6]⟩,⟨some 60,some (58,true),.load (.ld 1 false),[.t 59]⟩,⟨some 61,some (58,true),.pure (.not),[.t 60]⟩,⟨some 62,none,.pick,[.t 58,.t 61,.c (.bool false)]⟩,m 63 62,⟨some 64,some (63,true),.pure (.fld 4),[.t 6]⟩,⟨some 65,some (63,true),.load (.ld 1 false),[.t 64]⟩,⟨some 66,some (63,true),.pure (.bin .eql),[.t 65,.c (.int .u32 0)]⟩,⟨some 67,none,.pick,[.t 63,.t 66,.c (.bool false)]⟩,m 68 67,⟨some 69,some (68,true),.pure (.fld 5),[.t 6]⟩,⟨some 70,some (68,true),.load (.ld 1 false),[.t 69]⟩,⟨some 71,some (68,true),.pure (.not),[.t 70]⟩,⟨some 72,none,.pick,[.t 68,.t 71,.c (.bool false)]⟩,m 73 72,⟨some 74,some (73,true),.pure (.fld 6),[.t 6]⟩,⟨some 75,some (73,true),.load (.ld 1 false),[.t 74]⟩,⟨some 76,some (73,true),.pure (.bin .eql),[.t 75,.c (.int .u32 0)]⟩,⟨some 77,none,.pick,[.t 73,.t 76,.c (.bool false)]⟩,m 78 77,⟨some 79,some (78,true),.pure (.fld 7),[.t 6]⟩,⟨some 80,some (78,true),.load (.ld 1 false),[.t 79]⟩,⟨some 81,some (78,true),.pure (.not),[.t 80]⟩,⟨some 82,none,.pick,[.t 78,.t 81,.c (.bool false)]⟩,m 83 82,⟨some 84,some (83,true),.pure (.fld 8),[.t 6]⟩,⟨some 85,some (83,true),.load (.ld 1 false),[.t 84]⟩,⟨some 86,some (83,true),.pure (.len),[.t 85]⟩,⟨some 87,some (83,true),.pure (.bin .eql),[.t 86,.c (.int .i64 0)]⟩,⟨some 88,none,.pick,[.t 83,.t 87,.c (.bool false)]⟩,m 2 88] [2] .ret))
def t95_30:BC := .seq (z [f 30 1 1,l 31 1 30,f 32 11 1,l 33 1 32,u 34 .len 33,c 35 .gtr 34 0,p 36 (.eqb true) [.t 31,.t 35]] [1,36] (.cond (.t 36) (z [k 2 (.bool false)] [2] .ret) .skip)) t95_37
def b95:BC:=z [⟨some 1,none,.alloc (.box),[.t 0]⟩,k 2 (.bool false)] [1] (.seq (z [f 7 0 1,l 8 1 7,f 9 11 1,l 10 1 9,⟨some 11,none,.alloc (.mksl 1 2),[.t 8,.t 10]⟩,u 12 .len 11,j 13 0] [1,11,12,13] (.block 0 (.loop [1,11,12,13] (z [b 14 .lss 13 12] [1,11,12,13,14] (.seq (.cond (.t 14) .skip (.exit 0)) (.seq (.block 1 (z [x 15 1 11 13,l 16 1 15,m 4 16] [1,4,11,12,13] (z [j 5 0] [1,4,5,11,12,13] (.block 2 (.loop [1,4,5,11,12,13] (.seq (z [m 17 5,m 18 4,u 19 .len 18,b 20 .lss 17 19] [1,4,5,11,12,13,20] (.cond (.t 20) .skip (.exit 2))) (.seq (.block 3 (z [m 23 4,m 24 5,x 25 2 23 24,⟨some 26,none,.load (.ld 2 true),[.t 25]⟩,g 27 80 [.t 26],u 28 .not 27] [1,4,5,11,12,13,28] (.cond (.t 28) (z [k 2 (.bool false)] [2] .ret) .skip))) (.ops [m 21 5,c 22 .add 21 1,m 5 22] [1,4,5,11,12,13])))))))) (.ops [c 29 .add 13 1,m 13 29] [1,11,12,13]))))))) t95_30)
def F95:Fn Tryz.prog 95:=Fn.mkX false b95 [.t 2] 89 Tryz.f95 _ Tryz.func95 (by decide) rfl Tryz.ntmps95 (by kernel_rfl) (by kernel_rfl)
end Go.Am.Ts5
namespace Go.Am
open Go.Proofs Go.Sort
def zAt (a:At):Bool:=decide (a.org=0∧a.path.length=0∧a.nxt=0∧a.hm=false∧a.med=0∧a.hp=false∧a.prf=0∧a.atm=false∧a.cms.length=0)
def rightU (u:Up):Bool:=(u.w.all fun p=>rightF p.1 p.2) && ((u.n.all fun p=>rightF p.1 p.2) && (decide (u.has=decide (0<u.n.length)) && (if u.has then decide (atRight u.a) else zAt u.a)))
set_option maxHeartbeats 2000000 in
theorem zdx {u:Up} (hu:u.a.ok) {T σ:Store} {p:Nat} {b:Bool} (Tp:T p=some (.box u.c)) (hs:Store.sub σ T) (n rr:Env→Store→Prop) {xx:Nat→Env→Store→Prop}
 (fin:∀ T',Store.sub σ T'→∀ r,r=(if u.has then decide (atRight u.a) else zAt u.a)→rr [(2,.bool r)] T') :
 bwp Tryz.prog Ts5.t95_37 [(1,.ptr p 0),(36,.bool b)] T n rr xx:=by
 simp only [Ts5.t95_37,z5h]
 have e9:∀ x:At,x.c.length=9:=fun _=>rfl
 have f1:∀ x:Up,List.take 1 (List.drop 1 x.c)=[.bool x.has]:=fun _=>rfl
 have f2:∀ x:Up,List.take 9 (List.drop 2 x.c)=x.a.c:=fun _=>rfl
 have spZ:∀ x:At,splice 0 x.c zC=some x.c:=fun _=>rfl
 simp only [Tp,f1,f2,xa,↓vcPre,↓z8,↓reduceIte,vcPost,vcStd,Nat.reduceEqDiff,reduceCtorEq,Nat.reduceAdd,Nat.reduceLeDiff,Int.reduceLT,Int.reduceLE,↓u_setN]
 cases hh:u.has with
 | true =>
   simp only [↓vcPre,↓z8,↓reduceIte,vcPost,vcStd,Nat.reduceEqDiff,reduceCtorEq,Nat.reduceAdd,Nat.reduceLeDiff,Int.reduceLT,Int.reduceLE,↓u_setN]
   refine (c81 _ hu).Q ?_
   simp only [↓vcPre,↓z8,↓reduceIte,vcPost,vcStd,Nat.reduceEqDiff,reduceCtorEq,Nat.reduceAdd,Nat.reduceLeDiff,Int.reduceLT,Int.reduceLE,↓u_setN]
   exact fin T hs _ (by rw [hh];rfl)
 | false =>
   simp only [↓vcPre,↓z8,↓reduceIte,vcPost,vcStd,Nat.reduceEqDiff,reduceCtorEq,Nat.reduceAdd,Nat.reduceLeDiff,Int.reduceLT,Int.reduceLE,↓u_setN]
   refine AllocQ.i0 fun q hq => ?_
   have g0:List.take 1 u.a.c=[.int .i64 u.a.org]:=rfl
   have g1:List.take 1 (List.drop 1 u.a.c)=[.sl 2 (u.a.path.map Seg.c)]:=rfl
   have g2:List.take 1 (List.drop 2 u.a.c)=[.int .u32 u.a.nxt]:=rfl
   have g3:List.take 1 (List.drop 3 u.a.c)=[.bool u.a.hm]:=rfl
   have g4:List.take 1 (List.drop 4 u.a.c)=[.int .u32 u.a.med]:=rfl
   have g5:List.take 1 (List.drop 5 u.a.c)=[.bool u.a.hp]:=rfl
   have g6:List.take 1 (List.drop 6 u.a.c)=[.int .u32 u.a.prf]:=rfl
   have g7:List.take 1 (List.drop 7 u.a.c)=[.bool u.a.atm]:=rfl
   have g8:List.take 1 (List.drop 8 u.a.c)=[.sl 1 (u.a.cms.map cU)]:=rfl
   have hT:=fin _ (zb (o := .box u.a.c) (Store.sub_trans hs (Store.sub_set T q (.box zC) hq)) (zo hs hq))
   rw [hh] at hT
   simp only [Bool.false_eq_true,if_false] at hT
   simp only [e9,spZ,g0,g1,g2,g3,g4,g5,g6,g7,g8,↓vcPre,↓z8,↓reduceIte,vcPost,vcStd,Nat.reduceEqDiff,reduceCtorEq,Nat.reduceAdd,Nat.reduceLeDiff,Int.reduceLT,Int.reduceLE,↓u_setN]
   have F:¬ (u.a.org=0∧u.a.path.length=0∧u.a.nxt=0∧u.a.hm=false∧u.a.med=0∧u.a.hp=false∧u.a.prf=0∧u.a.atm=false∧u.a.cms.length=0)→rr [(2,.bool false)] ((T.set q (.box zC)).set q (.box u.a.c)):=fun h=>hT false (decide_eq_false h).symm
   refine ⟨fun h0=>⟨fun h1=>⟨fun h2 => ?_,fun h=>F fun e=>h e.2.2.1⟩,fun h=>F fun e=>h (by rw [e.2.1];rfl)⟩,fun h=>F fun e=>h e.1⟩
   cases h3:u.a.hm with
   | true=>simp only [↓vcPre,↓z8,↓reduceIte,vcPost,vcStd,Nat.reduceEqDiff,reduceCtorEq,Nat.reduceAdd,Nat.reduceLeDiff,Int.reduceLT,Int.reduceLE,↓u_setN];exact F fun e=>by rw [h3] at e;exact absurd e.2.2.2.1 (by decide)
   | false =>
   simp only [↓vcPre,↓z8,↓reduceIte,vcPost,vcStd,Nat.reduceEqDiff,reduceCtorEq,Nat.reduceAdd,Nat.reduceLeDiff,Int.reduceLT,Int.reduceLE,↓u_setN]
   refine ⟨fun h4 => ?_,fun h=>F fun e=>h e.2.2.2.2.1⟩
   cases h5:u.a.hp with
   | true=>simp only [↓vcPre,↓z8,↓reduceIte,vcPost,vcStd,Nat.reduceEqDiff,reduceCtorEq,Nat.reduceAdd,Nat.reduceLeDiff,Int.reduceLT,Int.reduceLE,↓u_setN];exact F fun e=>by rw [h5] at e;exact absurd e.2.2.2.2.2.1 (by decide)
   | false =>
   simp only [↓vcPre,↓z8,↓reduceIte,vcPost,vcStd,Nat.reduceEqDiff,reduceCtorEq,Nat.reduceAdd,Nat.reduceLeDiff,Int.reduceLT,Int.reduceLE,↓u_setN]
   refine ⟨fun h6 => ?_,fun h=>F fun e=>h e.2.2.2.2.2.2.1⟩
   cases h7:u.a.atm with
   | true=>simp only [↓vcPre,↓z8,↓reduceIte,vcPost,vcStd,Nat.reduceEqDiff,reduceCtorEq,Nat.reduceAdd,Nat.reduceLeDiff,Int.reduceLT,Int.reduceLE,↓u_setN];exact F fun e=>by rw [h7] at e;exact absurd e.2.2.2.2.2.2.2.1 (by decide)
   | false =>
   simp only [↓vcPre,↓z8,↓reduceIte,vcPost,vcStd,Nat.reduceEqDiff,reduceCtorEq,Nat.reduceAdd,Nat.reduceLeDiff,Int.reduceLT,Int.reduceLE,↓u_setN]
   refine hT _ ?_
   unfold zAt
   rw [decide_eq_decide]
   exact ⟨fun h=>⟨h0,by omega,h2,h3,h4,h5,h6,h7,by omega⟩,fun h=>by rw [h.2.2.2.2.2.2.2.2];rfl⟩
end Go.Am
namespace Go.Am
open Go.Proofs Go.Sort
theorem qg {l:List (Int×Int)} {j:Nat} (hj:j<l.length) (h:(l.take j).all (fun p=>rightF p.1 p.2)=true) (h2:rightF l[j].1 l[j].2=true):(l.take (j+1)).all (fun p=>rightF p.1 p.2)=true:=by
 rw [List.take_succ_eq_append_getElem hj,List.all_append,h]
 simp [h2]
theorem z4n {l:List (Int×Int)} {j:Nat} (hj:j<l.length) (h2:rightF l[j].1 l[j].2=false):l.all (fun p=>rightF p.1 p.2)=false:=by
 rw [List.all_eq_false]
 exact ⟨l[j],List.getElem_mem hj,by simp [h2]⟩
set_option maxHeartbeats 2000000 in
theorem c95 (u:Up) (hu:u.a.ok) (lw:u.w.length≤1000000) (ln:u.n.length≤1000000):Pur Tryz.prog 95 [.agg u.c] (.bool (rightU u)):=by
 refine zw Ts5.F95 (by simp [Ts5.F95,Fn.mkX]) fun σ => ?_
 simp only [Ts5.F95,Fn.mkX,Ts5.b95]
 have f0:List.take 1 u.c=[.sl 2 (u.w.map pxC)]:=rfl
 have f1:List.take 1 (List.drop 1 u.c)=[.bool u.has]:=rfl
 have f11:List.take 1 (List.drop 11 u.c)=[.sl 2 (u.n.map pxC)]:=rfl
 have m2:∀ a b:List (List AV),alv (.mksl 1 2) [.sl 2 a,.sl 2 b]=some (.arr 1 [[.sl 2 a],[.sl 2 b]],fun id => .os id 1 0 2):=fun _ _=>rfl
 simp only [xa,↓vcPre,↓z8,↓reduceIte,vcPost,vcStd,Nat.reduceEqDiff,reduceCtorEq,Nat.reduceAdd,Nat.reduceLeDiff,Int.reduceLT,Int.reduceLE,↓u_setN]
 refine AllocQ.i0 fun p hp => ?_
 have hP:=Store.sub_set σ p (.box u.c) hp
 have P1:(σ.set p (.box u.c)) p=some (.box u.c):=Store.set_same _ _ _
 generalize σ.set p (.box u.c)=P at hP P1 ⊢
 simp only [P1,f0,f11,xa,m2,↓vcPre,↓z8,↓reduceIte,vcPost,vcStd,Nat.reduceEqDiff,reduceCtorEq,Nat.reduceAdd,Nat.reduceLeDiff,Int.reduceLT,Int.reduceLE,↓u_setN]
 refine AllocQ.i0 fun d hd => ?_
 simp only [↓vcPre,↓z8,↓reduceIte,vcPost,vcStd,Nat.reduceEqDiff,reduceCtorEq,Nat.reduceAdd,Nat.reduceLeDiff,Int.reduceLT,Int.reduceLE,↓u_setN]
 have hD:=Store.sub_set P d (.arr 1 [[.sl 2 (u.w.map pxC)],[.sl 2 (u.n.map pxC)]]) hd
 have D2:(P.set d (.arr 1 [[.sl 2 (u.w.map pxC)],[.sl 2 (u.n.map pxC)]])) d=some (.arr 1 [[.sl 2 (u.w.map pxC)],[.sl 2 (u.n.map pxC)]]):=Store.set_same _ _ _
 have D1:=hD _ _ P1
 generalize P.set d (.arr 1 [[.sl 2 (u.w.map pxC)],[.sl 2 (u.n.map pxC)]])=D at hD D1 D2 ⊢
 have hσD:=Store.sub_trans hP hD
 refine LoopQ.inv (S:=Nat) (fun k=>[(1,.ptr p 0),(11,.os d 1 0 2),(12,.int .i64 2),(13,.int .i64 (k:Int))]) (fun _=>D) (fun k=>k≤2∧(1≤k→u.w.all (fun p=>rightF p.1 p.2)=true)∧(2≤k→u.n.all (fun p=>rightF p.1 p.2)=true)) (fun k=>3 - k) 0 rfl (Store.sub_refl _) ⟨by omega,by omega,by omega⟩ ?_
 rintro k ⟨hk,hk1,hk2⟩
 simp only [↓vcPre,↓z8,↓reduceIte,vcPost,vcStd,Nat.reduceEqDiff,reduceCtorEq,Nat.reduceAdd,Nat.reduceLeDiff,Int.reduceLT,Int.reduceLE,↓u_setN]
 refine ⟨fun c1 => ?_,fun c1 => ?_⟩
 ·have hk4:k=0∨k=1:=by omega
  rcases hk4 with rfl | rfl
  ·simp only [D2,↓vcPre,↓z8,↓reduceIte,vcPost,vcStd,Nat.reduceEqDiff,reduceCtorEq,Nat.reduceAdd,Nat.reduceLeDiff,Int.reduceLT,Int.reduceLE,↓u_setN]
   refine ⟨by omega,by simp,?_⟩
   simp only [List.getElem_cons_zero,List.getElem_cons_succ]
   simp only [↓vcPre,↓z8,↓reduceIte,vcPost,vcStd,Nat.reduceEqDiff,reduceCtorEq,Nat.reduceAdd,Nat.reduceLeDiff,Int.reduceLT,Int.reduceLE,↓u_setN]
   refine LoopQ.inv (S:=Nat) (fun j=>[(1,.ptr p 0),(4,.sl 2 (u.w.map pxC)),(5,.int .i64 (j:Int)),(11,.os d 1 0 2),(12,.int .i64 2),(13,.int .i64 ((0:Nat):Int))]) (fun _=>D) (fun j=>j≤u.w.length∧(u.w.take j).all (fun p=>rightF p.1 p.2)=true) (fun j=>u.w.length+1 - j) 0 rfl (Store.sub_refl _) ⟨by omega,rfl⟩ ?_
   rintro j ⟨hj,ha⟩
   simp only [↓vcPre,↓z8,↓reduceIte,vcPost,vcStd,Nat.reduceEqDiff,reduceCtorEq,Nat.reduceAdd,Nat.reduceLeDiff,Int.reduceLT,Int.reduceLE,↓u_setN]
   refine ⟨fun c2 => ?_,fun c2 => ?_⟩
   ·have ej:IntKind.i64.wrap ((j:Int)+1)=((j+1:Nat):Int):=by rw [zd (by unfold I64;omega)];omega
    have hjl:j<u.w.length:=by omega
    simp only [pxC,↓vcPre,↓z8,↓reduceIte,vcPost,vcStd,Nat.reduceEqDiff,reduceCtorEq,Nat.reduceAdd,Nat.reduceLeDiff,Int.reduceLT,Int.reduceLE,↓u_setN]
    refine ⟨hjl,?_⟩
    refine (c80 _ _).Q ?_
    simp only [ej,↓vcPre,↓z8,↓reduceIte,vcPost,vcStd,Nat.reduceEqDiff,reduceCtorEq,Nat.reduceAdd,Nat.reduceLeDiff,Int.reduceLT,Int.reduceLE,↓u_setN]
    cases hg:rightF u.w[j].1 u.w[j].2 with
    | true =>
      simp only [↓vcPre,↓z8,↓reduceIte,vcPost,vcStd,Nat.reduceEqDiff,reduceCtorEq,Nat.reduceAdd,Nat.reduceLeDiff,Int.reduceLT,Int.reduceLE,↓u_setN]
      exact NextQ.to (j+1) rfl (Store.sub_refl _) (by omega) ⟨by omega,qg hjl ha hg⟩
    | false =>
      simp only [↓vcPre,↓z8,↓reduceIte,vcPost,vcStd,Nat.reduceEqDiff,reduceCtorEq,Nat.reduceAdd,Nat.reduceLeDiff,Int.reduceLT,Int.reduceLE,↓u_setN]
      have:=z4n hjl hg
      refine ⟨?_,hσD⟩
      simp [rightU,this]
   ·have hjl:j=u.w.length:=by omega
    rw [hjl,List.take_length] at ha
    refine NextQ.to 1 rfl (Store.sub_refl _) (by omega) ⟨by omega,?_,?_⟩
    ·intro _;first | exact ha | exact hk1 (by omega)
    ·intro h;first | exact ha | omega
  ·simp only [D2,↓vcPre,↓z8,↓reduceIte,vcPost,vcStd,Nat.reduceEqDiff,reduceCtorEq,Nat.reduceAdd,Nat.reduceLeDiff,Int.reduceLT,Int.reduceLE,↓u_setN]
   refine ⟨by omega,by simp,?_⟩
   simp only [List.getElem_cons_zero,List.getElem_cons_succ]
   simp only [↓vcPre,↓z8,↓reduceIte,vcPost,vcStd,Nat.reduceEqDiff,reduceCtorEq,Nat.reduceAdd,Nat.reduceLeDiff,Int.reduceLT,Int.reduceLE,↓u_setN]
   refine LoopQ.inv (S:=Nat) (fun j=>[(1,.ptr p 0),(4,.sl 2 (u.n.map pxC)),(5,.int .i64 (j:Int)),(11,.os d 1 0 2),(12,.int .i64 2),(13,.int .i64 ((1:Nat):Int))]) (fun _=>D) (fun j=>j≤u.n.length∧(u.n.take j).all (fun p=>rightF p.1 p.2)=true) (fun j=>u.n.length+1 - j) 0 rfl (Store.sub_refl _) ⟨by omega,rfl⟩ ?_
   rintro j ⟨hj,ha⟩
   simp only [↓vcPre,↓z8,↓reduceIte,vcPost,vcStd,Nat.reduceEqDiff,reduceCtorEq,Nat.reduceAdd,Nat.reduceLeDiff,Int.reduceLT,Int.reduceLE,↓u_setN]
   refine ⟨fun c2 => ?_,fun c2 => ?_⟩
   ·have ej:IntKind.i64.wrap ((j:Int)+1)=((j+1:Nat):Int):=by rw [zd (by unfold I64;omega)];omega
    have hjl:j<u.n.length:=by omega
    simp only [pxC,↓vcPre,↓z8,↓reduceIte,vcPost,vcStd,Nat.reduceEqDiff,reduceCtorEq,Nat.reduceAdd,Nat.reduceLeDiff,Int.reduceLT,Int.reduceLE,↓u_setN]
    refine ⟨hjl,?_⟩
    refine (c80 _ _).Q ?_
    simp only [ej,↓vcPre,↓z8,↓reduceIte,vcPost,vcStd,Nat.reduceEqDiff,reduceCtorEq,Nat.reduceAdd,Nat.reduceLeDiff,Int.reduceLT,Int.reduceLE,↓u_setN]
    cases hg:rightF u.n[j].1 u.n[j].2 with
    | true =>
      simp only [↓vcPre,↓z8,↓reduceIte,vcPost,vcStd,Nat.reduceEqDiff,reduceCtorEq,Nat.reduceAdd,Nat.reduceLeDiff,Int.reduceLT,Int.reduceLE,↓u_setN]
      exact NextQ.to (j+1) rfl (Store.sub_refl _) (by omega) ⟨by omega,qg hjl ha hg⟩
    | false =>
      simp only [↓vcPre,↓z8,↓reduceIte,vcPost,vcStd,Nat.reduceEqDiff,reduceCtorEq,Nat.reduceAdd,Nat.reduceLeDiff,Int.reduceLT,Int.reduceLE,↓u_setN]
      have:=z4n hjl hg
      refine ⟨?_,hσD⟩
      simp [rightU,this]
   ·have hjl:j=u.n.length:=by omega
    rw [hjl,List.take_length] at ha
    refine NextQ.to 2 rfl (Store.sub_refl _) (by omega) ⟨by omega,?_,?_⟩
    ·intro _;first | exact ha | exact hk1 (by omega)
    ·intro h;first | exact ha | omega
 ·have hk4:k=2:=by omega
  subst hk4
  have hw:=hk1 (by omega)
  have hn:=hk2 (by omega)
  simp only [Ts5.t95_30]
  simp only [D1,f1,f11,xa,↓vcPre,↓z8,↓reduceIte,vcPost,vcStd,Nat.reduceEqDiff,reduceCtorEq,Nat.reduceAdd,Nat.reduceLeDiff,Int.reduceLT,Int.reduceLE,↓u_setN]
  have hru:rightU u=(decide (u.has=decide (0<u.n.length)) && (if u.has then decide (atRight u.a) else zAt u.a)):=by
   unfold rightU;rw [hw,hn];rfl
  have hdn:(decide (u.has=decide (0<u.n.length))) = !(u.has != decide (0<(u.n.length:Int))):=by
   have e:decide (0<(u.n.length:Int))=decide (0<u.n.length):=decide_eq_decide.2 (by omega)
   rw [e]
   cases u.has <;> cases decide (0<u.n.length) <;> rfl
  rw [hdn] at hru
  cases hb:(u.has != decide (0<(u.n.length:Int))) with
  | true =>
    rw [hb] at hru
    simp only [↓vcPre,↓z8,↓reduceIte,vcPost,vcStd,Nat.reduceEqDiff,reduceCtorEq,Nat.reduceAdd,Nat.reduceLeDiff,Int.reduceLT,Int.reduceLE,↓u_setN]
    exact ⟨by rw [hru];rfl,hσD⟩
  | false =>
    rw [hb] at hru
    simp only [↓vcPre,↓z8,↓reduceIte,vcPost,vcStd,Nat.reduceEqDiff,reduceCtorEq,Nat.reduceAdd,Nat.reduceLeDiff,Int.reduceLT,Int.reduceLE,↓u_setN]
    exact zdx hu D1 hσD _ _ fun T' hs r hr=>⟨by rw [hru,←hr];rfl,hs⟩
end Go.Am
namespace Go.Am.Ts6
open Go.Proofs Go.Am.B
def t49_30:BC := .seq (z [m 30 4,u 31 .len 30,p 32 (.bin .add) [.c (.int .i64 4),.t 31],m 33 8,u 34 .len 33,b 35 .add 32 34,m 36 6,u 37 .len 36,b 38 .add 35 37,c 39 .gtr 38 4077] [4,6,8,39] (.cond (.t 39) (z [k 2 .nils,j 3 3] [2,3] .ret) .skip)) (z [m 40 4,u 41 .len 40,g 42 93 [.c .nils,.t 41],m 43 4,⟨some 44,none,.loud (.app 1 1),[.t 42,.t 43]⟩,m 9 44] [6,8,9] (z [m 45 9,m 46 8,u 47 .len 46,g 48 93 [.t 45,.t 47],m 49 8,⟨some 50,none,.loud (.app 1 1),[.t 48,.t 49]⟩,m 9 50] [6,9] (z [m 51 9,m 52 6,⟨some 53,none,.loud (.app 1 1),[.t 51,.t 52]⟩,m 2 53,j 3 0] [2,3] .ret)))
def b49:BC:=z [⟨some 1,none,.alloc (.box),[.t 0]⟩,k 2 .nils,j 3 0] [1] (.seq (z [⟨some 10,none,.load (.ld 12 true),[.t 1]⟩,g 11 95 [.t 10],u 12 .not 11] [1,12] (.cond (.t 12) (z [k 2 .nils,j 3 12] [2,3] .ret) .skip)) (z [f 14 0 1,l 15 1 14,g 16 96 [.t 15],m 13 16,e 17 0 13,e 18 1 13,m 4 17,m 5 18] [1,4] (z [f 20 11 1,l 21 1 20,g 22 96 [.t 21],m 19 22,e 23 0 19,e 24 1 19,m 6 23,m 7 24] [1,4,6] (z [k 8 .nils] [1,4,6,8] (.seq (z [f 25 1 1,l 26 1 25] [1,4,6,8,26] (.cond (.t 26) (.ops [f 27 2 1,⟨some 28,none,.load (.ld 9 true),[.t 27]⟩,g 29 87 [.t 28],m 8 29] [4,6,8]) .skip)) t49_30)))))
def F49:Fn Tryz.prog 49:=Fn.mkX false b49 [.t 2,.t 3] 54 Tryz.f49 _ Tryz.func49 (by decide) rfl Tryz.ntmps49 (by kernel_rfl) (by kernel_rfl)
end Go.Am.Ts6
namespace Go.Am
open Go.Proofs Go.Sort
def joinU (W A N:List Int):List Int:=u16 W.length++W++(u16 A.length++A)++N
theorem Own.down {esz:Nat} {σ τ s:Store} {L:List (List AV)} {v:AV} (h:Own esz τ L v s) (hs:Store.sub σ τ):Own esz σ L v s:=by
 rcases h with h | ⟨g,h1,h2,h3⟩
 ·exact .inl h
 ·exact .inr ⟨g,h1,zo hs h2,h3⟩
set_option maxHeartbeats 1000000 in
theorem z5c {W A N:List Int} {σ s:Store} {wv av nv:AV} (hs:Store.sub σ s) (hw:Rd 1 s (W.map cB) wv) (ha:Rd 1 s (A.map cB) av) (hn:Rd 1 s (N.map cB) nv) (lW:W.length≤10000000) (lA:A.length≤10000000) (lN:N.length≤10000000) (E:List (Nat×AV)) (hE:E=[(4,wv),(6,nv),(8,av)]∨∃ p,E=[(1,.ptr p 0),(4,wv),(6,nv),(8,av),(26,.bool false)]) {n rr:Env→Store→Prop} {xx:Nat→Env→Store→Prop}
 (long:4077<4+W.length+A.length+N.length→rr [(2,.nils),(3,.int .i64 3)] s)
 (fin:¬ 4077<4+W.length+A.length+N.length→∀ v s',Store.sub σ s'→Own 1 σ ((joinU W A N).map cB) v s'→rr [(2,v),(3,.int .i64 0)] s') :
 bwp Tryz.prog Ts6.t49_30 E s n rr xx:=by
 simp only [Ts6.t49_30]
 have lw:pv .len [wv]=some (.int .i64 (W.length:Int)):=by rw [hw.2];simp
 have la:pv .len [av]=some (.int .i64 (A.length:Int)):=by rw [ha.2];simp
 have ln:pv .len [nv]=some (.int .i64 (N.length:Int)):=by rw [hn.2];simp
 have w1:IntKind.i64.wrap (4+(W.length:Int))=4+(W.length:Int):=zd (by unfold I64;omega)
 have w2:IntKind.i64.wrap (4+(W.length:Int)+(A.length:Int))=4+(W.length:Int)+(A.length:Int):=zd (by unfold I64;omega)
 have w3:IntKind.i64.wrap (4+(W.length:Int)+(A.length:Int)+(N.length:Int))=4+(W.length:Int)+(A.length:Int)+(N.length:Int):=zd (by unfold I64;omega)
 rcases hE with rfl | ⟨p,rfl⟩
 all_goals
  simp only [lw,la,ln,w1,w2,w3,↓vcPre,↓z8,↓reduceIte,vcPost,vcStd,Nat.reduceEqDiff,reduceCtorEq,Nat.reduceAdd,Nat.reduceLeDiff,Int.reduceLT,Int.reduceLE,↓u_setN]
  refine ⟨fun c1=>long (by omega),fun c1 => ?_⟩
  refine (s93 (L:=[]) (v := .nils) Rd.nils (by simp) (W.length:Int)).Q ?_
  rintro r3 s3 ⟨hs3,h3⟩
  simp only [↓vcPre,↓z8,↓reduceIte,vcPost,vcStd,Nat.reduceEqDiff,reduceCtorEq,Nat.reduceAdd,Nat.reduceLeDiff,Int.reduceLT,Int.reduceLE,↓u_setN]
  refine Own.appM (bytes:=1) (τ:=s) hs3 h3 (hw.1 _ hs3) (by simp;omega) fun v4 s4 hs4 h4 => ?_
  have h4':Own 1 s ((u16 W.length++W).map cB) v4 s4:=by simpa [u16] using h4
  simp only [la,↓vcPre,↓z8,↓reduceIte,vcPost,vcStd,Nat.reduceEqDiff,reduceCtorEq,Nat.reduceAdd,Nat.reduceLeDiff,Int.reduceLT,Int.reduceLE,↓u_setN]
  refine (s93 (Rd.own h4') (by simp [u16];omega) (A.length:Int)).Q ?_
  rintro r5 s5 ⟨hs5,h5⟩
  simp only [↓vcPre,↓z8,↓reduceIte,vcPost,vcStd,Nat.reduceEqDiff,reduceCtorEq,Nat.reduceAdd,Nat.reduceLeDiff,Int.reduceLT,Int.reduceLE,↓u_setN]
  refine Own.appM (bytes:=1) (τ:=s4) hs5 h5 (ha.1 _ (Store.sub_trans hs4 hs5)) (by simp [u16];omega) fun v6 s6 hs6 h6 => ?_
  refine Own.appM (bytes:=1) (τ:=s4) hs6 h6 (hn.1 _ (Store.sub_trans hs4 hs6)) (by simp [u16];omega) fun v7 s7 hs7 h7 => ?_
  have h7':Own 1 s4 ((joinU W A N).map cB) v7 s7:=by simpa [u16,joinU] using h7
  exact fin (by omega) _ _ (Store.sub_trans hs (Store.sub_trans hs4 hs7)) (h7'.down (Store.sub_trans hs hs4))
end Go.Am
namespace Go.Am
open Go.Proofs Go.Sort
def aOf (u:Up):List Int:=if u.has then encA u.a else []
def encU9 (u:Up):List Int×Int:=if rightU u then if 4077<4+(encN u.w).length+(aOf u).length+(encN u.n).length then ([],3) else (joinU (encN u.w) (aOf u) (encN u.n),0) else ([],12)
theorem ql {u:Up} (h:rightU u=true):Rights u.w∧Rights u.n:=by
 unfold rightU at h
 rw [Bool.and_eq_true,Bool.and_eq_true,List.all_eq_true,List.all_eq_true] at h
 exact ⟨fun p hp=>h.1 p hp,fun p hp=>h.2.1 p hp⟩
set_option maxHeartbeats 1000000 in
theorem s49 (u:Up) (hu:u.a.ok) (lw:u.w.length≤100000) (ln:u.n.length≤100000) (he:u.has=true→encOk u.a∧(encA u.a).length≤10000000) (σ:Store):ACalls Tryz.prog 49 [.agg u.c] σ (fun r s=>Store.sub σ s∧∃ v,r = .tup [v,.int .i64 (encU9 u).2]∧Own 1 σ ((encU9 u).1.map cB) v s):=by
 refine ze Ts6.F49 (by simp [Ts6.F49,Fn.mkX]) ?_
 simp only [Ts6.F49,Fn.mkX,Ts6.b49]
 have f0:List.take 1 u.c=[.sl 2 (u.w.map pxC)]:=rfl
 have f1:List.take 1 (List.drop 1 u.c)=[.bool u.has]:=rfl
 have f2:List.take 9 (List.drop 2 u.c)=u.a.c:=rfl
 have f11:List.take 1 (List.drop 11 u.c)=[.sl 2 (u.n.map pxC)]:=rfl
 have t12:List.take 12 u.c=u.c:=rfl
 simp only [xa,↓vcPre,↓z8,↓reduceIte,vcPost,vcStd,Nat.reduceEqDiff,reduceCtorEq,Nat.reduceAdd,Nat.reduceLeDiff,Int.reduceLT,Int.reduceLE,↓u_setN]
 refine AllocQ.i0 fun p hp => ?_
 have hP:=Store.sub_set σ p (.box u.c) hp
 have P1:(σ.set p (.box u.c)) p=some (.box u.c):=Store.set_same _ _ _
 generalize σ.set p (.box u.c)=P at hP P1 ⊢
 simp only [P1,t12,xa,Nat.le_refl,↓vcPre,↓z8,↓reduceIte,vcPost,vcStd,Nat.reduceEqDiff,reduceCtorEq,Nat.reduceAdd,Nat.reduceLeDiff,Int.reduceLT,Int.reduceLE,↓u_setN]
 refine (c95 u hu (by omega) (by omega)).Q ?_
 simp only [↓vcPre,↓z8,↓reduceIte,vcPost,vcStd,Nat.reduceEqDiff,reduceCtorEq,Nat.reduceAdd,Nat.reduceLeDiff,Int.reduceLT,Int.reduceLE,↓u_setN]
 cases hr:rightU u with
 | false =>
   simp only [↓vcPre,↓z8,↓reduceIte,vcPost,vcStd,Nat.reduceEqDiff,reduceCtorEq,Nat.reduceAdd,Nat.reduceLeDiff,Int.reduceLT,Int.reduceLE,↓u_setN]
   have e:encU9 u=([],12):=by unfold encU9;rw [hr];rfl
   exact EndQ.to _ _ rfl (Store.sub_refl _) ⟨hP,.nils,by rw [e],by rw [e];exact .inl ⟨rfl,rfl⟩⟩
 | true =>
   obtain ⟨hrw,hrn⟩:=ql hr
   have e:encU9 u=if 4077<4+(encN u.w).length+(aOf u).length+(encN u.n).length then ([],3) else (joinU (encN u.w) (aOf u) (encN u.n),0):=by unfold encU9;rw [if_pos hr]
   have l1:=z0v u.w hrw
   have l2:=z0v u.n hrn
   simp only [P1,f0,xa,↓vcPre,↓z8,↓reduceIte,vcPost,vcStd,Nat.reduceEqDiff,reduceCtorEq,Nat.reduceAdd,Nat.reduceLeDiff,Int.reduceLT,Int.reduceLE,↓u_setN]
   refine (s96 u.w lw hrw P).Q ?_
   rintro r s1 ⟨hs1,wv,rfl,hw⟩
   have Q1:=hs1 _ _ P1
   simp only [Q1,f11,xa,↓vcPre,↓z8,↓reduceIte,vcPost,vcStd,Nat.reduceEqDiff,reduceCtorEq,Nat.reduceAdd,Nat.reduceLeDiff,Int.reduceLT,Int.reduceLE,↓u_setN]
   refine (s96 u.n ln hrn s1).Q ?_
   rintro r s2 ⟨hs2,nv,rfl,hn⟩
   have Q2:=hs2 _ _ Q1
   have rw1:Rd 1 s2 ((encN u.w).map cB) wv:=(Rd.own hw).mono hs2
   have rn1:Rd 1 s2 ((encN u.n).map cB) nv:=Rd.own hn
   have hσ2:Store.sub σ s2:=Store.sub_trans hP (Store.sub_trans hs1 hs2)
   simp only [Q2,f1,xa,↓vcPre,↓z8,↓reduceIte,vcPost,vcStd,Nat.reduceEqDiff,reduceCtorEq,Nat.reduceAdd,Nat.reduceLeDiff,Int.reduceLT,Int.reduceLE,↓u_setN]
   cases hh:u.has with
   | true =>
     obtain ⟨he1,he2⟩:=he hh
     simp only [Q2,f2,xa,↓vcPre,↓z8,↓reduceIte,vcPost,vcStd,Nat.reduceEqDiff,reduceCtorEq,Nat.reduceAdd,Nat.reduceLeDiff,Int.reduceLT,Int.reduceLE,↓u_setN]
     refine (s87 u.a he1 s2).Q ?_
     rintro y s3 ⟨hs3,hy⟩
     have ea:aOf u=encA u.a:=by unfold aOf;rw [hh];rfl
     rw [ea] at e
     simp only [↓vcPre,↓z8,↓reduceIte,vcPost,vcStd,Nat.reduceEqDiff,reduceCtorEq,Nat.reduceAdd,Nat.reduceLeDiff,Int.reduceLT,Int.reduceLE,↓u_setN]
     refine z5c (Store.sub_trans hσ2 hs3) (rw1.mono hs3) (Rd.own hy) (rn1.mono hs3) (by omega) he2 (by omega) _ (.inl rfl) (fun hL => ?_) (fun hL v s' hs' ho => ?_)
     ·rw [if_pos hL] at e
      exact EndQ.to _ _ rfl (Store.sub_refl _) ⟨Store.sub_trans hσ2 hs3,.nils,by rw [e],by rw [e];exact .inl ⟨rfl,rfl⟩⟩
     ·rw [if_neg hL] at e
      exact EndQ.to _ _ rfl (Store.sub_refl _) ⟨hs',v,by rw [e],by rw [e];exact ho⟩
   | false =>
     have ea:aOf u=[]:=by unfold aOf;rw [hh];rfl
     rw [ea] at e
     simp only [↓vcPre,↓z8,↓reduceIte,vcPost,vcStd,Nat.reduceEqDiff,reduceCtorEq,Nat.reduceAdd,Nat.reduceLeDiff,Int.reduceLT,Int.reduceLE,↓u_setN]
     refine z5c (A:=[]) hσ2 rw1 Rd.nils rn1 (by omega) (by simp) (by omega) _ (.inr ⟨p,rfl⟩) (fun hL => ?_) (fun hL v s' hs' ho => ?_)
     ·rw [if_pos hL] at e
      exact EndQ.to _ _ rfl (Store.sub_refl _) ⟨hσ2,.nils,by rw [e],by rw [e];exact .inl ⟨rfl,rfl⟩⟩
     ·rw [if_neg hL] at e
      exact EndQ.to _ _ rfl (Store.sub_refl _) ⟨hs',v,by rw [e],by rw [e];exact ho⟩
end Go.Am
namespace Go.Am
open Go.Proofs Go.Sort
structure Rule where
 ad:Int
 ln:Int
 fr:Int
 tl:Int
 cm:Int
 rj:Bool
 sp:Bool
 pf:Int
 sm:Bool
 md:Int
 pp:Int
 ac:Int
end Go.Am
namespace Go.Am
theorem Sim.obj {G:Gh} {σ:Store} {w:World} (hs:Sim G σ w) {p:Nat} {o o':Obj} (hp:σ p=some o) (h:∀ b base,G.ρ p=some (b,base)→ORel G w b base o→ORel G w b base o') :
 Sim G (σ.set p o') w∧Ext G σ w G (σ.set p o') w:=by
 have hset:∀ i oi,(σ.set p o') i=some oi→∃ oj,σ i=some oj:=fun i oi h=>by
  by_cases hi:i=p
  ·subst hi;exact ⟨o,hp⟩
  ·rw [Store.set_ne _ _ hi] at h;exact ⟨oi,h⟩
 refine ⟨{ lt:=hs.lt,fin:=hs.fin,blk:=hs.blk,used := ?_,inj := ?_,apart := ?_ },{ Ext.refl G σ w with newOwn := ?_,newId := ?_ }⟩
 ·intro i oi hi
  by_cases e:i=p
  ·subst e
   rw [Store.set_same] at hi;cases hi
   obtain ⟨c,bi,h2,h3⟩:=hs.used i _ hp
   exact ⟨c,bi,h2,h c bi h2 h3⟩
  ·rw [Store.set_ne _ _ e] at hi;exact hs.used i oi hi
 ·intro i j oi oj b bi bj h1 h2
  obtain ⟨a1,k1⟩:=hset i oi h1
  obtain ⟨a2,k2⟩:=hset j oj h2
  exact hs.inj i j a1 a2 b bi bj k1 k2
 ·intro i oi b bi h1
  obtain ⟨a1,k1⟩:=hset i oi h1
  exact hs.apart i a1 b bi k1
 ·rintro c ⟨i,oi,bi,h1,h2⟩
  obtain ⟨a1,k1⟩:=hset i oi h1
  exact .inl ⟨i,a1,bi,k1,h2⟩
 ·intro i oi h1;exact .inl (hset i oi h1)
theorem WeakE.frz {e:Env} {σ:Store} {Q:Env→Store→Prop} (t:Nat) {id esz off len:Nat} {es:List (List AV)} (ht:e.get t=some (.os id esz off len)) (hσ:σ id=some (.arr esz es)) (hle:off+len≤es.length)
 (h:WeakE ((t,.sl esz ((es.drop off).take len))::e) (σ.del id) Q):WeakE e σ Q:=fun G w vs hs hv=>by
 obtain ⟨x,hx,hr⟩:=hv t _ ht
 obtain ⟨G',h1,h2,h3⟩:=v9 hs hσ hle hr
 obtain ⟨G2,e2,σ2,g1,g2,g3,g4⟩:=h G' w vs h2 (fun u v hu=>by
  simp only [Env.get] at hu
  split at hu
  ·rename_i he;subst he;cases hu;exact ⟨x,hx,h3⟩
  ·obtain ⟨y,hy,hyr⟩:=hv u v hu;exact ⟨y,hy,h1.vrel hs hyr⟩)
 exact ⟨G2,e2,σ2,h1.trans g1,g2,g3,g4⟩
theorem WeakE.pure {e:Env} {σ:Store} {Q:Env→Store→Prop} (h:Q e σ):WeakE e σ Q:=fun G w vs hs hv=>⟨G,e,σ,Ext.refl _ _ _,hs,hv,h⟩
theorem WeakE.slot {e:Env} {σ:Store} {Q:Env→Store→Prop} (t:Nat) {a b:AV} (ht:e.get t=some a) (hab:∀ G w v,VRel G w a v→VRel G w b v) (h:WeakE ((t,b)::e) σ Q):WeakE e σ Q:=fun G w vs hs hv=>by
 obtain ⟨x,hx,hr⟩:=hv t _ ht
 exact h G w vs hs (fun u v hu=>by
  simp only [Env.get] at hu
  split at hu
  ·rename_i he;subst he;cases hu;exact ⟨x,hx,hab _ _ _ hr⟩
  ·exact hv u v hu)
theorem z57 (esz:Nat) (G:Gh) (w:World) (v:Value) (h:VRel G w .nils v):VRel G w (.sl esz []) v:=by
 have e:=h.of_nils;subst e;exact .sl0
theorem WeakE.nil {e:Env} {σ:Store} {Q:Env→Store→Prop} (t esz:Nat) (ht:e.get t=some .nils) (h:WeakE ((t,.sl esz [])::e) σ Q):WeakE e σ Q := .slot t ht (fun G w v h=>z57 esz G w v h) h
theorem WeakE.own {e:Env} {τ σ:Store} {Q:Env→Store→Prop} (t:Nat) {esz:Nat} {L:List (List AV)} {v:AV} (ht:e.get t=some v) (ho:Own esz τ L v σ) (hs:Store.sub τ σ)
 (h:∀ σ',Store.sub τ σ'→Store.sub σ' σ→(∀ i o,σ i=some o→(∀ n,v ≠ .os i esz 0 n)→σ' i=some o)→WeakE ((t,.sl esz L)::e) σ' Q):WeakE e σ Q:=by
 rcases ho with ⟨rfl,rfl⟩ | ⟨g,rfl,h2,h3⟩
 ·exact .nil t esz ht (h σ hs (Store.sub_refl _) fun _ _ h _=>h)
 ·refine .frz t ht h3 (by omega) ?_
  rw [List.drop_zero,List.take_length]
  refine h _ (sub_del hs h2) (fun j o hj => ?_) fun i o hi hn => ?_
  ·simp only [Store.del] at hj;split at hj
   ·cases hj
   ·exact hj
  ·rw [Store.del_ne _ (fun e=>hn _ (by rw [e]))];exact hi
theorem WeakE.frzBox {e:Env} {σ:Store} {Q:Env→Store→Prop} (p k:Nat) {id esz off len:Nat} {es:List (List AV)} {cs:List AV} (hp:σ p=some (.box cs)) (hk:cs[k]? = some (.os id esz off len)) (hσ:σ id=some (.arr esz es)) (hle:off+len≤es.length)
 (h:WeakE e ((σ.del id).set p (.box (cs.set k (.sl esz ((es.drop off).take len))))) Q):WeakE e σ Q:=fun G w vs hs hv=>by
 have hne:¬ p=id:=fun e=>by subst e;rw [hp] at hσ;cases hσ
 obtain ⟨b,base,hb,ho⟩:=hs.used p _ hp
 obtain ⟨hk',hk2⟩:=List.getElem?_eq_some_iff.1 hk
 cases ho with
 | box hh hsz hf hvv =>
   rename_i ccs ty
   have h0:=hvv k hk'
   rw [hk2] at h0
   obtain ⟨G',h1,h2,h3⟩:=v9 hs hσ hle h0
   have hp':(σ.del id) p=some (.box cs):=by rw [Store.del_ne _ hne];exact hp
   obtain ⟨h4,h5⟩:=h2.obj (o' := .box (cs.set k (.sl esz ((es.drop off).take len)))) hp' (fun b' base' hb' ho'=>by
    have e1:=h1.ρ _ _ hb
    rw [hb'] at e1;cases e1
    refine .box hh (by rw [List.length_set];exact hsz) (fun c hc => ?_) (fun i hi => ?_)
    ·rcases List.mem_or_eq_of_mem_set hc with hc | rfl
     ·exact hf c hc
     ·rfl
    ·by_cases hik:i=k
     ·subst hik;rw [List.getElem_set_self];exact h3
     ·rw [List.getElem_set_ne (fun e=>hik e.symm)]
      exact h1.vrel hs (hvv i (by simpa using hi)))
   have hx:=h1.trans h5
   obtain ⟨G2,e2,σ2,g1,g2,g3,g4⟩:=h G' w vs h4 (fun u v hu=>by
    obtain ⟨y,hy,hyr⟩:=hv u v hu;exact ⟨y,hy,h1.vrel hs hyr⟩)
   exact ⟨G2,e2,σ2,hx.trans g1,g2,g3,g4⟩
theorem WeakE.cell {e:Env} {σ:Store} {Q:Env→Store→Prop} (p k:Nat) {a b:AV} {cs:List AV} (hp:σ p=some (.box cs)) (hk:cs[k]? = some a) (hab:∀ G w v,VRel G w a v→VRel G w b v) (hbf:b.flat=true)
 (h:WeakE e (σ.set p (.box (cs.set k b))) Q):WeakE e σ Q:=fun G w vs hs hv=>by
 obtain ⟨hk',hk2⟩:=List.getElem?_eq_some_iff.1 hk
 obtain ⟨h4,h5⟩:=hs.obj (o' := .box (cs.set k b)) hp (fun b' base' hb' ho'=>by
  cases ho' with
  | box hh hsz hf hvv =>
    refine .box hh (by rw [List.length_set];exact hsz) (fun c hc => ?_) (fun i hi => ?_)
    ·rcases List.mem_or_eq_of_mem_set hc with hc | rfl
     ·exact hf c hc
     ·exact hbf
    ·by_cases hik:i=k
     ·subst hik;rw [List.getElem_set_self];have:=hvv i hk';rw [hk2] at this;exact hab _ _ _ this
     ·rw [List.getElem_set_ne (fun e=>hik e.symm)]
      exact hvv i (by simpa using hi))
 obtain ⟨G2,e2,σ2,g1,g2,g3,g4⟩:=h G w vs h4 hv
 exact ⟨G2,e2,σ2,h5.trans g1,g2,g3,g4⟩
end Go.Am
namespace Go.Am
theorem WeakE.boxImp {e:Env} {σ:Store} {Q:Env→Store→Prop} (p:Nat) {cs cs':List AV} (hp:σ p=some (.box cs)) (hi:ImpL cs cs') (h:WeakE e (σ.set p (.box cs')) Q):WeakE e σ Q:=fun G w vs hs hv=>by
 have hl:=hi.length
 obtain ⟨h4,h5⟩:=hs.obj (o' := .box cs') hp (fun b' base' hb' ho'=>by
  cases ho' with
  | box hh hsz hf hvv =>
    refine .box hh (by rw [←hl];exact hsz) (fun c hc=>hi.flat c hc) (fun i hx => ?_)
    have hi':i<cs.length:=by rw [hl];exact hx
    obtain ⟨b,hb,hr⟩:=hi.get i _ (List.getElem?_eq_getElem hi')
    rw [List.getElem?_eq_getElem hx] at hb;cases hb
    exact hr.2 _ _ _ (hvv i hi'))
 obtain ⟨G2,e2,σ2,g1,g2,g3,g4⟩:=h G w vs h4 hv
 exact ⟨G2,e2,σ2,h5.trans g1,g2,g3,g4⟩
theorem WeakE.ownBox {e:Env} {τ σ:Store} {Q:Env→Store→Prop} (p k:Nat) {esz:Nat} {L:List (List AV)} {v:AV} {cs:List AV} (hp:σ p=some (.box cs)) (hk:cs[k]? = some v) (ho:Own esz τ L v σ) (hs:Store.sub τ σ) (hτ:τ p=none)
 (h:∀ σ',Store.sub τ σ'→σ' p=some (.box (cs.set k (.sl esz L)))→(∀ i o,σ i=some o→i≠p→(∀ n,v ≠ .os i esz 0 n)→σ' i=some o)→WeakE e σ' Q):WeakE e σ Q:=by
 rcases ho with ⟨rfl,rfl⟩ | ⟨g,rfl,h2,h3⟩
 ·exact .cell p k hp hk (fun G w v h=>z57 esz G w v h) rfl (h _ (zb hs hτ) (Store.set_same _ _ _) fun i o hi hn _=>by rw [Store.set_ne _ _ hn];exact hi)
 ·refine .frzBox p k hp hk h3 (by omega) ?_
  rw [List.drop_zero,List.take_length]
  refine h _ (zb (sub_del hs h2) hτ) (Store.set_same _ _ _) fun i o hi hn hv => ?_
  rw [Store.set_ne _ _ hn,Store.del_ne _ (fun e=>hv _ (by rw [e]))];exact hi
theorem WeakE.mono {e:Env} {σ:Store} {Q Q':Env→Store→Prop} (h:WeakE e σ Q) (hq:∀ e s,Q e s→Q' e s):WeakE e σ Q':=fun G w vs hs hv=>by
 obtain ⟨G',e',s',h1,h2,h3,h4⟩:=h G w vs hs hv
 exact ⟨G',e',s',h1,h2,h3,hq _ _ h4⟩
end Go.Am
namespace Go.Am.Ts16
open Go.Proofs Go.Am.B
def t14_98:BC := .seq (.wk 19 (.ops [⟨some 98,none,.load (.ld 9 true),[.t 5]⟩,s 9 4 98] [4])) .ret
def t14_8:BC := .seq (.seq (.wk 12 (.ops [j 8 0] [2,4,5,8])) (.block 2 (.loop [2,4,5,8] (.seq (z [m 66 8,f 67 8 2,l 68 1 67,u 69 .len 68,b 70 .lss 66 69,m 71 70,⟨some 72,some (71,true),.pure (.mov),[.t 8]⟩,⟨some 73,some (71,true),.pure (.bin .lss),[.t 72,.c (.int .i64 2)]⟩,⟨some 74,none,.pick,[.t 71,.t 73,.c (.bool false)]⟩] [2,4,5,8,74] (.cond (.t 74) .skip (.exit 2))) (.seq (.block 3 (z [f 77 8 2,l 78 1 77,m 79 8,x 80 1 78 79,l 81 1 80,p 82 (.bin .rem) [.t 81,.c (.int .u32 5)],m 9 82] [2,4,5,8,9] (.seq (z [m 83 9,p 84 (.bin .eql) [.t 83,.c (.int .u32 4)]] [2,4,5,8,9,84] (.cond (.t 84) (.ops [f 85 8 2,l 86 1 85,m 87 8,x 88 1 86 87,l 89 1 88,p 90 (.bin .rem) [.t 89,.c (.int .u32 3)],p 91 (.bin .add) [.c (.int .u32 4294967040),.t 90],m 9 91] [2,4,5,8,9]) .skip)) (.ops [f 92 8 5,l 93 1 92,m 94 9,p 95 (.bin .add) [.t 94,.c (.int .u32 1)],g 96 40 [.t 93,.t 95],f 97 8 5,s 1 97 96] [2,4,5,8])))) (.ops [m 75 8,c 76 .add 75 1,m 8 76] [2,4,5,8])))))) t14_98
def t14_63:BC := .seq (.wk 11 (.ops [⟨some 63,none,.load (.ld 2 true),[.t 6]⟩,⟨some 64,none,.alloc (.mksl 2 1),[.t 63]⟩,f 65 1 5,s 1 65 64] [2,4,5])) t14_8
def t14_34:BC:=z [m 34 1,⟨some 35,none,.alloc (.mksl 1 1),[.t 34]⟩,p 36 (.build [(.int .i64 0),.nils] [(0,1),(1,1)]) [.c (.int .i64 2),.t 35],⟨some 6,none,.alloc (.alloc [(.int .i64 0),.nils]),[]⟩,s 2 6 36] [2,4,5,6] (.seq (z [j 7 0] [2,4,5,6,7] (.block 0 (.loop [2,4,5,6,7] (.seq (z [m 37 7,f 38 1 2,l 39 1 38,u 40 .len 39,b 41 .lss 37 40,m 42 41,⟨some 43,some (42,true),.pure (.mov),[.t 7]⟩,⟨some 44,some (42,true),.pure (.bin .lss),[.t 43,.c (.int .i64 2)]⟩,⟨some 45,none,.pick,[.t 42,.t 44,.c (.bool false)]⟩] [2,4,5,6,7,45] (.cond (.t 45) .skip (.exit 0))) (.seq (.block 1 (.ops [f 48 1 6,f 50 1 2,m 52 7,l 49 1 48,l 51 1 50,x 53 2 51 52,f 54 1 53,l 55 1 54,u 56 .len 55,c 57 .rem 56 4,u 58 (.conv .u32) 57,p 59 (.bin .add) [.c (.int .u32 64500),.t 58],⟨some 60,none,.alloc (.mksl 1 1),[.t 59]⟩,⟨some 61,none,.loud (.app 1 4),[.t 49,.t 60]⟩,f 62 1 6,s 1 62 61] [2,4,5,6,7])) (.ops [m 46 7,c 47 .add 46 1,m 7 47] [2,4,5,6,7])))))) t14_63)
def t14_27:BC := .seq (z [f 27 5 2,l 28 1 27] [1,2,4,5,28] (.cond (.t 28) (.ops [f 29 6 2,l 30 1 29,p 31 (.bin .rem) [.t 30,.c (.int .u32 3)],p 32 (.bin .add) [.c (.int .u32 100),.t 31],f 33 6 5,s 1 33 32] [1,2,4,5]) .skip)) t14_34
def b14:BC:=z [⟨some 2,none,.alloc (.box),[.t 0]⟩,⟨some 4,none,.alloc (.alloc [(.int .i64 0),.nils,(.int .u32 0),(.bool false),(.int .u32 0),(.bool false),(.int .u32 0),(.bool false),.nils]),[]⟩] [1,2,4] (z [f 10 0 2,f 13 2 2,f 16 3 2,f 18 5 2,l 11 1 10,l 14 1 13,l 17 1 16,l 19 1 18,⟨some 12,none,.qcall 22,[.t 11,.c (.int .i64 0),.c (.int .i64 2)]⟩,⟨some 15,none,.qcall 39,[.t 14]⟩,p 20 (.build [(.int .i64 0),.nils,(.int .u32 0),(.bool false),(.int .u32 0),(.bool false),(.int .u32 0),(.bool false),.nils] [(0,1),(2,1),(3,1),(5,1)]) [.t 12,.t 15,.t 17,.t 19],⟨some 5,none,.alloc (.alloc [(.int .i64 0),.nils,(.int .u32 0),(.bool false),(.int .u32 0),(.bool false),(.int .u32 0),(.bool false),.nils]),[]⟩,s 9 5 20] [1,2,4,5] (.seq (z [f 21 3 2,l 22 1 21] [1,2,4,5,22] (.cond (.t 22) (.ops [f 23 4 2,l 24 1 23,p 25 (.bin .rem) [.t 24,.c (.int .u32 3)],f 26 4 5,s 1 26 25] [1,2,4,5]) .skip)) t14_27))
def F14:Fn Tryz.prog 14:=Fn.mkW false [11,12,19] b14 [.c 4 9 true] 99 Tryz.f14 _ Tryz.func14 (by decide) rfl Tryz.ntmps14 (by kernel_rfl) (by kernel_rfl)
end Go.Am.Ts16
namespace Go.Am
open Go.Proofs Go.Sort
def prefixF (a n:Int):Int×Int:=ofF (bitInt .or .u32 167772160 (shlInt .u32 (Int.tmod a 64) 18)) (8+n % 7)
theorem c19 (a n:Int) (h:I64 n):Pur Tryz.prog 19 [.int .u32 a,.int .i64 n] (.agg [.int .u32 (prefixF a n).1,.int .i64 (prefixF a n).2]):=by
 refine zw Tst.F19 (by simp [Tst.F19,Fn.mkX]) fun σ => ?_
 simp only [Tst.F19,Fn.mkX,Tst.b19]
 simp only [↓vcPre,↓z8,↓reduceIte,vcPost,vcStd,Nat.reduceEqDiff,reduceCtorEq,Nat.reduceAdd,Nat.reduceLeDiff,Int.reduceLT,Int.reduceLE,↓u_setN]
 refine AllocQ.i0 fun i hi => ?_
 simp only [↓vcPre,↓z8,↓reduceIte,vcPost,vcStd,Nat.reduceEqDiff,reduceCtorEq,Nat.reduceAdd,Nat.reduceLeDiff,Int.reduceLT,Int.reduceLE,↓u_setN]
 have hw:=c22 n 0 6 h (by omega) (by omega) (by omega)
 have e:(0:Int)+n % (6 - 0+1)=n % 7:=by omega
 rw [e] at hw
 have h7:=Int.emod_nonneg n (b:=7) (by omega)
 have h8:=Int.emod_lt_of_pos n (b:=7) (by omega)
 have w1:IntKind.i64.wrap (8+n % 7)=8+n % 7:=zd (by unfold I64;omega)
 refine ⟨by decide,hw.Q ?_⟩
 simp only [w1,↓vcPre,↓z8,↓reduceIte,vcPost,vcStd,Nat.reduceEqDiff,reduceCtorEq,Nat.reduceAdd,Nat.reduceLeDiff,Int.reduceLT,Int.reduceLE,↓u_setN]
 refine (c45 _ _ (by unfold I64;omega)).Q ?_
 simp only [↓vcPre,↓z8,↓reduceIte,vcPost,vcStd,Nat.reduceEqDiff,reduceCtorEq,Nat.reduceAdd,Nat.reduceLeDiff,Int.reduceLT,Int.reduceLE,↓u_setN]
 exact ⟨⟨rfl,rfl⟩,zb (Store.sub_set σ i _ hi) hi⟩
theorem Own.split {esz:Nat} {τ s:Store} {L:List (List AV)} {v:AV} (hsub:Store.sub τ s) (ho:Own esz τ L v s):∃ τ0,Store.sub τ τ0∧Store.sub τ0 s∧(∀ j o,s j=some o→(∀ M,o ≠ .arr esz M)→τ0 j=some o)∧Own esz τ0 L v s:=by
 rcases ho with ⟨hk,hv⟩ | ⟨g,hv,hg,hs⟩
 ·exact ⟨s,hsub,Store.sub_refl _,fun _ _ h _=>h,.inl ⟨hk,hv⟩⟩
 ·exact ⟨s.del g,sub_del hsub hg,zz _ _,fun j o hj hn=>by rw [Store.del_ne _ (fun e=>by rw [e,hs] at hj;cases hj;exact hn _ rfl)];exact hj,.inr ⟨g,hv,by simp,hs⟩⟩
theorem Own.appP {esz bytes:Nat} {τ s:Store} {L ys:List (List AV)} {v wv:AV} {K:AV→Store→Prop} (hsub:Store.sub τ s) (ho:Own esz τ L v s) (hw:slc s esz wv=some ys) (hsz:(L.length+ys.length)*bytes≤140737488355328)
 (h:∀ v' s',Store.sub τ s'→Own esz τ (L++ys) v' s'→(∀ j o,s j=some o→(∀ M,o ≠ .arr esz M)→s' j=some o)→K v' s'):appwp esz bytes v wv s K:=by
 obtain ⟨τ0,q1,q2,q3,q4⟩:=Own.split hsub ho
 refine Own.appM (τ:=τ0) q2 q4 hw hsz fun v' s' hs' ho' => ?_
 exact h v' s' (Store.sub_trans q1 hs') (ho'.weak q1) fun j o hj hn=>hs' _ _ (q3 j o hj hn)
theorem zcz:[AV.int .i64 0,.nils,.int .u32 0,.bool false,.int .u32 0,.bool false,.int .u32 0,.bool false,.nils]=zCells:=rfl
def segN (s:Seg):Int:=IntKind.u32.wrap (64500+IntKind.u32.wrap (Int.tmod (s.ls.length:Int) 4))
def tcm (x:Int):Int:=IntKind.u32.wrap ((if Int.tmod x 5=4 then IntKind.u32.wrap (4294967040+Int.tmod x 3) else Int.tmod x 5)+1)
def tameC (l:List Int):List Int:=l.foldl (fun c x=>putL c (tcm x)) []
def tameA (a:At) (as1:Int):At:=⟨a.org % 3,[⟨2,as1::(a.path.take 2).map segN⟩],nextF a.nxt,a.hm,if a.hm then Int.tmod a.med 3 else 0,a.hp,if a.hp then IntKind.u32.wrap (100+Int.tmod a.prf 3) else 0,false,tameC (a.cms.take 2)⟩
section
variable {a:At} {as1:Int} {σ:Store} {n rr:Env→Store→Prop} {xx:Nat→Env→Store→Prop}
def tCells (a:At) (m p:Int) (pv cv:AV):List AV:=[.int .i64 (a.org % 3),pv,.int .u32 (nextF a.nxt),.bool a.hm,.int .u32 m,.bool a.hp,.int .u32 p,.bool false,cv]
theorem za0 {T:Store} {p4 p5:Nat} (ha:tameA a as1=⟨a.org % 3,(tameA a as1).path,nextF a.nxt,a.hm,(tameA a as1).med,a.hp,(tameA a as1).prf,false,(tameA a as1).cms⟩) {w:AV} {zc:List AV} (hz:zc.length=9) (h45:¬ p4=p5) (T4:T p4=some (.box zc)) (T5:T p5=some (.box (tCells a (tameA a as1).med (tameA a as1).prf (.sl 2 ((tameA a as1).path.map Seg.c)) w)))
 (ho:Own 1 σ ((tameA a as1).cms.map cU) w T) (hs:Store.sub σ T) (h4:σ p4=none) (h5:σ p5=none) (E:List (Nat×AV)) (v2:AV)
 (hr:∀ t',Store.sub σ t'→t' p4=some (.box (tameA a as1).c)→rr [(4,.ptr p4 0)] t'):bwp Tryz.prog Ts16.t14_98 ((2,v2)::(4,.ptr p4 0)::(5,.ptr p5 0)::E) T n rr xx:=by
 simp only [Ts16.t14_98]
 simp only [↓vcPre,↓z8,↓reduceIte,vcPost,vcStd,Nat.reduceEqDiff,reduceCtorEq,Nat.reduceAdd,Nat.reduceLeDiff,Int.reduceLT,Int.reduceLE,↓u_setN]
 refine WkQ.of (WeakE.ownBox (τ:=σ) p5 8 T5 rfl ho hs h5 fun U hU U5 hk=>WeakE.pure ?_)
 have U4:=hk p4 _ T4 h45 (fun m e=>by
  rcases ho with ⟨_,e2⟩ | ⟨g,e2,_,h3⟩
  ·rw [e2] at e;cases e
  ·rw [e2] at e;cases e;rw [T4] at h3;cases h3)
 have U5':U p5=some (.box (tameA a as1).c):=by rw [U5];rfl
 have e9:(tameA a as1).c.length=9:=rfl
 have t9:List.take 9 (tameA a as1).c=(tameA a as1).c:=rfl
 simp only [U5',U4,e9,t9,Nat.le_refl,↓vcPre,↓z8,↓reduceIte,vcPost,vcStd,Nat.reduceEqDiff,reduceCtorEq,Nat.reduceAdd,Nat.reduceLeDiff,Int.reduceLT,Int.reduceLE,↓u_setN]
 rw [xl _ _ (by rw [hz];rfl),y7]
 exact hr _ (zb hU h4) (Store.set_same _ _ _)
theorem z6h (l:List Int) (k:Nat) (h:k<l.length):tameC (l.take (k+1))=putL (tameC (l.take k)) (tcm l[k]):=by
 unfold tameC
 rw [ub _ _ h]
theorem z2w (l:List Int):(tameC l).length≤l.length:=by
 have:∀ (l:List Int) (b:List Int),(l.foldl (fun c x=>putL c (tcm x)) b).length≤b.length+l.length:=by
  intro l
  induction l with
  | nil=>intro b;simp
  | cons y r ih=>intro b;have h1:=ih (putL b (tcm y));have h2:=z3x b (tcm y);simp only [List.foldl_cons,List.length_cons];omega
 have:=this l []
 simpa [tameC] using this
set_option maxHeartbeats 1000000 in
theorem zbo {T:Store} {p2 p4 p5:Nat} (hac:True) {v5:AV} {zc:List AV} (hz:zc.length=9) (h45:¬ p4=p5) (h25:¬ p2=p5) (T2:T p2=some (.box a.c)) (T4:T p4=some (.box zc)) (T5:T p5=some (.box (tCells a (tameA a as1).med (tameA a as1).prf v5 .nils)))
 (hv:Own 2 σ ((tameA a as1).path.map Seg.c) v5 T) (hs:Store.sub σ T) (h2:σ p2=none) (h4:σ p4=none) (h5:σ p5=none) (E:List (Nat×AV))
 (hr:∀ t',Store.sub σ t'→t' p4=some (.box (tameA a as1).c)→rr [(4,.ptr p4 0)] t'):bwp Tryz.prog Ts16.t14_8 ((2,.ptr p2 0)::(4,.ptr p4 0)::(5,.ptr p5 0)::E) T n rr xx:=by
 simp only [Ts16.t14_8]
 have nb:∀ (q:Nat) (c:List AV),T q=some (.box c)→∀ m,v5 ≠ .os q 2 0 m:=fun q c h1 m e=>by
  rcases hv with ⟨_,e2⟩ | ⟨g,e2,_,h3⟩
  ·rw [e2] at e;cases e
  ·rw [e2] at e;cases e;rw [h1] at h3;cases h3
 simp only [↓vcPre,↓z8,↓reduceIte,vcPost,vcStd,Nat.reduceEqDiff,reduceCtorEq,Nat.reduceAdd,Nat.reduceLeDiff,Int.reduceLT,Int.reduceLE,↓u_setN]
 refine WkQ.of (WeakE.ownBox (τ:=σ) p5 1 T5 rfl hv hs h5 fun U hU U5 hk=>WeakE.pure ?_)
 have U2:=hk p2 _ T2 h25 (nb _ _ T2)
 have U4:=hk p4 _ T4 h45 (nb _ _ T4)
 have U5':U p5=some (.box (tCells a (tameA a as1).med (tameA a as1).prf (.sl 2 ((tameA a as1).path.map Seg.c)) .nils)):=by rw [U5];rfl
 have c8:∀ w:AV,List.take 1 (List.drop 8 (tCells a (tameA a as1).med (tameA a as1).prf (.sl 2 ((tameA a as1).path.map Seg.c)) w))=[w]:=fun _=>rfl
 have s8:∀ w w':AV,splice 8 [w'] (tCells a (tameA a as1).med (tameA a as1).prf (.sl 2 ((tameA a as1).path.map Seg.c)) w)=some (tCells a (tameA a as1).med (tameA a as1).prf (.sl 2 ((tameA a as1).path.map Seg.c)) w'):=fun _ _=>rfl
 have e9t:∀ w:AV,(tCells a (tameA a as1).med (tameA a as1).prf (.sl 2 ((tameA a as1).path.map Seg.c)) w).length=9:=fun _=>rfl
 have a8:List.take 1 (List.drop 8 a.c)=[.sl 1 (a.cms.map cU)]:=rfl
 have e9:a.c.length=9:=rfl
 simp only [↓vcPre,↓z8,↓reduceIte,vcPost,vcStd,Nat.reduceEqDiff,reduceCtorEq,Nat.reduceAdd,Nat.reduceLeDiff,Int.reduceLT,Int.reduceLE,↓u_setN]
 refine LoopQ.inv (S:=Nat×AV×Store) (fun q=>[(2,.ptr p2 0),(4,.ptr p4 0),(5,.ptr p5 0),(8,.int .i64 (q.1:Int))]) (fun q=>q.2.2)
  (fun q=>q.1≤a.cms.length∧q.1≤2∧Store.sub σ q.2.2∧q.2.2 p2=some (.box a.c)∧q.2.2 p4=some (.box zc)∧q.2.2 p5=some (.box (tCells a (tameA a as1).med (tameA a as1).prf (.sl 2 ((tameA a as1).path.map Seg.c)) q.2.1))∧Own 1 σ ((tameC (a.cms.take q.1)).map cU) q.2.1 q.2.2)
  (fun q=>3 - q.1) (0,.nils,U) rfl (Store.sub_refl _) ⟨by simp only;omega,by simp only;omega,hU,U2,U4,U5',Own.nil⟩ ?_
 rintro ⟨k,w,s⟩ ⟨hk1,hk2,i1,i2,i4,i5,i6⟩
 simp only at hk1 hk2 i1 i2 i4 i5 i6
 simp only [i2,a8,e9,↓vcPre,↓z8,↓reduceIte,vcPost,vcStd,Nat.reduceEqDiff,reduceCtorEq,Nat.reduceAdd,Nat.reduceLeDiff,Int.reduceLT,Int.reduceLE,↓u_setN]
 refine ⟨fun c1=>⟨fun c2 => ?_,fun c2 => ?_⟩,fun c1 => ?_⟩
 ·have ek:IntKind.i64.wrap ((k:Int)+1)=((k+1:Nat):Int):=by rw [zd (by unfold I64;omega)];omega
  refine ⟨c1,by simp [cU],?_⟩
  simp only [cU,i5,c8,e9t,↓vcPre,↓z8,↓reduceIte,vcPost,vcStd,Nat.reduceEqDiff,reduceCtorEq,Nat.reduceAdd,Nat.reduceLeDiff,Int.reduceLT,Int.reduceLE,↓u_setN]
  obtain ⟨τ0,q1,q2,q3,q4⟩:=Own.split i1 i6
  have hlen:=z2w (a.cms.take k)
  rw [List.length_take] at hlen
  have put:∀ y:Int,y=tcm a.cms[k]→ACalls Tryz.prog 40 [w,.int .u32 y] s (fun r s'=>Store.sub τ0 s'∧Own 1 τ0 ((tameC (a.cms.take (k+1))).map cU) r s'):=fun y hy=>by
   subst hy
   rw [z6h _ _ c1]
   exact s40 q2 _ _ (by omega) q4
  have done:∀ r s',Store.sub τ0 s'→Own 1 τ0 ((tameC (a.cms.take (k+1))).map cU) r s'→Store.sub σ (s'.set p5 (.box (tCells a (tameA a as1).med (tameA a as1).prf (.sl 2 ((tameA a as1).path.map Seg.c)) r)))∧(s'.set p5 (.box (tCells a (tameA a as1).med (tameA a as1).prf (.sl 2 ((tameA a as1).path.map Seg.c)) r))) p2=some (.box a.c)∧(s'.set p5 (.box (tCells a (tameA a as1).med (tameA a as1).prf (.sl 2 ((tameA a as1).path.map Seg.c)) r))) p4=some (.box zc)∧Own 1 σ ((tameC (a.cms.take (k+1))).map cU) r (s'.set p5 (.box (tCells a (tameA a as1).med (tameA a as1).prf (.sl 2 ((tameA a as1).path.map Seg.c)) r))):=fun r s' z1 z2=>by
   have z5:=z1 _ _ (q3 _ _ i5 (fun M e=>by cases e))
   exact ⟨zb (Store.sub_trans q1 z1) h5,by rw [Store.set_ne _ _ h25];exact z1 _ _ (q3 _ _ i2 (fun M e=>by cases e)),by rw [Store.set_ne _ _ h45];exact z1 _ _ (q3 _ _ i4 (fun M e=>by cases e)),(z2.weak q1).setId z5 (fun M e=>by cases e)⟩
  have fin:∀ y:Int,y=tcm a.cms[k]→ACalls Tryz.prog 40 [w,.int .u32 y] s (fun r s'=>r.isTup=false∧r.cells=[r]∧s' p5=some (.box (tCells a (tameA a as1).med (tameA a as1).prf (.sl 2 ((tameA a as1).path.map Seg.c)) w))∧Store.sub τ0 s'∧Own 1 τ0 ((tameC (a.cms.take (k+1))).map cU) r s'):=fun y hy=>(put y hy).mono fun r s' ⟨z1,z2⟩=>⟨z2.cell.1,z2.cell.2,z1 _ _ (q3 _ _ i5 (fun M e=>by cases e)),z1,z2⟩
  refine ⟨by decide,fun g=>⟨c1,by decide,?_⟩,fun g => ?_⟩
  ·refine (fin _ (by unfold tcm;rw [if_pos g])).Q ?_
   rintro r s' ⟨f1,f2,f3,z1,z2⟩
   simp only [f1,f2,f3,s8,ek,↓vcPre,↓z8,↓reduceIte,vcPost,vcStd,Nat.reduceEqDiff,reduceCtorEq,Nat.reduceAdd,Nat.reduceLeDiff,Int.reduceLT,Int.reduceLE,↓u_setN]
   obtain ⟨d1,d2,d3,d4⟩:=done r s' z1 z2
   exact NextQ.to (k+1,r,_) rfl (Store.sub_refl _) (by simp only;omega) ⟨by simp only;omega,by simp only;omega,d1,d2,d3,Store.set_same _ _ _,d4⟩
  ·refine (fin _ (by unfold tcm;rw [if_neg g])).Q ?_
   rintro r s' ⟨f1,f2,f3,z1,z2⟩
   simp only [f1,f2,f3,s8,ek,↓vcPre,↓z8,↓reduceIte,vcPost,vcStd,Nat.reduceEqDiff,reduceCtorEq,Nat.reduceAdd,Nat.reduceLeDiff,Int.reduceLT,Int.reduceLE,↓u_setN]
   obtain ⟨d1,d2,d3,d4⟩:=done r s' z1 z2
   exact NextQ.to (k+1,r,_) rfl (Store.sub_refl _) (by simp only;omega) ⟨by simp only;omega,by simp only;omega,d1,d2,d3,Store.set_same _ _ _,d4⟩
 all_goals
  have e:a.cms.take k=a.cms.take 2:=by
   by_cases h:k=2
   ·rw [h]
   ·rw [List.take_of_length_le (by omega),List.take_of_length_le (by omega)]
  rw [e] at i6
  exact za0 (as1:=as1) rfl hz h45 i4 i5 i6 i1 h4 h5 _ _ hr
theorem z47 {T:Store} {p2 p4 p5 p6:Nat} {L:List Int} {v:AV} (hac:True) {zc:List AV} (hz:zc.length=9) (h45:¬ p4=p5) (h25:¬ p2=p5) (h26:¬ p2=p6) (h46:¬ p4=p6) (h56:¬ p5=p6) (T2:T p2=some (.box a.c)) (T4:T p4=some (.box zc)) (T5:T p5=some (.box (tCells a (tameA a as1).med (tameA a as1).prf .nils .nils)))
 (T6:T p6=some (.box [.int .i64 2,v])) (hL:(tameA a as1).path=[⟨2,L⟩]) (ho:Own 1 σ (L.map cU) v T) (hs:Store.sub σ T) (h2:σ p2=none) (h4:σ p4=none) (h5:σ p5=none) (h6:σ p6=none) (E:List (Nat×AV))
 (hr:∀ t',Store.sub σ t'→t' p4=some (.box (tameA a as1).c)→rr [(4,.ptr p4 0)] t'):bwp Tryz.prog Ts16.t14_63 ((2,.ptr p2 0)::(4,.ptr p4 0)::(5,.ptr p5 0)::(6,.ptr p6 0)::E) T n rr xx:=by
 simp only [Ts16.t14_63]
 have nb:∀ (q:Nat) (c:List AV),T q=some (.box c)→∀ m,v ≠ .os q 1 0 m:=fun q c h1 m e=>by
  rcases ho with ⟨_,e2⟩ | ⟨g,e2,_,h3⟩
  ·rw [e2] at e;cases e
  ·rw [e2] at e;cases e;rw [h1] at h3;cases h3
 simp only [↓vcPre,↓z8,↓reduceIte,vcPost,vcStd,Nat.reduceEqDiff,reduceCtorEq,Nat.reduceAdd,Nat.reduceLeDiff,Int.reduceLT,Int.reduceLE,↓u_setN]
 refine WkQ.of (WeakE.ownBox (τ:=σ) p6 1 T6 rfl ho hs h6 fun U hU U6 hk=>WeakE.pure ?_)
 have U2:=hk p2 _ T2 h26 (nb _ _ T2)
 have U4:=hk p4 _ T4 h46 (nb _ _ T4)
 have U5:=hk p5 _ T5 h56 (nb _ _ T5)
 have U6':U p6=some (.box [.int .i64 2,.sl 1 (L.map cU)]):=U6
 simp only [U6',↓vcPre,↓z8,↓reduceIte,vcPost,vcStd,Nat.reduceEqDiff,reduceCtorEq,Nat.reduceAdd,Nat.reduceLeDiff,Int.reduceLT,Int.reduceLE,↓u_setN]
 refine AllocQ.i0 fun d hd => ?_
 have h5d:¬ p5=d:=fun e=>by subst e;rw [U5] at hd;cases hd
 have hd5:¬ d=p5:=fun e=>h5d e.symm
 have h2d:¬ p2=d:=fun e=>by subst e;rw [U2] at hd;cases hd
 have h4d:¬ p4=d:=fun e=>by subst e;rw [U4] at hd;cases hd
 have sp1:splice 1 [.os d 2 0 1] (tCells a (tameA a as1).med (tameA a as1).prf .nils .nils)=some (tCells a (tameA a as1).med (tameA a as1).prf (.os d 2 0 1) .nils):=rfl
 simp only [U5,h5d,hd5,sp1,↓vcPre,↓z8,↓reduceIte,vcPost,vcStd,Nat.reduceEqDiff,reduceCtorEq,Nat.reduceAdd,Nat.reduceLeDiff,Int.reduceLT,Int.reduceLE,↓u_setN]
 have hσd:σ d=none:=zo hU hd
 have V5:((U.set d (.arr 2 [[.int .i64 2,.sl 1 (L.map cU)]])).set p5 (.box (tCells a (tameA a as1).med (tameA a as1).prf (.os d 2 0 1) .nils))) p5=some (.box (tCells a (tameA a as1).med (tameA a as1).prf (.os d 2 0 1) .nils)):=Store.set_same _ _ _
 have hv:Own 2 σ ((tameA a as1).path.map Seg.c) (.os d 2 0 1) ((U.set d (.arr 2 [[.int .i64 2,.sl 1 (L.map cU)]])).set p5 (.box (tCells a (tameA a as1).med (tameA a as1).prf (.os d 2 0 1) .nils))):=by
  rw [hL]
  exact .inr ⟨d,rfl,hσd,by rw [Store.set_ne _ _ hd5];exact Store.set_same _ _ _⟩
 refine zbo hac hz h45 h25 ?_ ?_ V5 hv (zb (zb hU hσd) h5) h2 h4 h5 _ hr
 ·rw [Store.set_ne _ _ h25,Store.set_ne _ _ h2d];exact U2
 ·rw [Store.set_ne _ _ h45,Store.set_ne _ _ h4d];exact U4
set_option maxHeartbeats 1000000 in
theorem z46 {T:Store} {p2 p4 p5:Nat} (hac:True) {zc:List AV} (hz:zc.length=9) (h45:¬ p4=p5) (h25:¬ p2=p5) (T2:T p2=some (.box a.c)) (T4:T p4=some (.box zc)) (T5:T p5=some (.box (tCells a (tameA a as1).med (tameA a as1).prf .nils .nils)))
 (hs:Store.sub σ T) (h2:σ p2=none) (h4:σ p4=none) (h5:σ p5=none) (e:Env) {bb:Bool} (he:e=[(1,.int .u32 as1),(2,.ptr p2 0),(4,.ptr p4 0),(5,.ptr p5 0)]∨e=[(1,.int .u32 as1),(2,.ptr p2 0),(4,.ptr p4 0),(5,.ptr p5 0),(28,.bool bb)])
 (hr:∀ t',Store.sub σ t'→t' p4=some (.box (tameA a as1).c)→rr [(4,.ptr p4 0)] t'):bwp Tryz.prog Ts16.t14_34 e T n rr xx:=by
 simp only [Ts16.t14_34]
 have a1:List.take 1 (List.drop 1 a.c)=[.sl 2 (a.path.map Seg.c)]:=rfl
 have e9:a.c.length=9:=rfl
 rcases he with rfl | rfl
 all_goals
  simp only [↓vcPre,↓z8,↓reduceIte,vcPost,vcStd,Nat.reduceEqDiff,reduceCtorEq,Nat.reduceAdd,Nat.reduceLeDiff,Int.reduceLT,Int.reduceLE,↓u_setN]
  refine AllocQ.i0 fun q hq => ?_
  simp only [↓vcPre,↓z8,↓reduceIte,vcPost,vcStd,Nat.reduceEqDiff,reduceCtorEq,Nat.reduceAdd,Nat.reduceLeDiff,Int.reduceLT,Int.reduceLE,↓u_setN]
  refine AllocQ.i1 fun p6 h6q hq6 hp6 => ?_
  have sp0:splice 0 [.int .i64 2,.os q 1 0 1] [.int .i64 0,.nils]=some [.int .i64 2,.os q 1 0 1]:=rfl
  simp only [sp0,h6q,hq6,↓vcPre,↓z8,↓reduceIte,vcPost,vcStd,Nat.reduceEqDiff,reduceCtorEq,Nat.reduceAdd,Nat.reduceLeDiff,Int.reduceLT,Int.reduceLE,↓u_setN]
  have h2q:¬ p2=q:=fun e=>by subst e;rw [T2] at hq;cases hq
  have h4q:¬ p4=q:=fun e=>by subst e;rw [T4] at hq;cases hq
  have h5q:¬ p5=q:=fun e=>by subst e;rw [T5] at hq;cases hq
  have h26:¬ p2=p6:=fun e=>by subst e;rw [T2] at hp6;cases hp6
  have h46:¬ p4=p6:=fun e=>by subst e;rw [T4] at hp6;cases hp6
  have h56:¬ p5=p6:=fun e=>by subst e;rw [T5] at hp6;cases hp6
  have hσq:σ q=none:=zo hs hq
  have hσ6:σ p6=none:=zo hs hp6
  have sU:Store.sub T (((T.set q (.arr 1 [[.int .u32 as1]])).set p6 (.box [.int .i64 0,.nils])).set p6 (.box [.int .i64 2,.os q 1 0 1])):=zb (y0 hq hp6 h6q) hp6
  have U6:(((T.set q (.arr 1 [[.int .u32 as1]])).set p6 (.box [.int .i64 0,.nils])).set p6 (.box [.int .i64 2,.os q 1 0 1])) p6=some (.box [.int .i64 2,.os q 1 0 1]):=Store.set_same _ _ _
  have oU:Own 1 σ (([as1]:List Int).map cU) (.os q 1 0 1) (((T.set q (.arr 1 [[.int .u32 as1]])).set p6 (.box [.int .i64 0,.nils])).set p6 (.box [.int .i64 2,.os q 1 0 1])) := .inr ⟨q,rfl,hσq,by rw [Store.set_ne _ _ hq6,Store.set_ne _ _ hq6];exact Store.set_same _ _ _⟩
  generalize ((T.set q (.arr 1 [[.int .u32 as1]])).set p6 (.box [.int .i64 0,.nils])).set p6 (.box [.int .i64 2,.os q 1 0 1])=U at sU U6 oU ⊢
  refine LoopQ.inv (S:=Nat×AV×Store) (fun w=>[(2,.ptr p2 0),(4,.ptr p4 0),(5,.ptr p5 0),(6,.ptr p6 0),(7,.int .i64 (w.1:Int))]) (fun w=>w.2.2)
   (fun w=>w.1≤a.path.length∧w.1≤2∧Store.sub σ w.2.2∧w.2.2 p2=some (.box a.c)∧w.2.2 p4=some (.box zc)∧w.2.2 p5=some (.box (tCells a (tameA a as1).med (tameA a as1).prf .nils .nils))∧w.2.2 p6=some (.box [.int .i64 2,w.2.1])∧Own 1 σ ((as1::(a.path.take w.1).map segN).map cU) w.2.1 w.2.2)
   (fun w=>3 - w.1) (0,.os q 1 0 1,U) rfl (Store.sub_refl _) ⟨by simp only;omega,by simp only;omega,Store.sub_trans hs sU,sU _ _ T2,sU _ _ T4,sU _ _ T5,U6,oU⟩ ?_
  rintro ⟨k,w,s⟩ ⟨hk1,hk2,i1,i2,i4,i5,i6,i7⟩
  simp only at hk1 hk2 i1 i2 i4 i5 i6 i7
  simp only [i2,a1,e9,↓vcPre,↓z8,↓reduceIte,vcPost,vcStd,Nat.reduceEqDiff,reduceCtorEq,Nat.reduceAdd,Nat.reduceLeDiff,Int.reduceLT,Int.reduceLE,↓u_setN]
  refine ⟨fun c1=>⟨fun c2 => ?_,fun c2 => ?_⟩,fun c1 => ?_⟩
  rotate_left 1
  ·have e:a.path.take k=a.path.take 2:=by
    have:k=2:=by omega
    rw [this]
   rw [e] at i7
   exact z47 hac hz h45 h25 h26 h46 h56 i2 i4 i5 i6 rfl i7 i1 h2 h4 h5 hσ6 _ hr
  ·have e:a.path.take k=a.path.take 2:=by
    rw [List.take_of_length_le (by omega),List.take_of_length_le (by omega)]
   rw [e] at i7
   exact z47 hac hz h45 h25 h26 h46 h56 i2 i4 i5 i6 rfl i7 i1 h2 h4 h5 hσ6 _ hr
  ·have ek:IntKind.i64.wrap ((k:Int)+1)=((k+1:Nat):Int):=by rw [zd (by unfold I64;omega)];omega
   simp only [i2,i6,a1,e9,↓vcPre,↓z8,↓reduceIte,vcPost,vcStd,Nat.reduceEqDiff,reduceCtorEq,Nat.reduceAdd,Nat.reduceLeDiff,Int.reduceLT,Int.reduceLE,↓u_setN]
   refine ⟨c1,by simp [Seg.c],?_⟩
   simp only [Seg.c,↓vcPre,↓z8,↓reduceIte,vcPost,vcStd,Nat.reduceEqDiff,reduceCtorEq,Nat.reduceAdd,Nat.reduceLeDiff,Int.reduceLT,Int.reduceLE,↓u_setN]
   refine ⟨by decide,AllocQ.i0 fun d hd => ?_⟩
   simp only [↓vcPre,↓z8,↓reduceIte,vcPost,vcStd,Nat.reduceEqDiff,reduceCtorEq,Nat.reduceAdd,Nat.reduceLeDiff,Int.reduceLT,Int.reduceLE,↓u_setN]
   have hseg:IntKind.u32.wrap (64500+IntKind.u32.wrap (Int.tmod ((a.path[k]'c1).ls.length:Int) 4))=segN (a.path[k]'c1):=rfl
   rw [hseg]
   have sd:=Store.sub_set s d (.arr 1 [[.int .u32 (segN (a.path[k]'c1))]]) hd
   refine Own.appP (bytes:=4) (τ:=σ) (ys:=[[.int .u32 (segN (a.path[k]'c1))]]) (Store.sub_trans i1 sd) (i7.mono sd) (zq (Store.set_same _ _ _) rfl) (by simp;omega) fun v' s' hs' ho' hk' => ?_
   have z2:=hk' _ _ (sd _ _ i2) (fun M e=>by cases e)
   have z4:=hk' _ _ (sd _ _ i4) (fun M e=>by cases e)
   have z5:=hk' _ _ (sd _ _ i5) (fun M e=>by cases e)
   have z6:=hk' _ _ (sd _ _ i6) (fun M e=>by cases e)
   have spx:∀ x y:AV,splice 1 [x] [.int .i64 2,y]=some [.int .i64 2,x]:=fun _ _=>rfl
   simp only [z6,ho'.cell.1,ho'.cell.2,spx,ek,↓vcPre,↓z8,↓reduceIte,vcPost,vcStd,Nat.reduceEqDiff,reduceCtorEq,Nat.reduceAdd,Nat.reduceLeDiff,Int.reduceLT,Int.reduceLE,↓u_setN]
   refine NextQ.to (k+1,v',s'.set p6 (.box [.int .i64 2,v'])) rfl (Store.sub_refl _) (by simp only;omega) ⟨by simp only;omega,by simp only;omega,zb hs' hσ6,(Store.set_ne _ _ h26).trans z2,(Store.set_ne _ _ h46).trans z4,(Store.set_ne _ _ h56).trans z5,Store.set_same _ _ _,?_⟩
   have ex:((as1::(a.path.take (k+1)).map segN).map cU)=((as1::(a.path.take k).map segN).map cU)++[[.int .u32 (segN (a.path[k]'c1))]]:=by
    rw [List.take_succ_eq_append_getElem c1,List.map_append,←List.cons_append,List.map_append];rfl
   simp only
   rw [ex]
   exact ho'.setId z6 (fun M e=>by cases e)
theorem z9z {T:Store} {p2 p4 p5:Nat} (hac:True) {zc:List AV} (hz:zc.length=9) (h45:¬ p4=p5) (h25:¬ p2=p5) (T2:T p2=some (.box a.c)) (T4:T p4=some (.box zc)) (T5:T p5=some (.box (tCells a (tameA a as1).med 0 .nils .nils)))
 (hs:Store.sub σ T) (h2:σ p2=none) (h4:σ p4=none) (h5:σ p5=none) (E:List (Nat×AV))
 (hr:∀ t',Store.sub σ t'→t' p4=some (.box (tameA a as1).c)→rr [(4,.ptr p4 0)] t'):bwp Tryz.prog Ts16.t14_27 ((1,.int .u32 as1)::(2,.ptr p2 0)::(4,.ptr p4 0)::(5,.ptr p5 0)::E) T n rr xx:=by
 simp only [Ts16.t14_27]
 have a5:List.take 1 (List.drop 5 a.c)=[.bool a.hp]:=rfl
 have a6:List.take 1 (List.drop 6 a.c)=[.int .u32 a.prf]:=rfl
 have e9:a.c.length=9:=rfl
 simp only [T2,a5,e9,↓vcPre,↓z8,↓reduceIte,vcPost,vcStd,Nat.reduceEqDiff,reduceCtorEq,Nat.reduceAdd,Nat.reduceLeDiff,Int.reduceLT,Int.reduceLE,↓u_setN]
 have hpf:(tameA a as1).prf=if a.hp then IntKind.u32.wrap (100+Int.tmod a.prf 3) else 0:=rfl
 cases h:a.hp
 ·rw [h] at hpf
  simp only [Bool.false_eq_true,if_false] at hpf
  rw [←hpf] at T5
  simp only [↓vcPre,↓z8,↓reduceIte,vcPost,vcStd,Nat.reduceEqDiff,reduceCtorEq,Nat.reduceAdd,Nat.reduceLeDiff,Int.reduceLT,Int.reduceLE,↓u_setN]
  exact z46 hac hz h45 h25 T2 T4 T5 hs h2 h4 h5 _ (.inr rfl) hr
 ·rw [h] at hpf
  simp only [if_true] at hpf
  have s6:∀ y:Int,splice 6 [.int .u32 y] (tCells a (tameA a as1).med 0 .nils .nils)=some (tCells a (tameA a as1).med y .nils .nils):=fun _=>rfl
  simp only [T2,T5,a6,e9,s6,↓vcPre,↓z8,↓reduceIte,vcPost,vcStd,Nat.reduceEqDiff,reduceCtorEq,Nat.reduceAdd,Nat.reduceLeDiff,Int.reduceLT,Int.reduceLE,↓u_setN]
  refine ⟨by decide,?_⟩
  rw [←hpf]
  exact z46 (bb:=true) hac hz h45 h25 (by rw [Store.set_ne _ _ h25];exact T2) (by rw [Store.set_ne _ _ h45];exact T4) (Store.set_same _ _ _) (zb hs h5) h2 h4 h5 _ (.inl rfl) hr
end
set_option maxHeartbeats 1000000 in
theorem c14 (a:At) (ho:I64 a.org) (as1:Int):Pur Tryz.prog 14 [.agg a.c,.int .u32 as1] (.agg (tameA a as1).c):=by
 refine zw Ts16.F14 (by simp [Ts16.F14,Fn.mkW]) fun σ => ?_
 simp only [Ts16.F14,Fn.mkW,Ts16.b14,zcz]
 have e9:∀ x:At,x.c.length=9:=fun _=>rfl
 have t9:∀ x:At,List.take 9 x.c=x.c:=fun _=>rfl
 have a0:List.take 1 a.c=[.int .i64 a.org]:=rfl
 have a2:List.take 1 (List.drop 2 a.c)=[.int .u32 a.nxt]:=rfl
 have a3:List.take 1 (List.drop 3 a.c)=[.bool a.hm]:=rfl
 have a4:List.take 1 (List.drop 4 a.c)=[.int .u32 a.med]:=rfl
 have a5:List.take 1 (List.drop 5 a.c)=[.bool a.hp]:=rfl
 simp only [↓vcPre,↓z8,↓reduceIte,vcPost,vcStd,Nat.reduceEqDiff,reduceCtorEq,Nat.reduceAdd,Nat.reduceLeDiff,Int.reduceLT,Int.reduceLE,↓u_setN]
 refine AllocQ.i0 fun p2 hp2 => ?_
 simp only [↓vcPre,↓z8,↓reduceIte,vcPost,vcStd,Nat.reduceEqDiff,reduceCtorEq,Nat.reduceAdd,Nat.reduceLeDiff,Int.reduceLT,Int.reduceLE,↓u_setN]
 refine AllocQ.i1 fun p4 h42 h24 hp4 => ?_
 simp only [↓vcPre,↓z8,↓reduceIte,vcPost,vcStd,Nat.reduceEqDiff,reduceCtorEq,Nat.reduceAdd,Nat.reduceLeDiff,Int.reduceLT,Int.reduceLE,↓u_setN]
 have sT:Store.sub σ ((σ.set p2 (.box a.c)).set p4 (.box zCells)):=y0 hp2 hp4 h42
 have T4:((σ.set p2 (.box a.c)).set p4 (.box zCells)) p4=some (.box zCells):=Store.set_same _ _ _
 have T2:((σ.set p2 (.box a.c)).set p4 (.box zCells)) p2=some (.box a.c):=by rw [Store.set_ne _ _ h24];exact Store.set_same _ _ _
 generalize (σ.set p2 (.box a.c)).set p4 (.box zCells)=T at sT T4 T2 ⊢
 simp only [T2,a0,a2,a3,a5,e9,↓vcPre,↓z8,↓reduceIte,vcPost,vcStd,Nat.reduceEqDiff,reduceCtorEq,Nat.reduceAdd,Nat.reduceLeDiff,Int.reduceLT,Int.reduceLE,↓u_setN]
 have hw:=c22 a.org 0 2 ho (by omega) (by omega) (by omega)
 rw [show (0:Int)+a.org % (2 - 0+1)=a.org % 3 by omega] at hw
 refine hw.Q ?_
 simp only [T2,a2,e9,↓vcPre,↓z8,↓reduceIte,vcPost,vcStd,Nat.reduceEqDiff,reduceCtorEq,Nat.reduceAdd,Nat.reduceLeDiff,Int.reduceLT,Int.reduceLE,↓u_setN]
 refine (c39 a.nxt).Q ?_
 simp only [T2,a3,a5,e9,↓vcPre,↓z8,↓reduceIte,vcPost,vcStd,Nat.reduceEqDiff,reduceCtorEq,Nat.reduceAdd,Nat.reduceLeDiff,Int.reduceLT,Int.reduceLE,↓u_setN]
 have sp0:splice 0 [AV.int .i64 (a.org % 3)] zCells=some [.int .i64 (a.org % 3),.nils,.int .u32 0,.bool false,.int .u32 0,.bool false,.int .u32 0,.bool false,.nils]:=rfl
 have sp2:splice 2 [AV.int .u32 (nextF a.nxt)] [.int .i64 (a.org % 3),.nils,.int .u32 0,.bool false,.int .u32 0,.bool false,.int .u32 0,.bool false,.nils]=some [.int .i64 (a.org % 3),.nils,.int .u32 (nextF a.nxt),.bool false,.int .u32 0,.bool false,.int .u32 0,.bool false,.nils]:=rfl
 have sp3:splice 3 [AV.bool a.hm] [.int .i64 (a.org % 3),.nils,.int .u32 (nextF a.nxt),.bool false,.int .u32 0,.bool false,.int .u32 0,.bool false,.nils]=some [.int .i64 (a.org % 3),.nils,.int .u32 (nextF a.nxt),.bool a.hm,.int .u32 0,.bool false,.int .u32 0,.bool false,.nils]:=rfl
 have sp5:splice 5 [AV.bool a.hp] [.int .i64 (a.org % 3),.nils,.int .u32 (nextF a.nxt),.bool a.hm,.int .u32 0,.bool false,.int .u32 0,.bool false,.nils]=some (tCells a 0 0 .nils .nils):=rfl
 simp only [sp0,sp2,sp3,sp5,y7]
 refine AllocQ.i0 fun p5 hp5 => ?_
 have h25:¬ p2=p5:=fun e=>by subst e;rw [T2] at hp5;cases hp5
 have h45:¬ p4=p5:=fun e=>by subst e;rw [T4] at hp5;cases hp5
 have h52:¬ p5=p2:=fun e=>h25 e.symm
 have hσ5:σ p5=none:=zo sT hp5
 have hz:zCells.length=9:=rfl
 have et:∀ m p v w,(tCells a m p v w).length=9:=fun _ _ _ _=>rfl
 have hs9:splice 0 (tCells a 0 0 .nils .nils) zCells=some (tCells a 0 0 .nils .nils):=rfl
 have hm:(tameA a as1).med=if a.hm then Int.tmod a.med 3 else 0:=rfl
 have s4:∀ y:Int,splice 4 [.int .u32 y] (tCells a 0 0 .nils .nils)=some (tCells a y 0 .nils .nils):=fun _=>rfl
 have fin:∀ t',Store.sub σ t'→t' p4=some (.box (tameA a as1).c)→(fun (e:Env) (τ:Store)=>((e.get 4).bind fun p=>Option.map AV.agg (rd τ 9 p))=some (AV.agg (tameA a as1).c)∧Store.sub σ τ) [(4,.ptr p4 0)] t':=fun t' h1 h2=>by
  refine ⟨?_,h1⟩
  have hr:rd t' 9 (.ptr p4 0)=some (tameA a as1).c:=by simp only [rd,h2];rfl
  simp [Env.get,hr]
 have key:∀ (n:Env→Store→Prop) (xx:Nat→Env→Store→Prop) (U:Store) (E:List (Nat×AV)),Store.sub σ U→U p2=some (.box a.c)→U p4=some (.box zCells)→U p5=some (.box (tCells a (tameA a as1).med 0 .nils .nils))→bwp Tryz.prog Ts16.t14_27 ((1,.int .u32 as1)::(2,.ptr p2 0)::(4,.ptr p4 0)::(5,.ptr p5 0)::E) U n (fun e τ=>((e.get 4).bind fun p=>Option.map AV.agg (rd τ 9 p))=some (AV.agg (tameA a as1).c)∧Store.sub σ τ) xx:=fun n xx U E z1 z2 z3 z4 =>
  z9z trivial hz h45 h25 z2 z3 z4 z1 hp2 hp4 hσ5 E fin
 have sU:Store.sub σ ((T.set p5 (.box zCells)).set p5 (.box (tCells a 0 0 .nils .nils))):=zb (zb sT hσ5) hσ5
 have U5:((T.set p5 (.box zCells)).set p5 (.box (tCells a 0 0 .nils .nils))) p5=some (.box (tCells a 0 0 .nils .nils)):=Store.set_same _ _ _
 have U2:((T.set p5 (.box zCells)).set p5 (.box (tCells a 0 0 .nils .nils))) p2=some (.box a.c):=by rw [Store.set_ne _ _ h25,Store.set_ne _ _ h25];exact T2
 have U4:((T.set p5 (.box zCells)).set p5 (.box (tCells a 0 0 .nils .nils))) p4=some (.box zCells):=by rw [Store.set_ne _ _ h45,Store.set_ne _ _ h45];exact T4
 simp only [hs9,et,hz,↓vcPre,↓z8,↓reduceIte,vcPost,vcStd,Nat.reduceEqDiff,reduceCtorEq,Nat.reduceAdd,Nat.reduceLeDiff,Int.reduceLT,Int.reduceLE,↓u_setN]
 generalize (T.set p5 (.box zCells)).set p5 (.box (tCells a 0 0 .nils .nils))=U at sU U2 U4 U5 ⊢
 simp only [U2,a3,e9,↓vcPre,↓z8,↓reduceIte,vcPost,vcStd,Nat.reduceEqDiff,reduceCtorEq,Nat.reduceAdd,Nat.reduceLeDiff,Int.reduceLT,Int.reduceLE,↓u_setN]
 cases h:a.hm
 ·rw [h] at hm
  simp only [Bool.false_eq_true,if_false] at hm
  simp only [↓vcPre,↓z8,↓reduceIte,vcPost,vcStd,Nat.reduceEqDiff,reduceCtorEq,Nat.reduceAdd,Nat.reduceLeDiff,Int.reduceLT,Int.reduceLE,↓u_setN]
  refine key _ _ U _ sU U2 U4 ?_
  rw [hm]
  exact U5
 ·rw [h] at hm
  simp only [if_true] at hm
  simp only [U2,U5,a4,s4,e9,et,↓vcPre,↓z8,↓reduceIte,vcPost,vcStd,Nat.reduceEqDiff,reduceCtorEq,Nat.reduceAdd,Nat.reduceLeDiff,Int.reduceLT,Int.reduceLE,↓u_setN]
  refine ⟨by decide,key _ _ _ [] (zb sU hσ5) ((Store.set_ne _ _ h25).trans U2) ((Store.set_ne _ _ h45).trans U4) ?_⟩
  rw [hm]
  exact Store.set_same _ _ _
end Go.Am
namespace Go.Am.Ts40
open Go.Proofs Go.Am.B
def t23_111:BC := .seq (z [f 111 20 2,l 112 1 111,p 113 (.bin .neq) [.t 112,.c (.int .u8 0)],m 114 113,⟨some 115,some (114,true),.pure (.fld 1),[.t 2]⟩,⟨some 116,some (114,true),.load (.ld 1 false),[.t 115]⟩,⟨some 117,some (114,true),.pure (.bin .rem),[.t 116,.c (.int .i64 9)]⟩,⟨some 118,some (114,true),.pure (.bin .eql),[.t 117,.c (.int .i64 1)]⟩,⟨some 119,none,.pick,[.t 114,.t 118,.c (.bool false)]⟩,m 120 119,⟨some 121,some (120,true),.pure (.mov),[.t 5]⟩,⟨some 122,some (120,true),.pure (.len),[.t 121]⟩,⟨some 123,some (120,true),.pure (.bin .gtr),[.t 122,.c (.int .i64 0)]⟩,⟨some 124,none,.pick,[.t 120,.t 123,.c (.bool false)]⟩] [2,5,124] (.cond (.t 124) (.ops [m 125 5,f 126 19 2,m 128 5,u 129 .len 128,c 130 .sub 129 1,f 134 20 2,l 127 1 126,l 135 1 134,⟨some 131,none,.qcall 22,[.t 127,.c (.int .i64 0),.t 130]⟩,x 132 1 125 131,l 133 1 132,b 136 .xor 133 135,x 137 1 125 131,s 1 137 136] [5]) .skip)) (z [m 138 5,m 4 138] [4] .ret)
def t23_95:BC := .seq (.wk 20 (.ops [⟨some 95,none,.load (.ld 12 true),[.t 6]⟩,g 96 49 [.t 95],m 94 96,e 97 0 94,e 98 1 94,m 8 97,m 9 98] [2,8])) (.ops [m 100 8,g 101 47 [.c (.int .i64 2),.t 100],m 99 101,e 102 0 99,e 103 1 99,m 5 102] [2,5])
def t23_72:BC := .seq (.wk 15 (.ops [f 72 0 6,⟨none,none,.loud (.st 1),[.t 72,.c .nils]⟩] [1,2,6])) (z [f 73 11 6,l 74 1 73,u 75 .len 74,c 76 .gtr 75 0,f 77 1 6,s 1 77 76] [1,2,6] (z [p 78 (.build [(.int .i64 0),.nils,(.int .u32 0),(.bool false),(.int .u32 0),(.bool false),(.int .u32 0),(.bool false),.nils] []) [],f 79 2 6,s 9 79 78] [1,2,6] (.seq (z [f 80 1 6,l 81 1 80] [1,2,6,81] (.cond (.t 81) (.ops [f 82 3 2,f 83 2 82,⟨some 84,none,.load (.ld 9 true),[.t 83]⟩,m 85 1,f 86 1 2,l 87 1 86,c 88 .rem 87 4,c 89 .quo 88 3,u 90 (.conv .u32) 89,b 91 .sub 85 90,g 92 14 [.t 84,.t 91],f 93 2 6,s 9 93 92] [2,6]) .skip)) t23_95)))
def t23_37:BC:=z [f 37 3 2,⟨some 38,none,.load (.ld 12 true),[.t 37]⟩,⟨some 6,none,.alloc (.alloc [.nils,(.bool false),(.int .i64 0),.nils,(.int .u32 0),(.bool false),(.int .u32 0),(.bool false),(.int .u32 0),(.bool false),.nils,.nils]),[]⟩,s 12 6 38] [1,2,6] (z [f 39 11 6,⟨none,none,.loud (.st 1),[.t 39,.c .nils]⟩] [1,2,6] (.seq (z [j 7 0] [1,2,6,7] (.block 1 (.loop [1,2,6,7] (.seq (z [m 40 7,f 41 3 2,f 42 11 41,l 43 1 42,u 44 .len 43,b 45 .lss 40 44,m 46 45,⟨some 47,some (46,true),.pure (.mov),[.t 7]⟩,⟨some 48,some (46,true),.pure (.bin .lss),[.t 47,.c (.int .i64 5)]⟩,⟨some 49,none,.pick,[.t 46,.t 48,.c (.bool false)]⟩] [1,2,6,7,49] (.cond (.t 49) .skip (.exit 1))) (.seq (.block 2 (.ops [f 52 11 6,f 54 3 2,f 55 11 54,m 57 7,f 61 3 2,f 62 11 61,m 64 7,l 53 1 52,l 56 1 55,x 58 2 56 57,f 59 0 58,l 60 1 59,l 63 1 62,x 65 2 63 64,f 66 1 65,l 67 1 66,⟨some 68,none,.qcall 19,[.t 60,.t 67]⟩,⟨some 69,none,.alloc (.mksl 2 1),[.t 68]⟩,⟨some 70,none,.loud (.app 2 16),[.t 53,.t 69]⟩,f 71 11 6,s 1 71 70] [1,2,6,7])) (.ops [m 50 7,c 51 .add 50 1,m 7 51] [1,2,6,7])))))) t23_72))
def b23:BC:=z [⟨some 2,none,.alloc (.box),[.t 0]⟩,k 4 .nils] [1,2] (z [k 5 .nils] [1,2] (.seq (z [f 10 0 2,l 11 1 10] [1,2,11] (.block 0 (z [c 18 .eql 11 4,m 17 18] [1,2,11,17] (.cond (.t 17) (.ops [m 20 1,u 21 (.conv .i64) 20,f 22 2 2,l 23 1 22,p 24 (.build [(.int .i64 0),(.int .i64 0),(.int .u32 0)] [(0,1),(1,1),(2,1)]) [.t 21,.t 23,.c (.int .u32 7)],g 25 48 [.t 24],g 26 47 [.c (.int .i64 1),.t 25],m 19 26,e 27 0 19,e 28 1 19,m 5 27] [2,5]) (z [c 30 .eql 11 5,m 29 30] [1,2,11,29] (.cond (.t 29) (.ops [g 32 47 [.c (.int .i64 4),.c .nils],m 31 32,e 33 0 31,e 34 1 31,m 5 33] [2,5]) (z [c 36 .eql 11 6,m 35 36] [1,2,11,35] (.cond (.t 35) t23_37 (z [c 105 .eql 11 7,m 104 105] [2,104] (.cond (.t 104) (.ops [⟨some 107,none,.alloc (.mksl 1 2),[.c (.int .u8 6),.c (.int .u8 0)]⟩,g 108 47 [.c (.int .i64 3),.t 107],m 106 108,e 109 0 106,e 110 1 106,m 5 109] [2,5]) (.ops [⟨some 12,none,.alloc (.mksl 1 0),[]⟩,f 13 18 2,l 14 1 13,g 15 30 [.t 14,.c (.int .i64 60)],⟨some 16,none,.loud (.app 1 1),[.t 12,.t 15]⟩,m 5 16] [2,5]))))))))))) t23_111))
def F23:Fn Tryz.prog 23:=Fn.mkW false [15,20] b23 [.t 4] 139 Tryz.f23 _ Tryz.func23 (by decide) rfl Tryz.ntmps23 (by kernel_rfl) (by kernel_rfl)
end Go.Am.Ts40
namespace Go.Am
open Go.Proofs Go.Sort
structure Ask where
 kind:Int
 n:Int
 hold:Int
 u:Up
 note:Nt3
 b:List Int
 at_:Int
 turn:Int
def Ask.c (x:Ask):List AV := .int .i64 x.kind :: .int .i64 x.n :: .int .i64 x.hold::(x.u.c++(x.note.c++[.sl 1 (x.b.map cB),.int .i64 x.at_,.int .u8 x.turn]))
def xorB (a b:Int):Int:=bitInt .xor .u8 a b
theorem zcy (a b:Int):0≤xorB a b∧xorB a b<256:=by
 have e:xorB a b=IntKind.u8.wrap ((BitVec.ofInt (IntKind.bits .u8) a ^^^ BitVec.ofInt (IntKind.bits .u8) b).toNat:Int):=rfl
 rw [e,u8w]
 omega
def turnF (x:Ask) (B:List Int):List Int:=if x.turn≠0∧x.n.tmod 9=1∧B≠[] then B.set (x.at_ % (B.length:Int)).toNat (xorB (B.getD (x.at_ % (B.length:Int)).toNat 0) x.turn) else B
section
variable {σ T:Store} {p2:Nat} {v:AV} {x:Ask} {B:List Int} {n rr:Env→Store→Prop} {xx:Nat→Env→Store→Prop}
set_option maxHeartbeats 1000000 in
theorem z6f (T2:T p2=some (.box x.c)) (hs:Store.sub σ T) (hp2:σ p2=none) (ho:Own 1 σ (B.map cB) v T) (hB:B.length≤100000) (hn:I64 x.n) (ha:I64 x.at_) (E:List (Nat×AV))
 (h:∀ w t',Store.sub σ t'→Own 1 σ ((turnF x B).map cB) w t'→rr [(4,w)] t'):bwp Tryz.prog Ts40.t23_111 ((2,.ptr p2 0)::(5,v)::E) T n rr xx:=by
 simp only [Ts40.t23_111]
 have l21:x.c.length=21:=rfl
 have f1:List.take 1 (List.drop 1 x.c)=[.int .i64 x.n]:=rfl
 have f19:List.take 1 (List.drop 19 x.c)=[.int .i64 x.at_]:=rfl
 have f20:List.take 1 (List.drop 20 x.c)=[.int .u8 x.turn]:=rfl
 have w9:IntKind.i64.wrap (x.n.tmod 9)=x.n.tmod 9:=zd (by have h1:=Int.lt_tmod_of_pos x.n (b:=9) (by omega);have h2:=Int.tmod_lt_of_pos x.n (b:=9) (by omega);unfold I64;omega)
 have lv:pv .len [v]=some (.int .i64 (B.length:Int)):=by rw [(Rd.own ho).2];simp
 have no:¬ (x.turn≠0∧x.n.tmod 9=1∧B≠[])→turnF x B=B:=fun h=>by unfold turnF;rw [if_neg h]
 simp only [T2,l21,f20,f1,w9,lv,↓vcPre,↓z8,↓reduceIte,vcPost,vcStd,Nat.reduceEqDiff,reduceCtorEq,Nat.reduceAdd,Nat.reduceLeDiff,Int.reduceLT,Int.reduceLE,↓u_setN]
 have nB:B≠[]↔0<B.length:=by rw [List.length_pos_iff]
 refine ⟨fun c1=>⟨by decide,fun c2=>⟨fun c3 => ?_,fun c3 => ?_⟩,fun c2 => ?_⟩,fun c1 => ?_⟩
 ·have hl:0<B.length:=by omega
  have hyes:turnF x B=B.set (x.at_ % (B.length:Int)).toNat (xorB (B.getD (x.at_ % (B.length:Int)).toNat 0) x.turn):=by unfold turnF;rw [if_pos ⟨c1,c2,nB.2 hl⟩]
  have w1:IntKind.i64.wrap ((B.length:Int) - 1)=(B.length:Int) - 1:=zd (by unfold I64;omega)
  simp only [l21,f19,w1,↓vcPre,↓z8,↓reduceIte,vcPost,vcStd,Nat.reduceEqDiff,reduceCtorEq,Nat.reduceAdd,Nat.reduceLeDiff,Int.reduceLT,Int.reduceLE,↓u_setN]
  refine (c22 x.at_ 0 ((B.length:Int) - 1) ha (by omega) (by omega) (by omega)).Q ?_
  have em:(0:Int)+x.at_ % ((B.length:Int) - 1 - 0+1)=x.at_ % (B.length:Int):=by
   rw [show (B.length:Int) - 1 - 0+1=(B.length:Int) by omega];omega
  rw [em]
  have hk1:=Int.emod_nonneg x.at_ (show (B.length:Int)≠0 by omega)
  have hk2':=Int.emod_lt_of_pos x.at_ (show (0:Int)<(B.length:Int) by omega)
  obtain ⟨k,hk⟩:∃ k:Nat,x.at_ % (B.length:Int)=(k:Int):=⟨(x.at_ % (B.length:Int)).toNat,by omega⟩
  rw [hk] at hyes ⊢
  have hk2:k<B.length:=by omega
  rcases ho with ⟨hnil,_⟩ | ⟨g,rfl,hg,hh⟩
  ·have:=List.map_eq_nil_iff.1 hnil
   subst this
   simp at hk2
  ·have hkm:(k:Int)<((B.map cB).length:Int):=by rw [List.length_map];omega
   simp only [z5e,hkm,hh,T2,l21,f20,↓vcPre,↓z8,↓reduceIte,vcPost,vcStd,Nat.reduceEqDiff,reduceCtorEq,Nat.reduceAdd,Nat.reduceLeDiff,Int.reduceLT,Int.reduceLE,↓u_setN]
   refine ⟨hk2,by simp;omega,Nat.le_refl 1,?_⟩
   show wit (some (AV.int .u8 (B[0+k]'(by omega)))) _
   rw [y7]
   simp only [↓vcPre,↓z8,↓reduceIte,vcPost,vcStd,Nat.reduceEqDiff,reduceCtorEq,Nat.reduceAdd,Nat.reduceLeDiff,Int.reduceLT,Int.reduceLE,↓u_setN]
   refine ⟨hk2,by simp;omega,?_⟩
   have ez:bitInt .xor .u8 (B[0+k]'(by omega)) x.turn=xorB (B.getD k 0) x.turn:=by
    rw [vn hk2]
    show bitInt .xor .u8 (B[0+k]'(by omega)) x.turn=bitInt .xor .u8 B[k] x.turn
    congr 1
    congr 1
    omega
   rw [ez]
   have e0:0+k=k:=by omega
   have es:splice 0 [AV.int .u8 (xorB (B.getD k 0) x.turn)] (cB (B[0+k]'(by omega)))=some (cB (xorB (B.getD k 0) x.turn)):=rfl
   rw [es,y7,e0,←List.map_set]
   have el:B.length=(B.set k (xorB (B.getD k 0) x.turn)).length:=by rw [List.length_set]
   rw [show ((k:Int)).toNat=k by omega] at hyes
   rw [hyes] at h
   refine h _ _ (zb hs hg) (.inr ⟨g,?_,hg,Store.set_same _ _ _⟩)
   simp
 ·rw [no (by rintro ⟨_,_,h⟩;exact c3 (by have:=nB.1 h;omega))] at h
  exact h _ _ hs ho
 ·rw [no (by rintro ⟨_,h,_⟩;exact c2 h)] at h
  exact h _ _ hs ho
 ·rw [no (by rintro ⟨h,_⟩;exact h c1)] at h
  exact h _ _ hs ho
end
end Go.Am
namespace Go.Am
open Go.Proofs Go.Sort
def HO (σ:Store) (p:List Seg) (v:AV) (s:Store):Prop :=
 (p=[]∧v = .nils)∨∃ x r u g,p=x::r∧v = .os g 2 0 (r.length+1)∧σ g=none∧s g=some (.arr 2 ([.int .i64 x.kind,u]::r.map Seg.c))∧Own 1 σ (x.ls.map cU) u s
theorem HO.nil {σ s:Store}:HO σ [] .nils s := .inl ⟨rfl,rfl⟩
theorem HO.mono {σ s s':Store} {p:List Seg} {v:AV} (h:HO σ p v s) (hs:Store.sub s s'):HO σ p v s':=by
 rcases h with h | ⟨x,r,u,g,h1,h2,h3,h4,h5⟩
 ·exact .inl h
 ·exact .inr ⟨x,r,u,g,h1,h2,h3,hs _ _ h4,h5.mono hs⟩
end Go.Am
namespace Go.Am.Ts15
open Go.Proofs Go.Am.B
def b146:BC:=z [k 2 .nils] [0] (z [k 3 .nils] [0,3] (.seq (z [j 4 0] [0,3,4] (.block 0 (.loop [0,3,4] (.seq (z [m 5 4,m 6 0,u 7 .len 6,b 8 .lss 5 7] [0,3,4,8] (.cond (.t 8) .skip (.exit 0))) (.seq (.block 1 (z [m 11 3] [0,4,11] (z [m 12 0] [0,4,11,12] (z [m 13 4] [0,4,11,12,13] (z [x 14 2 12 13] [0,4,11,14] (z [f 15 0 14] [0,4,11,15] (z [m 18 0] [0,4,11,15,18] (z [m 19 4] [0,4,11,15,18,19] (z [x 20 2 18 19] [0,4,11,15,20] (z [f 21 1 20] [0,4,11,15,21] (z [l 22 1 21] [0,4,11,15,22] (.both (z [l 16 1 15] [0,4,11,16,22] (z [⟨some 17,none,.alloc (.mksl 1 0),[]⟩] [0,4,11,16,17,22] (z [⟨some 23,none,.loud (.app 1 4),[.t 17,.t 22]⟩] [0,4,11,16,23] (z [p 24 (.build [(.int .i64 0),.nils] [(0,1),(1,1)]) [.t 16,.t 23]] [0,4,11,24] (z [⟨some 25,none,.alloc (.mksl 2 1),[.t 24]⟩] [0,4,11,25] (z [⟨some 26,none,.loud (.app 2 32),[.t 11,.t 25]⟩] [0,4,26] (z [m 3 26] [0,3,4] (.ops [] [0,3,4])))))))) (.both (z [⟨some 17,none,.alloc (.mksl 1 0),[]⟩] [0,4,11,15,17,22] (.both (z [l 16 1 15] [0,4,11,16,17,22] (z [⟨some 23,none,.loud (.app 1 4),[.t 17,.t 22]⟩] [0,4,11,16,23] (z [p 24 (.build [(.int .i64 0),.nils] [(0,1),(1,1)]) [.t 16,.t 23]] [0,4,11,24] (z [⟨some 25,none,.alloc (.mksl 2 1),[.t 24]⟩] [0,4,11,25] (z [⟨some 26,none,.loud (.app 2 32),[.t 11,.t 25]⟩] [0,4,26] (z [m 3 26] [0,3,4] (.ops [] [0,3,4]))))))) (.both (z [⟨some 23,none,.loud (.app 1 4),[.t 17,.t 22]⟩] [0,4,11,15,23] (z [l 16 1 15] [0,4,11,16,23] (z [p 24 (.build [(.int .i64 0),.nils] [(0,1),(1,1)]) [.t 16,.t 23]] [0,4,11,24] (z [⟨some 25,none,.alloc (.mksl 2 1),[.t 24]⟩] [0,4,11,25] (z [⟨some 26,none,.loud (.app 2 32),[.t 11,.t 25]⟩] [0,4,26] (z [m 3 26] [0,3,4] (.ops [] [0,3,4]))))))) (.top)))) (.top)))))))))))))) (.ops [m 9 4,c 10 .add 9 1,m 4 10] [0,3,4])))))) (.seq (.wk 6 (.ops [m 27 3,m 2 27] [2])) .ret)))
def F146:Fn Tryz.prog 146:=Fn.mkW false [6] b146 [.t 2] 28 Tryz.f146 _ Tryz.func146 (by decide) rfl Tryz.ntmps146 (by kernel_rfl) (by kernel_rfl)
end Go.Am.Ts15
namespace Go.Am
open Go.Proofs Go.Sort
def CO (σ:Store) (L:List Int) (u:AV) (s:Store):Prop :=
 (L=[]∧u = .nils)∨∃ g,∃ M:List Int,u = .os g 1 0 L.length∧σ g=none∧s g=some (.arr 1 (M.map cU))∧L.length≤M.length∧M.take L.length=L
theorem CO.mono {σ s s':Store} {L:List Int} {u:AV} (h:CO σ L u s) (hs:∀ g o,σ g=none→s g=some o→s' g=some o):CO σ L u s':=by
 rcases h with h | ⟨g,M,h1,h2,h3,h4⟩
 ·exact .inl h
 ·exact .inr ⟨g,M,h1,h2,hs _ _ h2 h3,h4⟩
end Go.Am
namespace Go.Am
open Go.Proofs Go.Sort
structure Peer where
 asn:Int
 ad:Int
 inn:List Rule
 out:List Rule
structure Cfg where
 asn:Int
 id:Int
 hold:Int
 ps:List Peer
 wd:Int
 dp:Int
 rm:Int
end Go.Am
namespace Go.Am
open Go.Proofs Go.Sort
def cfgA (c:Cfg):Prop:=(1≤c.asn∧c.asn≤65535)∧goodN c.id∧(c.hold=0∨3≤c.hold)∧c.hold≤65535∧(1≤c.wd∧c.wd≤8)∧(1≤c.dp∧c.dp≤8)∧(0≤c.rm∧c.rm≤4096)
def cfgB (c:Cfg):Prop:=1≤c.ps.length∧c.ps.length≤4
instance (c:Cfg):Decidable (cfgA c):=by unfold cfgA;infer_instance
instance (c:Cfg):Decidable (cfgB c):=by unfold cfgB;infer_instance
end Go.Am
namespace Go.Am
open Go.Proofs Go.Sort
def fitT (a:At) (ok:Bool):Prop:=ok=true∧atRight a∧(encA a).length≤4068
instance (a:At) (ok:Bool):Decidable (fitT a ok):=by unfold fitT;infer_instance
end Go.Am
namespace Go.Am
open Go.Proofs Go.Sort
theorem z87 (a:At) (x:Int):∃ ls,(tameA a x).path=[⟨2,ls⟩]∧1≤ls.length∧ls.length≤3:=⟨_,rfl,by simp,by simp;omega⟩
end Go.Am
namespace Go.Am
open Go.Proofs Go.Sort
theorem z85 (l:List Int):Inc (tameC l):=by
 have key:∀ (l:List Int) (b:List Int),Inc b→Inc (l.foldl (fun c x=>putL c (tcm x)) b):=by
  intro l
  induction l with
  | nil=>intro b h;exact h
  | cons y r ih=>intro b h;exact ih _ (z3w h)
 exact key l [] (by simp [Inc])
end Go.Am
namespace Go.Am
open Go.Proofs Go.Sort
structure Easy (a:At):Prop where
 org:0≤a.org∧a.org≤2
 path:∃ ls,a.path=[⟨2,ls⟩]∧1≤ls.length∧ls.length≤10
 nxt:goodN a.nxt
 med:a.hm=false→a.med=0
 prf:a.hp=false→a.prf=0
 cml:a.cms.length≤10
 cmi:Inc a.cms
theorem Easy.right {a:At} (h:Easy a):atRight a:=by
 obtain ⟨ls,h1,h2,h3⟩:=h.path
 refine ⟨h.org,⟨fun s hs => ?_,by rw [h1];simp⟩,h.nxt,h.med,h.prf,by have:=h.cml;omega,h.cmi⟩
 rw [h1,List.mem_singleton] at hs
 subst hs
 exact ⟨.inr rfl,h2,by show ls.length≤255;omega⟩
theorem Easy.aok {a:At} (h:Easy a):a.ok:=by
 obtain ⟨ls,h1,h2,h3⟩:=h.path
 refine ⟨by rw [h1];simp,fun s hs => ?_,by have:=h.cml;omega⟩
 rw [h1,List.mem_singleton] at hs
 subst hs
 show ls.length≤1000000
 omega
theorem Easy.enc {a:At} (h:Easy a):(encA a).length≤4068:=by
 obtain ⟨ls,h1,h2,h3⟩:=h.path
 have hc:=h.cml
 have p1:(encPath a.path).length=2+4*ls.length:=by
  rw [h1];simp only [encPath,encSeg,List.flatMap_cons,List.flatMap_nil,List.append_nil,List.length_append,xr,List.length_cons,List.length_nil]
 unfold encA
 simp only [List.length_append]
 have a1:=xi 64 1 [a.org % 256]
 have a2:=xi 64 2 (encPath a.path)
 have a3:=xi 64 3 (b4 a.nxt)
 have a4:(if a.hm then oneA 128 4 (b4 a.med) else []).length≤8:=by split <;> first | exact xi .. | simp
 have a5:(if a.hp then oneA 64 5 (b4 a.prf) else []).length≤8:=by split <;> first | exact xi .. | simp
 have a6:(if a.atm then oneA 64 6 [] else []).length≤4:=by split <;> first | exact xi .. | simp
 have a8:(if a.cms=[] then ([]:List Int) else oneA 192 8 (encW a.cms)).length≤4+4*a.cms.length:=by
  split
  ·simp
  ·have:=xi 192 8 (encW a.cms);rw [xr] at this;exact this
 simp only [List.length_cons,List.length_nil,vq] at *
 omega
theorem z86 (a:At) (x:Int) (hn:0≤a.nxt):Easy (tameA a x):=by
 obtain ⟨ls,t1,t2,t3⟩:=z87 a x
 have tc:=z2w (a.cms.take 2)
 rw [List.length_take] at tc
 refine ⟨by simp only [tameA];omega,⟨ls,t1,t2,by omega⟩,(z61 hn).1,fun h => ?_,fun h => ?_,by simp only [tameA];omega,z85 _⟩
 ·simp only [tameA] at *;simp [h]
 ·simp only [tameA] at *;simp [h]
end Go.Am
