/- A part of the proof: a logic for calls over plain values, and the functions that the law reaches, each walked once. -/
import Derived.Test.YtplkahhkogncjaaGreatQA8
import Derived.Laws.Bits64b
import Derived.Sort.AssemblyPlain
set_option linter.unusedVariables false
set_option linter.unusedSimpArgs false
set_option linter.unusedSectionVars false
namespace Go.Am
open Go.Sort
set_option linter.unusedSectionVars false
variable {P:Program} {N:SN} {κ:IntKind}
set_option maxHeartbeats 4000000 in
set_option maxRecDepth 20000 in
theorem zdy (H:SH P N κ) (hO:SWO ltU) (σ:Store) (id:Nat) (n:Nat) (hs:n<2305843009213693952)
 (h72:∀ (d:Array Int) (a b:Nat),d.size=n→a≤b→b≤n→ACalls P N.brk [.os id 1 0 n,.int .i64 a,.int .i64 b] (σ.set id (arrA 1 (cK κ) d)) (fun r s=>r = .tup []∧s=σ.set id (arrA 1 (cK κ) (breakPatterns d a b)))) :
 ∀ (w:Nat) (d:Array Int) (a b limit:Nat),d.size=n→b - a<w→a≤b→b≤n→limit<1000 →
 ACalls P N.pdq [.os id 1 0 n,.int .i64 a,.int .i64 b,.int .i64 limit] (σ.set id (arrA 1 (cK κ) d)) (fun r s=>r = .tup []∧s=σ.set id (arrA 1 (cK κ) (pdq ltU d a b limit true true))):=by
 intro w
 induction w with
 | zero=>intro d a b limit h1 h2;omega
 | succ w ih =>
 intro d a b limit hd hw hab hb hl
 refine zz H.pdq (Nat.le_refl _) ?_
 simp only [SB.pdq]
 simp only [cK,zg,↓vcPre,↓zk,↓reduceIte,vcPost,vcStd,Store.set_set,zj,ze,zf,zb,Nat.le_refl,Nat.zero_add,Array.size_setIfInBounds,Nat.reduceEqDiff,reduceCtorEq,Nat.reduceAdd,Nat.reduceLeDiff,Int.reduceLT,Int.reduceLE,↓u_setN]
 refine LoopQ.inv (S:=Nat×Nat×Nat×Bool×Bool×Array Int) (fun s=>[(0,.os id 1 0 n),(1,.int .i64 s.1),(2,.int .i64 s.2.1),(3,.int .i64 s.2.2.1),(8,.bool s.2.2.2.1),(9,.bool s.2.2.2.2.1)]) (fun s=>σ.set id (arrA 1 (cK κ) s.2.2.2.2.2))
  (fun s=>s.2.2.2.2.2.size=n∧s.1≤s.2.1∧s.2.1≤n∧s.2.2.1<1000∧s.2.1 - s.1≤b - a∧pdq ltU s.2.2.2.2.2 s.1 s.2.1 s.2.2.1 s.2.2.2.1 s.2.2.2.2.1=pdq ltU d a b limit true true) (fun s=>s.2.1 - s.1) (a,b,limit,true,true,d) rfl (Store.sub_refl _)
  ⟨hd,hab,hb,hl,Nat.le_refl _,rfl⟩ ?_
 rintro ⟨a1,b1,lm,wb,wp,d1⟩ ⟨g1,g2,g3,g4,g5,g6⟩
 simp only at g1 g2 g3 g4 g5 g6
 have eL:IntKind.i64.wrap ((b1:Int) - a1)=((b1 - a1:Nat):Int):=wI (by omega) (by omega)
 simp only [cK,zg,g1,eL,↓vcPre,↓zk,↓reduceIte,vcPost,vcStd,Store.set_set,zj,ze,zf,zb,Nat.le_refl,Nat.zero_add,Array.size_setIfInBounds,Nat.reduceEqDiff,reduceCtorEq,Nat.reduceAdd,Nat.reduceLeDiff,Int.reduceLT,Int.reduceLE,↓u_setN]
 rw [z67] at g6
 refine ⟨fun q1 => ?_,fun q1=>⟨fun q2 => ?_,fun q2 => ?_⟩⟩
 ·rw [if_pos (by omega)] at g6
  have h:=zdx H d1 a1 b1 g2 (by omega) (by omega) σ id
  rw [g1] at h
  refine h.Q ?_
  rintro r s ⟨rfl,rfl⟩
  simp only [↓vcPre,↓z0,↓reduceIte,vcPost,vcStd,Nat.reduceEqDiff,reduceCtorEq,Nat.reduceAdd,Nat.reduceLeDiff,Int.reduceLT,Int.reduceLE,↓u_setN]
  exact EndQ.to _ _ rfl (Store.sub_refl _) ⟨rfl,by rw [g6]⟩
 ·rw [if_neg (by omega),if_pos (by omega)] at g6
  have h:=zbs H d1 a1 b1 g2 (by omega) (by omega) σ id
  rw [g1] at h
  refine h.Q ?_
  rintro r s ⟨rfl,rfl⟩
  simp only [↓vcPre,↓z0,↓reduceIte,vcPost,vcStd,Nat.reduceEqDiff,reduceCtorEq,Nat.reduceAdd,Nat.reduceLeDiff,Int.reduceLT,Int.reduceLE,↓u_setN]
  exact EndQ.to _ _ rfl (Store.sub_refl _) ⟨rfl,by rw [g6]⟩
 ·rw [if_neg (by omega),if_neg (by omega)] at g6
  have e1:IntKind.i64.wrap ((lm:Int) - 1)=((lm - 1:Nat):Int):=wI (by omega) (by omega)
  cases wb
  ·simp only [↓vcPre,↓z0,↓reduceIte,vcPost,vcStd,Nat.reduceEqDiff,reduceCtorEq,Nat.reduceAdd,Nat.reduceLeDiff,Int.reduceLT,Int.reduceLE,↓u_setN]
   refine (h72 d1 a1 b1 g1 g2 g3).Q ?_
   rintro r s ⟨rfl,rfl⟩
   simp only [e1,↓vcPre,↓z0,↓reduceIte,vcPost,vcStd,Nat.reduceEqDiff,reduceCtorEq,Nat.reduceAdd,Nat.reduceLeDiff,Int.reduceLT,Int.reduceLE,↓u_setN]
   rw [if_neg (by simp)] at g6
   obtain ⟨d2,hd2⟩:∃ x,x=breakPatterns d1 a1 b1:=⟨_,rfl⟩
   rw [←hd2] at g6 ⊢
   have k1:d2.size=n:=by
    rw [hd2,(breakPatterns_holds d1 a1 b1 g2 (by omega)).1];exact g1
   have hA:=z4t H d2 a1 b1 (by omega) (by omega) (by omega) σ id
   rw [k1] at hA
   refine hA.Q ?_
   rintro r s ⟨rfl,rfl⟩
   obtain ⟨pv1,pv2⟩:=choosePivot_holds ltU d2 a1 b1 (by omega)
   rw [pdqA] at g6
   clear hA
   generalize choosePivot ltU d2 a1 b1=R at *
   obtain ⟨p,hh⟩:=R
   simp only at pv1 pv2 g6
   cases hh
   ·rw [if_neg (by decide)] at g6
    simp only [cK,zg,k1,eL,e1,↓vcPre,↓zk,↓reduceIte,vcPost,vcStd,Store.set_set,zj,ze,zf,zb,Nat.le_refl,Nat.zero_add,Array.size_setIfInBounds,Nat.reduceEqDiff,reduceCtorEq,Nat.reduceAdd,Nat.reduceLeDiff,Int.reduceLT,Int.reduceLE,↓u_setN]
    refine ⟨fun z=>(by exfalso;omega),fun _ => ?_⟩
    obtain ⟨d3,hd3⟩:∃ x,x=d2:=⟨_,rfl⟩
    rw [←hd3] at g6 ⊢
    have k3:d3.size=n:=by rw [hd3];exact k1
    have pw1:=pv1
    have pw2:=pv2
    rw [pdqB,if_neg (by simp)] at g6
    have hT:=xt H hO σ id n hs w ih d3 (pdq ltU d a b limit true true) a1 b1 p (lm - 1) false wp false 68 (by decide) k3 g3 pw1 pw2 (by omega) (by omega)
    refine hT _ _ _ ?_ ?_ g6
    all_goals
     intro a2 b2 l2 w1 w2 D e he q1 q2 q3 q4 q5 q6
     subst he
     try simp only [↓reduceIte]
     refine NextQ.to (a2,b2,l2,w1,w2,D) ?_ ?_ ?_ ?_
     ·rfl
     ·exact Store.sub_refl _
     ·simp only;omega
     ·exact ⟨q1,q2,q3,q4,by simp only;omega,q6⟩
   ·rw [if_neg (by decide)] at g6
    simp only [cK,zg,k1,eL,e1,↓vcPre,↓zk,↓reduceIte,vcPost,vcStd,Store.set_set,zj,ze,zf,zb,Nat.le_refl,Nat.zero_add,Array.size_setIfInBounds,Nat.reduceEqDiff,reduceCtorEq,Nat.reduceAdd,Nat.reduceLeDiff,Int.reduceLT,Int.reduceLE,↓u_setN]
    refine ⟨fun z=>(by exfalso;omega),fun _ => ?_⟩
    obtain ⟨d3,hd3⟩:∃ x,x=d2:=⟨_,rfl⟩
    rw [←hd3] at g6 ⊢
    have k3:d3.size=n:=by rw [hd3];exact k1
    have pw1:=pv1
    have pw2:=pv2
    rw [pdqB,if_neg (by simp)] at g6
    have hT:=xt H hO σ id n hs w ih d3 (pdq ltU d a b limit true true) a1 b1 p (lm - 1) false wp false 68 (by decide) k3 g3 pw1 pw2 (by omega) (by omega)
    refine hT _ _ _ ?_ ?_ g6
    all_goals
     intro a2 b2 l2 w1 w2 D e he q1 q2 q3 q4 q5 q6
     subst he
     try simp only [↓reduceIte]
     refine NextQ.to (a2,b2,l2,w1,w2,D) ?_ ?_ ?_ ?_
     ·rfl
     ·exact Store.sub_refl _
     ·simp only;omega
     ·exact ⟨q1,q2,q3,q4,by simp only;omega,q6⟩
   ·rw [if_pos rfl] at g6
    have f6:IntKind.i64.wrap ((b1:Int) - 1)=((b1 - 1:Nat):Int):=wI (by omega) (by omega)
    have f7:IntKind.i64.wrap ((p:Int) - a1)=((p - a1:Nat):Int):=wI (by omega) (by omega)
    have f8:IntKind.i64.wrap (((b1 - 1:Nat):Int) - ((p - a1:Nat):Int))=((b1 - 1 - (p - a1):Nat):Int):=wI (by omega) (by omega)
    simp only [cK,zg,k1,eL,e1,↓vcPre,↓zk,↓reduceIte,vcPost,vcStd,Store.set_set,zj,ze,zf,zb,Nat.le_refl,Nat.zero_add,Array.size_setIfInBounds,Nat.reduceEqDiff,reduceCtorEq,Nat.reduceAdd,Nat.reduceLeDiff,Int.reduceLT,Int.reduceLE,↓u_setN]
    have h74:=z4u H d2 a1 b1 g2 (by omega) (by omega) σ id
    rw [k1] at h74
    refine h74.Q ?_
    intro r s hrs
    have hr1:=hrs.1
    have hs1:=hrs.2
    clear hrs
    subst hr1
    subst hs1
    obtain ⟨d3,hd3⟩:∃ x,x=reverseRange d2 a1 b1:=⟨_,rfl⟩
    rw [←hd3] at g6 ⊢
    have k3:d3.size=n:=by rw [hd3,reverseRange,x7];exact k1
    simp only [cK,zg,k3,eL,e1,f6,f7,f8,↓vcPre,↓zk,↓reduceIte,vcPost,vcStd,Store.set_set,zj,ze,zf,zb,Nat.le_refl,Nat.zero_add,Array.size_setIfInBounds,Nat.reduceEqDiff,reduceCtorEq,Nat.reduceAdd,Nat.reduceLeDiff,Int.reduceLT,Int.reduceLE,↓u_setN]
    have pw1:a1≤b1 - 1 - (p - a1):=by omega
    have pw2:b1 - 1 - (p - a1)<b1:=by omega
    generalize b1 - 1 - (p - a1)=p at *
    rw [pdqB,if_neg (by simp)] at g6
    have hT:=xt H hO σ id n hs w ih d3 (pdq ltU d a b limit true true) a1 b1 p (lm - 1) false wp false 68 (by decide) k3 g3 pw1 pw2 (by omega) (by omega)
    refine hT _ _ _ ?_ ?_ g6
    all_goals
     intro a2 b2 l2 w1 w2 D e he q1 q2 q3 q4 q5 q6
     subst he
     try simp only [↓reduceIte]
     refine NextQ.to (a2,b2,l2,w1,w2,D) ?_ ?_ ?_ ?_
     ·rfl
     ·exact Store.sub_refl _
     ·simp only;omega
     ·exact ⟨q1,q2,q3,q4,by simp only;omega,q6⟩
  ·simp only [↓vcPre,↓z0,↓reduceIte,vcPost,vcStd,Nat.reduceEqDiff,reduceCtorEq,Nat.reduceAdd,Nat.reduceLeDiff,Int.reduceLT,Int.reduceLE,↓u_setN]
   rw [if_pos rfl] at g6
   obtain ⟨d2,hd2⟩:∃ x,x=d1:=⟨_,rfl⟩
   rw [←hd2] at g6 ⊢
   have k1:d2.size=n:=by rw [hd2];exact g1
   cases wp
   ·have hA:=z4t H d2 a1 b1 (by omega) (by omega) (by omega) σ id
    rw [k1] at hA
    refine hA.Q ?_
    rintro r s ⟨rfl,rfl⟩
    obtain ⟨pv1,pv2⟩:=choosePivot_holds ltU d2 a1 b1 (by omega)
    rw [pdqA] at g6
    clear hA
    generalize choosePivot ltU d2 a1 b1=R at *
    obtain ⟨p,hh⟩:=R
    simp only at pv1 pv2 g6
    cases hh
    ·rw [if_neg (by decide)] at g6
     simp only [cK,zg,k1,eL,e1,↓vcPre,↓zk,↓reduceIte,vcPost,vcStd,Store.set_set,zj,ze,zf,zb,Nat.le_refl,Nat.zero_add,Array.size_setIfInBounds,Nat.reduceEqDiff,reduceCtorEq,Nat.reduceAdd,Nat.reduceLeDiff,Int.reduceLT,Int.reduceLE,↓u_setN]
     refine ⟨fun z=>(by exfalso;omega),fun _ => ?_⟩
     obtain ⟨d3,hd3⟩:∃ x,x=d2:=⟨_,rfl⟩
     rw [←hd3] at g6 ⊢
     have k3:d3.size=n:=by rw [hd3];exact k1
     have pw1:=pv1
     have pw2:=pv2
     rw [pdqB,if_neg (by simp)] at g6
     have hT:=xt H hO σ id n hs w ih d3 (pdq ltU d a b limit true true) a1 b1 p lm true false false 68 (by decide) k3 g3 pw1 pw2 (by omega) (by omega)
     refine hT _ _ _ ?_ ?_ g6
     all_goals
      intro a2 b2 l2 w1 w2 D e he q1 q2 q3 q4 q5 q6
      subst he
      try simp only [↓reduceIte]
      refine NextQ.to (a2,b2,l2,w1,w2,D) ?_ ?_ ?_ ?_
      ·rfl
      ·exact Store.sub_refl _
      ·simp only;omega
      ·exact ⟨q1,q2,q3,q4,by simp only;omega,q6⟩
    ·rw [if_neg (by decide)] at g6
     simp only [cK,zg,k1,eL,e1,↓vcPre,↓zk,↓reduceIte,vcPost,vcStd,Store.set_set,zj,ze,zf,zb,Nat.le_refl,Nat.zero_add,Array.size_setIfInBounds,Nat.reduceEqDiff,reduceCtorEq,Nat.reduceAdd,Nat.reduceLeDiff,Int.reduceLT,Int.reduceLE,↓u_setN]
     refine ⟨fun z=>(by exfalso;omega),fun _ => ?_⟩
     obtain ⟨d3,hd3⟩:∃ x,x=d2:=⟨_,rfl⟩
     rw [←hd3] at g6 ⊢
     have k3:d3.size=n:=by rw [hd3];exact k1
     have pw1:=pv1
     have pw2:=pv2
     rw [pdqB,if_neg (by simp)] at g6
     have hT:=xt H hO σ id n hs w ih d3 (pdq ltU d a b limit true true) a1 b1 p lm true false false 68 (by decide) k3 g3 pw1 pw2 (by omega) (by omega)
     refine hT _ _ _ ?_ ?_ g6
     all_goals
      intro a2 b2 l2 w1 w2 D e he q1 q2 q3 q4 q5 q6
      subst he
      try simp only [↓reduceIte]
      refine NextQ.to (a2,b2,l2,w1,w2,D) ?_ ?_ ?_ ?_
      ·rfl
      ·exact Store.sub_refl _
      ·simp only;omega
      ·exact ⟨q1,q2,q3,q4,by simp only;omega,q6⟩
    ·rw [if_pos rfl] at g6
     have f6:IntKind.i64.wrap ((b1:Int) - 1)=((b1 - 1:Nat):Int):=wI (by omega) (by omega)
     have f7:IntKind.i64.wrap ((p:Int) - a1)=((p - a1:Nat):Int):=wI (by omega) (by omega)
     have f8:IntKind.i64.wrap (((b1 - 1:Nat):Int) - ((p - a1:Nat):Int))=((b1 - 1 - (p - a1):Nat):Int):=wI (by omega) (by omega)
     simp only [cK,zg,k1,eL,e1,↓vcPre,↓zk,↓reduceIte,vcPost,vcStd,Store.set_set,zj,ze,zf,zb,Nat.le_refl,Nat.zero_add,Array.size_setIfInBounds,Nat.reduceEqDiff,reduceCtorEq,Nat.reduceAdd,Nat.reduceLeDiff,Int.reduceLT,Int.reduceLE,↓u_setN]
     have h74:=z4u H d2 a1 b1 g2 (by omega) (by omega) σ id
     rw [k1] at h74
     refine h74.Q ?_
     intro r s hrs
     have hr1:=hrs.1
     have hs1:=hrs.2
     clear hrs
     subst hr1
     subst hs1
     obtain ⟨d3,hd3⟩:∃ x,x=reverseRange d2 a1 b1:=⟨_,rfl⟩
     rw [←hd3] at g6 ⊢
     have k3:d3.size=n:=by rw [hd3,reverseRange,x7];exact k1
     simp only [cK,zg,k3,eL,e1,f6,f7,f8,↓vcPre,↓zk,↓reduceIte,vcPost,vcStd,Store.set_set,zj,ze,zf,zb,Nat.le_refl,Nat.zero_add,Array.size_setIfInBounds,Nat.reduceEqDiff,reduceCtorEq,Nat.reduceAdd,Nat.reduceLeDiff,Int.reduceLT,Int.reduceLE,↓u_setN]
     have pw1:a1≤b1 - 1 - (p - a1):=by omega
     have pw2:b1 - 1 - (p - a1)<b1:=by omega
     generalize b1 - 1 - (p - a1)=p at *
     rw [pdqB,if_neg (by simp)] at g6
     have hT:=xt H hO σ id n hs w ih d3 (pdq ltU d a b limit true true) a1 b1 p lm true false false 68 (by decide) k3 g3 pw1 pw2 (by omega) (by omega)
     refine hT _ _ _ ?_ ?_ g6
     all_goals
      intro a2 b2 l2 w1 w2 D e he q1 q2 q3 q4 q5 q6
      subst he
      try simp only [↓reduceIte]
      refine NextQ.to (a2,b2,l2,w1,w2,D) ?_ ?_ ?_ ?_
      ·rfl
      ·exact Store.sub_refl _
      ·simp only;omega
      ·exact ⟨q1,q2,q3,q4,by simp only;omega,q6⟩
   ·have hA:=z4t H d2 a1 b1 (by omega) (by omega) (by omega) σ id
    rw [k1] at hA
    refine hA.Q ?_
    rintro r s ⟨rfl,rfl⟩
    obtain ⟨pv1,pv2⟩:=choosePivot_holds ltU d2 a1 b1 (by omega)
    rw [pdqA] at g6
    clear hA
    generalize choosePivot ltU d2 a1 b1=R at *
    obtain ⟨p,hh⟩:=R
    simp only at pv1 pv2 g6
    cases hh
    ·rw [if_neg (by decide)] at g6
     simp only [cK,zg,k1,eL,e1,↓vcPre,↓zk,↓reduceIte,vcPost,vcStd,Store.set_set,zj,ze,zf,zb,Nat.le_refl,Nat.zero_add,Array.size_setIfInBounds,Nat.reduceEqDiff,reduceCtorEq,Nat.reduceAdd,Nat.reduceLeDiff,Int.reduceLT,Int.reduceLE,↓u_setN]
     refine ⟨fun z=>(by exfalso;omega),fun _ => ?_⟩
     obtain ⟨d3,hd3⟩:∃ x,x=d2:=⟨_,rfl⟩
     rw [←hd3] at g6 ⊢
     have k3:d3.size=n:=by rw [hd3];exact k1
     have pw1:=pv1
     have pw2:=pv2
     rw [pdqB,if_neg (by simp)] at g6
     refine ⟨fun z=>(by exfalso;omega),fun _ => ?_⟩
     have hT:=xt H hO σ id n hs w ih d3 (pdq ltU d a b limit true true) a1 b1 p lm true true false 68 (by decide) k3 g3 pw1 pw2 (by omega) (by omega)
     refine hT _ _ _ ?_ ?_ g6
     all_goals
      intro a2 b2 l2 w1 w2 D e he q1 q2 q3 q4 q5 q6
      subst he
      try simp only [↓reduceIte]
      refine NextQ.to (a2,b2,l2,w1,w2,D) ?_ ?_ ?_ ?_
      ·rfl
      ·exact Store.sub_refl _
      ·simp only;omega
      ·exact ⟨q1,q2,q3,q4,by simp only;omega,q6⟩
    ·rw [if_neg (by decide)] at g6
     simp only [cK,zg,k1,eL,e1,↓vcPre,↓zk,↓reduceIte,vcPost,vcStd,Store.set_set,zj,ze,zf,zb,Nat.le_refl,Nat.zero_add,Array.size_setIfInBounds,Nat.reduceEqDiff,reduceCtorEq,Nat.reduceAdd,Nat.reduceLeDiff,Int.reduceLT,Int.reduceLE,↓u_setN]
     refine ⟨fun z=>(by exfalso;omega),fun _ => ?_⟩
     obtain ⟨d3,hd3⟩:∃ x,x=d2:=⟨_,rfl⟩
     rw [←hd3] at g6 ⊢
     have k3:d3.size=n:=by rw [hd3];exact k1
     have pw1:=pv1
     have pw2:=pv2
     rw [pdqB,if_pos (by simp)] at g6
     have h75:=z1q H d3 a1 b1 (by omega) (by omega) (by omega) σ id
     have k7:(partialInsertionSort ltU d3 a1 b1).1.size=n:=by rw [partialInsertionSort,yu];exact k3
     rw [k3] at h75
     generalize partialInsertionSort ltU d3 a1 b1=R at h75 k7 g6
     refine h75.Q ?_
     intro r s hrs
     have hr1:=hrs.1
     have hs1:=hrs.2
     clear hrs
     subst hr1
     subst hs1
     clear h75
     obtain ⟨d3,pb⟩:=R
     have k3:d3.size=n:=k7
     simp only at g6
     cases pb
     ·rw [if_neg (by simp)] at g6
      simp only [cK,zg,k3,eL,e1,↓vcPre,↓zk,↓reduceIte,vcPost,vcStd,Store.set_set,zj,ze,zf,zb,Nat.le_refl,Nat.zero_add,Array.size_setIfInBounds,Nat.reduceEqDiff,reduceCtorEq,Nat.reduceAdd,Nat.reduceLeDiff,Int.reduceLT,Int.reduceLE,↓u_setN]
      have hT:=xt H hO σ id n hs w ih d3 (pdq ltU d a b limit true true) a1 b1 p lm true true false 72 (by decide) k3 g3 pw1 pw2 (by omega) (by omega)
      refine hT _ _ _ ?_ ?_ g6
      all_goals
       intro a2 b2 l2 w1 w2 D e he q1 q2 q3 q4 q5 q6
       subst he
       try simp only [↓reduceIte]
       refine NextQ.to (a2,b2,l2,w1,w2,D) ?_ ?_ ?_ ?_
       ·rfl
       ·exact Store.sub_refl _
       ·simp only;omega
       ·exact ⟨q1,q2,q3,q4,by simp only;omega,q6⟩
     ·rw [if_pos rfl] at g6
      simp only [cK,zg,k3,eL,e1,↓vcPre,↓zk,↓reduceIte,vcPost,vcStd,Store.set_set,zj,ze,zf,zb,Nat.le_refl,Nat.zero_add,Array.size_setIfInBounds,Nat.reduceEqDiff,reduceCtorEq,Nat.reduceAdd,Nat.reduceLeDiff,Int.reduceLT,Int.reduceLE,↓u_setN]
      exact EndQ.to _ _ rfl (Store.sub_refl _) ⟨rfl,by rw [g6]⟩
    ·rw [if_pos rfl] at g6
     have f6:IntKind.i64.wrap ((b1:Int) - 1)=((b1 - 1:Nat):Int):=wI (by omega) (by omega)
     have f7:IntKind.i64.wrap ((p:Int) - a1)=((p - a1:Nat):Int):=wI (by omega) (by omega)
     have f8:IntKind.i64.wrap (((b1 - 1:Nat):Int) - ((p - a1:Nat):Int))=((b1 - 1 - (p - a1):Nat):Int):=wI (by omega) (by omega)
     simp only [cK,zg,k1,eL,e1,↓vcPre,↓zk,↓reduceIte,vcPost,vcStd,Store.set_set,zj,ze,zf,zb,Nat.le_refl,Nat.zero_add,Array.size_setIfInBounds,Nat.reduceEqDiff,reduceCtorEq,Nat.reduceAdd,Nat.reduceLeDiff,Int.reduceLT,Int.reduceLE,↓u_setN]
     have h74:=z4u H d2 a1 b1 g2 (by omega) (by omega) σ id
     rw [k1] at h74
     refine h74.Q ?_
     intro r s hrs
     have hr1:=hrs.1
     have hs1:=hrs.2
     clear hrs
     subst hr1
     subst hs1
     obtain ⟨d3,hd3⟩:∃ x,x=reverseRange d2 a1 b1:=⟨_,rfl⟩
     rw [←hd3] at g6 ⊢
     have k3:d3.size=n:=by rw [hd3,reverseRange,x7];exact k1
     simp only [cK,zg,k3,eL,e1,f6,f7,f8,↓vcPre,↓zk,↓reduceIte,vcPost,vcStd,Store.set_set,zj,ze,zf,zb,Nat.le_refl,Nat.zero_add,Array.size_setIfInBounds,Nat.reduceEqDiff,reduceCtorEq,Nat.reduceAdd,Nat.reduceLeDiff,Int.reduceLT,Int.reduceLE,↓u_setN]
     have pw1:a1≤b1 - 1 - (p - a1):=by omega
     have pw2:b1 - 1 - (p - a1)<b1:=by omega
     generalize b1 - 1 - (p - a1)=p at *
     rw [pdqB,if_pos (by simp)] at g6
     have h75:=z1q H d3 a1 b1 (by omega) (by omega) (by omega) σ id
     have k7:(partialInsertionSort ltU d3 a1 b1).1.size=n:=by rw [partialInsertionSort,yu];exact k3
     rw [k3] at h75
     generalize partialInsertionSort ltU d3 a1 b1=R at h75 k7 g6
     refine h75.Q ?_
     intro r s hrs
     have hr1:=hrs.1
     have hs1:=hrs.2
     clear hrs
     subst hr1
     subst hs1
     clear h75
     obtain ⟨d3,pb⟩:=R
     have k3:d3.size=n:=k7
     simp only at g6
     cases pb
     ·rw [if_neg (by simp)] at g6
      simp only [cK,zg,k3,eL,e1,↓vcPre,↓zk,↓reduceIte,vcPost,vcStd,Store.set_set,zj,ze,zf,zb,Nat.le_refl,Nat.zero_add,Array.size_setIfInBounds,Nat.reduceEqDiff,reduceCtorEq,Nat.reduceAdd,Nat.reduceLeDiff,Int.reduceLT,Int.reduceLE,↓u_setN]
      have hT:=xt H hO σ id n hs w ih d3 (pdq ltU d a b limit true true) a1 b1 p lm true true false 72 (by decide) k3 g3 pw1 pw2 (by omega) (by omega)
      refine hT _ _ _ ?_ ?_ g6
      all_goals
       intro a2 b2 l2 w1 w2 D e he q1 q2 q3 q4 q5 q6
       subst he
       try simp only [↓reduceIte]
       refine NextQ.to (a2,b2,l2,w1,w2,D) ?_ ?_ ?_ ?_
       ·rfl
       ·exact Store.sub_refl _
       ·simp only;omega
       ·exact ⟨q1,q2,q3,q4,by simp only;omega,q6⟩
     ·rw [if_pos rfl] at g6
      simp only [cK,zg,k3,eL,e1,↓vcPre,↓zk,↓reduceIte,vcPost,vcStd,Store.set_set,zj,ze,zf,zb,Nat.le_refl,Nat.zero_add,Array.size_setIfInBounds,Nat.reduceEqDiff,reduceCtorEq,Nat.reduceAdd,Nat.reduceLeDiff,Int.reduceLT,Int.reduceLE,↓u_setN]
      exact EndQ.to _ _ rfl (Store.sub_refl _) ⟨rfl,by rw [g6]⟩
end Go.Am
namespace Go.Am
open Go.Sort
variable {P:Program} {N:SN} {κ:IntKind}
section
def bpR (a L M i0:Nat):Nat→Nat→UInt64×Array Int→Array Int
 | 0,_,st=>st.2
 | k+1,t,st=>bpR a L M i0 k (t+1) (breakStep a L M st (i0+t))
theorem zds (d:Array Int) (a L:Nat) (h8:8≤L):breakPatterns d a (a+L)=bpR a L (1 <<<bitsLen L) (a+L / 4*2 - 1) 3 0 (UInt64.ofNat L,d):=by
 unfold breakPatterns
 simp only [Nat.add_sub_cancel_left]
 rw [if_pos h8]
 rfl
theorem z29 (a L M i0 t:Nat) (r:UInt64) (d:Array Int) (o:Nat) (ht:t<3) (ho:(if (xorNext r).toNat &&& (M - 1)≥L then ((xorNext r).toNat &&& (M - 1)) - L else (xorNext r).toNat &&& (M - 1))=o) :
 bpR a L M i0 (3 - t) t (r,d)=bpR a L M i0 (3 - (t+1)) (t+1) (xorNext r,swp d (i0+t) (a+o)):=by
 rw [show 3 - t=(3 - (t+1))+1 by omega,bpR]
 unfold breakStep
 simp only [ho]
end
section
set_option maxRecDepth 20000 in
theorem zdw (H:SH P N κ) (σ:Store) (id:Nat) (n:Nat) (hs:n<2305843009213693952) (d:Array Int) (a b:Nat) (hd:d.size=n) (hab:a≤b) (hb:b≤n) :
 ACalls P N.brk [.os id 1 0 n,.int .i64 a,.int .i64 b] (σ.set id (arrA 1 (cK κ) d)) (fun r s=>r = .tup []∧s=σ.set id (arrA 1 (cK κ) (breakPatterns d a b))):=by
 refine zz H.brk (Nat.le_refl _) ?_
 simp only [SB.brk]
 obtain ⟨L,rfl⟩:∃ L,b=a+L:=⟨b - a,by omega⟩
 have e1:IntKind.i64.wrap (((a+L:Nat):Int) - a)=(L:Int):=wI (by omega) (by omega)
 simp only [cK,zg,hd,e1,↓vcPre,↓zk,↓reduceIte,vcPost,vcStd,Store.set_set,zj,ze,zf,zb,Nat.le_refl,Nat.zero_add,Array.size_setIfInBounds,Nat.reduceEqDiff,reduceCtorEq,Nat.reduceAdd,Nat.reduceLeDiff,Int.reduceLT,Int.reduceLE,↓u_setN]
 refine ⟨fun h8 => ?_,fun h8 => ?_⟩
 ·have h8':8≤L:=by omega
  have e2:IntKind.u64.wrap (L:Int)=L:=z11 (by omega)
  refine AllocQ.i1 fun i hi1 hi2 hi3 => ?_
  simp only [cK,zg,hd,e1,e2,↓vcPre,↓zk,↓reduceIte,vcPost,vcStd,Store.set_set,zj,ze,zf,zb,Nat.le_refl,Nat.zero_add,Array.size_setIfInBounds,Nat.reduceEqDiff,reduceCtorEq,Nat.reduceAdd,Nat.reduceLeDiff,Int.reduceLT,Int.reduceLE,↓u_setN]
  refine (H.npow L (by omega)).Q ?_
  obtain ⟨M,hM⟩:∃ M:Nat,M=1 <<<bitsLen L:=⟨_,rfl⟩
  have hM1:1≤M:=by rw [hM,Nat.one_shiftLeft];exact Nat.two_pow_pos _
  have hM2:M≤2*L:=by rw [hM,Nat.one_shiftLeft];exact two_pow_bitsLen_le (by omega)
  rw [←hM]
  have q1:IntKind.i64.wrap ((L:Int).tdiv 4)=((L / 4:Nat):Int):=wI (by rw [Int.tdiv_eq_ediv_of_nonneg (by omega)];omega) (by omega)
  have q2:IntKind.i64.wrap (((L / 4:Nat):Int)*2)=((L / 4*2:Nat):Int):=wI (by omega) (by omega)
  have q3:IntKind.i64.wrap ((a:Int)+((L / 4*2:Nat):Int))=((a+L / 4*2:Nat):Int):=wI (by omega) (by omega)
  have q4:IntKind.i64.wrap (((a+L / 4*2:Nat):Int) - 1)=((a+L / 4*2 - 1:Nat):Int):=wI (by omega) (by omega)
  have q5:IntKind.i64.wrap (((a+L / 4*2:Nat):Int)+1)=((a+L / 4*2+1:Nat):Int):=wI (by omega) (by omega)
  simp only [cK,zg,hd,e1,e2,q1,q2,q3,q4,↓vcPre,↓zk,↓reduceIte,vcPost,vcStd,Store.set_set,zj,ze,zf,zb,Nat.le_refl,Nat.zero_add,Array.size_setIfInBounds,Nat.reduceEqDiff,reduceCtorEq,Nat.reduceAdd,Nat.reduceLeDiff,Int.reduceLT,Int.reduceLE,↓u_setN]
  obtain ⟨i0,hi0⟩:∃ i0,i0=a+L / 4*2 - 1:=⟨_,rfl⟩
  rw [←hi0]
  have hb0:=zds d a L h8'
  rw [←hM,←hi0] at hb0
  refine ⟨by decide,?_⟩
  refine LoopQ.inv (S:=Nat×UInt64×Array Int) (fun s=>[(0,.os id 1 0 n),(1,.int .i64 a),(6,.int .i64 L),(7,.ptr i 0),(8,.int .u64 M),(9,.int .i64 ((i0+s.1:Nat):Int))])
   (fun s=>(σ.set id (arrA 1 (cK κ) s.2.2)).set i (.box [.int .u64 (s.2.1.toNat:Int)]))
   (fun s=>s.1≤3∧s.2.2.size=n∧bpR a L M i0 (3 - s.1) s.1 (s.2.1,s.2.2)=breakPatterns d a (a+L)) (fun s=>3 - s.1) (0,UInt64.ofNat L,d) ?_ ?_ ⟨by simp only;omega,hd,hb0.symm⟩ ?_
  ·simp only [Nat.add_zero]
  ·simp only [UInt64.toNat_ofNat']
   rw [show L % 2 ^ 64=L by omega]
   exact Store.sub_refl _
  ·rintro ⟨t,r,d1⟩ ⟨h1,h2,h3⟩
   simp only at h1 h2 h3
   simp only [cK,zg,h2,q1,q2,q3,q5,↓vcPre,↓zk,↓reduceIte,vcPost,vcStd,Store.set_set,zj,ze,zf,zb,Nat.le_refl,Nat.zero_add,Array.size_setIfInBounds,Nat.reduceEqDiff,reduceCtorEq,Nat.reduceAdd,Nat.reduceLeDiff,Int.reduceLT,Int.reduceLE,↓u_setN]
   refine ⟨by decide,fun c1 => ?_,fun c1 => ?_⟩
   ·have ht:t<3:=by omega
    refine (H.next r.toNat (UInt64.toNat_lt r) _ i (by simp [Store.set])).Q ?_
    intro r1 s1 hrs
    have hr1:=hrs.1
    have hs1:=hrs.2
    clear hrs
    subst hr1
    subst hs1
    rw [←xorNext_toNat r]
    obtain ⟨o1,ho1⟩:∃ o1,o1=(xorNext r).toNat &&& (M - 1):=⟨_,rfl⟩
    have lo1:o1≤M - 1:=by rw [ho1];exact Nat.and_le_right
    have u1:IntKind.u64.wrap ((M:Int) - 1)=((M - 1:Nat):Int):=by rw [show ((M:Int) - 1)=((M - 1:Nat):Int) by omega];exact z11 (by omega)
    have u2:bitInt .and .u64 (((xorNext r).toNat:Nat):Int) ((M - 1:Nat):Int)=(o1:Int):=by
     rw [ho1,←bits_and_u64_nat _ _ (UInt64.toNat_lt _) (by omega)];rfl
    have u3:IntKind.i64.wrap (o1:Int)=o1:=z5n (by omega)
    simp only [cK,zg,h2,q1,q2,q3,q5,u1,u2,u3,Store.set_set,↓vcPre,↓zk,↓reduceIte,vcPost,vcStd,Store.set_set,zj,ze,zf,zb,Nat.le_refl,Nat.zero_add,Array.size_setIfInBounds,Nat.reduceEqDiff,reduceCtorEq,Nat.reduceAdd,Nat.reduceLeDiff,Int.reduceLT,Int.reduceLE,↓u_setN]
    have hrd:∀ X Y:Obj,((σ.set id X).set i Y) id=some X:=fun X Y=>by rw [Store.set_ne _ _ hi2];simp [Store.set]
    have hst:∀ X Y Z:Obj,((σ.set id X).set i Y).set id Z=(σ.set id Z).set i Y:=fun X Y Z=>by
     rw [Store.set_comm (σ.set id X) Y Z hi1,Store.set_set]
    have w1:IntKind.i64.wrap (((i0+t:Nat):Int)+1)=((i0+(t+1):Nat):Int):=wI (by omega) (by omega)
    have p1:i0+t<n:=by omega
    refine ⟨fun c2 => ?_,fun c2 => ?_⟩
    ·have v1:IntKind.i64.wrap ((o1:Int) - L)=((o1 - L:Nat):Int):=wI (by omega) (by omega)
     have v2:IntKind.i64.wrap ((a:Int)+((o1 - L:Nat):Int))=((a+(o1 - L):Nat):Int):=wI (by omega) (by omega)
     have p2:a+(o1 - L)<n:=by omega
     rw [z29 a L M i0 t r d1 (o1 - L) ht (by rw [←ho1,if_pos (by omega)])] at h3
     simp only [cK,zg,h2,hrd,hst,v1,v2,w1,↓vcPre,↓zk,↓reduceIte,vcPost,vcStd,Store.set_set,zj,ze,zf,zb,Nat.le_refl,Nat.zero_add,Array.size_setIfInBounds,Nat.reduceEqDiff,reduceCtorEq,Nat.reduceAdd,Nat.reduceLeDiff,Int.reduceLT,Int.reduceLE,↓u_setN]
     and_intros <;> try omega
     refine NextQ.to (t+1,xorNext r,swp d1 (i0+t) (a+(o1 - L))) ?_ ?_ ?_ ?_
     ·rfl
     ·exact Store.sub_refl _
     ·simp only;omega
     ·exact ⟨by simp only;omega,by simp only [zb];exact h2,h3⟩
    ·have v2:IntKind.i64.wrap ((a:Int)+(o1:Int))=((a+o1:Nat):Int):=wI (by omega) (by omega)
     have p2:a+o1<n:=by omega
     rw [z29 a L M i0 t r d1 o1 ht (by rw [←ho1,if_neg (by omega)])] at h3
     simp only [cK,zg,h2,hrd,hst,v2,w1,↓vcPre,↓zk,↓reduceIte,vcPost,vcStd,Store.set_set,zj,ze,zf,zb,Nat.le_refl,Nat.zero_add,Array.size_setIfInBounds,Nat.reduceEqDiff,reduceCtorEq,Nat.reduceAdd,Nat.reduceLeDiff,Int.reduceLT,Int.reduceLE,↓u_setN]
     and_intros <;> try omega
     refine NextQ.to (t+1,xorNext r,swp d1 (i0+t) (a+o1)) ?_ ?_ ?_ ?_
     ·rfl
     ·exact Store.sub_refl _
     ·simp only;omega
     ·exact ⟨by simp only;omega,by simp only [zb];exact h2,h3⟩
   ·have ht:t=3:=by omega
    subst ht
    exact EndQ.to (σ.set id (arrA 1 (cK κ) d1)) (.tup []) rfl (Store.sub_set _ _ _ (by rw [Store.set_ne _ _ hi1];exact hi3)) ⟨rfl,by rw [←h3];rfl⟩
 ·have:breakPatterns d a (a+L)=d:=by
   unfold breakPatterns
   simp only [Nat.add_sub_cancel_left]
   rw [if_neg (by omega)]
  exact EndQ.to _ _ rfl (Store.sub_refl _) ⟨rfl,by rw [this]⟩
end
end Go.Am
namespace Go.Am
open Go.Sort
variable {P:Program} {N:SN} {κ:IntKind}
section
theorem zbv (H:SH P N κ) (hO:SWO ltU) (d:Array Int) (hs:d.size<2305843009213693952) (σ:Store) (id:Nat) :
 ACalls P N.sort [.os id 1 0 d.size] (σ.set id (arrA 1 (cK κ) d)) (fun r s=>r = .tup []∧s=σ.set id (arrA 1 (cK κ) (pdq ltU d 0 d.size (bitsLen d.size) true true))):=by
 refine zz H.sort (Nat.le_refl _) ?_
 simp only [SB.sort]
 simp only [z11 (n:=d.size) (by omega),↓vcPre,↓zk,↓reduceIte,vcPost,vcStd,Store.set_set,zj,ze,zf,zb,Nat.le_refl,Nat.zero_add,Array.size_setIfInBounds,Nat.reduceEqDiff,reduceCtorEq,Nat.reduceAdd,Nat.reduceLeDiff,Int.reduceLT,Int.reduceLE,↓u_setN]
 refine (H.len d.size (by omega)).Q ?_
 simp only [hs,↓vcPre,↓zk,↓reduceIte,vcPost,vcStd,Store.set_set,zj,ze,zf,zb,Nat.le_refl,Nat.zero_add,Array.size_setIfInBounds,Nat.reduceEqDiff,reduceCtorEq,Nat.reduceAdd,Nat.reduceLeDiff,Int.reduceLT,Int.reduceLE,↓u_setN]
 have hl:bitsLen d.size≤61:=(bitsLen_le_iff d.size 61).2 (by omega)
 have h:=zdy H hO σ id d.size hs (fun d' a b h1 h2 h3=>zdw H σ id d.size hs d' a b h1 h2 h3) (d.size+1) d 0 d.size (bitsLen d.size) rfl (by omega) (by omega) (by omega) (by omega)
 refine h.Q ?_
 intro r s hrs
 have hr1:=hrs.1
 have hs1:=hrs.2
 clear hrs h
 subst hr1
 subst hs1
 simp only [hs,↓vcPre,↓zk,↓reduceIte,vcPost,vcStd,Store.set_set,zj,ze,zf,zb,Nat.le_refl,Nat.zero_add,Array.size_setIfInBounds,Nat.reduceEqDiff,reduceCtorEq,Nat.reduceAdd,Nat.reduceLeDiff,Int.reduceLT,Int.reduceLE,↓u_setN]
 exact EndQ.to _ _ rfl (Store.sub_refl _) ⟨rfl,rfl⟩
end
end Go.Am
namespace Go.Am
open Go.Sort
variable {P:Program} {N:SN} {κ:IntKind}
theorem zbt (H:SH P N κ) (σ:Store):ACalls P N.ins [.nils,.int .i64 0,.int .i64 0] σ (fun r s=>r = .tup []∧s=σ):=by
 refine zz H.ins (Nat.le_refl _) ?_
 simp only [SB.ins]
 have e1:IntKind.i64.wrap (0+1)=1:=by decide
 simp only [e1,↓vcPre,↓z0,↓reduceIte,vcPost,vcStd,Nat.reduceEqDiff,reduceCtorEq,Nat.reduceAdd,Nat.reduceLeDiff,Int.reduceLT,Int.reduceLE,↓u_setN]
 refine LoopQ.inv (S:=Unit) (fun _=>[(0,.nils),(1,.int .i64 0),(2,.int .i64 0),(6,.int .i64 1)]) (fun _=>σ) (fun _=>True) (fun _=>0) () rfl (Store.sub_refl _) trivial ?_
 intro _ _
 simp only [↓vcPre,↓z0,↓reduceIte,vcPost,vcStd,Nat.reduceEqDiff,reduceCtorEq,Nat.reduceAdd,Nat.reduceLeDiff,Int.reduceLT,Int.reduceLE,↓u_setN]
 exact EndQ.to _ _ rfl (Store.sub_refl _) ⟨rfl,rfl⟩
theorem zbu (H:SH P N κ) (m:Int) (σ:Store):ACalls P N.pdq [.nils,.int .i64 0,.int .i64 0,.int .i64 m] σ (fun r s=>r = .tup []∧s=σ):=by
 refine zz H.pdq (Nat.le_refl _) ?_
 simp only [SB.pdq]
 simp only [↓vcPre,↓z0,↓reduceIte,vcPost,vcStd,Nat.reduceEqDiff,reduceCtorEq,Nat.reduceAdd,Nat.reduceLeDiff,Int.reduceLT,Int.reduceLE,↓u_setN]
 refine LoopQ.inv (S:=Unit) (fun _=>[(0,.nils),(1,.int .i64 0),(2,.int .i64 0),(3,.int .i64 m),(8,.bool true),(9,.bool true)]) (fun _=>σ) (fun _=>True) (fun _=>0) () rfl (Store.sub_refl _) trivial ?_
 intro _ _
 have e1:IntKind.i64.wrap (0 - 0)=0:=by decide
 simp only [e1,↓vcPre,↓z0,↓reduceIte,vcPost,vcStd,Nat.reduceEqDiff,reduceCtorEq,Nat.reduceAdd,Nat.reduceLeDiff,Int.reduceLT,Int.reduceLE,↓u_setN]
 refine (zbt H σ).Q ?_
 rintro r s ⟨rfl,rfl⟩
 simp only [↓vcPre,↓z0,↓reduceIte,vcPost,vcStd,Nat.reduceEqDiff,reduceCtorEq,Nat.reduceAdd,Nat.reduceLeDiff,Int.reduceLT,Int.reduceLE,↓u_setN]
 exact EndQ.to _ _ rfl (Store.sub_refl _) ⟨rfl,rfl⟩
theorem z9d (H:SH P N κ) (σ:Store):ACalls P N.sort [.nils] σ (fun r s=>r = .tup []∧s=σ):=by
 refine zz H.sort (Nat.le_refl _) ?_
 simp only [SB.sort]
 have e1:IntKind.u64.wrap 0=((0:Nat):Int):=by decide
 simp only [e1,↓vcPre,↓z0,↓reduceIte,vcPost,vcStd,Nat.reduceEqDiff,reduceCtorEq,Nat.reduceAdd,Nat.reduceLeDiff,Int.reduceLT,Int.reduceLE,↓u_setN]
 refine (H.len 0 (by omega)).Q ?_
 simp only [↓vcPre,↓z0,↓reduceIte,vcPost,vcStd,Nat.reduceEqDiff,reduceCtorEq,Nat.reduceAdd,Nat.reduceLeDiff,Int.reduceLT,Int.reduceLE,↓u_setN]
 refine (zbu H _ σ).Q ?_
 rintro r s ⟨rfl,rfl⟩
 simp only [↓vcPre,↓z0,↓reduceIte,vcPost,vcStd,Nat.reduceEqDiff,reduceCtorEq,Nat.reduceAdd,Nat.reduceLeDiff,Int.reduceLT,Int.reduceLE,↓u_setN]
 exact EndQ.to _ _ rfl (Store.sub_refl _) ⟨rfl,rfl⟩
theorem zc6:SWO ltU:=by
 have h:∀ x y,ltU x y=true↔x<y:=fun x y=>by unfold ltU cfU;rw [decide_eq_true_eq];omega
 refine ⟨fun x => ?_,fun x y z h1 h2 => ?_,fun x y z h1 h2 => ?_⟩
 ·rw [Bool.eq_false_iff,Ne,h];omega
 ·rw [h] at *;omega
 ·rw [Bool.eq_false_iff,Ne,h] at *;omega
theorem z7o (H:SH P N κ) {s:Store} {i:Nat} {L:List Int} (hs:s i=some (.arr 1 (L.map (cK κ)))) (hsz:L.length<1000000000000) :
 ACalls P N.sort [.os i 1 0 L.length] s (fun r s'=>r = .tup []∧∃ L':List Int,L'.Perm L∧L'.Pairwise (· ≤ ·)∧s'=s.set i (.arr 1 (L'.map (cK κ)))):=by
 have hs':s=s.set i (arrA 1 (cK κ) L.toArray):=(Store.set_self (by simpa [arrA] using hs)).symm
 have h:=zbv H zc6 L.toArray (by simp;omega) s i
 rw [←hs'] at h
 have hz:L.toArray.size=L.length:=by simp
 rw [hz] at h
 refine h.mono ?_
 rintro r s' ⟨rfl,rfl⟩
 generalize hd:pdq ltU L.toArray 0 L.length (bitsLen L.length) true true=d
 have hp:=pdq_sorts ltU zc6 L.toArray 0 L.length (bitsLen L.length) true true (by omega) (by simp) (.inl rfl)
 rw [hd] at hp
 obtain ⟨⟨h1,h2,h3⟩,h4⟩:=hp
 have hx:∀ (a:Array Int),a.size=L.length→a.extract 0 L.length=a:=fun a ha=>by rw [←ha];simp
 rw [hx _ (by simpa using h1),hx _ (by simp)] at h3
 refine ⟨rfl,d.toList,by simpa using h3,?_,rfl⟩
 rw [List.pairwise_iff_getElem]
 intro a b ha hb hab
 have:=h4 a b (Nat.zero_le _) hab (by simpa [h1] using hb)
 rw [getElem!_pos d a (by simpa using ha),getElem!_pos d b (by simpa using hb)] at this
 simp only [ltU,cfU,decide_eq_false_iff_not] at this
 have:=of_decide_eq_false this
 simp only [Array.getElem_toList]
 omega
theorem xq {P:Program} {fi:Nat} {b:BC} {slots:List RS} {n:Nat} (N:Nat) (fn:Func) (c:Code) (h1:P.funcs[fi]? = some fn) (h2:(fn.name == "runtime.NumGoroutine")=false) (h3:fn.body=some c) (h4:fn.ntmps=N)
 (h5:compX P false N (slots.map RS.slot) c=some b) (h6:fn.results.toList.mapM (compRS P)=some slots) (h7:n≤N):FnIs P fi b slots n:=⟨Fn.mkX false b slots N fn c h1 h2 h3 h4 h5 h6,rfl,rfl,h7⟩
end Go.Am
