/- A part of the proof: a logic for calls over plain values, and the functions that the law reaches, each walked once. -/
import Derived.Test.YtplkahhkogncjaaGreatQC10
import Derived.Laws.Bits64b
import Derived.Sort.AssemblyPlain
import Derived.Below
import Derived.Laws.AppendOwn
set_option linter.unusedVariables false
set_option linter.unusedSimpArgs false
set_option linter.unusedSectionVars false
namespace Go.Am
open Go.Sort
set_option linter.unusedSectionVars false
variable {P:Program} {N:SN} {κ:IntKind}
set_option maxHeartbeats 4000000 in
set_option maxRecDepth 20000 in
theorem zfr (H:SH P N κ) (hO:SWO ltU) (σ:Store) (id:Nat) (n:Nat) (hs:n<2305843009213693952)
 (h72:∀ (d:Array Int) (a b:Nat),d.size=n→a≤b→b≤n→ACalls P N.brk [.os id 1 0 n,.int .i64 a,.int .i64 b] (σ.set id (arrA 1 (cK κ) d)) (fun r s=>r = .tup []∧s=σ.set id (arrA 1 (cK κ) (breakPatterns d a b)))) :
 ∀ (w:Nat) (d:Array Int) (a b limit:Nat),d.size=n→b - a<w→a≤b→b≤n→limit<1000 →
 ACalls P N.pdq [.os id 1 0 n,.int .i64 a,.int .i64 b,.int .i64 limit] (σ.set id (arrA 1 (cK κ) d)) (fun r s=>r = .tup []∧s=σ.set id (arrA 1 (cK κ) (pdq ltU d a b limit true true))):=by
 intro w
 induction w with
 | zero=>intro d a b limit h1 h2;omega
 | succ w ih =>
 intro d a b limit hd hw hab hb hl
 refine y6 H.pdq (Nat.le_refl _) ?_
 simp only [SB.pdq]
 simp only [cK,zi,↓vcPre,↓zm,↓reduceIte,vcPost,vcStd,Store.set_set,zk,zf,zg,za,Nat.le_refl,Nat.zero_add,Array.size_setIfInBounds,Nat.reduceEqDiff,reduceCtorEq,Nat.reduceAdd,Nat.reduceLeDiff,Int.reduceLT,Int.reduceLE,↓u_setN]
 refine LoopQ.inv (S:=Nat×Nat×Nat×Bool×Bool×Array Int) (fun s=>[(0,.os id 1 0 n),(1,.int .i64 s.1),(2,.int .i64 s.2.1),(3,.int .i64 s.2.2.1),(8,.bool s.2.2.2.1),(9,.bool s.2.2.2.2.1)]) (fun s=>σ.set id (arrA 1 (cK κ) s.2.2.2.2.2))
  (fun s=>s.2.2.2.2.2.size=n∧s.1≤s.2.1∧s.2.1≤n∧s.2.2.1<1000∧s.2.1 - s.1≤b - a∧pdq ltU s.2.2.2.2.2 s.1 s.2.1 s.2.2.1 s.2.2.2.1 s.2.2.2.2.1=pdq ltU d a b limit true true) (fun s=>s.2.1 - s.1) (a,b,limit,true,true,d) rfl (Store.sub_refl _)
  ⟨hd,hab,hb,hl,Nat.le_refl _,rfl⟩ ?_
 rintro ⟨a1,b1,lm,wb,wp,d1⟩ ⟨g1,g2,g3,g4,g5,g6⟩
 simp only at g1 g2 g3 g4 g5 g6
 have eL:IntKind.i64.wrap ((b1:Int) - a1)=((b1 - a1:Nat):Int):=wI (by omega) (by omega)
 simp only [cK,zi,g1,eL,↓vcPre,↓zm,↓reduceIte,vcPost,vcStd,Store.set_set,zk,zf,zg,za,Nat.le_refl,Nat.zero_add,Array.size_setIfInBounds,Nat.reduceEqDiff,reduceCtorEq,Nat.reduceAdd,Nat.reduceLeDiff,Int.reduceLT,Int.reduceLE,↓u_setN]
 rw [z7e] at g6
 refine ⟨fun q1 => ?_,fun q1=>⟨fun q2 => ?_,fun q2 => ?_⟩⟩
 ·rw [if_pos (by omega)] at g6
  have h:=zfq H d1 a1 b1 g2 (by omega) (by omega) σ id
  rw [g1] at h
  refine h.Q ?_
  rintro r s ⟨rfl,rfl⟩
  simp only [↓vcPre,↓z8,↓reduceIte,vcPost,vcStd,Nat.reduceEqDiff,reduceCtorEq,Nat.reduceAdd,Nat.reduceLeDiff,Int.reduceLT,Int.reduceLE,↓u_setN]
  exact EndQ.to _ _ rfl (Store.sub_refl _) ⟨rfl,by rw [g6]⟩
 ·rw [if_neg (by omega),if_pos (by omega)] at g6
  have h:=zde H d1 a1 b1 g2 (by omega) (by omega) σ id
  rw [g1] at h
  refine h.Q ?_
  rintro r s ⟨rfl,rfl⟩
  simp only [↓vcPre,↓z8,↓reduceIte,vcPost,vcStd,Nat.reduceEqDiff,reduceCtorEq,Nat.reduceAdd,Nat.reduceLeDiff,Int.reduceLT,Int.reduceLE,↓u_setN]
  exact EndQ.to _ _ rfl (Store.sub_refl _) ⟨rfl,by rw [g6]⟩
 ·rw [if_neg (by omega),if_neg (by omega)] at g6
  have e1:IntKind.i64.wrap ((lm:Int) - 1)=((lm - 1:Nat):Int):=wI (by omega) (by omega)
  cases wb
  ·simp only [↓vcPre,↓z8,↓reduceIte,vcPost,vcStd,Nat.reduceEqDiff,reduceCtorEq,Nat.reduceAdd,Nat.reduceLeDiff,Int.reduceLT,Int.reduceLE,↓u_setN]
   refine (h72 d1 a1 b1 g1 g2 g3).Q ?_
   rintro r s ⟨rfl,rfl⟩
   simp only [e1,↓vcPre,↓z8,↓reduceIte,vcPost,vcStd,Nat.reduceEqDiff,reduceCtorEq,Nat.reduceAdd,Nat.reduceLeDiff,Int.reduceLT,Int.reduceLE,↓u_setN]
   rw [if_neg (by simp)] at g6
   obtain ⟨d2,hd2⟩:∃ x,x=breakPatterns d1 a1 b1:=⟨_,rfl⟩
   rw [←hd2] at g6 ⊢
   have k1:d2.size=n:=by
    rw [hd2,(breakPatterns_holds d1 a1 b1 g2 (by omega)).1];exact g1
   have hA:=z5v H d2 a1 b1 (by omega) (by omega) (by omega) σ id
   rw [k1] at hA
   refine hA.Q ?_
   rintro r s ⟨rfl,rfl⟩
   obtain ⟨pv1,pv2⟩:=choosePivot_holds ltU d2 a1 b1 (by omega)
   rw [pdqA] at g6
   clear hA
   generalize choosePivot ltU d2 a1 b1=R at *
   obtain ⟨p,hh⟩:=R
   simp only at pv1 pv2 g6
   cases hh
   ·rw [if_neg (by decide)] at g6
    simp only [cK,zi,k1,eL,e1,↓vcPre,↓zm,↓reduceIte,vcPost,vcStd,Store.set_set,zk,zf,zg,za,Nat.le_refl,Nat.zero_add,Array.size_setIfInBounds,Nat.reduceEqDiff,reduceCtorEq,Nat.reduceAdd,Nat.reduceLeDiff,Int.reduceLT,Int.reduceLE,↓u_setN]
    refine ⟨fun z=>(by exfalso;omega),fun _ => ?_⟩
    obtain ⟨d3,hd3⟩:∃ x,x=d2:=⟨_,rfl⟩
    rw [←hd3] at g6 ⊢
    have k3:d3.size=n:=by rw [hd3];exact k1
    have pw1:=pv1
    have pw2:=pv2
    rw [pdqB,if_neg (by simp)] at g6
    have hT:=wc H hO σ id n hs w ih d3 (pdq ltU d a b limit true true) a1 b1 p (lm - 1) false wp false 68 (by decide) k3 g3 pw1 pw2 (by omega) (by omega)
    refine hT _ _ _ ?_ ?_ g6
    all_goals
     intro a2 b2 l2 w1 w2 D e he q1 q2 q3 q4 q5 q6
     subst he
     try simp only [↓reduceIte]
     refine NextQ.to (a2,b2,l2,w1,w2,D) ?_ ?_ ?_ ?_
     ·rfl
     ·exact Store.sub_refl _
     ·simp only;omega
     ·exact ⟨q1,q2,q3,q4,by simp only;omega,q6⟩
   ·rw [if_neg (by decide)] at g6
    simp only [cK,zi,k1,eL,e1,↓vcPre,↓zm,↓reduceIte,vcPost,vcStd,Store.set_set,zk,zf,zg,za,Nat.le_refl,Nat.zero_add,Array.size_setIfInBounds,Nat.reduceEqDiff,reduceCtorEq,Nat.reduceAdd,Nat.reduceLeDiff,Int.reduceLT,Int.reduceLE,↓u_setN]
    refine ⟨fun z=>(by exfalso;omega),fun _ => ?_⟩
    obtain ⟨d3,hd3⟩:∃ x,x=d2:=⟨_,rfl⟩
    rw [←hd3] at g6 ⊢
    have k3:d3.size=n:=by rw [hd3];exact k1
    have pw1:=pv1
    have pw2:=pv2
    rw [pdqB,if_neg (by simp)] at g6
    have hT:=wc H hO σ id n hs w ih d3 (pdq ltU d a b limit true true) a1 b1 p (lm - 1) false wp false 68 (by decide) k3 g3 pw1 pw2 (by omega) (by omega)
    refine hT _ _ _ ?_ ?_ g6
    all_goals
     intro a2 b2 l2 w1 w2 D e he q1 q2 q3 q4 q5 q6
     subst he
     try simp only [↓reduceIte]
     refine NextQ.to (a2,b2,l2,w1,w2,D) ?_ ?_ ?_ ?_
     ·rfl
     ·exact Store.sub_refl _
     ·simp only;omega
     ·exact ⟨q1,q2,q3,q4,by simp only;omega,q6⟩
   ·rw [if_pos rfl] at g6
    have f6:IntKind.i64.wrap ((b1:Int) - 1)=((b1 - 1:Nat):Int):=wI (by omega) (by omega)
    have f7:IntKind.i64.wrap ((p:Int) - a1)=((p - a1:Nat):Int):=wI (by omega) (by omega)
    have f8:IntKind.i64.wrap (((b1 - 1:Nat):Int) - ((p - a1:Nat):Int))=((b1 - 1 - (p - a1):Nat):Int):=wI (by omega) (by omega)
    simp only [cK,zi,k1,eL,e1,↓vcPre,↓zm,↓reduceIte,vcPost,vcStd,Store.set_set,zk,zf,zg,za,Nat.le_refl,Nat.zero_add,Array.size_setIfInBounds,Nat.reduceEqDiff,reduceCtorEq,Nat.reduceAdd,Nat.reduceLeDiff,Int.reduceLT,Int.reduceLE,↓u_setN]
    have h74:=z5w H d2 a1 b1 g2 (by omega) (by omega) σ id
    rw [k1] at h74
    refine h74.Q ?_
    intro r s hrs
    have hr1:=hrs.1
    have hs1:=hrs.2
    clear hrs
    subst hr1
    subst hs1
    obtain ⟨d3,hd3⟩:∃ x,x=reverseRange d2 a1 b1:=⟨_,rfl⟩
    rw [←hd3] at g6 ⊢
    have k3:d3.size=n:=by rw [hd3,reverseRange,yz];exact k1
    simp only [cK,zi,k3,eL,e1,f6,f7,f8,↓vcPre,↓zm,↓reduceIte,vcPost,vcStd,Store.set_set,zk,zf,zg,za,Nat.le_refl,Nat.zero_add,Array.size_setIfInBounds,Nat.reduceEqDiff,reduceCtorEq,Nat.reduceAdd,Nat.reduceLeDiff,Int.reduceLT,Int.reduceLE,↓u_setN]
    have pw1:a1≤b1 - 1 - (p - a1):=by omega
    have pw2:b1 - 1 - (p - a1)<b1:=by omega
    generalize b1 - 1 - (p - a1)=p at *
    rw [pdqB,if_neg (by simp)] at g6
    have hT:=wc H hO σ id n hs w ih d3 (pdq ltU d a b limit true true) a1 b1 p (lm - 1) false wp false 68 (by decide) k3 g3 pw1 pw2 (by omega) (by omega)
    refine hT _ _ _ ?_ ?_ g6
    all_goals
     intro a2 b2 l2 w1 w2 D e he q1 q2 q3 q4 q5 q6
     subst he
     try simp only [↓reduceIte]
     refine NextQ.to (a2,b2,l2,w1,w2,D) ?_ ?_ ?_ ?_
     ·rfl
     ·exact Store.sub_refl _
     ·simp only;omega
     ·exact ⟨q1,q2,q3,q4,by simp only;omega,q6⟩
  ·simp only [↓vcPre,↓z8,↓reduceIte,vcPost,vcStd,Nat.reduceEqDiff,reduceCtorEq,Nat.reduceAdd,Nat.reduceLeDiff,Int.reduceLT,Int.reduceLE,↓u_setN]
   rw [if_pos rfl] at g6
   obtain ⟨d2,hd2⟩:∃ x,x=d1:=⟨_,rfl⟩
   rw [←hd2] at g6 ⊢
   have k1:d2.size=n:=by rw [hd2];exact g1
   cases wp
   ·have hA:=z5v H d2 a1 b1 (by omega) (by omega) (by omega) σ id
    rw [k1] at hA
    refine hA.Q ?_
    rintro r s ⟨rfl,rfl⟩
    obtain ⟨pv1,pv2⟩:=choosePivot_holds ltU d2 a1 b1 (by omega)
    rw [pdqA] at g6
    clear hA
    generalize choosePivot ltU d2 a1 b1=R at *
    obtain ⟨p,hh⟩:=R
    simp only at pv1 pv2 g6
    cases hh
    ·rw [if_neg (by decide)] at g6
     simp only [cK,zi,k1,eL,e1,↓vcPre,↓zm,↓reduceIte,vcPost,vcStd,Store.set_set,zk,zf,zg,za,Nat.le_refl,Nat.zero_add,Array.size_setIfInBounds,Nat.reduceEqDiff,reduceCtorEq,Nat.reduceAdd,Nat.reduceLeDiff,Int.reduceLT,Int.reduceLE,↓u_setN]
     refine ⟨fun z=>(by exfalso;omega),fun _ => ?_⟩
     obtain ⟨d3,hd3⟩:∃ x,x=d2:=⟨_,rfl⟩
     rw [←hd3] at g6 ⊢
     have k3:d3.size=n:=by rw [hd3];exact k1
     have pw1:=pv1
     have pw2:=pv2
     rw [pdqB,if_neg (by simp)] at g6
     have hT:=wc H hO σ id n hs w ih d3 (pdq ltU d a b limit true true) a1 b1 p lm true false false 68 (by decide) k3 g3 pw1 pw2 (by omega) (by omega)
     refine hT _ _ _ ?_ ?_ g6
     all_goals
      intro a2 b2 l2 w1 w2 D e he q1 q2 q3 q4 q5 q6
      subst he
      try simp only [↓reduceIte]
      refine NextQ.to (a2,b2,l2,w1,w2,D) ?_ ?_ ?_ ?_
      ·rfl
      ·exact Store.sub_refl _
      ·simp only;omega
      ·exact ⟨q1,q2,q3,q4,by simp only;omega,q6⟩
    ·rw [if_neg (by decide)] at g6
     simp only [cK,zi,k1,eL,e1,↓vcPre,↓zm,↓reduceIte,vcPost,vcStd,Store.set_set,zk,zf,zg,za,Nat.le_refl,Nat.zero_add,Array.size_setIfInBounds,Nat.reduceEqDiff,reduceCtorEq,Nat.reduceAdd,Nat.reduceLeDiff,Int.reduceLT,Int.reduceLE,↓u_setN]
     refine ⟨fun z=>(by exfalso;omega),fun _ => ?_⟩
     obtain ⟨d3,hd3⟩:∃ x,x=d2:=⟨_,rfl⟩
     rw [←hd3] at g6 ⊢
     have k3:d3.size=n:=by rw [hd3];exact k1
     have pw1:=pv1
     have pw2:=pv2
     rw [pdqB,if_neg (by simp)] at g6
     have hT:=wc H hO σ id n hs w ih d3 (pdq ltU d a b limit true true) a1 b1 p lm true false false 68 (by decide) k3 g3 pw1 pw2 (by omega) (by omega)
     refine hT _ _ _ ?_ ?_ g6
     all_goals
      intro a2 b2 l2 w1 w2 D e he q1 q2 q3 q4 q5 q6
      subst he
      try simp only [↓reduceIte]
      refine NextQ.to (a2,b2,l2,w1,w2,D) ?_ ?_ ?_ ?_
      ·rfl
      ·exact Store.sub_refl _
      ·simp only;omega
      ·exact ⟨q1,q2,q3,q4,by simp only;omega,q6⟩
    ·rw [if_pos rfl] at g6
     have f6:IntKind.i64.wrap ((b1:Int) - 1)=((b1 - 1:Nat):Int):=wI (by omega) (by omega)
     have f7:IntKind.i64.wrap ((p:Int) - a1)=((p - a1:Nat):Int):=wI (by omega) (by omega)
     have f8:IntKind.i64.wrap (((b1 - 1:Nat):Int) - ((p - a1:Nat):Int))=((b1 - 1 - (p - a1):Nat):Int):=wI (by omega) (by omega)
     simp only [cK,zi,k1,eL,e1,↓vcPre,↓zm,↓reduceIte,vcPost,vcStd,Store.set_set,zk,zf,zg,za,Nat.le_refl,Nat.zero_add,Array.size_setIfInBounds,Nat.reduceEqDiff,reduceCtorEq,Nat.reduceAdd,Nat.reduceLeDiff,Int.reduceLT,Int.reduceLE,↓u_setN]
     have h74:=z5w H d2 a1 b1 g2 (by omega) (by omega) σ id
     rw [k1] at h74
     refine h74.Q ?_
     intro r s hrs
     have hr1:=hrs.1
     have hs1:=hrs.2
     clear hrs
     subst hr1
     subst hs1
     obtain ⟨d3,hd3⟩:∃ x,x=reverseRange d2 a1 b1:=⟨_,rfl⟩
     rw [←hd3] at g6 ⊢
     have k3:d3.size=n:=by rw [hd3,reverseRange,yz];exact k1
     simp only [cK,zi,k3,eL,e1,f6,f7,f8,↓vcPre,↓zm,↓reduceIte,vcPost,vcStd,Store.set_set,zk,zf,zg,za,Nat.le_refl,Nat.zero_add,Array.size_setIfInBounds,Nat.reduceEqDiff,reduceCtorEq,Nat.reduceAdd,Nat.reduceLeDiff,Int.reduceLT,Int.reduceLE,↓u_setN]
     have pw1:a1≤b1 - 1 - (p - a1):=by omega
     have pw2:b1 - 1 - (p - a1)<b1:=by omega
     generalize b1 - 1 - (p - a1)=p at *
     rw [pdqB,if_neg (by simp)] at g6
     have hT:=wc H hO σ id n hs w ih d3 (pdq ltU d a b limit true true) a1 b1 p lm true false false 68 (by decide) k3 g3 pw1 pw2 (by omega) (by omega)
     refine hT _ _ _ ?_ ?_ g6
     all_goals
      intro a2 b2 l2 w1 w2 D e he q1 q2 q3 q4 q5 q6
      subst he
      try simp only [↓reduceIte]
      refine NextQ.to (a2,b2,l2,w1,w2,D) ?_ ?_ ?_ ?_
      ·rfl
      ·exact Store.sub_refl _
      ·simp only;omega
      ·exact ⟨q1,q2,q3,q4,by simp only;omega,q6⟩
   ·have hA:=z5v H d2 a1 b1 (by omega) (by omega) (by omega) σ id
    rw [k1] at hA
    refine hA.Q ?_
    rintro r s ⟨rfl,rfl⟩
    obtain ⟨pv1,pv2⟩:=choosePivot_holds ltU d2 a1 b1 (by omega)
    rw [pdqA] at g6
    clear hA
    generalize choosePivot ltU d2 a1 b1=R at *
    obtain ⟨p,hh⟩:=R
    simp only at pv1 pv2 g6
    cases hh
    ·rw [if_neg (by decide)] at g6
     simp only [cK,zi,k1,eL,e1,↓vcPre,↓zm,↓reduceIte,vcPost,vcStd,Store.set_set,zk,zf,zg,za,Nat.le_refl,Nat.zero_add,Array.size_setIfInBounds,Nat.reduceEqDiff,reduceCtorEq,Nat.reduceAdd,Nat.reduceLeDiff,Int.reduceLT,Int.reduceLE,↓u_setN]
     refine ⟨fun z=>(by exfalso;omega),fun _ => ?_⟩
     obtain ⟨d3,hd3⟩:∃ x,x=d2:=⟨_,rfl⟩
     rw [←hd3] at g6 ⊢
     have k3:d3.size=n:=by rw [hd3];exact k1
     have pw1:=pv1
     have pw2:=pv2
     rw [pdqB,if_neg (by simp)] at g6
     refine ⟨fun z=>(by exfalso;omega),fun _ => ?_⟩
     have hT:=wc H hO σ id n hs w ih d3 (pdq ltU d a b limit true true) a1 b1 p lm true true false 68 (by decide) k3 g3 pw1 pw2 (by omega) (by omega)
     refine hT _ _ _ ?_ ?_ g6
     all_goals
      intro a2 b2 l2 w1 w2 D e he q1 q2 q3 q4 q5 q6
      subst he
      try simp only [↓reduceIte]
      refine NextQ.to (a2,b2,l2,w1,w2,D) ?_ ?_ ?_ ?_
      ·rfl
      ·exact Store.sub_refl _
      ·simp only;omega
      ·exact ⟨q1,q2,q3,q4,by simp only;omega,q6⟩
    ·rw [if_neg (by decide)] at g6
     simp only [cK,zi,k1,eL,e1,↓vcPre,↓zm,↓reduceIte,vcPost,vcStd,Store.set_set,zk,zf,zg,za,Nat.le_refl,Nat.zero_add,Array.size_setIfInBounds,Nat.reduceEqDiff,reduceCtorEq,Nat.reduceAdd,Nat.reduceLeDiff,Int.reduceLT,Int.reduceLE,↓u_setN]
     refine ⟨fun z=>(by exfalso;omega),fun _ => ?_⟩
     obtain ⟨d3,hd3⟩:∃ x,x=d2:=⟨_,rfl⟩
     rw [←hd3] at g6 ⊢
     have k3:d3.size=n:=by rw [hd3];exact k1
     have pw1:=pv1
     have pw2:=pv2
     rw [pdqB,if_pos (by simp)] at g6
     have h75:=z2j H d3 a1 b1 (by omega) (by omega) (by omega) σ id
     have k7:(partialInsertionSort ltU d3 a1 b1).1.size=n:=by rw [partialInsertionSort,yq];exact k3
     rw [k3] at h75
     generalize partialInsertionSort ltU d3 a1 b1=R at h75 k7 g6
     refine h75.Q ?_
     intro r s hrs
     have hr1:=hrs.1
     have hs1:=hrs.2
     clear hrs
     subst hr1
     subst hs1
     clear h75
     obtain ⟨d3,pb⟩:=R
     have k3:d3.size=n:=k7
     simp only at g6
     cases pb
     ·rw [if_neg (by simp)] at g6
      simp only [cK,zi,k3,eL,e1,↓vcPre,↓zm,↓reduceIte,vcPost,vcStd,Store.set_set,zk,zf,zg,za,Nat.le_refl,Nat.zero_add,Array.size_setIfInBounds,Nat.reduceEqDiff,reduceCtorEq,Nat.reduceAdd,Nat.reduceLeDiff,Int.reduceLT,Int.reduceLE,↓u_setN]
      have hT:=wc H hO σ id n hs w ih d3 (pdq ltU d a b limit true true) a1 b1 p lm true true false 72 (by decide) k3 g3 pw1 pw2 (by omega) (by omega)
      refine hT _ _ _ ?_ ?_ g6
      all_goals
       intro a2 b2 l2 w1 w2 D e he q1 q2 q3 q4 q5 q6
       subst he
       try simp only [↓reduceIte]
       refine NextQ.to (a2,b2,l2,w1,w2,D) ?_ ?_ ?_ ?_
       ·rfl
       ·exact Store.sub_refl _
       ·simp only;omega
       ·exact ⟨q1,q2,q3,q4,by simp only;omega,q6⟩
     ·rw [if_pos rfl] at g6
      simp only [cK,zi,k3,eL,e1,↓vcPre,↓zm,↓reduceIte,vcPost,vcStd,Store.set_set,zk,zf,zg,za,Nat.le_refl,Nat.zero_add,Array.size_setIfInBounds,Nat.reduceEqDiff,reduceCtorEq,Nat.reduceAdd,Nat.reduceLeDiff,Int.reduceLT,Int.reduceLE,↓u_setN]
      exact EndQ.to _ _ rfl (Store.sub_refl _) ⟨rfl,by rw [g6]⟩
    ·rw [if_pos rfl] at g6
     have f6:IntKind.i64.wrap ((b1:Int) - 1)=((b1 - 1:Nat):Int):=wI (by omega) (by omega)
     have f7:IntKind.i64.wrap ((p:Int) - a1)=((p - a1:Nat):Int):=wI (by omega) (by omega)
     have f8:IntKind.i64.wrap (((b1 - 1:Nat):Int) - ((p - a1:Nat):Int))=((b1 - 1 - (p - a1):Nat):Int):=wI (by omega) (by omega)
     simp only [cK,zi,k1,eL,e1,↓vcPre,↓zm,↓reduceIte,vcPost,vcStd,Store.set_set,zk,zf,zg,za,Nat.le_refl,Nat.zero_add,Array.size_setIfInBounds,Nat.reduceEqDiff,reduceCtorEq,Nat.reduceAdd,Nat.reduceLeDiff,Int.reduceLT,Int.reduceLE,↓u_setN]
     have h74:=z5w H d2 a1 b1 g2 (by omega) (by omega) σ id
     rw [k1] at h74
     refine h74.Q ?_
     intro r s hrs
     have hr1:=hrs.1
     have hs1:=hrs.2
     clear hrs
     subst hr1
     subst hs1
     obtain ⟨d3,hd3⟩:∃ x,x=reverseRange d2 a1 b1:=⟨_,rfl⟩
     rw [←hd3] at g6 ⊢
     have k3:d3.size=n:=by rw [hd3,reverseRange,yz];exact k1
     simp only [cK,zi,k3,eL,e1,f6,f7,f8,↓vcPre,↓zm,↓reduceIte,vcPost,vcStd,Store.set_set,zk,zf,zg,za,Nat.le_refl,Nat.zero_add,Array.size_setIfInBounds,Nat.reduceEqDiff,reduceCtorEq,Nat.reduceAdd,Nat.reduceLeDiff,Int.reduceLT,Int.reduceLE,↓u_setN]
     have pw1:a1≤b1 - 1 - (p - a1):=by omega
     have pw2:b1 - 1 - (p - a1)<b1:=by omega
     generalize b1 - 1 - (p - a1)=p at *
     rw [pdqB,if_pos (by simp)] at g6
     have h75:=z2j H d3 a1 b1 (by omega) (by omega) (by omega) σ id
     have k7:(partialInsertionSort ltU d3 a1 b1).1.size=n:=by rw [partialInsertionSort,yq];exact k3
     rw [k3] at h75
     generalize partialInsertionSort ltU d3 a1 b1=R at h75 k7 g6
     refine h75.Q ?_
     intro r s hrs
     have hr1:=hrs.1
     have hs1:=hrs.2
     clear hrs
     subst hr1
     subst hs1
     clear h75
     obtain ⟨d3,pb⟩:=R
     have k3:d3.size=n:=k7
     simp only at g6
     cases pb
     ·rw [if_neg (by simp)] at g6
      simp only [cK,zi,k3,eL,e1,↓vcPre,↓zm,↓reduceIte,vcPost,vcStd,Store.set_set,zk,zf,zg,za,Nat.le_refl,Nat.zero_add,Array.size_setIfInBounds,Nat.reduceEqDiff,reduceCtorEq,Nat.reduceAdd,Nat.reduceLeDiff,Int.reduceLT,Int.reduceLE,↓u_setN]
      have hT:=wc H hO σ id n hs w ih d3 (pdq ltU d a b limit true true) a1 b1 p lm true true false 72 (by decide) k3 g3 pw1 pw2 (by omega) (by omega)
      refine hT _ _ _ ?_ ?_ g6
      all_goals
       intro a2 b2 l2 w1 w2 D e he q1 q2 q3 q4 q5 q6
       subst he
       try simp only [↓reduceIte]
       refine NextQ.to (a2,b2,l2,w1,w2,D) ?_ ?_ ?_ ?_
       ·rfl
       ·exact Store.sub_refl _
       ·simp only;omega
       ·exact ⟨q1,q2,q3,q4,by simp only;omega,q6⟩
     ·rw [if_pos rfl] at g6
      simp only [cK,zi,k3,eL,e1,↓vcPre,↓zm,↓reduceIte,vcPost,vcStd,Store.set_set,zk,zf,zg,za,Nat.le_refl,Nat.zero_add,Array.size_setIfInBounds,Nat.reduceEqDiff,reduceCtorEq,Nat.reduceAdd,Nat.reduceLeDiff,Int.reduceLT,Int.reduceLE,↓u_setN]
      exact EndQ.to _ _ rfl (Store.sub_refl _) ⟨rfl,by rw [g6]⟩
end Go.Am
namespace Go.Am
open Go.Sort
variable {P:Program} {N:SN} {κ:IntKind}
section
def bpR (a L M i0:Nat):Nat→Nat→UInt64×Array Int→Array Int
 | 0,_,st=>st.2
 | k+1,t,st=>bpR a L M i0 k (t+1) (breakStep a L M st (i0+t))
theorem zfm (d:Array Int) (a L:Nat) (h8:8≤L):breakPatterns d a (a+L)=bpR a L (1 <<<bitsLen L) (a+L / 4*2 - 1) 3 0 (UInt64.ofNat L,d):=by
 unfold breakPatterns
 simp only [Nat.add_sub_cancel_left]
 rw [if_pos h8]
 rfl
theorem z39 (a L M i0 t:Nat) (r:UInt64) (d:Array Int) (o:Nat) (ht:t<3) (ho:(if (xorNext r).toNat &&& (M - 1)≥L then ((xorNext r).toNat &&& (M - 1)) - L else (xorNext r).toNat &&& (M - 1))=o) :
 bpR a L M i0 (3 - t) t (r,d)=bpR a L M i0 (3 - (t+1)) (t+1) (xorNext r,swp d (i0+t) (a+o)):=by
 rw [show 3 - t=(3 - (t+1))+1 by omega,bpR]
 unfold breakStep
 simp only [ho]
end
section
set_option maxRecDepth 20000 in
theorem zfp (H:SH P N κ) (σ:Store) (id:Nat) (n:Nat) (hs:n<2305843009213693952) (d:Array Int) (a b:Nat) (hd:d.size=n) (hab:a≤b) (hb:b≤n) :
 ACalls P N.brk [.os id 1 0 n,.int .i64 a,.int .i64 b] (σ.set id (arrA 1 (cK κ) d)) (fun r s=>r = .tup []∧s=σ.set id (arrA 1 (cK κ) (breakPatterns d a b))):=by
 refine y6 H.brk (Nat.le_refl _) ?_
 simp only [SB.brk]
 obtain ⟨L,rfl⟩:∃ L,b=a+L:=⟨b - a,by omega⟩
 have e1:IntKind.i64.wrap (((a+L:Nat):Int) - a)=(L:Int):=wI (by omega) (by omega)
 simp only [cK,zi,hd,e1,↓vcPre,↓zm,↓reduceIte,vcPost,vcStd,Store.set_set,zk,zf,zg,za,Nat.le_refl,Nat.zero_add,Array.size_setIfInBounds,Nat.reduceEqDiff,reduceCtorEq,Nat.reduceAdd,Nat.reduceLeDiff,Int.reduceLT,Int.reduceLE,↓u_setN]
 refine ⟨fun h8 => ?_,fun h8 => ?_⟩
 ·have h8':8≤L:=by omega
  have e2:IntKind.u64.wrap (L:Int)=L:=z1s (by omega)
  refine AllocQ.i1 fun i hi1 hi2 hi3 => ?_
  simp only [cK,zi,hd,e1,e2,↓vcPre,↓zm,↓reduceIte,vcPost,vcStd,Store.set_set,zk,zf,zg,za,Nat.le_refl,Nat.zero_add,Array.size_setIfInBounds,Nat.reduceEqDiff,reduceCtorEq,Nat.reduceAdd,Nat.reduceLeDiff,Int.reduceLT,Int.reduceLE,↓u_setN]
  refine (H.npow L (by omega)).Q ?_
  obtain ⟨M,hM⟩:∃ M:Nat,M=1 <<<bitsLen L:=⟨_,rfl⟩
  have hM1:1≤M:=by rw [hM,Nat.one_shiftLeft];exact Nat.two_pow_pos _
  have hM2:M≤2*L:=by rw [hM,Nat.one_shiftLeft];exact two_pow_bitsLen_le (by omega)
  rw [←hM]
  have q1:IntKind.i64.wrap ((L:Int).tdiv 4)=((L / 4:Nat):Int):=wI (by rw [Int.tdiv_eq_ediv_of_nonneg (by omega)];omega) (by omega)
  have q2:IntKind.i64.wrap (((L / 4:Nat):Int)*2)=((L / 4*2:Nat):Int):=wI (by omega) (by omega)
  have q3:IntKind.i64.wrap ((a:Int)+((L / 4*2:Nat):Int))=((a+L / 4*2:Nat):Int):=wI (by omega) (by omega)
  have q4:IntKind.i64.wrap (((a+L / 4*2:Nat):Int) - 1)=((a+L / 4*2 - 1:Nat):Int):=wI (by omega) (by omega)
  have q5:IntKind.i64.wrap (((a+L / 4*2:Nat):Int)+1)=((a+L / 4*2+1:Nat):Int):=wI (by omega) (by omega)
  simp only [cK,zi,hd,e1,e2,q1,q2,q3,q4,↓vcPre,↓zm,↓reduceIte,vcPost,vcStd,Store.set_set,zk,zf,zg,za,Nat.le_refl,Nat.zero_add,Array.size_setIfInBounds,Nat.reduceEqDiff,reduceCtorEq,Nat.reduceAdd,Nat.reduceLeDiff,Int.reduceLT,Int.reduceLE,↓u_setN]
  obtain ⟨i0,hi0⟩:∃ i0,i0=a+L / 4*2 - 1:=⟨_,rfl⟩
  rw [←hi0]
  have hb0:=zfm d a L h8'
  rw [←hM,←hi0] at hb0
  refine ⟨by decide,?_⟩
  refine LoopQ.inv (S:=Nat×UInt64×Array Int) (fun s=>[(0,.os id 1 0 n),(1,.int .i64 a),(6,.int .i64 L),(7,.ptr i 0),(8,.int .u64 M),(9,.int .i64 ((i0+s.1:Nat):Int))])
   (fun s=>(σ.set id (arrA 1 (cK κ) s.2.2)).set i (.box [.int .u64 (s.2.1.toNat:Int)]))
   (fun s=>s.1≤3∧s.2.2.size=n∧bpR a L M i0 (3 - s.1) s.1 (s.2.1,s.2.2)=breakPatterns d a (a+L)) (fun s=>3 - s.1) (0,UInt64.ofNat L,d) ?_ ?_ ⟨by simp only;omega,hd,hb0.symm⟩ ?_
  ·simp only [Nat.add_zero]
  ·simp only [UInt64.toNat_ofNat']
   rw [show L % 2 ^ 64=L by omega]
   exact Store.sub_refl _
  ·rintro ⟨t,r,d1⟩ ⟨h1,h2,h3⟩
   simp only at h1 h2 h3
   simp only [cK,zi,h2,q1,q2,q3,q5,↓vcPre,↓zm,↓reduceIte,vcPost,vcStd,Store.set_set,zk,zf,zg,za,Nat.le_refl,Nat.zero_add,Array.size_setIfInBounds,Nat.reduceEqDiff,reduceCtorEq,Nat.reduceAdd,Nat.reduceLeDiff,Int.reduceLT,Int.reduceLE,↓u_setN]
   refine ⟨by decide,fun c1 => ?_,fun c1 => ?_⟩
   ·have ht:t<3:=by omega
    refine (H.next r.toNat (UInt64.toNat_lt r) _ i (by simp [Store.set])).Q ?_
    intro r1 s1 hrs
    have hr1:=hrs.1
    have hs1:=hrs.2
    clear hrs
    subst hr1
    subst hs1
    rw [←xorNext_toNat r]
    obtain ⟨o1,ho1⟩:∃ o1,o1=(xorNext r).toNat &&& (M - 1):=⟨_,rfl⟩
    have lo1:o1≤M - 1:=by rw [ho1];exact Nat.and_le_right
    have u1:IntKind.u64.wrap ((M:Int) - 1)=((M - 1:Nat):Int):=by rw [show ((M:Int) - 1)=((M - 1:Nat):Int) by omega];exact z1s (by omega)
    have u2:bitInt .and .u64 (((xorNext r).toNat:Nat):Int) ((M - 1:Nat):Int)=(o1:Int):=by
     rw [ho1,←bits_and_u64_nat _ _ (UInt64.toNat_lt _) (by omega)];rfl
    have u3:IntKind.i64.wrap (o1:Int)=o1:=z6r (by omega)
    simp only [cK,zi,h2,q1,q2,q3,q5,u1,u2,u3,Store.set_set,↓vcPre,↓zm,↓reduceIte,vcPost,vcStd,Store.set_set,zk,zf,zg,za,Nat.le_refl,Nat.zero_add,Array.size_setIfInBounds,Nat.reduceEqDiff,reduceCtorEq,Nat.reduceAdd,Nat.reduceLeDiff,Int.reduceLT,Int.reduceLE,↓u_setN]
    have hrd:∀ X Y:Obj,((σ.set id X).set i Y) id=some X:=fun X Y=>by rw [Store.set_ne _ _ hi2];simp [Store.set]
    have hst:∀ X Y Z:Obj,((σ.set id X).set i Y).set id Z=(σ.set id Z).set i Y:=fun X Y Z=>by
     rw [Store.set_comm (σ.set id X) Y Z hi1,Store.set_set]
    have w1:IntKind.i64.wrap (((i0+t:Nat):Int)+1)=((i0+(t+1):Nat):Int):=wI (by omega) (by omega)
    have p1:i0+t<n:=by omega
    refine ⟨fun c2 => ?_,fun c2 => ?_⟩
    ·have v1:IntKind.i64.wrap ((o1:Int) - L)=((o1 - L:Nat):Int):=wI (by omega) (by omega)
     have v2:IntKind.i64.wrap ((a:Int)+((o1 - L:Nat):Int))=((a+(o1 - L):Nat):Int):=wI (by omega) (by omega)
     have p2:a+(o1 - L)<n:=by omega
     rw [z39 a L M i0 t r d1 (o1 - L) ht (by rw [←ho1,if_pos (by omega)])] at h3
     simp only [cK,zi,h2,hrd,hst,v1,v2,w1,↓vcPre,↓zm,↓reduceIte,vcPost,vcStd,Store.set_set,zk,zf,zg,za,Nat.le_refl,Nat.zero_add,Array.size_setIfInBounds,Nat.reduceEqDiff,reduceCtorEq,Nat.reduceAdd,Nat.reduceLeDiff,Int.reduceLT,Int.reduceLE,↓u_setN]
     and_intros <;> try omega
     refine NextQ.to (t+1,xorNext r,swp d1 (i0+t) (a+(o1 - L))) ?_ ?_ ?_ ?_
     ·rfl
     ·exact Store.sub_refl _
     ·simp only;omega
     ·exact ⟨by simp only;omega,by simp only [za];exact h2,h3⟩
    ·have v2:IntKind.i64.wrap ((a:Int)+(o1:Int))=((a+o1:Nat):Int):=wI (by omega) (by omega)
     have p2:a+o1<n:=by omega
     rw [z39 a L M i0 t r d1 o1 ht (by rw [←ho1,if_neg (by omega)])] at h3
     simp only [cK,zi,h2,hrd,hst,v2,w1,↓vcPre,↓zm,↓reduceIte,vcPost,vcStd,Store.set_set,zk,zf,zg,za,Nat.le_refl,Nat.zero_add,Array.size_setIfInBounds,Nat.reduceEqDiff,reduceCtorEq,Nat.reduceAdd,Nat.reduceLeDiff,Int.reduceLT,Int.reduceLE,↓u_setN]
     and_intros <;> try omega
     refine NextQ.to (t+1,xorNext r,swp d1 (i0+t) (a+o1)) ?_ ?_ ?_ ?_
     ·rfl
     ·exact Store.sub_refl _
     ·simp only;omega
     ·exact ⟨by simp only;omega,by simp only [za];exact h2,h3⟩
   ·have ht:t=3:=by omega
    subst ht
    exact EndQ.to (σ.set id (arrA 1 (cK κ) d1)) (.tup []) rfl (Store.sub_set _ _ _ (by rw [Store.set_ne _ _ hi1];exact hi3)) ⟨rfl,by rw [←h3];rfl⟩
 ·have:breakPatterns d a (a+L)=d:=by
   unfold breakPatterns
   simp only [Nat.add_sub_cancel_left]
   rw [if_neg (by omega)]
  exact EndQ.to _ _ rfl (Store.sub_refl _) ⟨rfl,by rw [this]⟩
end
end Go.Am
namespace Go.Am
open Go.Sort
variable {P:Program} {N:SN} {κ:IntKind}
section
theorem zdh (H:SH P N κ) (hO:SWO ltU) (d:Array Int) (hs:d.size<2305843009213693952) (σ:Store) (id:Nat) :
 ACalls P N.sort [.os id 1 0 d.size] (σ.set id (arrA 1 (cK κ) d)) (fun r s=>r = .tup []∧s=σ.set id (arrA 1 (cK κ) (pdq ltU d 0 d.size (bitsLen d.size) true true))):=by
 refine y6 H.sort (Nat.le_refl _) ?_
 simp only [SB.sort]
 simp only [z1s (n:=d.size) (by omega),↓vcPre,↓zm,↓reduceIte,vcPost,vcStd,Store.set_set,zk,zf,zg,za,Nat.le_refl,Nat.zero_add,Array.size_setIfInBounds,Nat.reduceEqDiff,reduceCtorEq,Nat.reduceAdd,Nat.reduceLeDiff,Int.reduceLT,Int.reduceLE,↓u_setN]
 refine (H.len d.size (by omega)).Q ?_
 simp only [hs,↓vcPre,↓zm,↓reduceIte,vcPost,vcStd,Store.set_set,zk,zf,zg,za,Nat.le_refl,Nat.zero_add,Array.size_setIfInBounds,Nat.reduceEqDiff,reduceCtorEq,Nat.reduceAdd,Nat.reduceLeDiff,Int.reduceLT,Int.reduceLE,↓u_setN]
 have hl:bitsLen d.size≤61:=(bitsLen_le_iff d.size 61).2 (by omega)
 have h:=zfr H hO σ id d.size hs (fun d' a b h1 h2 h3=>zfp H σ id d.size hs d' a b h1 h2 h3) (d.size+1) d 0 d.size (bitsLen d.size) rfl (by omega) (by omega) (by omega) (by omega)
 refine h.Q ?_
 intro r s hrs
 have hr1:=hrs.1
 have hs1:=hrs.2
 clear hrs h
 subst hr1
 subst hs1
 simp only [hs,↓vcPre,↓zm,↓reduceIte,vcPost,vcStd,Store.set_set,zk,zf,zg,za,Nat.le_refl,Nat.zero_add,Array.size_setIfInBounds,Nat.reduceEqDiff,reduceCtorEq,Nat.reduceAdd,Nat.reduceLeDiff,Int.reduceLT,Int.reduceLE,↓u_setN]
 exact EndQ.to _ _ rfl (Store.sub_refl _) ⟨rfl,rfl⟩
end
end Go.Am
namespace Go.Am
open Go.Sort
variable {P:Program} {N:SN} {κ:IntKind}
theorem zdf (H:SH P N κ) (σ:Store):ACalls P N.ins [.nils,.int .i64 0,.int .i64 0] σ (fun r s=>r = .tup []∧s=σ):=by
 refine y6 H.ins (Nat.le_refl _) ?_
 simp only [SB.ins]
 have e1:IntKind.i64.wrap (0+1)=1:=by decide
 simp only [e1,↓vcPre,↓z8,↓reduceIte,vcPost,vcStd,Nat.reduceEqDiff,reduceCtorEq,Nat.reduceAdd,Nat.reduceLeDiff,Int.reduceLT,Int.reduceLE,↓u_setN]
 refine LoopQ.inv (S:=Unit) (fun _=>[(0,.nils),(1,.int .i64 0),(2,.int .i64 0),(6,.int .i64 1)]) (fun _=>σ) (fun _=>True) (fun _=>0) () rfl (Store.sub_refl _) trivial ?_
 intro _ _
 simp only [↓vcPre,↓z8,↓reduceIte,vcPost,vcStd,Nat.reduceEqDiff,reduceCtorEq,Nat.reduceAdd,Nat.reduceLeDiff,Int.reduceLT,Int.reduceLE,↓u_setN]
 exact EndQ.to _ _ rfl (Store.sub_refl _) ⟨rfl,rfl⟩
theorem zdg (H:SH P N κ) (m:Int) (σ:Store):ACalls P N.pdq [.nils,.int .i64 0,.int .i64 0,.int .i64 m] σ (fun r s=>r = .tup []∧s=σ):=by
 refine y6 H.pdq (Nat.le_refl _) ?_
 simp only [SB.pdq]
 simp only [↓vcPre,↓z8,↓reduceIte,vcPost,vcStd,Nat.reduceEqDiff,reduceCtorEq,Nat.reduceAdd,Nat.reduceLeDiff,Int.reduceLT,Int.reduceLE,↓u_setN]
 refine LoopQ.inv (S:=Unit) (fun _=>[(0,.nils),(1,.int .i64 0),(2,.int .i64 0),(3,.int .i64 m),(8,.bool true),(9,.bool true)]) (fun _=>σ) (fun _=>True) (fun _=>0) () rfl (Store.sub_refl _) trivial ?_
 intro _ _
 have e1:IntKind.i64.wrap (0 - 0)=0:=by decide
 simp only [e1,↓vcPre,↓z8,↓reduceIte,vcPost,vcStd,Nat.reduceEqDiff,reduceCtorEq,Nat.reduceAdd,Nat.reduceLeDiff,Int.reduceLT,Int.reduceLE,↓u_setN]
 refine (zdf H σ).Q ?_
 rintro r s ⟨rfl,rfl⟩
 simp only [↓vcPre,↓z8,↓reduceIte,vcPost,vcStd,Nat.reduceEqDiff,reduceCtorEq,Nat.reduceAdd,Nat.reduceLeDiff,Int.reduceLT,Int.reduceLE,↓u_setN]
 exact EndQ.to _ _ rfl (Store.sub_refl _) ⟨rfl,rfl⟩
theorem z4z (H:SH P N κ) (σ:Store):ACalls P N.sort [.nils] σ (fun r s=>r = .tup []∧s=σ):=by
 refine y6 H.sort (Nat.le_refl _) ?_
 simp only [SB.sort]
 have e1:IntKind.u64.wrap 0=((0:Nat):Int):=by decide
 simp only [e1,↓vcPre,↓z8,↓reduceIte,vcPost,vcStd,Nat.reduceEqDiff,reduceCtorEq,Nat.reduceAdd,Nat.reduceLeDiff,Int.reduceLT,Int.reduceLE,↓u_setN]
 refine (H.len 0 (by omega)).Q ?_
 simp only [↓vcPre,↓z8,↓reduceIte,vcPost,vcStd,Nat.reduceEqDiff,reduceCtorEq,Nat.reduceAdd,Nat.reduceLeDiff,Int.reduceLT,Int.reduceLE,↓u_setN]
 refine (zdg H _ σ).Q ?_
 rintro r s ⟨rfl,rfl⟩
 simp only [↓vcPre,↓z8,↓reduceIte,vcPost,vcStd,Nat.reduceEqDiff,reduceCtorEq,Nat.reduceAdd,Nat.reduceLeDiff,Int.reduceLT,Int.reduceLE,↓u_setN]
 exact EndQ.to _ _ rfl (Store.sub_refl _) ⟨rfl,rfl⟩
theorem zdw:SWO ltU:=by
 have h:∀ x y,ltU x y=true↔x<y:=fun x y=>by unfold ltU cfU;rw [decide_eq_true_eq];omega
 refine ⟨fun x => ?_,fun x y z h1 h2 => ?_,fun x y z h1 h2 => ?_⟩
 ·rw [Bool.eq_false_iff,Ne,h];omega
 ·rw [h] at *;omega
 ·rw [Bool.eq_false_iff,Ne,h] at *;omega
theorem z3l (H:SH P N κ) {s:Store} {i:Nat} {L:List Int} (hs:s i=some (.arr 1 (L.map (cK κ)))) (hsz:L.length<1000000000000) :
 ACalls P N.sort [.os i 1 0 L.length] s (fun r s'=>r = .tup []∧∃ L':List Int,L'.Perm L∧L'.Pairwise (· ≤ ·)∧s'=s.set i (.arr 1 (L'.map (cK κ)))):=by
 have hs':s=s.set i (arrA 1 (cK κ) L.toArray):=(Store.set_self (by simpa [arrA] using hs)).symm
 have h:=zdh H zdw L.toArray (by simp;omega) s i
 rw [←hs'] at h
 have hz:L.toArray.size=L.length:=by simp
 rw [hz] at h
 refine h.mono ?_
 rintro r s' ⟨rfl,rfl⟩
 generalize hd:pdq ltU L.toArray 0 L.length (bitsLen L.length) true true=d
 have hp:=pdq_sorts ltU zdw L.toArray 0 L.length (bitsLen L.length) true true (by omega) (by simp) (.inl rfl)
 rw [hd] at hp
 obtain ⟨⟨h1,h2,h3⟩,h4⟩:=hp
 have hx:∀ (a:Array Int),a.size=L.length→a.extract 0 L.length=a:=fun a ha=>by rw [←ha];simp
 rw [hx _ (by simpa using h1),hx _ (by simp)] at h3
 refine ⟨rfl,d.toList,by simpa using h3,?_,rfl⟩
 rw [List.pairwise_iff_getElem]
 intro a b ha hb hab
 have:=h4 a b (Nat.zero_le _) hab (by simpa [h1] using hb)
 rw [getElem!_pos d a (by simpa using ha),getElem!_pos d b (by simpa using hb)] at this
 simp only [ltU,cfU,decide_eq_false_iff_not] at this
 have:=of_decide_eq_false this
 simp only [Array.getElem_toList]
 omega
theorem yd {P:Program} {fi:Nat} {b:BC} {slots:List RS} {n:Nat} (N:Nat) (fn:Func) (c:Code) (h1:P.funcs[fi]? = some fn) (h2:(fn.name == "runtime.NumGoroutine")=false) (h3:fn.body=some c) (h4:fn.ntmps=N)
 (h5:compX P false N (slots.map RS.slot) c=some b) (h6:fn.results.toList.mapM (compRS P)=some slots) (h7:n≤N):FnIs P fi b slots n:=⟨Fn.mkX false b slots N fn c h1 h2 h3 h4 h5 h6,rfl,rfl,h7⟩
end Go.Am
namespace Go.Am
open Go.Proofs Go.Sort
theorem zbn:∀ m:Fin 256,Tst.str0[m.val]? = some (UInt8.ofNat (bitsLen m.val)):=by decide+kernel
theorem zb6 (m:Nat) (h:m<256):pv .idxs [.str Tst.str0,.int .u8 (m:Int)]=some (.int .u8 (bitsLen m:Nat)):=by
 have h1:=zbn ⟨m,h⟩
 have h2:bitsLen m≤8:=(bitsLen_le_iff m 8).2 (by omega)
 simp only [pv,pIdxs,Int.natCast_nonneg,if_true,Int.toNat_natCast]
 rw [h1]
 simp only [Option.map_some,Option.some.injEq,AV.int.injEq,true_and,UInt8.toNat_ofNat']
 omega
theorem zi0 (x:Nat) (hx:x<18446744073709551616):Pur Tryz.prog 233 [.int .u64 x] (.int .i64 (bitsLen x:Nat)):=by
 refine zw Tst.F233 (by simp [Tst.F233,Fn.mkX]) fun σ => ?_
 simp only [Tst.F233,Fn.mkX]
 simp only [Tst.b233]
 have s32:shrInt .u64 (x:Int) 32=((x / 4294967296:Nat):Int):=z0f x 32 (by decide)
 have s16:∀ y:Nat,shrInt .u64 (y:Int) 16=((y / 65536:Nat):Int):=fun y=>z0f y 16 (by decide)
 have s8:∀ y:Nat,shrInt .u64 (y:Int) 8=((y / 256:Nat):Int):=fun y=>z0f y 8 (by decide)
 have fin:∀ (y n:Nat),y<256→n≤56→IntKind.i64.wrap ((n:Int)+IntKind.i64.wrap ((bitsLen y:Nat):Int))=((n+bitsLen y:Nat):Int):=fun y n hy hn=>by
  have:=(bitsLen_le_iff y 8).2 (by omega)
  rw [z6r (by omega),show ((n:Int)+((bitsLen y:Nat):Int))=((n+bitsLen y:Nat):Int) by omega,z6r (by omega)]
 have leaf:∀ (y n:Nat) (N:Int),bitsLen x=n+bitsLen y→y<256→n≤56→N=(n:Int) →
  wit (pv PK.idxs [AV.str Tst.str0,AV.int IntKind.u8 (IntKind.u8.wrap (y:Int))]) fun a =>
   wit (pv (PK.conv IntKind.i64) [a]) fun a=>wit (pv (PK.bin BinOp.add) [AV.int IntKind.i64 N,a]) fun a=>a=AV.int IntKind.i64 (bitsLen x:Nat):=by
  intro y n N e hy hn hN
  subst hN
  rw [zj1 hy,zb6 y hy]
  simp only [y7,z89,zak]
  rw [fin y n hy hn,e]
 have d32:(4294967296:Int)≤x→bitsLen x=32+bitsLen (x / 4294967296):=fun h=>ug (k:=32) (by omega)
 have d16:∀ y:Nat,(65536:Int)≤y→bitsLen y=16+bitsLen (y / 65536):=fun y h=>ug (k:=16) (by omega)
 have d8:∀ y:Nat,(256:Int)≤y→bitsLen y=8+bitsLen (y / 256):=fun y h=>ug (k:=8) (by omega)
 simp only [s32,s16,s8,↓vcPre,↓z8,↓reduceIte,vcPost,vcStd,Nat.reduceEqDiff,reduceCtorEq,Nat.reduceAdd,Nat.reduceLeDiff,Int.reduceLT,Int.reduceLE,↓u_setN]
 have a1:IntKind.i64.wrap (IntKind.i64.wrap (32+16)+8)=((56:Nat):Int):=by decide
 have a2:IntKind.i64.wrap (32+16)=((48:Nat):Int):=by decide
 have a3:IntKind.i64.wrap (32+8)=((40:Nat):Int):=by decide
 have a4:IntKind.i64.wrap (IntKind.i64.wrap (0+16)+8)=((24:Nat):Int):=by decide
 have a5:IntKind.i64.wrap (0+16)=((16:Nat):Int):=by decide
 have a6:IntKind.i64.wrap (0+8)=((8:Nat):Int):=by decide
 refine ⟨fun h1=>⟨fun h2=>⟨fun h3 => ?_,fun h3 => ?_⟩,fun h2=>⟨fun h3 => ?_,fun h3 => ?_⟩⟩,fun h1=>⟨fun h2=>⟨fun h3 => ?_,fun h3 => ?_⟩,fun h2=>⟨fun h3 => ?_,fun h3 => ?_⟩⟩⟩
 ·exact leaf _ 56 _ (by have e1:=d32 h1;have e2:=d16 _ h2;have e3:=d8 _ h3;omega) (by omega) (by omega) a1
 ·exact leaf _ 48 _ (by have e1:=d32 h1;have e2:=d16 _ h2;omega) (by omega) (by omega) a2
 ·exact leaf _ 40 _ (by have e1:=d32 h1;have e3:=d8 _ h3;omega) (by omega) (by omega) a3
 ·exact leaf _ 32 _ (by have e1:=d32 h1;omega) (by omega) (by omega) rfl
 ·exact leaf _ 24 _ (by have e2:=d16 _ h2;have e3:=d8 _ h3;omega) (by omega) (by omega) a4
 ·exact leaf _ 16 _ (by have e2:=d16 _ h2;omega) (by omega) (by omega) a5
 ·exact leaf _ 8 _ (by have e3:=d8 _ h3;omega) (by omega) (by omega) a6
 ·exact leaf _ 0 _ (by omega) (by omega) (by omega) rfl
theorem z8v (x:Nat) (hx:x<18446744073709551616):Pur Tryz.prog 208 [.int .u64 x] (.int .i64 (bitsLen x:Nat)):=by
 refine zw Tst.F208 (by simp [Tst.F208,Fn.mkX]) fun σ => ?_
 simp only [Tst.F208,Fn.mkX,Tst.b208]
 simp only [↓vcPre,↓z8,↓reduceIte,vcPost,vcStd,Nat.reduceEqDiff,reduceCtorEq,Nat.reduceAdd,Nat.reduceLeDiff,Int.reduceLT,Int.reduceLE,↓u_setN]
 refine (zi0 x hx).Q ?_
 simp only [↓vcPre,↓z8,↓reduceIte,vcPost,vcStd,Nat.reduceEqDiff,reduceCtorEq,Nat.reduceAdd,Nat.reduceLeDiff,Int.reduceLT,Int.reduceLE,↓u_setN]
theorem zd8 (n:Nat) (hn:n<4611686018427387904):Pur Tryz.prog 242 [.int .i64 n] (.int .u64 (1 <<<bitsLen n:Nat)):=by
 refine zw Tst.F242 (by simp [Tst.F242,Fn.mkX]) fun σ => ?_
 simp only [Tst.F242,Fn.mkX,Tst.b242]
 have hb:bitsLen n≤62:=(bitsLen_le_iff n 62).2 (by omega)
 simp only [z1s (n:=n) (by omega),↓vcPre,↓z8,↓reduceIte,vcPost,vcStd,Nat.reduceEqDiff,reduceCtorEq,Nat.reduceAdd,Nat.reduceLeDiff,Int.reduceLT,Int.reduceLE,↓u_setN]
 refine (z8v n (by omega)).Q ?_
 simp only [zbm (bitsLen n) (by omega),↓vcPre,↓z8,↓reduceIte,vcPost,vcStd,Nat.reduceEqDiff,reduceCtorEq,Nat.reduceAdd,Nat.reduceLeDiff,Int.reduceLT,Int.reduceLE,↓u_setN]
 omega
theorem zdr (X:Nat) (hX:X<18446744073709551616) (σ:Store) (i:Nat) (hi:σ i=some (.box [.int .u64 X])) :
 ACalls Tryz.prog 243 [.ptr i 0] σ (fun r s=>r = .int .u64 (xorNextN X:Nat)∧s=σ.set i (.box [.int .u64 (xorNextN X:Nat)])):=by
 refine ze Tst.F243 (by simp [Tst.F243,Fn.mkX]) ?_
 simp only [Tst.F243,Fn.mkX,Tst.b243]
 obtain ⟨A,hA⟩:∃ A:Nat,A=X ^^^ (X*8192 % 18446744073709551616):=⟨_,rfl⟩
 obtain ⟨B,hB⟩:∃ B:Nat,B=A ^^^ (A / 128):=⟨_,rfl⟩
 obtain ⟨C,hC⟩:∃ C:Nat,C=B ^^^ (B*131072 % 18446744073709551616):=⟨_,rfl⟩
 have lA:A<18446744073709551616:=by rw [hA];exact Nat.xor_lt_two_pow (n:=64) (by omega) (by omega)
 have lB:B<18446744073709551616:=by rw [hB];exact Nat.xor_lt_two_pow (n:=64) (by omega) (by omega)
 have e1:bitInt .xor .u64 (X:Int) (shlInt .u64 (X:Int) 13)=(A:Int):=by
  have:=z5b X 13 (by decide)
  rw [show ((13:Nat):Int)=13 from rfl] at this
  rw [this,z2a _ _ hX (by omega),hA]
 have e2:bitInt .xor .u64 (A:Int) (shrInt .u64 (A:Int) 7)=(B:Int):=by
  have:=z0f A 7 (by decide)
  rw [show ((7:Nat):Int)=7 from rfl] at this
  rw [this,z2a _ _ lA (by omega),hB]
 have e3:bitInt .xor .u64 (B:Int) (shlInt .u64 (B:Int) 17)=(C:Int):=by
  have:=z5b B 17 (by decide)
  rw [show ((17:Nat):Int)=17 from rfl] at this
  rw [this,z2a _ _ lB (by omega),hC]
 have hv:xorNextN X=C:=by unfold xorNextN;simp only [];rw [←hA,←hB,←hC]
 rw [hv]
 clear hA hB hC hv
 simp only [hi,e1,e2,e3,Store.set_set,↓vcPre,↓z8,↓reduceIte,vcPost,vcStd,Nat.reduceEqDiff,reduceCtorEq,Nat.reduceAdd,Nat.reduceLeDiff,Int.reduceLT,Int.reduceLE,↓u_setN]
 exact EndQ.to _ _ rfl (Store.sub_refl _) ⟨rfl,rfl⟩
end Go.Am
namespace Go.Am
open Go.Proofs Go.Sort
def NU:SN:=⟨223,227,241,224,230,231,255,245,244,226,228,225,207,229,174,242,243,208⟩
theorem zfl (h1:∀ x y:Int,Pur Tryz.prog 229 [.int .u32 x,.int .u32 y] (.bool (decide (cfU x y<0)))) (h2:∀ (x:Nat) (hx:x<18446744073709551616),Pur Tryz.prog 208 [.int .u64 x] (.int .i64 (bitsLen x:Nat)))
 (h3:∀ (n:Nat) (hn:n<4611686018427387904),Pur Tryz.prog 242 [.int .i64 n] (.int .u64 (1 <<<bitsLen n:Nat)))
 (h4:∀ (X:Nat) (hX:X<18446744073709551616) (σ:Store) (i:Nat) (hi:σ i=some (.box [.int .u64 X])),ACalls Tryz.prog 243 [.ptr i 0] σ (fun r s=>r = .int .u64 (xorNextN X:Nat)∧s=σ.set i (.box [.int .u64 (xorNextN X:Nat)]))):SH Tryz.prog NU .u32 where
 ins:=yd 49 Tryz.f223 _ Tryz.func223 (by decide) rfl Tryz.ntmps223 (by kernel_rfl) (by kernel_rfl) (by decide)
 rev:=yd 32 Tryz.f227 _ Tryz.func227 (by decide) rfl Tryz.ntmps227 (by kernel_rfl) (by kernel_rfl) (by decide)
 sift:=yd 76 Tryz.f241 _ Tryz.func241 (by decide) rfl Tryz.ntmps241 (by kernel_rfl) (by kernel_rfl) (by decide)
 heap:=yd 56 Tryz.f224 _ Tryz.func224 (by decide) rfl Tryz.ntmps224 (by kernel_rfl) (by kernel_rfl) (by decide)
 parteq:=yd 84 Tryz.f230 _ Tryz.func230 (by decide) rfl Tryz.ntmps230 (by kernel_rfl) (by kernel_rfl) (by decide)
 part:=yd 168 Tryz.f231 _ Tryz.func231 (by decide) rfl Tryz.ntmps231 (by kernel_rfl) (by kernel_rfl) (by decide)
 ord2:=yd 28 Tryz.f255 _ Tryz.func255 (by decide) rfl Tryz.ntmps255 (by kernel_rfl) (by kernel_rfl) (by decide)
 med:=yd 36 Tryz.f245 _ Tryz.func245 (by decide) rfl Tryz.ntmps245 (by kernel_rfl) (by kernel_rfl) (by decide)
 medadj:=yd 15 Tryz.f244 _ Tryz.func244 (by decide) rfl Tryz.ntmps244 (by kernel_rfl) (by kernel_rfl) (by decide)
 piv:=yd 57 Tryz.f226 _ Tryz.func226 (by decide) rfl Tryz.ntmps226 (by kernel_rfl) (by kernel_rfl) (by decide)
 partins:=yd 133 Tryz.f228 _ Tryz.func228 (by decide) rfl Tryz.ntmps228 (by kernel_rfl) (by kernel_rfl) (by decide)
 brk:=yd 65 Tryz.f225 _ Tryz.func225 (by decide) rfl Tryz.ntmps225 (by kernel_rfl) (by kernel_rfl) (by decide)
 pdq:=yd 134 Tryz.f207 _ Tryz.func207 (by decide) rfl Tryz.ntmps207 (by kernel_rfl) (by kernel_rfl) (by decide)
 sort:=yd 11 Tryz.f174 _ Tryz.func174 (by decide) rfl Tryz.ntmps174 (by kernel_rfl) (by kernel_rfl) (by decide)
 less:=h1
 len:=h2
 npow:=h3
 next:=h4
end Go.Am
namespace Go.Am
open Go.RowKit
def SeqHolds (P:Program) (FA FV:Nat) (k:IntKind) (TE:TypeId) (byt:Nat):Prop :=
 ∀ (Bs oB b off cap:Nat) (pa:Option Addr) (zs:List Int) (w:World),zs.length*byt≤140737488355328→Bs<w.heap.size→(0<zs.length→pa=some ⟨b,off,none⟩∧b<w.heap.size) →
   w.cell? ⟨Bs,oB,none⟩=some (.slice pa zs.length cap)→(∀ j,j<zs.length→w.cell? ⟨b,off+j,none⟩=some (.int k (zs[j]?.getD 0))) →
   Calls P FA #[.slice none 0 0,.func (.func FV) #[] #[.pointer (some ⟨Bs,oB,none⟩)]] w fun e W'=>∃ v,e = .returned v ∧
    W'.ownsRow w.heap.size TE 1 v zs.length (zs.map (Value.int k))∧(v = .slice none 0 0↔zs=[])∧Below w.heap.size w W'
theorem Sim.below {G:Gh} {σ:Store} {w w':World} (h:Sim G σ w) (hb:Below w.heap.size w w'):Ext G σ w G σ w'∧Sim G σ w':=by
 have hx:Ext G σ w G σ w' :=
  { tape:=hb.tape,os:=hb.os,output:=hb.output,size:=hb.size
    keep:=fun b hb' _=>hb.block b hb'
    shape:=fun b hb'=>by simp only [World.shape?,hb.block b hb']
    ρ:=fun _ _ h=>h,I:=fun _ h=>h,newI:=fun _ h => .inl h,newOwn:=fun _ h => .inl h,newId:=fun _ o h => .inl ⟨o,h⟩ }
 refine ⟨hx,?_⟩
 exact
  { lt:=fun b hb'=>Nat.lt_of_lt_of_le (h.lt b hb') hb.size,fin:=h.fin,blk:=fun i b base h'=>Nat.lt_of_lt_of_le (h.blk i b base h') hb.size
    used:=fun i o ho=>by
     obtain ⟨b,base,h1,h2⟩:=h.used i o ho
     exact ⟨b,base,h1,h2.grow (hb.block b (h.blk i b base h1)) fun a v hv=>hx.vrel h hv⟩
    inj:=h.inj,apart:=h.apart }
theorem z4r {w:World} {b o:Nat} {v:Value} (h:w.cell? ⟨b,o,none⟩=some v):b<w.heap.size:=by
 unfold World.cell? at h
 dsimp only at h
 split at h
 ·rename_i hh
  exact (Array.getElem?_eq_some_iff.1 hh).1
 ·cases h
end Go.Am
namespace Go.Am
open Go.RowKit
theorem z9w {P:Program} {FA FV:Nat} {k:IntKind} {TE:TypeId} {byt:Nat} (hent:Ent P FA) (H:SeqHolds P FA FV k TE byt) {σ:Store} {id:Nat} {S:AV} {zs:List Int} (hbox:σ id=some (.box [S]))
 (hS:slc σ 1 S=some (zs.map fun n=>[.int k n])) (hle:zs.length*byt≤140737488355328) :
 ACalls P FA [.nils,.fn FV [.ptr id 0]] σ (fun a s=>(zs=[]∧a = .nils∧s=σ)∨(zs≠[]∧∃ g,σ g=none∧a = .os g 1 0 zs.length∧s=σ.set g (.arr 1 (zs.map fun n=>[.int k n])))):=by
 refine ⟨hent,fun G w vs hs hvs => ?_⟩
 cases hvs with
 | cons hv1 hvs =>
 cases hvs with
 | cons hv2 hvs =>
 cases hvs
 obtain rfl:=hv1.of_nils
 obtain ⟨cs,rfl,hcl,hcv⟩:=hv2.of_fn
 match cs,hcl with
 | [c],_ =>
   have hc:=hcv 0 (by simp) (by simp)
   simp only [List.getElem_cons_zero] at hc
   obtain ⟨b0,base,hb0,rfl⟩:=hc.of_ptr
   obtain ⟨b0',base',hb0',ho⟩:=hs.used _ _ hbox
   rw [hb0] at hb0';cases hb0'
   cases ho with
   | box hh hsz hf hv =>
     rename_i cs0 ty0
     simp only [List.length_cons,List.length_nil] at hsz
     have hvS:=hv 0 (by simp)
     simp only [List.getElem_cons_zero] at hvS
     generalize hvs0:cs0.getD (base+0) undef=vS at hvS
     have hcell0:w.cell? ⟨b0,base+0,none⟩=some vS:=by
      rw [w7 hh,←hvs0,Array.getD_eq_getD_getElem?,Array.getElem?_eq_getElem (by omega)];rfl
     obtain ⟨pb,cap,rfl,hcap,hcells⟩:=z27 hs hvS hS
     have hlen:(zs.map fun n=>[AV.int k n]).length=zs.length:=by simp
     have hb0lt:=z4r hcell0
     obtain ⟨b,off,hpa,hcs⟩:∃ b off,(0<zs.length→pb=some ⟨b,off,none⟩∧b<w.heap.size)∧∀ j,j<zs.length→w.cell? ⟨b,off+j,none⟩=some (.int k (zs[j]?.getD 0)):=by
      rcases hcells with h0 | ⟨blk,o,hpb,f,⟨_,_,hf3⟩,hcc⟩
      ·have hz:zs.length=0:=by rw [←hlen,h0];rfl
       exact ⟨0,0,fun hp=>by omega,fun j hj=>by omega⟩
      ·have key:∀ j,j<zs.length→w.cell? ⟨blk,o+j,none⟩=some (.int k (zs[j]?.getD 0)):=fun j hj=>by
        have h1:=hcc j (by omega)
        have hjx:j<(zs.map fun n=>[AV.int k n]).length:=by omega
        have h2:=hf3 j 0 hjx (by simp)
        simp only [List.getElem_map,List.getElem_cons_zero,Nat.mul_one,Nat.add_zero] at h2
        rw [h1,h2.of_int,List.getElem?_eq_getElem hj];rfl
       exact ⟨blk,o,fun hp=>⟨hpb,z4r (key 0 hp)⟩,key⟩
     have hcall:=H b0 (base+0) b off cap pb zs w hle hb0lt hpa (by rw [hcell0,hlen]) hcs
     refine hcall.mono ?_
     rintro e w' ⟨v,rfl,hrow,hnil,hbel⟩
     by_cases hz:zs=[]
     ·obtain ⟨g1,g2⟩:=hs.below hbel
      exact ⟨v,.nils,G,σ,rfl,g1,g2,by rw [hnil.2 hz];exact .nils,.inl ⟨hz,rfl,rfl⟩⟩
     ·obtain ⟨id',hidρ,hidσ⟩:=hs.fresh
      obtain ⟨hrl,hrow⟩:=hrow
      rcases hrow with ⟨hv0,_⟩ | ⟨g,cap',cur,rfl,hgle,hgc,hncap,hcapm,hcur,htake⟩
      ·exact (hz (hnil.1 hv0)).elim
      ·have hglt:g<w'.heap.size:=(Array.getElem?_eq_some_iff.1 hgc).1
       obtain ⟨G',g1,g2,g3⟩:=hs.adopt (o := .arr 1 (zs.map fun n=>[.int k n])) hidρ hidσ hgle hglt hbel.size hbel.tape hbel.os hbel.output hbel.block (fun G' _ _ _=>by
        refine .arr (cs:=cur) hgc (by simp;omega) (fun e he => ?_) (fun e he => ?_) (fun i j hi hj => ?_)
        ·obtain ⟨n,_,rfl⟩:=List.mem_map.1 he;rfl
        ·obtain ⟨n,_,rfl⟩:=List.mem_map.1 he
         intro c hc;simp at hc;subst hc;rfl
        ·have hi':i<zs.length:=by simpa using hi
         simp only [List.getElem_map,List.length_cons,List.length_nil] at hj ⊢
         have hj0:j=0:=by omega
         subst hj0
         simp only [List.getElem_cons_zero]
         have h5:cur[i]? = some (.int k zs[i]):=by
          have:=congrArg (fun l:List Value=>l[i]?) htake
          simp only [Nat.mul_one,List.getElem?_take_of_lt hi',List.getElem?_map,List.getElem?_eq_getElem hi',Option.map_some,Array.getElem?_toList] at this
          exact this
         have:cur.getD (0+(i*1+0)) undef = .int k zs[i]:=by
          rw [Array.getD_eq_getD_getElem?,show 0+(i*1+0)=i by omega,h5];rfl
         rw [this];exact .int _ _)
       refine ⟨_,.os id' 1 0 zs.length,G',_,rfl,g1,g2,?_,.inr ⟨hz,id',hidσ,rfl,rfl⟩⟩
       have hsh:w'.shape? g=some (TE,cur.size):=by simp only [World.shape?,hgc]
       have:=VRel.os (G:=G') (w:=w') (esz:=1) (off:=0) (len:=zs.length) (c:=cap') g3 hncap ⟨TE,cur.size,hsh,by omega⟩
       simpa using this
end Go.Am
