/- A part of the proof: a logic for calls over plain values, and the functions that the law reaches, each walked once. -/
import Derived.Test.YtplkahhkogncjaaGreatQB13
import Derived.Shelf.Spec.SlicesInsertGrow
set_option linter.unusedVariables false
set_option linter.unusedSimpArgs false
set_option linter.unusedSectionVars false
namespace Go.Am
open Go.Proofs Go.Sort
theorem z0z {x y:Int} (h:¬ x=y):sideF (decide (x<y))=cmpI x y:=by
 unfold sideF cmpI
 by_cases g:x<y
 ·simp [g]
 ·simp [g];omega
theorem z55 {x y:Bool} (h:¬ x=y):sideF (!x)=IntKind.i64.wrap (truthF x - truthF y):=by
 cases x <;> cases y <;> first | exact absurd rfl h | decide
set_option maxHeartbeats 1000000 in
theorem zh2 (a b:At) (ha:a.ok) (hb:b.ok) (σ:Store):ACalls Tryz.prog 46 [.agg a.c,.agg b.c] σ (fun r s=>s=σ∧r = .int .i64 (cmpAs (canonA a) (canonA b))):=by
 refine zk Tst.F46 (by simp [Tst.F46,Fn.mkX]) ?_
 simp only [Tst.F46,Fn.mkX,Tst.b46]
 simp only [At.c,↓vcPre,↓z0,↓reduceIte,vcPost,vcStd,Nat.reduceEqDiff,reduceCtorEq,Nat.reduceAdd,Nat.reduceLeDiff,Int.reduceLT,Int.reduceLE,↓u_setN]
 refine AllocQ.i0 fun i hi => ?_
 simp only [At.c,↓vcPre,↓z0,↓reduceIte,vcPost,vcStd,Nat.reduceEqDiff,reduceCtorEq,Nat.reduceAdd,Nat.reduceLeDiff,Int.reduceLT,Int.reduceLE,↓u_setN]
 refine AllocQ.i1 fun j hj1 hj2 hj => ?_
 simp only [hj1,hj2,↓vcPre,↓z0,↓reduceIte,vcPost,vcStd,Nat.reduceEqDiff,reduceCtorEq,Nat.reduceAdd,Nat.reduceLeDiff,Int.reduceLT,Int.reduceLE,↓u_setN]
 refine (c83 a ha).Q ?_
 simp only [hj1,hj2,↓vcPre,↓z0,↓reduceIte,vcPost,vcStd,Nat.reduceEqDiff,reduceCtorEq,Nat.reduceAdd,Nat.reduceLeDiff,Int.reduceLT,Int.reduceLE,↓u_setN]
 refine (c83 b hb).Q ?_
 simp only [hj1,hj2,↓vcPre,↓z0,↓reduceIte,vcPost,vcStd,Nat.reduceEqDiff,reduceCtorEq,Nat.reduceAdd,Nat.reduceLeDiff,Int.reduceLT,Int.reduceLE,↓u_setN]
 have hx:=y6 ha
 have hy:=y6 hb
 generalize canonA a=p at hx ⊢
 generalize canonA b=q at hy ⊢
 simp only [hj1,hj2,At.c,↓vcPre,↓z0,↓reduceIte,vcPost,vcStd,Nat.reduceEqDiff,reduceCtorEq,Nat.reduceAdd,Nat.reduceLeDiff,Int.reduceLT,Int.reduceLE,↓u_setN]
 have hti:((((σ.set i (Obj.box [AV.int IntKind.i64 a.org,AV.sl 2 (List.map Seg.c a.path),AV.int IntKind.u32 a.nxt,AV.bool a.hm,AV.int IntKind.u32 a.med,AV.bool a.hp,AV.int IntKind.u32 a.prf,AV.bool a.atm,AV.sl 1 (List.map cU a.cms)])).set j (Obj.box [AV.int IntKind.i64 b.org,AV.sl 2 (List.map Seg.c b.path),AV.int IntKind.u32 b.nxt,AV.bool b.hm,AV.int IntKind.u32 b.med,AV.bool b.hp,AV.int IntKind.u32 b.prf,AV.bool b.atm,AV.sl 1 (List.map cU b.cms)])).set i (Obj.box [AV.int IntKind.i64 p.org,AV.sl 2 (List.map Seg.c p.path),AV.int IntKind.u32 p.nxt,AV.bool p.hm,AV.int IntKind.u32 p.med,AV.bool p.hp,AV.int IntKind.u32 p.prf,AV.bool p.atm,AV.sl 1 (List.map cU p.cms)])).set j (Obj.box [AV.int IntKind.i64 q.org,AV.sl 2 (List.map Seg.c q.path),AV.int IntKind.u32 q.nxt,AV.bool q.hm,AV.int IntKind.u32 q.med,AV.bool q.hp,AV.int IntKind.u32 q.prf,AV.bool q.atm,AV.sl 1 (List.map cU q.cms)])) i=some (Obj.box [AV.int IntKind.i64 p.org,AV.sl 2 (List.map Seg.c p.path),AV.int IntKind.u32 p.nxt,AV.bool p.hm,AV.int IntKind.u32 p.med,AV.bool p.hp,AV.int IntKind.u32 p.prf,AV.bool p.atm,AV.sl 1 (List.map cU p.cms)]):=by rw [Store.set_ne _ _ hj2,Store.set_same]
 have htj:((((σ.set i (Obj.box [AV.int IntKind.i64 a.org,AV.sl 2 (List.map Seg.c a.path),AV.int IntKind.u32 a.nxt,AV.bool a.hm,AV.int IntKind.u32 a.med,AV.bool a.hp,AV.int IntKind.u32 a.prf,AV.bool a.atm,AV.sl 1 (List.map cU a.cms)])).set j (Obj.box [AV.int IntKind.i64 b.org,AV.sl 2 (List.map Seg.c b.path),AV.int IntKind.u32 b.nxt,AV.bool b.hm,AV.int IntKind.u32 b.med,AV.bool b.hp,AV.int IntKind.u32 b.prf,AV.bool b.atm,AV.sl 1 (List.map cU b.cms)])).set i (Obj.box [AV.int IntKind.i64 p.org,AV.sl 2 (List.map Seg.c p.path),AV.int IntKind.u32 p.nxt,AV.bool p.hm,AV.int IntKind.u32 p.med,AV.bool p.hp,AV.int IntKind.u32 p.prf,AV.bool p.atm,AV.sl 1 (List.map cU p.cms)])).set j (Obj.box [AV.int IntKind.i64 q.org,AV.sl 2 (List.map Seg.c q.path),AV.int IntKind.u32 q.nxt,AV.bool q.hm,AV.int IntKind.u32 q.med,AV.bool q.hp,AV.int IntKind.u32 q.prf,AV.bool q.atm,AV.sl 1 (List.map cU q.cms)])) j=some (Obj.box [AV.int IntKind.i64 q.org,AV.sl 2 (List.map Seg.c q.path),AV.int IntKind.u32 q.nxt,AV.bool q.hm,AV.int IntKind.u32 q.med,AV.bool q.hp,AV.int IntKind.u32 q.prf,AV.bool q.atm,AV.sl 1 (List.map cU q.cms)]):=Store.set_same _ _ _
 have hts:Store.sub σ ((((σ.set i (Obj.box [AV.int IntKind.i64 a.org,AV.sl 2 (List.map Seg.c a.path),AV.int IntKind.u32 a.nxt,AV.bool a.hm,AV.int IntKind.u32 a.med,AV.bool a.hp,AV.int IntKind.u32 a.prf,AV.bool a.atm,AV.sl 1 (List.map cU a.cms)])).set j (Obj.box [AV.int IntKind.i64 b.org,AV.sl 2 (List.map Seg.c b.path),AV.int IntKind.u32 b.nxt,AV.bool b.hm,AV.int IntKind.u32 b.med,AV.bool b.hp,AV.int IntKind.u32 b.prf,AV.bool b.atm,AV.sl 1 (List.map cU b.cms)])).set i (Obj.box [AV.int IntKind.i64 p.org,AV.sl 2 (List.map Seg.c p.path),AV.int IntKind.u32 p.nxt,AV.bool p.hm,AV.int IntKind.u32 p.med,AV.bool p.hp,AV.int IntKind.u32 p.prf,AV.bool p.atm,AV.sl 1 (List.map cU p.cms)])).set j (Obj.box [AV.int IntKind.i64 q.org,AV.sl 2 (List.map Seg.c q.path),AV.int IntKind.u32 q.nxt,AV.bool q.hm,AV.int IntKind.u32 q.med,AV.bool q.hp,AV.int IntKind.u32 q.prf,AV.bool q.atm,AV.sl 1 (List.map cU q.cms)])):=za (za (zp hi hj hj1) hi) hj
 generalize ((((σ.set i (Obj.box [AV.int IntKind.i64 a.org,AV.sl 2 (List.map Seg.c a.path),AV.int IntKind.u32 a.nxt,AV.bool a.hm,AV.int IntKind.u32 a.med,AV.bool a.hp,AV.int IntKind.u32 a.prf,AV.bool a.atm,AV.sl 1 (List.map cU a.cms)])).set j (Obj.box [AV.int IntKind.i64 b.org,AV.sl 2 (List.map Seg.c b.path),AV.int IntKind.u32 b.nxt,AV.bool b.hm,AV.int IntKind.u32 b.med,AV.bool b.hp,AV.int IntKind.u32 b.prf,AV.bool b.atm,AV.sl 1 (List.map cU b.cms)])).set i (Obj.box [AV.int IntKind.i64 p.org,AV.sl 2 (List.map Seg.c p.path),AV.int IntKind.u32 p.nxt,AV.bool p.hm,AV.int IntKind.u32 p.med,AV.bool p.hp,AV.int IntKind.u32 p.prf,AV.bool p.atm,AV.sl 1 (List.map cU p.cms)])).set j (Obj.box [AV.int IntKind.i64 q.org,AV.sl 2 (List.map Seg.c q.path),AV.int IntKind.u32 q.nxt,AV.bool q.hm,AV.int IntKind.u32 q.med,AV.bool q.hp,AV.int IntKind.u32 q.prf,AV.bool q.atm,AV.sl 1 (List.map cU q.cms)]))=t at hti htj hts ⊢
 have nz:∀ {bb:Bool} {E:Env},sideF bb=cmpAs p q → @EndQ ((4,.int .i64 (sideF bb))::E) t ⟨Tst.F46.slots,fun r s=>s=σ∧r = .int .i64 (cmpAs p q)⟩:=fun {bb E} h=>EndQ.to σ _ rfl hts ⟨rfl,by rw [h]⟩
 refine ⟨fun g1=>(c92 _).Q ?_,fun g1=>(c88 _ _ hx.1 hy.1 hx.2.1 hy.2.1).Q ?_⟩
 ·simp only [↓vcPre,↓z0,↓reduceIte,vcPost,vcStd,Nat.reduceEqDiff,reduceCtorEq,Nat.reduceAdd,Nat.reduceLeDiff,Int.reduceLT,Int.reduceLE,↓u_setN]
  exact nz (by simp only [cmpAs,orL,y7,yq,if_neg g1];exact z0z g1)
 ·simp only [hti,htj,↓vcPre,↓z0,↓reduceIte,vcPost,vcStd,Nat.reduceEqDiff,reduceCtorEq,Nat.reduceAdd,Nat.reduceLeDiff,Int.reduceLT,Int.reduceLE,↓u_setN]
  refine ⟨fun g2=>EndQ.to σ _ rfl hts ⟨rfl,by simp only [cmpAs,orL,y7,yq,if_pos g1,if_neg g2]⟩,fun g2=>⟨fun g3=>(c92 _).Q ?_,fun g3 => ?_⟩⟩
  ·simp only [↓vcPre,↓z0,↓reduceIte,vcPost,vcStd,Nat.reduceEqDiff,reduceCtorEq,Nat.reduceAdd,Nat.reduceLeDiff,Int.reduceLT,Int.reduceLE,↓u_setN]
   exact nz (by simp only [cmpAs,orL,y7,yq,if_pos g1,if_pos g2,if_neg g3];exact z0z g3)
  by_cases g4:p.hm=q.hm
  case neg =>
   rw [z75 g4]
   simp only [↓vcPre,↓z0,↓reduceIte,vcPost,vcStd,Nat.reduceEqDiff,reduceCtorEq,Nat.reduceAdd,Nat.reduceLeDiff,Int.reduceLT,Int.reduceLE,↓u_setN]
   refine (c92 _).Q ?_
   simp only [↓vcPre,↓z0,↓reduceIte,vcPost,vcStd,Nat.reduceEqDiff,reduceCtorEq,Nat.reduceAdd,Nat.reduceLeDiff,Int.reduceLT,Int.reduceLE,↓u_setN]
   exact nz (by simp only [cmpAs,orL,y7,yq,if_pos g1,if_pos g2,if_pos g3,if_neg g4];exact z55 g4)
  rw [z74 g4]
  simp only [↓vcPre,↓z0,↓reduceIte,vcPost,vcStd,Nat.reduceEqDiff,reduceCtorEq,Nat.reduceAdd,Nat.reduceLeDiff,Int.reduceLT,Int.reduceLE,↓u_setN]
  refine ⟨fun g5=>(c92 _).Q ?_,fun g5 => ?_⟩
  ·simp only [↓vcPre,↓z0,↓reduceIte,vcPost,vcStd,Nat.reduceEqDiff,reduceCtorEq,Nat.reduceAdd,Nat.reduceLeDiff,Int.reduceLT,Int.reduceLE,↓u_setN]
   exact nz (by simp only [cmpAs,orL,y7,yq,if_pos g1,if_pos g2,if_pos g3,if_pos g4,if_neg g5];exact z0z g5)
  by_cases g6:p.hp=q.hp
  case neg =>
   rw [z75 g6]
   simp only [↓vcPre,↓z0,↓reduceIte,vcPost,vcStd,Nat.reduceEqDiff,reduceCtorEq,Nat.reduceAdd,Nat.reduceLeDiff,Int.reduceLT,Int.reduceLE,↓u_setN]
   refine (c92 _).Q ?_
   simp only [↓vcPre,↓z0,↓reduceIte,vcPost,vcStd,Nat.reduceEqDiff,reduceCtorEq,Nat.reduceAdd,Nat.reduceLeDiff,Int.reduceLT,Int.reduceLE,↓u_setN]
   exact nz (by simp only [cmpAs,orL,y7,yq,if_pos g1,if_pos g2,if_pos g3,if_pos g4,if_pos g5,if_neg g6];exact z55 g6)
  rw [z74 g6]
  simp only [↓vcPre,↓z0,↓reduceIte,vcPost,vcStd,Nat.reduceEqDiff,reduceCtorEq,Nat.reduceAdd,Nat.reduceLeDiff,Int.reduceLT,Int.reduceLE,↓u_setN]
  refine ⟨fun g7=>(c92 _).Q ?_,fun g7 => ?_⟩
  ·simp only [↓vcPre,↓z0,↓reduceIte,vcPost,vcStd,Nat.reduceEqDiff,reduceCtorEq,Nat.reduceAdd,Nat.reduceLeDiff,Int.reduceLT,Int.reduceLE,↓u_setN]
   exact nz (by simp only [cmpAs,orL,y7,yq,if_pos g1,if_pos g2,if_pos g3,if_pos g4,if_pos g5,if_pos g6,if_neg g7];exact z0z g7)
  by_cases g8:p.atm=q.atm
  case neg =>
   rw [z75 g8]
   simp only [↓vcPre,↓z0,↓reduceIte,vcPost,vcStd,Nat.reduceEqDiff,reduceCtorEq,Nat.reduceAdd,Nat.reduceLeDiff,Int.reduceLT,Int.reduceLE,↓u_setN]
   refine (c92 _).Q ?_
   simp only [↓vcPre,↓z0,↓reduceIte,vcPost,vcStd,Nat.reduceEqDiff,reduceCtorEq,Nat.reduceAdd,Nat.reduceLeDiff,Int.reduceLT,Int.reduceLE,↓u_setN]
   exact nz (by simp only [cmpAs,orL,y7,yq,if_pos g1,if_pos g2,if_pos g3,if_pos g4,if_pos g5,if_pos g6,if_pos g7,if_neg g8];exact z55 g8)
  rw [z74 g8]
  simp only [↓vcPre,↓z0,↓reduceIte,vcPost,vcStd,Nat.reduceEqDiff,reduceCtorEq,Nat.reduceAdd,Nat.reduceLeDiff,Int.reduceLT,Int.reduceLE,↓u_setN]
  have hpc:p.cms.length≤1000000:=hx.2.2
  have hqc:q.cms.length≤1000000:=hy.2.2
  have hA:cmpAs p q=cmpG cmpI p.cms q.cms:=by
   simp only [cmpAs,orL,y7,yq,if_pos g1,if_pos g2,if_pos g3,if_pos g4,if_pos g5,if_pos g6,if_pos g7,if_pos g8]
   split
   ·rename_i h;rw [h]
   ·rfl
  refine LoopQ.inv (S:=Nat) (fun k=>[(2,.ptr i 0),(3,.ptr j 0),(6,.int .i64 (k:Int))]) (fun _=>t) (fun k=>k≤p.cms.length∧k≤q.cms.length∧cmpG cmpI (p.cms.drop k) (q.cms.drop k)=cmpAs p q) (fun k=>p.cms.length+1 - k) 0 rfl (Store.sub_refl _) ⟨by omega,by omega,by rw [hA];rfl⟩ ?_
  rintro k ⟨hk,hk2,htk⟩
  simp only [hti,htj,↓vcPre,↓z0,↓reduceIte,vcPost,vcStd,Nat.reduceEqDiff,reduceCtorEq,Nat.reduceAdd,Nat.reduceLeDiff,Int.reduceLT,Int.reduceLE,↓u_setN]
  have ek:IntKind.i64.wrap ((k:Int)+1)=((k+1:Nat):Int):=by rw [zd (by unfold I64;omega)];omega
  have endL:¬ ((p.cms.length:Int)=(q.cms.length:Int))→(k=p.cms.length∨k=q.cms.length)→sideF (decide (p.cms.length<q.cms.length))=cmpAs p q:=fun hne hkk=>by
   rw [←htk]
   by_cases e:k=p.cms.length
   ·have h1:p.cms.drop k=[]:=List.drop_eq_nil_of_le (by omega)
    have h2:k<q.cms.length:=by omega
    rw [h1,List.drop_eq_getElem_cons h2,decide_eq_true (by omega)];rfl
   ·have h1:q.cms.drop k=[]:=List.drop_eq_nil_of_le (by omega)
    have h2:k<p.cms.length:=by omega
    rw [h1,List.drop_eq_getElem_cons h2,decide_eq_false (by omega)];rfl
  have cls:∀ {E:Env},(k=p.cms.length∨k=q.cms.length)→(p.cms.length:Int)=(q.cms.length:Int) → @EndQ ((4,.int .i64 0)::E) t ⟨Tst.F46.slots,fun r s=>s=σ∧r = .int .i64 (cmpAs p q)⟩:=fun {E} h1 h2=>EndQ.to σ _ rfl hts ⟨rfl,by
   rw [←htk,List.drop_eq_nil_of_le (by omega),List.drop_eq_nil_of_le (by omega)];rfl⟩
  refine ⟨fun c1=>⟨fun c2 => ?_,fun c2=>⟨fun h=>(c92 _).Q ?_,fun h=>cls (by omega) h⟩⟩,fun c1=>⟨fun h=>(c92 _).Q ?_,fun h=>cls (by omega) h⟩⟩
  ·refine ⟨c1,by simp [cU],?_⟩
   simp only [cU,↓vcPre,↓z0,↓reduceIte,vcPost,vcStd,Nat.reduceEqDiff,reduceCtorEq,Nat.reduceAdd,Nat.reduceLeDiff,Int.reduceLT,Int.reduceLE,↓u_setN]
   have hs1:cmpAs p q=if cmpI p.cms[k] q.cms[k]=0 then cmpG cmpI (p.cms.drop (k+1)) (q.cms.drop (k+1)) else cmpI p.cms[k] q.cms[k]:=by
    rw [←htk,List.drop_eq_getElem_cons c1,List.drop_eq_getElem_cons c2];rfl
   refine ⟨c2,fun g9=>⟨c1,c2,(c92 _).Q ?_⟩,fun g9 => ?_⟩
   ·simp only [↓vcPre,↓z0,↓reduceIte,vcPost,vcStd,Nat.reduceEqDiff,reduceCtorEq,Nat.reduceAdd,Nat.reduceLeDiff,Int.reduceLT,Int.reduceLE,↓u_setN]
    exact nz (by rw [hs1];simp only [y7,if_neg g9];exact z0z g9)
   ·rw [ek]
    refine NextQ.to (k+1) rfl (Store.sub_refl _) (by omega) ⟨by omega,by omega,?_⟩
    rw [hs1,if_pos ((y7 _ _).2 g9)]
  ·simp only [↓vcPre,↓z0,↓reduceIte,vcPost,vcStd,Nat.reduceEqDiff,reduceCtorEq,Nat.reduceAdd,Nat.reduceLeDiff,Int.reduceLT,Int.reduceLE,↓u_setN]
   exact nz (endL h (by omega))
  ·simp only [↓vcPre,↓z0,↓reduceIte,vcPost,vcStd,Nat.reduceEqDiff,reduceCtorEq,Nat.reduceAdd,Nat.reduceLeDiff,Int.reduceLT,Int.reduceLE,↓u_setN]
   exact nz (endL h (by omega))
theorem z78 (n:Int):Pur Tryz.prog 143 [.int .u32 n] (.bool (decide (goodN n))):=by
 refine zn Tst.F143 (by simp [Tst.F143,Fn.mkX]) fun σ => ?_
 simp only [Tst.F143,Fn.mkX,Tst.b143]
 have e:shrInt .u32 n 24=n / 16777216:=by
  simp [shrInt,IntKind.bits,z2f]
 simp only [e,↓vcPre,↓z0,↓reduceIte,vcPost,vcStd,Nat.reduceEqDiff,reduceCtorEq,Nat.reduceAdd,Nat.reduceLeDiff,Int.reduceLT,Int.reduceLE,↓u_setN]
 (repeat' first
   | (refine ⟨fun _ => ?_,fun _ => ?_⟩)
   | (refine decide_eq_decide.2 ?_;unfold goodN;omega)
   | (symm;rw [decide_eq_false_iff_not];unfold goodN;omega)
   | (symm;rw [decide_eq_true_iff];unfold goodN;omega))
theorem zfo (l:List Seg) (hl:l.length≤1000000):Pur Tryz.prog 145 [.sl 2 (l.map Seg.c)] (.bool (decide (pathRight l))):=by
 refine zn Tst.F145 (by simp [Tst.F145,Fn.mkX]) fun σ => ?_
 simp only [Tst.F145,Fn.mkX,Tst.b145]
 simp only [↓vcPre,↓z0,↓reduceIte,vcPost,vcStd,Nat.reduceEqDiff,reduceCtorEq,Nat.reduceAdd,Nat.reduceLeDiff,Int.reduceLT,Int.reduceLE,↓u_setN]
 refine LoopQ.inv (S:=Nat) (fun k=>[(0,.sl 2 (l.map Seg.c)),(3,.int .i64 (k:Int))]) (fun _=>σ) (fun k=>k≤l.length∧∀ s ∈ l.take k,segRight s) (fun k=>l.length+1 - k) 0 rfl (Store.sub_refl _) ⟨by omega,by simp⟩ ?_
 rintro k ⟨hk,hr⟩
 simp only [↓vcPre,↓z0,↓reduceIte,vcPost,vcStd,Nat.reduceEqDiff,reduceCtorEq,Nat.reduceAdd,Nat.reduceLeDiff,Int.reduceLT,Int.reduceLE,↓u_setN]
 refine ⟨fun c1 => ?_,fun c1 => ?_⟩
 ·have ek:IntKind.i64.wrap ((k:Int)+1)=((k+1:Nat):Int):=by rw [zd (by unfold I64;omega)];omega
  refine ⟨c1,by simp [Seg.c],?_⟩
  simp only [Seg.c,c1,↓vcPre,↓z0,↓reduceIte,vcPost,vcStd,Nat.reduceEqDiff,reduceCtorEq,Nat.reduceAdd,Nat.reduceLeDiff,Int.reduceLT,Int.reduceLE,↓u_setN]
  rw [ek]
  have no:¬ segRight l[k]→false=decide (pathRight l):=fun h=>by rw [decide_eq_false (fun h2:pathRight l=>h (h2.1 _ (List.getElem_mem c1)))]
  (repeat' first
    | (refine ⟨fun _ => ?_,fun _ => ?_⟩)
    | (refine no fun h => ?_;unfold segRight at h;omega))
  all_goals
   refine NextQ.to (k+1) rfl (Store.sub_refl _) (by omega) ⟨by omega,fun s hs => ?_⟩
   rw [List.take_add_one,List.getElem?_eq_getElem c1] at hs
   rcases List.mem_append.1 hs with h | h
   ·exact hr s h
   ·simp at h;subst h;unfold segRight;omega
 ·have e:l.take k=l:=List.take_of_length_le (by omega)
  rw [e] at hr
  refine decide_eq_decide.2 ⟨fun h=>⟨hr,by omega⟩,fun h => ?_⟩
  have:=h.2;omega
theorem c81 (a:At) (ha:a.ok):Pur Tryz.prog 81 [.agg a.c] (.bool (decide (atRight a))):=by
 refine zn Tst.F81 (by simp [Tst.F81,Fn.mkX]) fun σ => ?_
 simp only [Tst.F81,Fn.mkX,Tst.b81]
 simp only [At.c,↓vcPre,↓z0,↓reduceIte,vcPost,vcStd,Nat.reduceEqDiff,reduceCtorEq,Nat.reduceAdd,Nat.reduceLeDiff,Int.reduceLT,Int.reduceLE,↓u_setN]
 refine AllocQ.i0 fun i hi => ?_
 have hsb:=Store.sub_set σ i (.box a.c) hi
 have hTb:(σ.set i (.box a.c)) i=some (.box [.int .i64 a.org,.sl 2 (a.path.map Seg.c),.int .u32 a.nxt,.bool a.hm,.int .u32 a.med,.bool a.hp,.int .u32 a.prf,.bool a.atm,.sl 1 (a.cms.map cU)]):=Store.set_same _ _ _
 change bops _ _ _ (σ.set i (.box a.c)) _
 generalize σ.set i (.box a.c)=T at hsb hTb ⊢
 have no:¬ atRight a→false=decide (atRight a)∧Store.sub σ T:=fun h=>⟨by rw [decide_eq_false h],hsb⟩
 by_cases h1:a.org<0
 ·simp only [hTb,h1,↓vcPre,↓z0,↓reduceIte,vcPost,vcStd,Nat.reduceEqDiff,reduceCtorEq,Nat.reduceAdd,Nat.reduceLeDiff,Int.reduceLT,Int.reduceLE,↓u_setN]
  exact no fun h=>by have:=h.1;omega
 by_cases h2:2<a.org
 ·simp only [hTb,h1,h2,↓vcPre,↓z0,↓reduceIte,vcPost,vcStd,Nat.reduceEqDiff,reduceCtorEq,Nat.reduceAdd,Nat.reduceLeDiff,Int.reduceLT,Int.reduceLE,↓u_setN]
  exact no fun h=>by have:=h.1;omega
 simp only [hTb,h1,h2,↓vcPre,↓z0,↓reduceIte,vcPost,vcStd,Nat.reduceEqDiff,reduceCtorEq,Nat.reduceAdd,Nat.reduceLeDiff,Int.reduceLT,Int.reduceLE,↓u_setN]
 refine (zfo a.path ha.1).Q ?_
 by_cases g1:pathRight a.path
 case neg=>rw [decide_eq_false g1];simp only [hTb,↓vcPre,↓z0,↓reduceIte,vcPost,vcStd,Nat.reduceEqDiff,reduceCtorEq,Nat.reduceAdd,Nat.reduceLeDiff,Int.reduceLT,Int.reduceLE,↓u_setN];exact no fun h=>g1 h.2.1
 rw [decide_eq_true g1]
 simp only [hTb,↓vcPre,↓z0,↓reduceIte,vcPost,vcStd,Nat.reduceEqDiff,reduceCtorEq,Nat.reduceAdd,Nat.reduceLeDiff,Int.reduceLT,Int.reduceLE,↓u_setN]
 refine (z78 a.nxt).Q ?_
 by_cases g2:goodN a.nxt
 case neg=>rw [decide_eq_false g2];simp only [hTb,↓vcPre,↓z0,↓reduceIte,vcPost,vcStd,Nat.reduceEqDiff,reduceCtorEq,Nat.reduceAdd,Nat.reduceLeDiff,Int.reduceLT,Int.reduceLE,↓u_setN];exact no fun h=>g2 h.2.2.1
 rw [decide_eq_true g2]
 by_cases g3:a.hm=false→a.med=0
 case neg =>
  have hm:a.hm=false:=by cases h:a.hm <;> simp_all
  have hz:¬ a.med=0:=fun h=>g3 fun _=>h
  simp only [hTb,hm,hz,↓vcPre,↓z0,↓reduceIte,vcPost,vcStd,Nat.reduceEqDiff,reduceCtorEq,Nat.reduceAdd,Nat.reduceLeDiff,Int.reduceLT,Int.reduceLE,↓u_setN]
  exact no fun h=>g3 h.2.2.2.1
 by_cases g4:a.hp=false→a.prf=0
 case neg =>
  have hp:a.hp=false:=by cases h:a.hp <;> simp_all
  have hz:¬ a.prf=0:=fun h=>g4 fun _=>h
  cases hm:a.hm
  ·have hz2:a.med=0:=g3 hm
   simp only [hTb,hm,hp,hz,hz2,↓vcPre,↓z0,↓reduceIte,vcPost,vcStd,Nat.reduceEqDiff,reduceCtorEq,Nat.reduceAdd,Nat.reduceLeDiff,Int.reduceLT,Int.reduceLE,↓u_setN]
   exact no fun h=>g4 h.2.2.2.2.1
  ·simp only [hTb,hm,hp,hz,↓vcPre,↓z0,↓reduceIte,vcPost,vcStd,Nat.reduceEqDiff,reduceCtorEq,Nat.reduceAdd,Nat.reduceLeDiff,Int.reduceLT,Int.reduceLE,↓u_setN]
   exact no fun h=>g4 h.2.2.2.2.1
 cases hm:a.hm <;> cases hp:a.hp
 ·have e1:=g3 hm
  have e2:=g4 hp
  simp only [hTb,hm,hp,e1,e2,↓vcPre,↓z0,↓reduceIte,vcPost,vcStd,Nat.reduceEqDiff,reduceCtorEq,Nat.reduceAdd,Nat.reduceLeDiff,Int.reduceLT,Int.reduceLE,↓u_setN]
  refine ⟨fun c=>no fun h=>by have:=h.2.2.2.2.2.1;omega,fun c => ?_⟩
  refine LoopQ.inv (S:=Nat) (fun k=>[(1,.ptr i 0),(3,.int .i64 ((k+1:Nat):Int))]) (fun _=>T) (fun k=>k≤a.cms.length∧∀ i,∀ h:i+1<a.cms.length,i<k→a.cms[i]<a.cms[i+1]) (fun k=>a.cms.length+1 - k) 0 rfl (Store.sub_refl _) ⟨by omega,fun i _ h=>by omega⟩ ?_
  rintro k ⟨hk,hr⟩
  simp only [hTb,↓vcPre,↓z0,↓reduceIte,vcPost,vcStd,Nat.reduceEqDiff,reduceCtorEq,Nat.reduceAdd,Nat.reduceLeDiff,Int.reduceLT,Int.reduceLE,↓u_setN]
  refine ⟨fun c1 => ?_,fun c1 => ?_⟩
  ·have ek:IntKind.i64.wrap (((k+1:Nat):Int)+1)=((k+1+1:Nat):Int):=by rw [zd (by unfold I64;omega)];omega
   have em:IntKind.i64.wrap (((k+1:Nat):Int) - 1)=(k:Int):=by rw [zd (by unfold I64;omega)];omega
   rw [em]
   simp only [Int.toNat_natCast]
   refine ⟨by omega,by omega,by simp [cU],?_⟩
   simp only [cU,↓vcPre,↓z0,↓reduceIte,vcPost,vcStd,Nat.reduceEqDiff,reduceCtorEq,Nat.reduceAdd,Nat.reduceLeDiff,Int.reduceLT,Int.reduceLE,↓u_setN]
   refine ⟨c1,fun g => ?_,fun g => ?_⟩
   ·exact no fun h=>by have:=inc_pt.1 h.2.2.2.2.2.2 k (by omega);omega
   ·rw [ek]
    refine NextQ.to (k+1) rfl (Store.sub_refl _) (by omega) ⟨by omega,fun i hi hik => ?_⟩
    by_cases e:i=k
    ·subst e;omega
    ·exact hr i hi (by omega)
  ·refine ⟨?_,hsb⟩
   symm
   rw [decide_eq_true_iff]
   exact ⟨⟨by omega,by omega⟩,g1,g2,g3,g4,by omega,inc_pt.2 fun i hi=>hr i hi (by omega)⟩
 ·have e1:=g3 hm
  simp only [hTb,hm,hp,e1,↓vcPre,↓z0,↓reduceIte,vcPost,vcStd,Nat.reduceEqDiff,reduceCtorEq,Nat.reduceAdd,Nat.reduceLeDiff,Int.reduceLT,Int.reduceLE,↓u_setN]
  refine ⟨fun c=>no fun h=>by have:=h.2.2.2.2.2.1;omega,fun c => ?_⟩
  refine LoopQ.inv (S:=Nat) (fun k=>[(1,.ptr i 0),(3,.int .i64 ((k+1:Nat):Int))]) (fun _=>T) (fun k=>k≤a.cms.length∧∀ i,∀ h:i+1<a.cms.length,i<k→a.cms[i]<a.cms[i+1]) (fun k=>a.cms.length+1 - k) 0 rfl (Store.sub_refl _) ⟨by omega,fun i _ h=>by omega⟩ ?_
  rintro k ⟨hk,hr⟩
  simp only [hTb,↓vcPre,↓z0,↓reduceIte,vcPost,vcStd,Nat.reduceEqDiff,reduceCtorEq,Nat.reduceAdd,Nat.reduceLeDiff,Int.reduceLT,Int.reduceLE,↓u_setN]
  refine ⟨fun c1 => ?_,fun c1 => ?_⟩
  ·have ek:IntKind.i64.wrap (((k+1:Nat):Int)+1)=((k+1+1:Nat):Int):=by rw [zd (by unfold I64;omega)];omega
   have em:IntKind.i64.wrap (((k+1:Nat):Int) - 1)=(k:Int):=by rw [zd (by unfold I64;omega)];omega
   rw [em]
   simp only [Int.toNat_natCast]
   refine ⟨by omega,by omega,by simp [cU],?_⟩
   simp only [cU,↓vcPre,↓z0,↓reduceIte,vcPost,vcStd,Nat.reduceEqDiff,reduceCtorEq,Nat.reduceAdd,Nat.reduceLeDiff,Int.reduceLT,Int.reduceLE,↓u_setN]
   refine ⟨c1,fun g => ?_,fun g => ?_⟩
   ·exact no fun h=>by have:=inc_pt.1 h.2.2.2.2.2.2 k (by omega);omega
   ·rw [ek]
    refine NextQ.to (k+1) rfl (Store.sub_refl _) (by omega) ⟨by omega,fun i hi hik => ?_⟩
    by_cases e:i=k
    ·subst e;omega
    ·exact hr i hi (by omega)
  ·refine ⟨?_,hsb⟩
   symm
   rw [decide_eq_true_iff]
   exact ⟨⟨by omega,by omega⟩,g1,g2,g3,g4,by omega,inc_pt.2 fun i hi=>hr i hi (by omega)⟩
 ·have e2:=g4 hp
  simp only [hTb,hm,hp,e2,↓vcPre,↓z0,↓reduceIte,vcPost,vcStd,Nat.reduceEqDiff,reduceCtorEq,Nat.reduceAdd,Nat.reduceLeDiff,Int.reduceLT,Int.reduceLE,↓u_setN]
  refine ⟨fun c=>no fun h=>by have:=h.2.2.2.2.2.1;omega,fun c => ?_⟩
  refine LoopQ.inv (S:=Nat) (fun k=>[(1,.ptr i 0),(3,.int .i64 ((k+1:Nat):Int))]) (fun _=>T) (fun k=>k≤a.cms.length∧∀ i,∀ h:i+1<a.cms.length,i<k→a.cms[i]<a.cms[i+1]) (fun k=>a.cms.length+1 - k) 0 rfl (Store.sub_refl _) ⟨by omega,fun i _ h=>by omega⟩ ?_
  rintro k ⟨hk,hr⟩
  simp only [hTb,↓vcPre,↓z0,↓reduceIte,vcPost,vcStd,Nat.reduceEqDiff,reduceCtorEq,Nat.reduceAdd,Nat.reduceLeDiff,Int.reduceLT,Int.reduceLE,↓u_setN]
  refine ⟨fun c1 => ?_,fun c1 => ?_⟩
  ·have ek:IntKind.i64.wrap (((k+1:Nat):Int)+1)=((k+1+1:Nat):Int):=by rw [zd (by unfold I64;omega)];omega
   have em:IntKind.i64.wrap (((k+1:Nat):Int) - 1)=(k:Int):=by rw [zd (by unfold I64;omega)];omega
   rw [em]
   simp only [Int.toNat_natCast]
   refine ⟨by omega,by omega,by simp [cU],?_⟩
   simp only [cU,↓vcPre,↓z0,↓reduceIte,vcPost,vcStd,Nat.reduceEqDiff,reduceCtorEq,Nat.reduceAdd,Nat.reduceLeDiff,Int.reduceLT,Int.reduceLE,↓u_setN]
   refine ⟨c1,fun g => ?_,fun g => ?_⟩
   ·exact no fun h=>by have:=inc_pt.1 h.2.2.2.2.2.2 k (by omega);omega
   ·rw [ek]
    refine NextQ.to (k+1) rfl (Store.sub_refl _) (by omega) ⟨by omega,fun i hi hik => ?_⟩
    by_cases e:i=k
    ·subst e;omega
    ·exact hr i hi (by omega)
  ·refine ⟨?_,hsb⟩
   symm
   rw [decide_eq_true_iff]
   exact ⟨⟨by omega,by omega⟩,g1,g2,g3,g4,by omega,inc_pt.2 fun i hi=>hr i hi (by omega)⟩
 ·simp only [hTb,hm,hp,↓vcPre,↓z0,↓reduceIte,vcPost,vcStd,Nat.reduceEqDiff,reduceCtorEq,Nat.reduceAdd,Nat.reduceLeDiff,Int.reduceLT,Int.reduceLE,↓u_setN]
  refine ⟨fun c=>no fun h=>by have:=h.2.2.2.2.2.1;omega,fun c => ?_⟩
  refine LoopQ.inv (S:=Nat) (fun k=>[(1,.ptr i 0),(3,.int .i64 ((k+1:Nat):Int))]) (fun _=>T) (fun k=>k≤a.cms.length∧∀ i,∀ h:i+1<a.cms.length,i<k→a.cms[i]<a.cms[i+1]) (fun k=>a.cms.length+1 - k) 0 rfl (Store.sub_refl _) ⟨by omega,fun i _ h=>by omega⟩ ?_
  rintro k ⟨hk,hr⟩
  simp only [hTb,↓vcPre,↓z0,↓reduceIte,vcPost,vcStd,Nat.reduceEqDiff,reduceCtorEq,Nat.reduceAdd,Nat.reduceLeDiff,Int.reduceLT,Int.reduceLE,↓u_setN]
  refine ⟨fun c1 => ?_,fun c1 => ?_⟩
  ·have ek:IntKind.i64.wrap (((k+1:Nat):Int)+1)=((k+1+1:Nat):Int):=by rw [zd (by unfold I64;omega)];omega
   have em:IntKind.i64.wrap (((k+1:Nat):Int) - 1)=(k:Int):=by rw [zd (by unfold I64;omega)];omega
   rw [em]
   simp only [Int.toNat_natCast]
   refine ⟨by omega,by omega,by simp [cU],?_⟩
   simp only [cU,↓vcPre,↓z0,↓reduceIte,vcPost,vcStd,Nat.reduceEqDiff,reduceCtorEq,Nat.reduceAdd,Nat.reduceLeDiff,Int.reduceLT,Int.reduceLE,↓u_setN]
   refine ⟨c1,fun g => ?_,fun g => ?_⟩
   ·exact no fun h=>by have:=inc_pt.1 h.2.2.2.2.2.2 k (by omega);omega
   ·rw [ek]
    refine NextQ.to (k+1) rfl (Store.sub_refl _) (by omega) ⟨by omega,fun i hi hik => ?_⟩
    by_cases e:i=k
    ·subst e;omega
    ·exact hr i hi (by omega)
  ·refine ⟨?_,hsb⟩
   symm
   rw [decide_eq_true_iff]
   exact ⟨⟨by omega,by omega⟩,g1,g2,g3,g4,by omega,inc_pt.2 fun i hi=>hr i hi (by omega)⟩
end Go.Am
namespace Go.Am.Tsj
open Go.Proofs Go.Am.B
def t87_39:BC := .seq (z [f 39 8 1,l 40 1 39,u 41 .len 40,c 42 .gtr 41 0] [1,3,42] (.cond (.t 42) (z [k 4 .nils] [1,3,4] (.seq (z [j 5 0] [1,3,4,5] (.block 0 (.loop [1,3,4,5] (.seq (z [m 43 5,f 44 8 1,l 45 1 44,u 46 .len 45,b 47 .lss 43 46] [1,3,4,5,47] (.cond (.t 47) .skip (.exit 0))) (.seq (.block 1 (.ops [m 50 4,f 51 8 1,l 52 1 51,m 53 5,x 54 1 52 53,l 55 1 54,g 56 94 [.t 50,.t 55],m 4 56] [1,3,4,5])) (.ops [m 48 5,c 49 .add 48 1,m 5 49] [1,3,4,5])))))) (.ops [m 57 3,m 58 4,g 59 148 [.t 57,.c (.int .i64 192),.c (.int .i64 8),.t 58],m 3 59] [3]))) .skip)) (z [m 60 3,m 2 60] [2] .ret)
def t87_35:BC := .seq (z [f 35 7 1,l 36 1 35] [1,3,36] (.cond (.t 36) (.ops [m 37 3,g 38 148 [.t 37,.c (.int .i64 64),.c (.int .i64 6),.c .nils],m 3 38] [1,3]) .skip)) t87_39
def t87_28:BC := .seq (z [f 28 5 1,l 29 1 28] [1,3,29] (.cond (.t 29) (.ops [m 30 3,f 31 6 1,l 32 1 31,g 33 94 [.c .nils,.t 32],g 34 148 [.t 30,.c (.int .i64 64),.c (.int .i64 5),.t 33],m 3 34] [1,3]) .skip)) t87_35
def t87_21:BC := .seq (z [f 21 3 1,l 22 1 21] [1,3,22] (.cond (.t 22) (.ops [m 23 3,f 24 4 1,l 25 1 24,g 26 94 [.c .nils,.t 25],g 27 148 [.t 23,.c (.int .i64 128),.c (.int .i64 4),.t 26],m 3 27] [1,3]) .skip)) t87_28
def b87:BC:=z [⟨some 1,none,.alloc (.box),[.t 0]⟩,k 2 .nils] [1] (z [f 6 0 1,l 7 1 6,u 8 (.conv .u8) 7,⟨some 9,none,.alloc (.mksl 1 1),[.t 8]⟩,g 10 148 [.c .nils,.c (.int .i64 64),.c (.int .i64 1),.t 9],m 3 10] [1,3] (z [m 11 3,f 12 1 1,l 13 1 12,g 14 149 [.t 13],g 15 148 [.t 11,.c (.int .i64 64),.c (.int .i64 2),.t 14],m 3 15] [1,3] (z [m 16 3,f 17 2 1,l 18 1 17,g 19 94 [.c .nils,.t 18],g 20 148 [.t 16,.c (.int .i64 64),.c (.int .i64 3),.t 19],m 3 20] [1,3] t87_21)))
def F87:Fn Tryz.prog 87:=Fn.mkX false b87 [.t 2] 61 Tryz.f87 _ Tryz.func87 (by decide) rfl Tryz.ntmps87 (by kernel_rfl) (by kernel_rfl)
end Go.Am.Tsj
namespace Go.Am
open Go.Proofs Go.Sort
theorem zcl {k:IntKind} {a b c d:Int}:alv (.mksl 1 4) [.int k a,.int k b,.int k c,.int k d]=some (.arr 1 [[.int k a],[.int k b],[.int k c],[.int k d]],fun id => .os id 1 0 4):=by rfl
theorem zaq {k:IntKind} {a b c:Int}:alv (.mksl 1 3) [.int k a,.int k b,.int k c]=some (.arr 1 [[.int k a],[.int k b],[.int k c]],fun id => .os id 1 0 3):=by rfl
theorem zbn (x:Int):x.fdiv 65536=x / 65536:=Int.fdiv_eq_ediv_of_nonneg _ (by omega)
theorem z8y (x:Int):x.fdiv 256=x / 256:=Int.fdiv_eq_ediv_of_nonneg _ (by omega)
theorem Own.new {esz i:Nat} {s:Store} {L:List (List AV)} (hi:s i=none):Own esz s L (.os i esz 0 L.length) (s.set i (.arr esz L)) := .inr ⟨i,rfl,hi,Store.set_same _ _ _⟩
theorem s94 {s:Store} {L:List Int} {v:AV} (hr:Rd 1 s (L.map cB) v) (hL:L.length≤100000000) (n:Int):ACalls Tryz.prog 94 [v,.int .u32 n] s (fun r s'=>Store.sub s s'∧Own 1 s ((L++b4 n).map cB) r s'):=by
 refine zk Tst.F94 (by simp [Tst.F94,Fn.mkX]) ?_
 simp only [Tst.F94,Fn.mkX,Tst.b94]
 simp only [↓vcPre,↓z0,↓reduceIte,vcPost,vcStd,Nat.reduceEqDiff,reduceCtorEq,Nat.reduceAdd,Nat.reduceLeDiff,Int.reduceLT,Int.reduceLE,↓u_setN]
 refine AllocQ.i0 fun i hi => ?_
 simp only [↓vcPre,↓z0,↓reduceIte,vcPost,vcStd,Nat.reduceEqDiff,reduceCtorEq,Nat.reduceAdd,Nat.reduceLeDiff,Int.reduceLT,Int.reduceLE,↓u_setN]
 have hsi:=Store.sub_set s i (.arr 1 []) hi
 refine Own.appM (τ:=s) hsi (Own.new (L:=[]) hi) (hr.1 _ hsi) (by simp;omega) fun v1 s1 hs1 ho1 => ?_
 simp only [zcl,↓vcPre,↓z0,↓reduceIte,vcPost,vcStd,Nat.reduceEqDiff,reduceCtorEq,Nat.reduceAdd,Nat.reduceLeDiff,Int.reduceLT,Int.reduceLE,↓u_setN]
 refine AllocQ.i0 fun b hb => ?_
 simp only [↓vcPre,↓z0,↓reduceIte,vcPost,vcStd,Nat.reduceEqDiff,reduceCtorEq,Nat.reduceAdd,Nat.reduceLeDiff,Int.reduceLT,Int.reduceLE,↓u_setN]
 have hsb:=Store.sub_set s1 b (.arr 1 [[.int .u8 (IntKind.u8.wrap (shrInt .u32 n 24))],[.int .u8 (IntKind.u8.wrap (shrInt .u32 n 16))],[.int .u8 (IntKind.u8.wrap (shrInt .u32 n 8))],[.int .u8 (IntKind.u8.wrap n)]]) hb
 refine Own.appM (τ:=s) (Store.sub_trans hs1 hsb) (ho1.mono hsb) (zq (Store.set_same _ _ _) rfl) (by simp;omega) fun v2 s2 hs2 ho2 => ?_
 refine EndQ.to _ _ rfl (Store.sub_refl _) ⟨hs2,?_⟩
 simpa [b4,cB,u8w,shrInt,IntKind.bits,z2f,zbn,z8y] using ho2
theorem s93 {s:Store} {L:List Int} {v:AV} (hr:Rd 1 s (L.map cB) v) (hL:L.length≤100000000) (n:Int):ACalls Tryz.prog 93 [v,.int .i64 n] s (fun r s'=>Store.sub s s'∧Own 1 s ((L++[n / 256 % 256,n % 256]).map cB) r s'):=by
 refine zk Tst.F93 (by simp [Tst.F93,Fn.mkX]) ?_
 simp only [Tst.F93,Fn.mkX,Tst.b93]
 simp only [↓vcPre,↓z0,↓reduceIte,vcPost,vcStd,Nat.reduceEqDiff,reduceCtorEq,Nat.reduceAdd,Nat.reduceLeDiff,Int.reduceLT,Int.reduceLE,↓u_setN]
 refine AllocQ.i0 fun i hi => ?_
 simp only [↓vcPre,↓z0,↓reduceIte,vcPost,vcStd,Nat.reduceEqDiff,reduceCtorEq,Nat.reduceAdd,Nat.reduceLeDiff,Int.reduceLT,Int.reduceLE,↓u_setN]
 have hsi:=Store.sub_set s i (.arr 1 []) hi
 refine Own.appM (τ:=s) hsi (Own.new (L:=[]) hi) (hr.1 _ hsi) (by simp;omega) fun v1 s1 hs1 ho1 => ?_
 refine AllocQ.i0 fun b hb => ?_
 simp only [↓vcPre,↓z0,↓reduceIte,vcPost,vcStd,Nat.reduceEqDiff,reduceCtorEq,Nat.reduceAdd,Nat.reduceLeDiff,Int.reduceLT,Int.reduceLE,↓u_setN]
 have hsb:=Store.sub_set s1 b (.arr 1 [[.int .u8 (IntKind.u8.wrap (shrInt .i64 n 8))],[.int .u8 (IntKind.u8.wrap n)]]) hb
 refine Own.appM (τ:=s) (Store.sub_trans hs1 hsb) (ho1.mono hsb) (zq (Store.set_same _ _ _) rfl) (by simp;omega) fun v2 s2 hs2 ho2 => ?_
 refine EndQ.to _ _ rfl (Store.sub_refl _) ⟨hs2,?_⟩
 simpa [cB,u8w,shrInt,IntKind.bits,z8y] using ho2
theorem zfq (l:List Seg) (hl:l.length≤10000) (ho:∀ s ∈ l,s.ls.length≤1000):Pur Tryz.prog 149 [.sl 2 (l.map Seg.c)] (.sl 1 ((encPath l).map cB)):=by
 intro σ
 refine zk Tst.F149 (by simp [Tst.F149,Fn.mkX]) ?_
 simp only [Tst.F149,Fn.mkX,Tst.b149]
 have hsz:∀ m:List Seg,(∀ s ∈ m,s.ls.length≤1000)→(encPath m).length≤4002*m.length:=by
  intro m
  induction m with
  | nil=>intro _;simp [encPath]
  | cons s r ih =>
    intro h
    have h1:=ih fun x hx=>h x (by simp [hx])
    have h2:=h s (by simp)
    have h3:=yi s.ls
    simp only [encPath,List.flatMap_cons,List.length_append,encSeg,List.length_cons,List.length_nil] at *
    omega
 simp only [↓vcPre,↓z0,↓reduceIte,vcPost,vcStd,Nat.reduceEqDiff,reduceCtorEq,Nat.reduceAdd,Nat.reduceLeDiff,Int.reduceLT,Int.reduceLE,↓u_setN]
 refine LoopQ.inv (S:=Nat×AV×Store) (fun q=>[(0,.sl 2 (l.map Seg.c)),(3,q.2.1),(4,.int .i64 (q.1:Int))]) (fun q=>q.2.2) (fun q=>q.1≤l.length∧Store.sub σ q.2.2∧Own 1 σ ((encPath (l.take q.1)).map cB) q.2.1 q.2.2) (fun q=>l.length+1 - q.1) (0,.nils,σ) rfl (Store.sub_refl _) ⟨by simp only;omega,Store.sub_refl _,by simpa [encPath] using Own.nil⟩ ?_
 rintro ⟨k,v,s⟩ ⟨hk,hs,hO⟩
 simp only at hk hs hO
 have hlk:=hsz (l.take k) fun s h=>ho s (List.mem_of_mem_take h)
 rw [List.length_take] at hlk
 simp only [↓vcPre,↓z0,↓reduceIte,vcPost,vcStd,Nat.reduceEqDiff,reduceCtorEq,Nat.reduceAdd,Nat.reduceLeDiff,Int.reduceLT,Int.reduceLE,↓u_setN]
 refine ⟨fun c1 => ?_,fun c1 => ?_⟩
 ·have ek:IntKind.i64.wrap ((k:Int)+1)=((k+1:Nat):Int):=by rw [zd (by unfold I64;omega)];omega
  have hls:=ho _ (List.getElem_mem c1)
  refine ⟨c1,c1,by simp [Seg.c],?_⟩
  simp only [Seg.c,↓vcPre,↓z0,↓reduceIte,vcPost,vcStd,Nat.reduceEqDiff,reduceCtorEq,Nat.reduceAdd,Nat.reduceLeDiff,Int.reduceLT,Int.reduceLE,↓u_setN]
  refine AllocQ.i0 fun b hb => ?_
  simp only [↓vcPre,↓z0,↓reduceIte,vcPost,vcStd,Nat.reduceEqDiff,reduceCtorEq,Nat.reduceAdd,Nat.reduceLeDiff,Int.reduceLT,Int.reduceLE,↓u_setN]
  have hsb:=Store.sub_set s b (.arr 1 [[.int .u8 (IntKind.u8.wrap l[k].kind)],[.int .u8 (IntKind.u8.wrap (l[k].ls.length:Int))]]) hb
  refine Own.appM (τ:=σ) (Store.sub_trans hs hsb) (hO.mono hsb) (zq (Store.set_same _ _ _) rfl) (by simp;omega) fun v1 s1 hs1 ho1 => ?_
  refine LoopQ.inv (S:=Nat×AV×Store) (fun q=>[(0,.sl 2 (l.map Seg.c)),(3,q.2.1),(4,.int .i64 (k:Int)),(5,.int .i64 (q.1:Int))]) (fun q=>q.2.2) (fun q=>q.1≤l[k].ls.length∧Store.sub σ q.2.2∧Own 1 σ ((encPath (l.take k)++([l[k].kind % 256,(l[k].ls.length:Int) % 256]++encW (l[k].ls.take q.1))).map cB) q.2.1 q.2.2) (fun q=>l[k].ls.length+1 - q.1) (0,v1,s1) rfl (Store.sub_refl _) ⟨by simp only;omega,hs1,by simpa [encW,cB,u8w] using ho1⟩ ?_
  rintro ⟨j,v2,s2⟩ ⟨hj,hs2,ho2⟩
  simp only at hj hs2 ho2
  have hle:=yi (l[k].ls.take j)
  rw [List.length_take] at hle
  simp only [Seg.c,↓vcPre,↓z0,↓reduceIte,vcPost,vcStd,Nat.reduceEqDiff,reduceCtorEq,Nat.reduceAdd,Nat.reduceLeDiff,Int.reduceLT,Int.reduceLE,↓u_setN]
  refine ⟨c1,fun d1 => ?_,fun d1 => ?_⟩
  ·have ej:IntKind.i64.wrap ((j:Int)+1)=((j+1:Nat):Int):=by rw [zd (by unfold I64;omega)];omega
   refine ⟨c1,d1,by simp [cU],?_⟩
   simp only [cU,↓vcPre,↓z0,↓reduceIte,vcPost,vcStd,Nat.reduceEqDiff,reduceCtorEq,Nat.reduceAdd,Nat.reduceLeDiff,Int.reduceLT,Int.reduceLE,↓u_setN]
   refine (s94 (Rd.own ho2) (by simp only [List.length_append,List.length_cons,List.length_nil];omega) _).Q ?_
   rintro r s3 ⟨hs3,ho3⟩
   simp only [↓vcPre,↓z0,↓reduceIte,vcPost,vcStd,Nat.reduceEqDiff,reduceCtorEq,Nat.reduceAdd,Nat.reduceLeDiff,Int.reduceLT,Int.reduceLE,↓u_setN]
   rw [ej]
   refine NextQ.to (j+1,r,s3) rfl (Store.sub_refl _) (by simp only;omega) ⟨by simp only;omega,Store.sub_trans hs2 hs3,?_⟩
   simp only
   rw [vj _ _ d1,←List.append_assoc,←List.append_assoc,List.append_assoc (encPath _)]
   exact ho3.weak hs2
  ·have e:l[k].ls.take j=l[k].ls:=List.take_of_length_le (by omega)
   rw [e] at ho2
   rw [ek]
   refine NextQ.to (k+1,v2,s2) rfl (Store.sub_refl _) (by simp only;omega) ⟨by simp only;omega,hs2,?_⟩
   simp only
   rw [uw _ _ c1]
   exact ho2
 ·have e:l.take k=l:=List.take_of_length_le (by omega)
  rw [e] at hO
  exact EndQ.own rfl hO hs ⟨rfl,rfl⟩
theorem va (fl kind:Int) (M:List Int) (L:List Int):(L++oneA fl kind M).length≤L.length+4+M.length:=by
 rw [List.length_append];have:=y5 fl kind M;omega
theorem z0e {τ s:Store} (hτ:Store.sub τ s) {L M:List Int} {v wv:AV} (ho:Own 1 τ (L.map cB) v s) (hw:Rd 1 τ (M.map cB) wv) (hL:L.length≤20000000) (hM:M.length≤20000000) (fl k:Int) (hfl:fl=64∨fl=128∨fl=192) (hk:0≤k∧k≤8) :
 ACalls Tryz.prog 148 [v,.int .i64 fl,.int .i64 k,wv] s (fun r s'=>Store.sub τ s'∧Own 1 τ ((L++oneA fl k M).map cB) r s'):=by
 refine zk Tst.F148 (by simp [Tst.F148,Fn.mkX]) ?_
 simp only [Tst.F148,Fn.mkX,Tst.b148]
 have hlen:pv .len [wv]=some (.int .i64 (M.length:Int)):=by rw [hw.2];simp
 have hor:bitInt .or .i64 fl 16=fl+16∧fl % 256=fl∧(fl+16) % 256=fl+16:=by
  rcases hfl with h | h | h <;> rw [h] <;> decide
 have hk8:k % 256=k:=by omega
 simp only [hlen,zaq,↓vcPre,↓z0,↓reduceIte,vcPost,vcStd,Nat.reduceEqDiff,reduceCtorEq,Nat.reduceAdd,Nat.reduceLeDiff,Int.reduceLT,Int.reduceLE,↓u_setN]
 refine ⟨fun c1 => ?_,fun c1 => ?_⟩
 ·refine AllocQ.i0 fun b hb => ?_
  rw [hor.1]
  simp only [↓vcPre,↓z0,↓reduceIte,vcPost,vcStd,Nat.reduceEqDiff,reduceCtorEq,Nat.reduceAdd,Nat.reduceLeDiff,Int.reduceLT,Int.reduceLE,↓u_setN]
  have hsb:=Store.sub_set s b (.arr 1 [[.int .u8 (IntKind.u8.wrap (fl+16))],[.int .u8 (IntKind.u8.wrap k)]]) hb
  refine Own.appM (τ:=τ) (Store.sub_trans hτ hsb) (ho.mono hsb) (zq (Store.set_same _ _ _) rfl) (by simp;omega) fun v1 s1 hs1 ho1 => ?_
  simp only [hlen,↓vcPre,↓z0,↓reduceIte,vcPost,vcStd,Nat.reduceEqDiff,reduceCtorEq,Nat.reduceAdd,Nat.reduceLeDiff,Int.reduceLT,Int.reduceLE,↓u_setN]
  have ho1':Own 1 τ ((L++[fl+16,k]).map cB) v1 s1:=by simpa [cB,u8w,hor.2.2,hk8] using ho1
  refine (s93 (Rd.own ho1') (by simp;omega) _).Q ?_
  rintro r s2 ⟨hs2,ho2⟩
  simp only [↓vcPre,↓z0,↓reduceIte,vcPost,vcStd,Nat.reduceEqDiff,reduceCtorEq,Nat.reduceAdd,Nat.reduceLeDiff,Int.reduceLT,Int.reduceLE,↓u_setN]
  have hs2':=Store.sub_trans hs1 hs2
  refine Own.appM (τ:=τ) hs2' (ho2.weak hs1) (hw.1 _ hs2') (by simp;omega) fun v3 s3 hs3 ho3 => ?_
  refine EndQ.to _ _ rfl (Store.sub_refl _) ⟨hs3,?_⟩
  unfold oneA
  rw [if_pos (by omega)]
  rw [←List.map_append] at ho3
  simpa using ho3
 ·refine AllocQ.i0 fun b hb => ?_
  simp only [↓vcPre,↓z0,↓reduceIte,vcPost,vcStd,Nat.reduceEqDiff,reduceCtorEq,Nat.reduceAdd,Nat.reduceLeDiff,Int.reduceLT,Int.reduceLE,↓u_setN]
  have hsb:=Store.sub_set s b (.arr 1 [[.int .u8 (IntKind.u8.wrap fl)],[.int .u8 (IntKind.u8.wrap k)],[.int .u8 (IntKind.u8.wrap (M.length:Int))]]) hb
  refine Own.appM (τ:=τ) (Store.sub_trans hτ hsb) (ho.mono hsb) (zq (Store.set_same _ _ _) rfl) (by simp;omega) fun v1 s1 hs1 ho1 => ?_
  refine Own.appM (τ:=τ) hs1 ho1 (hw.1 _ hs1) (by simp;omega) fun v3 s3 hs3 ho3 => ?_
  refine EndQ.to _ _ rfl (Store.sub_refl _) ⟨hs3,?_⟩
  have e:(M.length:Int) % 256=(M.length:Int):=by omega
  unfold oneA
  rw [if_neg (by omega)]
  simpa [cB,u8w,hor.2.1,hk8,e] using ho3
end Go.Am
namespace Go.Am
open Go.Proofs Go.Sort
theorem Own.addG {esz e2:Nat} {τ s s':Store} {L M:List (List AV)} {v w:AV} (h:Own esz τ L v s) (hτ:Store.sub τ s) (hs:Store.sub s s') (hw:Own e2 s M w s'):∃ τ',Store.sub τ τ'∧Store.sub τ' s'∧Own esz τ' L v s'∧Rd e2 τ' M w:=by
 rcases hw with ⟨rfl,rfl⟩ | ⟨g,rfl,hg,hh⟩
 ·exact ⟨τ,Store.sub_refl _,Store.sub_trans hτ hs,h.mono hs,Rd.nils⟩
 ·refine ⟨τ.set g (.arr e2 M),Store.sub_set _ _ _ (zm hτ hg),fun j o hj => ?_,?_,Rd.os (Store.set_same _ _ _)⟩
  ·by_cases e:j=g
   ·subst e;rw [Store.set_same] at hj;cases hj;exact hh
   ·rw [Store.set_ne _ _ e] at hj;exact hs _ _ (hτ _ _ hj)
  ·rcases h with h | ⟨k,a,b,c⟩
   ·exact .inl h
   ·have hkg:¬ k=g:=fun e=>by rw [e,hg] at c;cases c
    exact .inr ⟨k,a,by rw [Store.set_ne _ _ hkg];exact b,hs _ _ c⟩
theorem z14 (a:At) (h8:a.cms.length≤100000) {T s:Store} {i:Nat} {L:List Int} {v:AV} (hTi:T i=some (boxC a)) (hs:Store.sub T s) (h:Own 1 T (L.map cB) v s) (hL:L.length≤9000000) {n r:Env→Store→Prop} {x:Nat→Env→Store→Prop}
 (hr:∀ v' s',Store.sub T s'→Own 1 T ((L++(if a.cms=[] then [] else oneA 192 8 (encW a.cms))).map cB) v' s'→r [(2,v')] s'):bwp Tryz.prog Tsj.t87_39 [(1,.ptr i 0),(3,v)] s n r x:=by
 simp only [Tsj.t87_39]
 have hi:=hs _ _ hTi
 simp only [hi,boxC,↓vcPre,↓z0,↓reduceIte,vcPost,vcStd,Nat.reduceEqDiff,reduceCtorEq,Nat.reduceAdd,Nat.reduceLeDiff,Int.reduceLT,Int.reduceLE,↓u_setN]
 have hc:=yi a.cms
 refine ⟨fun c1 => ?_,fun c1 => ?_⟩
 ·obtain ⟨τ1,p1,p2,p3,p4⟩:∃ τ1,Store.sub T τ1∧Store.sub τ1 s∧Own 1 T (L.map cB) v s∧∀ t,Store.sub τ1 t→Own 1 T (L.map cB) v t:=⟨s,hs,Store.sub_refl _,h,fun t ht=>h.mono ht⟩
  refine LoopQ.inv (S:=Nat×AV×Store) (fun q=>[(1,.ptr i 0),(3,v),(4,q.2.1),(5,.int .i64 (q.1:Int))]) (fun q=>q.2.2) (fun q=>q.1≤a.cms.length∧Store.sub s q.2.2∧Own 1 s ((encW (a.cms.take q.1)).map cB) q.2.1 q.2.2) (fun q=>a.cms.length+1 - q.1) (0,.nils,s) rfl (Store.sub_refl _) ⟨by simp only;omega,Store.sub_refl _,by simpa [encW] using Own.nil⟩ ?_
  rintro ⟨k,w,s1⟩ ⟨hk,hs1,ho1⟩
  simp only at hk hs1 ho1
  have hle:=yi (a.cms.take k)
  rw [List.length_take] at hle
  simp only [hs1 _ _ hi,boxC,↓vcPre,↓z0,↓reduceIte,vcPost,vcStd,Nat.reduceEqDiff,reduceCtorEq,Nat.reduceAdd,Nat.reduceLeDiff,Int.reduceLT,Int.reduceLE,↓u_setN]
  refine ⟨fun d1 => ?_,fun d1 => ?_⟩
  ·have ek:IntKind.i64.wrap ((k:Int)+1)=((k+1:Nat):Int):=by rw [zd (by unfold I64;omega)];omega
   refine ⟨d1,by simp [cU],?_⟩
   simp only [cU,↓vcPre,↓z0,↓reduceIte,vcPost,vcStd,Nat.reduceEqDiff,reduceCtorEq,Nat.reduceAdd,Nat.reduceLeDiff,Int.reduceLT,Int.reduceLE,↓u_setN]
   refine (s94 (Rd.own ho1) (by omega) _).Q ?_
   rintro r' s2 ⟨k1,k2⟩
   simp only [↓vcPre,↓z0,↓reduceIte,vcPost,vcStd,Nat.reduceEqDiff,reduceCtorEq,Nat.reduceAdd,Nat.reduceLeDiff,Int.reduceLT,Int.reduceLE,↓u_setN]
   rw [ek]
   refine NextQ.to (k+1,r',s2) rfl (Store.sub_refl _) (by simp only;omega) ⟨by simp only;omega,Store.sub_trans hs1 k1,?_⟩
   simp only
   rw [vj _ _ d1]
   exact k2.weak hs1
  ·have e:a.cms.take k=a.cms:=List.take_of_length_le (by omega)
   rw [e] at ho1
   obtain ⟨τ',q1,q2,q3,q4⟩:=Own.addG h hs hs1 ho1
   refine (z0e q2 q3 q4 (by omega) (by omega) 192 8 (by decide) (by decide)).Q ?_
   rintro r' s2 ⟨k1,k2⟩
   simp only [↓vcPre,↓z0,↓reduceIte,vcPost,vcStd,Nat.reduceEqDiff,reduceCtorEq,Nat.reduceAdd,Nat.reduceLeDiff,Int.reduceLT,Int.reduceLE,↓u_setN]
   have:=hr r' s2 (Store.sub_trans q1 k1)
   rw [if_neg (fun e=>by rw [e] at c1;simp at c1)] at this
   exact this (k2.weak q1)
 ·have:=hr v s hs
  rw [if_pos (List.length_eq_zero_iff.1 (by omega)),List.append_nil] at this
  exact this h
theorem z11 (a:At) (h8:a.cms.length≤100000) {T s:Store} {i:Nat} {L:List Int} {v:AV} (hTi:T i=some (boxC a)) (hs:Store.sub T s) (h:Own 1 T (L.map cB) v s) (hL:L.length≤8000000) {n r:Env→Store→Prop} {x:Nat→Env→Store→Prop}
 (hr:∀ v' s',Store.sub T s'→Own 1 T ((L++(if a.atm then oneA 64 6 [] else [])++(if a.cms=[] then [] else oneA 192 8 (encW a.cms))).map cB) v' s'→r [(2,v')] s'):bwp Tryz.prog Tsj.t87_35 [(1,.ptr i 0),(3,v)] s n r x:=by
 simp only [Tsj.t87_35]
 have hi:=hs _ _ hTi
 cases g:a.atm
 ·simp only [hi,boxC,g,↓vcPre,↓z0,↓reduceIte,vcPost,vcStd,Nat.reduceEqDiff,reduceCtorEq,Nat.reduceAdd,Nat.reduceLeDiff,Int.reduceLT,Int.reduceLE,↓u_setN]
  refine z14 a h8 hTi hs h (by omega) fun v' s' hs' ho' => ?_
  have:=hr v' s' hs'
  rw [g] at this
  exact this (by simpa using ho')
 ·simp only [hi,boxC,g,↓vcPre,↓z0,↓reduceIte,vcPost,vcStd,Nat.reduceEqDiff,reduceCtorEq,Nat.reduceAdd,Nat.reduceLeDiff,Int.reduceLT,Int.reduceLE,↓u_setN]
  refine (z0e hs h (M:=[]) Rd.nils (by omega) (by simp) 64 6 (by decide) (by decide)).Q ?_
  rintro r' s1 ⟨k1,k2⟩
  simp only [↓vcPre,↓z0,↓reduceIte,vcPost,vcStd,Nat.reduceEqDiff,reduceCtorEq,Nat.reduceAdd,Nat.reduceLeDiff,Int.reduceLT,Int.reduceLE,↓u_setN]
  refine z14 a h8 hTi k1 k2 (by have:=y5 64 6 [];simp at this ⊢;omega) fun v' s' hs' ho' => ?_
  have:=hr v' s' hs'
  rw [g] at this
  exact this ho'
theorem z10 (a:At) (h8:a.cms.length≤100000) {T s:Store} {i:Nat} {L:List Int} {v:AV} (hTi:T i=some (boxC a)) (hs:Store.sub T s) (h:Own 1 T (L.map cB) v s) (hL:L.length≤7000000) {n r:Env→Store→Prop} {x:Nat→Env→Store→Prop}
 (hr:∀ v' s',Store.sub T s'→Own 1 T ((L++(if a.hp then oneA 64 5 (b4 a.prf) else [])++(if a.atm then oneA 64 6 [] else [])++(if a.cms=[] then [] else oneA 192 8 (encW a.cms))).map cB) v' s'→r [(2,v')] s'):bwp Tryz.prog Tsj.t87_28 [(1,.ptr i 0),(3,v)] s n r x:=by
 simp only [Tsj.t87_28]
 have hi:=hs _ _ hTi
 cases g:a.hp
 ·simp only [hi,boxC,g,↓vcPre,↓z0,↓reduceIte,vcPost,vcStd,Nat.reduceEqDiff,reduceCtorEq,Nat.reduceAdd,Nat.reduceLeDiff,Int.reduceLT,Int.reduceLE,↓u_setN]
  refine z11 a h8 hTi hs h (by omega) fun v' s' hs' ho' => ?_
  have:=hr v' s' hs'
  rw [g] at this
  exact this (by simpa using ho')
 ·have hTi5:=(hs) _ _ hTi
  simp only [hTi5,boxC,g,↓vcPre,↓z0,↓reduceIte,vcPost,vcStd,Nat.reduceEqDiff,reduceCtorEq,Nat.reduceAdd,Nat.reduceLeDiff,Int.reduceLT,Int.reduceLE,↓u_setN]
  refine (s94 (s:=s) (L:=[]) Rd.nils (by simp) a.prf).Q ?_
  rintro r s' ⟨k1,k2⟩
  rw [List.nil_append] at k2
  obtain ⟨τ',q1,q2,q3,q4⟩:=Own.addG h (hs) k1 k2
  simp only [↓vcPre,↓z0,↓reduceIte,vcPost,vcStd,Nat.reduceEqDiff,reduceCtorEq,Nat.reduceAdd,Nat.reduceLeDiff,Int.reduceLT,Int.reduceLE,↓u_setN]
  refine (z0e q2 q3 q4 (by omega) (by rw [yv];omega) 64 5 (by decide) (by decide)).Q ?_
  rintro r s1 ⟨h1,k3⟩
  have h1:=Store.sub_trans q1 h1
  have k3:=Own.weak k3 q1
  simp only [↓vcPre,↓z0,↓reduceIte,vcPost,vcStd,Nat.reduceEqDiff,reduceCtorEq,Nat.reduceAdd,Nat.reduceLeDiff,Int.reduceLT,Int.reduceLE,↓u_setN]
  refine z11 a h8 hTi h1 k3 (by have:=va 64 5 (b4 a.prf) L;rw [yv] at this;omega) fun v' s' hs' ho' => ?_
  have:=hr v' s' hs'
  rw [g] at this
  exact this ho'
theorem z5a (a:At) (h8:a.cms.length≤100000) {T s:Store} {i:Nat} {L:List Int} {v:AV} (hTi:T i=some (boxC a)) (hs:Store.sub T s) (h:Own 1 T (L.map cB) v s) (hL:L.length≤6000000) {n r:Env→Store→Prop} {x:Nat→Env→Store→Prop}
 (hr:∀ v' s',Store.sub T s'→Own 1 T ((L++(if a.hm then oneA 128 4 (b4 a.med) else [])++(if a.hp then oneA 64 5 (b4 a.prf) else [])++(if a.atm then oneA 64 6 [] else [])++(if a.cms=[] then [] else oneA 192 8 (encW a.cms))).map cB) v' s'→r [(2,v')] s'):bwp Tryz.prog Tsj.t87_21 [(1,.ptr i 0),(3,v)] s n r x:=by
 simp only [Tsj.t87_21]
 have hi:=hs _ _ hTi
 cases g:a.hm
 ·simp only [hi,boxC,g,↓vcPre,↓z0,↓reduceIte,vcPost,vcStd,Nat.reduceEqDiff,reduceCtorEq,Nat.reduceAdd,Nat.reduceLeDiff,Int.reduceLT,Int.reduceLE,↓u_setN]
  refine z10 a h8 hTi hs h (by omega) fun v' s' hs' ho' => ?_
  have:=hr v' s' hs'
  rw [g] at this
  exact this (by simpa using ho')
 ·have hTi4:=(hs) _ _ hTi
  simp only [hTi4,boxC,g,↓vcPre,↓z0,↓reduceIte,vcPost,vcStd,Nat.reduceEqDiff,reduceCtorEq,Nat.reduceAdd,Nat.reduceLeDiff,Int.reduceLT,Int.reduceLE,↓u_setN]
  refine (s94 (s:=s) (L:=[]) Rd.nils (by simp) a.med).Q ?_
  rintro r s' ⟨k1,k2⟩
  rw [List.nil_append] at k2
  obtain ⟨τ',q1,q2,q3,q4⟩:=Own.addG h (hs) k1 k2
  simp only [↓vcPre,↓z0,↓reduceIte,vcPost,vcStd,Nat.reduceEqDiff,reduceCtorEq,Nat.reduceAdd,Nat.reduceLeDiff,Int.reduceLT,Int.reduceLE,↓u_setN]
  refine (z0e q2 q3 q4 (by omega) (by rw [yv];omega) 128 4 (by decide) (by decide)).Q ?_
  rintro r s1 ⟨h1,k3⟩
  have h1:=Store.sub_trans q1 h1
  have k3:=Own.weak k3 q1
  simp only [↓vcPre,↓z0,↓reduceIte,vcPost,vcStd,Nat.reduceEqDiff,reduceCtorEq,Nat.reduceAdd,Nat.reduceLeDiff,Int.reduceLT,Int.reduceLE,↓u_setN]
  refine z10 a h8 hTi h1 k3 (by have:=va 128 4 (b4 a.med) L;rw [yv] at this;omega) fun v' s' hs' ho' => ?_
  have:=hr v' s' hs'
  rw [g] at this
  exact this ho'
def encOk (a:At):Prop:=a.path.length≤1000∧(∀ s ∈ a.path,s.ls.length≤1000)∧a.cms.length≤1000
theorem z3i:∀ (m:List Seg),(∀ s ∈ m,s.ls.length≤1000)→(encPath m).length≤4002*m.length:=by
 intro m
 induction m with
 | nil=>intro _;simp [encPath]
 | cons s r ih =>
   intro h
   have h1:=ih fun x hx=>h x (by simp [hx])
   have h2:=h s (by simp)
   have h3:=yi s.ls
   simp only [encPath,List.flatMap_cons,List.length_append,encSeg,List.length_cons,List.length_nil] at *
   omega
theorem s87 (a:At) (ha:encOk a) (σ:Store):ACalls Tryz.prog 87 [.agg a.c] σ (fun r s=>Store.sub σ s∧Own 1 σ ((encA a).map cB) r s):=by
 refine zk Tsj.F87 (by simp [Tsj.F87,Fn.mkX]) ?_
 simp only [Tsj.F87,Fn.mkX,Tsj.b87]
 have e9:∀ x:At,x.c.length=9:=fun _=>rfl
 obtain ⟨a1,a2,a3⟩:=ha
 have hpl:=z3i a.path a2
 simp only [↓vcPre,↓z0,↓reduceIte,vcPost,vcStd,Nat.reduceEqDiff,reduceCtorEq,Nat.reduceAdd,Nat.reduceLeDiff,Int.reduceLT,Int.reduceLE,↓u_setN]
 refine AllocQ.i0 fun i hi => ?_
 have hsb:=Store.sub_set σ i (.box a.c) hi
 have hTi:(σ.set i (.box a.c)) i=some (boxC a):=Store.set_same _ _ _
 change bops _ _ _ (σ.set i (.box a.c)) _
 generalize σ.set i (.box a.c)=T at hsb hTi ⊢
 simp only [hTi,boxC,↓vcPre,↓z0,↓reduceIte,vcPost,vcStd,Nat.reduceEqDiff,reduceCtorEq,Nat.reduceAdd,Nat.reduceLeDiff,Int.reduceLT,Int.reduceLE,↓u_setN]
 refine AllocQ.i0 fun b hb => ?_
 simp only [↓vcPre,↓z0,↓reduceIte,vcPost,vcStd,Nat.reduceEqDiff,reduceCtorEq,Nat.reduceAdd,Nat.reduceLeDiff,Int.reduceLT,Int.reduceLE,↓u_setN]
 have hTb:=Store.sub_set T b (.arr 1 [cB (IntKind.u8.wrap a.org)]) hb
 refine (z0e (τ:=T.set b (.arr 1 [cB (IntKind.u8.wrap a.org)])) (L:=[]) (M:=[IntKind.u8.wrap a.org]) (Store.sub_refl _) Own.nil (Rd.os (Store.set_same _ _ _)) (by simp) (by simp) 64 1 (by decide) (by decide)).Q ?_
 rintro r s1 ⟨h1,m1⟩
 have h1:=Store.sub_trans hTb h1
 have m1:=Own.weak m1 hTb
 have l1:=va 64 1 [IntKind.u8.wrap a.org] []
 simp only [List.length_nil,List.length_cons] at l1
 simp only [h1 _ _ hTi,boxC,↓vcPre,↓z0,↓reduceIte,vcPost,vcStd,Nat.reduceEqDiff,reduceCtorEq,Nat.reduceAdd,Nat.reduceLeDiff,Int.reduceLT,Int.reduceLE,↓u_setN]
 refine (zfq a.path (by omega) a2).Q ?_
 simp only [↓vcPre,↓z0,↓reduceIte,vcPost,vcStd,Nat.reduceEqDiff,reduceCtorEq,Nat.reduceAdd,Nat.reduceLeDiff,Int.reduceLT,Int.reduceLE,↓u_setN]
 refine (z0e h1 m1 (Rd.sl (L:=(encPath a.path).map cB)) (by omega) (by omega) 64 2 (by decide) (by decide)).Q ?_
 rintro r s2 ⟨h2,m2⟩
 have l2:=va 64 2 (encPath a.path) ([]++oneA 64 1 [IntKind.u8.wrap a.org])
 simp only [↓vcPre,↓z0,↓reduceIte,vcPost,vcStd,Nat.reduceEqDiff,reduceCtorEq,Nat.reduceAdd,Nat.reduceLeDiff,Int.reduceLT,Int.reduceLE,↓u_setN]
 have hTi3:=(h2) _ _ hTi
 simp only [hTi3,boxC,e9,↓vcPre,↓z0,↓reduceIte,vcPost,vcStd,Nat.reduceEqDiff,reduceCtorEq,Nat.reduceAdd,Nat.reduceLeDiff,Int.reduceLT,Int.reduceLE,↓u_setN]
 refine (s94 (s:=s2) (L:=[]) Rd.nils (by simp) a.nxt).Q ?_
 rintro r s' ⟨k1,k2⟩
 rw [List.nil_append] at k2
 obtain ⟨τ',q1,q2,q3,q4⟩:=Own.addG m2 (h2) k1 k2
 simp only [↓vcPre,↓z0,↓reduceIte,vcPost,vcStd,Nat.reduceEqDiff,reduceCtorEq,Nat.reduceAdd,Nat.reduceLeDiff,Int.reduceLT,Int.reduceLE,↓u_setN]
 refine (z0e q2 q3 q4 (by omega) (by rw [yv];omega) 64 3 (by decide) (by decide)).Q ?_
 rintro r s3 ⟨h1,k3⟩
 have h1:=Store.sub_trans q1 h1
 have k3:=Own.weak k3 q1
 have l3:=va 64 3 (b4 a.nxt) ([]++oneA 64 1 [IntKind.u8.wrap a.org]++oneA 64 2 (encPath a.path))
 rw [yv] at l3
 simp only [↓vcPre,↓z0,↓reduceIte,vcPost,vcStd,Nat.reduceEqDiff,reduceCtorEq,Nat.reduceAdd,Nat.reduceLeDiff,Int.reduceLT,Int.reduceLE,↓u_setN]
 refine z5a a (by omega) hTi h1 k3 (by omega) fun v' s' hs' ho' => ?_
 refine EndQ.to s' _ rfl (Store.sub_refl _) ⟨Store.sub_trans hsb hs',?_⟩
 have:=ho'.weak hsb
 simpa [encA,u8w] using this
end Go.Am
namespace Go.Am
open Go.Proofs Go.Sort
def nextF (a:Int):Int:=bitInt .or .u32 3221225984 (Int.tmod a 6)
theorem z7u {a:Int} (h:0≤a):nextF a=3221225984+a % 6:=by
 unfold nextF
 rw [Int.tmod_eq_emod_of_nonneg h]
 have:a % 6=0∨a % 6=1∨a % 6=2∨a % 6=3∨a % 6=4∨a % 6=5:=by omega
 rcases this with h | h | h | h | h | h <;> rw [h] <;> decide
theorem c39 (a:Int):Pur Tryz.prog 39 [.int .u32 a] (.int .u32 (nextF a)):=by
 refine zn Tst.F39 (by simp [Tst.F39,Fn.mkX]) fun σ => ?_
 simp only [Tst.F39,Fn.mkX,Tst.b39]
 simp only [↓vcPre,↓z0,↓reduceIte,vcPost,vcStd,Nat.reduceEqDiff,reduceCtorEq,Nat.reduceAdd,Nat.reduceLeDiff,Int.reduceLT,Int.reduceLE,↓u_setN]
 exact ⟨by omega,rfl⟩
end Go.Am
namespace Go.Am
theorem Sim.obj {G:Gh} {σ:Store} {w:World} (hs:Sim G σ w) {p:Nat} {o o':Obj} (hp:σ p=some o) (h:∀ b base,G.ρ p=some (b,base)→ORel G w b base o→ORel G w b base o') :
 Sim G (σ.set p o') w∧Ext G σ w G (σ.set p o') w:=by
 have hset:∀ i oi,(σ.set p o') i=some oi→∃ oj,σ i=some oj:=fun i oi h=>by
  by_cases hi:i=p
  ·subst hi;exact ⟨o,hp⟩
  ·rw [Store.set_ne _ _ hi] at h;exact ⟨oi,h⟩
 refine ⟨{ lt:=hs.lt,fin:=hs.fin,blk:=hs.blk,used := ?_,inj := ?_,apart := ?_ },{ Ext.refl G σ w with newOwn := ?_,newId := ?_ }⟩
 ·intro i oi hi
  by_cases e:i=p
  ·subst e
   rw [Store.set_same] at hi;cases hi
   obtain ⟨c,bi,h2,h3⟩:=hs.used i _ hp
   exact ⟨c,bi,h2,h c bi h2 h3⟩
  ·rw [Store.set_ne _ _ e] at hi;exact hs.used i oi hi
 ·intro i j oi oj b bi bj h1 h2
  obtain ⟨a1,k1⟩:=hset i oi h1
  obtain ⟨a2,k2⟩:=hset j oj h2
  exact hs.inj i j a1 a2 b bi bj k1 k2
 ·intro i oi b bi h1
  obtain ⟨a1,k1⟩:=hset i oi h1
  exact hs.apart i a1 b bi k1
 ·rintro c ⟨i,oi,bi,h1,h2⟩
  obtain ⟨a1,k1⟩:=hset i oi h1
  exact .inl ⟨i,a1,bi,k1,h2⟩
 ·intro i oi h1;exact .inl (hset i oi h1)
theorem WeakE.frz {e:Env} {σ:Store} {Q:Env→Store→Prop} (t:Nat) {id esz off len:Nat} {es:List (List AV)} (ht:e.get t=some (.os id esz off len)) (hσ:σ id=some (.arr esz es)) (hle:off+len≤es.length)
 (h:WeakE ((t,.sl esz ((es.drop off).take len))::e) (σ.del id) Q):WeakE e σ Q:=fun G w vs hs hv=>by
 obtain ⟨x,hx,hr⟩:=hv t _ ht
 obtain ⟨G',h1,h2,h3⟩:=xr hs hσ hle hr
 obtain ⟨G2,e2,σ2,g1,g2,g3,g4⟩:=h G' w vs h2 (fun u v hu=>by
  simp only [Env.get] at hu
  split at hu
  ·rename_i he;subst he;cases hu;exact ⟨x,hx,h3⟩
  ·obtain ⟨y,hy,hyr⟩:=hv u v hu;exact ⟨y,hy,h1.vrel hs hyr⟩)
 exact ⟨G2,e2,σ2,h1.trans g1,g2,g3,g4⟩
theorem WeakE.pure {e:Env} {σ:Store} {Q:Env→Store→Prop} (h:Q e σ):WeakE e σ Q:=fun G w vs hs hv=>⟨G,e,σ,Ext.refl _ _ _,hs,hv,h⟩
theorem WeakE.forget {e:Env} {σ σ':Store} {Q:Env→Store→Prop} (hsub:Store.sub σ' σ) (h:WeakE e σ' Q):WeakE e σ Q:=fun G w vs hs hv=>by
 obtain ⟨G',a',σ'',h1,h2,h3,h4⟩:=h G w vs (hs.sub hsub) hv
 exact ⟨G',a',σ'',((Ext.refl G σ w).sub hsub).trans h1,h2,h3,h4⟩
theorem WeakE.slot {e:Env} {σ:Store} {Q:Env→Store→Prop} (t:Nat) {a b:AV} (ht:e.get t=some a) (hab:∀ G w v,VRel G w a v→VRel G w b v) (h:WeakE ((t,b)::e) σ Q):WeakE e σ Q:=fun G w vs hs hv=>by
 obtain ⟨x,hx,hr⟩:=hv t _ ht
 exact h G w vs hs (fun u v hu=>by
  simp only [Env.get] at hu
  split at hu
  ·rename_i he;subst he;cases hu;exact ⟨x,hx,hab _ _ _ hr⟩
  ·exact hv u v hu)
theorem qn (esz:Nat) (G:Gh) (w:World) (v:Value) (h:VRel G w .nils v):VRel G w (.sl esz []) v:=by
 have e:=h.of_nils;subst e;exact .sl0
theorem WeakE.nil {e:Env} {σ:Store} {Q:Env→Store→Prop} (t esz:Nat) (ht:e.get t=some .nils) (h:WeakE ((t,.sl esz [])::e) σ Q):WeakE e σ Q := .slot t ht (fun G w v h=>qn esz G w v h) h
theorem WeakE.own {e:Env} {τ σ:Store} {Q:Env→Store→Prop} (t:Nat) {esz:Nat} {L:List (List AV)} {v:AV} (ht:e.get t=some v) (ho:Own esz τ L v σ) (hs:Store.sub τ σ)
 (h:∀ σ',Store.sub τ σ'→Store.sub σ' σ→(∀ i o,σ i=some o→(∀ n,v ≠ .os i esz 0 n)→σ' i=some o)→WeakE ((t,.sl esz L)::e) σ' Q):WeakE e σ Q:=by
 rcases ho with ⟨rfl,rfl⟩ | ⟨g,rfl,h2,h3⟩
 ·exact .nil t esz ht (h σ hs (Store.sub_refl _) fun _ _ h _=>h)
 ·refine .frz t ht h3 (by omega) ?_
  rw [List.drop_zero,List.take_length]
  refine h _ (sub_del hs h2) (fun j o hj => ?_) fun i o hi hn => ?_
  ·simp only [Store.del] at hj;split at hj
   ·cases hj
   ·exact hj
  ·rw [Store.del_ne _ (fun e=>hn _ (by rw [e]))];exact hi
theorem WeakE.frzBox {e:Env} {σ:Store} {Q:Env→Store→Prop} (p k:Nat) {id esz off len:Nat} {es:List (List AV)} {cs:List AV} (hp:σ p=some (.box cs)) (hk:cs[k]? = some (.os id esz off len)) (hσ:σ id=some (.arr esz es)) (hle:off+len≤es.length)
 (h:WeakE e ((σ.del id).set p (.box (cs.set k (.sl esz ((es.drop off).take len))))) Q):WeakE e σ Q:=fun G w vs hs hv=>by
 have hne:¬ p=id:=fun e=>by subst e;rw [hp] at hσ;cases hσ
 obtain ⟨b,base,hb,ho⟩:=hs.used p _ hp
 obtain ⟨hk',hk2⟩:=List.getElem?_eq_some_iff.1 hk
 cases ho with
 | box hh hsz hf hvv =>
   rename_i ccs ty
   have h0:=hvv k hk'
   rw [hk2] at h0
   obtain ⟨G',h1,h2,h3⟩:=xr hs hσ hle h0
   have hp':(σ.del id) p=some (.box cs):=by rw [Store.del_ne _ hne];exact hp
   obtain ⟨h4,h5⟩:=h2.obj (o' := .box (cs.set k (.sl esz ((es.drop off).take len)))) hp' (fun b' base' hb' ho'=>by
    have e1:=h1.ρ _ _ hb
    rw [hb'] at e1;cases e1
    refine .box hh (by rw [List.length_set];exact hsz) (fun c hc => ?_) (fun i hi => ?_)
    ·rcases List.mem_or_eq_of_mem_set hc with hc | rfl
     ·exact hf c hc
     ·rfl
    ·by_cases hik:i=k
     ·subst hik;rw [List.getElem_set_self];exact h3
     ·rw [List.getElem_set_ne (fun e=>hik e.symm)]
      exact h1.vrel hs (hvv i (by simpa using hi)))
   have hx:=h1.trans h5
   obtain ⟨G2,e2,σ2,g1,g2,g3,g4⟩:=h G' w vs h4 (fun u v hu=>by
    obtain ⟨y,hy,hyr⟩:=hv u v hu;exact ⟨y,hy,h1.vrel hs hyr⟩)
   exact ⟨G2,e2,σ2,hx.trans g1,g2,g3,g4⟩
theorem WeakE.cell {e:Env} {σ:Store} {Q:Env→Store→Prop} (p k:Nat) {a b:AV} {cs:List AV} (hp:σ p=some (.box cs)) (hk:cs[k]? = some a) (hab:∀ G w v,VRel G w a v→VRel G w b v) (hbf:b.flat=true)
 (h:WeakE e (σ.set p (.box (cs.set k b))) Q):WeakE e σ Q:=fun G w vs hs hv=>by
 obtain ⟨hk',hk2⟩:=List.getElem?_eq_some_iff.1 hk
 obtain ⟨h4,h5⟩:=hs.obj (o' := .box (cs.set k b)) hp (fun b' base' hb' ho'=>by
  cases ho' with
  | box hh hsz hf hvv =>
    refine .box hh (by rw [List.length_set];exact hsz) (fun c hc => ?_) (fun i hi => ?_)
    ·rcases List.mem_or_eq_of_mem_set hc with hc | rfl
     ·exact hf c hc
     ·exact hbf
    ·by_cases hik:i=k
     ·subst hik;rw [List.getElem_set_self];have:=hvv i hk';rw [hk2] at this;exact hab _ _ _ this
     ·rw [List.getElem_set_ne (fun e=>hik e.symm)]
      exact hvv i (by simpa using hi))
 obtain ⟨G2,e2,σ2,g1,g2,g3,g4⟩:=h G w vs h4 hv
 exact ⟨G2,e2,σ2,h5.trans g1,g2,g3,g4⟩
theorem EndQ.weak {slots:List RS} {Q:AV→Store→Prop} {e:Env} {τ:Store} (a:AV) (h1:e.res τ slots=some a) (h:Weak a τ Q) : @EndQ e τ ⟨slots,Q⟩:=by
 unfold EndQ;exact ⟨a,h1,h⟩
end Go.Am
namespace Go.Am
theorem WeakE.boxImp {e:Env} {σ:Store} {Q:Env→Store→Prop} (p:Nat) {cs cs':List AV} (hp:σ p=some (.box cs)) (hi:ImpL cs cs') (h:WeakE e (σ.set p (.box cs')) Q):WeakE e σ Q:=fun G w vs hs hv=>by
 have hl:=hi.length
 obtain ⟨h4,h5⟩:=hs.obj (o' := .box cs') hp (fun b' base' hb' ho'=>by
  cases ho' with
  | box hh hsz hf hvv =>
    refine .box hh (by rw [←hl];exact hsz) (fun c hc=>hi.flat c hc) (fun i hx => ?_)
    have hi':i<cs.length:=by rw [hl];exact hx
    obtain ⟨b,hb,hr⟩:=hi.get i _ (List.getElem?_eq_getElem hi')
    rw [List.getElem?_eq_getElem hx] at hb;cases hb
    exact hr.2 _ _ _ (hvv i hi'))
 obtain ⟨G2,e2,σ2,g1,g2,g3,g4⟩:=h G w vs h4 hv
 exact ⟨G2,e2,σ2,h5.trans g1,g2,g3,g4⟩
theorem WeakE.ownBox {e:Env} {τ σ:Store} {Q:Env→Store→Prop} (p k:Nat) {esz:Nat} {L:List (List AV)} {v:AV} {cs:List AV} (hp:σ p=some (.box cs)) (hk:cs[k]? = some v) (ho:Own esz τ L v σ) (hs:Store.sub τ σ) (hτ:τ p=none)
 (h:∀ σ',Store.sub τ σ'→σ' p=some (.box (cs.set k (.sl esz L)))→(∀ i o,σ i=some o→i≠p→(∀ n,v ≠ .os i esz 0 n)→σ' i=some o)→WeakE e σ' Q):WeakE e σ Q:=by
 rcases ho with ⟨rfl,rfl⟩ | ⟨g,rfl,h2,h3⟩
 ·exact .cell p k hp hk (fun G w v h=>qn esz G w v h) rfl (h _ (za hs hτ) (Store.set_same _ _ _) fun i o hi hn _=>by rw [Store.set_ne _ _ hn];exact hi)
 ·refine .frzBox p k hp hk h3 (by omega) ?_
  rw [List.drop_zero,List.take_length]
  refine h _ (za (sub_del hs h2) hτ) (Store.set_same _ _ _) fun i o hi hn hv => ?_
  rw [Store.set_ne _ _ hn,Store.del_ne _ (fun e=>hv _ (by rw [e]))];exact hi
theorem WeakE.mono {e:Env} {σ:Store} {Q Q':Env→Store→Prop} (h:WeakE e σ Q) (hq:∀ e s,Q e s→Q' e s):WeakE e σ Q':=fun G w vs hs hv=>by
 obtain ⟨G',e',s',h1,h2,h3,h4⟩:=h G w vs hs hv
 exact ⟨G',e',s',h1,h2,h3,hq _ _ h4⟩
end Go.Am
namespace Go.Am.Ts16
open Go.Proofs Go.Am.B
def t14_98:BC := .seq (.wk 19 (.ops [⟨some 98,none,.load (.ld 9 true),[.t 5]⟩,s 9 4 98] [4])) .ret
def t14_8:BC := .seq (.seq (.wk 12 (.ops [j 8 0] [2,4,5,8])) (.block 2 (.loop [2,4,5,8] (.seq (z [m 66 8,f 67 8 2,l 68 1 67,u 69 .len 68,b 70 .lss 66 69,m 71 70,⟨some 72,some (71,true),.pure (.mov),[.t 8]⟩,⟨some 73,some (71,true),.pure (.bin .lss),[.t 72,.c (.int .i64 2)]⟩,⟨some 74,none,.pick,[.t 71,.t 73,.c (.bool false)]⟩] [2,4,5,8,74] (.cond (.t 74) .skip (.exit 2))) (.seq (.block 3 (z [f 77 8 2,l 78 1 77,m 79 8,x 80 1 78 79,l 81 1 80,p 82 (.bin .rem) [.t 81,.c (.int .u32 5)],m 9 82] [2,4,5,8,9] (.seq (z [m 83 9,p 84 (.bin .eql) [.t 83,.c (.int .u32 4)]] [2,4,5,8,9,84] (.cond (.t 84) (.ops [f 85 8 2,l 86 1 85,m 87 8,x 88 1 86 87,l 89 1 88,p 90 (.bin .rem) [.t 89,.c (.int .u32 3)],p 91 (.bin .add) [.c (.int .u32 4294967040),.t 90],m 9 91] [2,4,5,8,9]) .skip)) (.ops [f 92 8 5,l 93 1 92,m 94 9,p 95 (.bin .add) [.t 94,.c (.int .u32 1)],g 96 40 [.t 93,.t 95],f 97 8 5,s 1 97 96] [2,4,5,8])))) (.ops [m 75 8,c 76 .add 75 1,m 8 76] [2,4,5,8])))))) t14_98
def t14_63:BC := .seq (.wk 11 (.ops [⟨some 63,none,.load (.ld 2 true),[.t 6]⟩,⟨some 64,none,.alloc (.mksl 2 1),[.t 63]⟩,f 65 1 5,s 1 65 64] [2,4,5])) t14_8
def t14_34:BC:=z [m 34 1,⟨some 35,none,.alloc (.mksl 1 1),[.t 34]⟩,p 36 (.build [(.int .i64 0),.nils] [(0,1),(1,1)]) [.c (.int .i64 2),.t 35],⟨some 6,none,.alloc (.alloc [(.int .i64 0),.nils]),[]⟩,s 2 6 36] [2,4,5,6] (.seq (z [j 7 0] [2,4,5,6,7] (.block 0 (.loop [2,4,5,6,7] (.seq (z [m 37 7,f 38 1 2,l 39 1 38,u 40 .len 39,b 41 .lss 37 40,m 42 41,⟨some 43,some (42,true),.pure (.mov),[.t 7]⟩,⟨some 44,some (42,true),.pure (.bin .lss),[.t 43,.c (.int .i64 2)]⟩,⟨some 45,none,.pick,[.t 42,.t 44,.c (.bool false)]⟩] [2,4,5,6,7,45] (.cond (.t 45) .skip (.exit 0))) (.seq (.block 1 (.ops [f 48 1 6,f 50 1 2,m 52 7,l 49 1 48,l 51 1 50,x 53 2 51 52,f 54 1 53,l 55 1 54,u 56 .len 55,c 57 .rem 56 4,u 58 (.conv .u32) 57,p 59 (.bin .add) [.c (.int .u32 64500),.t 58],⟨some 60,none,.alloc (.mksl 1 1),[.t 59]⟩,⟨some 61,none,.loud (.app 1 4),[.t 49,.t 60]⟩,f 62 1 6,s 1 62 61] [2,4,5,6,7])) (.ops [m 46 7,c 47 .add 46 1,m 7 47] [2,4,5,6,7])))))) t14_63)
def t14_27:BC := .seq (z [f 27 5 2,l 28 1 27] [1,2,4,5,28] (.cond (.t 28) (.ops [f 29 6 2,l 30 1 29,p 31 (.bin .rem) [.t 30,.c (.int .u32 3)],p 32 (.bin .add) [.c (.int .u32 100),.t 31],f 33 6 5,s 1 33 32] [1,2,4,5]) .skip)) t14_34
def b14:BC:=z [⟨some 2,none,.alloc (.box),[.t 0]⟩,⟨some 4,none,.alloc (.alloc [(.int .i64 0),.nils,(.int .u32 0),(.bool false),(.int .u32 0),(.bool false),(.int .u32 0),(.bool false),.nils]),[]⟩] [1,2,4] (z [f 10 0 2,f 13 2 2,f 16 3 2,f 18 5 2,l 11 1 10,l 14 1 13,l 17 1 16,l 19 1 18,⟨some 12,none,.qcall 22,[.t 11,.c (.int .i64 0),.c (.int .i64 2)]⟩,⟨some 15,none,.qcall 39,[.t 14]⟩,p 20 (.build [(.int .i64 0),.nils,(.int .u32 0),(.bool false),(.int .u32 0),(.bool false),(.int .u32 0),(.bool false),.nils] [(0,1),(2,1),(3,1),(5,1)]) [.t 12,.t 15,.t 17,.t 19],⟨some 5,none,.alloc (.alloc [(.int .i64 0),.nils,(.int .u32 0),(.bool false),(.int .u32 0),(.bool false),(.int .u32 0),(.bool false),.nils]),[]⟩,s 9 5 20] [1,2,4,5] (.seq (z [f 21 3 2,l 22 1 21] [1,2,4,5,22] (.cond (.t 22) (.ops [f 23 4 2,l 24 1 23,p 25 (.bin .rem) [.t 24,.c (.int .u32 3)],f 26 4 5,s 1 26 25] [1,2,4,5]) .skip)) t14_27))
def F14:Fn Tryz.prog 14:=Fn.mkW false [11,12,19] b14 [.c 4 9 true] 99 Tryz.f14 _ Tryz.func14 (by decide) rfl Tryz.ntmps14 (by kernel_rfl) (by kernel_rfl)
end Go.Am.Ts16
namespace Go.Am
open Go.Proofs Go.Sort
def prefixF (a n:Int):Int×Int:=ofF (bitInt .or .u32 167772160 (shlInt .u32 (Int.tmod a 64) 18)) (8+n % 7)
theorem c19 (a n:Int) (h:I64 n):Pur Tryz.prog 19 [.int .u32 a,.int .i64 n] (.agg [.int .u32 (prefixF a n).1,.int .i64 (prefixF a n).2]):=by
 refine zn Tst.F19 (by simp [Tst.F19,Fn.mkX]) fun σ => ?_
 simp only [Tst.F19,Fn.mkX,Tst.b19]
 simp only [↓vcPre,↓z0,↓reduceIte,vcPost,vcStd,Nat.reduceEqDiff,reduceCtorEq,Nat.reduceAdd,Nat.reduceLeDiff,Int.reduceLT,Int.reduceLE,↓u_setN]
 refine AllocQ.i0 fun i hi => ?_
 simp only [↓vcPre,↓z0,↓reduceIte,vcPost,vcStd,Nat.reduceEqDiff,reduceCtorEq,Nat.reduceAdd,Nat.reduceLeDiff,Int.reduceLT,Int.reduceLE,↓u_setN]
 have hw:=c22 n 0 6 h (by omega) (by omega) (by omega)
 have e:(0:Int)+n % (6 - 0+1)=n % 7:=by omega
 rw [e] at hw
 have h7:=Int.emod_nonneg n (b:=7) (by omega)
 have h8:=Int.emod_lt_of_pos n (b:=7) (by omega)
 have w1:IntKind.i64.wrap (8+n % 7)=8+n % 7:=zd (by unfold I64;omega)
 refine ⟨by decide,hw.Q ?_⟩
 simp only [w1,↓vcPre,↓z0,↓reduceIte,vcPost,vcStd,Nat.reduceEqDiff,reduceCtorEq,Nat.reduceAdd,Nat.reduceLeDiff,Int.reduceLT,Int.reduceLE,↓u_setN]
 refine (c45 _ _ (by unfold I64;omega)).Q ?_
 simp only [↓vcPre,↓z0,↓reduceIte,vcPost,vcStd,Nat.reduceEqDiff,reduceCtorEq,Nat.reduceAdd,Nat.reduceLeDiff,Int.reduceLT,Int.reduceLE,↓u_setN]
 exact ⟨⟨rfl,rfl⟩,za (Store.sub_set σ i _ hi) hi⟩
theorem Own.split {esz:Nat} {τ s:Store} {L:List (List AV)} {v:AV} (hsub:Store.sub τ s) (ho:Own esz τ L v s):∃ τ0,Store.sub τ τ0∧Store.sub τ0 s∧(∀ j o,s j=some o→(∀ M,o ≠ .arr esz M)→τ0 j=some o)∧Own esz τ0 L v s:=by
 rcases ho with ⟨hk,hv⟩ | ⟨g,hv,hg,hs⟩
 ·exact ⟨s,hsub,Store.sub_refl _,fun _ _ h _=>h,.inl ⟨hk,hv⟩⟩
 ·exact ⟨s.del g,sub_del hsub hg,z0g _ _,fun j o hj hn=>by rw [Store.del_ne _ (fun e=>by rw [e,hs] at hj;cases hj;exact hn _ rfl)];exact hj,.inr ⟨g,hv,by simp,hs⟩⟩
theorem Own.appP {esz bytes:Nat} {τ s:Store} {L ys:List (List AV)} {v wv:AV} {K:AV→Store→Prop} (hsub:Store.sub τ s) (ho:Own esz τ L v s) (hw:slc s esz wv=some ys) (hsz:(L.length+ys.length)*bytes≤140737488355328)
 (h:∀ v' s',Store.sub τ s'→Own esz τ (L++ys) v' s'→(∀ j o,s j=some o→(∀ M,o ≠ .arr esz M)→s' j=some o)→K v' s'):appwp esz bytes v wv s K:=by
 obtain ⟨τ0,q1,q2,q3,q4⟩:=Own.split hsub ho
 refine Own.appM (τ:=τ0) q2 q4 hw hsz fun v' s' hs' ho' => ?_
 exact h v' s' (Store.sub_trans q1 hs') (ho'.weak q1) fun j o hj hn=>hs' _ _ (q3 j o hj hn)
theorem yk:[AV.int .i64 0,.nils,.int .u32 0,.bool false,.int .u32 0,.bool false,.int .u32 0,.bool false,.nils]=zCells:=rfl
def segN (s:Seg):Int:=IntKind.u32.wrap (64500+IntKind.u32.wrap (Int.tmod (s.ls.length:Int) 4))
def tcm (x:Int):Int:=IntKind.u32.wrap ((if Int.tmod x 5=4 then IntKind.u32.wrap (4294967040+Int.tmod x 3) else Int.tmod x 5)+1)
def tameC (l:List Int):List Int:=l.foldl (fun c x=>putL c (tcm x)) []
def tameA (a:At) (as1:Int):At:=⟨a.org % 3,[⟨2,as1::(a.path.take 2).map segN⟩],nextF a.nxt,a.hm,if a.hm then Int.tmod a.med 3 else 0,a.hp,if a.hp then IntKind.u32.wrap (100+Int.tmod a.prf 3) else 0,false,tameC (a.cms.take 2)⟩
section
variable {a:At} {as1:Int} {σ:Store} {n rr:Env→Store→Prop} {xx:Nat→Env→Store→Prop}
def tCells (a:At) (m p:Int) (pv cv:AV):List AV:=[.int .i64 (a.org % 3),pv,.int .u32 (nextF a.nxt),.bool a.hm,.int .u32 m,.bool a.hp,.int .u32 p,.bool false,cv]
theorem z8e {T:Store} {p4 p5:Nat} (ha:tameA a as1=⟨a.org % 3,(tameA a as1).path,nextF a.nxt,a.hm,(tameA a as1).med,a.hp,(tameA a as1).prf,false,(tameA a as1).cms⟩) {w:AV} {zc:List AV} (hz:zc.length=9) (h45:¬ p4=p5) (T4:T p4=some (.box zc)) (T5:T p5=some (.box (tCells a (tameA a as1).med (tameA a as1).prf (.sl 2 ((tameA a as1).path.map Seg.c)) w)))
 (ho:Own 1 σ ((tameA a as1).cms.map cU) w T) (hs:Store.sub σ T) (h4:σ p4=none) (h5:σ p5=none) (E:List (Nat×AV)) (v2:AV)
 (hr:∀ t',Store.sub σ t'→t' p4=some (.box (tameA a as1).c)→rr [(4,.ptr p4 0)] t'):bwp Tryz.prog Ts16.t14_98 ((2,v2)::(4,.ptr p4 0)::(5,.ptr p5 0)::E) T n rr xx:=by
 simp only [Ts16.t14_98]
 simp only [↓vcPre,↓z0,↓reduceIte,vcPost,vcStd,Nat.reduceEqDiff,reduceCtorEq,Nat.reduceAdd,Nat.reduceLeDiff,Int.reduceLT,Int.reduceLE,↓u_setN]
 refine WkQ.of (WeakE.ownBox (τ:=σ) p5 8 T5 rfl ho hs h5 fun U hU U5 hk=>WeakE.pure ?_)
 have U4:=hk p4 _ T4 h45 (fun m e=>by
  rcases ho with ⟨_,e2⟩ | ⟨g,e2,_,h3⟩
  ·rw [e2] at e;cases e
  ·rw [e2] at e;cases e;rw [T4] at h3;cases h3)
 have U5':U p5=some (.box (tameA a as1).c):=by rw [U5];rfl
 have e9:(tameA a as1).c.length=9:=rfl
 have t9:List.take 9 (tameA a as1).c=(tameA a as1).c:=rfl
 simp only [U5',U4,e9,t9,Nat.le_refl,↓vcPre,↓z0,↓reduceIte,vcPost,vcStd,Nat.reduceEqDiff,reduceCtorEq,Nat.reduceAdd,Nat.reduceLeDiff,Int.reduceLT,Int.reduceLE,↓u_setN]
 rw [x7 _ _ (by rw [hz];rfl),yf]
 exact hr _ (za hU h4) (Store.set_same _ _ _)
theorem z5b (l:List Int) (k:Nat) (h:k<l.length):tameC (l.take (k+1))=putL (tameC (l.take k)) (tcm l[k]):=by
 unfold tameC
 rw [vn _ _ h]
theorem z20 (l:List Int):(tameC l).length≤l.length:=by
 have:∀ (l:List Int) (b:List Int),(l.foldl (fun c x=>putL c (tcm x)) b).length≤b.length+l.length:=by
  intro l
  induction l with
  | nil=>intro b;simp
  | cons y r ih=>intro b;have h1:=ih (putL b (tcm y));have h2:=z0b b (tcm y);simp only [List.foldl_cons,List.length_cons];omega
 have:=this l []
 simpa [tameC] using this
set_option maxHeartbeats 1000000 in
theorem z9z {T:Store} {p2 p4 p5:Nat} (hac:True) {v5:AV} {zc:List AV} (hz:zc.length=9) (h45:¬ p4=p5) (h25:¬ p2=p5) (T2:T p2=some (.box a.c)) (T4:T p4=some (.box zc)) (T5:T p5=some (.box (tCells a (tameA a as1).med (tameA a as1).prf v5 .nils)))
 (hv:Own 2 σ ((tameA a as1).path.map Seg.c) v5 T) (hs:Store.sub σ T) (h2:σ p2=none) (h4:σ p4=none) (h5:σ p5=none) (E:List (Nat×AV))
 (hr:∀ t',Store.sub σ t'→t' p4=some (.box (tameA a as1).c)→rr [(4,.ptr p4 0)] t'):bwp Tryz.prog Ts16.t14_8 ((2,.ptr p2 0)::(4,.ptr p4 0)::(5,.ptr p5 0)::E) T n rr xx:=by
 simp only [Ts16.t14_8]
 have nb:∀ (q:Nat) (c:List AV),T q=some (.box c)→∀ m,v5 ≠ .os q 2 0 m:=fun q c h1 m e=>by
  rcases hv with ⟨_,e2⟩ | ⟨g,e2,_,h3⟩
  ·rw [e2] at e;cases e
  ·rw [e2] at e;cases e;rw [h1] at h3;cases h3
 simp only [↓vcPre,↓z0,↓reduceIte,vcPost,vcStd,Nat.reduceEqDiff,reduceCtorEq,Nat.reduceAdd,Nat.reduceLeDiff,Int.reduceLT,Int.reduceLE,↓u_setN]
 refine WkQ.of (WeakE.ownBox (τ:=σ) p5 1 T5 rfl hv hs h5 fun U hU U5 hk=>WeakE.pure ?_)
 have U2:=hk p2 _ T2 h25 (nb _ _ T2)
 have U4:=hk p4 _ T4 h45 (nb _ _ T4)
 have U5':U p5=some (.box (tCells a (tameA a as1).med (tameA a as1).prf (.sl 2 ((tameA a as1).path.map Seg.c)) .nils)):=by rw [U5];rfl
 have c8:∀ w:AV,List.take 1 (List.drop 8 (tCells a (tameA a as1).med (tameA a as1).prf (.sl 2 ((tameA a as1).path.map Seg.c)) w))=[w]:=fun _=>rfl
 have s8:∀ w w':AV,splice 8 [w'] (tCells a (tameA a as1).med (tameA a as1).prf (.sl 2 ((tameA a as1).path.map Seg.c)) w)=some (tCells a (tameA a as1).med (tameA a as1).prf (.sl 2 ((tameA a as1).path.map Seg.c)) w'):=fun _ _=>rfl
 have e9t:∀ w:AV,(tCells a (tameA a as1).med (tameA a as1).prf (.sl 2 ((tameA a as1).path.map Seg.c)) w).length=9:=fun _=>rfl
 have a8:List.take 1 (List.drop 8 a.c)=[.sl 1 (a.cms.map cU)]:=rfl
 have e9:a.c.length=9:=rfl
 simp only [↓vcPre,↓z0,↓reduceIte,vcPost,vcStd,Nat.reduceEqDiff,reduceCtorEq,Nat.reduceAdd,Nat.reduceLeDiff,Int.reduceLT,Int.reduceLE,↓u_setN]
 refine LoopQ.inv (S:=Nat×AV×Store) (fun q=>[(2,.ptr p2 0),(4,.ptr p4 0),(5,.ptr p5 0),(8,.int .i64 (q.1:Int))]) (fun q=>q.2.2)
  (fun q=>q.1≤a.cms.length∧q.1≤2∧Store.sub σ q.2.2∧q.2.2 p2=some (.box a.c)∧q.2.2 p4=some (.box zc)∧q.2.2 p5=some (.box (tCells a (tameA a as1).med (tameA a as1).prf (.sl 2 ((tameA a as1).path.map Seg.c)) q.2.1))∧Own 1 σ ((tameC (a.cms.take q.1)).map cU) q.2.1 q.2.2)
  (fun q=>3 - q.1) (0,.nils,U) rfl (Store.sub_refl _) ⟨by simp only;omega,by simp only;omega,hU,U2,U4,U5',Own.nil⟩ ?_
 rintro ⟨k,w,s⟩ ⟨hk1,hk2,i1,i2,i4,i5,i6⟩
 simp only at hk1 hk2 i1 i2 i4 i5 i6
 simp only [i2,a8,e9,↓vcPre,↓z0,↓reduceIte,vcPost,vcStd,Nat.reduceEqDiff,reduceCtorEq,Nat.reduceAdd,Nat.reduceLeDiff,Int.reduceLT,Int.reduceLE,↓u_setN]
 refine ⟨fun c1=>⟨fun c2 => ?_,fun c2 => ?_⟩,fun c1 => ?_⟩
 ·have ek:IntKind.i64.wrap ((k:Int)+1)=((k+1:Nat):Int):=by rw [zd (by unfold I64;omega)];omega
  refine ⟨c1,by simp [cU],?_⟩
  simp only [cU,i5,c8,e9t,↓vcPre,↓z0,↓reduceIte,vcPost,vcStd,Nat.reduceEqDiff,reduceCtorEq,Nat.reduceAdd,Nat.reduceLeDiff,Int.reduceLT,Int.reduceLE,↓u_setN]
  obtain ⟨τ0,q1,q2,q3,q4⟩:=Own.split i1 i6
  have hlen:=z20 (a.cms.take k)
  rw [List.length_take] at hlen
  have put:∀ y:Int,y=tcm a.cms[k]→ACalls Tryz.prog 40 [w,.int .u32 y] s (fun r s'=>Store.sub τ0 s'∧Own 1 τ0 ((tameC (a.cms.take (k+1))).map cU) r s'):=fun y hy=>by
   subst hy
   rw [z5b _ _ c1]
   exact s40 q2 _ _ (by omega) q4
  have done:∀ r s',Store.sub τ0 s'→Own 1 τ0 ((tameC (a.cms.take (k+1))).map cU) r s'→Store.sub σ (s'.set p5 (.box (tCells a (tameA a as1).med (tameA a as1).prf (.sl 2 ((tameA a as1).path.map Seg.c)) r)))∧(s'.set p5 (.box (tCells a (tameA a as1).med (tameA a as1).prf (.sl 2 ((tameA a as1).path.map Seg.c)) r))) p2=some (.box a.c)∧(s'.set p5 (.box (tCells a (tameA a as1).med (tameA a as1).prf (.sl 2 ((tameA a as1).path.map Seg.c)) r))) p4=some (.box zc)∧Own 1 σ ((tameC (a.cms.take (k+1))).map cU) r (s'.set p5 (.box (tCells a (tameA a as1).med (tameA a as1).prf (.sl 2 ((tameA a as1).path.map Seg.c)) r))):=fun r s' z1 z2=>by
   have z5:=z1 _ _ (q3 _ _ i5 (fun M e=>by cases e))
   exact ⟨za (Store.sub_trans q1 z1) h5,by rw [Store.set_ne _ _ h25];exact z1 _ _ (q3 _ _ i2 (fun M e=>by cases e)),by rw [Store.set_ne _ _ h45];exact z1 _ _ (q3 _ _ i4 (fun M e=>by cases e)),(z2.weak q1).setId z5 (fun M e=>by cases e)⟩
  have fin:∀ y:Int,y=tcm a.cms[k]→ACalls Tryz.prog 40 [w,.int .u32 y] s (fun r s'=>r.isTup=false∧r.cells=[r]∧s' p5=some (.box (tCells a (tameA a as1).med (tameA a as1).prf (.sl 2 ((tameA a as1).path.map Seg.c)) w))∧Store.sub τ0 s'∧Own 1 τ0 ((tameC (a.cms.take (k+1))).map cU) r s'):=fun y hy=>(put y hy).mono fun r s' ⟨z1,z2⟩=>⟨z2.cell.1,z2.cell.2,z1 _ _ (q3 _ _ i5 (fun M e=>by cases e)),z1,z2⟩
  refine ⟨by decide,fun g=>⟨c1,by decide,?_⟩,fun g => ?_⟩
  ·refine (fin _ (by unfold tcm;rw [if_pos g])).Q ?_
   rintro r s' ⟨f1,f2,f3,z1,z2⟩
   simp only [f1,f2,f3,s8,ek,↓vcPre,↓z0,↓reduceIte,vcPost,vcStd,Nat.reduceEqDiff,reduceCtorEq,Nat.reduceAdd,Nat.reduceLeDiff,Int.reduceLT,Int.reduceLE,↓u_setN]
   obtain ⟨d1,d2,d3,d4⟩:=done r s' z1 z2
   exact NextQ.to (k+1,r,_) rfl (Store.sub_refl _) (by simp only;omega) ⟨by simp only;omega,by simp only;omega,d1,d2,d3,Store.set_same _ _ _,d4⟩
  ·refine (fin _ (by unfold tcm;rw [if_neg g])).Q ?_
   rintro r s' ⟨f1,f2,f3,z1,z2⟩
   simp only [f1,f2,f3,s8,ek,↓vcPre,↓z0,↓reduceIte,vcPost,vcStd,Nat.reduceEqDiff,reduceCtorEq,Nat.reduceAdd,Nat.reduceLeDiff,Int.reduceLT,Int.reduceLE,↓u_setN]
   obtain ⟨d1,d2,d3,d4⟩:=done r s' z1 z2
   exact NextQ.to (k+1,r,_) rfl (Store.sub_refl _) (by simp only;omega) ⟨by simp only;omega,by simp only;omega,d1,d2,d3,Store.set_same _ _ _,d4⟩
 all_goals
  have e:a.cms.take k=a.cms.take 2:=by
   by_cases h:k=2
   ·rw [h]
   ·rw [List.take_of_length_le (by omega),List.take_of_length_le (by omega)]
  rw [e] at i6
  exact z8e (as1:=as1) rfl hz h45 i4 i5 i6 i1 h4 h5 _ _ hr
theorem z3b {T:Store} {p2 p4 p5 p6:Nat} {L:List Int} {v:AV} (hac:True) {zc:List AV} (hz:zc.length=9) (h45:¬ p4=p5) (h25:¬ p2=p5) (h26:¬ p2=p6) (h46:¬ p4=p6) (h56:¬ p5=p6) (T2:T p2=some (.box a.c)) (T4:T p4=some (.box zc)) (T5:T p5=some (.box (tCells a (tameA a as1).med (tameA a as1).prf .nils .nils)))
 (T6:T p6=some (.box [.int .i64 2,v])) (hL:(tameA a as1).path=[⟨2,L⟩]) (ho:Own 1 σ (L.map cU) v T) (hs:Store.sub σ T) (h2:σ p2=none) (h4:σ p4=none) (h5:σ p5=none) (h6:σ p6=none) (E:List (Nat×AV))
 (hr:∀ t',Store.sub σ t'→t' p4=some (.box (tameA a as1).c)→rr [(4,.ptr p4 0)] t'):bwp Tryz.prog Ts16.t14_63 ((2,.ptr p2 0)::(4,.ptr p4 0)::(5,.ptr p5 0)::(6,.ptr p6 0)::E) T n rr xx:=by
 simp only [Ts16.t14_63]
 have nb:∀ (q:Nat) (c:List AV),T q=some (.box c)→∀ m,v ≠ .os q 1 0 m:=fun q c h1 m e=>by
  rcases ho with ⟨_,e2⟩ | ⟨g,e2,_,h3⟩
  ·rw [e2] at e;cases e
  ·rw [e2] at e;cases e;rw [h1] at h3;cases h3
 simp only [↓vcPre,↓z0,↓reduceIte,vcPost,vcStd,Nat.reduceEqDiff,reduceCtorEq,Nat.reduceAdd,Nat.reduceLeDiff,Int.reduceLT,Int.reduceLE,↓u_setN]
 refine WkQ.of (WeakE.ownBox (τ:=σ) p6 1 T6 rfl ho hs h6 fun U hU U6 hk=>WeakE.pure ?_)
 have U2:=hk p2 _ T2 h26 (nb _ _ T2)
 have U4:=hk p4 _ T4 h46 (nb _ _ T4)
 have U5:=hk p5 _ T5 h56 (nb _ _ T5)
 have U6':U p6=some (.box [.int .i64 2,.sl 1 (L.map cU)]):=U6
 simp only [U6',↓vcPre,↓z0,↓reduceIte,vcPost,vcStd,Nat.reduceEqDiff,reduceCtorEq,Nat.reduceAdd,Nat.reduceLeDiff,Int.reduceLT,Int.reduceLE,↓u_setN]
 refine AllocQ.i0 fun d hd => ?_
 have h5d:¬ p5=d:=fun e=>by subst e;rw [U5] at hd;cases hd
 have hd5:¬ d=p5:=fun e=>h5d e.symm
 have h2d:¬ p2=d:=fun e=>by subst e;rw [U2] at hd;cases hd
 have h4d:¬ p4=d:=fun e=>by subst e;rw [U4] at hd;cases hd
 have sp1:splice 1 [.os d 2 0 1] (tCells a (tameA a as1).med (tameA a as1).prf .nils .nils)=some (tCells a (tameA a as1).med (tameA a as1).prf (.os d 2 0 1) .nils):=rfl
 simp only [U5,h5d,hd5,sp1,↓vcPre,↓z0,↓reduceIte,vcPost,vcStd,Nat.reduceEqDiff,reduceCtorEq,Nat.reduceAdd,Nat.reduceLeDiff,Int.reduceLT,Int.reduceLE,↓u_setN]
 have hσd:σ d=none:=zm hU hd
 have V5:((U.set d (.arr 2 [[.int .i64 2,.sl 1 (L.map cU)]])).set p5 (.box (tCells a (tameA a as1).med (tameA a as1).prf (.os d 2 0 1) .nils))) p5=some (.box (tCells a (tameA a as1).med (tameA a as1).prf (.os d 2 0 1) .nils)):=Store.set_same _ _ _
 have hv:Own 2 σ ((tameA a as1).path.map Seg.c) (.os d 2 0 1) ((U.set d (.arr 2 [[.int .i64 2,.sl 1 (L.map cU)]])).set p5 (.box (tCells a (tameA a as1).med (tameA a as1).prf (.os d 2 0 1) .nils))):=by
  rw [hL]
  exact .inr ⟨d,rfl,hσd,by rw [Store.set_ne _ _ hd5];exact Store.set_same _ _ _⟩
 refine z9z hac hz h45 h25 ?_ ?_ V5 hv (za (za hU hσd) h5) h2 h4 h5 _ hr
 ·rw [Store.set_ne _ _ h25,Store.set_ne _ _ h2d];exact U2
 ·rw [Store.set_ne _ _ h45,Store.set_ne _ _ h4d];exact U4
set_option maxHeartbeats 1000000 in
theorem z3a {T:Store} {p2 p4 p5:Nat} (hac:True) {zc:List AV} (hz:zc.length=9) (h45:¬ p4=p5) (h25:¬ p2=p5) (T2:T p2=some (.box a.c)) (T4:T p4=some (.box zc)) (T5:T p5=some (.box (tCells a (tameA a as1).med (tameA a as1).prf .nils .nils)))
 (hs:Store.sub σ T) (h2:σ p2=none) (h4:σ p4=none) (h5:σ p5=none) (e:Env) {bb:Bool} (he:e=[(1,.int .u32 as1),(2,.ptr p2 0),(4,.ptr p4 0),(5,.ptr p5 0)]∨e=[(1,.int .u32 as1),(2,.ptr p2 0),(4,.ptr p4 0),(5,.ptr p5 0),(28,.bool bb)])
 (hr:∀ t',Store.sub σ t'→t' p4=some (.box (tameA a as1).c)→rr [(4,.ptr p4 0)] t'):bwp Tryz.prog Ts16.t14_34 e T n rr xx:=by
 simp only [Ts16.t14_34]
 have a1:List.take 1 (List.drop 1 a.c)=[.sl 2 (a.path.map Seg.c)]:=rfl
 have e9:a.c.length=9:=rfl
 rcases he with rfl | rfl
 all_goals
  simp only [↓vcPre,↓z0,↓reduceIte,vcPost,vcStd,Nat.reduceEqDiff,reduceCtorEq,Nat.reduceAdd,Nat.reduceLeDiff,Int.reduceLT,Int.reduceLE,↓u_setN]
  refine AllocQ.i0 fun q hq => ?_
  simp only [↓vcPre,↓z0,↓reduceIte,vcPost,vcStd,Nat.reduceEqDiff,reduceCtorEq,Nat.reduceAdd,Nat.reduceLeDiff,Int.reduceLT,Int.reduceLE,↓u_setN]
  refine AllocQ.i1 fun p6 h6q hq6 hp6 => ?_
  have sp0:splice 0 [.int .i64 2,.os q 1 0 1] [.int .i64 0,.nils]=some [.int .i64 2,.os q 1 0 1]:=rfl
  simp only [sp0,h6q,hq6,↓vcPre,↓z0,↓reduceIte,vcPost,vcStd,Nat.reduceEqDiff,reduceCtorEq,Nat.reduceAdd,Nat.reduceLeDiff,Int.reduceLT,Int.reduceLE,↓u_setN]
  have h2q:¬ p2=q:=fun e=>by subst e;rw [T2] at hq;cases hq
  have h4q:¬ p4=q:=fun e=>by subst e;rw [T4] at hq;cases hq
  have h5q:¬ p5=q:=fun e=>by subst e;rw [T5] at hq;cases hq
  have h26:¬ p2=p6:=fun e=>by subst e;rw [T2] at hp6;cases hp6
  have h46:¬ p4=p6:=fun e=>by subst e;rw [T4] at hp6;cases hp6
  have h56:¬ p5=p6:=fun e=>by subst e;rw [T5] at hp6;cases hp6
  have hσq:σ q=none:=zm hs hq
  have hσ6:σ p6=none:=zm hs hp6
  have sU:Store.sub T (((T.set q (.arr 1 [[.int .u32 as1]])).set p6 (.box [.int .i64 0,.nils])).set p6 (.box [.int .i64 2,.os q 1 0 1])):=za (zp hq hp6 h6q) hp6
  have U6:(((T.set q (.arr 1 [[.int .u32 as1]])).set p6 (.box [.int .i64 0,.nils])).set p6 (.box [.int .i64 2,.os q 1 0 1])) p6=some (.box [.int .i64 2,.os q 1 0 1]):=Store.set_same _ _ _
  have oU:Own 1 σ (([as1]:List Int).map cU) (.os q 1 0 1) (((T.set q (.arr 1 [[.int .u32 as1]])).set p6 (.box [.int .i64 0,.nils])).set p6 (.box [.int .i64 2,.os q 1 0 1])) := .inr ⟨q,rfl,hσq,by rw [Store.set_ne _ _ hq6,Store.set_ne _ _ hq6];exact Store.set_same _ _ _⟩
  generalize ((T.set q (.arr 1 [[.int .u32 as1]])).set p6 (.box [.int .i64 0,.nils])).set p6 (.box [.int .i64 2,.os q 1 0 1])=U at sU U6 oU ⊢
  refine LoopQ.inv (S:=Nat×AV×Store) (fun w=>[(2,.ptr p2 0),(4,.ptr p4 0),(5,.ptr p5 0),(6,.ptr p6 0),(7,.int .i64 (w.1:Int))]) (fun w=>w.2.2)
   (fun w=>w.1≤a.path.length∧w.1≤2∧Store.sub σ w.2.2∧w.2.2 p2=some (.box a.c)∧w.2.2 p4=some (.box zc)∧w.2.2 p5=some (.box (tCells a (tameA a as1).med (tameA a as1).prf .nils .nils))∧w.2.2 p6=some (.box [.int .i64 2,w.2.1])∧Own 1 σ ((as1::(a.path.take w.1).map segN).map cU) w.2.1 w.2.2)
   (fun w=>3 - w.1) (0,.os q 1 0 1,U) rfl (Store.sub_refl _) ⟨by simp only;omega,by simp only;omega,Store.sub_trans hs sU,sU _ _ T2,sU _ _ T4,sU _ _ T5,U6,oU⟩ ?_
  rintro ⟨k,w,s⟩ ⟨hk1,hk2,i1,i2,i4,i5,i6,i7⟩
  simp only at hk1 hk2 i1 i2 i4 i5 i6 i7
  simp only [i2,a1,e9,↓vcPre,↓z0,↓reduceIte,vcPost,vcStd,Nat.reduceEqDiff,reduceCtorEq,Nat.reduceAdd,Nat.reduceLeDiff,Int.reduceLT,Int.reduceLE,↓u_setN]
  refine ⟨fun c1=>⟨fun c2 => ?_,fun c2 => ?_⟩,fun c1 => ?_⟩
  rotate_left 1
  ·have e:a.path.take k=a.path.take 2:=by
    have:k=2:=by omega
    rw [this]
   rw [e] at i7
   exact z3b hac hz h45 h25 h26 h46 h56 i2 i4 i5 i6 rfl i7 i1 h2 h4 h5 hσ6 _ hr
  ·have e:a.path.take k=a.path.take 2:=by
    rw [List.take_of_length_le (by omega),List.take_of_length_le (by omega)]
   rw [e] at i7
   exact z3b hac hz h45 h25 h26 h46 h56 i2 i4 i5 i6 rfl i7 i1 h2 h4 h5 hσ6 _ hr
  ·have ek:IntKind.i64.wrap ((k:Int)+1)=((k+1:Nat):Int):=by rw [zd (by unfold I64;omega)];omega
   simp only [i2,i6,a1,e9,↓vcPre,↓z0,↓reduceIte,vcPost,vcStd,Nat.reduceEqDiff,reduceCtorEq,Nat.reduceAdd,Nat.reduceLeDiff,Int.reduceLT,Int.reduceLE,↓u_setN]
   refine ⟨c1,by simp [Seg.c],?_⟩
   simp only [Seg.c,↓vcPre,↓z0,↓reduceIte,vcPost,vcStd,Nat.reduceEqDiff,reduceCtorEq,Nat.reduceAdd,Nat.reduceLeDiff,Int.reduceLT,Int.reduceLE,↓u_setN]
   refine ⟨by decide,AllocQ.i0 fun d hd => ?_⟩
   simp only [↓vcPre,↓z0,↓reduceIte,vcPost,vcStd,Nat.reduceEqDiff,reduceCtorEq,Nat.reduceAdd,Nat.reduceLeDiff,Int.reduceLT,Int.reduceLE,↓u_setN]
   have hseg:IntKind.u32.wrap (64500+IntKind.u32.wrap (Int.tmod ((a.path[k]'c1).ls.length:Int) 4))=segN (a.path[k]'c1):=rfl
   rw [hseg]
   have sd:=Store.sub_set s d (.arr 1 [[.int .u32 (segN (a.path[k]'c1))]]) hd
   refine Own.appP (bytes:=4) (τ:=σ) (ys:=[[.int .u32 (segN (a.path[k]'c1))]]) (Store.sub_trans i1 sd) (i7.mono sd) (zq (Store.set_same _ _ _) rfl) (by simp;omega) fun v' s' hs' ho' hk' => ?_
   have z2:=hk' _ _ (sd _ _ i2) (fun M e=>by cases e)
   have z4:=hk' _ _ (sd _ _ i4) (fun M e=>by cases e)
   have z5:=hk' _ _ (sd _ _ i5) (fun M e=>by cases e)
   have z6:=hk' _ _ (sd _ _ i6) (fun M e=>by cases e)
   have spx:∀ x y:AV,splice 1 [x] [.int .i64 2,y]=some [.int .i64 2,x]:=fun _ _=>rfl
   simp only [z6,ho'.cell.1,ho'.cell.2,spx,ek,↓vcPre,↓z0,↓reduceIte,vcPost,vcStd,Nat.reduceEqDiff,reduceCtorEq,Nat.reduceAdd,Nat.reduceLeDiff,Int.reduceLT,Int.reduceLE,↓u_setN]
   refine NextQ.to (k+1,v',s'.set p6 (.box [.int .i64 2,v'])) rfl (Store.sub_refl _) (by simp only;omega) ⟨by simp only;omega,by simp only;omega,za hs' hσ6,(Store.set_ne _ _ h26).trans z2,(Store.set_ne _ _ h46).trans z4,(Store.set_ne _ _ h56).trans z5,Store.set_same _ _ _,?_⟩
   have ex:((as1::(a.path.take (k+1)).map segN).map cU)=((as1::(a.path.take k).map segN).map cU)++[[.int .u32 (segN (a.path[k]'c1))]]:=by
    rw [List.take_succ_eq_append_getElem c1,List.map_append,←List.cons_append,List.map_append];rfl
   simp only
   rw [ex]
   exact ho'.setId z6 (fun M e=>by cases e)
theorem z8d {T:Store} {p2 p4 p5:Nat} (hac:True) {zc:List AV} (hz:zc.length=9) (h45:¬ p4=p5) (h25:¬ p2=p5) (T2:T p2=some (.box a.c)) (T4:T p4=some (.box zc)) (T5:T p5=some (.box (tCells a (tameA a as1).med 0 .nils .nils)))
 (hs:Store.sub σ T) (h2:σ p2=none) (h4:σ p4=none) (h5:σ p5=none) (E:List (Nat×AV))
 (hr:∀ t',Store.sub σ t'→t' p4=some (.box (tameA a as1).c)→rr [(4,.ptr p4 0)] t'):bwp Tryz.prog Ts16.t14_27 ((1,.int .u32 as1)::(2,.ptr p2 0)::(4,.ptr p4 0)::(5,.ptr p5 0)::E) T n rr xx:=by
 simp only [Ts16.t14_27]
 have a5:List.take 1 (List.drop 5 a.c)=[.bool a.hp]:=rfl
 have a6:List.take 1 (List.drop 6 a.c)=[.int .u32 a.prf]:=rfl
 have e9:a.c.length=9:=rfl
 simp only [T2,a5,e9,↓vcPre,↓z0,↓reduceIte,vcPost,vcStd,Nat.reduceEqDiff,reduceCtorEq,Nat.reduceAdd,Nat.reduceLeDiff,Int.reduceLT,Int.reduceLE,↓u_setN]
 have hpf:(tameA a as1).prf=if a.hp then IntKind.u32.wrap (100+Int.tmod a.prf 3) else 0:=rfl
 cases h:a.hp
 ·rw [h] at hpf
  simp only [Bool.false_eq_true,if_false] at hpf
  rw [←hpf] at T5
  simp only [↓vcPre,↓z0,↓reduceIte,vcPost,vcStd,Nat.reduceEqDiff,reduceCtorEq,Nat.reduceAdd,Nat.reduceLeDiff,Int.reduceLT,Int.reduceLE,↓u_setN]
  exact z3a hac hz h45 h25 T2 T4 T5 hs h2 h4 h5 _ (.inr rfl) hr
 ·rw [h] at hpf
  simp only [if_true] at hpf
  have s6:∀ y:Int,splice 6 [.int .u32 y] (tCells a (tameA a as1).med 0 .nils .nils)=some (tCells a (tameA a as1).med y .nils .nils):=fun _=>rfl
  simp only [T2,T5,a6,e9,s6,↓vcPre,↓z0,↓reduceIte,vcPost,vcStd,Nat.reduceEqDiff,reduceCtorEq,Nat.reduceAdd,Nat.reduceLeDiff,Int.reduceLT,Int.reduceLE,↓u_setN]
  refine ⟨by decide,?_⟩
  rw [←hpf]
  exact z3a (bb:=true) hac hz h45 h25 (by rw [Store.set_ne _ _ h25];exact T2) (by rw [Store.set_ne _ _ h45];exact T4) (Store.set_same _ _ _) (za hs h5) h2 h4 h5 _ (.inl rfl) hr
end
set_option maxHeartbeats 1000000 in
theorem c14 (a:At) (ho:I64 a.org) (as1:Int):Pur Tryz.prog 14 [.agg a.c,.int .u32 as1] (.agg (tameA a as1).c):=by
 refine zn Ts16.F14 (by simp [Ts16.F14,Fn.mkW]) fun σ => ?_
 simp only [Ts16.F14,Fn.mkW,Ts16.b14,yk]
 have e9:∀ x:At,x.c.length=9:=fun _=>rfl
 have t9:∀ x:At,List.take 9 x.c=x.c:=fun _=>rfl
 have a0:List.take 1 a.c=[.int .i64 a.org]:=rfl
 have a2:List.take 1 (List.drop 2 a.c)=[.int .u32 a.nxt]:=rfl
 have a3:List.take 1 (List.drop 3 a.c)=[.bool a.hm]:=rfl
 have a4:List.take 1 (List.drop 4 a.c)=[.int .u32 a.med]:=rfl
 have a5:List.take 1 (List.drop 5 a.c)=[.bool a.hp]:=rfl
 simp only [↓vcPre,↓z0,↓reduceIte,vcPost,vcStd,Nat.reduceEqDiff,reduceCtorEq,Nat.reduceAdd,Nat.reduceLeDiff,Int.reduceLT,Int.reduceLE,↓u_setN]
 refine AllocQ.i0 fun p2 hp2 => ?_
 simp only [↓vcPre,↓z0,↓reduceIte,vcPost,vcStd,Nat.reduceEqDiff,reduceCtorEq,Nat.reduceAdd,Nat.reduceLeDiff,Int.reduceLT,Int.reduceLE,↓u_setN]
 refine AllocQ.i1 fun p4 h42 h24 hp4 => ?_
 simp only [↓vcPre,↓z0,↓reduceIte,vcPost,vcStd,Nat.reduceEqDiff,reduceCtorEq,Nat.reduceAdd,Nat.reduceLeDiff,Int.reduceLT,Int.reduceLE,↓u_setN]
 have sT:Store.sub σ ((σ.set p2 (.box a.c)).set p4 (.box zCells)):=zp hp2 hp4 h42
 have T4:((σ.set p2 (.box a.c)).set p4 (.box zCells)) p4=some (.box zCells):=Store.set_same _ _ _
 have T2:((σ.set p2 (.box a.c)).set p4 (.box zCells)) p2=some (.box a.c):=by rw [Store.set_ne _ _ h24];exact Store.set_same _ _ _
 generalize (σ.set p2 (.box a.c)).set p4 (.box zCells)=T at sT T4 T2 ⊢
 simp only [T2,a0,a2,a3,a5,e9,↓vcPre,↓z0,↓reduceIte,vcPost,vcStd,Nat.reduceEqDiff,reduceCtorEq,Nat.reduceAdd,Nat.reduceLeDiff,Int.reduceLT,Int.reduceLE,↓u_setN]
 have hw:=c22 a.org 0 2 ho (by omega) (by omega) (by omega)
 rw [show (0:Int)+a.org % (2 - 0+1)=a.org % 3 by omega] at hw
 refine hw.Q ?_
 simp only [T2,a2,e9,↓vcPre,↓z0,↓reduceIte,vcPost,vcStd,Nat.reduceEqDiff,reduceCtorEq,Nat.reduceAdd,Nat.reduceLeDiff,Int.reduceLT,Int.reduceLE,↓u_setN]
 refine (c39 a.nxt).Q ?_
 simp only [T2,a3,a5,e9,↓vcPre,↓z0,↓reduceIte,vcPost,vcStd,Nat.reduceEqDiff,reduceCtorEq,Nat.reduceAdd,Nat.reduceLeDiff,Int.reduceLT,Int.reduceLE,↓u_setN]
 have sp0:splice 0 [AV.int .i64 (a.org % 3)] zCells=some [.int .i64 (a.org % 3),.nils,.int .u32 0,.bool false,.int .u32 0,.bool false,.int .u32 0,.bool false,.nils]:=rfl
 have sp2:splice 2 [AV.int .u32 (nextF a.nxt)] [.int .i64 (a.org % 3),.nils,.int .u32 0,.bool false,.int .u32 0,.bool false,.int .u32 0,.bool false,.nils]=some [.int .i64 (a.org % 3),.nils,.int .u32 (nextF a.nxt),.bool false,.int .u32 0,.bool false,.int .u32 0,.bool false,.nils]:=rfl
 have sp3:splice 3 [AV.bool a.hm] [.int .i64 (a.org % 3),.nils,.int .u32 (nextF a.nxt),.bool false,.int .u32 0,.bool false,.int .u32 0,.bool false,.nils]=some [.int .i64 (a.org % 3),.nils,.int .u32 (nextF a.nxt),.bool a.hm,.int .u32 0,.bool false,.int .u32 0,.bool false,.nils]:=rfl
 have sp5:splice 5 [AV.bool a.hp] [.int .i64 (a.org % 3),.nils,.int .u32 (nextF a.nxt),.bool a.hm,.int .u32 0,.bool false,.int .u32 0,.bool false,.nils]=some (tCells a 0 0 .nils .nils):=rfl
 simp only [sp0,sp2,sp3,sp5,yf]
 refine AllocQ.i0 fun p5 hp5 => ?_
 have h25:¬ p2=p5:=fun e=>by subst e;rw [T2] at hp5;cases hp5
 have h45:¬ p4=p5:=fun e=>by subst e;rw [T4] at hp5;cases hp5
 have h52:¬ p5=p2:=fun e=>h25 e.symm
 have hσ5:σ p5=none:=zm sT hp5
 have hz:zCells.length=9:=rfl
 have et:∀ m p v w,(tCells a m p v w).length=9:=fun _ _ _ _=>rfl
 have hs9:splice 0 (tCells a 0 0 .nils .nils) zCells=some (tCells a 0 0 .nils .nils):=rfl
 have hm:(tameA a as1).med=if a.hm then Int.tmod a.med 3 else 0:=rfl
 have s4:∀ y:Int,splice 4 [.int .u32 y] (tCells a 0 0 .nils .nils)=some (tCells a y 0 .nils .nils):=fun _=>rfl
 have fin:∀ t',Store.sub σ t'→t' p4=some (.box (tameA a as1).c)→(fun (e:Env) (τ:Store)=>((e.get 4).bind fun p=>Option.map AV.agg (rd τ 9 p))=some (AV.agg (tameA a as1).c)∧Store.sub σ τ) [(4,.ptr p4 0)] t':=fun t' h1 h2=>by
  refine ⟨?_,h1⟩
  have hr:rd t' 9 (.ptr p4 0)=some (tameA a as1).c:=by simp only [rd,h2];rfl
  simp [Env.get,hr]
 have key:∀ (n:Env→Store→Prop) (xx:Nat→Env→Store→Prop) (U:Store) (E:List (Nat×AV)),Store.sub σ U→U p2=some (.box a.c)→U p4=some (.box zCells)→U p5=some (.box (tCells a (tameA a as1).med 0 .nils .nils))→bwp Tryz.prog Ts16.t14_27 ((1,.int .u32 as1)::(2,.ptr p2 0)::(4,.ptr p4 0)::(5,.ptr p5 0)::E) U n (fun e τ=>((e.get 4).bind fun p=>Option.map AV.agg (rd τ 9 p))=some (AV.agg (tameA a as1).c)∧Store.sub σ τ) xx:=fun n xx U E z1 z2 z3 z4 =>
  z8d trivial hz h45 h25 z2 z3 z4 z1 hp2 hp4 hσ5 E fin
 have sU:Store.sub σ ((T.set p5 (.box zCells)).set p5 (.box (tCells a 0 0 .nils .nils))):=za (za sT hσ5) hσ5
 have U5:((T.set p5 (.box zCells)).set p5 (.box (tCells a 0 0 .nils .nils))) p5=some (.box (tCells a 0 0 .nils .nils)):=Store.set_same _ _ _
 have U2:((T.set p5 (.box zCells)).set p5 (.box (tCells a 0 0 .nils .nils))) p2=some (.box a.c):=by rw [Store.set_ne _ _ h25,Store.set_ne _ _ h25];exact T2
 have U4:((T.set p5 (.box zCells)).set p5 (.box (tCells a 0 0 .nils .nils))) p4=some (.box zCells):=by rw [Store.set_ne _ _ h45,Store.set_ne _ _ h45];exact T4
 simp only [hs9,et,hz,↓vcPre,↓z0,↓reduceIte,vcPost,vcStd,Nat.reduceEqDiff,reduceCtorEq,Nat.reduceAdd,Nat.reduceLeDiff,Int.reduceLT,Int.reduceLE,↓u_setN]
 generalize (T.set p5 (.box zCells)).set p5 (.box (tCells a 0 0 .nils .nils))=U at sU U2 U4 U5 ⊢
 simp only [U2,a3,e9,↓vcPre,↓z0,↓reduceIte,vcPost,vcStd,Nat.reduceEqDiff,reduceCtorEq,Nat.reduceAdd,Nat.reduceLeDiff,Int.reduceLT,Int.reduceLE,↓u_setN]
 cases h:a.hm
 ·rw [h] at hm
  simp only [Bool.false_eq_true,if_false] at hm
  simp only [↓vcPre,↓z0,↓reduceIte,vcPost,vcStd,Nat.reduceEqDiff,reduceCtorEq,Nat.reduceAdd,Nat.reduceLeDiff,Int.reduceLT,Int.reduceLE,↓u_setN]
  refine key _ _ U _ sU U2 U4 ?_
  rw [hm]
  exact U5
 ·rw [h] at hm
  simp only [if_true] at hm
  simp only [U2,U5,a4,s4,e9,et,↓vcPre,↓z0,↓reduceIte,vcPost,vcStd,Nat.reduceEqDiff,reduceCtorEq,Nat.reduceAdd,Nat.reduceLeDiff,Int.reduceLT,Int.reduceLE,↓u_setN]
  refine ⟨by decide,key _ _ _ [] (za sU hσ5) ((Store.set_ne _ _ h25).trans U2) ((Store.set_ne _ _ h45).trans U4) ?_⟩
  rw [hm]
  exact Store.set_same _ _ _
end Go.Am
namespace Go.Am.Ts17
open Go.Proofs Go.Am.B
def t38_73:BC := .ops [m 73 3,⟨some 74,none,.load (.ld 12 true),[.t 6]⟩,⟨some 75,none,.alloc (.mksl 12 1),[.t 74]⟩,⟨some 76,none,.loud (.app 12 72),[.t 73,.t 75]⟩,m 3 76] [0,3,4]
def t38_64:BC := .seq (z [f 64 4 5,l 65 1 64,p 66 (.bin .rem) [.t 65,.c (.int .u32 3)],p 67 (.bin .eql) [.t 66,.c (.int .u32 1)]] [0,3,4,5,6,67] (.cond (.t 67) (.ops [f 68 4 5,l 69 1 68,p 70 (.bin .rem) [.t 69,.c (.int .u32 4)],p 71 (.bin .add) [.c (.int .u32 1),.t 70],f 72 4 6,s 1 72 71] [0,3,4,6]) .skip)) t38_73
def t38_58:BC := .seq (z [f 58 8 5,l 59 1 58] [0,3,4,5,6,59] (.cond (.t 59) (.ops [f 60 9 5,l 61 1 60,p 62 (.bin .rem) [.t 61,.c (.int .u32 4)],f 63 9 6,s 1 63 62] [0,3,4,5,6]) .skip)) t38_64
def t38_51:BC := .seq (z [f 51 6 5,l 52 1 51] [0,3,4,5,6,52] (.cond (.t 52) (.ops [f 53 7 5,l 54 1 53,p 55 (.bin .rem) [.t 54,.c (.int .u32 30)],p 56 (.bin .add) [.c (.int .u32 90),.t 55],f 57 7 6,s 1 57 56] [0,3,4,5,6]) .skip)) t38_58
def t38_45:BC := .seq (z [f 45 2 5,l 46 1 45,c 47 .rem 46 2,c 48 .eql 47 0] [0,3,4,5,6,48] (.cond (.t 48) (z [f 49 2 6,⟨none,none,.loud (.st 1),[.t 49,.c (.int .i64 9)]⟩] [0,3,4,5,6] (.ops [f 50 3 6,⟨none,none,.loud (.st 1),[.t 50,.c (.int .i64 12)]⟩] [0,3,4,5,6])) .skip)) t38_51
def b38:BC:=z [k 2 .nils] [0] (z [k 3 .nils] [0,3] (.seq (z [j 4 0] [0,3,4] (.block 0 (.loop [0,3,4] (.seq (z [m 7 4,m 8 0,u 9 .len 8,b 10 .lss 7 9,m 11 10,⟨some 12,some (11,true),.pure (.mov),[.t 4]⟩,⟨some 13,some (11,true),.pure (.bin .lss),[.t 12,.c (.int .i64 3)]⟩,⟨some 14,none,.pick,[.t 11,.t 13,.c (.bool false)]⟩] [0,3,4,14] (.cond (.t 14) .skip (.exit 0))) (.seq (.block 1 (z [m 17 0,m 18 4,x 19 12 17 18,⟨some 20,none,.load (.ld 12 true),[.t 19]⟩,⟨some 5,none,.alloc (.alloc [(.int .u32 0),(.int .i64 0),(.int .i64 0),(.int .i64 0),(.int .u32 0),(.bool false),(.bool false),(.int .u32 0),(.bool false),(.int .u32 0),(.int .i64 0),(.int .u32 0)]),[]⟩,s 12 5 20] [0,3,4,5] (z [f 21 0 5,f 22 0 21,f 24 0 5,f 25 1 24,f 28 5 5,f 34 6 5,f 36 8 5,f 38 10 5,f 41 11 5,l 23 1 22,l 26 1 25,l 29 1 28,l 35 1 34,l 37 1 36,l 39 1 38,l 42 1 41,p 43 (.bin .rem) [.t 42,.c (.int .u32 4)],⟨some 27,none,.qcall 19,[.t 23,.t 26]⟩,m 30 29,⟨some 31,some (30,true),.pure (.mov),[.t 4]⟩,⟨some 32,some (30,true),.pure (.bin .eql),[.t 31,.c (.int .i64 0)]⟩,⟨some 33,none,.pick,[.t 30,.t 32,.c (.bool false)]⟩,⟨some 40,none,.qcall 22,[.t 39,.c (.int .i64 0),.c (.int .i64 2)]⟩,p 44 (.build [(.int .u32 0),(.int .i64 0),(.int .i64 0),(.int .i64 0),(.int .u32 0),(.bool false),(.bool false),(.int .u32 0),(.bool false),(.int .u32 0),(.int .i64 0),(.int .u32 0)] [(0,2),(2,1),(3,1),(5,1),(6,1),(8,1),(10,1),(11,1)]) [.t 27,.c (.int .i64 0),.c (.int .i64 32),.t 33,.t 35,.t 37,.t 40,.t 43],⟨some 6,none,.alloc (.alloc [(.int .u32 0),(.int .i64 0),(.int .i64 0),(.int .i64 0),(.int .u32 0),(.bool false),(.bool false),(.int .u32 0),(.bool false),(.int .u32 0),(.int .i64 0),(.int .u32 0)]),[]⟩,s 12 6 44] [0,3,4,5,6] t38_45))) (.ops [m 15 4,c 16 .add 15 1,m 4 16] [0,3,4])))))) (z [m 77 3,m 2 77] [2] .ret)))
def F38:Fn Tryz.prog 38:=Fn.mkX false b38 [.t 2] 78 Tryz.f38 _ Tryz.func38 (by decide) rfl Tryz.ntmps38 (by kernel_rfl) (by kernel_rfl)
end Go.Am.Ts17
namespace Go.Am
open Go.Proofs Go.Sort
def ruleA (r:Rule) (z:Bool):Rule:=⟨(prefixF r.ad r.ln).1,(prefixF r.ad r.ln).2,0,32,0,r.rj && z,r.sp,0,r.sm,0,r.pp % 3,Int.tmod r.ac 4⟩
def ruleB (r x:Rule):Rule:=if Int.tmod r.fr 2=0 then { x with fr:=9,tl:=12 } else x
def ruleC (r x:Rule):Rule:=if r.sp then { x with pf:=IntKind.u32.wrap (90+Int.tmod r.pf 30) } else x
def ruleD (r x:Rule):Rule:=if r.sm then { x with md:=Int.tmod r.md 4 } else x
def ruleE (r x:Rule):Rule:=if Int.tmod r.cm 3=1 then { x with cm:=IntKind.u32.wrap (1+Int.tmod r.cm 4) } else x
def ruleK (r:Rule) (z:Bool):Rule:=ruleE r (ruleD r (ruleC r (ruleB r (ruleA r z))))
section
variable {r x:Rule} {σ:Store} {n rr:Env→Store→Prop} {xx:Nat→Env→Store→Prop} {v0 v:AV} {i:Int} {L:List (List AV)} {p5 p6:Nat}
theorem z39 {T:Store} (T6:T p6=some (.box x.c)) (ho:Own 12 σ L v T) (hs:Store.sub σ T) (hL:L.length≤10) (E E':List (Nat×AV)) (e5:List (Nat×AV)) (he:e5=[]∨e5=[(5,.ptr p5 0)])
 (hn:∀ v' T',Store.sub σ T'→Own 12 σ (L++[x.c]) v' T'→n [(0,v0),(3,v'),(4,.int .i64 i)] T'):bwp Tryz.prog Ts17.t38_73 ((0,v0)::(3,v)::(4,.int .i64 i)::(e5++(6,.ptr p6 0)::E)) T n rr xx:=by
 simp only [Ts17.t38_73]
 have e12:x.c.length=12:=rfl
 have t12:List.take 12 x.c=x.c:=rfl
 rcases he with rfl | rfl
 all_goals
  simp only [List.nil_append,List.cons_append]
  simp only [T6,e12,t12,↓vcPre,↓z0,↓reduceIte,vcPost,vcStd,Nat.reduceEqDiff,reduceCtorEq,Nat.reduceAdd,Nat.reduceLeDiff,Int.reduceLT,Int.reduceLE,↓u_setN]
  refine AllocQ.i0 fun d hd => ?_
  simp only [↓vcPre,↓z0,↓reduceIte,vcPost,vcStd,Nat.reduceEqDiff,reduceCtorEq,Nat.reduceAdd,Nat.reduceLeDiff,Int.reduceLT,Int.reduceLE,↓u_setN]
  have sd:=Store.sub_set T d (.arr 12 [x.c]) hd
  refine Own.appP (bytes:=72) (τ:=σ) (ys:=[x.c]) (Store.sub_trans hs sd) (ho.mono sd) (zq (Store.set_same _ _ _) rfl) (by simp;omega) fun v' s' hs' ho' hk' => ?_
  exact hn v' s' hs' ho'
variable {r:Rule}
theorem z38 {T:Store} (h56:¬ p5=p6) (T5:T p5=some (.box r.c)) (T6:T p6=some (.box x.c)) (ho:Own 12 σ L v T) (hs:Store.sub σ T) (h6:σ p6=none) (hL:L.length≤10) (E:List (Nat×AV))
 (hn:∀ v' T',Store.sub σ T'→Own 12 σ (L++[(ruleE r x).c]) v' T'→n [(0,v0),(3,v'),(4,.int .i64 i)] T'):bwp Tryz.prog Ts17.t38_64 ((0,v0)::(3,v)::(4,.int .i64 i)::(5,.ptr p5 0)::(6,.ptr p6 0)::E) T n rr xx:=by
 simp only [Ts17.t38_64]
 have e12:∀ y:Rule,y.c.length=12:=fun _=>rfl
 have r4:List.take 1 (List.drop 4 r.c)=[.int .u32 r.cm]:=rfl
 have s4:∀ y:Int,splice 4 [.int .u32 y] x.c=some ({ x with cm:=y }:Rule).c:=fun _=>rfl
 unfold ruleE at hn
 simp only [T5,r4,e12,↓vcPre,↓z0,↓reduceIte,vcPost,vcStd,Nat.reduceEqDiff,reduceCtorEq,Nat.reduceAdd,Nat.reduceLeDiff,Int.reduceLT,Int.reduceLE,↓u_setN]
 refine ⟨by decide,fun g => ?_,fun g => ?_⟩
 ·rw [if_pos g] at hn
  simp only [T5,T6,r4,e12,s4,↓vcPre,↓z0,↓reduceIte,vcPost,vcStd,Nat.reduceEqDiff,reduceCtorEq,Nat.reduceAdd,Nat.reduceLeDiff,Int.reduceLT,Int.reduceLE,↓u_setN]
  refine ⟨by decide,?_⟩
  exact z39 (p5:=p5) (Store.set_same _ _ _) (ho.setId T6 (fun M e=>by cases e)) (za hs h6) hL [] [] [] (.inl rfl) hn
 ·rw [if_neg g] at hn
  exact z39 (p5:=p5) T6 ho hs hL _ [] [(5,.ptr p5 0)] (.inr rfl) hn
theorem z37 {T:Store} (h56:¬ p5=p6) (T5:T p5=some (.box r.c)) (T6:T p6=some (.box x.c)) (ho:Own 12 σ L v T) (hs:Store.sub σ T) (h6:σ p6=none) (hL:L.length≤10) (E:List (Nat×AV))
 (hn:∀ v' T',Store.sub σ T'→Own 12 σ (L++[(ruleE r (ruleD r x)).c]) v' T'→n [(0,v0),(3,v'),(4,.int .i64 i)] T'):bwp Tryz.prog Ts17.t38_58 ((0,v0)::(3,v)::(4,.int .i64 i)::(5,.ptr p5 0)::(6,.ptr p6 0)::E) T n rr xx:=by
 simp only [Ts17.t38_58]
 have e12:∀ y:Rule,y.c.length=12:=fun _=>rfl
 have r8:List.take 1 (List.drop 8 r.c)=[.bool r.sm]:=rfl
 have r9:List.take 1 (List.drop 9 r.c)=[.int .u32 r.md]:=rfl
 have s9:∀ y:Int,splice 9 [.int .u32 y] x.c=some ({ x with md:=y }:Rule).c:=fun _=>rfl
 unfold ruleD at hn
 simp only [T5,r8,e12,↓vcPre,↓z0,↓reduceIte,vcPost,vcStd,Nat.reduceEqDiff,reduceCtorEq,Nat.reduceAdd,Nat.reduceLeDiff,Int.reduceLT,Int.reduceLE,↓u_setN]
 cases h:r.sm
 ·rw [h] at hn
  simp only [Bool.false_eq_true,if_false] at hn
  simp only [↓vcPre,↓z0,↓reduceIte,vcPost,vcStd,Nat.reduceEqDiff,reduceCtorEq,Nat.reduceAdd,Nat.reduceLeDiff,Int.reduceLT,Int.reduceLE,↓u_setN]
  exact z38 h56 T5 T6 ho hs h6 hL _ hn
 ·rw [h] at hn
  simp only [if_true] at hn
  simp only [T5,T6,r9,e12,s9,↓vcPre,↓z0,↓reduceIte,vcPost,vcStd,Nat.reduceEqDiff,reduceCtorEq,Nat.reduceAdd,Nat.reduceLeDiff,Int.reduceLT,Int.reduceLE,↓u_setN]
  refine ⟨by decide,?_⟩
  exact z38 h56 ((Store.set_ne _ _ h56).trans T5) (Store.set_same _ _ _) (ho.setId T6 (fun M e=>by cases e)) (za hs h6) h6 hL [] hn
theorem z36 {T:Store} (h56:¬ p5=p6) (T5:T p5=some (.box r.c)) (T6:T p6=some (.box x.c)) (ho:Own 12 σ L v T) (hs:Store.sub σ T) (h6:σ p6=none) (hL:L.length≤10) (E:List (Nat×AV))
 (hn:∀ v' T',Store.sub σ T'→Own 12 σ (L++[(ruleE r (ruleD r (ruleC r x))).c]) v' T'→n [(0,v0),(3,v'),(4,.int .i64 i)] T'):bwp Tryz.prog Ts17.t38_51 ((0,v0)::(3,v)::(4,.int .i64 i)::(5,.ptr p5 0)::(6,.ptr p6 0)::E) T n rr xx:=by
 simp only [Ts17.t38_51]
 have e12:∀ y:Rule,y.c.length=12:=fun _=>rfl
 have r6:List.take 1 (List.drop 6 r.c)=[.bool r.sp]:=rfl
 have r7:List.take 1 (List.drop 7 r.c)=[.int .u32 r.pf]:=rfl
 have s7:∀ y:Int,splice 7 [.int .u32 y] x.c=some ({ x with pf:=y }:Rule).c:=fun _=>rfl
 unfold ruleC at hn
 simp only [T5,r6,e12,↓vcPre,↓z0,↓reduceIte,vcPost,vcStd,Nat.reduceEqDiff,reduceCtorEq,Nat.reduceAdd,Nat.reduceLeDiff,Int.reduceLT,Int.reduceLE,↓u_setN]
 cases h:r.sp
 ·rw [h] at hn
  simp only [Bool.false_eq_true,if_false] at hn
  simp only [↓vcPre,↓z0,↓reduceIte,vcPost,vcStd,Nat.reduceEqDiff,reduceCtorEq,Nat.reduceAdd,Nat.reduceLeDiff,Int.reduceLT,Int.reduceLE,↓u_setN]
  exact z37 h56 T5 T6 ho hs h6 hL _ hn
 ·rw [h] at hn
  simp only [if_true] at hn
  simp only [T5,T6,r7,e12,s7,↓vcPre,↓z0,↓reduceIte,vcPost,vcStd,Nat.reduceEqDiff,reduceCtorEq,Nat.reduceAdd,Nat.reduceLeDiff,Int.reduceLT,Int.reduceLE,↓u_setN]
  refine ⟨by decide,?_⟩
  exact z37 h56 ((Store.set_ne _ _ h56).trans T5) (Store.set_same _ _ _) (ho.setId T6 (fun M e=>by cases e)) (za hs h6) h6 hL [] hn
theorem z8b {T:Store} (h56:¬ p5=p6) (T5:T p5=some (.box r.c)) (T6:T p6=some (.box x.c)) (ho:Own 12 σ L v T) (hs:Store.sub σ T) (h6:σ p6=none) (hL:L.length≤10) (E:List (Nat×AV))
 (hn:∀ v' T',Store.sub σ T'→Own 12 σ (L++[(ruleE r (ruleD r (ruleC r (ruleB r x)))).c]) v' T'→n [(0,v0),(3,v'),(4,.int .i64 i)] T'):bwp Tryz.prog Ts17.t38_45 ((0,v0)::(3,v)::(4,.int .i64 i)::(5,.ptr p5 0)::(6,.ptr p6 0)::E) T n rr xx:=by
 simp only [Ts17.t38_45]
 have e12:∀ y:Rule,y.c.length=12:=fun _=>rfl
 have r2:List.take 1 (List.drop 2 r.c)=[.int .i64 r.fr]:=rfl
 have s2:splice 2 [.int .i64 9] x.c=some ({ x with fr:=9 }:Rule).c:=rfl
 have s3:splice 3 [.int .i64 12] ({ x with fr:=9 }:Rule).c=some ({ x with fr:=9,tl:=12 }:Rule).c:=rfl
 unfold ruleB at hn
 simp only [T5,r2,e12,↓vcPre,↓z0,↓reduceIte,vcPost,vcStd,Nat.reduceEqDiff,reduceCtorEq,Nat.reduceAdd,Nat.reduceLeDiff,Int.reduceLT,Int.reduceLE,↓u_setN]
 refine ⟨by decide,fun g => ?_,fun g => ?_⟩
 ·rw [if_pos g] at hn
  simp only [T6,e12,s2,↓vcPre,↓z0,↓reduceIte,vcPost,vcStd,Nat.reduceEqDiff,reduceCtorEq,Nat.reduceAdd,Nat.reduceLeDiff,Int.reduceLT,Int.reduceLE,↓u_setN]
  simp only [Store.set_same,e12,s3,↓vcPre,↓z0,↓reduceIte,vcPost,vcStd,Nat.reduceEqDiff,reduceCtorEq,Nat.reduceAdd,Nat.reduceLeDiff,Int.reduceLT,Int.reduceLE,↓u_setN]
  exact z36 h56 (((Store.set_ne _ _ h56).trans (Store.set_ne _ _ h56)).trans T5) (Store.set_same _ _ _) ((ho.setId T6 (fun M e=>by cases e)).setId (Store.set_same _ _ _) (fun M e=>by cases e)) (za (za hs h6) h6) h6 hL [] hn
 ·rw [if_neg g] at hn
  exact z36 h56 T5 T6 ho hs h6 hL _ hn
end
def rulesK (rs:List Rule):List Rule:=(rs.take 3).mapIdx fun i r=>ruleK r (decide (i=0))
def Rule.ok (r:Rule):Prop:=I64 r.ln∧I64 r.pp
theorem z3l (rs:List Rule) (f:Nat→Rule→Rule) (k:Nat) (h:k<rs.length):(rs.take (k+1)).mapIdx f=(rs.take k).mapIdx f++[f k rs[k]]:=by
 rw [List.take_succ_eq_append_getElem h,List.mapIdx_append]
 simp [Nat.min_eq_left (Nat.le_of_lt h)]
end Go.Am
namespace Go.Am
open Go.Proofs Go.Sort
theorem zg1 (a n x:Int):Pur Tryz.prog 212 [.agg [.int .u32 a,.int .i64 n],.int .u32 x] (.bool (hasF a n x)):=by
 refine zn Tst.F212 (by simp [Tst.F212,Fn.mkX]) fun σ => ?_
 simp only [Tst.F212,Fn.mkX,Tst.b212]
 simp only [↓vcPre,↓z0,↓reduceIte,vcPost,vcStd,Nat.reduceEqDiff,reduceCtorEq,Nat.reduceAdd,Nat.reduceLeDiff,Int.reduceLT,Int.reduceLE,↓u_setN]
 refine AllocQ.i0 fun i hi => ?_
 simp only [*,↓vcPre,↓z0,↓reduceIte,vcPost,vcStd,Nat.reduceEqDiff,reduceCtorEq,Nat.reduceAdd,Nat.reduceLeDiff,Int.reduceLT,Int.reduceLE,↓u_setN]
 refine (c80 a n).q' ?_
 have hs:=Store.sub_set σ i (.box [.int .u32 a,.int .i64 n]) hi
 cases h1:rightF a n
 ·simp only [*,↓vcPre,↓z0,↓reduceIte,vcPost,vcStd,Nat.reduceEqDiff,reduceCtorEq,Nat.reduceAdd,Nat.reduceLeDiff,Int.reduceLT,Int.reduceLE,↓u_setN]
  simp [hasF,h1]
 ·simp only [*,↓vcPre,↓z0,↓reduceIte,vcPost,vcStd,Nat.reduceEqDiff,reduceCtorEq,Nat.reduceAdd,Nat.reduceLeDiff,Int.reduceLT,Int.reduceLE,↓u_setN]
  refine (c91 n (z0x h1)).q' ?_
  simp only [*,↓vcPre,↓z0,↓reduceIte,vcPost,vcStd,Nat.reduceEqDiff,reduceCtorEq,Nat.reduceAdd,Nat.reduceLeDiff,Int.reduceLT,Int.reduceLE,↓u_setN]
  simp [hasF,h1]
theorem zfw (p q:Int×Int):Pur Tryz.prog 182 [.agg [.int .u32 p.1,.int .i64 p.2],.agg [.int .u32 q.1,.int .i64 q.2]] (.bool (coversF p q)):=by
 refine zn Tst.F182 (by simp [Tst.F182,Fn.mkX]) fun σ => ?_
 simp only [Tst.F182,Fn.mkX,Tst.b182]
 simp only [↓vcPre,↓z0,↓reduceIte,vcPost,vcStd,Nat.reduceEqDiff,reduceCtorEq,Nat.reduceAdd,Nat.reduceLeDiff,Int.reduceLT,Int.reduceLE,↓u_setN]
 refine AllocQ.i0 fun i hi => ?_
 simp only [↓vcPre,↓z0,↓reduceIte,vcPost,vcStd,Nat.reduceEqDiff,reduceCtorEq,Nat.reduceAdd,Nat.reduceLeDiff,Int.reduceLT,Int.reduceLE,↓u_setN]
 refine AllocQ.i1 fun j hj1 hj2 hj => ?_
 simp only [*,↓vcPre,↓z0,↓reduceIte,vcPost,vcStd,Nat.reduceEqDiff,reduceCtorEq,Nat.reduceAdd,Nat.reduceLeDiff,Int.reduceLT,Int.reduceLE,↓u_setN]
 refine (c80 q.1 q.2).Q ?_
 cases h1:rightF q.1 q.2
 ·simp only [*,↓vcPre,↓z0,↓reduceIte,vcPost,vcStd,Nat.reduceEqDiff,reduceCtorEq,Nat.reduceAdd,Nat.reduceLeDiff,Int.reduceLT,Int.reduceLE,↓u_setN];simp [coversF,h1]
 ·by_cases h3:p.2≤q.2
  ·simp only [*,↓vcPre,↓z0,↓reduceIte,vcPost,vcStd,Nat.reduceEqDiff,reduceCtorEq,Nat.reduceAdd,Nat.reduceLeDiff,Int.reduceLT,Int.reduceLE,↓u_setN]
   refine (zg1 p.1 p.2 q.1).Q ?_
   cases h2:hasF p.1 p.2 q.1
   ·simp only [*,↓vcPre,↓z0,↓reduceIte,vcPost,vcStd,Nat.reduceEqDiff,reduceCtorEq,Nat.reduceAdd,Nat.reduceLeDiff,Int.reduceLT,Int.reduceLE,↓u_setN];simp [coversF,h1,h2]
   ·simp only [*,↓vcPre,↓z0,↓reduceIte,vcPost,vcStd,Nat.reduceEqDiff,reduceCtorEq,Nat.reduceAdd,Nat.reduceLeDiff,Int.reduceLT,Int.reduceLE,↓u_setN];simp [coversF,h1,h2,h3]
  ·simp only [*,↓vcPre,↓z0,↓reduceIte,vcPost,vcStd,Nat.reduceEqDiff,reduceCtorEq,Nat.reduceAdd,Nat.reduceLeDiff,Int.reduceLT,Int.reduceLE,↓u_setN]
   simp [coversF,h1,h3]
theorem zbf (r:Rule) (q:Int×Int) (a:At) (ha:a.cms.length≤1000000):Pur Tryz.prog 147 [.agg r.c,.agg [.int .u32 q.1,.int .i64 q.2],.agg a.c] (.bool (matchF r q a)):=by
 refine zn Tst.F147 (by simp [Tst.F147,Fn.mkX]) fun σ => ?_
 simp only [Tst.F147,Fn.mkX,Tst.b147]
 have e12:r.c.length=12:=rfl
 have e9:a.c.length=9:=rfl
 have r0:List.take 2 r.c=[.int .u32 r.ad,.int .i64 r.ln]:=rfl
 have r2:List.take 1 (List.drop 2 r.c)=[.int .i64 r.fr]:=rfl
 have r3:List.take 1 (List.drop 3 r.c)=[.int .i64 r.tl]:=rfl
 have r4:List.take 1 (List.drop 4 r.c)=[.int .u32 r.cm]:=rfl
 have a8:List.take 1 (List.drop 8 a.c)=[.sl 1 (a.cms.map cU)]:=rfl
 simp only [↓vcPre,↓z0,↓reduceIte,vcPost,vcStd,Nat.reduceEqDiff,reduceCtorEq,Nat.reduceAdd,Nat.reduceLeDiff,Int.reduceLT,Int.reduceLE,↓u_setN]
 refine AllocQ.i0 fun i hi => ?_
 simp only [↓vcPre,↓z0,↓reduceIte,vcPost,vcStd,Nat.reduceEqDiff,reduceCtorEq,Nat.reduceAdd,Nat.reduceLeDiff,Int.reduceLT,Int.reduceLE,↓u_setN]
 refine AllocQ.i1 fun j hj1 hj2 hj => ?_
 simp only [↓vcPre,↓z0,↓reduceIte,vcPost,vcStd,Nat.reduceEqDiff,reduceCtorEq,Nat.reduceAdd,Nat.reduceLeDiff,Int.reduceLT,Int.reduceLE,↓u_setN]
 refine AllocQ.i2 fun k hk1 hk2 hk3 hk4 hk => ?_
 have sT:Store.sub σ (((σ.set i (.box r.c)).set j (.box [.int .u32 q.1,.int .i64 q.2])).set k (.box a.c)):=za (zp hi hj hj1) hk
 have Tk:(((σ.set i (.box r.c)).set j (.box [.int .u32 q.1,.int .i64 q.2])).set k (.box a.c)) k=some (.box a.c):=Store.set_same _ _ _
 have Tj:(((σ.set i (.box r.c)).set j (.box [.int .u32 q.1,.int .i64 q.2])).set k (.box a.c)) j=some (.box [.int .u32 q.1,.int .i64 q.2]):=by rw [Store.set_ne _ _ hk4];exact Store.set_same _ _ _
 have Ti:(((σ.set i (.box r.c)).set j (.box [.int .u32 q.1,.int .i64 q.2])).set k (.box a.c)) i=some (.box r.c):=by rw [Store.set_ne _ _ hk2,Store.set_ne _ _ hj2];exact Store.set_same _ _ _
 simp only [↓vcPre,↓z0,↓reduceIte,vcPost,vcStd,Nat.reduceEqDiff,reduceCtorEq,Nat.reduceAdd,Nat.reduceLeDiff,Int.reduceLT,Int.reduceLE,↓u_setN]
 generalize ((σ.set i (.box r.c)).set j (.box [.int .u32 q.1,.int .i64 q.2])).set k (.box a.c)=T at sT Tk Tj Ti ⊢
 simp only [Ti,Tj,e12,r0,↓vcPre,↓z0,↓reduceIte,vcPost,vcStd,Nat.reduceEqDiff,reduceCtorEq,Nat.reduceAdd,Nat.reduceLeDiff,Int.reduceLT,Int.reduceLE,↓u_setN]
 refine (zfw (r.ad,r.ln) q).Q ?_
 have hM:matchF r q a=(coversF (r.ad,r.ln) q && (decide (r.fr≤q.2) && (decide (q.2≤r.tl) && (decide (r.cm=0) || decide (r.cm ∈ a.cms))))):=rfl
 have l1:¬ r.fr≤q.2→q.2<r.fr:=fun h=>by omega
 have l2:r.fr≤q.2→¬ q.2<r.fr:=fun h=>by omega
 have l3:¬ q.2≤r.tl→q.2>r.tl:=fun h=>by omega
 have l4:q.2≤r.tl→¬ q.2>r.tl:=fun h=>by omega
 cases h1:coversF (r.ad,r.ln) q
 ·rw [h1,Bool.false_and] at hM
  rw [hM]
  simp only [↓vcPre,↓z0,↓reduceIte,vcPost,vcStd,Nat.reduceEqDiff,reduceCtorEq,Nat.reduceAdd,Nat.reduceLeDiff,Int.reduceLT,Int.reduceLE,↓u_setN]
  exact sT
 by_cases h2:r.fr≤q.2
 ·have h2':=l2 h2
  by_cases h3:q.2≤r.tl
  ·have h3':=l4 h3
   rw [h1,decide_eq_true h2,decide_eq_true h3,Bool.true_and,Bool.true_and,Bool.true_and] at hM
   simp only [Ti,Tj,Tk,e12,e9,r2,r3,r4,h2',h3',↓vcPre,↓z0,↓reduceIte,vcPost,vcStd,Nat.reduceEqDiff,reduceCtorEq,Nat.reduceAdd,Nat.reduceLeDiff,Int.reduceLT,Int.reduceLE,↓u_setN]
   refine LoopQ.inv (S:=Nat×Bool) (fun w=>[(3,.ptr i 0),(5,.ptr k 0),(7,.bool w.2),(8,.int .i64 (w.1:Int))]) (fun _=>T)
    (fun w=>w.1≤a.cms.length∧w.2=(decide (r.cm=0) || decide (r.cm ∈ a.cms.take w.1))) (fun w=>a.cms.length+1 - w.1) (0,decide (r.cm=0)) rfl (Store.sub_refl _) ⟨by simp only;omega,by simp⟩ ?_
   rintro ⟨m,b⟩ ⟨hm,hb⟩
   simp only at hm hb
   simp only [Tk,a8,e9,↓vcPre,↓z0,↓reduceIte,vcPost,vcStd,Nat.reduceEqDiff,reduceCtorEq,Nat.reduceAdd,Nat.reduceLeDiff,Int.reduceLT,Int.reduceLE,↓u_setN]
   refine ⟨fun c1 => ?_,fun c1 => ?_⟩
   ·have ek:IntKind.i64.wrap ((m:Int)+1)=((m+1:Nat):Int):=by rw [zd (by unfold I64;omega)];omega
    have hstep:(decide (r.cm=0) || decide (r.cm ∈ a.cms.take (m+1)))=(b || decide (a.cms[m]=r.cm)):=by
     rw [hb,List.take_succ_eq_append_getElem c1]
     simp only [List.mem_append,List.mem_singleton,Bool.decide_or,Bool.or_assoc]
     congr 2
     simp only [eq_comm]
    cases b
    ·simp only [Tk,Ti,a8,e9,e12,r4,cU,ek,↓vcPre,↓z0,↓reduceIte,vcPost,vcStd,Nat.reduceEqDiff,reduceCtorEq,Nat.reduceAdd,Nat.reduceLeDiff,Int.reduceLT,Int.reduceLE,↓u_setN]
     exact ⟨c1,NextQ.to (m+1,decide (a.cms[m]=r.cm)) rfl (Store.sub_refl _) (by simp only;omega) ⟨by simp only;omega,by simp only;rw [hstep];rfl⟩⟩
    ·simp only [ek,↓vcPre,↓z0,↓reduceIte,vcPost,vcStd,Nat.reduceEqDiff,reduceCtorEq,Nat.reduceAdd,Nat.reduceLeDiff,Int.reduceLT,Int.reduceLE,↓u_setN]
     exact NextQ.to (m+1,true) rfl (Store.sub_refl _) (by simp only;omega) ⟨by simp only;omega,by simp only;rw [hstep];rfl⟩
   ·have hh:m=a.cms.length:=by omega
    subst hh
    rw [List.take_length] at hb
    rw [hM,←hb]
    simp only [↓vcPre,↓z0,↓reduceIte,vcPost,vcStd,Nat.reduceEqDiff,reduceCtorEq,Nat.reduceAdd,Nat.reduceLeDiff,Int.reduceLT,Int.reduceLE,↓u_setN]
    exact sT
  ·have h3':=l3 h3
   rw [h1,decide_eq_true h2,decide_eq_false h3,Bool.true_and,Bool.true_and,Bool.false_and] at hM
   rw [hM]
   simp only [Ti,Tj,Tk,e12,e9,r2,r3,r4,h2',h3',↓vcPre,↓z0,↓reduceIte,vcPost,vcStd,Nat.reduceEqDiff,reduceCtorEq,Nat.reduceAdd,Nat.reduceLeDiff,Int.reduceLT,Int.reduceLE,↓u_setN]
   exact sT
 ·have h2':=l1 h2
  rw [h1,decide_eq_false h2,Bool.true_and,Bool.false_and] at hM
  rw [hM]
  simp only [Ti,Tj,Tk,e12,e9,r2,r3,r4,h2',↓vcPre,↓z0,↓reduceIte,vcPost,vcStd,Nat.reduceEqDiff,reduceCtorEq,Nat.reduceAdd,Nat.reduceLeDiff,Int.reduceLT,Int.reduceLE,↓u_setN]
  exact sT
end Go.Am
namespace Go.Am
def lay (cur:Array Value) (o:Nat) (vs:List Value):Array Value:=(cur.toList.take o++vs++cur.toList.drop (o+vs.length)).toArray
theorem y8 {P:Program} (w:World) {dT sT ty elem:TypeId} {sz:Nat} (g o dLen dCap:Nat) (a:Addr) (sLen sCap k:Nat) (cur:Array Value) (t:TypeId) (cs:List Value)
 (hu:P.underlying dT=some (.slice elem)) (hs:tsz P elem=some sz) (hg:w.heap[g]? = some (.cells cur t (0,0))) (hk:k=Nat.min sLen dLen) (hn:cs.length=k*sz)
 (hsrc:∀ j v,cs[j]? = some v→w.cell? (a.add j)=some v) (hfit:o+cs.length≤cur.size) (h1:∀ v ∈ cs,v.oneCell'=true) :
 (Builtin.copy_ #[dT,sT] ty #[.slice (some ⟨g,o,none⟩) dLen dCap,.slice (some a) sLen sCap]).run P w = .ok (goInt k) (w.setRow g (lay cur o cs)):=by
 have hl:=run_loadCells_list (P:=P) w a cs hsrc
 have hst:=run_storeCells_at P g o t cs 0 cur w hg (by simpa using hfit) h1
 unfold Builtin.copy_
 simp [zh hu,qc,Builtin.firstCells,zy hs,←hk,←hn,hl,hst,lay]
theorem um (w:World) (row A B:Array Value) (e:TypeId):(((w.alloc (.cells row e (0,0))).drew.setRow w.heap.size A).drew.setRow w.heap.size B).heap=w.heap.push (.cells B e (0,0)):=by
 have h1:(w.alloc (.cells row e (0,0))).drew.heap[w.heap.size]? = some (.cells row e (0,0)):=yz _
 have h2:(((w.alloc (.cells row e (0,0))).drew.setRow w.heap.size A).drew).heap[w.heap.size]? = some (.cells A e (0,0)):=zw h1
 refine Array.ext_getElem? fun k => ?_
 by_cases hk:k=w.heap.size
 ·subst hk
  rw [zw h2]
  simp
 ·rw [ya _ hk]
  show ((w.alloc (.cells row e (0,0))).drew.setRow w.heap.size A).heap[k]? = _
  rw [ya _ hk]
  show (w.heap.push _)[k]? = _
  rw [Array.getElem?_push,Array.getElem?_push,if_neg hk,if_neg hk]
structure InsHolds (P:Program) (F:Nat) (tS e:TypeId) (esz bytes:Nat) (z:List AV):Prop where
 ent:Ent P F
 und:P.underlying tS=some (.slice e)
 sz:tsz P e=some esz
 zero:tzero P e=some z
 zl:z.length=esz
 inf:∃ i,P.info? e=some i∧i.bytes=bytes∧1≤i.bytes
 onto:∀ (base:Option Addr) (c:Nat) (xb:Addr) (xc:Nat) (w:World) (v':Value) (w':World),(Builtin.append_ #[tS,tS] tS #[.slice base 0 c,.slice (some xb) 1 xc]).run P w = .ok v' w' →
  Calls P F #[.slice base 0 c,.int .i64 0,.slice (some xb) 1 xc] w fun r w2=>r = .returned v'∧w2=w'
 shift:∀ (b o n c vb vo vc:Nat) (cur vcur:Array Value) (t vt:TypeId) (vs cs:List Value) (w:World),0<n→n≤140737488355328→n+1≤c→w.heap[b]? = some (.cells cur t (0,0))→w.heap[vb]? = some (.cells vcur vt (0,0))→vb≠b →
  vs.length=esz→cs.length=n*esz→(∀ j v,vs[j]? = some v→w.cell? ⟨vb,vo+j,none⟩=some v)→(∀ j v,cs[j]? = some v→w.cell? ⟨b,o+j,none⟩=some v)→o+(n+1)*esz≤cur.size →
  (∀ v ∈ vs,v.oneCell'=true)→(∀ v ∈ cs,v.oneCell'=true) →
  Calls P F #[.slice (some ⟨b,o,none⟩) n c,.int .i64 0,.slice (some ⟨vb,vo,none⟩) 1 vc] w fun r w2=>r = .returned (.slice (some ⟨b,o,none⟩) (n+1) c)∧w2.tape=w.tape∧w2.os=w.os∧w2.output=w.output∧w.drawn≤w2.drawn ∧
   w2.heap=(w.setRow b (lay (lay cur (o+esz) cs) o vs)).heap
 grow:∀ (b o n vb vo vc:Nat) (cur vcur:Array Value) (t vt:TypeId) (vs cs:List Value) (w:World),0<n→(n+1)*bytes≤140737488355328→w.heap[b]? = some (.cells cur t (0,0))→w.heap[vb]? = some (.cells vcur vt (0,0)) →
  vs.length=esz→cs.length=n*esz→(∀ j v,vs[j]? = some v→w.cell? ⟨vb,vo+j,none⟩=some v)→(∀ j v,cs[j]? = some v→w.cell? ⟨b,o+j,none⟩=some v) →
  (∀ v ∈ vs,v.oneCell'=true)→(∀ v ∈ cs,v.oneCell'=true) →
  Calls P F #[.slice (some ⟨b,o,none⟩) n n,.int .i64 0,.slice (some ⟨vb,vo,none⟩) 1 vc] w fun r w2=>∃ (cap:Nat) (row:Array Value),n+1≤cap∧row.size=cap*esz∧r = .returned (.slice (some ⟨w.heap.size,0,none⟩) (n+1) cap) ∧
   w2.tape=w.tape∧w2.os=w.os∧w2.output=w.output∧w2.heap=w.heap.push (.cells (lay (lay row 0 vs) esz cs) e (0,0))
section
variable {P:Program} {w:World} {G:Gh} {σ:Store}
theorem ERel.one {esz:Nat} {es:List (List AV)} {f:Nat→Value} (h:ERel G w esz es f):∀ v ∈ (List.range (es.length*esz)).map f,v.oneCell'=true:=by
 intro v hv
 obtain ⟨k,hk,rfl⟩:=List.mem_map.1 hv
 have hk':k<es.length*esz:=by simpa using hk
 have hpos:0<esz:=by
  rcases Nat.eq_zero_or_pos esz with h | h
  ·subst h;simp at hk'
  ·exact h
 obtain ⟨f1,f2,f3⟩:=h
 have hi':k / esz<es.length:=by rw [Nat.div_lt_iff_lt_mul hpos];exact hk'
 have hj':k % esz<(es[k / esz]).length:=by rw [f1 _ (List.getElem_mem hi')];exact Nat.mod_lt _ hpos
 have:=f3 (k / esz) (k % esz) hi' hj'
 rw [Nat.div_add_mod'] at this
 exact this.oneCell (f2 _ (List.getElem_mem hi') _ (List.getElem_mem hj'))
theorem z1t {b base n:Nat} {cur:Array Value} {t:TypeId} (hh:w.heap[b]? = some (.cells cur t (0,0))) (hs:base+n≤cur.size) :
 ∀ j v,((List.range n).map fun k=>cur.getD (base+k) undef)[j]? = some v→w.cell? ⟨b,base+j,none⟩=some v:=by
 intro j v hj
 have hjn:j<n:=by
  have:=(List.getElem?_eq_some_iff.1 hj).1
  simpa using this
 rw [xg hh,←hj,List.getElem?_map,List.getElem?_range hjn,Array.getElem?_eq_getElem (by omega)]
 simp [Array.getD_eq_getD_getElem?,Array.getElem?_eq_getElem (show base+j<cur.size by omega)]
theorem xy {cur:Array Value} {vs:List Value} {o:Nat} (h:o+vs.length≤cur.size) (k:Nat) :
 (lay cur o vs).getD k undef=if o≤k∧k<o+vs.length then vs.getD (k - o) undef else cur.getD k undef:=xo h k
theorem wg {cur:Array Value} {vs:List Value} {o:Nat} (h:o+vs.length≤cur.size):(lay cur o vs).size=cur.size:=ye h
theorem wo {n k:Nat} {f:Nat→Value} (h:k<n):((List.range n).map f).getD k undef=f k:=by
 simp [List.getD_eq_getElem?_getD,List.getElem?_map,List.getElem?_range h]
theorem z44 {G':Gh} {w':World} {esz o:Nat} {x:List AV} {L:List (List AV)} {fv fc:Nat→Value} {cur:Array Value} (hv:ERel G' w' esz [x] fv) (hc:ERel G' w' esz L fc) (hs:o+(L.length+1)*esz≤cur.size)
 (A:Array Value) (hA:A=lay (lay cur (o+esz) ((List.range (L.length*esz)).map fc)) o ((List.range esz).map fv)∨A=lay (lay cur o ((List.range esz).map fv)) (o+esz) ((List.range (L.length*esz)).map fc)) :
 A.size=cur.size∧ERel G' w' esz (x::L) (fun k=>A.getD (o+k) undef):=by
 have hm:(L.length+1)*esz=L.length*esz+esz:=Nat.succ_mul _ _
 have l1:((List.range (L.length*esz)).map fc).length=L.length*esz:=by simp
 have l2:((List.range esz).map fv).length=esz:=by simp
 have l3:([x]:List (List AV)).length*esz=esz:=by simp
 rcases hA with rfl | rfl
 ·have s1:(lay cur (o+esz) ((List.range (L.length*esz)).map fc)).size=cur.size:=wg (by rw [l1];omega)
  have hB:o+((List.range esz).map fv).length≤(lay cur (o+esz) ((List.range (L.length*esz)).map fc)).size:=by rw [s1,l2];omega
  refine ⟨(wg hB).trans s1,?_⟩
  refine ERel.append (xs:=[x]) hv hc (fun k hk => ?_) (fun k hk => ?_)
  ·rw [l3] at hk
   show (lay _ o _).getD (o+k) undef=_
   rw [xy hB,l2,if_pos (by omega),Nat.add_sub_cancel_left,wo hk]
  ·rw [l3]
   show (lay _ o _).getD (o+(esz+k)) undef=_
   rw [xy hB,l2,if_neg (by omega),xy (by rw [l1];omega),l1,if_pos (by omega),show o+(esz+k) - (o+esz)=k by omega,wo hk]
 ·have s1:(lay cur o ((List.range esz).map fv)).size=cur.size:=wg (by rw [l2];omega)
  have hB:o+esz+((List.range (L.length*esz)).map fc).length≤(lay cur o ((List.range esz).map fv)).size:=by rw [s1,l1];omega
  refine ⟨(wg hB).trans s1,?_⟩
  refine ERel.append (xs:=[x]) hv hc (fun k hk => ?_) (fun k hk => ?_)
  ·rw [l3] at hk
   show (lay _ (o+esz) _).getD (o+k) undef=_
   rw [xy hB,l1,if_neg (by omega),xy (by rw [l2];omega),l2,if_pos (by omega),Nat.add_sub_cancel_left,wo hk]
  ·rw [l3]
   show (lay _ (o+esz) _).getD (o+(esz+k)) undef=_
   rw [xy hB,l1,if_pos (by omega),show o+(esz+k) - (o+esz)=k by omega,wo hk]
theorem v8 {F:Nat} {tS e:TypeId} {esz bytes:Nat} {z:List AV} (H:InsHolds P F tS e esz bytes z) {s:AV} {L:List (List AV)} {x:List AV} {h:Nat} {Q:AV→Store→Prop}
 (hh:σ h=some (.arr esz [x])) (hS:(s = .nils∧L=[])∨∃ g,s = .os g esz 0 L.length∧σ g=some (.arr esz L)∧g≠h) (hsz:(L.length+1)*bytes≤140737488355328)
 (hQ1:∀ id,σ id=none→Q (.os id esz 0 (L.length+1)) (σ.set id (.arr esz (x::L)))) (hQ2:∀ g,s = .os g esz 0 L.length→Q (.os g esz 0 (L.length+1)) (σ.set g (.arr esz (x::L)))) :
 ACalls P F [s,.int .i64 0,.os h esz 0 1] σ Q:=by
 obtain ⟨i,hi,hib,hi1⟩:=H.inf
 refine ⟨H.ent,fun G w vs hs hvs => ?_⟩
 cases hvs with
 | cons hvS hvs =>
 cases hvs with
 | cons hv0 hvs =>
 cases hvs with
 | cons hvV hvs =>
 cases hvs
 obtain rfl:=hv0.of_int
 have hyV:=hvV
 rename_i vS0 vV
 have hslh:slc σ esz (.os h esz 0 1)=some [x]:=by simp [slc,hh]
 have empty:L=[]→∀ (vS:Value),VRel G w s vS→(∃ base c,vS = .slice base 0 c)→Calls P F [vS,.int .i64 0,vV].toArray w (fun e w'=>∃ v a G' σ',e = .returned v∧Ext G σ w G' σ' w'∧Sim G' σ' w'∧VRel G' w' a v∧Q a σ'):=by
  intro hL vS hr ⟨base,c,hvs⟩
  subst hvs
  have hK:appwp esz i.bytes s (.os h esz 0 1) σ Q:=by
   unfold appwp
   subst hL
   rcases hS with ⟨rfl,_⟩ | ⟨g,rfl,hg,_⟩
   ·rw [hslh]
    refine ⟨by simp at hsz ⊢;omega,?_⟩
    exact ⟨fun h0=>(by cases h0),fun _ id hid=>hQ1 id hid⟩
   ·rw [hslh,show slc σ esz (.os g esz 0 ([]:List (List AV)).length)=some [] by simp [slc,hg]]
    refine ⟨by simp at hsz ⊢;omega,?_⟩
    exact .inr ⟨hg,hQ2 g rfl,fun id hid=>hQ1 id hid⟩
  obtain ⟨v,w',G',σ',av,r1,r2,r3,r4,r5⟩:=z5o (ty:=tS) hs H.und H.sz H.und (fun k=>by simp) hi hi1 H.zero H.zl hr hyV hK
  obtain ⟨b,base',hb,⟨c',rfl,_⟩ | ⟨h0,_⟩⟩:=hyV.of_os
  ·exact (H.onto base c _ c' w v w' r1).mono fun r w2 ⟨e1,e2⟩=>⟨v,av,G',σ',e1,by rw [e2];exact r2,by rw [e2];exact r3,by rw [e2];exact r4,r5⟩
  ·cases h0
 rcases hS with ⟨rfl,hL⟩ | ⟨g,rfl,hg,hne⟩
 ·exact empty hL _ hvS ⟨none,0,hvS.of_nils⟩
 ·by_cases hL:L=[]
  ·refine empty hL _ hvS ?_
   subst hL
   obtain ⟨b,base,hb,⟨c,rfl,_⟩ | ⟨h0,x0,rfl⟩⟩:=hvS.of_os
   ·exact ⟨_,_,rfl⟩
   ·exact ⟨_,_,rfl⟩
  ·have hn:0<L.length:=List.length_pos_iff.2 hL
   obtain ⟨b,base,hbρ,⟨c,rfl,hlen,ty',N,hsh,hcap⟩ | ⟨h0,x0,rfl⟩⟩:=hvS.of_os
   ·obtain ⟨vb,vbase,hvρ,⟨vc,rfl,vlen,vty,vN,vsh,vcap⟩ | ⟨h0,_⟩⟩:=hvV.of_os
    ·obtain ⟨b',base',hb',ho⟩:=hs.used g _ hg
     rw [hbρ] at hb';cases hb'
     obtain ⟨b',base',hb',hov⟩:=hs.used h _ hh
     rw [hvρ] at hb';cases hb'
     cases ho with
     | arr gh gs gl gf gr =>
     cases hov with
     | arr vh vs' vl vf vr =>
     rename_i cur tyc vcur vtyc
     simp only [Nat.zero_mul,Nat.add_zero,List.length_singleton,Nat.one_mul] at *
     have hsh':N=cur.size:=by
      simp only [World.shape?,gh,Option.some.injEq,Prod.mk.injEq] at hsh;exact hsh.2.symm
     subst hsh'
     have hbb:vb≠b:=fun e=>by
      subst e
      exact hne (hs.inj g h _ _ _ _ _ hg hh hbρ hvρ)
     have EC:ERel G w esz L (fun k=>cur.getD (base+k) undef):=⟨gl,gf,gr⟩
     have EV:ERel G w esz [x] (fun k=>vcur.getD (vbase+k) undef):=⟨vl,vf,vr⟩
     have oC:=EC.one
     have oV:=EV.one
     have cC:=z1t gh gs
     have cV:=z1t vh vs'
     have lC:((List.range (L.length*esz)).map fun k=>cur.getD (base+k) undef).length=L.length*esz:=by simp
     have lV:((List.range esz).map fun k=>vcur.getD (vbase+k) undef).length=esz:=by simp
     simp only [List.length_singleton,Nat.one_mul] at oV
     have hm:(L.length+1)*esz=L.length*esz+esz:=Nat.succ_mul _ _
     by_cases hfit:L.length+1≤c
     ·have hcc:(L.length+1)*esz≤c*esz:=Nat.mul_le_mul_right _ hfit
      have hsN:base+(L.length+1)*esz≤cur.size:=by simp only [Nat.zero_add] at hcap;omega
      have hbig:L.length≤140737488355328:=by
       have:=Nat.mul_le_mul_left (L.length+1) (show 1≤bytes by omega)
       omega
      refine (H.shift b base L.length c vb vbase vc cur vcur tyc vtyc _ _ w hn hbig hfit gh vh hbb lV lC cV cC hsN oV oC).mono ?_
      rintro r w2 ⟨rfl,t1,t2,t3,t4,hH⟩
      have hget:w2.heap[b]? = some (.cells (lay (lay cur (base+esz) ((List.range (L.length*esz)).map fun k=>cur.getD (base+k) undef)) base ((List.range esz).map fun k=>vcur.getD (vbase+k) undef)) tyc (0,0)):=by
       rw [hH];exact zw gh
      have key:=fun (G':Gh) (w':World) (hvr:∀ a v,VRel G w a v→VRel G' w' a v)=>z44 (fv:=fun k=>vcur.getD (vbase+k) undef) (fc:=fun k=>cur.getD (base+k) undef) (G':=G') (w':=w') (o:=base) (cur:=cur) ⟨EV.1,EV.2.1,fun i j hi hj=>hvr _ _ (EV.2.2 i j hi hj)⟩ ⟨EC.1,EC.2.1,fun i j hi hj=>hvr _ _ (EC.2.2 i j hi hj)⟩ hsN _ (.inl rfl)
      have hsz2:=(key G w fun _ _ h=>h).1
      obtain ⟨g1,g2⟩:=hs.put (w':=w2) (o' := .arr esz (x::L)) hg hbρ t1 t2 t3 t4 (by rw [hH];exact xe _ _) (fun c hc=>by rw [hH];exact ya _ hc)
       (by simp only [World.shape?,hget,gh,hsz2])
       (fun hvr=>by
         obtain ⟨k1,k2,k3,k4⟩:=key G w2 hvr
         exact .arr hget (by rw [k1];simpa using hsN) k2 k3 k4)
      refine ⟨_,.os g esz 0 (L.length+1),G,_,rfl,g1,g2,?_,hQ2 g rfl⟩
      have hs2:w2.shape? b=some (tyc,cur.size):=by simp only [World.shape?,hget,hsz2]
      have:=VRel.os (G:=G) (w:=w2) (esz:=esz) (off:=0) (len:=L.length+1) (c:=c) hbρ hfit ⟨tyc,_,hs2,by simpa using hcap⟩
      simpa using this
     ·obtain rfl:c=L.length:=by omega
      obtain ⟨id,hidρ,hidσ⟩:=hs.fresh
      refine (H.grow b base L.length vb vbase vc cur vcur tyc vtyc _ _ w hn hsz gh vh lV lC cV cC oV oC).mono ?_
      rintro r w2 ⟨cap,row,hcap2,hrow,rfl,t1,t2,t3,hH⟩
      have hcc:(L.length+1)*esz≤cap*esz:=Nat.mul_le_mul_right _ hcap2
      have hsN:0+(L.length+1)*esz≤row.size:=by omega
      have hget:w2.heap[w.heap.size]? = some (.cells (lay (lay row 0 ((List.range esz).map fun k=>vcur.getD (vbase+k) undef)) esz ((List.range (L.length*esz)).map fun k=>cur.getD (base+k) undef)) e (0,0)):=by
       rw [hH];simp
      have key:=fun (G':Gh) (w':World) (hvr:∀ a v,VRel G w a v→VRel G' w' a v)=>z44 (fv:=fun k=>vcur.getD (vbase+k) undef) (fc:=fun k=>cur.getD (base+k) undef) (G':=G') (w':=w') (o:=0) (cur:=row) ⟨EV.1,EV.2.1,fun i j hi hj=>hvr _ _ (EV.2.2 i j hi hj)⟩ ⟨EC.1,EC.2.1,fun i j hi hj=>hvr _ _ (EC.2.2 i j hi hj)⟩ hsN _ (.inr rfl)
      simp only [Nat.zero_add] at key
      have hsz2:=(key G w fun _ _ h=>h).1
      obtain ⟨G',g1,g2,g3⟩:=hs.adopt (w':=w2) (o := .arr esz (x::L)) hidρ hidσ (g:=w.heap.size) (Nat.le_refl _) (by rw [hH];simp) (by rw [hH];simp) t1 t2 t3
       (fun b hb=>by rw [hH,Array.getElem?_push,if_neg (Nat.ne_of_lt hb)])
       (fun G' _ _ hvr=>by
         obtain ⟨k1,k2,k3,k4⟩:=key G' w2 hvr
         refine .arr hget (by rw [k1];simp;omega) k2 k3 fun i j hi hj => ?_
         have:=k4 i j hi hj
         simpa using this)
      refine ⟨_,.os id esz 0 (L.length+1),G',_,rfl,g1,g2,?_,hQ1 id hidσ⟩
      have hs2:w2.shape? w.heap.size=some (e,row.size):=by simp only [World.shape?,hget,hsz2]
      have:=VRel.os (G:=G') (w:=w2) (esz:=esz) (off:=0) (len:=L.length+1) (c:=cap) g3 hcap2 ⟨e,_,hs2,by simp;omega⟩
      simpa using this
    ·cases h0
   ·omega
end
end Go.Am
