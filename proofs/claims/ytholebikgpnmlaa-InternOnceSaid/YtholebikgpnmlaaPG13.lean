/- A part of the proof: a logic for calls over plain values, and the functions that the law reaches, each walked once. -/
import Derived.Test.YtholebikgpnmlaaPG12
import Derived.Shelf.Spec.SlicesInsertGrow
set_option linter.unusedVariables false
set_option linter.unusedSimpArgs false
set_option linter.unusedSectionVars false
namespace Go.Am
open Go.Proofs Go.Sort
def sideF (b:Bool):Int:=if b then -1 else 1
theorem c56 (b:Bool):Pur Try.prog 56 [.bool b] (.int .i64 (sideF b)):=by
 refine zo Tst.F56 (by simp [Tst.F56,Fn.mkX]) fun σ => ?_
 simp only [Tst.F56,Fn.mkX,Tst.b56]
 cases b <;> simp only [↓vcPre,↓z0,↓reduceIte,vcPost,vcStd,Nat.reduceEqDiff,reduceCtorEq,Nat.reduceAdd,Nat.reduceLeDiff,Int.reduceLT,Int.reduceLE,↓u_setN] <;> rfl
theorem c47 (l m:List Int) (h:l.length≤1000000):Pur Try.prog 47 [.sl 1 (l.map cU),.sl 1 (m.map cU)] (.bool (decide (l=m))):=by
 refine zo Tst.F47 (by simp [Tst.F47,Fn.mkX]) fun σ => ?_
 simp only [Tst.F47,Fn.mkX,Tst.b47]
 simp only [↓vcPre,↓z0,↓reduceIte,vcPost,vcStd,Nat.reduceEqDiff,reduceCtorEq,Nat.reduceAdd,Nat.reduceLeDiff,Int.reduceLT,Int.reduceLE,↓u_setN]
 refine ⟨fun h1=>(decide_eq_false (fun e=>h1 (by rw [e]))).symm,fun h1 => ?_⟩
 have hl:l.length=m.length:=by omega
 refine LoopQ.inv (S:=Nat) (fun k=>[(0,.sl 1 (l.map cU)),(1,.sl 1 (m.map cU)),(5,.int .i64 (k:Int))]) (fun _=>σ) (fun k=>k≤l.length∧∀ i (hi:i<l.length),i<k→l[i]=m[i]'(by omega)) (fun k=>l.length+1 - k) 0 rfl (Store.sub_refl _) ⟨by omega,fun i _ h=>by omega⟩ ?_
 rintro k ⟨hk,hp⟩
 simp only [↓vcPre,↓z0,↓reduceIte,vcPost,vcStd,Nat.reduceEqDiff,reduceCtorEq,Nat.reduceAdd,Nat.reduceLeDiff,Int.reduceLT,Int.reduceLE,↓u_setN]
 refine ⟨fun c1 => ?_,fun c1 => ?_⟩
 ·have ek:IntKind.i64.wrap ((k:Int)+1)=((k+1:Nat):Int):=by rw [zf (by unfold I64;omega)];omega
  refine ⟨c1,by omega,by simp [cU],?_⟩
  simp only [cU,↓vcPre,↓z0,↓reduceIte,vcPost,vcStd,Nat.reduceEqDiff,reduceCtorEq,Nat.reduceAdd,Nat.reduceLeDiff,Int.reduceLT,Int.reduceLE,↓u_setN]
  refine ⟨fun g1 => ?_,fun g1 => ?_⟩
  ·refine (decide_eq_false fun e=>g1 ?_).symm
   subst e;rfl
  ·rw [ek]
   refine NextQ.to (k+1) rfl (Store.sub_refl _) (by omega) ⟨by omega,fun i hi hik => ?_⟩
   by_cases hik':i=k
   ·subst hik';exact g1
   ·exact hp i hi (by omega)
 ·exact (decide_eq_true (List.ext_getElem hl fun i hi hi'=>hp i hi (by omega))).symm
theorem c32 (l m:List Seg) (hl:l.length≤1000000) (hm:m.length≤1000000) (hlo:∀ s ∈ l,s.ok) (hmo:∀ s ∈ m,s.ok):Pur Try.prog 32 [.sl 2 (l.map Seg.c),.sl 2 (m.map Seg.c)] (.int .i64 (cmpPath l m)):=by
 refine zo Tst.F32 (by simp [Tst.F32,Fn.mkX]) fun σ => ?_
 simp only [Tst.F32,Fn.mkX,Tst.b32]
 simp only [↓vcPre,↓z0,↓reduceIte,vcPost,vcStd,Nat.reduceEqDiff,reduceCtorEq,Nat.reduceAdd,Nat.reduceLeDiff,Int.reduceLT,Int.reduceLE,↓u_setN]
 refine LoopQ.inv (S:=Nat) (fun k=>[(0,.sl 2 (l.map Seg.c)),(1,.sl 2 (m.map Seg.c)),(5,.int .i64 (k:Int))]) (fun _=>σ) (fun k=>k≤l.length∧k≤m.length∧cmpG cmpSeg (l.drop k) (m.drop k)=cmpPath l m) (fun k=>l.length+1 - k) 0 rfl (Store.sub_refl _) ⟨by omega,by omega,rfl⟩ ?_
 rintro k ⟨hk,hk2,ho⟩
 simp only [↓vcPre,↓z0,↓reduceIte,vcPost,vcStd,Nat.reduceEqDiff,reduceCtorEq,Nat.reduceAdd,Nat.reduceLeDiff,Int.reduceLT,Int.reduceLE,↓u_setN]
 have hside:∀ x y:Int,x≠y→sideF (decide (x<y))=cmpI x y:=fun x y h=>by
  unfold sideF cmpI
  by_cases h1:x<y
  ·simp [h1]
  ·have h2:y<x:=by omega
   simp [h1,h2]
 have he1:(k=l.length∨k=m.length)→¬ (l.length:Int)=(m.length:Int)→sideF (decide (l.length<m.length))=cmpPath l m:=fun hkk h1=>by
  rw [←ho]
  by_cases h2:l.length<m.length
  ·rw [show List.drop k l=[] from List.drop_eq_nil_of_le (by omega),List.drop_eq_getElem_cons (l:=m) (by omega)]
   simp [sideF,cmpG,h2]
  ·rw [show List.drop k m=[] from List.drop_eq_nil_of_le (by omega),List.drop_eq_getElem_cons (l:=l) (by omega)]
   simp [sideF,cmpG,h2]
 have he2:(k=l.length∨k=m.length)→(l.length:Int)=(m.length:Int)→0=cmpPath l m:=fun hkk h1=>by
  rw [←ho,show List.drop k l=[] from List.drop_eq_nil_of_le (by omega),show List.drop k m=[] from List.drop_eq_nil_of_le (by omega)]
  rfl
 refine ⟨fun c1=>⟨fun c2 => ?_,fun c2 => ?_⟩,fun c1 => ?_⟩
 ·rw [List.drop_eq_getElem_cons c1,List.drop_eq_getElem_cons c2] at ho
  simp only [cmpG] at ho
  refine ⟨c1,c2,by simp [Seg.c],?_⟩
  have hxo:=hlo _ (List.getElem_mem c1)
  have hyo:=hmo _ (List.getElem_mem c2)
  have hc1:cmpSeg l[k] m[k]=orL [cmpI l[k].kind m[k].kind,cmpI l[k].ls.length m[k].ls.length,cmpG cmpI l[k].ls m[k].ls]:=rfl
  simp only [Seg.c,↓vcPre,↓z0,↓reduceIte,vcPost,vcStd,Nat.reduceEqDiff,reduceCtorEq,Nat.reduceAdd,Nat.reduceLeDiff,Int.reduceLT,Int.reduceLE,↓u_setN]
  refine ⟨fun g1=>⟨c1,c2,(c56 _).Q ?_⟩,fun g1=>⟨c1,c2,fun g2=>⟨c1,c2,(c56 _).Q ?_⟩,fun g2 => ?_⟩⟩
  ·have hz:cmpI l[k].kind m[k].kind≠0:=fun e=>g1 (cmpI_z.1 e)
   have h1:cmpSeg l[k] m[k]=cmpI l[k].kind m[k].kind:=by rw [hc1];simp only [orL];rw [if_neg hz]
   simp only [↓vcPre,↓z0,↓reduceIte,vcPost,vcStd,Nat.reduceEqDiff,reduceCtorEq,Nat.reduceAdd,Nat.reduceLeDiff,Int.reduceLT,Int.reduceLE,↓u_setN]
   rw [hside _ _ g1,←ho,if_neg (by rw [h1];exact hz),h1]
  ·have hz:cmpI l[k].ls.length m[k].ls.length≠0:=fun e=>g2 (cmpI_z.1 e)
   have h1:cmpSeg l[k] m[k]=cmpI l[k].ls.length m[k].ls.length:=by rw [hc1];simp only [orL];rw [if_pos (cmpI_z.2 g1),if_neg hz]
   have h2:=hside _ _ g2
   simp only [Int.ofNat_lt] at h2
   simp only [↓vcPre,↓z0,↓reduceIte,vcPost,vcStd,Nat.reduceEqDiff,reduceCtorEq,Nat.reduceAdd,Nat.reduceLeDiff,Int.reduceLT,Int.reduceLE,↓u_setN]
   rw [h2,←ho,if_neg (by rw [h1];exact hz),h1]
  ·have h1:cmpSeg l[k] m[k]=cmpG cmpI l[k].ls m[k].ls:=by
    rw [hc1];simp only [orL];rw [if_pos (cmpI_z.2 g1),if_pos (cmpI_z.2 g2)]
    split
    ·rename_i h;rw [h]
    ·rfl
   rw [h1] at ho
   unfold Seg.ok at hxo hyo
   refine LoopQ.inv (S:=Nat) (fun j=>[(0,.sl 2 (l.map Seg.c)),(1,.sl 2 (m.map Seg.c)),(5,.int .i64 (k:Int)),(6,.int .i64 (j:Int))]) (fun _=>σ) (fun j=>j≤l[k].ls.length∧cmpG cmpI (l[k].ls.drop j) (m[k].ls.drop j)=cmpG cmpI l[k].ls m[k].ls) (fun j=>l[k].ls.length+1 - j) 0 rfl (Store.sub_refl _) ⟨by omega,rfl⟩ ?_
   rintro j ⟨hj,hjo⟩
   simp only [Seg.c,↓vcPre,↓z0,↓reduceIte,vcPost,vcStd,Nat.reduceEqDiff,reduceCtorEq,Nat.reduceAdd,Nat.reduceLeDiff,Int.reduceLT,Int.reduceLE,↓u_setN]
   have hjl:IntKind.i64.wrap ((j:Int)+1)=((j+1:Nat):Int):=by rw [zf (by unfold I64;omega)];omega
   have hkl:IntKind.i64.wrap ((k:Int)+1)=((k+1:Nat):Int):=by rw [zf (by unfold I64;omega)];omega
   refine ⟨c1,fun d1 => ?_,fun d1 => ?_⟩
   ·have d2:j<m[k].ls.length:=by omega
    rw [List.drop_eq_getElem_cons d1,List.drop_eq_getElem_cons d2] at hjo
    simp only [cmpG] at hjo
    refine ⟨c1,c2,d1,by simp [cU],?_⟩
    simp only [cU,↓vcPre,↓z0,↓reduceIte,vcPost,vcStd,Nat.reduceEqDiff,reduceCtorEq,Nat.reduceAdd,Nat.reduceLeDiff,Int.reduceLT,Int.reduceLE,↓u_setN]
    refine ⟨d2,fun e1=>⟨c1,c2,d1,d2,(c56 _).Q ?_⟩,fun e1 => ?_⟩
    ·have hz:cmpI l[k].ls[j] m[k].ls[j]≠0:=fun e=>e1 (cmpI_z.1 e)
     rw [if_neg hz] at hjo
     simp only [↓vcPre,↓z0,↓reduceIte,vcPost,vcStd,Nat.reduceEqDiff,reduceCtorEq,Nat.reduceAdd,Nat.reduceLeDiff,Int.reduceLT,Int.reduceLE,↓u_setN]
     rw [hside _ _ e1,←ho,←hjo,if_neg hz]
    ·rw [if_pos (cmpI_z.2 e1)] at hjo
     rw [hjl]
     exact NextQ.to (j+1) rfl (Store.sub_refl _) (by omega) ⟨by omega,hjo⟩
   ·rw [show List.drop j l[k].ls=[] from List.drop_eq_nil_of_le (by omega),show List.drop j m[k].ls=[] from List.drop_eq_nil_of_le (by omega)] at hjo
    have h0:cmpG cmpI l[k].ls m[k].ls=0:=by rw [←hjo];rfl
    rw [if_pos h0] at ho
    rw [hkl]
    exact NextQ.to (k+1) rfl (Store.sub_refl _) (by omega) ⟨by omega,by omega,ho⟩
 ·refine ⟨fun h1=>(c56 _).Q ?_,he2 (by omega)⟩
  simp only [↓vcPre,↓z0,↓reduceIte,vcPost,vcStd,Nat.reduceEqDiff,reduceCtorEq,Nat.reduceAdd,Nat.reduceLeDiff,Int.reduceLT,Int.reduceLE,↓u_setN]
  rw [he1 (by omega) h1]
 ·refine ⟨fun h1=>(c56 _).Q ?_,he2 (by omega)⟩
  simp only [↓vcPre,↓z0,↓reduceIte,vcPost,vcStd,Nat.reduceEqDiff,reduceCtorEq,Nat.reduceAdd,Nat.reduceLeDiff,Int.reduceLT,Int.reduceLE,↓u_setN]
  rw [he1 (by omega) h1]
theorem z4y (p q:Bool):(p ==q)=decide (p=q):=by cases p <;> cases q <;> rfl
theorem c18 (a b:At) (ha:a.ok) (hb:b.ok):Pur Try.prog 18 [.agg a.c,.agg b.c] (.bool (decide (a=b))):=by
 refine zo Tst.F18 (by simp [Tst.F18,Fn.mkX]) fun σ => ?_
 simp only [Tst.F18,Fn.mkX,Tst.b18,At.c]
 simp only [↓vcPre,↓z0,↓reduceIte,vcPost,vcStd,Nat.reduceEqDiff,reduceCtorEq,Nat.reduceAdd,Nat.reduceLeDiff,Int.reduceLT,Int.reduceLE,↓u_setN]
 refine AllocQ.i0 fun i hi => ?_
 simp only [↓vcPre,↓z0,↓reduceIte,vcPost,vcStd,Nat.reduceEqDiff,reduceCtorEq,Nat.reduceAdd,Nat.reduceLeDiff,Int.reduceLT,Int.reduceLE,↓u_setN]
 refine AllocQ.i1 fun j hj1 hj2 hj => ?_
 simp only [hj1,hj2,↓vcPre,↓z0,↓reduceIte,vcPost,vcStd,Nat.reduceEqDiff,reduceCtorEq,Nat.reduceAdd,Nat.reduceLeDiff,Int.reduceLT,Int.reduceLE,↓u_setN]
 have hsub:=zm (s:=σ) (o:=(Obj.box [AV.int IntKind.i64 a.org,AV.sl 2 (List.map Seg.c a.path),AV.int IntKind.u32 a.nxt,AV.bool a.hm,AV.int IntKind.u32 a.med,AV.bool a.hp,AV.int IntKind.u32 a.prf,AV.bool a.atm,AV.sl 1 (List.map cU a.cms)])) (p:=(Obj.box [AV.int IntKind.i64 b.org,AV.sl 2 (List.map Seg.c b.path),AV.int IntKind.u32 b.nxt,AV.bool b.hm,AV.int IntKind.u32 b.med,AV.bool b.hp,AV.int IntKind.u32 b.prf,AV.bool b.atm,AV.sl 1 (List.map cU b.cms)])) hi hj hj1
 refine ⟨fun g1=>(c32 _ _ ha.1 hb.1 ha.2.1 hb.2.1).Q ?_,fun g1=>⟨(decide_eq_false (by rintro rfl;exact g1 rfl)).symm,hsub⟩⟩
 simp only [hj1,hj2,z4y,↓vcPre,↓z0,↓reduceIte,vcPost,vcStd,Nat.reduceEqDiff,reduceCtorEq,Nat.reduceAdd,Nat.reduceLeDiff,Int.reduceLT,Int.reduceLE,↓u_setN]
 refine ⟨fun g2=>⟨fun g3=>⟨fun g4=>⟨fun g5=>⟨fun g6=>⟨fun g7=>⟨fun g8=>(c47 _ _ ha.2.2).Q ?_,fun g8=>⟨(decide_eq_false (by rintro rfl;exact g8 rfl)).symm,hsub⟩⟩,fun g7=>⟨(decide_eq_false (by rintro rfl;exact g7 rfl)).symm,hsub⟩⟩,fun g6=>⟨(decide_eq_false (by rintro rfl;exact g6 rfl)).symm,hsub⟩⟩,fun g5=>⟨(decide_eq_false (by rintro rfl;exact g5 rfl)).symm,hsub⟩⟩,fun g4=>⟨(decide_eq_false (by rintro rfl;exact g4 rfl)).symm,hsub⟩⟩,fun g3=>⟨(decide_eq_false (by rintro rfl;exact g3 rfl)).symm,hsub⟩⟩,fun g2=>⟨(decide_eq_false (by rintro rfl;exact g2 (cmpPath_z.2 rfl))).symm,hsub⟩⟩
 simp only [↓vcPre,↓z0,↓reduceIte,vcPost,vcStd,Nat.reduceEqDiff,reduceCtorEq,Nat.reduceAdd,Nat.reduceLeDiff,Int.reduceLT,Int.reduceLE,↓u_setN]
 refine ⟨?_,hsub⟩
 rw [Bool.eq_iff_iff,decide_eq_true_eq,decide_eq_true_eq]
 have g2':=cmpPath_z.1 g2
 constructor
 ·intro h;cases a;cases b;simp_all
 ·rintro rfl;rfl
def shortS (s:Seg):Seg:={ s with ls:=s.ls.take 6 }
def shortA (a:At):At:={ a with path:=(a.path.take 18).map shortS,cms:=a.cms.take 34 }
theorem z5t (l:List Seg):List.drop (Int.toNat 0) (List.take ((some (18:Int)).getD ↑l.length).toNat (List.map Seg.c l))=(l.take 18).map Seg.c:=by rw [List.map_take];rfl
theorem z27 (E:Env) (a:At) (hp:a.path.length≤18) {σ t:Store} {i j:Nat} {z:List AV} {n rr:Env→Store→Prop} {x:Nat→Env→Store→Prop} (hi:t i=some (.box a.c)) (hj:t j=some (.box z)) (hz:z.length=9) (hij:¬ i=j) (hσi:σ i=none) (hσj:σ j=none) (hsub:Store.sub σ t)
 (hret:∀ s v,Store.sub σ s→Own 2 σ ((a.path.map shortS).map Seg.c) v s→s j=some (.box [.int .i64 a.org,v,.int .u32 a.nxt,.bool a.hm,.int .u32 a.med,.bool a.hp,.int .u32 a.prf,.bool a.atm,.sl 1 ((a.cms.take 34).map cU)])→rr [(2,.ptr j 0)] s) :
 bwp Try.prog Tsd.t36_3 ((1,.ptr i 0)::(2,.ptr j 0)::E) t n rr x:=by
 simp only [Tsd.t36_3]
 have hji:¬ j=i:=fun e=>hij e.symm
 simp only [↓vcPre,↓z0,↓reduceIte,vcPost,vcStd,Nat.reduceEqDiff,reduceCtorEq,Nat.reduceAdd,Nat.reduceLeDiff,Int.reduceLT,Int.reduceLE,↓u_setN]
 obtain ⟨τ,q1,q2,q3,q4⟩:∃ τ,Store.sub σ τ∧Store.sub τ t∧τ i=some (.box a.c)∧τ j=some (.box z):=⟨t,hsub,Store.sub_refl _,hi,hj⟩
 refine LoopQ.inv (S:=Nat×AV×Store) (fun q=>[(1,.ptr i 0),(2,.ptr j 0),(3,q.2.1),(4,.int .i64 (q.1:Int))]) (fun q=>q.2.2) (fun q=>q.1≤a.path.length∧Store.sub τ q.2.2∧Own 2 τ (((a.path.take q.1).map shortS).map Seg.c) q.2.1 q.2.2) (fun q=>a.path.length+1 - q.1) (0,.nils,t) rfl (Store.sub_refl _) ⟨by simp only;omega,q2,.nil⟩ ?_
 rintro ⟨k,v,s⟩ ⟨hk,hs,ho⟩
 simp only at hk hs ho
 have hsi:=hs _ _ q3
 have hsj:=hs _ _ q4
 simp only [hsi,At.c,↓vcPre,↓z0,↓reduceIte,vcPost,vcStd,Nat.reduceEqDiff,reduceCtorEq,Nat.reduceAdd,Nat.reduceLeDiff,Int.reduceLT,Int.reduceLE,↓u_setN]
 refine ⟨fun c1 => ?_,fun c1 => ?_⟩
 ·have ek:IntKind.i64.wrap ((k:Int)+1)=((k+1:Nat):Int):=by rw [zf (by unfold I64;omega)];omega
  refine ⟨c1,by simp [Seg.c],?_⟩
  refine AllocQ.i0 fun b hb => ?_
  simp only [Seg.c,↓vcPre,↓z0,↓reduceIte,vcPost,vcStd,Nat.reduceEqDiff,reduceCtorEq,Nat.reduceAdd,Nat.reduceLeDiff,Int.reduceLT,Int.reduceLE,↓u_setN]
  have key:∀ (E:Env) (T:Store) (n' rr':Env→Store→Prop) (x':Nat→Env→Store→Prop),T b=some (.box (shortS a.path[k]).c)→Store.sub s T →
   (∀ v' s',Store.sub τ s'→Own 2 τ (((a.path.take (k+1)).map shortS).map Seg.c) v' s'→n' [(1,.ptr i 0),(2,.ptr j 0),(3,v'),(4,.int .i64 (k:Int))] s') →
   bwp Try.prog Tsd.t36_34 ((1,.ptr i 0)::(2,.ptr j 0)::(3,v)::(4,.int .i64 (k:Int))::(5,.ptr b 0)::E) T n' rr' x':=by
   intro E T n' rr' x' hT hsT hn
   simp only [Tsd.t36_34]
   simp only [hT,Seg.c,↓vcPre,↓z0,↓reduceIte,vcPost,vcStd,Nat.reduceEqDiff,reduceCtorEq,Nat.reduceAdd,Nat.reduceLeDiff,Int.reduceLT,Int.reduceLE,↓u_setN]
   refine AllocQ.i0 fun g hg => ?_
   simp only [↓vcPre,↓z0,↓reduceIte,vcPost,vcStd,Nat.reduceEqDiff,reduceCtorEq,Nat.reduceAdd,Nat.reduceLeDiff,Int.reduceLT,Int.reduceLE,↓u_setN]
   have hsg:=Store.sub_set T g (.arr 2 [[.int .i64 (shortS a.path[k]).kind,.sl 1 ((shortS a.path[k]).ls.map cU)]]) hg
   refine Own.app (τ:=τ) (Store.sub_trans hs (Store.sub_trans hsT hsg)) (ho.mono (Store.sub_trans hsT hsg)) (zq (Store.set_same _ _ _) rfl) (by simp;omega) fun v' s' hs' ho'' => ?_
   refine hn v' s' hs' ?_
   simp only [List.take_add_one,List.getElem?_eq_getElem c1,Option.toList_some,List.map_append,List.map_cons,List.map_nil]
   exact ho''
  refine ⟨fun g1=>⟨by simp only [Option.getD_some];omega,?_⟩,fun g1 => ?_⟩
  ·refine key _ _ _ _ _ ?_ ?_ fun v' s' h1 h2 => ?_
   ·rw [Store.set_same]
    simp only [shortS,Seg.c,List.map_take];rfl
   ·rw [Store.set_set,Store.set_set];exact Store.sub_set _ _ _ hb
   simp only [ek,↓vcPre,↓z0,↓reduceIte,vcPost,vcStd,Nat.reduceEqDiff,reduceCtorEq,Nat.reduceAdd,Nat.reduceLeDiff,Int.reduceLT,Int.reduceLE,↓u_setN]
   exact NextQ.to (k+1,v',s') rfl (Store.sub_refl _) (by simp only;omega) ⟨by simp only;omega,h1,h2⟩
  ·refine key _ _ _ _ _ ?_ ?_ fun v' s' h1 h2 => ?_
   ·rw [Store.set_same]
    have:a.path[k].ls.take 6=a.path[k].ls:=List.take_of_length_le (by omega)
    simp only [shortS,Seg.c,this]
   ·rw [Store.set_set];exact Store.sub_set _ _ _ hb
   simp only [ek,↓vcPre,↓z0,↓reduceIte,vcPost,vcStd,Nat.reduceEqDiff,reduceCtorEq,Nat.reduceAdd,Nat.reduceLeDiff,Int.reduceLT,Int.reduceLE,↓u_setN]
   exact NextQ.to (k+1,v',s') rfl (Store.sub_refl _) (by simp only;omega) ⟨by simp only;omega,h1,h2⟩
 ·have hkl:a.path.take k=a.path:=List.take_of_length_le (by omega)
  rw [hkl] at ho
  have hv:v.isTup=false∧v.cells=[v]:=by
   rcases ho with ⟨_,rfl⟩ | ⟨g,rfl,_,_⟩ <;> exact ⟨rfl,rfl⟩
  have fin:∀ X Y:Obj,∀ vv:List AV,Y = .box vv→vv=[.int .i64 a.org,v,.int .u32 a.nxt,.bool a.hm,.int .u32 a.med,.bool a.hp,.int .u32 a.prf,.bool a.atm,.sl 1 ((a.cms.take 34).map cU)]→rr [(2,.ptr j 0)] ((s.set i X).set j Y):=by
   rintro X Y vv rfl rfl
   refine hret _ v (zb (zb (Store.sub_trans q1 hs) hσi) hσj) ?_ (Store.set_same _ _ _)
   rcases ho.weak q1 with h | ⟨g,h1,h2,h3⟩
   ·exact .inl h
   ·refine .inr ⟨g,h1,h2,?_⟩
    have hgi:¬ g=i:=fun e=>by rw [e,hsi] at h3;cases h3
    have hgj:¬ g=j:=fun e=>by rw [e,hsj] at h3;cases h3
    rw [Store.set_ne _ _ hgj,Store.set_ne _ _ hgi];exact h3
  simp only [hv.1,hv.2,hsi,hsj,hij,hji,At.c,hz,↓vcPre,↓z0,↓reduceIte,vcPost,vcStd,Nat.reduceEqDiff,reduceCtorEq,Nat.reduceAdd,Nat.reduceLeDiff,Int.reduceLT,Int.reduceLE,↓u_setN]
  refine ⟨fun g1=>⟨by simp only [Option.getD_some];omega,?_⟩,fun g1 => ?_⟩
  ·rw [zl _ _ (by simp [hz]),zk,Store.set_set]
   refine fin _ _ _ rfl ?_
   simp only [List.map_take];rfl
  ·rw [zl _ _ (by simp [hz]),zk]
   have:a.cms.take 34=a.cms:=List.take_of_length_le (by omega)
   exact fin _ _ _ rfl (by rw [this])
theorem EndQ.aggOwn {esz:Nat} {slots:List RS} {Q:AV→Store→Prop} {e:Env} {σ τ:Store} {L:List (List AV)} {cells:List AV} (k:Nat) {v:AV} (h1:e.res τ slots=some (.agg cells)) (hk:cells[k]? = some v) (ho:Own esz σ L v τ) (hs:Store.sub σ τ)
 (hf:∀ c ∈ cells.set k (.sl esz L),c.flat=true) (hQ:Q (.agg (cells.set k (.sl esz L))) σ) : @EndQ e τ ⟨slots,Q⟩:=by
 unfold EndQ
 rcases ho with ⟨rfl,rfl⟩ | ⟨g,rfl,hg,hh⟩
 ·exact ⟨_,h1,Weak.agg (WeakL.nil k esz hk (WeakL.forget hs (WeakL.pure ⟨hf,hQ⟩)))⟩
 ·refine ⟨_,h1,Weak.agg (WeakL.freeze k hk hh (by omega) (WeakL.forget (σ':=σ) (fun i o hi => ?_) (WeakL.pure ?_)))⟩
  ·rw [Store.del_ne _ (fun e=>by subst e;rw [hg] at hi;cases hi)];exact hs i o hi
  ·simp only [List.drop_zero,List.take_length];exact ⟨hf,hQ⟩
theorem c36 (a:At):Pur Try.prog 36 [.agg a.c] (.agg (shortA a).c):=by
 intro σ
 refine zj Tsd.F36 (by simp [Tsd.F36,Fn.mkX]) ?_
 simp only [Tsd.F36,Fn.mkX,Tsd.b36]
 simp only [At.c,↓vcPre,↓z0,↓reduceIte,vcPost,vcStd,Nat.reduceEqDiff,reduceCtorEq,Nat.reduceAdd,Nat.reduceLeDiff,Int.reduceLT,Int.reduceLE,↓u_setN]
 refine AllocQ.i0 fun i hi => ?_
 simp only [At.c,↓vcPre,↓z0,↓reduceIte,vcPost,vcStd,Nat.reduceEqDiff,reduceCtorEq,Nat.reduceAdd,Nat.reduceLeDiff,Int.reduceLT,Int.reduceLE,↓u_setN]
 refine AllocQ.i1 fun j hj1 hj2 hj => ?_
 simp only [hj1,hj2,z5t,↓vcPre,↓z0,↓reduceIte,vcPost,vcStd,Nat.reduceEqDiff,reduceCtorEq,Nat.reduceAdd,Nat.reduceLeDiff,Int.reduceLT,Int.reduceLE,↓u_setN]
 have key:∀ (E:Env) (t:Store) (n:Env→Store→Prop) (x:Nat→Env→Store→Prop) (z:List AV),z.length=9→t i=some (.box ({ a with path:=a.path.take 18 }:At).c)→t j=some (.box z)→Store.sub σ t →
  bwp Try.prog Tsd.t36_3 ((1,.ptr i 0)::(2,.ptr j 0)::E) t n (fun e s => @EndQ e s ⟨Tsd.F36.slots,fun r s=>s=σ∧r = .agg (shortA a).c⟩) x:=by
  intro E t n x z hz h1 h2 h3
  refine z27 E { a with path:=a.path.take 18 } (by simp;omega) h1 h2 hz hj2 hi hj h3 ?_
  intro s v hs ho hsj
  refine EndQ.aggOwn 1 (L:=((a.path.take 18).map shortS).map Seg.c) (v:=v) (cells:=[.int .i64 a.org,v,.int .u32 a.nxt,.bool a.hm,.int .u32 a.med,.bool a.hp,.int .u32 a.prf,.bool a.atm,.sl 1 ((a.cms.take 34).map cU)]) ?_ rfl ho hs ?_ ⟨rfl,rfl⟩
  ·show Env.res [(2,AV.ptr j 0)] s [RS.c 2 9 true]=_
   simp only [hsj,↓vcPre,↓z0,↓reduceIte,vcPost,vcStd,Nat.reduceEqDiff,reduceCtorEq,Nat.reduceAdd,Nat.reduceLeDiff,Int.reduceLT,Int.reduceLE,↓u_setN]
  ·intro c hc
   simp at hc
   rcases hc with rfl | rfl | rfl | rfl | rfl | rfl | rfl | rfl | rfl <;> rfl
 refine ⟨fun g1=>⟨by simp only [Option.getD_some];omega,?_⟩,fun g1 => ?_⟩
 ·refine key _ _ _ _ _ ?_ ?_ (by rw [Store.set_ne _ _ hj1,Store.set_same]) (zb (zm hi hj hj1) hi)
  ·rfl
  ·rw [Store.set_same];rfl
 ·have:a.path.take 18=a.path:=List.take_of_length_le (by omega)
  refine key _ _ _ _ _ ?_ ?_ (Store.set_same _ _ _) (zm hi hj hj1)
  ·rfl
  ·rw [Store.set_ne _ _ hj2,Store.set_same,this];rfl
end Go.Am
namespace Go.Am
theorem WeakL.freezeIn {as0:List AV} {σ:Store} {Q:List AV→Store→Prop} (k i j:Nat) {e2 id esz off len:Nat} {es cs:List (List AV)} (ha:as0[k]? = some (.sl e2 es)) (hi:i<es.length) (hj:j<es[i].length) (hc:es[i][j] = .os id esz off len)
 (hσ:σ id=some (.arr esz cs)) (hle:off+len≤cs.length)
 (h:WeakL (as0.set k (.sl e2 (es.set i (es[i].set j (.sl esz ((cs.drop off).take len)))))) (σ.del id) Q):WeakL as0 σ Q:=fun G w vs hs hr=>by
 obtain ⟨v,hv,hvr⟩:=hr.get k _ ha
 have key:∃ G',Ext G σ w G' (σ.del id) w∧Sim G' (σ.del id) w∧VRel G' w (.sl e2 (es.set i (es[i].set j (.sl esz ((cs.drop off).take len))))) v:=by
  cases hvr with
  | sl0=>simp at hi
  | sl f hb hne hcap hl hf hcell hvv =>
    have h0:=hvv i j hi hj
    rw [hc] at h0
    obtain ⟨G',h1,h2,h3⟩:=wn hs hσ hle h0
    refine ⟨G',h1,h2,?_⟩
    have hmem:∀ x ∈ es.set i (es[i].set j (.sl esz ((cs.drop off).take len))),x ∈ es∨x=es[i].set j (.sl esz ((cs.drop off).take len)):=fun x hx=>List.mem_or_eq_of_mem_set hx
    have hlen:(es.set i (es[i].set j (.sl esz ((cs.drop off).take len)))).length=es.length:=List.length_set
    have:=VRel.sl (G:=G') (w:=w) (esz:=e2) (es:=es.set i (es[i].set j (.sl esz ((cs.drop off).take len)))) f (h1.I _ hb) (by intro e;rw [e] at hlen;simp at hlen;omega) (by rw [hlen];exact hcap)
     (fun x hx=>by
       rcases hmem x hx with h | rfl
       ·exact hl x h
       ·rw [List.length_set];exact hl _ (List.getElem_mem hi))
     (fun x hx c hcx=>by
       rcases hmem x hx with h | rfl
       ·exact hf x h c hcx
       ·rcases List.mem_or_eq_of_mem_set hcx with h | rfl
        ·exact hf _ (List.getElem_mem hi) c h
        ·rfl)
     (fun a b hA hB=>hcell a b (by rw [←hlen];exact hA) hB)
     (fun a b hA hB=>by
       have hA':a<es.length:=by rw [←hlen];exact hA
       by_cases hai:a=i
       ·subst hai
        simp only [List.getElem_set_self] at hB ⊢
        by_cases hbj:b=j
        ·subst hbj
         simp only [List.getElem_set_self];exact h3
        ·rw [List.getElem_set_ne (fun e=>hbj e.symm)]
         exact h1.vrel hs (hvv a b hA' (by simpa using hB))
       ·simp only [List.getElem_set_ne (fun e=>hai e.symm)] at hB ⊢
        exact h1.vrel hs (hvv a b hA' hB))
    rw [hlen] at this
    exact this
 obtain ⟨G',h1,h2,h3⟩:=key
 obtain ⟨G'',as',σ',g1,g2,g3,g4⟩:=h G' w vs h2 (Rels.of_get (by simpa using hr.length) fun a ha' hi'=>by
  by_cases hik:a=k
  ·subst hik
   rw [List.getElem?_eq_getElem hi'] at hv;cases hv
   simp;exact h3
  ·rw [List.getElem_set_ne (Ne.symm hik)]
   have hi2:a<as0.length:=by simpa using ha'
   obtain ⟨u,hu,hur⟩:=hr.get a _ (List.getElem?_eq_getElem hi2)
   rw [List.getElem?_eq_getElem hi'] at hu;cases hu
   exact h1.vrel hs hur)
 exact ⟨G'',as',σ',h1.trans g1,g2,g3,g4⟩
end Go.Am
namespace Go.Am
open Go.Proofs Go.Sort
def delAll (s:Store) (gs:List Nat):Store:=gs.foldl Store.del s
theorem qj {s:Store}:∀ {gs:List Nat} {x:Nat},x ∉ gs→delAll s gs x=s x
 | [],_,_=>rfl
 | g::gs,x,h=>by
   simp only [List.mem_cons,not_or] at h
   show delAll (s.del g) gs x=s x
   rw [qj h.2,Store.del_ne _ h.1]
def segO (x:Seg) (g:Nat):List AV:=[.int .i64 x.kind,.os g 1 0 x.ls.length]
theorem z3g {Q:List AV→Store→Prop}:∀ (p:List Seg) (gs:List Nat) (pre:List (List AV)) (s:Store),gs.length=p.length→gs.Nodup →
 (∀ i (h:i<p.length) (h':i<gs.length),s gs[i]=some (.arr 1 (p[i].ls.map cU)))→WeakL [.sl 2 (pre++p.map Seg.c)] (delAll s gs) Q→WeakL [.sl 2 (pre++List.zipWith segO p gs)] s Q
 | [],[],pre,s,_,_,_,h=>h
 | [],_::_,_,_,hl,_,_,_=>by simp at hl
 | _::_,[],_,_,hl,_,_,_=>by simp at hl
 | x::p,g::gs,pre,s,hl,hn,hs,h=>by
   have h0:=hs 0 (by simp) (by simp)
   simp only [List.getElem_cons_zero] at h0
   rw [List.nodup_cons] at hn
   refine WeakL.freezeIn 0 pre.length 1 (id:=g) (esz:=1) (off:=0) (len:=x.ls.length) (cs:=x.ls.map cU) (es:=pre++List.zipWith segO (x::p) (g::gs)) rfl (by simp) (by simp [segO]) (by simp [segO]) h0 (by simp) ?_
   have e:(pre++List.zipWith segO (x::p) (g::gs)).set pre.length ((pre++List.zipWith segO (x::p) (g::gs))[pre.length]'(by simp) |>.set 1 (.sl 1 (((x.ls.map cU).drop 0).take x.ls.length)))=(pre++[x.c])++List.zipWith segO p gs:=by
    have ht:List.take x.ls.length (x.ls.map cU)=x.ls.map cU:=List.take_of_length_le (by simp)
    simp [segO,Seg.c,ht]
   rw [e]
   refine z3g p gs (pre++[x.c]) (s.del g) (by simpa using hl) hn.2 (fun i hi hi' => ?_) ?_
   ·rw [Store.del_ne _ (fun e=>hn.1 (by rw [←e];exact List.getElem_mem hi'))]
    have:=hs (i+1) (by simpa using hi) (by simpa using hi')
    simpa using this
   ·simpa [delAll] using h
def OwnP (τ:Store) (p:List Seg) (v:AV) (s:Store):Prop :=
 ∃ gs:List Nat,gs.length=p.length∧gs.Nodup∧(∀ g ∈ gs,τ g=none)∧(∀ i (h:i<p.length) (h':i<gs.length),s gs[i]=some (.arr 1 (p[i].ls.map cU)))∧Own 2 τ (List.zipWith segO p gs) v s
theorem OwnP.nil {τ s:Store}:OwnP τ [] .nils s:=⟨[],rfl,.nil,by simp,fun i h=>by simp at h,.nil⟩
theorem OwnP.app {bytes:Nat} {τ s0 s:Store} {p:List Seg} {x:Seg} {j:Nat} {v wv:AV} {K:AV→Store→Prop} (hτ:Store.sub τ s0) (h0:Store.sub s0 s) (ho:OwnP τ p v s0) (hj:s j=some (.arr 1 (x.ls.map cU))) (hj0:s0 j=none)
 (hw:slc s 2 wv=some [segO x j]) (hsz:(p.length+1)*bytes≤140737488355328) (h:∀ v' s',Store.sub τ s'→OwnP τ (p++[x]) v' s'→K v' s'):appwp 2 bytes v wv s K:=by
 obtain ⟨gs,hl,hn,hg,hi,ho⟩:=ho
 have hτj:τ j=none:=zi hτ hj0
 have hjg:j ∉ gs:=fun e=>by
  obtain ⟨i,hi',rfl⟩:=List.getElem_of_mem e
  rw [hi i (by omega) hi'] at hj0;cases hj0
 have hz:(List.zipWith segO p gs).length=p.length:=by simp [hl]
 have fin:∀ (τ2:Store) v' s',Store.sub τ τ2→Store.sub τ2 s'→τ2 j=some (.arr 1 (x.ls.map cU))→(∀ i (h:i<p.length) (h':i<gs.length),τ2 gs[i]=some (.arr 1 (p[i].ls.map cU)))→Own 2 τ2 (List.zipWith segO p gs++[segO x j]) v' s'→K v' s':=by
  intro τ2 v' s' k1 k2 k3 k4 k5
  refine h v' s' (Store.sub_trans k1 k2) ⟨gs++[j],by simp [hl],?_,?_,?_,?_⟩
  ·rw [List.nodup_append]
   refine ⟨hn,by simp,fun a ha b hb => ?_⟩
   simp only [List.mem_singleton] at hb
   subst hb
   exact fun e=>hjg (e ▸ ha)
  ·intro g hgm
   rcases List.mem_append.1 hgm with h | h
   ·exact hg g h
   ·simp only [List.mem_singleton] at h;subst h;exact hτj
  ·intro i hA hB
   by_cases hip:i<p.length
   ·rw [List.getElem_append_left (by omega),List.getElem_append_left hip]
    exact k2 _ _ (k4 i hip (by omega))
   ·have hip':i=p.length:=by simp at hA;omega
    subst hip'
    have e1:(gs++[j])[p.length]'hB=j:=by
     rw [List.getElem_append_right (by omega)];simp
    have e2:(p++[x])[p.length]'hA=x:=by
     rw [List.getElem_append_right (by omega)];simp
    rw [e1,e2];exact k2 _ _ k3
  ·rw [List.zipWith_append (by omega)]
   exact k5.weak k1
 rcases ho with ⟨hL,rfl⟩ | ⟨g,rfl,hgg,hh⟩
 ·refine Own.app (τ:=s) (L:=List.zipWith segO p gs) (Store.sub_refl _) (.inl ⟨hL,rfl⟩) hw (by rw [hz];exact hsz) fun v' s' hs ho' => ?_
  exact fin s v' s' (Store.sub_trans hτ h0) hs hj (fun i h h'=>h0 _ _ (hi i h h')) ho'
 ·have hgi:∀ i (h':i<gs.length),gs[i]≠g:=fun i h' e=>by
   have:=hi i (by omega) h'
   rw [e,hh] at this;cases this
  have hjg':j≠g:=fun e=>by rw [e,hh] at hj0;cases hj0
  have hsd:Store.sub (s.del g) s:=fun y o hy=>by
   by_cases hyg:y=g
   ·subst hyg;simp at hy
   ·rw [Store.del_ne _ hyg] at hy;exact hy
  refine Own.app (τ:=s.del g) (L:=List.zipWith segO p gs) hsd (.inr ⟨g,rfl,by simp,h0 _ _ hh⟩) hw (by rw [hz];exact hsz) fun v' s' hs ho' => ?_
  refine fin (s.del g) v' s' (fun y o hy => ?_) hs (by rw [Store.del_ne _ hjg'];exact hj) (fun i h h'=>by rw [Store.del_ne _ (hgi i h')];exact h0 _ _ (hi i h h')) ho'
  rw [Store.del_ne _ (fun e=>by subst e;rw [hgg] at hy;cases hy)]
  exact h0 _ _ (hτ _ _ hy)
theorem EndQ.ownP {slots:List RS} {Q:AV→Store→Prop} {e:Env} {σ τ:Store} {p:List Seg} {v:AV} (h1:e.res τ slots=some v) (ho:OwnP σ p v τ) (hs:Store.sub σ τ) (h4:Q (.sl 2 (p.map Seg.c)) σ) : @EndQ e τ ⟨slots,Q⟩:=by
 obtain ⟨gs,hl,hn,hg,hi,ho⟩:=ho
 rcases ho with ⟨h0,rfl⟩ | ⟨g,rfl,hgg,hh⟩
 ·have:p=[]:=by
   have:=congrArg List.length h0
   simp [hl] at this
   exact this
  subst this
  exact EndQ.nil1 2 σ h1 hs h4
 ·unfold EndQ
  refine ⟨_,h1,Weak.of_one (WeakL.freeze 0 rfl hh (by omega) ?_)⟩
  simp only [List.set_cons_zero,List.drop_zero,List.take_length]
  have hgi:∀ i (h':i<gs.length),gs[i]≠g:=fun i h' e=>by
   have:=hi i (by omega) h'
   rw [e,hh] at this;cases this
  refine z3g (Q:=_) p gs [] (τ.del g) hl hn (fun i h h'=>by rw [Store.del_ne _ (hgi i h')];exact hi i h h') ?_
  refine WeakL.forget (σ':=σ) (fun x o hx => ?_) (WeakL.pure ⟨_,rfl,h4⟩)
  have h1:x ∉ gs:=fun e=>by rw [hg x e] at hx;cases hx
  rw [qj h1,Store.del_ne _ (fun e=>by subst e;rw [hgg] at hx;cases hx)]
  exact hs x o hx
end Go.Am
namespace Go.Am
open Go.Proofs Go.Sort
theorem c42 (p:List Seg) (h:p.length≤1000000) (ho:∀ s ∈ p,s.ok):Pur Try.prog 42 [.sl 2 (p.map Seg.c)] (.sl 2 (p.map Seg.c)):=by
 intro σ
 refine zj Tst.F42 (by simp [Tst.F42,Fn.mkX]) ?_
 simp only [Tst.F42,Fn.mkX,Tst.b42]
 simp only [↓vcPre,↓z0,↓reduceIte,vcPost,vcStd,Nat.reduceEqDiff,reduceCtorEq,Nat.reduceAdd,Nat.reduceLeDiff,Int.reduceLT,Int.reduceLE,↓u_setN]
 refine LoopQ.inv (S:=Nat×AV×Store) (fun q=>[(0,.sl 2 (p.map Seg.c)),(3,q.2.1),(4,.int .i64 (q.1:Int))]) (fun q=>q.2.2)
  (fun q=>q.1≤p.length∧Store.sub σ q.2.2∧OwnP σ (p.take q.1) q.2.1 q.2.2) (fun q=>p.length+1 - q.1) (0,.nils,σ) rfl (Store.sub_refl _) ⟨by simp only;omega,Store.sub_refl _,OwnP.nil⟩ ?_
 rintro ⟨k,v,s⟩ ⟨hk,hs,ho'⟩
 simp only at hk hs ho'
 simp only [↓vcPre,↓z0,↓reduceIte,vcPost,vcStd,Nat.reduceEqDiff,reduceCtorEq,Nat.reduceAdd,Nat.reduceLeDiff,Int.reduceLT,Int.reduceLE,↓u_setN]
 refine ⟨fun c1 => ?_,fun c1 => ?_⟩
 ·have ek:IntKind.i64.wrap ((k:Int)+1)=((k+1:Nat):Int):=by rw [zf (by unfold I64;omega)];omega
  have hx:=ho _ (List.getElem_mem c1)
  unfold Seg.ok at hx
  refine ⟨c1,c1,by simp [Seg.c],?_⟩
  simp only [Seg.c,↓vcPre,↓z0,↓reduceIte,vcPost,vcStd,Nat.reduceEqDiff,reduceCtorEq,Nat.reduceAdd,Nat.reduceLeDiff,Int.reduceLT,Int.reduceLE,↓u_setN]
  have hroom:(([]:List (List AV)).length+(p[k].ls.map cU).length)*4≤140737488355328:=by simp;omega
  refine ⟨?_,?_⟩
  ·refine AllocQ.i0 fun i hi => ?_
   simp only [↓vcPre,↓z0,↓reduceIte,vcPost,vcStd,Nat.reduceEqDiff,reduceCtorEq,Nat.reduceAdd,Nat.reduceLeDiff,Int.reduceLT,Int.reduceLE,↓u_setN]
   refine xr (zq (Store.set_same _ _ _) rfl) vj hroom fun j hj => ?_
   simp only [↓vcPre,↓z0,↓reduceIte,vcPost,vcStd,Nat.reduceEqDiff,reduceCtorEq,Nat.reduceAdd,Nat.reduceLeDiff,Int.reduceLT,Int.reduceLE,↓u_setN]
   have hji:j≠i:=fun e=>by subst e;rw [Store.set_same] at hj;cases hj
   have hj0:s j=none:=by rw [Store.set_ne _ _ hji] at hj;exact hj
   have hsub:Store.sub s (((s.set i (Obj.arr 1 [])).del i).set j (Obj.arr 1 (List.map cU p[k].ls))):=fun y o hy=>by
    have h1:y≠i:=fun e=>by subst e;rw [hi] at hy;cases hy
    have h2:y≠j:=fun e=>by subst e;rw [hj0] at hy;cases hy
    rw [Store.set_ne _ _ h2,Store.del_ne _ h1,Store.set_ne _ _ h1];exact hy
   have hjs:(((s.set i (Obj.arr 1 [])).del i).set j (Obj.arr 1 (List.map cU p[k].ls))) j=some (.arr 1 (p[k].ls.map cU)):=Store.set_same _ _ _
   refine AllocQ.i0 fun b hb => ?_
   simp only [Nat.zero_add,↓vcPre,↓z0,↓reduceIte,vcPost,vcStd,Nat.reduceEqDiff,reduceCtorEq,Nat.reduceAdd,Nat.reduceLeDiff,Int.reduceLT,Int.reduceLE,↓u_setN]
   refine OwnP.app (τ:=σ) (s0:=s) (x:=p[k]) (j:=j) hs (Store.sub_trans hsub (Store.sub_set _ b _ hb)) ho' (Store.sub_set _ b _ hb _ _ hjs) hj0 (zq (Store.set_same _ _ _) rfl) (by simp;omega) fun v' s' hs' ho'' => ?_
   rw [ek]
   refine NextQ.to (k+1,v',s') rfl (Store.sub_refl _) (by simp only;omega) ⟨by simp only;omega,hs',?_⟩
   simp only [List.take_add_one,List.getElem?_eq_getElem c1,Option.toList_some]
   exact ho''
  ·refine AllocQ.i0 fun i hi => ?_
   simp only [↓vcPre,↓z0,↓reduceIte,vcPost,vcStd,Nat.reduceEqDiff,reduceCtorEq,Nat.reduceAdd,Nat.reduceLeDiff,Int.reduceLT,Int.reduceLE,↓u_setN]
   refine ⟨⟨by simp [Seg.c],?_⟩,?_⟩
   ·simp only [Seg.c,↓vcPre,↓z0,↓reduceIte,vcPost,vcStd,Nat.reduceEqDiff,reduceCtorEq,Nat.reduceAdd,Nat.reduceLeDiff,Int.reduceLT,Int.reduceLE,↓u_setN]
    refine xr (zq (Store.set_same _ _ _) rfl) vj hroom fun j hj => ?_
    simp only [↓vcPre,↓z0,↓reduceIte,vcPost,vcStd,Nat.reduceEqDiff,reduceCtorEq,Nat.reduceAdd,Nat.reduceLeDiff,Int.reduceLT,Int.reduceLE,↓u_setN]
    have hji:j≠i:=fun e=>by subst e;rw [Store.set_same] at hj;cases hj
    have hj0:s j=none:=by rw [Store.set_ne _ _ hji] at hj;exact hj
    have hsub:Store.sub s (((s.set i (Obj.arr 1 [])).del i).set j (Obj.arr 1 (List.map cU p[k].ls))):=fun y o hy=>by
     have h1:y≠i:=fun e=>by subst e;rw [hi] at hy;cases hy
     have h2:y≠j:=fun e=>by subst e;rw [hj0] at hy;cases hy
     rw [Store.set_ne _ _ h2,Store.del_ne _ h1,Store.set_ne _ _ h1];exact hy
    have hjs:(((s.set i (Obj.arr 1 [])).del i).set j (Obj.arr 1 (List.map cU p[k].ls))) j=some (.arr 1 (p[k].ls.map cU)):=Store.set_same _ _ _
    refine AllocQ.i0 fun b hb => ?_
    simp only [Nat.zero_add,↓vcPre,↓z0,↓reduceIte,vcPost,vcStd,Nat.reduceEqDiff,reduceCtorEq,Nat.reduceAdd,Nat.reduceLeDiff,Int.reduceLT,Int.reduceLE,↓u_setN]
    refine OwnP.app (τ:=σ) (s0:=s) (x:=p[k]) (j:=j) hs (Store.sub_trans hsub (Store.sub_set _ b _ hb)) ho' (Store.sub_set _ b _ hb _ _ hjs) hj0 (zq (Store.set_same _ _ _) rfl) (by simp;omega) fun v' s' hs' ho'' => ?_
    rw [ek]
    refine NextQ.to (k+1,v',s') rfl (Store.sub_refl _) (by simp only;omega) ⟨by simp only;omega,hs',?_⟩
    simp only [List.take_add_one,List.getElem?_eq_getElem c1,Option.toList_some]
    exact ho''
   ·refine xr (zq (Store.set_same _ _ _) rfl) vj hroom fun j hj => ?_
    refine ⟨by simp [Seg.c],?_⟩
    simp only [Seg.c,↓vcPre,↓z0,↓reduceIte,vcPost,vcStd,Nat.reduceEqDiff,reduceCtorEq,Nat.reduceAdd,Nat.reduceLeDiff,Int.reduceLT,Int.reduceLE,↓u_setN]
    have hji:j≠i:=fun e=>by subst e;rw [Store.set_same] at hj;cases hj
    have hj0:s j=none:=by rw [Store.set_ne _ _ hji] at hj;exact hj
    have hsub:Store.sub s (((s.set i (Obj.arr 1 [])).del i).set j (Obj.arr 1 (List.map cU p[k].ls))):=fun y o hy=>by
     have h1:y≠i:=fun e=>by subst e;rw [hi] at hy;cases hy
     have h2:y≠j:=fun e=>by subst e;rw [hj0] at hy;cases hy
     rw [Store.set_ne _ _ h2,Store.del_ne _ h1,Store.set_ne _ _ h1];exact hy
    have hjs:(((s.set i (Obj.arr 1 [])).del i).set j (Obj.arr 1 (List.map cU p[k].ls))) j=some (.arr 1 (p[k].ls.map cU)):=Store.set_same _ _ _
    refine AllocQ.i0 fun b hb => ?_
    simp only [Nat.zero_add,↓vcPre,↓z0,↓reduceIte,vcPost,vcStd,Nat.reduceEqDiff,reduceCtorEq,Nat.reduceAdd,Nat.reduceLeDiff,Int.reduceLT,Int.reduceLE,↓u_setN]
    refine OwnP.app (τ:=σ) (s0:=s) (x:=p[k]) (j:=j) hs (Store.sub_trans hsub (Store.sub_set _ b _ hb)) ho' (Store.sub_set _ b _ hb _ _ hjs) hj0 (zq (Store.set_same _ _ _) rfl) (by simp;omega) fun v' s' hs' ho'' => ?_
    rw [ek]
    refine NextQ.to (k+1,v',s') rfl (Store.sub_refl _) (by simp only;omega) ⟨by simp only;omega,hs',?_⟩
    simp only [List.take_add_one,List.getElem?_eq_getElem c1,Option.toList_some]
    exact ho''
 ·have hkl:p.take k=p:=List.take_of_length_le (by omega)
  rw [hkl] at ho'
  exact EndQ.ownP rfl ho' hs ⟨rfl,rfl⟩
end Go.Am
namespace Go.Am.Tsf
open Go.Proofs Go.Am.B
def t33_34:BC := .seq (z [m 34 0] [0,1,5,34] (z [m 35 5] [0,1,5,34,35] (z [p 36 (.slice 1 false true) [.t 34,.t 35]] [0,1,5,36] (z [m 38 1] [0,5,36,38] (z [m 41 0] [5,36,38,41] (z [m 42 5] [36,38,41,42] (z [p 43 (.slice 1 true false) [.t 41,.t 42]] [36,38,43] (.both (z [⟨some 33,none,.alloc (.mksl 1 0),[]⟩] [33,36,38,43] (.both (z [⟨some 37,none,.loud (.app 1 4),[.t 33,.t 36]⟩] [37,38,43] (z [⟨some 39,none,.alloc (.mksl 1 1),[.t 38]⟩] [37,39,43] (z [⟨some 40,none,.loud (.app 1 4),[.t 37,.t 39]⟩] [40,43] (z [⟨some 44,none,.loud (.app 1 4),[.t 40,.t 43]⟩] [44] (z [m 4 44] [4] (.ops [] [4])))))) (.both (z [⟨some 39,none,.alloc (.mksl 1 1),[.t 38]⟩] [33,36,39,43] (z [⟨some 37,none,.loud (.app 1 4),[.t 33,.t 36]⟩] [37,39,43] (z [⟨some 40,none,.loud (.app 1 4),[.t 37,.t 39]⟩] [40,43] (z [⟨some 44,none,.loud (.app 1 4),[.t 40,.t 43]⟩] [44] (z [m 4 44] [4] (.ops [] [4])))))) (.top)))) (.both (z [⟨some 39,none,.alloc (.mksl 1 1),[.t 38]⟩] [36,39,43] (z [⟨some 33,none,.alloc (.mksl 1 0),[]⟩] [33,36,39,43] (z [⟨some 37,none,.loud (.app 1 4),[.t 33,.t 36]⟩] [37,39,43] (z [⟨some 40,none,.loud (.app 1 4),[.t 37,.t 39]⟩] [40,43] (z [⟨some 44,none,.loud (.app 1 4),[.t 40,.t 43]⟩] [44] (z [m 4 44] [4] (.ops [] [4]))))))) (.top)))))))))) .ret
def b33:BC:=z [k 4 .nils] [0,1] (z [j 5 0] [0,1,5] (.seq (.block 0 (.loop [0,1,5] (.seq (z [m 6 5,m 7 0,u 8 .len 7,b 9 .lss 6 8,m 10 9,⟨some 11,some (10,true),.pure (.mov),[.t 0]⟩,⟨some 12,some (10,true),.pure (.mov),[.t 5]⟩,⟨some 13,some (10,true),.pure (.idx 1),[.t 11,.t 12]⟩,⟨some 14,some (10,true),.load (.ld 1 false),[.t 13]⟩,⟨some 15,some (10,true),.pure (.mov),[.t 1]⟩,⟨some 16,some (10,true),.pure (.bin .lss),[.t 14,.t 15]⟩,⟨some 17,none,.pick,[.t 10,.t 16,.c (.bool false)]⟩] [0,1,5,17] (.cond (.t 17) .skip (.exit 0))) (.block 1 (.ops [m 18 5,c 19 .add 18 1,m 5 19] [0,1,5]))))) (.seq (z [m 20 5,m 21 0,u 22 .len 21,b 23 .lss 20 22,m 24 23,⟨some 25,some (24,true),.pure (.mov),[.t 0]⟩,⟨some 26,some (24,true),.pure (.mov),[.t 5]⟩,⟨some 27,some (24,true),.pure (.idx 1),[.t 25,.t 26]⟩,⟨some 28,some (24,true),.load (.ld 1 false),[.t 27]⟩,⟨some 29,some (24,true),.pure (.mov),[.t 1]⟩,⟨some 30,some (24,true),.pure (.bin .eql),[.t 28,.t 29]⟩,⟨some 31,none,.pick,[.t 24,.t 30,.c (.bool false)]⟩] [0,1,5,31] (.cond (.t 31) (z [m 32 0,m 4 32] [4] .ret) .skip)) t33_34)))
def F33:Fn Try.prog 33:=Fn.mkX false b33 [.t 4] 45 Try.f33 _ Try.func33 (by decide) rfl Try.ntmps33 (by kernel_rfl) (by kernel_rfl)
end Go.Am.Tsf
namespace Go.Am
open Go.Proofs Go.Sort
def putL:List Int→Int→List Int
 | [],n=>[n]
 | x::r,n=>if x<n then x::putL r n else if x=n then x::r else n::x::r
theorem z5q {L:List Int} {n:Int} {k:Nat} (hk:k≤L.length) (h:∀ i (h:i<L.length),i<k→L[i]<n):putL L n=L.take k++putL (L.drop k) n:=by
 induction L generalizing k with
 | nil=>simp at hk;subst hk;rfl
 | cons x r ih =>
   cases k with
   | zero=>simp
   | succ k =>
     have h0:=h 0 (by simp) (by omega)
     simp only [List.getElem_cons_zero] at h0
     simp only [putL,if_pos h0,List.take_succ_cons,List.drop_succ_cons,List.cons_append]
     rw [ih (by simpa using hk) (fun i hi hik=>by
      have:=h (i+1) (by simpa using hi) (by omega)
      simpa using this)]
theorem putL_mem {L:List Int} {n x:Int}:x ∈ putL L n↔x=n∨x ∈ L:=by
 induction L with
 | nil=>simp [putL]
 | cons y r ih =>
   simp only [putL]
   split
   ·simp [ih];grind
   ·split
    ·rename_i h;subst h;simp
    ·simp
theorem z47 {L:List Int} {n:Int} (h:Inc L):Inc (putL L n):=by
 induction L with
 | nil=>simp [putL,Inc]
 | cons y r ih =>
   simp only [putL]
   unfold Inc at h ih ⊢
   rw [List.pairwise_cons] at h
   split
   ·rename_i h1
    rw [List.pairwise_cons]
    refine ⟨fun z hz => ?_,ih h.2⟩
    rcases putL_mem.1 hz with rfl | hz
    ·exact h1
    ·exact h.1 z hz
   ·split
    ·rw [List.pairwise_cons];exact h
    ·rw [List.pairwise_cons,List.pairwise_cons]
     refine ⟨fun z hz => ?_,h⟩
     rcases List.mem_cons.1 hz with rfl | hz
     ·omega
     ·have:=h.1 z hz;omega
theorem vu (l:List Int):l.foldl putL []=canonC l:=by
 have key:∀ (l:List Int) (b:List Int),Inc b→Inc (l.foldl putL b)∧∀ x,x ∈ l.foldl putL b↔x ∈ b∨x ∈ l:=by
  intro l
  induction l with
  | nil=>intro b hb;exact ⟨hb,by simp⟩
  | cons y r ih =>
    intro b hb
    obtain ⟨h1,h2⟩:=ih (putL b y) (z47 hb)
    refine ⟨h1,fun x => ?_⟩
    show x ∈ r.foldl putL (putL b y)↔_
    rw [h2,putL_mem];simp;grind
 obtain ⟨h1,h2⟩:=key l [] (by simp [Inc])
 exact z1g h1 (wl l) fun x=>by rw [h2,uk];simp
theorem z0h (L:List Int) (n:Int):(putL L n).length≤L.length+1:=by
 induction L with
 | nil=>simp [putL]
 | cons y r ih =>
   simp only [putL]
   split
   ·simp;omega
   ·split <;> simp
end Go.Am
namespace Go.Am
open Go.Proofs Go.Sort
theorem Own.appN {esz bytes g:Nat} {τ s:Store} {L ys:List (List AV)} {wv:AV} {K:AV→Store→Prop} (hsub:Store.sub τ s) (hg:τ g=none) (hs:s g=some (.arr esz L)) (hw:slc s esz wv=some ys) (hsz:(L.length+ys.length)*bytes≤140737488355328)
 (h:∀ j s',Store.sub τ s'→τ j=none→s' j=some (.arr esz (L++ys))→K (.os j esz 0 (L.length+ys.length)) s'):appwp esz bytes (.os g esz 0 L.length) wv s K:=by
 refine xr (zq hs rfl) hw hsz fun j hj => ?_
 have hτ:τ j=none:=zi hsub hj
 refine h _ _ (fun x q hx => ?_) hτ (Store.set_same _ _ _)
 have hxj:x≠j:=fun e=>by subst e;rw [hτ] at hx;cases hx
 have hxg:x≠g:=fun e=>by subst e;rw [hg] at hx;cases hx
 rw [Store.set_ne _ _ hxj,Store.del_ne _ hxg];exact hsub x q hx
theorem qc {esz id off n:Nat} {es:List (List AV)} {σ:Store} (h:σ id=some (.arr esz es)) (hn:off+n≤es.length):slc σ esz (.os id esz off n)=some ((es.drop off).take n):=by
 simp [slc,h,hn]
theorem z0i (L:List Int) (n:Int) (k:Nat) (hk:k≤L.length) (hL:L.length≤1000000) {g j b:Nat} {s t:Store} (hg:s g=some (.arr 1 (L.map cU))) (hsub:Store.sub s t) (hj:s j=none) (hb:s b=none) (hjb:b≠j)
 (htj:t j=some (.arr 1 ((L.take k).map cU))) (htb:t b=some (.arr 1 [cU n])) {K:AV→Store→Prop}
 (h:∀ j s',Store.sub s s'→s j=none→s' j=some (.arr 1 ((L.take k++n::L.drop k).map cU))→K (.os j 1 0 (L.length+1)) s') :
 appwp 1 4 (.os j 1 0 k) (.os b 1 0 1) t fun v s'=>appwp 1 4 v (.os g 1 k (L.length - k)) s' K:=by
 have e1:((L.take k).map cU).length=k:=by simp;omega
 have a1:=Own.appN (τ:=s) (g:=j) (bytes:=4) (L:=(L.take k).map cU) (K:=fun v s'=>appwp 1 4 v (.os g 1 k (L.length - k)) s' K) hsub hj htj (zq htb rfl) (by rw [e1];simp;omega) (fun j' s' q1 q2 q3=>by
  have e2:((L.take k).map cU++[cU n]).length=k+1:=by simp;omega
  have hs2:slc s' 1 (.os g 1 k (L.length - k))=some ((L.drop k).map cU):=by
   rw [qc (q1 _ _ hg) (by simp;omega)]
   rw [List.take_of_length_le (by simp),List.map_drop]
  have a2:=Own.appN (τ:=s) (g:=j') (bytes:=4) (L:=(L.take k).map cU++[cU n]) (K:=K) q1 q2 q3 hs2 (by rw [e2];simp;omega) (fun j2 s2 p1 p2 p3=>by
   have e3:((L.take k).map cU++[cU n]).length+((L.drop k).map cU).length=L.length+1:=by simp;omega
   rw [e3]
   refine h j2 s2 p1 p2 ?_
   rw [p3];simp)
  rw [e2] at a2
  rw [e1];exact a2)
 rw [e1] at a1
 exact a1
theorem z1j (L:List Int) (n:Int) (k:Nat) (hk:k≤L.length) (hL:L.length≤1000000) {g i b:Nat} {s t:Store} (hg:s g=some (.arr 1 (L.map cU))) (hsub:Store.sub s t) (hi:s i=none) (hb:s b=none) (hib:b≠i)
 (hti:t i=some (.arr 1 [])) (htb:t b=some (.arr 1 [cU n])) {K:AV→Store→Prop}
 (h:∀ j s',Store.sub s s'→s j=none→s' j=some (.arr 1 ((L.take k++n::L.drop k).map cU))→K (.os j 1 0 (L.length+1)) s') :
 appwp 1 4 (.os i 1 0 0) (.os g 1 0 k) t fun v s'=>appwp 1 4 v (.os b 1 0 1) s' fun v s'=>appwp 1 4 v (.os g 1 k (L.length - k)) s' K:=by
 have hsb:Store.sub (s.set b (.arr 1 [cU n])) t:=fun y o hy=>by
  by_cases hyb:y=b
  ·subst hyb;rw [Store.set_same] at hy;cases hy;exact htb
  ·rw [Store.set_ne _ _ hyb] at hy;exact hsub _ _ hy
 have e1:((L.take k).map cU).length=k:=by simp;omega
 have hs2:slc t 1 (.os g 1 0 k)=some ((L.take k).map cU):=by
  rw [qc (hsub _ _ hg) (by simp;omega)]
  rw [List.drop_zero,List.map_take]
 refine Own.appN (τ:=s.set b (.arr 1 [cU n])) (g:=i) (L:=[]) hsb (by rw [Store.set_ne _ _ (fun e=>hib e.symm)];exact hi) hti hs2 (by rw [e1];simp;omega) fun j s' q1 q2 q3 => ?_
 have hjb:j≠b:=fun e=>by subst e;rw [Store.set_same] at q2;cases q2
 rw [Store.set_ne _ _ hjb] at q2
 have:=z0i L n k hk hL hg (Store.sub_trans (Store.sub_set _ b _ hb) q1) q2 hb (fun e=>hjb e.symm) (by simpa using q3) (q1 _ _ (Store.set_same _ _ _)) h
 simp only [List.length_nil,Nat.zero_add,e1]
 exact this
theorem z4e (E:Env) (L:List Int) (n:Int) (k:Nat) (hk:k≤L.length) (hL:L.length≤1000000) {g:Nat} {s:Store} (hg:s g=some (.arr 1 (L.map cU))) {nn rr:Env→Store→Prop} {x:Nat→Env→Store→Prop}
 (hr:∀ j s',Store.sub s s'→s j=none→s' j=some (.arr 1 ((L.take k++n::L.drop k).map cU))→rr [(4,.os j 1 0 (L.length+1))] s') :
 bwp Try.prog Tsf.t33_34 ((0,.os g 1 0 L.length)::(1,.int .u32 n)::(5,.int .i64 (k:Int))::E) s nn rr x:=by
 simp only [Tsf.t33_34]
 simp only [hg,↓vcPre,↓z0,↓reduceIte,vcPost,vcStd,Nat.reduceEqDiff,reduceCtorEq,Nat.reduceAdd,Nat.reduceLeDiff,Int.reduceLT,Int.reduceLE,↓u_setN]
 refine ⟨⟨by simp only [Option.getD_some];omega,by simp only [Option.getD_some];omega⟩,⟨by simp only [Option.getD_none];omega,by simp only [Option.getD_none];omega⟩,?_,?_⟩
 ·refine AllocQ.i0 fun i hi => ?_
  simp only [hg,Option.getD_some,Option.getD_none,Int.toNat_natCast,Int.toNat_zero,Nat.sub_zero,Nat.zero_add,↓vcPre,↓z0,↓reduceIte,vcPost,vcStd,Nat.reduceEqDiff,reduceCtorEq,Nat.reduceAdd,Nat.reduceLeDiff,Int.reduceLT,Int.reduceLE,↓u_setN]
  have e1:((L.take k).map cU).length=k:=by simp;omega
  refine ⟨?_,?_⟩
  ·refine Own.appN (τ:=s) (g:=i) (L:=[]) (ys:=(L.take k).map cU) (Store.sub_set _ _ _ hi) hi (Store.set_same _ _ _) ?_ (by rw [e1];simp;omega) fun j s1 q1 q2 q3 => ?_
   ·rw [qc (Store.sub_set _ _ _ hi _ _ hg) (by simp;omega),List.drop_zero,List.map_take]
   refine AllocQ.i0 fun b hb => ?_
   have hjb:b≠j:=fun e=>by subst e;rw [q3] at hb;cases hb
   simp only [List.length_nil,Nat.zero_add,e1,List.nil_append] at q3 ⊢
   simp only [hg,↓vcPre,↓z0,↓reduceIte,vcPost,vcStd,Nat.reduceEqDiff,reduceCtorEq,Nat.reduceAdd,Nat.reduceLeDiff,Int.reduceLT,Int.reduceLE,↓u_setN]
   refine z0i L n k hk hL hg (Store.sub_trans q1 (Store.sub_set _ b _ hb)) q2 (zi q1 hb) hjb (Store.sub_set _ b _ hb _ _ q3) (Store.set_same _ _ _) fun j2 s2 p1 p2 p3 => ?_
   exact hr j2 s2 p1 p2 p3
  ·refine AllocQ.i0 fun b hb => ?_
   simp only [hg,Option.getD_some,Option.getD_none,Int.toNat_natCast,Int.toNat_zero,Nat.sub_zero,Nat.zero_add,↓vcPre,↓z0,↓reduceIte,vcPost,vcStd,Nat.reduceEqDiff,reduceCtorEq,Nat.reduceAdd,Nat.reduceLeDiff,Int.reduceLT,Int.reduceLE,↓u_setN]
   have hbi:b≠i:=fun e=>by subst e;rw [Store.set_same] at hb;cases hb
   rw [Store.set_ne _ _ hbi] at hb
   refine z1j L n k hk hL hg (zm hi hb hbi) hi hb hbi (by rw [Store.set_ne _ _ (fun e=>hbi e.symm),Store.set_same]) (Store.set_same _ _ _) fun j2 s2 p1 p2 p3=>hr j2 s2 p1 p2 p3
 ·refine AllocQ.i0 fun b hb => ?_
  simp only [hg,↓vcPre,↓z0,↓reduceIte,vcPost,vcStd,Nat.reduceEqDiff,reduceCtorEq,Nat.reduceAdd,Nat.reduceLeDiff,Int.reduceLT,Int.reduceLE,↓u_setN]
  refine AllocQ.i0 fun i hi => ?_
  simp only [hg,Option.getD_some,Option.getD_none,Int.toNat_natCast,Int.toNat_zero,Nat.sub_zero,Nat.zero_add,↓vcPre,↓z0,↓reduceIte,vcPost,vcStd,Nat.reduceEqDiff,reduceCtorEq,Nat.reduceAdd,Nat.reduceLeDiff,Int.reduceLT,Int.reduceLE,↓u_setN]
  have hib:i≠b:=fun e=>by subst e;rw [Store.set_same] at hi;cases hi
  rw [Store.set_ne _ _ hib] at hi
  refine z1j L n k hk hL hg (zm hb hi hib) hi hb (fun e=>hib e.symm) (Store.set_same _ _ _) (by rw [Store.set_ne _ _ (fun e=>hib e.symm),Store.set_same];rfl) fun j2 s2 p1 p2 p3=>hr j2 s2 p1 p2 p3
end Go.Am
namespace Go.Am
open Go.Proofs Go.Sort
theorem qw {A B:List (List AV)} {y:List AV} {w2:AV} {j b:Nat} {s t:Store} (hsub:Store.sub s t) (hj:s j=none)
 (htj:t j=some (.arr 1 A)) (htb:t b=some (.arr 1 [y])) (h2:∀ t,Store.sub s t→slc t 1 w2=some B) (hsz:(A.length+1+B.length)*4≤140737488355328) {K:AV→Store→Prop}
 (h:∀ j s',Store.sub s s'→s j=none→s' j=some (.arr 1 (A++y::B))→K (.os j 1 0 (A.length+1+B.length)) s') :
 appwp 1 4 (.os j 1 0 A.length) (.os b 1 0 1) t fun v s'=>appwp 1 4 v w2 s' K:=by
 refine Own.appN (τ:=s) (g:=j) (L:=A) hsub hj htj (zq htb rfl) (by simp;omega) fun j' s' q1 q2 q3 => ?_
 have e2:(A++[y]).length=A.length+1:=by simp
 have a2:=Own.appN (τ:=s) (g:=j') (bytes:=4) (L:=A++[y]) (K:=K) q1 q2 q3 (h2 _ q1) (by rw [e2];exact hsz) (fun j2 s2 p1 p2 p3=>by
  rw [e2]
  refine h j2 s2 p1 p2 ?_
  rw [p3];simp)
 rw [e2] at a2
 exact a2
theorem z13 {A B:List (List AV)} {y:List AV} {w1 w2:AV} {i b:Nat} {s t:Store} (hsub:Store.sub s t) (hi:s i=none) (hb:s b=none) (hib:b≠i)
 (hti:t i=some (.arr 1 [])) (htb:t b=some (.arr 1 [y])) (h1:∀ t,Store.sub s t→slc t 1 w1=some A) (h2:∀ t,Store.sub s t→slc t 1 w2=some B) (hsz:(A.length+1+B.length)*4≤140737488355328) {K:AV→Store→Prop}
 (h:∀ j s',Store.sub s s'→s j=none→s' j=some (.arr 1 (A++y::B))→K (.os j 1 0 (A.length+1+B.length)) s') :
 appwp 1 4 (.os i 1 0 0) w1 t fun v s'=>appwp 1 4 v (.os b 1 0 1) s' fun v s'=>appwp 1 4 v w2 s' K:=by
 have hsb:Store.sub (s.set b (.arr 1 [y])) t:=fun z o hy=>by
  by_cases hyb:z=b
  ·subst hyb;rw [Store.set_same] at hy;cases hy;exact htb
  ·rw [Store.set_ne _ _ hyb] at hy;exact hsub _ _ hy
 refine Own.appN (τ:=s.set b (.arr 1 [y])) (g:=i) (L:=[]) hsb (by rw [Store.set_ne _ _ (fun e=>hib e.symm)];exact hi) hti (h1 _ hsub) (by simp;omega) fun j s' q1 q2 q3 => ?_
 have hjb:j≠b:=fun e=>by subst e;rw [Store.set_same] at q2;cases q2
 rw [Store.set_ne _ _ hjb] at q2
 have:=qw (A:=A) (B:=B) (Store.sub_trans (Store.sub_set _ b _ hb) q1) q2 (by simpa using q3) (q1 _ _ (Store.set_same _ _ _)) h2 hsz h
 simp only [List.length_nil,Nat.zero_add]
 exact this
theorem z31 (E:Env) (n:Int) {s:Store} {nn rr:Env→Store→Prop} {x:Nat→Env→Store→Prop}
 (hr:∀ j s',Store.sub s s'→s j=none→s' j=some (.arr 1 [cU n])→rr [(4,.os j 1 0 1)] s') :
 bwp Try.prog Tsf.t33_34 ((0,.nils)::(1,.int .u32 n)::(5,.int .i64 0)::E) s nn rr x:=by
 simp only [Tsf.t33_34]
 have hn:∀ t,Store.sub s t→slc t 1 .nils=some []:=fun _ _=>rfl
 simp only [↓vcPre,↓z0,↓reduceIte,vcPost,vcStd,Nat.reduceEqDiff,reduceCtorEq,Nat.reduceAdd,Nat.reduceLeDiff,Int.reduceLT,Int.reduceLE,↓u_setN]
 refine ⟨⟨by simp,by simp⟩,⟨by simp,by simp⟩,?_,?_⟩
 ·refine AllocQ.i0 fun i hi => ?_
  simp only [↓vcPre,↓z0,↓reduceIte,vcPost,vcStd,Nat.reduceEqDiff,reduceCtorEq,Nat.reduceAdd,Nat.reduceLeDiff,Int.reduceLT,Int.reduceLE,↓u_setN]
  refine ⟨?_,?_⟩
  ·refine Own.appN (τ:=s) (g:=i) (L:=[]) (ys:=[]) (Store.sub_set _ _ _ hi) hi (Store.set_same _ _ _) rfl (by simp) fun j s1 q1 q2 q3 => ?_
   refine AllocQ.i0 fun b hb => ?_
   have hjb:b≠j:=fun e=>by subst e;rw [q3] at hb;cases hb
   simp only [List.length_nil,Nat.zero_add,List.nil_append] at q3 ⊢
   simp only [↓vcPre,↓z0,↓reduceIte,vcPost,vcStd,Nat.reduceEqDiff,reduceCtorEq,Nat.reduceAdd,Nat.reduceLeDiff,Int.reduceLT,Int.reduceLE,↓u_setN]
   exact qw (A:=[]) (B:=[]) (Store.sub_trans q1 (Store.sub_set _ b _ hb)) q2 (Store.sub_set _ b _ hb _ _ q3) (Store.set_same _ _ _) hn (by simp) fun j2 s2 p1 p2 p3=>hr j2 s2 p1 p2 p3
  ·refine AllocQ.i0 fun b hb => ?_
   simp only [↓vcPre,↓z0,↓reduceIte,vcPost,vcStd,Nat.reduceEqDiff,reduceCtorEq,Nat.reduceAdd,Nat.reduceLeDiff,Int.reduceLT,Int.reduceLE,↓u_setN]
   have hbi:b≠i:=fun e=>by subst e;rw [Store.set_same] at hb;cases hb
   rw [Store.set_ne _ _ hbi] at hb
   exact z13 (A:=[]) (B:=[]) (zm hi hb hbi) hi hb hbi (by rw [Store.set_ne _ _ (fun e=>hbi e.symm),Store.set_same]) (Store.set_same _ _ _) hn hn (by simp) fun j2 s2 p1 p2 p3=>hr j2 s2 p1 p2 p3
 ·refine AllocQ.i0 fun b hb => ?_
  simp only [↓vcPre,↓z0,↓reduceIte,vcPost,vcStd,Nat.reduceEqDiff,reduceCtorEq,Nat.reduceAdd,Nat.reduceLeDiff,Int.reduceLT,Int.reduceLE,↓u_setN]
  refine AllocQ.i0 fun i hi => ?_
  simp only [↓vcPre,↓z0,↓reduceIte,vcPost,vcStd,Nat.reduceEqDiff,reduceCtorEq,Nat.reduceAdd,Nat.reduceLeDiff,Int.reduceLT,Int.reduceLE,↓u_setN]
  have hib:i≠b:=fun e=>by subst e;rw [Store.set_same] at hi;cases hi
  rw [Store.set_ne _ _ hib] at hi
  exact z13 (A:=[]) (B:=[]) (zm hb hi hib) hi hb (fun e=>hib e.symm) (Store.set_same _ _ _) (by rw [Store.set_ne _ _ (fun e=>hib e.symm),Store.set_same];rfl) hn hn (by simp) fun j2 s2 p1 p2 p3=>hr j2 s2 p1 p2 p3
theorem s33 {τ s:Store} (hτ:Store.sub τ s) (L:List Int) (n:Int) (hL:L.length≤1000000) {v:AV} (ho:Own 1 τ (L.map cU) v s):ACalls Try.prog 33 [v,.int .u32 n] s (fun r s'=>Store.sub τ s'∧Own 1 τ ((putL L n).map cU) r s'):=by
 refine zj Tsf.F33 (by simp [Tsf.F33,Fn.mkX]) ?_
 simp only [Tsf.F33,Fn.mkX,Tsf.b33]
 rcases ho with ⟨h0,rfl⟩ | ⟨g,rfl,hgg,hg⟩
 ·have hL0:L=[]:=by simpa using h0
  subst hL0
  simp only [↓vcPre,↓z0,↓reduceIte,vcPost,vcStd,Nat.reduceEqDiff,reduceCtorEq,Nat.reduceAdd,Nat.reduceLeDiff,Int.reduceLT,Int.reduceLE,↓u_setN]
  refine LoopQ.inv (S:=Unit) (fun _=>[(0,.nils),(1,.int .u32 n),(5,.int .i64 0)]) (fun _=>s) (fun _=>True) (fun _=>0) () rfl (Store.sub_refl _) trivial ?_
  intro _ _
  simp only [↓vcPre,↓z0,↓reduceIte,vcPost,vcStd,Nat.reduceEqDiff,reduceCtorEq,Nat.reduceAdd,Nat.reduceLeDiff,Int.reduceLT,Int.reduceLE,↓u_setN]
  refine z31 _ n fun j s' h1 h2 h3 => ?_
  refine EndQ.to s' (.os j 1 0 1) rfl (Store.sub_refl _) ⟨Store.sub_trans hτ h1,.inr ⟨j,rfl,zi hτ h2,h3⟩⟩
 ·simp only [List.length_map]
  simp only [hg,↓vcPre,↓z0,↓reduceIte,vcPost,vcStd,Nat.reduceEqDiff,reduceCtorEq,Nat.reduceAdd,Nat.reduceLeDiff,Int.reduceLT,Int.reduceLE,↓u_setN]
  refine LoopQ.inv (S:=Nat) (fun k=>[(0,.os g 1 0 L.length),(1,.int .u32 n),(5,.int .i64 (k:Int))]) (fun _=>s) (fun k=>k≤L.length∧∀ i (h:i<L.length),i<k→L[i]<n) (fun k=>L.length+1 - k) 0 rfl (Store.sub_refl _) ⟨by omega,fun i _ h=>by omega⟩ ?_
  rintro k ⟨hk,hlt⟩
  simp only [hg,Nat.zero_add,↓vcPre,↓z0,↓reduceIte,vcPost,vcStd,Nat.reduceEqDiff,reduceCtorEq,Nat.reduceAdd,Nat.reduceLeDiff,Int.reduceLT,Int.reduceLE,↓u_setN]
  have ek:IntKind.i64.wrap ((k:Int)+1)=((k+1:Nat):Int):=by rw [zf (by unfold I64;omega)];omega
  have hput:=z5q hk hlt
  have tail:(∀ h:k<L.length,n<L[k])→∀ E,bwp Try.prog Tsf.t33_34 ((0,.os g 1 0 L.length)::(1,.int .u32 n)::(5,.int .i64 (k:Int))::E) s (fun e τ' => @EndQ e τ' ⟨Tsf.F33.slots,fun r s'=>Store.sub τ s'∧Own 1 τ ((putL L n).map cU) r s'⟩) (fun e τ' => @EndQ e τ' ⟨Tsf.F33.slots,fun r s'=>Store.sub τ s'∧Own 1 τ ((putL L n).map cU) r s'⟩) fun _ _ _=>False:=fun hkn E=>by
   have hpl:putL L n=L.take k++n::L.drop k:=by
    rw [hput]
    by_cases c1:k<L.length
    ·have:=hkn c1
     rw [List.drop_eq_getElem_cons c1]
     simp only [putL]
     rw [if_neg (by omega),if_neg (by omega)]
    ·rw [List.drop_eq_nil_of_le (by omega)];rfl
   refine z4e E L n k hk hL hg fun j s' h1 h2 h3 => ?_
   refine EndQ.to s' (.os j 1 0 (L.length+1)) rfl (Store.sub_refl _) ⟨Store.sub_trans hτ h1,.inr ⟨j,?_,zi hτ h2,by rw [hpl];exact h3⟩⟩
   rw [hpl];simp;omega
  refine ⟨fun c1=>⟨c1,c1,by simp [cU],?_⟩,fun c1=>⟨fun c2=>absurd c2 c1,fun _=>tail (fun h=>absurd h c1) _⟩⟩
  simp only [cU,↓vcPre,↓z0,↓reduceIte,vcPost,vcStd,Nat.reduceEqDiff,reduceCtorEq,Nat.reduceAdd,Nat.reduceLeDiff,Int.reduceLT,Int.reduceLE,↓u_setN]
  refine ⟨fun g1 => ?_,fun g1=>⟨fun _=>⟨c1,c1,?_⟩,fun c2=>absurd c1 c2⟩⟩
  ·rw [ek]
   refine NextQ.to (k+1) rfl (Store.sub_refl _) (by omega) ⟨by omega,fun i hi hik => ?_⟩
   by_cases hik':i=k
   ·subst hik';exact g1
   ·exact hlt i hi (by omega)
  ·refine ⟨fun g2 => ?_,fun g2=>tail (fun _=>by omega) _⟩
   refine EndQ.to s (.os g 1 0 L.length) rfl (Store.sub_refl _) ⟨hτ,.inr ⟨g,?_,hgg,?_⟩⟩
   ·have hpl:putL L n=L:=by
     rw [hput,List.drop_eq_getElem_cons c1]
     simp only [putL]
     rw [if_neg (by omega),if_pos g2,←List.drop_eq_getElem_cons c1,List.take_append_drop]
    rw [hpl];simp
   ·have hpl:putL L n=L:=by
     rw [hput,List.drop_eq_getElem_cons c1]
     simp only [putL]
     rw [if_neg (by omega),if_pos g2,←List.drop_eq_getElem_cons c1,List.take_append_drop]
    rw [hpl];exact hg
end Go.Am
namespace Go.Am.Tsg
open Go.Proofs Go.Am.B
def t13_3:BC:=z [k 3 .nils] [1,2,3] (.seq (z [j 4 0] [1,2,3,4] (.block 0 (.loop [1,2,3,4] (.seq (z [m 17 4,f 18 8 1,l 19 1 18,u 20 .len 19,b 21 .lss 17 20] [1,2,3,4,21] (.cond (.t 21) .skip (.exit 0))) (.seq (.block 1 (.ops [m 24 3,f 25 8 1,l 26 1 25,m 27 4,x 28 1 26 27,l 29 1 28,g 30 33 [.t 24,.t 29],m 3 30] [1,2,3,4])) (.ops [m 22 4,c 23 .add 22 1,m 4 23] [1,2,3,4])))))) (z [m 31 3,f 32 8 1,s 1 32 31] [1,2] (z [⟨some 33,none,.load (.ld 9 true),[.t 1]⟩,s 9 2 33] [2] .ret)))
def b13:BC:=z [⟨some 1,none,.alloc (.box),[.t 0]⟩,⟨some 2,none,.alloc (.alloc [(.int .i64 0),.nils,(.int .u32 0),(.bool false),(.int .u32 0),(.bool false),(.int .u32 0),(.bool false),.nils]),[]⟩] [1,2] (z [f 5 1 1,l 6 1 5,g 7 42 [.t 6],f 8 1 1,s 1 8 7] [1,2] (.seq (z [f 9 3 1,l 10 1 9,u 11 .not 10] [1,2,11] (.cond (.t 11) (.ops [f 12 4 1,⟨none,none,.loud (.st 1),[.t 12,.c (.int .u32 0)]⟩] [1,2]) .skip)) (.seq (z [f 13 5 1,l 14 1 13,u 15 .not 14] [1,2,15] (.cond (.t 15) (.ops [f 16 6 1,⟨none,none,.loud (.st 1),[.t 16,.c (.int .u32 0)]⟩] [1,2]) .skip)) t13_3)))
def F13:Fn Try.prog 13:=Fn.mkX false b13 [.c 2 9 true] 34 Try.f13 _ Try.func13 (by decide) rfl Try.ntmps13 (by kernel_rfl) (by kernel_rfl)
end Go.Am.Tsg
namespace Go.Am
open Go.Proofs Go.Sort
theorem z0z (E:Env) (a:At) (ha:a.ok) {σ t:Store} {i j:Nat} {z:List AV} (hz:z.length=9) (hi:t i=some (.box a.c)) (hj:t j=some (.box z)) (hij:¬ i=j) (hi0:σ i=none) (hj0:σ j=none) (hs:Store.sub σ t) {nn rr:Env→Store→Prop} {x:Nat→Env→Store→Prop}
 (hr:∀ v s',Store.sub σ s'→Own 1 σ ((canonC a.cms).map cU) v s'→s' j=some (.box (a.cO v))→rr [(2,.ptr j 0)] s') :
 bwp Try.prog Tsg.t13_3 ((1,.ptr i 0)::(2,.ptr j 0)::E) t nn rr x:=by
 simp only [Tsg.t13_3]
 have hji:¬ j=i:=fun e=>hij e.symm
 have hcm:a.cms.length≤1000000:=ha.2.2
 simp only [↓vcPre,↓z0,↓reduceIte,vcPost,vcStd,Nat.reduceEqDiff,reduceCtorEq,Nat.reduceAdd,Nat.reduceLeDiff,Int.reduceLT,Int.reduceLE,↓u_setN]
 refine LoopQ.inv (S:=Nat×AV×Store) (fun q=>[(1,.ptr i 0),(2,.ptr j 0),(3,q.2.1),(4,.int .i64 (q.1:Int))]) (fun q=>q.2.2) (fun q=>q.1≤a.cms.length∧Store.sub t q.2.2∧Own 1 t (((a.cms.take q.1).foldl putL []).map cU) q.2.1 q.2.2) (fun q=>a.cms.length+1 - q.1) (0,.nils,t) rfl (Store.sub_refl _) ⟨by simp only;omega,Store.sub_refl _,.nil⟩ ?_
 rintro ⟨k,v,s⟩ ⟨hk,hts,ho⟩
 simp only at hk hts ho
 have hsi:=hts _ _ hi
 have hsj:=hts _ _ hj
 simp only [hsi,At.c,↓vcPre,↓z0,↓reduceIte,vcPost,vcStd,Nat.reduceEqDiff,reduceCtorEq,Nat.reduceAdd,Nat.reduceLeDiff,Int.reduceLT,Int.reduceLE,↓u_setN]
 refine ⟨fun c1 => ?_,fun c1 => ?_⟩
 ·have ek:IntKind.i64.wrap ((k:Int)+1)=((k+1:Nat):Int):=by rw [zf (by unfold I64;omega)];omega
  refine ⟨c1,by simp [cU],?_⟩
  simp only [cU,↓vcPre,↓z0,↓reduceIte,vcPost,vcStd,Nat.reduceEqDiff,reduceCtorEq,Nat.reduceAdd,Nat.reduceLeDiff,Int.reduceLT,Int.reduceLE,↓u_setN]
  have hfl:∀ (l:List Int) (b:List Int),(l.foldl putL b).length≤b.length+l.length:=by
   intro l
   induction l with
   | nil=>intro b;simp
   | cons y r ih=>intro b;have h1:=ih (putL b y);have h2:=z0h b y;simp only [List.foldl_cons,List.length_cons];omega
  have hlen:=hfl (a.cms.take k) []
  simp only [List.length_take,List.length_nil] at hlen
  refine (s33 hts ((a.cms.take k).foldl putL []) a.cms[k] (by omega) ho).Q ?_
  rintro r s' ⟨h1,h2⟩
  simp only [↓vcPre,↓z0,↓reduceIte,vcPost,vcStd,Nat.reduceEqDiff,reduceCtorEq,Nat.reduceAdd,Nat.reduceLeDiff,Int.reduceLT,Int.reduceLE,↓u_setN]
  rw [ek]
  refine NextQ.to (k+1,r,s') rfl (Store.sub_refl _) (by simp only;omega) ⟨by simp only;omega,h1,?_⟩
  simp only
  rw [w0 putL [] c1]
  exact h2
 ·have hkl:a.cms.take k=a.cms:=List.take_of_length_le (by omega)
  rw [hkl,vu] at ho
  have hv:v.isTup=false∧v.cells=[v]:=by
   rcases ho with ⟨_,rfl⟩ | ⟨g,rfl,_,_⟩ <;> exact ⟨rfl,rfl⟩
  simp only [hv.1,hv.2,hsi,hsj,hij,hji,At.c,hz,↓vcPre,↓z0,↓reduceIte,vcPost,vcStd,Nat.reduceEqDiff,reduceCtorEq,Nat.reduceAdd,Nat.reduceLeDiff,Int.reduceLT,Int.reduceLE,↓u_setN]
  rw [zl _ _ (by simp [hz]),zk]
  refine hr v _ (zb (zb (Store.sub_trans hs hts) hi0) hj0) ?_ (Store.set_same _ _ _)
  rcases ho.weak hs with h | ⟨g,h1,h2,h3⟩
  ·exact .inl h
  ·refine .inr ⟨g,h1,h2,?_⟩
   have hgi:¬ g=i:=fun e=>by rw [e,hsi] at h3;cases h3
   have hgj:¬ g=j:=fun e=>by rw [e,hsj] at h3;cases h3
   rw [Store.set_ne _ _ hgj,Store.set_ne _ _ hgi];exact h3
theorem s13 (a:At) (ha:a.ok) {σ:Store} {Q:AV→Store→Prop} (hQ:∀ v s',Store.sub σ s'→Own 1 σ ((canonC a.cms).map cU) v s'→Weak (.agg ((canonA a).cO v)) s' Q):ACalls Try.prog 13 [.agg a.c] σ Q:=by
 refine zj Tsg.F13 (by simp [Tsg.F13,Fn.mkX]) ?_
 simp only [Tsg.F13,Fn.mkX,Tsg.b13]
 simp only [At.c,↓vcPre,↓z0,↓reduceIte,vcPost,vcStd,Nat.reduceEqDiff,reduceCtorEq,Nat.reduceAdd,Nat.reduceLeDiff,Int.reduceLT,Int.reduceLE,↓u_setN]
 refine AllocQ.i0 fun i hi => ?_
 simp only [At.c,↓vcPre,↓z0,↓reduceIte,vcPost,vcStd,Nat.reduceEqDiff,reduceCtorEq,Nat.reduceAdd,Nat.reduceLeDiff,Int.reduceLT,Int.reduceLE,↓u_setN]
 refine AllocQ.i1 fun j hj1 hj2 hj => ?_
 simp only [hj1,hj2,↓vcPre,↓z0,↓reduceIte,vcPost,vcStd,Nat.reduceEqDiff,reduceCtorEq,Nat.reduceAdd,Nat.reduceLeDiff,Int.reduceLT,Int.reduceLE,↓u_setN]
 refine (c42 _ ha.1 ha.2.1).Q ?_
 simp only [hj1,hj2,↓vcPre,↓z0,↓reduceIte,vcPost,vcStd,Nat.reduceEqDiff,reduceCtorEq,Nat.reduceAdd,Nat.reduceLeDiff,Int.reduceLT,Int.reduceLE,↓u_setN]
 have key:∀ (E:Env) (t:Store) (z:List AV) (x:Nat→Env→Store→Prop) (n:Env→Store→Prop) (m p:Int),z.length=9→t i=some (.box ({ a with med:=m,prf:=p }:At).c)→t j=some (.box z)→Store.sub σ t→(if a.hm then a.med else 0)=m→(if a.hp then a.prf else 0)=p →
  bwp Try.prog Tsg.t13_3 ((1,.ptr i 0)::(2,.ptr j 0)::E) t n (fun e s => @EndQ e s ⟨Tsg.F13.slots,Q⟩) x:=by
  intro E t z x n m p hz h1 h2 h3 rfl rfl
  refine z0z E { a with med:=(if a.hm then a.med else 0),prf:=(if a.hp then a.prf else 0) } ha hz h1 h2 hj2 hi hj h3 ?_
  intro v s' q1 q2 q3
  unfold EndQ
  refine ⟨_,?_,hQ v s' q1 q2⟩
  show Env.res [(2,AV.ptr j 0)] s' [RS.c 2 9 true]=_
  have e9:∀ x:At,(x.cO v).length=9:=fun _=>rfl
  have t9:∀ x:At,List.take 9 (x.cO v)=x.cO v:=fun _=>rfl
  simp only [q3,e9,t9,Nat.le_refl,↓vcPre,↓z0,↓reduceIte,vcPost,vcStd,Nat.reduceEqDiff,reduceCtorEq,Nat.reduceAdd,Nat.reduceLeDiff,Int.reduceLT,Int.reduceLE,↓u_setN]
  rfl
 cases hm:a.hm <;> cases hp:a.hp
 all_goals simp only [↓vcPre,↓z0,↓reduceIte,vcPost,vcStd,Nat.reduceEqDiff,reduceCtorEq,Nat.reduceAdd,Nat.reduceLeDiff,Int.reduceLT,Int.reduceLE,↓u_setN]
 all_goals
  refine key _ _ zCells _ _ (if a.hm then a.med else 0) (if a.hp then a.prf else 0) rfl ?_ ?_ ?_ rfl rfl
  ·rw [Store.set_same];simp [At.c,hm,hp]
  ·simp only [Store.set_ne _ _ hj1,Store.set_same];rfl
  ·first
    | exact zb (zb (zb (zm hi hj hj1) hi) hi) hi
    | exact zb (zb (zm hi hj hj1) hi) hi
    | exact zb (zm hi hj hj1) hi
theorem c13 (a:At) (ha:a.ok):Pur Try.prog 13 [.agg a.c] (.agg (canonA a).c):=fun σ =>
 s13 a ha fun v s' hs ho=>by
  rcases ho with ⟨h0,rfl⟩ | ⟨g,rfl,hg,hh⟩
  ·have h0':canonC a.cms=[]:=by simpa using h0
   refine Weak.agg (WeakL.nil 8 1 rfl (WeakL.forget hs (WeakL.pure ⟨?_,rfl,?_⟩)))
   ·intro c hc
    simp [At.cO] at hc
    rcases hc with rfl | rfl | rfl | rfl | rfl | rfl | rfl | rfl | rfl <;> rfl
   ·simp [At.cO,At.c,canonA,h0']
  ·refine Weak.agg (WeakL.freeze 8 rfl hh (by simp) (WeakL.forget (fun i o hi => ?_) (WeakL.pure ⟨?_,rfl,?_⟩)))
   ·rw [Store.del_ne _ (fun e=>by subst e;rw [hg] at hi;cases hi)];exact hs i o hi
   ·intro c hc
    simp [At.cO] at hc
    rcases hc with rfl | rfl | rfl | rfl | rfl | rfl | rfl | rfl | rfl <;> rfl
   ·have:List.take (canonC a.cms).length ((canonC a.cms).map cU)=(canonC a.cms).map cU:=List.take_of_length_le (by simp)
    simp [At.cO,At.c,canonA,this]
end Go.Am
namespace Go.Am
open Go.Proofs Go.Sort
theorem c77 (b:Bool):Pur Try.prog 77 [.bool b] (.int .i64 (sideF b)):=by
 refine zo Tst.F77 (by simp [Tst.F77,Fn.mkX]) fun σ => ?_
 simp only [Tst.F77,Fn.mkX,Tst.b77]
 cases b <;> simp only [↓vcPre,↓z0,↓reduceIte,vcPost,vcStd,Nat.reduceEqDiff,reduceCtorEq,Nat.reduceAdd,Nat.reduceLeDiff,Int.reduceLT,Int.reduceLE,↓u_setN] <;> rfl
theorem z3k {x y:Bool} (h:x≠y):(x != y)=true:=by cases x <;> cases y <;> simp_all
theorem z3j {x y:Bool} (h:x=y):(x != y)=false:=by cases x <;> cases y <;> simp_all
theorem z4a (b:Bool):sideF b≠0:=by cases b <;> decide
set_option maxHeartbeats 1000000 in
theorem s46 (a b:At) (ha:a.ok) (hb:b.ok) (σ:Store):ACalls Try.prog 46 [.agg a.c,.agg b.c] σ (fun r s=>s=σ∧∃ n,r = .int .i64 n∧(n=0↔canonA a=canonA b)):=by
 refine zj Tst.F46 (by simp [Tst.F46,Fn.mkX]) ?_
 simp only [Tst.F46,Fn.mkX,Tst.b46]
 simp only [At.c,↓vcPre,↓z0,↓reduceIte,vcPost,vcStd,Nat.reduceEqDiff,reduceCtorEq,Nat.reduceAdd,Nat.reduceLeDiff,Int.reduceLT,Int.reduceLE,↓u_setN]
 refine AllocQ.i0 fun i hi => ?_
 simp only [At.c,↓vcPre,↓z0,↓reduceIte,vcPost,vcStd,Nat.reduceEqDiff,reduceCtorEq,Nat.reduceAdd,Nat.reduceLeDiff,Int.reduceLT,Int.reduceLE,↓u_setN]
 refine AllocQ.i1 fun j hj1 hj2 hj => ?_
 simp only [hj1,hj2,↓vcPre,↓z0,↓reduceIte,vcPost,vcStd,Nat.reduceEqDiff,reduceCtorEq,Nat.reduceAdd,Nat.reduceLeDiff,Int.reduceLT,Int.reduceLE,↓u_setN]
 refine (c13 a ha).Q ?_
 simp only [hj1,hj2,↓vcPre,↓z0,↓reduceIte,vcPost,vcStd,Nat.reduceEqDiff,reduceCtorEq,Nat.reduceAdd,Nat.reduceLeDiff,Int.reduceLT,Int.reduceLE,↓u_setN]
 refine (c13 b hb).Q ?_
 simp only [hj1,hj2,↓vcPre,↓z0,↓reduceIte,vcPost,vcStd,Nat.reduceEqDiff,reduceCtorEq,Nat.reduceAdd,Nat.reduceLeDiff,Int.reduceLT,Int.reduceLE,↓u_setN]
 have hx:=y9 ha
 have hy:=y9 hb
 generalize canonA a=p at hx ⊢
 generalize canonA b=q at hy ⊢
 simp only [hj1,hj2,At.c,↓vcPre,↓z0,↓reduceIte,vcPost,vcStd,Nat.reduceEqDiff,reduceCtorEq,Nat.reduceAdd,Nat.reduceLeDiff,Int.reduceLT,Int.reduceLE,↓u_setN]
 have hti:((((σ.set i (Obj.box [AV.int IntKind.i64 a.org,AV.sl 2 (List.map Seg.c a.path),AV.int IntKind.u32 a.nxt,AV.bool a.hm,AV.int IntKind.u32 a.med,AV.bool a.hp,AV.int IntKind.u32 a.prf,AV.bool a.atm,AV.sl 1 (List.map cU a.cms)])).set j (Obj.box [AV.int IntKind.i64 b.org,AV.sl 2 (List.map Seg.c b.path),AV.int IntKind.u32 b.nxt,AV.bool b.hm,AV.int IntKind.u32 b.med,AV.bool b.hp,AV.int IntKind.u32 b.prf,AV.bool b.atm,AV.sl 1 (List.map cU b.cms)])).set i (Obj.box [AV.int IntKind.i64 p.org,AV.sl 2 (List.map Seg.c p.path),AV.int IntKind.u32 p.nxt,AV.bool p.hm,AV.int IntKind.u32 p.med,AV.bool p.hp,AV.int IntKind.u32 p.prf,AV.bool p.atm,AV.sl 1 (List.map cU p.cms)])).set j (Obj.box [AV.int IntKind.i64 q.org,AV.sl 2 (List.map Seg.c q.path),AV.int IntKind.u32 q.nxt,AV.bool q.hm,AV.int IntKind.u32 q.med,AV.bool q.hp,AV.int IntKind.u32 q.prf,AV.bool q.atm,AV.sl 1 (List.map cU q.cms)])) i=some (Obj.box [AV.int IntKind.i64 p.org,AV.sl 2 (List.map Seg.c p.path),AV.int IntKind.u32 p.nxt,AV.bool p.hm,AV.int IntKind.u32 p.med,AV.bool p.hp,AV.int IntKind.u32 p.prf,AV.bool p.atm,AV.sl 1 (List.map cU p.cms)]):=by rw [Store.set_ne _ _ hj2,Store.set_same]
 have htj:((((σ.set i (Obj.box [AV.int IntKind.i64 a.org,AV.sl 2 (List.map Seg.c a.path),AV.int IntKind.u32 a.nxt,AV.bool a.hm,AV.int IntKind.u32 a.med,AV.bool a.hp,AV.int IntKind.u32 a.prf,AV.bool a.atm,AV.sl 1 (List.map cU a.cms)])).set j (Obj.box [AV.int IntKind.i64 b.org,AV.sl 2 (List.map Seg.c b.path),AV.int IntKind.u32 b.nxt,AV.bool b.hm,AV.int IntKind.u32 b.med,AV.bool b.hp,AV.int IntKind.u32 b.prf,AV.bool b.atm,AV.sl 1 (List.map cU b.cms)])).set i (Obj.box [AV.int IntKind.i64 p.org,AV.sl 2 (List.map Seg.c p.path),AV.int IntKind.u32 p.nxt,AV.bool p.hm,AV.int IntKind.u32 p.med,AV.bool p.hp,AV.int IntKind.u32 p.prf,AV.bool p.atm,AV.sl 1 (List.map cU p.cms)])).set j (Obj.box [AV.int IntKind.i64 q.org,AV.sl 2 (List.map Seg.c q.path),AV.int IntKind.u32 q.nxt,AV.bool q.hm,AV.int IntKind.u32 q.med,AV.bool q.hp,AV.int IntKind.u32 q.prf,AV.bool q.atm,AV.sl 1 (List.map cU q.cms)])) j=some (Obj.box [AV.int IntKind.i64 q.org,AV.sl 2 (List.map Seg.c q.path),AV.int IntKind.u32 q.nxt,AV.bool q.hm,AV.int IntKind.u32 q.med,AV.bool q.hp,AV.int IntKind.u32 q.prf,AV.bool q.atm,AV.sl 1 (List.map cU q.cms)]):=Store.set_same _ _ _
 have hts:Store.sub σ ((((σ.set i (Obj.box [AV.int IntKind.i64 a.org,AV.sl 2 (List.map Seg.c a.path),AV.int IntKind.u32 a.nxt,AV.bool a.hm,AV.int IntKind.u32 a.med,AV.bool a.hp,AV.int IntKind.u32 a.prf,AV.bool a.atm,AV.sl 1 (List.map cU a.cms)])).set j (Obj.box [AV.int IntKind.i64 b.org,AV.sl 2 (List.map Seg.c b.path),AV.int IntKind.u32 b.nxt,AV.bool b.hm,AV.int IntKind.u32 b.med,AV.bool b.hp,AV.int IntKind.u32 b.prf,AV.bool b.atm,AV.sl 1 (List.map cU b.cms)])).set i (Obj.box [AV.int IntKind.i64 p.org,AV.sl 2 (List.map Seg.c p.path),AV.int IntKind.u32 p.nxt,AV.bool p.hm,AV.int IntKind.u32 p.med,AV.bool p.hp,AV.int IntKind.u32 p.prf,AV.bool p.atm,AV.sl 1 (List.map cU p.cms)])).set j (Obj.box [AV.int IntKind.i64 q.org,AV.sl 2 (List.map Seg.c q.path),AV.int IntKind.u32 q.nxt,AV.bool q.hm,AV.int IntKind.u32 q.med,AV.bool q.hp,AV.int IntKind.u32 q.prf,AV.bool q.atm,AV.sl 1 (List.map cU q.cms)])):=zb (zb (zm hi hj hj1) hi) hj
 generalize ((((σ.set i (Obj.box [AV.int IntKind.i64 a.org,AV.sl 2 (List.map Seg.c a.path),AV.int IntKind.u32 a.nxt,AV.bool a.hm,AV.int IntKind.u32 a.med,AV.bool a.hp,AV.int IntKind.u32 a.prf,AV.bool a.atm,AV.sl 1 (List.map cU a.cms)])).set j (Obj.box [AV.int IntKind.i64 b.org,AV.sl 2 (List.map Seg.c b.path),AV.int IntKind.u32 b.nxt,AV.bool b.hm,AV.int IntKind.u32 b.med,AV.bool b.hp,AV.int IntKind.u32 b.prf,AV.bool b.atm,AV.sl 1 (List.map cU b.cms)])).set i (Obj.box [AV.int IntKind.i64 p.org,AV.sl 2 (List.map Seg.c p.path),AV.int IntKind.u32 p.nxt,AV.bool p.hm,AV.int IntKind.u32 p.med,AV.bool p.hp,AV.int IntKind.u32 p.prf,AV.bool p.atm,AV.sl 1 (List.map cU p.cms)])).set j (Obj.box [AV.int IntKind.i64 q.org,AV.sl 2 (List.map Seg.c q.path),AV.int IntKind.u32 q.nxt,AV.bool q.hm,AV.int IntKind.u32 q.med,AV.bool q.hp,AV.int IntKind.u32 q.prf,AV.bool q.atm,AV.sl 1 (List.map cU q.cms)]))=t at hti htj hts ⊢
 have nz:∀ {bb:Bool} {E:Env},p≠q → @EndQ ((4,.int .i64 (sideF bb))::E) t ⟨Tst.F46.slots,fun r s=>s=σ∧∃ n,r = .int .i64 n∧(n=0↔p=q)⟩:=fun {bb E} h=>EndQ.to σ _ rfl hts ⟨rfl,_,rfl,by simp [z4a,h]⟩
 refine ⟨fun g1=>(c77 _).Q ?_,fun g1=>(c32 _ _ hx.1 hy.1 hx.2.1 hy.2.1).Q ?_⟩
 ·simp only [↓vcPre,↓z0,↓reduceIte,vcPost,vcStd,Nat.reduceEqDiff,reduceCtorEq,Nat.reduceAdd,Nat.reduceLeDiff,Int.reduceLT,Int.reduceLE,↓u_setN]
  exact nz fun e=>g1 (by rw [e])
 ·simp only [hti,htj,↓vcPre,↓z0,↓reduceIte,vcPost,vcStd,Nat.reduceEqDiff,reduceCtorEq,Nat.reduceAdd,Nat.reduceLeDiff,Int.reduceLT,Int.reduceLE,↓u_setN]
  refine ⟨fun g2=>EndQ.to σ _ rfl hts ⟨rfl,_,rfl,fun h=>absurd h g2,fun h=>absurd (cmpPath_z.2 (by rw [h])) g2⟩,fun g2=>⟨fun g3=>(c77 _).Q ?_,fun g3 => ?_⟩⟩
  ·simp only [↓vcPre,↓z0,↓reduceIte,vcPost,vcStd,Nat.reduceEqDiff,reduceCtorEq,Nat.reduceAdd,Nat.reduceLeDiff,Int.reduceLT,Int.reduceLE,↓u_setN]
   exact nz fun e=>g3 (by rw [e])
  by_cases g4:p.hm=q.hm
  case neg =>
   rw [z3k g4]
   simp only [↓vcPre,↓z0,↓reduceIte,vcPost,vcStd,Nat.reduceEqDiff,reduceCtorEq,Nat.reduceAdd,Nat.reduceLeDiff,Int.reduceLT,Int.reduceLE,↓u_setN]
   refine (c77 _).Q ?_
   simp only [↓vcPre,↓z0,↓reduceIte,vcPost,vcStd,Nat.reduceEqDiff,reduceCtorEq,Nat.reduceAdd,Nat.reduceLeDiff,Int.reduceLT,Int.reduceLE,↓u_setN]
   exact nz fun e=>g4 (by rw [e])
  rw [z3j g4]
  simp only [↓vcPre,↓z0,↓reduceIte,vcPost,vcStd,Nat.reduceEqDiff,reduceCtorEq,Nat.reduceAdd,Nat.reduceLeDiff,Int.reduceLT,Int.reduceLE,↓u_setN]
  refine ⟨fun g5=>(c77 _).Q ?_,fun g5 => ?_⟩
  ·simp only [↓vcPre,↓z0,↓reduceIte,vcPost,vcStd,Nat.reduceEqDiff,reduceCtorEq,Nat.reduceAdd,Nat.reduceLeDiff,Int.reduceLT,Int.reduceLE,↓u_setN]
   exact nz fun e=>g5 (by rw [e])
  by_cases g6:p.hp=q.hp
  case neg =>
   rw [z3k g6]
   simp only [↓vcPre,↓z0,↓reduceIte,vcPost,vcStd,Nat.reduceEqDiff,reduceCtorEq,Nat.reduceAdd,Nat.reduceLeDiff,Int.reduceLT,Int.reduceLE,↓u_setN]
   refine (c77 _).Q ?_
   simp only [↓vcPre,↓z0,↓reduceIte,vcPost,vcStd,Nat.reduceEqDiff,reduceCtorEq,Nat.reduceAdd,Nat.reduceLeDiff,Int.reduceLT,Int.reduceLE,↓u_setN]
   exact nz fun e=>g6 (by rw [e])
  rw [z3j g6]
  simp only [↓vcPre,↓z0,↓reduceIte,vcPost,vcStd,Nat.reduceEqDiff,reduceCtorEq,Nat.reduceAdd,Nat.reduceLeDiff,Int.reduceLT,Int.reduceLE,↓u_setN]
  refine ⟨fun g7=>(c77 _).Q ?_,fun g7 => ?_⟩
  ·simp only [↓vcPre,↓z0,↓reduceIte,vcPost,vcStd,Nat.reduceEqDiff,reduceCtorEq,Nat.reduceAdd,Nat.reduceLeDiff,Int.reduceLT,Int.reduceLE,↓u_setN]
   exact nz fun e=>g7 (by rw [e])
  by_cases g8:p.atm=q.atm
  case neg =>
   rw [z3k g8]
   simp only [↓vcPre,↓z0,↓reduceIte,vcPost,vcStd,Nat.reduceEqDiff,reduceCtorEq,Nat.reduceAdd,Nat.reduceLeDiff,Int.reduceLT,Int.reduceLE,↓u_setN]
   refine (c77 _).Q ?_
   simp only [↓vcPre,↓z0,↓reduceIte,vcPost,vcStd,Nat.reduceEqDiff,reduceCtorEq,Nat.reduceAdd,Nat.reduceLeDiff,Int.reduceLT,Int.reduceLE,↓u_setN]
   exact nz fun e=>g8 (by rw [e])
  rw [z3j g8]
  simp only [↓vcPre,↓z0,↓reduceIte,vcPost,vcStd,Nat.reduceEqDiff,reduceCtorEq,Nat.reduceAdd,Nat.reduceLeDiff,Int.reduceLT,Int.reduceLE,↓u_setN]
  have hpc:p.cms.length≤1000000:=hx.2.2
  have hqc:q.cms.length≤1000000:=hy.2.2
  have fin:p.cms=q.cms→p=q:=fun h=>by
   have g2':=cmpPath_z.1 g2
   cases p;cases q;simp_all
  refine LoopQ.inv (S:=Nat) (fun k=>[(2,.ptr i 0),(3,.ptr j 0),(6,.int .i64 (k:Int))]) (fun _=>t) (fun k=>k≤p.cms.length∧k≤q.cms.length∧p.cms.take k=q.cms.take k) (fun k=>p.cms.length+1 - k) 0 rfl (Store.sub_refl _) ⟨by omega,by omega,rfl⟩ ?_
  rintro k ⟨hk,hk2,htk⟩
  simp only [hti,htj,↓vcPre,↓z0,↓reduceIte,vcPost,vcStd,Nat.reduceEqDiff,reduceCtorEq,Nat.reduceAdd,Nat.reduceLeDiff,Int.reduceLT,Int.reduceLE,↓u_setN]
  have ek:IntKind.i64.wrap ((k:Int)+1)=((k+1:Nat):Int):=by rw [zf (by unfold I64;omega)];omega
  have ends:(k=p.cms.length∨k=q.cms.length)→(p.cms.length:Int)=(q.cms.length:Int)→p=q:=fun hkk hl=>fin (by
   have h1:p.cms.take k=p.cms:=List.take_of_length_le (by omega)
   have h2:q.cms.take k=q.cms:=List.take_of_length_le (by omega)
   rw [←h1,←h2];exact htk)
  have cls:∀ {E:Env},(k=p.cms.length∨k=q.cms.length)→(p.cms.length:Int)=(q.cms.length:Int) → @EndQ ((4,.int .i64 0)::E) t ⟨Tst.F46.slots,fun r s=>s=σ∧∃ n,r = .int .i64 n∧(n=0↔p=q)⟩:=fun {E} h1 h2=>EndQ.to σ _ rfl hts ⟨rfl,_,rfl,by simp [ends h1 h2]⟩
  refine ⟨fun c1=>⟨fun c2 => ?_,fun c2=>⟨fun h=>(c77 _).Q ?_,fun h=>cls (by omega) h⟩⟩,fun c1=>⟨fun h=>(c77 _).Q ?_,fun h=>cls (by omega) h⟩⟩
  ·refine ⟨c1,by simp [cU],?_⟩
   simp only [cU,↓vcPre,↓z0,↓reduceIte,vcPost,vcStd,Nat.reduceEqDiff,reduceCtorEq,Nat.reduceAdd,Nat.reduceLeDiff,Int.reduceLT,Int.reduceLE,↓u_setN]
   refine ⟨c2,fun g9=>⟨c1,c2,(c77 _).Q ?_⟩,fun g9 => ?_⟩
   ·simp only [↓vcPre,↓z0,↓reduceIte,vcPost,vcStd,Nat.reduceEqDiff,reduceCtorEq,Nat.reduceAdd,Nat.reduceLeDiff,Int.reduceLT,Int.reduceLE,↓u_setN]
    exact nz fun e=>g9 (by subst e;rfl)
   ·rw [ek]
    refine NextQ.to (k+1) rfl (Store.sub_refl _) (by omega) ⟨by omega,by omega,z0m htk c1 c2 g9⟩
  ·simp only [↓vcPre,↓z0,↓reduceIte,vcPost,vcStd,Nat.reduceEqDiff,reduceCtorEq,Nat.reduceAdd,Nat.reduceLeDiff,Int.reduceLT,Int.reduceLE,↓u_setN]
   exact nz fun e=>h (by rw [e])
  ·simp only [↓vcPre,↓z0,↓reduceIte,vcPost,vcStd,Nat.reduceEqDiff,reduceCtorEq,Nat.reduceAdd,Nat.reduceLeDiff,Int.reduceLT,Int.reduceLE,↓u_setN]
   exact nz fun e=>h (by rw [e])
theorem c17 (a b:At) (ha:a.ok) (hb:b.ok):Pur Try.prog 17 [.agg a.c,.agg b.c] (.bool (decide (canonA a=canonA b))):=by
 refine zo Tst.F17 (by simp [Tst.F17,Fn.mkX]) fun σ => ?_
 simp only [Tst.F17,Fn.mkX,Tst.b17]
 simp only [At.c,↓vcPre,↓z0,↓reduceIte,vcPost,vcStd,Nat.reduceEqDiff,reduceCtorEq,Nat.reduceAdd,Nat.reduceLeDiff,Int.reduceLT,Int.reduceLE,↓u_setN]
 refine AllocQ.i0 fun i hi => ?_
 simp only [At.c,↓vcPre,↓z0,↓reduceIte,vcPost,vcStd,Nat.reduceEqDiff,reduceCtorEq,Nat.reduceAdd,Nat.reduceLeDiff,Int.reduceLT,Int.reduceLE,↓u_setN]
 refine AllocQ.i1 fun j hj1 hj2 hj => ?_
 simp only [hj1,hj2,↓vcPre,↓z0,↓reduceIte,vcPost,vcStd,Nat.reduceEqDiff,reduceCtorEq,Nat.reduceAdd,Nat.reduceLeDiff,Int.reduceLT,Int.reduceLE,↓u_setN]
 refine (s46 a b ha hb _).Q ?_
 rintro r s ⟨rfl,n,rfl,hn⟩
 simp only [↓vcPre,↓z0,↓reduceIte,vcPost,vcStd,Nat.reduceEqDiff,reduceCtorEq,Nat.reduceAdd,Nat.reduceLeDiff,Int.reduceLT,Int.reduceLE,↓u_setN]
 refine ⟨?_,zm hi hj hj1⟩
 rw [Bool.eq_iff_iff];simp [hn]
end Go.Am
namespace Go.Am
open Go.Proofs Go.Sort
def cB (n:Int):List AV:=[.int .u8 n]
def WI (τ:Store) (id:Nat) (L:List Int) (s:Store):Prop:=τ id=none∧Store.sub τ s∧∃ v,s id=some (.box [v])∧Own 1 τ (L.map cB) v s
theorem WI.mono {τ s s':Store} {id:Nat} {L:List Int} (h:WI τ id L s) (hs:Store.sub s s'):WI τ id L s':=by
 obtain ⟨h1,h2,v,h3,h4⟩:=h
 exact ⟨h1,Store.sub_trans h2 hs,v,hs _ _ h3,h4.mono hs⟩
theorem Own.setId {esz:Nat} {τ s:Store} {L:List (List AV)} {v:AV} {id:Nat} {o o':Obj} (h:Own esz τ L v s) (hid:s id=some o) (ho:∀ M,o ≠ .arr esz M):Own esz τ L v (s.set id o'):=by
 rcases h with h | ⟨g,h1,h2,h3⟩
 ·exact .inl h
 ·have hgi:¬ g=id:=fun e=>by rw [e,hid] at h3;cases h3;exact ho _ rfl
  exact .inr ⟨g,h1,h2,by rw [Store.set_ne _ _ hgi];exact h3⟩
def Rd (esz:Nat) (τ:Store) (L:List (List AV)) (v:AV):Prop:=(∀ t,Store.sub τ t→slc t esz v=some L)∧pv .len [v]=some (.int .i64 L.length)
theorem Rd.mono {esz:Nat} {τ τ':Store} {L:List (List AV)} {v:AV} (h:Rd esz τ L v) (hs:Store.sub τ τ'):Rd esz τ' L v:=⟨fun t ht=>h.1 t (Store.sub_trans hs ht),h.2⟩
theorem Rd.sl {esz:Nat} {τ:Store} {L:List (List AV)}:Rd esz τ L (.sl esz L):=⟨fun _ _=>vj,by simp [pv,pLen]⟩
theorem Rd.nils {esz:Nat} {τ:Store}:Rd esz τ [] .nils:=⟨fun _ _=>rfl,rfl⟩
theorem Rd.os {esz g:Nat} {τ:Store} {L:List (List AV)} (h:τ g=some (.arr esz L)):Rd esz τ L (.os g esz 0 L.length):=⟨fun t ht=>zq (ht _ _ h) rfl,by simp [pv,pLen]⟩
theorem Rd.own {esz:Nat} {τ s:Store} {L:List (List AV)} {v:AV} (h:Own esz τ L v s):Rd esz s L v:=by
 rcases h with ⟨rfl,rfl⟩ | ⟨g,rfl,_,h⟩
 ·exact Rd.nils
 ·exact Rd.os h
theorem Own.appM {esz bytes:Nat} {τ s:Store} {L ys:List (List AV)} {v wv:AV} {K:AV→Store→Prop} (hsub:Store.sub τ s) (ho:Own esz τ L v s) (hw:slc s esz wv=some ys) (hsz:(L.length+ys.length)*bytes≤140737488355328)
 (h:∀ v' s',Store.sub τ s'→Own esz τ (L++ys) v' s'→K v' s'):appwp esz bytes v wv s K:=by
 rcases ho with ⟨rfl,rfl⟩ | ⟨g,rfl,hg,hs⟩
 ·refine z14 hw (by simpa using hsz) (fun h0 => ?_) (fun _ j hj => ?_)
  ·exact h _ _ hsub (.inl ⟨by simpa using h0,rfl⟩)
  ·exact h _ _ (zb hsub (zi hsub hj)) (.inr ⟨j,rfl,zi hsub hj,Store.set_same _ _ _⟩)
 ·refine xr (zq hs rfl) hw hsz fun j hj => ?_
  have hτ:τ j=none:=zi hsub hj
  refine h _ _ (fun x q hx => ?_) (.inr ⟨j,by simp,hτ,by rw [Store.set_same]⟩)
  have hxj:x≠j:=fun e=>by subst e;rw [hτ] at hx;cases hx
  have hxg:x≠g:=fun e=>by subst e;rw [hg] at hx;cases hx
  rw [Store.set_ne _ _ hxj,Store.del_ne _ hxg];exact hsub x q hx
theorem Rd.cases {esz:Nat} {σ:Store} {L:List (List AV)} {v:AV} (h:Rd esz σ L v):(v = .nils∧L=[])∨v = .sl esz L∨∃ g o n,v = .os g esz o n:=by
 have h1:=h.1 σ (Store.sub_refl _)
 unfold slc at h1
 split at h1
 ·exact .inl ⟨rfl,by cases h1;rfl⟩
 ·split at h1
  ·rename_i e;subst e;cases h1;exact .inr (.inl rfl)
  ·cases h1
 ·split at h1
  ·split at h1
   ·rename_i e;obtain ⟨rfl,_,_⟩:=e;exact .inr (.inr ⟨_,_,_,rfl⟩)
   ·cases h1
  ·cases h1
 ·cases h1
theorem Rd.at {esz:Nat} {τ:Store} {L:List (List AV)} {v:AV} (h:Rd esz τ L v) {k:Nat} (hk:k<L.length):∃ p,pv (.idx esz) [v,.int .i64 (k:Int)]=some p∧∀ t,Store.sub τ t→∀ n,rd t n p=takeN 0 n L[k]:=by
 rcases h.cases with ⟨rfl,h0⟩ | rfl | ⟨g,o,n,rfl⟩
 ·subst h0;simp at hk
 ·refine ⟨.ep L[k],by simp [pv,pIdx,hk],fun t _ n=>rfl⟩
 ·have hl:=h.2
  simp only [pv,pLen,Option.some.injEq,AV.int.injEq,true_and] at hl
  refine ⟨.aptr g esz (o+k) 0,by simp [pv,pIdx];omega,fun t ht m => ?_⟩
  have h1:=h.1 t ht
  unfold slc at h1
  simp only at h1
  split at h1
  ·rename_i e2 es hg
   split at h1
   ·rename_i e;obtain ⟨_,rfl,hle⟩:=e
    have h2:=Option.some.inj h1
    have h3:es[o+k]? = some L[k]:=by
     have h4:((es.drop o).take n)[k]? = some L[k]:=by rw [h2];exact List.getElem?_eq_getElem hk
     rw [List.getElem?_take_of_lt (by omega),List.getElem?_drop] at h4
     exact h4
    simp only [rd,hg,if_true,h3,Option.bind_some]
   ·cases h1
  ·cases h1
end Go.Am
namespace Go.Am
open Go.Proofs Go.Sort
theorem inc_pt {l:List Int}:Inc l↔∀ i,∀ h:i+1<l.length,l[i]<l[i+1]:=by
 unfold Inc
 rw [List.pairwise_iff_getElem]
 constructor
 ·intro h i hi;exact h i (i+1) (by omega) hi (by omega)
 ·intro h i j hi hj hij
  induction j with
  | zero=>omega
  | succ j ih =>
    have h1:=h j hj
    by_cases e:i=j
    ·subst e;exact h1
    ·have:=ih (by omega) (by omega);omega
instance (l:List Int):Decidable (Inc l):=inferInstanceAs (Decidable (l.Pairwise (· < ·)))
instance (a:At):Decidable (atRight a):=inferInstanceAs (Decidable (_∧_∧_∧_∧_∧_∧_))
theorem z7d (x:Int):x.fdiv 16777216=x / 16777216:=Int.fdiv_eq_ediv_of_nonneg _ (by omega)
end Go.Am
namespace Go.Am
open Go.Proofs Go.Sort
theorem x8 (fl k:Int) (v:List Int):(oneA fl k v).length≤4+v.length:=by rw [z45];split <;> omega
theorem z77 (n:Int):(b4 n).length=4:=rfl
end Go.Am
namespace Go.Am
open Go.Proofs Go.Sort
theorem c55 (n:Int):Pur Try.prog 55 [.int .u32 n] (.bool (decide (goodN n))):=by
 refine zo Tst.F55 (by simp [Tst.F55,Fn.mkX]) fun σ => ?_
 simp only [Tst.F55,Fn.mkX,Tst.b55]
 have e:shrInt .u32 n 24=n / 16777216:=by
  simp [shrInt,IntKind.bits,z7d]
 simp only [e,↓vcPre,↓z0,↓reduceIte,vcPost,vcStd,Nat.reduceEqDiff,reduceCtorEq,Nat.reduceAdd,Nat.reduceLeDiff,Int.reduceLT,Int.reduceLE,↓u_setN]
 (repeat' first
   | (refine ⟨fun _ => ?_,fun _ => ?_⟩)
   | (refine decide_eq_decide.2 ?_;unfold goodN;omega)
   | (symm;rw [decide_eq_false_iff_not];unfold goodN;omega)
   | (symm;rw [decide_eq_true_iff];unfold goodN;omega))
theorem c54 (l:List Seg) (hl:l.length≤1000000):Pur Try.prog 54 [.sl 2 (l.map Seg.c)] (.bool (decide (pathRight l))):=by
 refine zo Tst.F54 (by simp [Tst.F54,Fn.mkX]) fun σ => ?_
 simp only [Tst.F54,Fn.mkX,Tst.b54]
 simp only [↓vcPre,↓z0,↓reduceIte,vcPost,vcStd,Nat.reduceEqDiff,reduceCtorEq,Nat.reduceAdd,Nat.reduceLeDiff,Int.reduceLT,Int.reduceLE,↓u_setN]
 refine LoopQ.inv (S:=Nat) (fun k=>[(0,.sl 2 (l.map Seg.c)),(3,.int .i64 (k:Int))]) (fun _=>σ) (fun k=>k≤l.length∧∀ s ∈ l.take k,segRight s) (fun k=>l.length+1 - k) 0 rfl (Store.sub_refl _) ⟨by omega,by simp⟩ ?_
 rintro k ⟨hk,hr⟩
 simp only [↓vcPre,↓z0,↓reduceIte,vcPost,vcStd,Nat.reduceEqDiff,reduceCtorEq,Nat.reduceAdd,Nat.reduceLeDiff,Int.reduceLT,Int.reduceLE,↓u_setN]
 refine ⟨fun c1 => ?_,fun c1 => ?_⟩
 ·have ek:IntKind.i64.wrap ((k:Int)+1)=((k+1:Nat):Int):=by rw [zf (by unfold I64;omega)];omega
  refine ⟨c1,by simp [Seg.c],?_⟩
  simp only [Seg.c,c1,↓vcPre,↓z0,↓reduceIte,vcPost,vcStd,Nat.reduceEqDiff,reduceCtorEq,Nat.reduceAdd,Nat.reduceLeDiff,Int.reduceLT,Int.reduceLE,↓u_setN]
  rw [ek]
  have no:¬ segRight l[k]→false=decide (pathRight l):=fun h=>by rw [decide_eq_false (fun h2:pathRight l=>h (h2.1 _ (List.getElem_mem c1)))]
  (repeat' first
    | (refine ⟨fun _ => ?_,fun _ => ?_⟩)
    | (refine no fun h => ?_;unfold segRight at h;omega))
  all_goals
   refine NextQ.to (k+1) rfl (Store.sub_refl _) (by omega) ⟨by omega,fun s hs => ?_⟩
   rw [List.take_add_one,List.getElem?_eq_getElem c1] at hs
   rcases List.mem_append.1 hs with h | h
   ·exact hr s h
   ·simp at h;subst h;unfold segRight;omega
 ·have e:l.take k=l:=List.take_of_length_le (by omega)
  rw [e] at hr
  refine decide_eq_decide.2 ⟨fun h=>⟨hr,by omega⟩,fun h => ?_⟩
  have:=h.2;omega
theorem c30 (a:At) (ha:a.ok):Pur Try.prog 30 [.agg a.c] (.bool (decide (atRight a))):=by
 refine zo Tst.F30 (by simp [Tst.F30,Fn.mkX]) fun σ => ?_
 simp only [Tst.F30,Fn.mkX,Tst.b30]
 simp only [At.c,↓vcPre,↓z0,↓reduceIte,vcPost,vcStd,Nat.reduceEqDiff,reduceCtorEq,Nat.reduceAdd,Nat.reduceLeDiff,Int.reduceLT,Int.reduceLE,↓u_setN]
 refine AllocQ.i0 fun i hi => ?_
 have hsb:=Store.sub_set σ i (.box a.c) hi
 have hTb:(σ.set i (.box a.c)) i=some (.box [.int .i64 a.org,.sl 2 (a.path.map Seg.c),.int .u32 a.nxt,.bool a.hm,.int .u32 a.med,.bool a.hp,.int .u32 a.prf,.bool a.atm,.sl 1 (a.cms.map cU)]):=Store.set_same _ _ _
 change bops _ _ _ (σ.set i (.box a.c)) _
 generalize σ.set i (.box a.c)=T at hsb hTb ⊢
 have no:¬ atRight a→false=decide (atRight a)∧Store.sub σ T:=fun h=>⟨by rw [decide_eq_false h],hsb⟩
 by_cases h1:a.org<0
 ·simp only [hTb,h1,↓vcPre,↓z0,↓reduceIte,vcPost,vcStd,Nat.reduceEqDiff,reduceCtorEq,Nat.reduceAdd,Nat.reduceLeDiff,Int.reduceLT,Int.reduceLE,↓u_setN]
  exact no fun h=>by have:=h.1;omega
 by_cases h2:2<a.org
 ·simp only [hTb,h1,h2,↓vcPre,↓z0,↓reduceIte,vcPost,vcStd,Nat.reduceEqDiff,reduceCtorEq,Nat.reduceAdd,Nat.reduceLeDiff,Int.reduceLT,Int.reduceLE,↓u_setN]
  exact no fun h=>by have:=h.1;omega
 simp only [hTb,h1,h2,↓vcPre,↓z0,↓reduceIte,vcPost,vcStd,Nat.reduceEqDiff,reduceCtorEq,Nat.reduceAdd,Nat.reduceLeDiff,Int.reduceLT,Int.reduceLE,↓u_setN]
 refine (c54 a.path ha.1).Q ?_
 by_cases g1:pathRight a.path
 case neg=>rw [decide_eq_false g1];simp only [hTb,↓vcPre,↓z0,↓reduceIte,vcPost,vcStd,Nat.reduceEqDiff,reduceCtorEq,Nat.reduceAdd,Nat.reduceLeDiff,Int.reduceLT,Int.reduceLE,↓u_setN];exact no fun h=>g1 h.2.1
 rw [decide_eq_true g1]
 simp only [hTb,↓vcPre,↓z0,↓reduceIte,vcPost,vcStd,Nat.reduceEqDiff,reduceCtorEq,Nat.reduceAdd,Nat.reduceLeDiff,Int.reduceLT,Int.reduceLE,↓u_setN]
 refine (c55 a.nxt).Q ?_
 by_cases g2:goodN a.nxt
 case neg=>rw [decide_eq_false g2];simp only [hTb,↓vcPre,↓z0,↓reduceIte,vcPost,vcStd,Nat.reduceEqDiff,reduceCtorEq,Nat.reduceAdd,Nat.reduceLeDiff,Int.reduceLT,Int.reduceLE,↓u_setN];exact no fun h=>g2 h.2.2.1
 rw [decide_eq_true g2]
 by_cases g3:a.hm=false→a.med=0
 case neg =>
  have hm:a.hm=false:=by cases h:a.hm <;> simp_all
  have hz:¬ a.med=0:=fun h=>g3 fun _=>h
  simp only [hTb,hm,hz,↓vcPre,↓z0,↓reduceIte,vcPost,vcStd,Nat.reduceEqDiff,reduceCtorEq,Nat.reduceAdd,Nat.reduceLeDiff,Int.reduceLT,Int.reduceLE,↓u_setN]
  exact no fun h=>g3 h.2.2.2.1
 by_cases g4:a.hp=false→a.prf=0
 case neg =>
  have hp:a.hp=false:=by cases h:a.hp <;> simp_all
  have hz:¬ a.prf=0:=fun h=>g4 fun _=>h
  cases hm:a.hm
  ·have hz2:a.med=0:=g3 hm
   simp only [hTb,hm,hp,hz,hz2,↓vcPre,↓z0,↓reduceIte,vcPost,vcStd,Nat.reduceEqDiff,reduceCtorEq,Nat.reduceAdd,Nat.reduceLeDiff,Int.reduceLT,Int.reduceLE,↓u_setN]
   exact no fun h=>g4 h.2.2.2.2.1
  ·simp only [hTb,hm,hp,hz,↓vcPre,↓z0,↓reduceIte,vcPost,vcStd,Nat.reduceEqDiff,reduceCtorEq,Nat.reduceAdd,Nat.reduceLeDiff,Int.reduceLT,Int.reduceLE,↓u_setN]
   exact no fun h=>g4 h.2.2.2.2.1
 cases hm:a.hm <;> cases hp:a.hp
 ·have e1:=g3 hm
  have e2:=g4 hp
  simp only [hTb,hm,hp,e1,e2,↓vcPre,↓z0,↓reduceIte,vcPost,vcStd,Nat.reduceEqDiff,reduceCtorEq,Nat.reduceAdd,Nat.reduceLeDiff,Int.reduceLT,Int.reduceLE,↓u_setN]
  refine ⟨fun c=>no fun h=>by have:=h.2.2.2.2.2.1;omega,fun c => ?_⟩
  refine LoopQ.inv (S:=Nat) (fun k=>[(1,.ptr i 0),(3,.int .i64 ((k+1:Nat):Int))]) (fun _=>T) (fun k=>k≤a.cms.length∧∀ i,∀ h:i+1<a.cms.length,i<k→a.cms[i]<a.cms[i+1]) (fun k=>a.cms.length+1 - k) 0 rfl (Store.sub_refl _) ⟨by omega,fun i _ h=>by omega⟩ ?_
  rintro k ⟨hk,hr⟩
  simp only [hTb,↓vcPre,↓z0,↓reduceIte,vcPost,vcStd,Nat.reduceEqDiff,reduceCtorEq,Nat.reduceAdd,Nat.reduceLeDiff,Int.reduceLT,Int.reduceLE,↓u_setN]
  refine ⟨fun c1 => ?_,fun c1 => ?_⟩
  ·have ek:IntKind.i64.wrap (((k+1:Nat):Int)+1)=((k+1+1:Nat):Int):=by rw [zf (by unfold I64;omega)];omega
   have em:IntKind.i64.wrap (((k+1:Nat):Int) - 1)=(k:Int):=by rw [zf (by unfold I64;omega)];omega
   rw [em]
   simp only [Int.toNat_natCast]
   refine ⟨by omega,by omega,by simp [cU],?_⟩
   simp only [cU,↓vcPre,↓z0,↓reduceIte,vcPost,vcStd,Nat.reduceEqDiff,reduceCtorEq,Nat.reduceAdd,Nat.reduceLeDiff,Int.reduceLT,Int.reduceLE,↓u_setN]
   refine ⟨c1,fun g => ?_,fun g => ?_⟩
   ·exact no fun h=>by have:=inc_pt.1 h.2.2.2.2.2.2 k (by omega);omega
   ·rw [ek]
    refine NextQ.to (k+1) rfl (Store.sub_refl _) (by omega) ⟨by omega,fun i hi hik => ?_⟩
    by_cases e:i=k
    ·subst e;omega
    ·exact hr i hi (by omega)
  ·refine ⟨?_,hsb⟩
   symm
   rw [decide_eq_true_iff]
   exact ⟨⟨by omega,by omega⟩,g1,g2,g3,g4,by omega,inc_pt.2 fun i hi=>hr i hi (by omega)⟩
 ·have e1:=g3 hm
  simp only [hTb,hm,hp,e1,↓vcPre,↓z0,↓reduceIte,vcPost,vcStd,Nat.reduceEqDiff,reduceCtorEq,Nat.reduceAdd,Nat.reduceLeDiff,Int.reduceLT,Int.reduceLE,↓u_setN]
  refine ⟨fun c=>no fun h=>by have:=h.2.2.2.2.2.1;omega,fun c => ?_⟩
  refine LoopQ.inv (S:=Nat) (fun k=>[(1,.ptr i 0),(3,.int .i64 ((k+1:Nat):Int))]) (fun _=>T) (fun k=>k≤a.cms.length∧∀ i,∀ h:i+1<a.cms.length,i<k→a.cms[i]<a.cms[i+1]) (fun k=>a.cms.length+1 - k) 0 rfl (Store.sub_refl _) ⟨by omega,fun i _ h=>by omega⟩ ?_
  rintro k ⟨hk,hr⟩
  simp only [hTb,↓vcPre,↓z0,↓reduceIte,vcPost,vcStd,Nat.reduceEqDiff,reduceCtorEq,Nat.reduceAdd,Nat.reduceLeDiff,Int.reduceLT,Int.reduceLE,↓u_setN]
  refine ⟨fun c1 => ?_,fun c1 => ?_⟩
  ·have ek:IntKind.i64.wrap (((k+1:Nat):Int)+1)=((k+1+1:Nat):Int):=by rw [zf (by unfold I64;omega)];omega
   have em:IntKind.i64.wrap (((k+1:Nat):Int) - 1)=(k:Int):=by rw [zf (by unfold I64;omega)];omega
   rw [em]
   simp only [Int.toNat_natCast]
   refine ⟨by omega,by omega,by simp [cU],?_⟩
   simp only [cU,↓vcPre,↓z0,↓reduceIte,vcPost,vcStd,Nat.reduceEqDiff,reduceCtorEq,Nat.reduceAdd,Nat.reduceLeDiff,Int.reduceLT,Int.reduceLE,↓u_setN]
   refine ⟨c1,fun g => ?_,fun g => ?_⟩
   ·exact no fun h=>by have:=inc_pt.1 h.2.2.2.2.2.2 k (by omega);omega
   ·rw [ek]
    refine NextQ.to (k+1) rfl (Store.sub_refl _) (by omega) ⟨by omega,fun i hi hik => ?_⟩
    by_cases e:i=k
    ·subst e;omega
    ·exact hr i hi (by omega)
  ·refine ⟨?_,hsb⟩
   symm
   rw [decide_eq_true_iff]
   exact ⟨⟨by omega,by omega⟩,g1,g2,g3,g4,by omega,inc_pt.2 fun i hi=>hr i hi (by omega)⟩
 ·have e2:=g4 hp
  simp only [hTb,hm,hp,e2,↓vcPre,↓z0,↓reduceIte,vcPost,vcStd,Nat.reduceEqDiff,reduceCtorEq,Nat.reduceAdd,Nat.reduceLeDiff,Int.reduceLT,Int.reduceLE,↓u_setN]
  refine ⟨fun c=>no fun h=>by have:=h.2.2.2.2.2.1;omega,fun c => ?_⟩
  refine LoopQ.inv (S:=Nat) (fun k=>[(1,.ptr i 0),(3,.int .i64 ((k+1:Nat):Int))]) (fun _=>T) (fun k=>k≤a.cms.length∧∀ i,∀ h:i+1<a.cms.length,i<k→a.cms[i]<a.cms[i+1]) (fun k=>a.cms.length+1 - k) 0 rfl (Store.sub_refl _) ⟨by omega,fun i _ h=>by omega⟩ ?_
  rintro k ⟨hk,hr⟩
  simp only [hTb,↓vcPre,↓z0,↓reduceIte,vcPost,vcStd,Nat.reduceEqDiff,reduceCtorEq,Nat.reduceAdd,Nat.reduceLeDiff,Int.reduceLT,Int.reduceLE,↓u_setN]
  refine ⟨fun c1 => ?_,fun c1 => ?_⟩
  ·have ek:IntKind.i64.wrap (((k+1:Nat):Int)+1)=((k+1+1:Nat):Int):=by rw [zf (by unfold I64;omega)];omega
   have em:IntKind.i64.wrap (((k+1:Nat):Int) - 1)=(k:Int):=by rw [zf (by unfold I64;omega)];omega
   rw [em]
   simp only [Int.toNat_natCast]
   refine ⟨by omega,by omega,by simp [cU],?_⟩
   simp only [cU,↓vcPre,↓z0,↓reduceIte,vcPost,vcStd,Nat.reduceEqDiff,reduceCtorEq,Nat.reduceAdd,Nat.reduceLeDiff,Int.reduceLT,Int.reduceLE,↓u_setN]
   refine ⟨c1,fun g => ?_,fun g => ?_⟩
   ·exact no fun h=>by have:=inc_pt.1 h.2.2.2.2.2.2 k (by omega);omega
   ·rw [ek]
    refine NextQ.to (k+1) rfl (Store.sub_refl _) (by omega) ⟨by omega,fun i hi hik => ?_⟩
    by_cases e:i=k
    ·subst e;omega
    ·exact hr i hi (by omega)
  ·refine ⟨?_,hsb⟩
   symm
   rw [decide_eq_true_iff]
   exact ⟨⟨by omega,by omega⟩,g1,g2,g3,g4,by omega,inc_pt.2 fun i hi=>hr i hi (by omega)⟩
 ·simp only [hTb,hm,hp,↓vcPre,↓z0,↓reduceIte,vcPost,vcStd,Nat.reduceEqDiff,reduceCtorEq,Nat.reduceAdd,Nat.reduceLeDiff,Int.reduceLT,Int.reduceLE,↓u_setN]
  refine ⟨fun c=>no fun h=>by have:=h.2.2.2.2.2.1;omega,fun c => ?_⟩
  refine LoopQ.inv (S:=Nat) (fun k=>[(1,.ptr i 0),(3,.int .i64 ((k+1:Nat):Int))]) (fun _=>T) (fun k=>k≤a.cms.length∧∀ i,∀ h:i+1<a.cms.length,i<k→a.cms[i]<a.cms[i+1]) (fun k=>a.cms.length+1 - k) 0 rfl (Store.sub_refl _) ⟨by omega,fun i _ h=>by omega⟩ ?_
  rintro k ⟨hk,hr⟩
  simp only [hTb,↓vcPre,↓z0,↓reduceIte,vcPost,vcStd,Nat.reduceEqDiff,reduceCtorEq,Nat.reduceAdd,Nat.reduceLeDiff,Int.reduceLT,Int.reduceLE,↓u_setN]
  refine ⟨fun c1 => ?_,fun c1 => ?_⟩
  ·have ek:IntKind.i64.wrap (((k+1:Nat):Int)+1)=((k+1+1:Nat):Int):=by rw [zf (by unfold I64;omega)];omega
   have em:IntKind.i64.wrap (((k+1:Nat):Int) - 1)=(k:Int):=by rw [zf (by unfold I64;omega)];omega
   rw [em]
   simp only [Int.toNat_natCast]
   refine ⟨by omega,by omega,by simp [cU],?_⟩
   simp only [cU,↓vcPre,↓z0,↓reduceIte,vcPost,vcStd,Nat.reduceEqDiff,reduceCtorEq,Nat.reduceAdd,Nat.reduceLeDiff,Int.reduceLT,Int.reduceLE,↓u_setN]
   refine ⟨c1,fun g => ?_,fun g => ?_⟩
   ·exact no fun h=>by have:=inc_pt.1 h.2.2.2.2.2.2 k (by omega);omega
   ·rw [ek]
    refine NextQ.to (k+1) rfl (Store.sub_refl _) (by omega) ⟨by omega,fun i hi hik => ?_⟩
    by_cases e:i=k
    ·subst e;omega
    ·exact hr i hi (by omega)
  ·refine ⟨?_,hsb⟩
   symm
   rw [decide_eq_true_iff]
   exact ⟨⟨by omega,by omega⟩,g1,g2,g3,g4,by omega,inc_pt.2 fun i hi=>hr i hi (by omega)⟩
end Go.Am
namespace Go.Am
theorem WeakE.frz {e:Env} {σ:Store} {Q:Env→Store→Prop} (t:Nat) {id esz off len:Nat} {es:List (List AV)} (ht:e.get t=some (.os id esz off len)) (hσ:σ id=some (.arr esz es)) (hle:off+len≤es.length)
 (h:WeakE ((t,.sl esz ((es.drop off).take len))::e) (σ.del id) Q):WeakE e σ Q:=fun G w vs hs hv=>by
 obtain ⟨x,hx,hr⟩:=hv t _ ht
 obtain ⟨G',h1,h2,h3⟩:=wn hs hσ hle hr
 obtain ⟨G2,e2,σ2,g1,g2,g3,g4⟩:=h G' w vs h2 (fun u v hu=>by
  simp only [Env.get] at hu
  split at hu
  ·rename_i he;subst he;cases hu;exact ⟨x,hx,h3⟩
  ·obtain ⟨y,hy,hyr⟩:=hv u v hu;exact ⟨y,hy,h1.vrel hs hyr⟩)
 exact ⟨G2,e2,σ2,h1.trans g1,g2,g3,g4⟩
theorem WeakE.slot {e:Env} {σ:Store} {Q:Env→Store→Prop} (t:Nat) {a b:AV} (ht:e.get t=some a) (hab:∀ G w v,VRel G w a v→VRel G w b v) (h:WeakE ((t,b)::e) σ Q):WeakE e σ Q:=fun G w vs hs hv=>by
 obtain ⟨x,hx,hr⟩:=hv t _ ht
 exact h G w vs hs (fun u v hu=>by
  simp only [Env.get] at hu
  split at hu
  ·rename_i he;subst he;cases hu;exact ⟨x,hx,hab _ _ _ hr⟩
  ·exact hv u v hu)
theorem z5o (esz:Nat) (G:Gh) (w:World) (v:Value) (h:VRel G w .nils v):VRel G w (.sl esz []) v:=by
 have e:=h.of_nils;subst e;exact .sl0
theorem WeakE.nil {e:Env} {σ:Store} {Q:Env→Store→Prop} (t esz:Nat) (ht:e.get t=some .nils) (h:WeakE ((t,.sl esz [])::e) σ Q):WeakE e σ Q := .slot t ht (fun G w v h=>z5o esz G w v h) h
theorem WeakE.own {e:Env} {τ σ:Store} {Q:Env→Store→Prop} (t:Nat) {esz:Nat} {L:List (List AV)} {v:AV} (ht:e.get t=some v) (ho:Own esz τ L v σ) (hs:Store.sub τ σ)
 (h:∀ σ',Store.sub τ σ'→Store.sub σ' σ→(∀ i o,σ i=some o→(∀ n,v ≠ .os i esz 0 n)→σ' i=some o)→WeakE ((t,.sl esz L)::e) σ' Q):WeakE e σ Q:=by
 rcases ho with ⟨rfl,rfl⟩ | ⟨g,rfl,h2,h3⟩
 ·exact .nil t esz ht (h σ hs (Store.sub_refl _) fun _ _ h _=>h)
 ·refine .frz t ht h3 (by omega) ?_
  rw [List.drop_zero,List.take_length]
  refine h _ (sub_del hs h2) (fun j o hj => ?_) fun i o hi hn => ?_
  ·simp only [Store.del] at hj;split at hj
   ·cases hj
   ·exact hj
  ·rw [Store.del_ne _ (fun e=>hn _ (by rw [e]))];exact hi
end Go.Am
namespace Go.Am
theorem WeakE.mono {e:Env} {σ:Store} {Q Q':Env→Store→Prop} (h:WeakE e σ Q) (hq:∀ e s,Q e s→Q' e s):WeakE e σ Q':=fun G w vs hs hv=>by
 obtain ⟨G',e',s',h1,h2,h3,h4⟩:=h G w vs hs hv
 exact ⟨G',e',s',h1,h2,h3,hq _ _ h4⟩
end Go.Am
namespace Go.Am
open Go.Proofs Go.Sort
theorem Own.split {esz:Nat} {τ s:Store} {L:List (List AV)} {v:AV} (hsub:Store.sub τ s) (ho:Own esz τ L v s):∃ τ0,Store.sub τ τ0∧Store.sub τ0 s∧(∀ j o,s j=some o→(∀ M,o ≠ .arr esz M)→τ0 j=some o)∧Own esz τ0 L v s:=by
 rcases ho with ⟨hk,hv⟩ | ⟨g,hv,hg,hs⟩
 ·exact ⟨s,hsub,Store.sub_refl _,fun _ _ h _=>h,.inl ⟨hk,hv⟩⟩
 ·exact ⟨s.del g,sub_del hsub hg,z4d _ _,fun j o hj hn=>by rw [Store.del_ne _ (fun e=>by rw [e,hs] at hj;cases hj;exact hn _ rfl)];exact hj,.inr ⟨g,hv,by simp,hs⟩⟩
theorem Own.appP {esz bytes:Nat} {τ s:Store} {L ys:List (List AV)} {v wv:AV} {K:AV→Store→Prop} (hsub:Store.sub τ s) (ho:Own esz τ L v s) (hw:slc s esz wv=some ys) (hsz:(L.length+ys.length)*bytes≤140737488355328)
 (h:∀ v' s',Store.sub τ s'→Own esz τ (L++ys) v' s'→(∀ j o,s j=some o→(∀ M,o ≠ .arr esz M)→s' j=some o)→K v' s'):appwp esz bytes v wv s K:=by
 obtain ⟨τ0,q1,q2,q3,q4⟩:=Own.split hsub ho
 refine Own.appM (τ:=τ0) q2 q4 hw hsz fun v' s' hs' ho' => ?_
 exact h v' s' (Store.sub_trans q1 hs') (ho'.weak q1) fun j o hj hn=>hs' _ _ (q3 j o hj hn)
theorem z75:[AV.int .i64 0,.nils,.int .u32 0,.bool false,.int .u32 0,.bool false,.int .u32 0,.bool false,.nils]=zCells:=rfl
section
variable {a:At} {as1:Int} {σ:Store} {n rr:Env→Store→Prop} {xx:Nat→Env→Store→Prop}
end
end Go.Am
namespace Go.Am
def lay (cur:Array Value) (o:Nat) (vs:List Value):Array Value:=(cur.toList.take o++vs++cur.toList.drop (o+vs.length)).toArray
section
variable {P:Program} {w:World} {G:Gh} {σ:Store}
end
end Go.Am
namespace Go.Am
open Go.Proofs Go.Sort
def HO (σ:Store) (p:List Seg) (v:AV) (s:Store):Prop :=
 (p=[]∧v = .nils)∨∃ x r u g,p=x::r∧v = .os g 2 0 (r.length+1)∧σ g=none∧s g=some (.arr 2 ([.int .i64 x.kind,u]::r.map Seg.c))∧Own 1 σ (x.ls.map cU) u s
theorem HO.nil {σ s:Store}:HO σ [] .nils s := .inl ⟨rfl,rfl⟩
theorem HO.mono {σ s s':Store} {p:List Seg} {v:AV} (h:HO σ p v s) (hs:Store.sub s s'):HO σ p v s':=by
 rcases h with h | ⟨x,r,u,g,h1,h2,h3,h4,h5⟩
 ·exact .inl h
 ·exact .inr ⟨x,r,u,g,h1,h2,h3,hs _ _ h4,h5.mono hs⟩
end Go.Am
namespace Go.Am.Ts15
open Go.Proofs Go.Am.B
def b42:BC:=z [k 2 .nils] [0] (z [k 3 .nils] [0,3] (.seq (z [j 4 0] [0,3,4] (.block 0 (.loop [0,3,4] (.seq (z [m 5 4,m 6 0,u 7 .len 6,b 8 .lss 5 7] [0,3,4,8] (.cond (.t 8) .skip (.exit 0))) (.seq (.block 1 (z [m 11 3] [0,4,11] (z [m 12 0] [0,4,11,12] (z [m 13 4] [0,4,11,12,13] (z [x 14 2 12 13] [0,4,11,14] (z [f 15 0 14] [0,4,11,15] (z [m 18 0] [0,4,11,15,18] (z [m 19 4] [0,4,11,15,18,19] (z [x 20 2 18 19] [0,4,11,15,20] (z [f 21 1 20] [0,4,11,15,21] (z [l 22 1 21] [0,4,11,15,22] (.both (z [l 16 1 15] [0,4,11,16,22] (z [⟨some 17,none,.alloc (.mksl 1 0),[]⟩] [0,4,11,16,17,22] (z [⟨some 23,none,.loud (.app 1 4),[.t 17,.t 22]⟩] [0,4,11,16,23] (z [p 24 (.build [(.int .i64 0),.nils] [(0,1),(1,1)]) [.t 16,.t 23]] [0,4,11,24] (z [⟨some 25,none,.alloc (.mksl 2 1),[.t 24]⟩] [0,4,11,25] (z [⟨some 26,none,.loud (.app 2 32),[.t 11,.t 25]⟩] [0,4,26] (z [m 3 26] [0,3,4] (.ops [] [0,3,4])))))))) (.both (z [⟨some 17,none,.alloc (.mksl 1 0),[]⟩] [0,4,11,15,17,22] (.both (z [l 16 1 15] [0,4,11,16,17,22] (z [⟨some 23,none,.loud (.app 1 4),[.t 17,.t 22]⟩] [0,4,11,16,23] (z [p 24 (.build [(.int .i64 0),.nils] [(0,1),(1,1)]) [.t 16,.t 23]] [0,4,11,24] (z [⟨some 25,none,.alloc (.mksl 2 1),[.t 24]⟩] [0,4,11,25] (z [⟨some 26,none,.loud (.app 2 32),[.t 11,.t 25]⟩] [0,4,26] (z [m 3 26] [0,3,4] (.ops [] [0,3,4]))))))) (.both (z [⟨some 23,none,.loud (.app 1 4),[.t 17,.t 22]⟩] [0,4,11,15,23] (z [l 16 1 15] [0,4,11,16,23] (z [p 24 (.build [(.int .i64 0),.nils] [(0,1),(1,1)]) [.t 16,.t 23]] [0,4,11,24] (z [⟨some 25,none,.alloc (.mksl 2 1),[.t 24]⟩] [0,4,11,25] (z [⟨some 26,none,.loud (.app 2 32),[.t 11,.t 25]⟩] [0,4,26] (z [m 3 26] [0,3,4] (.ops [] [0,3,4]))))))) (.top)))) (.top)))))))))))))) (.ops [m 9 4,c 10 .add 9 1,m 4 10] [0,3,4])))))) (.seq (.wk 6 (.ops [m 27 3,m 2 27] [2])) .ret)))
def F42:Fn Try.prog 42:=Fn.mkW false [6] b42 [.t 2] 28 Try.f42 _ Try.func42 (by decide) rfl Try.ntmps42 (by kernel_rfl) (by kernel_rfl)
end Go.Am.Ts15
namespace Go.Am
open Go.Proofs Go.Sort
def CO (σ:Store) (L:List Int) (u:AV) (s:Store):Prop :=
 (L=[]∧u = .nils)∨∃ g,∃ M:List Int,u = .os g 1 0 L.length∧σ g=none∧s g=some (.arr 1 (M.map cU))∧L.length≤M.length∧M.take L.length=L
theorem CO.len {σ s:Store} {L:List Int} {u:AV} (h:CO σ L u s):pv .len [u]=some (.int .i64 (L.length:Int)):=by
 rcases h with ⟨rfl,rfl⟩ | ⟨g,M,rfl,_⟩ <;> rfl
theorem CO.mono {σ s s':Store} {L:List Int} {u:AV} (h:CO σ L u s) (hs:∀ g o,σ g=none→s g=some o→s' g=some o):CO σ L u s':=by
 rcases h with h | ⟨g,M,h1,h2,h3,h4⟩
 ·exact .inl h
 ·exact .inr ⟨g,M,h1,h2,hs _ _ h2 h3,h4⟩
theorem CO.cell {σ s:Store} {L:List Int} {u:AV} (h:CO σ L u s):u.cells=[u]∧u.isTup=false∧u.flat=true:=by
 rcases h with ⟨rfl,rfl⟩ | ⟨g,M,rfl,_⟩ <;> exact ⟨rfl,rfl,rfl⟩
theorem zbk (a:At) (h:a.ok) (σ:Store):ACalls Try.prog 43 [.agg a.c] σ (fun r s=>∃ u,r = .agg ((canonA a).cO u)∧CO σ (canonA a).cms u s∧Store.sub σ s):=by
 refine (s43 a h σ).mono ?_
 rintro r s (⟨hz,rfl,rfl⟩ | ⟨g,M,m1,m2,m3,rfl,rfl⟩)
 ·exact ⟨.nils,rfl,.inl ⟨hz,rfl⟩,Store.sub_refl _⟩
 ·exact ⟨_,rfl,.inr ⟨g,M,rfl,m1,Store.set_same _ _ _,m2,m3⟩,Store.sub_set _ _ _ m1⟩
section
variable {r:Rule} {σ:Store} {n rr:Env→Store→Prop} {xx:Nat→Env→Store→Prop} {p3 p5 p6:Nat} {as1:Int}
end
end Go.Am
namespace Go.Am.Ts22
open Go.Proofs Go.Am.B
def t6_112:BC:=z [f 112 8 11,l 113 1 112,m 14 113] [5,12,14] (.seq (z [f 114 11 5,l 115 1 114,p 116 (.bin .neq) [.t 115,.c (.int .u32 0)]] [5,12,14,116] (.cond (.t 116) (.ops [m 117 14,f 118 11 5,l 119 1 118,g 120 33 [.t 117,.t 119],m 14 120] [12,14]) .skip)) (.seq (z [m 121 14,u 122 .len 121,f 123 8 12,l 124 1 123,u 125 .len 124,b 126 .neq 122 125] [12,14,126] (.cond (.t 126) (z [k 10 (.bool false)] [10] .ret) .skip)) (.seq (z [j 15 0] [12,14,15] (.block 0 (.loop [12,14,15] (.seq (z [m 127 15,m 128 14,u 129 .len 128,b 130 .lss 127 129] [12,14,15,130] (.cond (.t 130) .skip (.exit 0))) (.seq (.block 1 (z [m 133 14,m 134 15,x 135 1 133 134,f 137 8 12,m 139 15,l 136 1 135,l 138 1 137,x 140 1 138 139,l 141 1 140,b 142 .neq 136 141] [12,14,15,142] (.cond (.t 142) (z [k 10 (.bool false)] [10] .ret) .skip))) (.ops [m 131 15,c 132 .add 131 1,m 15 132] [12,14,15])))))) (z [g 143 28 [],m 10 143] [10] .ret))))
def t6_40:BC := .seq (z [m 40 13,u 41 .not 40,m 42 41,⟨some 43,some (42,false),.pure (.fld 0),[.t 12]⟩,⟨some 44,some (42,false),.load (.ld 1 false),[.t 43]⟩,⟨some 45,some (42,false),.pure (.fld 0),[.t 11]⟩,⟨some 46,some (42,false),.load (.ld 1 false),[.t 45]⟩,⟨some 47,some (42,false),.pure (.bin .neq),[.t 44,.t 46]⟩,⟨some 48,none,.pick,[.t 42,.c (.bool true),.t 47]⟩,m 49 48,⟨some 50,some (49,false),.pure (.fld 2),[.t 12]⟩,⟨some 51,some (49,false),.load (.ld 1 false),[.t 50]⟩,⟨some 52,some (49,false),.pure (.fld 2),[.t 11]⟩,⟨some 53,some (49,false),.load (.ld 1 false),[.t 52]⟩,⟨some 54,some (49,false),.pure (.bin .neq),[.t 51,.t 53]⟩,⟨some 55,none,.pick,[.t 49,.c (.bool true),.t 54]⟩,m 56 55,⟨some 57,some (56,false),.pure (.fld 7),[.t 12]⟩,⟨some 58,some (56,false),.load (.ld 1 false),[.t 57]⟩,⟨some 59,some (56,false),.pure (.fld 7),[.t 11]⟩,⟨some 60,some (56,false),.load (.ld 1 false),[.t 59]⟩,⟨some 61,some (56,false),.pure (.eqb true),[.t 58,.t 60]⟩,⟨some 62,none,.pick,[.t 56,.c (.bool true),.t 61]⟩] [5,11,12,62] (.cond (.t 62) (z [k 10 (.bool false)] [10] .ret) .skip)) (.seq (z [f 63 6 5,l 64 1 63,u 65 .not 64,m 66 65,⟨some 67,some (66,true),.pure (.fld 5),[.t 12]⟩,⟨some 68,some (66,true),.load (.ld 1 false),[.t 67]⟩,⟨some 69,some (66,true),.pure (.fld 5),[.t 11]⟩,⟨some 70,some (66,true),.load (.ld 1 false),[.t 69]⟩,⟨some 71,some (66,true),.pure (.eqb true),[.t 68,.t 70]⟩,⟨some 72,some (66,true),.pure (.mov),[.t 71]⟩,⟨some 73,some (72,false),.pure (.fld 6),[.t 12]⟩,⟨some 74,some (72,false),.load (.ld 1 false),[.t 73]⟩,⟨some 75,some (72,false),.pure (.fld 6),[.t 11]⟩,⟨some 76,some (72,false),.load (.ld 1 false),[.t 75]⟩,⟨some 77,some (72,false),.pure (.bin .neq),[.t 74,.t 76]⟩,⟨some 78,some (66,true),.pick,[.t 72,.c (.bool true),.t 77]⟩,⟨some 79,none,.pick,[.t 66,.t 78,.c (.bool false)]⟩,m 80 79,⟨some 81,some (80,false),.pure (.fld 8),[.t 5]⟩,⟨some 82,some (80,false),.load (.ld 1 false),[.t 81]⟩,⟨some 83,some (80,false),.pure (.not),[.t 82]⟩,⟨some 84,some (80,false),.pure (.mov),[.t 83]⟩,⟨some 85,some (84,true),.pure (.fld 3),[.t 12]⟩,⟨some 86,some (84,true),.load (.ld 1 false),[.t 85]⟩,⟨some 87,some (84,true),.pure (.fld 3),[.t 11]⟩,⟨some 88,some (84,true),.load (.ld 1 false),[.t 87]⟩,⟨some 89,some (84,true),.pure (.eqb true),[.t 86,.t 88]⟩,⟨some 90,some (84,true),.pure (.mov),[.t 89]⟩,⟨some 91,some (90,false),.pure (.fld 4),[.t 12]⟩,⟨some 92,some (90,false),.load (.ld 1 false),[.t 91]⟩,⟨some 93,some (90,false),.pure (.fld 4),[.t 11]⟩,⟨some 94,some (90,false),.load (.ld 1 false),[.t 93]⟩,⟨some 95,some (90,false),.pure (.bin .neq),[.t 92,.t 94]⟩,⟨some 96,some (84,true),.pick,[.t 90,.c (.bool true),.t 95]⟩,⟨some 97,some (80,false),.pick,[.t 84,.t 96,.c (.bool false)]⟩,⟨some 98,none,.pick,[.t 80,.c (.bool true),.t 97]⟩,m 99 98,⟨some 100,some (99,false),.pure (.fld 10),[.t 5]⟩,⟨some 101,some (99,false),.load (.ld 1 false),[.t 100]⟩,⟨some 102,some (99,false),.pure (.bin .eql),[.t 101,.c (.int .i64 0)]⟩,⟨some 103,some (99,false),.pure (.mov),[.t 102]⟩,⟨some 104,some (103,true),.pure (.fld 1),[.t 12]⟩,⟨some 105,some (103,true),.load (.ld 1 false),[.t 104]⟩,⟨some 106,some (103,true),.pure (.fld 1),[.t 11]⟩,⟨some 107,some (103,true),.load (.ld 1 false),[.t 106]⟩,⟨some 108,some (103,true),.loud (.call 32),[.t 105,.t 107]⟩,⟨some 109,some (103,true),.pure (.bin .neq),[.t 108,.c (.int .i64 0)]⟩,⟨some 110,some (99,false),.pick,[.t 103,.t 109,.c (.bool false)]⟩,⟨some 111,none,.pick,[.t 99,.c (.bool true),.t 110]⟩] [5,11,12,111] (.cond (.t 111) (z [k 10 (.bool false)] [10] .ret) .skip)) t6_112)
def t6_32:BC := .seq (z [m 32 1] [2,3,5,11,32] (z [m 33 2] [3,5,11,32,33] (z [m 34 3] [5,11,32,33,34] (z [⟨some 30,none,.load (.ld 12 true),[.t 5]⟩] [5,11,30,32,33,34] (z [⟨some 36,none,.load (.ld 9 true),[.t 11]⟩] [5,11,30,32,33,34,36] (.both (z [⟨some 31,none,.alloc (.mksl 12 1),[.t 30]⟩] [5,11,31,32,33,34,36] (z [⟨some 35,none,.qcall 24,[.t 33,.t 34]⟩] [5,11,31,32,35,36] (z [⟨some 37,none,.qcall 26,[.t 31,.t 32,.t 35,.t 36]⟩] [5,11,37] (z [m 29 37] [5,11,29] (z [e 38 0 29] [5,11,29,38] (z [e 39 1 29] [5,11,38,39] (z [⟨some 12,none,.alloc (.alloc [(.int .i64 0),.nils,(.int .u32 0),(.bool false),(.int .u32 0),(.bool false),(.int .u32 0),(.bool false),.nils]),[]⟩] [5,11,12,38,39] (z [s 9 12 38] [5,11,12,39] (z [m 13 39] [5,11,12,13] (.ops [] [5,11,12,13])))))))))) (.both (z [⟨some 35,none,.qcall 24,[.t 33,.t 34]⟩] [5,11,30,32,35,36] (z [⟨some 31,none,.alloc (.mksl 12 1),[.t 30]⟩] [5,11,31,32,35,36] (z [⟨some 37,none,.qcall 26,[.t 31,.t 32,.t 35,.t 36]⟩] [5,11,37] (z [m 29 37] [5,11,29] (z [e 38 0 29] [5,11,29,38] (z [e 39 1 29] [5,11,38,39] (z [⟨some 12,none,.alloc (.alloc [(.int .i64 0),.nils,(.int .u32 0),(.bool false),(.int .u32 0),(.bool false),(.int .u32 0),(.bool false),.nils]),[]⟩] [5,11,12,38,39] (z [s 9 12 38] [5,11,12,39] (z [m 13 39] [5,11,12,13] (.ops [] [5,11,12,13])))))))))) (.both (z [⟨some 12,none,.alloc (.alloc [(.int .i64 0),.nils,(.int .u32 0),(.bool false),(.int .u32 0),(.bool false),(.int .u32 0),(.bool false),.nils]),[]⟩] [5,11,12,30,32,33,34,36] (.both (z [⟨some 31,none,.alloc (.mksl 12 1),[.t 30]⟩] [5,11,12,31,32,33,34,36] (z [⟨some 35,none,.qcall 24,[.t 33,.t 34]⟩] [5,11,12,31,32,35,36] (z [⟨some 37,none,.qcall 26,[.t 31,.t 32,.t 35,.t 36]⟩] [5,11,12,37] (z [m 29 37] [5,11,12,29] (z [e 38 0 29] [5,11,12,29,38] (z [e 39 1 29] [5,11,12,38,39] (z [s 9 12 38] [5,11,12,39] (z [m 13 39] [5,11,12,13] (.ops [] [5,11,12,13]))))))))) (.both (z [⟨some 35,none,.qcall 24,[.t 33,.t 34]⟩] [5,11,12,30,32,35,36] (z [⟨some 31,none,.alloc (.mksl 12 1),[.t 30]⟩] [5,11,12,31,32,35,36] (z [⟨some 37,none,.qcall 26,[.t 31,.t 32,.t 35,.t 36]⟩] [5,11,12,37] (z [m 29 37] [5,11,12,29] (z [e 38 0 29] [5,11,12,29,38] (z [e 39 1 29] [5,11,12,38,39] (z [s 9 12 38] [5,11,12,39] (z [m 13 39] [5,11,12,13] (.ops [] [5,11,12,13]))))))))) (.top)))) (.top))))))))) t6_40
def b6:BC:=z [⟨some 5,none,.alloc (.box),[.t 0]⟩,⟨some 9,none,.alloc (.box),[.t 4]⟩,k 10 (.bool false)] [1,2,3,5,9] (z [⟨some 16,none,.load (.ld 9 true),[.t 9]⟩,g 17 25 [.t 16,.c (.int .u32 65001)],⟨some 11,none,.alloc (.alloc [(.int .i64 0),.nils,(.int .u32 0),(.bool false),(.int .u32 0),(.bool false),(.int .u32 0),(.bool false),.nils]),[]⟩,s 9 11 17] [1,2,3,5,11] (z [⟨some 18,none,.load (.ld 12 true),[.t 5]⟩,⟨some 19,none,.alloc (.mksl 12 1),[.t 18]⟩,g 20 23 [.t 19],p 21 (.idx 12) [.t 20,.c (.int .i64 0)],⟨some 22,none,.load (.ld 12 true),[.t 21]⟩,s 12 5 22] [1,2,3,5,11] (z [f 23 4 5,⟨none,none,.loud (.st 1),[.t 23,.c (.int .u32 0)]⟩,f 24 2 5,⟨none,none,.loud (.st 1),[.t 24,.c (.int .i64 0)]⟩,f 25 3 5,⟨none,none,.loud (.st 1),[.t 25,.c (.int .i64 32)]⟩,f 26 5 5,⟨none,none,.loud (.st 1),[.t 26,.c (.bool false)]⟩] [1,2,3,5,11] (z [p 27 (.build [(.int .u32 0),(.int .i64 0)] []) [],f 28 0 5,s 2 28 27] [1,2,3,5,11] t6_32))))
end Go.Am.Ts22
namespace Go.Am
open Go.Proofs Go.Sort
structure Peer where
 asn:Int
 ad:Int
 inn:List Rule
 out:List Rule
structure Cfg where
 asn:Int
 id:Int
 hold:Int
 ps:List Peer
 wd:Int
 dp:Int
 rm:Int
end Go.Am
namespace Go.Am
open Go.Proofs Go.Sort
def cfgA (c:Cfg):Prop:=(1≤c.asn∧c.asn≤65535)∧goodN c.id∧(c.hold=0∨3≤c.hold)∧c.hold≤65535∧(1≤c.wd∧c.wd≤8)∧(1≤c.dp∧c.dp≤8)∧(0≤c.rm∧c.rm≤4096)
def cfgB (c:Cfg):Prop:=1≤c.ps.length∧c.ps.length≤4
instance (c:Cfg):Decidable (cfgA c):=by unfold cfgA;infer_instance
instance (c:Cfg):Decidable (cfgB c):=by unfold cfgB;infer_instance
section
variable {c:Cfg} {σ:Store} {n rr:Env→Store→Prop} {xx:Nat→Env→Store→Prop} {p1:Nat} {lv:AV}
end
end Go.Am
namespace Go.Am
open Go.Proofs Go.Sort
def fitT (a:At) (ok:Bool):Prop:=ok=true∧atRight a∧(encA a).length≤4068
instance (a:At) (ok:Bool):Decidable (fitT a ok):=by unfold fitT;infer_instance
section
variable {c:Cfg} {σ:Store} {n rr:Env→Store→Prop} {xx:Nat→Env→Store→Prop} {p4 p6 p8 p10:Nat} {lv:AV} {k:Nat} {q:Int×Int}
end
end Go.Am
namespace Go.Am
open Go.Proofs Go.Sort
structure Easy (a:At):Prop where
 org:0≤a.org∧a.org≤2
 path:∃ ls,a.path=[⟨2,ls⟩]∧1≤ls.length∧ls.length≤10
 nxt:goodN a.nxt
 med:a.hm=false→a.med=0
 prf:a.hp=false→a.prf=0
 cml:a.cms.length≤10
 cmi:Inc a.cms
theorem Easy.enc {a:At} (h:Easy a):(encA a).length≤4068:=by
 obtain ⟨ls,h1,h2,h3⟩:=h.path
 have hc:=h.cml
 have p1:(encPath a.path).length=2+4*ls.length:=by
  rw [h1];simp only [encPath,encSeg,List.flatMap_cons,List.flatMap_nil,List.append_nil,List.length_append,z03,List.length_cons,List.length_nil]
 unfold encA
 simp only [List.length_append]
 have a1:=x8 64 1 [a.org % 256]
 have a2:=x8 64 2 (encPath a.path)
 have a3:=x8 64 3 (b4 a.nxt)
 have a4:(if a.hm then oneA 128 4 (b4 a.med) else []).length≤8:=by split <;> first | exact x8 .. | simp
 have a5:(if a.hp then oneA 64 5 (b4 a.prf) else []).length≤8:=by split <;> first | exact x8 .. | simp
 have a6:(if a.atm then oneA 64 6 [] else []).length≤4:=by split <;> first | exact x8 .. | simp
 have a8:(if a.cms=[] then ([]:List Int) else oneA 192 8 (encW a.cms)).length≤4+4*a.cms.length:=by
  split
  ·simp
  ·have:=x8 192 8 (encW a.cms);rw [z03] at this;exact this
 simp only [List.length_cons,List.length_nil,z77] at *
 omega
end Go.Am
namespace Go.Am
open Go.Proofs Go.Sort
def Peer.open (p:Peer):Peer:={ p with out:=[] }
end Go.Am
namespace Go.Am.Ts28
open Go.Proofs Go.Am.B
def t9_98:BC := .seq (z [f 98 0 7,l 99 1 98,m 100 1,b 101 .eql 99 100,m 102 101,⟨some 103,some (102,false),.pure (.fld 3),[.t 7]⟩,⟨some 104,some (102,false),.load (.ld 1 false),[.t 103]⟩,⟨some 105,some (102,false),.pure (.mov),[.t 104]⟩,⟨some 106,some (105,true),.pure (.mov),[.t 12]⟩,⟨some 107,some (102,false),.pick,[.t 105,.t 106,.c (.bool false)]⟩,⟨some 108,none,.pick,[.t 102,.c (.bool true),.t 107]⟩] [7,9,12,13,14,108] (.cond (.t 108) (z [m 109 14,u 110 .not 109,m 111 110,⟨some 112,some (111,true),.pure (.fld 2),[.t 13]⟩,⟨some 113,some (111,true),.load (.ld 1 false),[.t 112]⟩,⟨some 114,some (111,true),.pure (.bin .eql),[.t 113,.c (.int .u32 0)]⟩,⟨some 115,none,.pick,[.t 111,.t 114,.c (.bool false)]⟩,m 116 115,⟨some 117,some (116,true),.loud (.call 39),[]⟩,⟨some 118,none,.pick,[.t 116,.t 117,.c (.bool false)]⟩,m 8 118] [8] .ret) .skip)) (.seq (z [m 119 14,u 120 .not 119] [7,9,12,13,120] (.cond (.t 120) (z [f 121 4 7,f 122 8 121,l 123 1 122,u 124 .len 123,c 125 .gtr 124 0,m 126 125,⟨some 127,some (126,true),.loud (.call 39),[]⟩,⟨some 128,none,.pick,[.t 126,.t 127,.c (.bool false)]⟩,m 8 128] [8] .ret) .skip)) (.seq (z [⟨some 129,none,.load (.ld 9 true),[.t 13]⟩,g 130 40 [.t 129],u 131 .not 130,m 132 131,⟨some 133,some (132,false),.pure (.fld 0),[.t 13]⟩,⟨some 134,some (132,false),.load (.ld 1 false),[.t 133]⟩,⟨some 135,some (132,false),.pure (.fld 4),[.t 7]⟩,⟨some 136,some (132,false),.pure (.fld 0),[.t 135]⟩,⟨some 137,some (132,false),.load (.ld 1 false),[.t 136]⟩,⟨some 138,some (132,false),.pure (.bin .neq),[.t 134,.t 137]⟩,⟨some 139,none,.pick,[.t 132,.c (.bool true),.t 138]⟩,m 140 139,⟨some 141,some (140,false),.pure (.fld 8),[.t 13]⟩,⟨some 142,some (140,false),.load (.ld 1 false),[.t 141]⟩,⟨some 143,some (140,false),.pure (.len),[.t 142]⟩,⟨some 144,some (140,false),.pure (.fld 4),[.t 7]⟩,⟨some 145,some (140,false),.pure (.fld 8),[.t 144]⟩,⟨some 146,some (140,false),.load (.ld 1 false),[.t 145]⟩,⟨some 147,some (140,false),.pure (.len),[.t 146]⟩,⟨some 148,some (140,false),.pure (.bin .neq),[.t 143,.t 147]⟩,⟨some 149,none,.pick,[.t 140,.c (.bool true),.t 148]⟩] [7,9,12,13,149] (.cond (.t 149) (z [k 8 (.bool false)] [8] .ret) .skip)) (.seq (z [m 150 12] [7,9,13,150] (.cond (.t 150) (z [f 151 5 13,l 152 1 151,m 153 152,⟨some 154,some (153,true),.pure (.fld 2),[.t 13]⟩,⟨some 155,some (153,true),.load (.ld 1 false),[.t 154]⟩,⟨some 156,some (153,true),.pure (.fld 4),[.t 7]⟩,⟨some 157,some (153,true),.pure (.fld 2),[.t 156]⟩,⟨some 158,some (153,true),.load (.ld 1 false),[.t 157]⟩,⟨some 159,some (153,true),.pure (.bin .eql),[.t 155,.t 158]⟩,⟨some 160,none,.pick,[.t 153,.t 159,.c (.bool false)]⟩,m 161 160,⟨some 162,some (161,true),.pure (.fld 1),[.t 13]⟩,⟨some 163,some (161,true),.load (.ld 1 false),[.t 162]⟩,⟨some 164,some (161,true),.pure (.fld 4),[.t 7]⟩,⟨some 165,some (161,true),.pure (.fld 1),[.t 164]⟩,⟨some 166,some (161,true),.load (.ld 1 false),[.t 165]⟩,⟨some 167,some (161,true),.loud (.call 32),[.t 163,.t 166]⟩,⟨some 168,some (161,true),.pure (.bin .eql),[.t 167,.c (.int .i64 0)]⟩,⟨some 169,none,.pick,[.t 161,.t 168,.c (.bool false)]⟩,m 170 169,⟨some 171,some (170,true),.pure (.fld 3),[.t 13]⟩,⟨some 172,some (170,true),.load (.ld 1 false),[.t 171]⟩,⟨some 173,some (170,true),.pure (.fld 4),[.t 7]⟩,⟨some 174,some (170,true),.pure (.fld 3),[.t 173]⟩,⟨some 175,some (170,true),.load (.ld 1 false),[.t 174]⟩,⟨some 176,some (170,true),.pure (.eqb false),[.t 172,.t 175]⟩,⟨some 177,none,.pick,[.t 170,.t 176,.c (.bool false)]⟩,m 178 177,⟨some 179,some (178,true),.loud (.call 39),[]⟩,⟨some 180,none,.pick,[.t 178,.t 179,.c (.bool false)]⟩,m 8 180] [8] .ret) .skip)) (z [f 182 1 13,l 183 1 182,g 184 41 [.t 183],m 181 184,e 185 0 181,e 186 1 181,m 15 185,m 16 186] [7,9,13,15,16] (z [m 187 16,m 188 187,⟨some 189,some (188,true),.pure (.mov),[.t 15]⟩,⟨some 190,some (188,true),.pure (.fld 0),[.t 9]⟩,⟨some 191,some (188,true),.load (.ld 1 false),[.t 190]⟩,⟨some 192,some (188,true),.pure (.bin .eql),[.t 189,.t 191]⟩,⟨some 193,none,.pick,[.t 188,.t 192,.c (.bool false)]⟩,m 194 193,⟨some 195,some (194,true),.pure (.fld 1),[.t 13]⟩,⟨some 198,some (194,true),.pure (.fld 4),[.t 7]⟩,⟨some 199,some (194,true),.pure (.fld 1),[.t 198]⟩,⟨some 196,some (194,true),.load (.ld 1 false),[.t 195]⟩,⟨some 200,some (194,true),.load (.ld 1 false),[.t 199]⟩,⟨some 197,some (194,true),.qcall 29,[.t 196]⟩,⟨some 201,some (194,true),.qcall 29,[.t 200]⟩,⟨some 202,some (194,true),.pure (.bin .add),[.t 201,.c (.int .i64 1)]⟩,⟨some 203,some (194,true),.pure (.bin .eql),[.t 197,.t 202]⟩,⟨some 204,none,.pick,[.t 194,.t 203,.c (.bool false)]⟩,m 205 204,⟨some 206,some (205,true),.pure (.fld 2),[.t 13]⟩,⟨some 208,some (205,true),.pure (.fld 1),[.t 9]⟩,⟨some 207,some (205,true),.load (.ld 1 false),[.t 206]⟩,⟨some 209,some (205,true),.load (.ld 1 false),[.t 208]⟩,⟨some 210,some (205,true),.pure (.bin .eql),[.t 207,.t 209]⟩,⟨some 211,none,.pick,[.t 205,.t 210,.c (.bool false)]⟩,m 212 211,⟨some 213,some (212,true),.pure (.fld 3),[.t 13]⟩,⟨some 214,some (212,true),.load (.ld 1 false),[.t 213]⟩,⟨some 215,some (212,true),.pure (.not),[.t 214]⟩,⟨some 216,none,.pick,[.t 212,.t 215,.c (.bool false)]⟩,m 217 216,⟨some 218,some (217,true),.pure (.fld 5),[.t 13]⟩,⟨some 219,some (217,true),.load (.ld 1 false),[.t 218]⟩,⟨some 220,some (217,true),.pure (.not),[.t 219]⟩,⟨some 221,none,.pick,[.t 217,.t 220,.c (.bool false)]⟩,m 222 221,⟨some 223,some (222,true),.qcall 39,[]⟩,⟨some 224,none,.pick,[.t 222,.t 223,.c (.bool false)]⟩,m 8 224] [8] .ret)))))
def t9_50:BC:=z [f 50 0 7,l 51 1 50,m 52 11,b 53 .rem 51 52,f 54 0 7,s 1 54 53] [1,6,7,9] (z [f 55 3 9,f 57 0 7,f 62 0 9,l 56 1 55,l 58 1 57,x 59 4 56 58,f 60 0 59,l 61 1 60,l 63 1 62,b 64 .eql 61 63,f 65 3 7,s 1 65 64] [1,6,7,9] (z [f 66 4 7,f 68 3 9,f 70 0 7,⟨some 67,none,.load (.ld 9 true),[.t 66]⟩,l 69 1 68,l 71 1 70,x 72 4 69 71,f 73 0 72,l 74 1 73,g 75 25 [.t 67,.t 74],f 76 4 7,s 9 76 75] [1,6,7,9] (z [f 77 3 9,m 79 1,f 83 0 9,l 78 1 77,x 80 4 78 79,f 81 0 80,l 82 1 81,l 84 1 83,b 85 .eql 82 84,m 12 85] [1,6,7,9,12] (z [m 88 1,f 89 0 6,f 91 1 6,⟨some 87,none,.load (.ld 7 true),[.t 9]⟩,l 90 1 89,l 92 1 91,⟨some 94,none,.load (.ld 13 true),[.t 7]⟩,⟨some 93,none,.qcall 24,[.t 90,.t 92]⟩,⟨some 95,none,.qcall 38,[.t 87,.t 88,.t 93,.t 94]⟩,m 86 95,e 96 0 86,e 97 1 86,⟨some 13,none,.alloc (.alloc [(.int .i64 0),.nils,(.int .u32 0),(.bool false),(.int .u32 0),(.bool false),(.int .u32 0),(.bool false),.nils]),[]⟩,s 9 13 96,m 14 97] [1,7,9,12,13,14] t9_98))))
def t9_39:BC:=z [m 39 1,m 40 11,b 41 .rem 39 40,m 1 41] [1,6,7,9,11] (.seq (z [f 42 0 7,l 43 1 42,c 44 .lss 43 0] [1,6,7,9,11,44] (.cond (.t 44) (.ops [f 45 0 7,l 46 1 45,c 47 .add 46 1,u 48 .neg 47,f 49 0 7,s 1 49 48] [1,6,7,9,11]) .skip)) t9_50)
def b9:BC:=z [⟨some 4,none,.alloc (.box),[.t 0]⟩,⟨some 6,none,.alloc (.box),[.t 2]⟩,⟨some 7,none,.alloc (.box),[.t 3]⟩,k 8 (.bool false)] [1,4,6,7] (z [⟨some 17,none,.load (.ld 7 true),[.t 4]⟩,g 18 37 [.t 17],⟨some 9,none,.alloc (.alloc [(.int .u32 0),(.int .u32 0),(.int .i64 0),.nils,(.int .i64 0),(.int .i64 0),(.int .i64 0)]),[]⟩,s 7 9 18] [1,6,7,9] (.seq (z [j 10 0] [1,6,7,9,10] (.block 0 (.loop [1,6,7,9,10] (.seq (z [m 19 10,f 20 3 9,l 21 1 20,u 22 .len 21,b 23 .lss 19 22] [1,6,7,9,10,23] (.cond (.t 23) .skip (.exit 0))) (.seq (.block 1 (.ops [f 26 3 9,l 27 1 26,m 28 10,x 29 4 27 28,f 30 3 29,⟨none,none,.loud (.st 1),[.t 30,.c .nils]⟩] [1,6,7,9,10])) (.ops [m 24 10,c 25 .add 24 1,m 10 25] [1,6,7,9,10])))))) (.seq (.wk 6 (.ops [f 31 3 9,l 32 1 31,u 33 .len 32,m 11 33] [1,6,7,9,11])) (.seq (z [m 34 1,c 35 .lss 34 0] [1,6,7,9,11,35] (.cond (.t 35) (.ops [m 36 1,c 37 .add 36 1,u 38 .neg 37,m 1 38] [1,6,7,9,11]) .skip)) t9_39))))
end Go.Am.Ts28
