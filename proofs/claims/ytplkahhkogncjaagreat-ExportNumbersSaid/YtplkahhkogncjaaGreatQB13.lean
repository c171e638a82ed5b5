/- A part of the proof: a logic for calls over plain values, and the functions that the law reaches, each walked once. -/
import Derived.Test.YtplkahhkogncjaaGreatQB12
set_option linter.unusedVariables false
set_option linter.unusedSimpArgs false
set_option linter.unusedSectionVars false
namespace Go.Am
open Go.Proofs Go.Sort
def sideF (b:Bool):Int:=if b then -1 else 1
theorem z2b (b:Bool):Pur Tryz.prog 150 [.bool b] (.int .i64 (sideF b)):=by
 refine zn Tst.F150 (by simp [Tst.F150,Fn.mkX]) fun σ => ?_
 simp only [Tst.F150,Fn.mkX,Tst.b150]
 cases b <;> simp only [↓vcPre,↓z0,↓reduceIte,vcPost,vcStd,Nat.reduceEqDiff,reduceCtorEq,Nat.reduceAdd,Nat.reduceLeDiff,Int.reduceLT,Int.reduceLE,↓u_setN] <;> rfl
theorem c89 (l m:List Int) (h:l.length≤1000000):Pur Tryz.prog 89 [.sl 1 (l.map cU),.sl 1 (m.map cU)] (.bool (decide (l=m))):=by
 refine zn Tst.F89 (by simp [Tst.F89,Fn.mkX]) fun σ => ?_
 simp only [Tst.F89,Fn.mkX,Tst.b89]
 simp only [↓vcPre,↓z0,↓reduceIte,vcPost,vcStd,Nat.reduceEqDiff,reduceCtorEq,Nat.reduceAdd,Nat.reduceLeDiff,Int.reduceLT,Int.reduceLE,↓u_setN]
 refine ⟨fun h1=>(decide_eq_false (fun e=>h1 (by rw [e]))).symm,fun h1 => ?_⟩
 have hl:l.length=m.length:=by omega
 refine LoopQ.inv (S:=Nat) (fun k=>[(0,.sl 1 (l.map cU)),(1,.sl 1 (m.map cU)),(5,.int .i64 (k:Int))]) (fun _=>σ) (fun k=>k≤l.length∧∀ i (hi:i<l.length),i<k→l[i]=m[i]'(by omega)) (fun k=>l.length+1 - k) 0 rfl (Store.sub_refl _) ⟨by omega,fun i _ h=>by omega⟩ ?_
 rintro k ⟨hk,hp⟩
 simp only [↓vcPre,↓z0,↓reduceIte,vcPost,vcStd,Nat.reduceEqDiff,reduceCtorEq,Nat.reduceAdd,Nat.reduceLeDiff,Int.reduceLT,Int.reduceLE,↓u_setN]
 refine ⟨fun c1 => ?_,fun c1 => ?_⟩
 ·have ek:IntKind.i64.wrap ((k:Int)+1)=((k+1:Nat):Int):=by rw [zd (by unfold I64;omega)];omega
  refine ⟨c1,by omega,by simp [cU],?_⟩
  simp only [cU,↓vcPre,↓z0,↓reduceIte,vcPost,vcStd,Nat.reduceEqDiff,reduceCtorEq,Nat.reduceAdd,Nat.reduceLeDiff,Int.reduceLT,Int.reduceLE,↓u_setN]
  refine ⟨fun g1 => ?_,fun g1 => ?_⟩
  ·refine (decide_eq_false fun e=>g1 ?_).symm
   subst e;rfl
  ·rw [ek]
   refine NextQ.to (k+1) rfl (Store.sub_refl _) (by omega) ⟨by omega,fun i hi hik => ?_⟩
   by_cases hik':i=k
   ·subst hik';exact g1
   ·exact hp i hi (by omega)
 ·exact (decide_eq_true (List.ext_getElem hl fun i hi hi'=>hp i hi (by omega))).symm
theorem c88 (l m:List Seg) (hl:l.length≤1000000) (hm:m.length≤1000000) (hlo:∀ s ∈ l,s.ok) (hmo:∀ s ∈ m,s.ok):Pur Tryz.prog 88 [.sl 2 (l.map Seg.c),.sl 2 (m.map Seg.c)] (.int .i64 (cmpPath l m)):=by
 refine zn Tst.F88 (by simp [Tst.F88,Fn.mkX]) fun σ => ?_
 simp only [Tst.F88,Fn.mkX,Tst.b88]
 simp only [↓vcPre,↓z0,↓reduceIte,vcPost,vcStd,Nat.reduceEqDiff,reduceCtorEq,Nat.reduceAdd,Nat.reduceLeDiff,Int.reduceLT,Int.reduceLE,↓u_setN]
 refine LoopQ.inv (S:=Nat) (fun k=>[(0,.sl 2 (l.map Seg.c)),(1,.sl 2 (m.map Seg.c)),(5,.int .i64 (k:Int))]) (fun _=>σ) (fun k=>k≤l.length∧k≤m.length∧cmpG cmpSeg (l.drop k) (m.drop k)=cmpPath l m) (fun k=>l.length+1 - k) 0 rfl (Store.sub_refl _) ⟨by omega,by omega,rfl⟩ ?_
 rintro k ⟨hk,hk2,ho⟩
 simp only [↓vcPre,↓z0,↓reduceIte,vcPost,vcStd,Nat.reduceEqDiff,reduceCtorEq,Nat.reduceAdd,Nat.reduceLeDiff,Int.reduceLT,Int.reduceLE,↓u_setN]
 have hside:∀ x y:Int,x≠y→sideF (decide (x<y))=cmpI x y:=fun x y h=>by
  unfold sideF cmpI
  by_cases h1:x<y
  ·simp [h1]
  ·have h2:y<x:=by omega
   simp [h1,h2]
 have he1:(k=l.length∨k=m.length)→¬ (l.length:Int)=(m.length:Int)→sideF (decide (l.length<m.length))=cmpPath l m:=fun hkk h1=>by
  rw [←ho]
  by_cases h2:l.length<m.length
  ·rw [show List.drop k l=[] from List.drop_eq_nil_of_le (by omega),List.drop_eq_getElem_cons (l:=m) (by omega)]
   simp [sideF,cmpG,h2]
  ·rw [show List.drop k m=[] from List.drop_eq_nil_of_le (by omega),List.drop_eq_getElem_cons (l:=l) (by omega)]
   simp [sideF,cmpG,h2]
 have he2:(k=l.length∨k=m.length)→(l.length:Int)=(m.length:Int)→0=cmpPath l m:=fun hkk h1=>by
  rw [←ho,show List.drop k l=[] from List.drop_eq_nil_of_le (by omega),show List.drop k m=[] from List.drop_eq_nil_of_le (by omega)]
  rfl
 refine ⟨fun c1=>⟨fun c2 => ?_,fun c2 => ?_⟩,fun c1 => ?_⟩
 ·rw [List.drop_eq_getElem_cons c1,List.drop_eq_getElem_cons c2] at ho
  simp only [cmpG] at ho
  refine ⟨c1,c2,by simp [Seg.c],?_⟩
  have hxo:=hlo _ (List.getElem_mem c1)
  have hyo:=hmo _ (List.getElem_mem c2)
  have hc1:cmpSeg l[k] m[k]=orL [cmpI l[k].kind m[k].kind,cmpI l[k].ls.length m[k].ls.length,cmpG cmpI l[k].ls m[k].ls]:=rfl
  simp only [Seg.c,↓vcPre,↓z0,↓reduceIte,vcPost,vcStd,Nat.reduceEqDiff,reduceCtorEq,Nat.reduceAdd,Nat.reduceLeDiff,Int.reduceLT,Int.reduceLE,↓u_setN]
  refine ⟨fun g1=>⟨c1,c2,(z2b _).Q ?_⟩,fun g1=>⟨c1,c2,fun g2=>⟨c1,c2,(z2b _).Q ?_⟩,fun g2 => ?_⟩⟩
  ·have hz:cmpI l[k].kind m[k].kind≠0:=fun e=>g1 (cmpI_z.1 e)
   have h1:cmpSeg l[k] m[k]=cmpI l[k].kind m[k].kind:=by rw [hc1];simp only [orL];rw [if_neg hz]
   simp only [↓vcPre,↓z0,↓reduceIte,vcPost,vcStd,Nat.reduceEqDiff,reduceCtorEq,Nat.reduceAdd,Nat.reduceLeDiff,Int.reduceLT,Int.reduceLE,↓u_setN]
   rw [hside _ _ g1,←ho,if_neg (by rw [h1];exact hz),h1]
  ·have hz:cmpI l[k].ls.length m[k].ls.length≠0:=fun e=>g2 (cmpI_z.1 e)
   have h1:cmpSeg l[k] m[k]=cmpI l[k].ls.length m[k].ls.length:=by rw [hc1];simp only [orL];rw [if_pos (cmpI_z.2 g1),if_neg hz]
   have h2:=hside _ _ g2
   simp only [Int.ofNat_lt] at h2
   simp only [↓vcPre,↓z0,↓reduceIte,vcPost,vcStd,Nat.reduceEqDiff,reduceCtorEq,Nat.reduceAdd,Nat.reduceLeDiff,Int.reduceLT,Int.reduceLE,↓u_setN]
   rw [h2,←ho,if_neg (by rw [h1];exact hz),h1]
  ·have h1:cmpSeg l[k] m[k]=cmpG cmpI l[k].ls m[k].ls:=by
    rw [hc1];simp only [orL];rw [if_pos (cmpI_z.2 g1),if_pos (cmpI_z.2 g2)]
    split
    ·rename_i h;rw [h]
    ·rfl
   rw [h1] at ho
   unfold Seg.ok at hxo hyo
   refine LoopQ.inv (S:=Nat) (fun j=>[(0,.sl 2 (l.map Seg.c)),(1,.sl 2 (m.map Seg.c)),(5,.int .i64 (k:Int)),(6,.int .i64 (j:Int))]) (fun _=>σ) (fun j=>j≤l[k].ls.length∧cmpG cmpI (l[k].ls.drop j) (m[k].ls.drop j)=cmpG cmpI l[k].ls m[k].ls) (fun j=>l[k].ls.length+1 - j) 0 rfl (Store.sub_refl _) ⟨by omega,rfl⟩ ?_
   rintro j ⟨hj,hjo⟩
   simp only [Seg.c,↓vcPre,↓z0,↓reduceIte,vcPost,vcStd,Nat.reduceEqDiff,reduceCtorEq,Nat.reduceAdd,Nat.reduceLeDiff,Int.reduceLT,Int.reduceLE,↓u_setN]
   have hjl:IntKind.i64.wrap ((j:Int)+1)=((j+1:Nat):Int):=by rw [zd (by unfold I64;omega)];omega
   have hkl:IntKind.i64.wrap ((k:Int)+1)=((k+1:Nat):Int):=by rw [zd (by unfold I64;omega)];omega
   refine ⟨c1,fun d1 => ?_,fun d1 => ?_⟩
   ·have d2:j<m[k].ls.length:=by omega
    rw [List.drop_eq_getElem_cons d1,List.drop_eq_getElem_cons d2] at hjo
    simp only [cmpG] at hjo
    refine ⟨c1,c2,d1,by simp [cU],?_⟩
    simp only [cU,↓vcPre,↓z0,↓reduceIte,vcPost,vcStd,Nat.reduceEqDiff,reduceCtorEq,Nat.reduceAdd,Nat.reduceLeDiff,Int.reduceLT,Int.reduceLE,↓u_setN]
    refine ⟨d2,fun e1=>⟨c1,c2,d1,d2,(z2b _).Q ?_⟩,fun e1 => ?_⟩
    ·have hz:cmpI l[k].ls[j] m[k].ls[j]≠0:=fun e=>e1 (cmpI_z.1 e)
     rw [if_neg hz] at hjo
     simp only [↓vcPre,↓z0,↓reduceIte,vcPost,vcStd,Nat.reduceEqDiff,reduceCtorEq,Nat.reduceAdd,Nat.reduceLeDiff,Int.reduceLT,Int.reduceLE,↓u_setN]
     rw [hside _ _ e1,←ho,←hjo,if_neg hz]
    ·rw [if_pos (cmpI_z.2 e1)] at hjo
     rw [hjl]
     exact NextQ.to (j+1) rfl (Store.sub_refl _) (by omega) ⟨by omega,hjo⟩
   ·rw [show List.drop j l[k].ls=[] from List.drop_eq_nil_of_le (by omega),show List.drop j m[k].ls=[] from List.drop_eq_nil_of_le (by omega)] at hjo
    have h0:cmpG cmpI l[k].ls m[k].ls=0:=by rw [←hjo];rfl
    rw [if_pos h0] at ho
    rw [hkl]
    exact NextQ.to (k+1) rfl (Store.sub_refl _) (by omega) ⟨by omega,by omega,ho⟩
 ·refine ⟨fun h1=>(z2b _).Q ?_,he2 (by omega)⟩
  simp only [↓vcPre,↓z0,↓reduceIte,vcPost,vcStd,Nat.reduceEqDiff,reduceCtorEq,Nat.reduceAdd,Nat.reduceLeDiff,Int.reduceLT,Int.reduceLE,↓u_setN]
  rw [he1 (by omega) h1]
 ·refine ⟨fun h1=>(z2b _).Q ?_,he2 (by omega)⟩
  simp only [↓vcPre,↓z0,↓reduceIte,vcPost,vcStd,Nat.reduceEqDiff,reduceCtorEq,Nat.reduceAdd,Nat.reduceLeDiff,Int.reduceLT,Int.reduceLE,↓u_setN]
  rw [he1 (by omega) h1]
theorem z93 (p q:Bool):(p ==q)=decide (p=q):=by cases p <;> cases q <;> rfl
theorem c43 (a b:At) (ha:a.ok) (hb:b.ok):Pur Tryz.prog 43 [.agg a.c,.agg b.c] (.bool (decide (a=b))):=by
 refine zn Tst.F43 (by simp [Tst.F43,Fn.mkX]) fun σ => ?_
 simp only [Tst.F43,Fn.mkX,Tst.b43,At.c]
 simp only [↓vcPre,↓z0,↓reduceIte,vcPost,vcStd,Nat.reduceEqDiff,reduceCtorEq,Nat.reduceAdd,Nat.reduceLeDiff,Int.reduceLT,Int.reduceLE,↓u_setN]
 refine AllocQ.i0 fun i hi => ?_
 simp only [↓vcPre,↓z0,↓reduceIte,vcPost,vcStd,Nat.reduceEqDiff,reduceCtorEq,Nat.reduceAdd,Nat.reduceLeDiff,Int.reduceLT,Int.reduceLE,↓u_setN]
 refine AllocQ.i1 fun j hj1 hj2 hj => ?_
 simp only [hj1,hj2,↓vcPre,↓z0,↓reduceIte,vcPost,vcStd,Nat.reduceEqDiff,reduceCtorEq,Nat.reduceAdd,Nat.reduceLeDiff,Int.reduceLT,Int.reduceLE,↓u_setN]
 have hsub:=zp (s:=σ) (o:=(Obj.box [AV.int IntKind.i64 a.org,AV.sl 2 (List.map Seg.c a.path),AV.int IntKind.u32 a.nxt,AV.bool a.hm,AV.int IntKind.u32 a.med,AV.bool a.hp,AV.int IntKind.u32 a.prf,AV.bool a.atm,AV.sl 1 (List.map cU a.cms)])) (p:=(Obj.box [AV.int IntKind.i64 b.org,AV.sl 2 (List.map Seg.c b.path),AV.int IntKind.u32 b.nxt,AV.bool b.hm,AV.int IntKind.u32 b.med,AV.bool b.hp,AV.int IntKind.u32 b.prf,AV.bool b.atm,AV.sl 1 (List.map cU b.cms)])) hi hj hj1
 refine ⟨fun g1=>(c88 _ _ ha.1 hb.1 ha.2.1 hb.2.1).Q ?_,fun g1=>⟨(decide_eq_false (by rintro rfl;exact g1 rfl)).symm,hsub⟩⟩
 simp only [hj1,hj2,z93,↓vcPre,↓z0,↓reduceIte,vcPost,vcStd,Nat.reduceEqDiff,reduceCtorEq,Nat.reduceAdd,Nat.reduceLeDiff,Int.reduceLT,Int.reduceLE,↓u_setN]
 refine ⟨fun g2=>⟨fun g3=>⟨fun g4=>⟨fun g5=>⟨fun g6=>⟨fun g7=>⟨fun g8=>(c89 _ _ ha.2.2).Q ?_,fun g8=>⟨(decide_eq_false (by rintro rfl;exact g8 rfl)).symm,hsub⟩⟩,fun g7=>⟨(decide_eq_false (by rintro rfl;exact g7 rfl)).symm,hsub⟩⟩,fun g6=>⟨(decide_eq_false (by rintro rfl;exact g6 rfl)).symm,hsub⟩⟩,fun g5=>⟨(decide_eq_false (by rintro rfl;exact g5 rfl)).symm,hsub⟩⟩,fun g4=>⟨(decide_eq_false (by rintro rfl;exact g4 rfl)).symm,hsub⟩⟩,fun g3=>⟨(decide_eq_false (by rintro rfl;exact g3 rfl)).symm,hsub⟩⟩,fun g2=>⟨(decide_eq_false (by rintro rfl;exact g2 (cmpPath_z.2 rfl))).symm,hsub⟩⟩
 simp only [↓vcPre,↓z0,↓reduceIte,vcPost,vcStd,Nat.reduceEqDiff,reduceCtorEq,Nat.reduceAdd,Nat.reduceLeDiff,Int.reduceLT,Int.reduceLE,↓u_setN]
 refine ⟨?_,hsub⟩
 rw [Bool.eq_iff_iff,decide_eq_true_eq,decide_eq_true_eq]
 have g2':=cmpPath_z.1 g2
 constructor
 ·intro h;cases a;cases b;simp_all
 ·rintro rfl;rfl
theorem z72:zeroAt.ok:=⟨by simp [zeroAt],by simp [zeroAt],by simp [zeroAt]⟩
end Go.Am
namespace Go.Am
theorem WeakL.freezeIn {as0:List AV} {σ:Store} {Q:List AV→Store→Prop} (k i j:Nat) {e2 id esz off len:Nat} {es cs:List (List AV)} (ha:as0[k]? = some (.sl e2 es)) (hi:i<es.length) (hj:j<es[i].length) (hc:es[i][j] = .os id esz off len)
 (hσ:σ id=some (.arr esz cs)) (hle:off+len≤cs.length)
 (h:WeakL (as0.set k (.sl e2 (es.set i (es[i].set j (.sl esz ((cs.drop off).take len)))))) (σ.del id) Q):WeakL as0 σ Q:=fun G w vs hs hr=>by
 obtain ⟨v,hv,hvr⟩:=hr.get k _ ha
 have key:∃ G',Ext G σ w G' (σ.del id) w∧Sim G' (σ.del id) w∧VRel G' w (.sl e2 (es.set i (es[i].set j (.sl esz ((cs.drop off).take len))))) v:=by
  cases hvr with
  | sl0=>simp at hi
  | sl f hb hne hcap hl hf hcell hvv =>
    have h0:=hvv i j hi hj
    rw [hc] at h0
    obtain ⟨G',h1,h2,h3⟩:=xr hs hσ hle h0
    refine ⟨G',h1,h2,?_⟩
    have hmem:∀ x ∈ es.set i (es[i].set j (.sl esz ((cs.drop off).take len))),x ∈ es∨x=es[i].set j (.sl esz ((cs.drop off).take len)):=fun x hx=>List.mem_or_eq_of_mem_set hx
    have hlen:(es.set i (es[i].set j (.sl esz ((cs.drop off).take len)))).length=es.length:=List.length_set
    have:=VRel.sl (G:=G') (w:=w) (esz:=e2) (es:=es.set i (es[i].set j (.sl esz ((cs.drop off).take len)))) f (h1.I _ hb) (by intro e;rw [e] at hlen;simp at hlen;omega) (by rw [hlen];exact hcap)
     (fun x hx=>by
       rcases hmem x hx with h | rfl
       ·exact hl x h
       ·rw [List.length_set];exact hl _ (List.getElem_mem hi))
     (fun x hx c hcx=>by
       rcases hmem x hx with h | rfl
       ·exact hf x h c hcx
       ·rcases List.mem_or_eq_of_mem_set hcx with h | rfl
        ·exact hf _ (List.getElem_mem hi) c h
        ·rfl)
     (fun a b hA hB=>hcell a b (by rw [←hlen];exact hA) hB)
     (fun a b hA hB=>by
       have hA':a<es.length:=by rw [←hlen];exact hA
       by_cases hai:a=i
       ·subst hai
        simp only [List.getElem_set_self] at hB ⊢
        by_cases hbj:b=j
        ·subst hbj
         simp only [List.getElem_set_self];exact h3
        ·rw [List.getElem_set_ne (fun e=>hbj e.symm)]
         exact h1.vrel hs (hvv a b hA' (by simpa using hB))
       ·simp only [List.getElem_set_ne (fun e=>hai e.symm)] at hB ⊢
        exact h1.vrel hs (hvv a b hA' hB))
    rw [hlen] at this
    exact this
 obtain ⟨G',h1,h2,h3⟩:=key
 obtain ⟨G'',as',σ',g1,g2,g3,g4⟩:=h G' w vs h2 (Rels.of_get (by simpa using hr.length) fun a ha' hi'=>by
  by_cases hik:a=k
  ·subst hik
   rw [List.getElem?_eq_getElem hi'] at hv;cases hv
   simp;exact h3
  ·rw [List.getElem_set_ne (Ne.symm hik)]
   have hi2:a<as0.length:=by simpa using ha'
   obtain ⟨u,hu,hur⟩:=hr.get a _ (List.getElem?_eq_getElem hi2)
   rw [List.getElem?_eq_getElem hi'] at hu;cases hu
   exact h1.vrel hs hur)
 exact ⟨G'',as',σ',h1.trans g1,g2,g3,g4⟩
end Go.Am
namespace Go.Am
open Go.Proofs Go.Sort
def delAll (s:Store) (gs:List Nat):Store:=gs.foldl Store.del s
theorem z1m {s:Store}:∀ {gs:List Nat} {x:Nat},x ∉ gs→delAll s gs x=s x
 | [],_,_=>rfl
 | g::gs,x,h=>by
   simp only [List.mem_cons,not_or] at h
   show delAll (s.del g) gs x=s x
   rw [z1m h.2,Store.del_ne _ h.1]
def segO (x:Seg) (g:Nat):List AV:=[.int .i64 x.kind,.os g 1 0 x.ls.length]
theorem z70 {Q:List AV→Store→Prop}:∀ (p:List Seg) (gs:List Nat) (pre:List (List AV)) (s:Store),gs.length=p.length→gs.Nodup →
 (∀ i (h:i<p.length) (h':i<gs.length),s gs[i]=some (.arr 1 (p[i].ls.map cU)))→WeakL [.sl 2 (pre++p.map Seg.c)] (delAll s gs) Q→WeakL [.sl 2 (pre++List.zipWith segO p gs)] s Q
 | [],[],pre,s,_,_,_,h=>h
 | [],_::_,_,_,hl,_,_,_=>by simp at hl
 | _::_,[],_,_,hl,_,_,_=>by simp at hl
 | x::p,g::gs,pre,s,hl,hn,hs,h=>by
   have h0:=hs 0 (by simp) (by simp)
   simp only [List.getElem_cons_zero] at h0
   rw [List.nodup_cons] at hn
   refine WeakL.freezeIn 0 pre.length 1 (id:=g) (esz:=1) (off:=0) (len:=x.ls.length) (cs:=x.ls.map cU) (es:=pre++List.zipWith segO (x::p) (g::gs)) rfl (by simp) (by simp [segO]) (by simp [segO]) h0 (by simp) ?_
   have e:(pre++List.zipWith segO (x::p) (g::gs)).set pre.length ((pre++List.zipWith segO (x::p) (g::gs))[pre.length]'(by simp) |>.set 1 (.sl 1 (((x.ls.map cU).drop 0).take x.ls.length)))=(pre++[x.c])++List.zipWith segO p gs:=by
    have ht:List.take x.ls.length (x.ls.map cU)=x.ls.map cU:=List.take_of_length_le (by simp)
    simp [segO,Seg.c,ht]
   rw [e]
   refine z70 p gs (pre++[x.c]) (s.del g) (by simpa using hl) hn.2 (fun i hi hi' => ?_) ?_
   ·rw [Store.del_ne _ (fun e=>hn.1 (by rw [←e];exact List.getElem_mem hi'))]
    have:=hs (i+1) (by simpa using hi) (by simpa using hi')
    simpa using this
   ·simpa [delAll] using h
def OwnP (τ:Store) (p:List Seg) (v:AV) (s:Store):Prop :=
 ∃ gs:List Nat,gs.length=p.length∧gs.Nodup∧(∀ g ∈ gs,τ g=none)∧(∀ i (h:i<p.length) (h':i<gs.length),s gs[i]=some (.arr 1 (p[i].ls.map cU)))∧Own 2 τ (List.zipWith segO p gs) v s
theorem OwnP.nil {τ s:Store}:OwnP τ [] .nils s:=⟨[],rfl,.nil,by simp,fun i h=>by simp at h,.nil⟩
theorem OwnP.app {bytes:Nat} {τ s0 s:Store} {p:List Seg} {x:Seg} {j:Nat} {v wv:AV} {K:AV→Store→Prop} (hτ:Store.sub τ s0) (h0:Store.sub s0 s) (ho:OwnP τ p v s0) (hj:s j=some (.arr 1 (x.ls.map cU))) (hj0:s0 j=none)
 (hw:slc s 2 wv=some [segO x j]) (hsz:(p.length+1)*bytes≤140737488355328) (h:∀ v' s',Store.sub τ s'→OwnP τ (p++[x]) v' s'→K v' s'):appwp 2 bytes v wv s K:=by
 obtain ⟨gs,hl,hn,hg,hi,ho⟩:=ho
 have hτj:τ j=none:=zm hτ hj0
 have hjg:j ∉ gs:=fun e=>by
  obtain ⟨i,hi',rfl⟩:=List.getElem_of_mem e
  rw [hi i (by omega) hi'] at hj0;cases hj0
 have hz:(List.zipWith segO p gs).length=p.length:=by simp [hl]
 have fin:∀ (τ2:Store) v' s',Store.sub τ τ2→Store.sub τ2 s'→τ2 j=some (.arr 1 (x.ls.map cU))→(∀ i (h:i<p.length) (h':i<gs.length),τ2 gs[i]=some (.arr 1 (p[i].ls.map cU)))→Own 2 τ2 (List.zipWith segO p gs++[segO x j]) v' s'→K v' s':=by
  intro τ2 v' s' k1 k2 k3 k4 k5
  refine h v' s' (Store.sub_trans k1 k2) ⟨gs++[j],by simp [hl],?_,?_,?_,?_⟩
  ·rw [List.nodup_append]
   refine ⟨hn,by simp,fun a ha b hb => ?_⟩
   simp only [List.mem_singleton] at hb
   subst hb
   exact fun e=>hjg (e ▸ ha)
  ·intro g hgm
   rcases List.mem_append.1 hgm with h | h
   ·exact hg g h
   ·simp only [List.mem_singleton] at h;subst h;exact hτj
  ·intro i hA hB
   by_cases hip:i<p.length
   ·rw [List.getElem_append_left (by omega),List.getElem_append_left hip]
    exact k2 _ _ (k4 i hip (by omega))
   ·have hip':i=p.length:=by simp at hA;omega
    subst hip'
    have e1:(gs++[j])[p.length]'hB=j:=by
     rw [List.getElem_append_right (by omega)];simp
    have e2:(p++[x])[p.length]'hA=x:=by
     rw [List.getElem_append_right (by omega)];simp
    rw [e1,e2];exact k2 _ _ k3
  ·rw [List.zipWith_append (by omega)]
   exact k5.weak k1
 rcases ho with ⟨hL,rfl⟩ | ⟨g,rfl,hgg,hh⟩
 ·refine Own.app (τ:=s) (L:=List.zipWith segO p gs) (Store.sub_refl _) (.inl ⟨hL,rfl⟩) hw (by rw [hz];exact hsz) fun v' s' hs ho' => ?_
  exact fin s v' s' (Store.sub_trans hτ h0) hs hj (fun i h h'=>h0 _ _ (hi i h h')) ho'
 ·have hgi:∀ i (h':i<gs.length),gs[i]≠g:=fun i h' e=>by
   have:=hi i (by omega) h'
   rw [e,hh] at this;cases this
  have hjg':j≠g:=fun e=>by rw [e,hh] at hj0;cases hj0
  have hsd:Store.sub (s.del g) s:=fun y o hy=>by
   by_cases hyg:y=g
   ·subst hyg;simp at hy
   ·rw [Store.del_ne _ hyg] at hy;exact hy
  refine Own.app (τ:=s.del g) (L:=List.zipWith segO p gs) hsd (.inr ⟨g,rfl,by simp,h0 _ _ hh⟩) hw (by rw [hz];exact hsz) fun v' s' hs ho' => ?_
  refine fin (s.del g) v' s' (fun y o hy => ?_) hs (by rw [Store.del_ne _ hjg'];exact hj) (fun i h h'=>by rw [Store.del_ne _ (hgi i h')];exact h0 _ _ (hi i h h')) ho'
  rw [Store.del_ne _ (fun e=>by subst e;rw [hgg] at hy;cases hy)]
  exact h0 _ _ (hτ _ _ hy)
theorem EndQ.ownP {slots:List RS} {Q:AV→Store→Prop} {e:Env} {σ τ:Store} {p:List Seg} {v:AV} (h1:e.res τ slots=some v) (ho:OwnP σ p v τ) (hs:Store.sub σ τ) (h4:Q (.sl 2 (p.map Seg.c)) σ) : @EndQ e τ ⟨slots,Q⟩:=by
 obtain ⟨gs,hl,hn,hg,hi,ho⟩:=ho
 rcases ho with ⟨h0,rfl⟩ | ⟨g,rfl,hgg,hh⟩
 ·have:p=[]:=by
   have:=congrArg List.length h0
   simp [hl] at this
   exact this
  subst this
  exact EndQ.nil1 2 σ h1 hs h4
 ·unfold EndQ
  refine ⟨_,h1,Weak.of_one (WeakL.freeze 0 rfl hh (by omega) ?_)⟩
  simp only [List.set_cons_zero,List.drop_zero,List.take_length]
  have hgi:∀ i (h':i<gs.length),gs[i]≠g:=fun i h' e=>by
   have:=hi i (by omega) h'
   rw [e,hh] at this;cases this
  refine z70 (Q:=_) p gs [] (τ.del g) hl hn (fun i h h'=>by rw [Store.del_ne _ (hgi i h')];exact hi i h h') ?_
  refine WeakL.forget (σ':=σ) (fun x o hx => ?_) (WeakL.pure ⟨_,rfl,h4⟩)
  have h1:x ∉ gs:=fun e=>by rw [hg x e] at hx;cases hx
  rw [z1m h1,Store.del_ne _ (fun e=>by subst e;rw [hgg] at hx;cases hx)]
  exact hs x o hx
end Go.Am
namespace Go.Am
open Go.Proofs Go.Sort
theorem zfp (p:List Seg) (h:p.length≤1000000) (ho:∀ s ∈ p,s.ok):Pur Tryz.prog 146 [.sl 2 (p.map Seg.c)] (.sl 2 (p.map Seg.c)):=by
 intro σ
 refine zk Tst.F146 (by simp [Tst.F146,Fn.mkX]) ?_
 simp only [Tst.F146,Fn.mkX,Tst.b146]
 simp only [↓vcPre,↓z0,↓reduceIte,vcPost,vcStd,Nat.reduceEqDiff,reduceCtorEq,Nat.reduceAdd,Nat.reduceLeDiff,Int.reduceLT,Int.reduceLE,↓u_setN]
 refine LoopQ.inv (S:=Nat×AV×Store) (fun q=>[(0,.sl 2 (p.map Seg.c)),(3,q.2.1),(4,.int .i64 (q.1:Int))]) (fun q=>q.2.2)
  (fun q=>q.1≤p.length∧Store.sub σ q.2.2∧OwnP σ (p.take q.1) q.2.1 q.2.2) (fun q=>p.length+1 - q.1) (0,.nils,σ) rfl (Store.sub_refl _) ⟨by simp only;omega,Store.sub_refl _,OwnP.nil⟩ ?_
 rintro ⟨k,v,s⟩ ⟨hk,hs,ho'⟩
 simp only at hk hs ho'
 simp only [↓vcPre,↓z0,↓reduceIte,vcPost,vcStd,Nat.reduceEqDiff,reduceCtorEq,Nat.reduceAdd,Nat.reduceLeDiff,Int.reduceLT,Int.reduceLE,↓u_setN]
 refine ⟨fun c1 => ?_,fun c1 => ?_⟩
 ·have ek:IntKind.i64.wrap ((k:Int)+1)=((k+1:Nat):Int):=by rw [zd (by unfold I64;omega)];omega
  have hx:=ho _ (List.getElem_mem c1)
  unfold Seg.ok at hx
  refine ⟨c1,c1,by simp [Seg.c],?_⟩
  simp only [Seg.c,↓vcPre,↓z0,↓reduceIte,vcPost,vcStd,Nat.reduceEqDiff,reduceCtorEq,Nat.reduceAdd,Nat.reduceLeDiff,Int.reduceLT,Int.reduceLE,↓u_setN]
  have hroom:(([]:List (List AV)).length+(p[k].ls.map cU).length)*4≤140737488355328:=by simp;omega
  refine ⟨?_,?_⟩
  ·refine AllocQ.i0 fun i hi => ?_
   simp only [↓vcPre,↓z0,↓reduceIte,vcPost,vcStd,Nat.reduceEqDiff,reduceCtorEq,Nat.reduceAdd,Nat.reduceLeDiff,Int.reduceLT,Int.reduceLE,↓u_setN]
   refine yg (zq (Store.set_same _ _ _) rfl) yw hroom fun j hj => ?_
   simp only [↓vcPre,↓z0,↓reduceIte,vcPost,vcStd,Nat.reduceEqDiff,reduceCtorEq,Nat.reduceAdd,Nat.reduceLeDiff,Int.reduceLT,Int.reduceLE,↓u_setN]
   have hji:j≠i:=fun e=>by subst e;rw [Store.set_same] at hj;cases hj
   have hj0:s j=none:=by rw [Store.set_ne _ _ hji] at hj;exact hj
   have hsub:Store.sub s (((s.set i (Obj.arr 1 [])).del i).set j (Obj.arr 1 (List.map cU p[k].ls))):=fun y o hy=>by
    have h1:y≠i:=fun e=>by subst e;rw [hi] at hy;cases hy
    have h2:y≠j:=fun e=>by subst e;rw [hj0] at hy;cases hy
    rw [Store.set_ne _ _ h2,Store.del_ne _ h1,Store.set_ne _ _ h1];exact hy
   have hjs:(((s.set i (Obj.arr 1 [])).del i).set j (Obj.arr 1 (List.map cU p[k].ls))) j=some (.arr 1 (p[k].ls.map cU)):=Store.set_same _ _ _
   refine AllocQ.i0 fun b hb => ?_
   simp only [Nat.zero_add,↓vcPre,↓z0,↓reduceIte,vcPost,vcStd,Nat.reduceEqDiff,reduceCtorEq,Nat.reduceAdd,Nat.reduceLeDiff,Int.reduceLT,Int.reduceLE,↓u_setN]
   refine OwnP.app (τ:=σ) (s0:=s) (x:=p[k]) (j:=j) hs (Store.sub_trans hsub (Store.sub_set _ b _ hb)) ho' (Store.sub_set _ b _ hb _ _ hjs) hj0 (zq (Store.set_same _ _ _) rfl) (by simp;omega) fun v' s' hs' ho'' => ?_
   rw [ek]
   refine NextQ.to (k+1,v',s') rfl (Store.sub_refl _) (by simp only;omega) ⟨by simp only;omega,hs',?_⟩
   simp only [List.take_add_one,List.getElem?_eq_getElem c1,Option.toList_some]
   exact ho''
  ·refine AllocQ.i0 fun i hi => ?_
   simp only [↓vcPre,↓z0,↓reduceIte,vcPost,vcStd,Nat.reduceEqDiff,reduceCtorEq,Nat.reduceAdd,Nat.reduceLeDiff,Int.reduceLT,Int.reduceLE,↓u_setN]
   refine ⟨⟨by simp [Seg.c],?_⟩,?_⟩
   ·simp only [Seg.c,↓vcPre,↓z0,↓reduceIte,vcPost,vcStd,Nat.reduceEqDiff,reduceCtorEq,Nat.reduceAdd,Nat.reduceLeDiff,Int.reduceLT,Int.reduceLE,↓u_setN]
    refine yg (zq (Store.set_same _ _ _) rfl) yw hroom fun j hj => ?_
    simp only [↓vcPre,↓z0,↓reduceIte,vcPost,vcStd,Nat.reduceEqDiff,reduceCtorEq,Nat.reduceAdd,Nat.reduceLeDiff,Int.reduceLT,Int.reduceLE,↓u_setN]
    have hji:j≠i:=fun e=>by subst e;rw [Store.set_same] at hj;cases hj
    have hj0:s j=none:=by rw [Store.set_ne _ _ hji] at hj;exact hj
    have hsub:Store.sub s (((s.set i (Obj.arr 1 [])).del i).set j (Obj.arr 1 (List.map cU p[k].ls))):=fun y o hy=>by
     have h1:y≠i:=fun e=>by subst e;rw [hi] at hy;cases hy
     have h2:y≠j:=fun e=>by subst e;rw [hj0] at hy;cases hy
     rw [Store.set_ne _ _ h2,Store.del_ne _ h1,Store.set_ne _ _ h1];exact hy
    have hjs:(((s.set i (Obj.arr 1 [])).del i).set j (Obj.arr 1 (List.map cU p[k].ls))) j=some (.arr 1 (p[k].ls.map cU)):=Store.set_same _ _ _
    refine AllocQ.i0 fun b hb => ?_
    simp only [Nat.zero_add,↓vcPre,↓z0,↓reduceIte,vcPost,vcStd,Nat.reduceEqDiff,reduceCtorEq,Nat.reduceAdd,Nat.reduceLeDiff,Int.reduceLT,Int.reduceLE,↓u_setN]
    refine OwnP.app (τ:=σ) (s0:=s) (x:=p[k]) (j:=j) hs (Store.sub_trans hsub (Store.sub_set _ b _ hb)) ho' (Store.sub_set _ b _ hb _ _ hjs) hj0 (zq (Store.set_same _ _ _) rfl) (by simp;omega) fun v' s' hs' ho'' => ?_
    rw [ek]
    refine NextQ.to (k+1,v',s') rfl (Store.sub_refl _) (by simp only;omega) ⟨by simp only;omega,hs',?_⟩
    simp only [List.take_add_one,List.getElem?_eq_getElem c1,Option.toList_some]
    exact ho''
   ·refine yg (zq (Store.set_same _ _ _) rfl) yw hroom fun j hj => ?_
    refine ⟨by simp [Seg.c],?_⟩
    simp only [Seg.c,↓vcPre,↓z0,↓reduceIte,vcPost,vcStd,Nat.reduceEqDiff,reduceCtorEq,Nat.reduceAdd,Nat.reduceLeDiff,Int.reduceLT,Int.reduceLE,↓u_setN]
    have hji:j≠i:=fun e=>by subst e;rw [Store.set_same] at hj;cases hj
    have hj0:s j=none:=by rw [Store.set_ne _ _ hji] at hj;exact hj
    have hsub:Store.sub s (((s.set i (Obj.arr 1 [])).del i).set j (Obj.arr 1 (List.map cU p[k].ls))):=fun y o hy=>by
     have h1:y≠i:=fun e=>by subst e;rw [hi] at hy;cases hy
     have h2:y≠j:=fun e=>by subst e;rw [hj0] at hy;cases hy
     rw [Store.set_ne _ _ h2,Store.del_ne _ h1,Store.set_ne _ _ h1];exact hy
    have hjs:(((s.set i (Obj.arr 1 [])).del i).set j (Obj.arr 1 (List.map cU p[k].ls))) j=some (.arr 1 (p[k].ls.map cU)):=Store.set_same _ _ _
    refine AllocQ.i0 fun b hb => ?_
    simp only [Nat.zero_add,↓vcPre,↓z0,↓reduceIte,vcPost,vcStd,Nat.reduceEqDiff,reduceCtorEq,Nat.reduceAdd,Nat.reduceLeDiff,Int.reduceLT,Int.reduceLE,↓u_setN]
    refine OwnP.app (τ:=σ) (s0:=s) (x:=p[k]) (j:=j) hs (Store.sub_trans hsub (Store.sub_set _ b _ hb)) ho' (Store.sub_set _ b _ hb _ _ hjs) hj0 (zq (Store.set_same _ _ _) rfl) (by simp;omega) fun v' s' hs' ho'' => ?_
    rw [ek]
    refine NextQ.to (k+1,v',s') rfl (Store.sub_refl _) (by simp only;omega) ⟨by simp only;omega,hs',?_⟩
    simp only [List.take_add_one,List.getElem?_eq_getElem c1,Option.toList_some]
    exact ho''
 ·have hkl:p.take k=p:=List.take_of_length_le (by omega)
  rw [hkl] at ho'
  exact EndQ.ownP rfl ho' hs ⟨rfl,rfl⟩
end Go.Am
namespace Go.Am.Tsf
open Go.Proofs Go.Am.B
def t40_34:BC := .seq (z [m 34 0] [0,1,5,34] (z [m 35 5] [0,1,5,34,35] (z [p 36 (.slice 1 false true) [.t 34,.t 35]] [0,1,5,36] (z [m 38 1] [0,5,36,38] (z [m 41 0] [5,36,38,41] (z [m 42 5] [36,38,41,42] (z [p 43 (.slice 1 true false) [.t 41,.t 42]] [36,38,43] (.both (z [⟨some 33,none,.alloc (.mksl 1 0),[]⟩] [33,36,38,43] (.both (z [⟨some 37,none,.loud (.app 1 4),[.t 33,.t 36]⟩] [37,38,43] (z [⟨some 39,none,.alloc (.mksl 1 1),[.t 38]⟩] [37,39,43] (z [⟨some 40,none,.loud (.app 1 4),[.t 37,.t 39]⟩] [40,43] (z [⟨some 44,none,.loud (.app 1 4),[.t 40,.t 43]⟩] [44] (z [m 4 44] [4] (.ops [] [4])))))) (.both (z [⟨some 39,none,.alloc (.mksl 1 1),[.t 38]⟩] [33,36,39,43] (z [⟨some 37,none,.loud (.app 1 4),[.t 33,.t 36]⟩] [37,39,43] (z [⟨some 40,none,.loud (.app 1 4),[.t 37,.t 39]⟩] [40,43] (z [⟨some 44,none,.loud (.app 1 4),[.t 40,.t 43]⟩] [44] (z [m 4 44] [4] (.ops [] [4])))))) (.top)))) (.both (z [⟨some 39,none,.alloc (.mksl 1 1),[.t 38]⟩] [36,39,43] (z [⟨some 33,none,.alloc (.mksl 1 0),[]⟩] [33,36,39,43] (z [⟨some 37,none,.loud (.app 1 4),[.t 33,.t 36]⟩] [37,39,43] (z [⟨some 40,none,.loud (.app 1 4),[.t 37,.t 39]⟩] [40,43] (z [⟨some 44,none,.loud (.app 1 4),[.t 40,.t 43]⟩] [44] (z [m 4 44] [4] (.ops [] [4]))))))) (.top)))))))))) .ret
def b40:BC:=z [k 4 .nils] [0,1] (z [j 5 0] [0,1,5] (.seq (.block 0 (.loop [0,1,5] (.seq (z [m 6 5,m 7 0,u 8 .len 7,b 9 .lss 6 8,m 10 9,⟨some 11,some (10,true),.pure (.mov),[.t 0]⟩,⟨some 12,some (10,true),.pure (.mov),[.t 5]⟩,⟨some 13,some (10,true),.pure (.idx 1),[.t 11,.t 12]⟩,⟨some 14,some (10,true),.load (.ld 1 false),[.t 13]⟩,⟨some 15,some (10,true),.pure (.mov),[.t 1]⟩,⟨some 16,some (10,true),.pure (.bin .lss),[.t 14,.t 15]⟩,⟨some 17,none,.pick,[.t 10,.t 16,.c (.bool false)]⟩] [0,1,5,17] (.cond (.t 17) .skip (.exit 0))) (.block 1 (.ops [m 18 5,c 19 .add 18 1,m 5 19] [0,1,5]))))) (.seq (z [m 20 5,m 21 0,u 22 .len 21,b 23 .lss 20 22,m 24 23,⟨some 25,some (24,true),.pure (.mov),[.t 0]⟩,⟨some 26,some (24,true),.pure (.mov),[.t 5]⟩,⟨some 27,some (24,true),.pure (.idx 1),[.t 25,.t 26]⟩,⟨some 28,some (24,true),.load (.ld 1 false),[.t 27]⟩,⟨some 29,some (24,true),.pure (.mov),[.t 1]⟩,⟨some 30,some (24,true),.pure (.bin .eql),[.t 28,.t 29]⟩,⟨some 31,none,.pick,[.t 24,.t 30,.c (.bool false)]⟩] [0,1,5,31] (.cond (.t 31) (z [m 32 0,m 4 32] [4] .ret) .skip)) t40_34)))
def F40:Fn Tryz.prog 40:=Fn.mkX false b40 [.t 4] 45 Tryz.f40 _ Tryz.func40 (by decide) rfl Tryz.ntmps40 (by kernel_rfl) (by kernel_rfl)
end Go.Am.Tsf
namespace Go.Am
open Go.Proofs Go.Sort
def putL:List Int→Int→List Int
 | [],n=>[n]
 | x::r,n=>if x<n then x::putL r n else if x=n then x::r else n::x::r
theorem z47 {L:List Int} {n:Int} {k:Nat} (hk:k≤L.length) (h:∀ i (h:i<L.length),i<k→L[i]<n):putL L n=L.take k++putL (L.drop k) n:=by
 induction L generalizing k with
 | nil=>simp at hk;subst hk;rfl
 | cons x r ih =>
   cases k with
   | zero=>simp
   | succ k =>
     have h0:=h 0 (by simp) (by omega)
     simp only [List.getElem_cons_zero] at h0
     simp only [putL,if_pos h0,List.take_succ_cons,List.drop_succ_cons,List.cons_append]
     rw [ih (by simpa using hk) (fun i hi hik=>by
      have:=h (i+1) (by simpa using hi) (by omega)
      simpa using this)]
theorem putL_mem {L:List Int} {n x:Int}:x ∈ putL L n↔x=n∨x ∈ L:=by
 induction L with
 | nil=>simp [putL]
 | cons y r ih =>
   simp only [putL]
   split
   ·simp [ih];grind
   ·split
    ·rename_i h;subst h;simp
    ·simp
theorem xz {L:List Int} {n:Int} (h:Inc L):Inc (putL L n):=by
 induction L with
 | nil=>simp [putL,Inc]
 | cons y r ih =>
   simp only [putL]
   unfold Inc at h ih ⊢
   rw [List.pairwise_cons] at h
   split
   ·rename_i h1
    rw [List.pairwise_cons]
    refine ⟨fun z hz => ?_,ih h.2⟩
    rcases putL_mem.1 hz with rfl | hz
    ·exact h1
    ·exact h.1 z hz
   ·split
    ·rw [List.pairwise_cons];exact h
    ·rw [List.pairwise_cons,List.pairwise_cons]
     refine ⟨fun z hz => ?_,h⟩
     rcases List.mem_cons.1 hz with rfl | hz
     ·omega
     ·have:=h.1 z hz;omega
theorem z3h (l:List Int):l.foldl putL []=canonC l:=by
 have key:∀ (l:List Int) (b:List Int),Inc b→Inc (l.foldl putL b)∧∀ x,x ∈ l.foldl putL b↔x ∈ b∨x ∈ l:=by
  intro l
  induction l with
  | nil=>intro b hb;exact ⟨hb,by simp⟩
  | cons y r ih =>
    intro b hb
    obtain ⟨h1,h2⟩:=ih (putL b y) (xz hb)
    refine ⟨h1,fun x => ?_⟩
    show x ∈ r.foldl putL (putL b y)↔_
    rw [h2,putL_mem];simp;grind
 obtain ⟨h1,h2⟩:=key l [] (by simp [Inc])
 exact ql h1 (wm l) fun x=>by rw [h2,wn];simp
theorem z0b (L:List Int) (n:Int):(putL L n).length≤L.length+1:=by
 induction L with
 | nil=>simp [putL]
 | cons y r ih =>
   simp only [putL]
   split
   ·simp;omega
   ·split <;> simp
end Go.Am
namespace Go.Am
open Go.Proofs Go.Sort
theorem Own.appN {esz bytes g:Nat} {τ s:Store} {L ys:List (List AV)} {wv:AV} {K:AV→Store→Prop} (hsub:Store.sub τ s) (hg:τ g=none) (hs:s g=some (.arr esz L)) (hw:slc s esz wv=some ys) (hsz:(L.length+ys.length)*bytes≤140737488355328)
 (h:∀ j s',Store.sub τ s'→τ j=none→s' j=some (.arr esz (L++ys))→K (.os j esz 0 (L.length+ys.length)) s'):appwp esz bytes (.os g esz 0 L.length) wv s K:=by
 refine yg (zq hs rfl) hw hsz fun j hj => ?_
 have hτ:τ j=none:=zm hsub hj
 refine h _ _ (fun x q hx => ?_) hτ (Store.set_same _ _ _)
 have hxj:x≠j:=fun e=>by subst e;rw [hτ] at hx;cases hx
 have hxg:x≠g:=fun e=>by subst e;rw [hg] at hx;cases hx
 rw [Store.set_ne _ _ hxj,Store.del_ne _ hxg];exact hsub x q hx
theorem qr {esz id off n:Nat} {es:List (List AV)} {σ:Store} (h:σ id=some (.arr esz es)) (hn:off+n≤es.length):slc σ esz (.os id esz off n)=some ((es.drop off).take n):=by
 simp [slc,h,hn]
theorem z2u (L:List Int) (n:Int) (k:Nat) (hk:k≤L.length) (hL:L.length≤1000000) {g j b:Nat} {s t:Store} (hg:s g=some (.arr 1 (L.map cU))) (hsub:Store.sub s t) (hj:s j=none) (hb:s b=none) (hjb:b≠j)
 (htj:t j=some (.arr 1 ((L.take k).map cU))) (htb:t b=some (.arr 1 [cU n])) {K:AV→Store→Prop}
 (h:∀ j s',Store.sub s s'→s j=none→s' j=some (.arr 1 ((L.take k++n::L.drop k).map cU))→K (.os j 1 0 (L.length+1)) s') :
 appwp 1 4 (.os j 1 0 k) (.os b 1 0 1) t fun v s'=>appwp 1 4 v (.os g 1 k (L.length - k)) s' K:=by
 have e1:((L.take k).map cU).length=k:=by simp;omega
 have a1:=Own.appN (τ:=s) (g:=j) (bytes:=4) (L:=(L.take k).map cU) (K:=fun v s'=>appwp 1 4 v (.os g 1 k (L.length - k)) s' K) hsub hj htj (zq htb rfl) (by rw [e1];simp;omega) (fun j' s' q1 q2 q3=>by
  have e2:((L.take k).map cU++[cU n]).length=k+1:=by simp;omega
  have hs2:slc s' 1 (.os g 1 k (L.length - k))=some ((L.drop k).map cU):=by
   rw [qr (q1 _ _ hg) (by simp;omega)]
   rw [List.take_of_length_le (by simp),List.map_drop]
  have a2:=Own.appN (τ:=s) (g:=j') (bytes:=4) (L:=(L.take k).map cU++[cU n]) (K:=K) q1 q2 q3 hs2 (by rw [e2];simp;omega) (fun j2 s2 p1 p2 p3=>by
   have e3:((L.take k).map cU++[cU n]).length+((L.drop k).map cU).length=L.length+1:=by simp;omega
   rw [e3]
   refine h j2 s2 p1 p2 ?_
   rw [p3];simp)
  rw [e2] at a2
  rw [e1];exact a2)
 rw [e1] at a1
 exact a1
theorem z48 (L:List Int) (n:Int) (k:Nat) (hk:k≤L.length) (hL:L.length≤1000000) {g i b:Nat} {s t:Store} (hg:s g=some (.arr 1 (L.map cU))) (hsub:Store.sub s t) (hi:s i=none) (hb:s b=none) (hib:b≠i)
 (hti:t i=some (.arr 1 [])) (htb:t b=some (.arr 1 [cU n])) {K:AV→Store→Prop}
 (h:∀ j s',Store.sub s s'→s j=none→s' j=some (.arr 1 ((L.take k++n::L.drop k).map cU))→K (.os j 1 0 (L.length+1)) s') :
 appwp 1 4 (.os i 1 0 0) (.os g 1 0 k) t fun v s'=>appwp 1 4 v (.os b 1 0 1) s' fun v s'=>appwp 1 4 v (.os g 1 k (L.length - k)) s' K:=by
 have hsb:Store.sub (s.set b (.arr 1 [cU n])) t:=fun y o hy=>by
  by_cases hyb:y=b
  ·subst hyb;rw [Store.set_same] at hy;cases hy;exact htb
  ·rw [Store.set_ne _ _ hyb] at hy;exact hsub _ _ hy
 have e1:((L.take k).map cU).length=k:=by simp;omega
 have hs2:slc t 1 (.os g 1 0 k)=some ((L.take k).map cU):=by
  rw [qr (hsub _ _ hg) (by simp;omega)]
  rw [List.drop_zero,List.map_take]
 refine Own.appN (τ:=s.set b (.arr 1 [cU n])) (g:=i) (L:=[]) hsb (by rw [Store.set_ne _ _ (fun e=>hib e.symm)];exact hi) hti hs2 (by rw [e1];simp;omega) fun j s' q1 q2 q3 => ?_
 have hjb:j≠b:=fun e=>by subst e;rw [Store.set_same] at q2;cases q2
 rw [Store.set_ne _ _ hjb] at q2
 have:=z2u L n k hk hL hg (Store.sub_trans (Store.sub_set _ b _ hb) q1) q2 hb (fun e=>hjb e.symm) (by simpa using q3) (q1 _ _ (Store.set_same _ _ _)) h
 simp only [List.length_nil,Nat.zero_add,e1]
 exact this
theorem z89 (E:Env) (L:List Int) (n:Int) (k:Nat) (hk:k≤L.length) (hL:L.length≤1000000) {g:Nat} {s:Store} (hg:s g=some (.arr 1 (L.map cU))) {nn rr:Env→Store→Prop} {x:Nat→Env→Store→Prop}
 (hr:∀ j s',Store.sub s s'→s j=none→s' j=some (.arr 1 ((L.take k++n::L.drop k).map cU))→rr [(4,.os j 1 0 (L.length+1))] s') :
 bwp Tryz.prog Tsf.t40_34 ((0,.os g 1 0 L.length)::(1,.int .u32 n)::(5,.int .i64 (k:Int))::E) s nn rr x:=by
 simp only [Tsf.t40_34]
 simp only [hg,↓vcPre,↓z0,↓reduceIte,vcPost,vcStd,Nat.reduceEqDiff,reduceCtorEq,Nat.reduceAdd,Nat.reduceLeDiff,Int.reduceLT,Int.reduceLE,↓u_setN]
 refine ⟨⟨by simp only [Option.getD_some];omega,by simp only [Option.getD_some];omega⟩,⟨by simp only [Option.getD_none];omega,by simp only [Option.getD_none];omega⟩,?_,?_⟩
 ·refine AllocQ.i0 fun i hi => ?_
  simp only [hg,Option.getD_some,Option.getD_none,Int.toNat_natCast,Int.toNat_zero,Nat.sub_zero,Nat.zero_add,↓vcPre,↓z0,↓reduceIte,vcPost,vcStd,Nat.reduceEqDiff,reduceCtorEq,Nat.reduceAdd,Nat.reduceLeDiff,Int.reduceLT,Int.reduceLE,↓u_setN]
  have e1:((L.take k).map cU).length=k:=by simp;omega
  refine ⟨?_,?_⟩
  ·refine Own.appN (τ:=s) (g:=i) (L:=[]) (ys:=(L.take k).map cU) (Store.sub_set _ _ _ hi) hi (Store.set_same _ _ _) ?_ (by rw [e1];simp;omega) fun j s1 q1 q2 q3 => ?_
   ·rw [qr (Store.sub_set _ _ _ hi _ _ hg) (by simp;omega),List.drop_zero,List.map_take]
   refine AllocQ.i0 fun b hb => ?_
   have hjb:b≠j:=fun e=>by subst e;rw [q3] at hb;cases hb
   simp only [List.length_nil,Nat.zero_add,e1,List.nil_append] at q3 ⊢
   simp only [hg,↓vcPre,↓z0,↓reduceIte,vcPost,vcStd,Nat.reduceEqDiff,reduceCtorEq,Nat.reduceAdd,Nat.reduceLeDiff,Int.reduceLT,Int.reduceLE,↓u_setN]
   refine z2u L n k hk hL hg (Store.sub_trans q1 (Store.sub_set _ b _ hb)) q2 (zm q1 hb) hjb (Store.sub_set _ b _ hb _ _ q3) (Store.set_same _ _ _) fun j2 s2 p1 p2 p3 => ?_
   exact hr j2 s2 p1 p2 p3
  ·refine AllocQ.i0 fun b hb => ?_
   simp only [hg,Option.getD_some,Option.getD_none,Int.toNat_natCast,Int.toNat_zero,Nat.sub_zero,Nat.zero_add,↓vcPre,↓z0,↓reduceIte,vcPost,vcStd,Nat.reduceEqDiff,reduceCtorEq,Nat.reduceAdd,Nat.reduceLeDiff,Int.reduceLT,Int.reduceLE,↓u_setN]
   have hbi:b≠i:=fun e=>by subst e;rw [Store.set_same] at hb;cases hb
   rw [Store.set_ne _ _ hbi] at hb
   refine z48 L n k hk hL hg (zp hi hb hbi) hi hb hbi (by rw [Store.set_ne _ _ (fun e=>hbi e.symm),Store.set_same]) (Store.set_same _ _ _) fun j2 s2 p1 p2 p3=>hr j2 s2 p1 p2 p3
 ·refine AllocQ.i0 fun b hb => ?_
  simp only [hg,↓vcPre,↓z0,↓reduceIte,vcPost,vcStd,Nat.reduceEqDiff,reduceCtorEq,Nat.reduceAdd,Nat.reduceLeDiff,Int.reduceLT,Int.reduceLE,↓u_setN]
  refine AllocQ.i0 fun i hi => ?_
  simp only [hg,Option.getD_some,Option.getD_none,Int.toNat_natCast,Int.toNat_zero,Nat.sub_zero,Nat.zero_add,↓vcPre,↓z0,↓reduceIte,vcPost,vcStd,Nat.reduceEqDiff,reduceCtorEq,Nat.reduceAdd,Nat.reduceLeDiff,Int.reduceLT,Int.reduceLE,↓u_setN]
  have hib:i≠b:=fun e=>by subst e;rw [Store.set_same] at hi;cases hi
  rw [Store.set_ne _ _ hib] at hi
  refine z48 L n k hk hL hg (zp hb hi hib) hi hb (fun e=>hib e.symm) (Store.set_same _ _ _) (by rw [Store.set_ne _ _ (fun e=>hib e.symm),Store.set_same];rfl) fun j2 s2 p1 p2 p3=>hr j2 s2 p1 p2 p3
end Go.Am
namespace Go.Am
open Go.Proofs Go.Sort
theorem z05 {A B:List (List AV)} {y:List AV} {w2:AV} {j b:Nat} {s t:Store} (hsub:Store.sub s t) (hj:s j=none)
 (htj:t j=some (.arr 1 A)) (htb:t b=some (.arr 1 [y])) (h2:∀ t,Store.sub s t→slc t 1 w2=some B) (hsz:(A.length+1+B.length)*4≤140737488355328) {K:AV→Store→Prop}
 (h:∀ j s',Store.sub s s'→s j=none→s' j=some (.arr 1 (A++y::B))→K (.os j 1 0 (A.length+1+B.length)) s') :
 appwp 1 4 (.os j 1 0 A.length) (.os b 1 0 1) t fun v s'=>appwp 1 4 v w2 s' K:=by
 refine Own.appN (τ:=s) (g:=j) (L:=A) hsub hj htj (zq htb rfl) (by simp;omega) fun j' s' q1 q2 q3 => ?_
 have e2:(A++[y]).length=A.length+1:=by simp
 have a2:=Own.appN (τ:=s) (g:=j') (bytes:=4) (L:=A++[y]) (K:=K) q1 q2 q3 (h2 _ q1) (by rw [e2];exact hsz) (fun j2 s2 p1 p2 p3=>by
  rw [e2]
  refine h j2 s2 p1 p2 ?_
  rw [p3];simp)
 rw [e2] at a2
 exact a2
theorem qj {A B:List (List AV)} {y:List AV} {w1 w2:AV} {i b:Nat} {s t:Store} (hsub:Store.sub s t) (hi:s i=none) (hb:s b=none) (hib:b≠i)
 (hti:t i=some (.arr 1 [])) (htb:t b=some (.arr 1 [y])) (h1:∀ t,Store.sub s t→slc t 1 w1=some A) (h2:∀ t,Store.sub s t→slc t 1 w2=some B) (hsz:(A.length+1+B.length)*4≤140737488355328) {K:AV→Store→Prop}
 (h:∀ j s',Store.sub s s'→s j=none→s' j=some (.arr 1 (A++y::B))→K (.os j 1 0 (A.length+1+B.length)) s') :
 appwp 1 4 (.os i 1 0 0) w1 t fun v s'=>appwp 1 4 v (.os b 1 0 1) s' fun v s'=>appwp 1 4 v w2 s' K:=by
 have hsb:Store.sub (s.set b (.arr 1 [y])) t:=fun z o hy=>by
  by_cases hyb:z=b
  ·subst hyb;rw [Store.set_same] at hy;cases hy;exact htb
  ·rw [Store.set_ne _ _ hyb] at hy;exact hsub _ _ hy
 refine Own.appN (τ:=s.set b (.arr 1 [y])) (g:=i) (L:=[]) hsb (by rw [Store.set_ne _ _ (fun e=>hib e.symm)];exact hi) hti (h1 _ hsub) (by simp;omega) fun j s' q1 q2 q3 => ?_
 have hjb:j≠b:=fun e=>by subst e;rw [Store.set_same] at q2;cases q2
 rw [Store.set_ne _ _ hjb] at q2
 have:=z05 (A:=A) (B:=B) (Store.sub_trans (Store.sub_set _ b _ hb) q1) q2 (by simpa using q3) (q1 _ _ (Store.set_same _ _ _)) h2 hsz h
 simp only [List.length_nil,Nat.zero_add]
 exact this
theorem z6h (E:Env) (n:Int) {s:Store} {nn rr:Env→Store→Prop} {x:Nat→Env→Store→Prop}
 (hr:∀ j s',Store.sub s s'→s j=none→s' j=some (.arr 1 [cU n])→rr [(4,.os j 1 0 1)] s') :
 bwp Tryz.prog Tsf.t40_34 ((0,.nils)::(1,.int .u32 n)::(5,.int .i64 0)::E) s nn rr x:=by
 simp only [Tsf.t40_34]
 have hn:∀ t,Store.sub s t→slc t 1 .nils=some []:=fun _ _=>rfl
 simp only [↓vcPre,↓z0,↓reduceIte,vcPost,vcStd,Nat.reduceEqDiff,reduceCtorEq,Nat.reduceAdd,Nat.reduceLeDiff,Int.reduceLT,Int.reduceLE,↓u_setN]
 refine ⟨⟨by simp,by simp⟩,⟨by simp,by simp⟩,?_,?_⟩
 ·refine AllocQ.i0 fun i hi => ?_
  simp only [↓vcPre,↓z0,↓reduceIte,vcPost,vcStd,Nat.reduceEqDiff,reduceCtorEq,Nat.reduceAdd,Nat.reduceLeDiff,Int.reduceLT,Int.reduceLE,↓u_setN]
  refine ⟨?_,?_⟩
  ·refine Own.appN (τ:=s) (g:=i) (L:=[]) (ys:=[]) (Store.sub_set _ _ _ hi) hi (Store.set_same _ _ _) rfl (by simp) fun j s1 q1 q2 q3 => ?_
   refine AllocQ.i0 fun b hb => ?_
   have hjb:b≠j:=fun e=>by subst e;rw [q3] at hb;cases hb
   simp only [List.length_nil,Nat.zero_add,List.nil_append] at q3 ⊢
   simp only [↓vcPre,↓z0,↓reduceIte,vcPost,vcStd,Nat.reduceEqDiff,reduceCtorEq,Nat.reduceAdd,Nat.reduceLeDiff,Int.reduceLT,Int.reduceLE,↓u_setN]
   exact z05 (A:=[]) (B:=[]) (Store.sub_trans q1 (Store.sub_set _ b _ hb)) q2 (Store.sub_set _ b _ hb _ _ q3) (Store.set_same _ _ _) hn (by simp) fun j2 s2 p1 p2 p3=>hr j2 s2 p1 p2 p3
  ·refine AllocQ.i0 fun b hb => ?_
   simp only [↓vcPre,↓z0,↓reduceIte,vcPost,vcStd,Nat.reduceEqDiff,reduceCtorEq,Nat.reduceAdd,Nat.reduceLeDiff,Int.reduceLT,Int.reduceLE,↓u_setN]
   have hbi:b≠i:=fun e=>by subst e;rw [Store.set_same] at hb;cases hb
   rw [Store.set_ne _ _ hbi] at hb
   exact qj (A:=[]) (B:=[]) (zp hi hb hbi) hi hb hbi (by rw [Store.set_ne _ _ (fun e=>hbi e.symm),Store.set_same]) (Store.set_same _ _ _) hn hn (by simp) fun j2 s2 p1 p2 p3=>hr j2 s2 p1 p2 p3
 ·refine AllocQ.i0 fun b hb => ?_
  simp only [↓vcPre,↓z0,↓reduceIte,vcPost,vcStd,Nat.reduceEqDiff,reduceCtorEq,Nat.reduceAdd,Nat.reduceLeDiff,Int.reduceLT,Int.reduceLE,↓u_setN]
  refine AllocQ.i0 fun i hi => ?_
  simp only [↓vcPre,↓z0,↓reduceIte,vcPost,vcStd,Nat.reduceEqDiff,reduceCtorEq,Nat.reduceAdd,Nat.reduceLeDiff,Int.reduceLT,Int.reduceLE,↓u_setN]
  have hib:i≠b:=fun e=>by subst e;rw [Store.set_same] at hi;cases hi
  rw [Store.set_ne _ _ hib] at hi
  exact qj (A:=[]) (B:=[]) (zp hb hi hib) hi hb (fun e=>hib e.symm) (Store.set_same _ _ _) (by rw [Store.set_ne _ _ (fun e=>hib e.symm),Store.set_same];rfl) hn hn (by simp) fun j2 s2 p1 p2 p3=>hr j2 s2 p1 p2 p3
theorem s40 {τ s:Store} (hτ:Store.sub τ s) (L:List Int) (n:Int) (hL:L.length≤1000000) {v:AV} (ho:Own 1 τ (L.map cU) v s):ACalls Tryz.prog 40 [v,.int .u32 n] s (fun r s'=>Store.sub τ s'∧Own 1 τ ((putL L n).map cU) r s'):=by
 refine zk Tsf.F40 (by simp [Tsf.F40,Fn.mkX]) ?_
 simp only [Tsf.F40,Fn.mkX,Tsf.b40]
 rcases ho with ⟨h0,rfl⟩ | ⟨g,rfl,hgg,hg⟩
 ·have hL0:L=[]:=by simpa using h0
  subst hL0
  simp only [↓vcPre,↓z0,↓reduceIte,vcPost,vcStd,Nat.reduceEqDiff,reduceCtorEq,Nat.reduceAdd,Nat.reduceLeDiff,Int.reduceLT,Int.reduceLE,↓u_setN]
  refine LoopQ.inv (S:=Unit) (fun _=>[(0,.nils),(1,.int .u32 n),(5,.int .i64 0)]) (fun _=>s) (fun _=>True) (fun _=>0) () rfl (Store.sub_refl _) trivial ?_
  intro _ _
  simp only [↓vcPre,↓z0,↓reduceIte,vcPost,vcStd,Nat.reduceEqDiff,reduceCtorEq,Nat.reduceAdd,Nat.reduceLeDiff,Int.reduceLT,Int.reduceLE,↓u_setN]
  refine z6h _ n fun j s' h1 h2 h3 => ?_
  refine EndQ.to s' (.os j 1 0 1) rfl (Store.sub_refl _) ⟨Store.sub_trans hτ h1,.inr ⟨j,rfl,zm hτ h2,h3⟩⟩
 ·simp only [List.length_map]
  simp only [hg,↓vcPre,↓z0,↓reduceIte,vcPost,vcStd,Nat.reduceEqDiff,reduceCtorEq,Nat.reduceAdd,Nat.reduceLeDiff,Int.reduceLT,Int.reduceLE,↓u_setN]
  refine LoopQ.inv (S:=Nat) (fun k=>[(0,.os g 1 0 L.length),(1,.int .u32 n),(5,.int .i64 (k:Int))]) (fun _=>s) (fun k=>k≤L.length∧∀ i (h:i<L.length),i<k→L[i]<n) (fun k=>L.length+1 - k) 0 rfl (Store.sub_refl _) ⟨by omega,fun i _ h=>by omega⟩ ?_
  rintro k ⟨hk,hlt⟩
  simp only [hg,Nat.zero_add,↓vcPre,↓z0,↓reduceIte,vcPost,vcStd,Nat.reduceEqDiff,reduceCtorEq,Nat.reduceAdd,Nat.reduceLeDiff,Int.reduceLT,Int.reduceLE,↓u_setN]
  have ek:IntKind.i64.wrap ((k:Int)+1)=((k+1:Nat):Int):=by rw [zd (by unfold I64;omega)];omega
  have hput:=z47 hk hlt
  have tail:(∀ h:k<L.length,n<L[k])→∀ E,bwp Tryz.prog Tsf.t40_34 ((0,.os g 1 0 L.length)::(1,.int .u32 n)::(5,.int .i64 (k:Int))::E) s (fun e τ' => @EndQ e τ' ⟨Tsf.F40.slots,fun r s'=>Store.sub τ s'∧Own 1 τ ((putL L n).map cU) r s'⟩) (fun e τ' => @EndQ e τ' ⟨Tsf.F40.slots,fun r s'=>Store.sub τ s'∧Own 1 τ ((putL L n).map cU) r s'⟩) fun _ _ _=>False:=fun hkn E=>by
   have hpl:putL L n=L.take k++n::L.drop k:=by
    rw [hput]
    by_cases c1:k<L.length
    ·have:=hkn c1
     rw [List.drop_eq_getElem_cons c1]
     simp only [putL]
     rw [if_neg (by omega),if_neg (by omega)]
    ·rw [List.drop_eq_nil_of_le (by omega)];rfl
   refine z89 E L n k hk hL hg fun j s' h1 h2 h3 => ?_
   refine EndQ.to s' (.os j 1 0 (L.length+1)) rfl (Store.sub_refl _) ⟨Store.sub_trans hτ h1,.inr ⟨j,?_,zm hτ h2,by rw [hpl];exact h3⟩⟩
   rw [hpl];simp;omega
  refine ⟨fun c1=>⟨c1,c1,by simp [cU],?_⟩,fun c1=>⟨fun c2=>absurd c2 c1,fun _=>tail (fun h=>absurd h c1) _⟩⟩
  simp only [cU,↓vcPre,↓z0,↓reduceIte,vcPost,vcStd,Nat.reduceEqDiff,reduceCtorEq,Nat.reduceAdd,Nat.reduceLeDiff,Int.reduceLT,Int.reduceLE,↓u_setN]
  refine ⟨fun g1 => ?_,fun g1=>⟨fun _=>⟨c1,c1,?_⟩,fun c2=>absurd c1 c2⟩⟩
  ·rw [ek]
   refine NextQ.to (k+1) rfl (Store.sub_refl _) (by omega) ⟨by omega,fun i hi hik => ?_⟩
   by_cases hik':i=k
   ·subst hik';exact g1
   ·exact hlt i hi (by omega)
  ·refine ⟨fun g2 => ?_,fun g2=>tail (fun _=>by omega) _⟩
   refine EndQ.to s (.os g 1 0 L.length) rfl (Store.sub_refl _) ⟨hτ,.inr ⟨g,?_,hgg,?_⟩⟩
   ·have hpl:putL L n=L:=by
     rw [hput,List.drop_eq_getElem_cons c1]
     simp only [putL]
     rw [if_neg (by omega),if_pos g2,←List.drop_eq_getElem_cons c1,List.take_append_drop]
    rw [hpl];simp
   ·have hpl:putL L n=L:=by
     rw [hput,List.drop_eq_getElem_cons c1]
     simp only [putL]
     rw [if_neg (by omega),if_pos g2,←List.drop_eq_getElem_cons c1,List.take_append_drop]
    rw [hpl];exact hg
end Go.Am
namespace Go.Am.Tsg
open Go.Proofs Go.Am.B
def t83_3:BC:=z [k 3 .nils] [1,2,3] (.seq (z [j 4 0] [1,2,3,4] (.block 0 (.loop [1,2,3,4] (.seq (z [m 17 4,f 18 8 1,l 19 1 18,u 20 .len 19,b 21 .lss 17 20] [1,2,3,4,21] (.cond (.t 21) .skip (.exit 0))) (.seq (.block 1 (.ops [m 24 3,f 25 8 1,l 26 1 25,m 27 4,x 28 1 26 27,l 29 1 28,g 30 40 [.t 24,.t 29],m 3 30] [1,2,3,4])) (.ops [m 22 4,c 23 .add 22 1,m 4 23] [1,2,3,4])))))) (z [m 31 3,f 32 8 1,s 1 32 31] [1,2] (z [⟨some 33,none,.load (.ld 9 true),[.t 1]⟩,s 9 2 33] [2] .ret)))
def b83:BC:=z [⟨some 1,none,.alloc (.box),[.t 0]⟩,⟨some 2,none,.alloc (.alloc [(.int .i64 0),.nils,(.int .u32 0),(.bool false),(.int .u32 0),(.bool false),(.int .u32 0),(.bool false),.nils]),[]⟩] [1,2] (z [f 5 1 1,l 6 1 5,g 7 146 [.t 6],f 8 1 1,s 1 8 7] [1,2] (.seq (z [f 9 3 1,l 10 1 9,u 11 .not 10] [1,2,11] (.cond (.t 11) (.ops [f 12 4 1,⟨none,none,.loud (.st 1),[.t 12,.c (.int .u32 0)]⟩] [1,2]) .skip)) (.seq (z [f 13 5 1,l 14 1 13,u 15 .not 14] [1,2,15] (.cond (.t 15) (.ops [f 16 6 1,⟨none,none,.loud (.st 1),[.t 16,.c (.int .u32 0)]⟩] [1,2]) .skip)) t83_3)))
def F83:Fn Tryz.prog 83:=Fn.mkX false b83 [.c 2 9 true] 34 Tryz.f83 _ Tryz.func83 (by decide) rfl Tryz.ntmps83 (by kernel_rfl) (by kernel_rfl)
end Go.Am.Tsg
namespace Go.Am
open Go.Proofs Go.Sort
theorem z3p (E:Env) (a:At) (ha:a.ok) {σ t:Store} {i j:Nat} {z:List AV} (hz:z.length=9) (hi:t i=some (.box a.c)) (hj:t j=some (.box z)) (hij:¬ i=j) (hi0:σ i=none) (hj0:σ j=none) (hs:Store.sub σ t) {nn rr:Env→Store→Prop} {x:Nat→Env→Store→Prop}
 (hr:∀ v s',Store.sub σ s'→Own 1 σ ((canonC a.cms).map cU) v s'→s' j=some (.box (a.cO v))→rr [(2,.ptr j 0)] s') :
 bwp Tryz.prog Tsg.t83_3 ((1,.ptr i 0)::(2,.ptr j 0)::E) t nn rr x:=by
 simp only [Tsg.t83_3]
 have hji:¬ j=i:=fun e=>hij e.symm
 have hcm:a.cms.length≤1000000:=ha.2.2
 simp only [↓vcPre,↓z0,↓reduceIte,vcPost,vcStd,Nat.reduceEqDiff,reduceCtorEq,Nat.reduceAdd,Nat.reduceLeDiff,Int.reduceLT,Int.reduceLE,↓u_setN]
 refine LoopQ.inv (S:=Nat×AV×Store) (fun q=>[(1,.ptr i 0),(2,.ptr j 0),(3,q.2.1),(4,.int .i64 (q.1:Int))]) (fun q=>q.2.2) (fun q=>q.1≤a.cms.length∧Store.sub t q.2.2∧Own 1 t (((a.cms.take q.1).foldl putL []).map cU) q.2.1 q.2.2) (fun q=>a.cms.length+1 - q.1) (0,.nils,t) rfl (Store.sub_refl _) ⟨by simp only;omega,Store.sub_refl _,.nil⟩ ?_
 rintro ⟨k,v,s⟩ ⟨hk,hts,ho⟩
 simp only at hk hts ho
 have hsi:=hts _ _ hi
 have hsj:=hts _ _ hj
 simp only [hsi,At.c,↓vcPre,↓z0,↓reduceIte,vcPost,vcStd,Nat.reduceEqDiff,reduceCtorEq,Nat.reduceAdd,Nat.reduceLeDiff,Int.reduceLT,Int.reduceLE,↓u_setN]
 refine ⟨fun c1 => ?_,fun c1 => ?_⟩
 ·have ek:IntKind.i64.wrap ((k:Int)+1)=((k+1:Nat):Int):=by rw [zd (by unfold I64;omega)];omega
  refine ⟨c1,by simp [cU],?_⟩
  simp only [cU,↓vcPre,↓z0,↓reduceIte,vcPost,vcStd,Nat.reduceEqDiff,reduceCtorEq,Nat.reduceAdd,Nat.reduceLeDiff,Int.reduceLT,Int.reduceLE,↓u_setN]
  have hfl:∀ (l:List Int) (b:List Int),(l.foldl putL b).length≤b.length+l.length:=by
   intro l
   induction l with
   | nil=>intro b;simp
   | cons y r ih=>intro b;have h1:=ih (putL b y);have h2:=z0b b y;simp only [List.foldl_cons,List.length_cons];omega
  have hlen:=hfl (a.cms.take k) []
  simp only [List.length_take,List.length_nil] at hlen
  refine (s40 hts ((a.cms.take k).foldl putL []) a.cms[k] (by omega) ho).Q ?_
  rintro r s' ⟨h1,h2⟩
  simp only [↓vcPre,↓z0,↓reduceIte,vcPost,vcStd,Nat.reduceEqDiff,reduceCtorEq,Nat.reduceAdd,Nat.reduceLeDiff,Int.reduceLT,Int.reduceLE,↓u_setN]
  rw [ek]
  refine NextQ.to (k+1,r,s') rfl (Store.sub_refl _) (by simp only;omega) ⟨by simp only;omega,h1,?_⟩
  simp only
  rw [vn putL [] c1]
  exact h2
 ·have hkl:a.cms.take k=a.cms:=List.take_of_length_le (by omega)
  rw [hkl,z3h] at ho
  have hv:v.isTup=false∧v.cells=[v]:=by
   rcases ho with ⟨_,rfl⟩ | ⟨g,rfl,_,_⟩ <;> exact ⟨rfl,rfl⟩
  simp only [hv.1,hv.2,hsi,hsj,hij,hji,At.c,hz,↓vcPre,↓z0,↓reduceIte,vcPost,vcStd,Nat.reduceEqDiff,reduceCtorEq,Nat.reduceAdd,Nat.reduceLeDiff,Int.reduceLT,Int.reduceLE,↓u_setN]
  rw [x7 _ _ (by simp [hz]),yf]
  refine hr v _ (za (za (Store.sub_trans hs hts) hi0) hj0) ?_ (Store.set_same _ _ _)
  rcases ho.weak hs with h | ⟨g,h1,h2,h3⟩
  ·exact .inl h
  ·refine .inr ⟨g,h1,h2,?_⟩
   have hgi:¬ g=i:=fun e=>by rw [e,hsi] at h3;cases h3
   have hgj:¬ g=j:=fun e=>by rw [e,hsj] at h3;cases h3
   rw [Store.set_ne _ _ hgj,Store.set_ne _ _ hgi];exact h3
theorem s83 (a:At) (ha:a.ok) {σ:Store} {Q:AV→Store→Prop} (hQ:∀ v s',Store.sub σ s'→Own 1 σ ((canonC a.cms).map cU) v s'→Weak (.agg ((canonA a).cO v)) s' Q):ACalls Tryz.prog 83 [.agg a.c] σ Q:=by
 refine zk Tsg.F83 (by simp [Tsg.F83,Fn.mkX]) ?_
 simp only [Tsg.F83,Fn.mkX,Tsg.b83]
 simp only [At.c,↓vcPre,↓z0,↓reduceIte,vcPost,vcStd,Nat.reduceEqDiff,reduceCtorEq,Nat.reduceAdd,Nat.reduceLeDiff,Int.reduceLT,Int.reduceLE,↓u_setN]
 refine AllocQ.i0 fun i hi => ?_
 simp only [At.c,↓vcPre,↓z0,↓reduceIte,vcPost,vcStd,Nat.reduceEqDiff,reduceCtorEq,Nat.reduceAdd,Nat.reduceLeDiff,Int.reduceLT,Int.reduceLE,↓u_setN]
 refine AllocQ.i1 fun j hj1 hj2 hj => ?_
 simp only [hj1,hj2,↓vcPre,↓z0,↓reduceIte,vcPost,vcStd,Nat.reduceEqDiff,reduceCtorEq,Nat.reduceAdd,Nat.reduceLeDiff,Int.reduceLT,Int.reduceLE,↓u_setN]
 refine (zfp _ ha.1 ha.2.1).Q ?_
 simp only [hj1,hj2,↓vcPre,↓z0,↓reduceIte,vcPost,vcStd,Nat.reduceEqDiff,reduceCtorEq,Nat.reduceAdd,Nat.reduceLeDiff,Int.reduceLT,Int.reduceLE,↓u_setN]
 have key:∀ (E:Env) (t:Store) (z:List AV) (x:Nat→Env→Store→Prop) (n:Env→Store→Prop) (m p:Int),z.length=9→t i=some (.box ({ a with med:=m,prf:=p }:At).c)→t j=some (.box z)→Store.sub σ t→(if a.hm then a.med else 0)=m→(if a.hp then a.prf else 0)=p →
  bwp Tryz.prog Tsg.t83_3 ((1,.ptr i 0)::(2,.ptr j 0)::E) t n (fun e s => @EndQ e s ⟨Tsg.F83.slots,Q⟩) x:=by
  intro E t z x n m p hz h1 h2 h3 rfl rfl
  refine z3p E { a with med:=(if a.hm then a.med else 0),prf:=(if a.hp then a.prf else 0) } ha hz h1 h2 hj2 hi hj h3 ?_
  intro v s' q1 q2 q3
  unfold EndQ
  refine ⟨_,?_,hQ v s' q1 q2⟩
  show Env.res [(2,AV.ptr j 0)] s' [RS.c 2 9 true]=_
  have e9:∀ x:At,(x.cO v).length=9:=fun _=>rfl
  have t9:∀ x:At,List.take 9 (x.cO v)=x.cO v:=fun _=>rfl
  simp only [q3,e9,t9,Nat.le_refl,↓vcPre,↓z0,↓reduceIte,vcPost,vcStd,Nat.reduceEqDiff,reduceCtorEq,Nat.reduceAdd,Nat.reduceLeDiff,Int.reduceLT,Int.reduceLE,↓u_setN]
  rfl
 cases hm:a.hm <;> cases hp:a.hp
 all_goals simp only [↓vcPre,↓z0,↓reduceIte,vcPost,vcStd,Nat.reduceEqDiff,reduceCtorEq,Nat.reduceAdd,Nat.reduceLeDiff,Int.reduceLT,Int.reduceLE,↓u_setN]
 all_goals
  refine key _ _ zCells _ _ (if a.hm then a.med else 0) (if a.hp then a.prf else 0) rfl ?_ ?_ ?_ rfl rfl
  ·rw [Store.set_same];simp [At.c,hm,hp]
  ·simp only [Store.set_ne _ _ hj1,Store.set_same];rfl
  ·first
    | exact za (za (za (zp hi hj hj1) hi) hi) hi
    | exact za (za (zp hi hj hj1) hi) hi
    | exact za (zp hi hj hj1) hi
theorem c83 (a:At) (ha:a.ok):Pur Tryz.prog 83 [.agg a.c] (.agg (canonA a).c):=fun σ =>
 s83 a ha fun v s' hs ho=>by
  rcases ho with ⟨h0,rfl⟩ | ⟨g,rfl,hg,hh⟩
  ·have h0':canonC a.cms=[]:=by simpa using h0
   refine Weak.agg (WeakL.nil 8 1 rfl (WeakL.forget hs (WeakL.pure ⟨?_,rfl,?_⟩)))
   ·intro c hc
    simp [At.cO] at hc
    rcases hc with rfl | rfl | rfl | rfl | rfl | rfl | rfl | rfl | rfl <;> rfl
   ·simp [At.cO,At.c,canonA,h0']
  ·refine Weak.agg (WeakL.freeze 8 rfl hh (by simp) (WeakL.forget (fun i o hi => ?_) (WeakL.pure ⟨?_,rfl,?_⟩)))
   ·rw [Store.del_ne _ (fun e=>by subst e;rw [hg] at hi;cases hi)];exact hs i o hi
   ·intro c hc
    simp [At.cO] at hc
    rcases hc with rfl | rfl | rfl | rfl | rfl | rfl | rfl | rfl | rfl <;> rfl
   ·have:List.take (canonC a.cms).length ((canonC a.cms).map cU)=(canonC a.cms).map cU:=List.take_of_length_le (by simp)
    simp [At.cO,At.c,canonA,this]
end Go.Am
namespace Go.Am
open Go.Proofs Go.Sort
theorem c92 (b:Bool):Pur Tryz.prog 92 [.bool b] (.int .i64 (sideF b)):=by
 refine zn Tst.F92 (by simp [Tst.F92,Fn.mkX]) fun σ => ?_
 simp only [Tst.F92,Fn.mkX,Tst.b92]
 cases b <;> simp only [↓vcPre,↓z0,↓reduceIte,vcPost,vcStd,Nat.reduceEqDiff,reduceCtorEq,Nat.reduceAdd,Nat.reduceLeDiff,Int.reduceLT,Int.reduceLE,↓u_setN] <;> rfl
theorem z75 {x y:Bool} (h:x≠y):(x != y)=true:=by cases x <;> cases y <;> simp_all
theorem z74 {x y:Bool} (h:x=y):(x != y)=false:=by cases x <;> cases y <;> simp_all
end Go.Am
namespace Go.Am
structure PO {α:Type} (f:α→α→Int):Prop where
 anti:∀ a b,f b a<0↔0<f a b
 tr:∀ a b c,f a b≤0→f b c≤0→f a c≤0
theorem PO.z {α:Type} {f:α→α→Int} (h:PO f) {a b:α} (e:f a b=0):f b a=0:=by
 have h1:=h.anti a b;have h2:=h.anti b a;omega
theorem PO.lt {α:Type} {f:α→α→Int} (h:PO f) {a b c:α} (h1:f a b<0) (h2:f b c≤0):f a c<0:=by
 apply Classical.byContradiction;intro hn
 have a1:=h.anti a c;have a2:=h.anti c a;have a3:=h.anti a b;have a4:=h.anti b a
 have:=h.tr b c a h2 (by omega)
 omega
theorem PO.lt' {α:Type} {f:α→α→Int} (h:PO f) {a b c:α} (h1:f a b≤0) (h2:f b c<0):f a c<0:=by
 apply Classical.byContradiction;intro hn
 have a1:=h.anti a c;have a2:=h.anti c a;have a3:=h.anti b c;have a4:=h.anti c b
 have:=h.tr c a b (by omega) h1
 omega
def lex {α:Type} (f g:α→α→Int) (a b:α):Int:=if f a b=0 then g a b else f a b
theorem PO.lex {α:Type} {f g:α→α→Int} (hf:PO f) (hg:PO g):PO (lex f g) where
 anti a b:=by
  have h1:=hf.anti a b;have h2:=hf.anti b a;have h3:=hg.anti a b
  unfold Am.lex
  by_cases e:f a b=0
  ·rw [if_pos e,if_pos (hf.z e)];exact h3
  ·rw [if_neg e,if_neg (fun e'=>e (hf.z e'))];exact h1
 tr a b c:=by
  unfold Am.lex
  intro h1 h2
  by_cases e1:f a b=0 <;> by_cases e2:f b c=0
  ·rw [if_pos e1] at h1;rw [if_pos e2] at h2
   have h3:=hf.tr a b c (by omega) (by omega)
   have h4:=hf.tr c b a (by rw [hf.z e2];omega) (by rw [hf.z e1];omega)
   have h5:=hf.anti a c;have h6:=hf.anti c a
   rw [if_pos (by omega)];exact hg.tr a b c h1 h2
  ·rw [if_neg e2] at h2
   have:=hf.lt' (a:=a) (b:=b) (c:=c) (by omega) (by omega)
   rw [if_neg (by omega)];omega
  ·rw [if_neg e1] at h1
   have:=hf.lt (a:=a) (b:=b) (c:=c) (by omega) (by omega)
   rw [if_neg (by omega)];omega
  ·rw [if_neg e1] at h1;rw [if_neg e2] at h2
   have:=hf.lt (a:=a) (b:=b) (c:=c) (by omega) (by omega)
   rw [if_neg (by omega)];omega
theorem PO.key {α β:Type} {f:β→β→Int} (k:α→β) (h:PO f):PO fun a b=>f (k a) (k b):=⟨fun _ _=>h.anti _ _,fun _ _ _=>h.tr _ _ _⟩
theorem PO.cmpI:PO cmpI:=⟨fun a b=>by unfold Am.cmpI;split <;> split <;> (try split) <;> (try split) <;> omega,fun a b c=>by unfold Am.cmpI;split <;> split <;> (try split) <;> (try split) <;> (try split) <;> omega⟩
theorem PO.truth:PO fun a b:Bool=>IntKind.i64.wrap (truthF a - truthF b):=⟨by decide,by decide⟩
theorem PO.zero {α:Type}:PO fun _ _:α=>(0:Int):=⟨fun _ _=>by omega,fun _ _ _ _ _=>by omega⟩
theorem PO.list {α:Type} {f:α→α→Int} (h:PO f):PO (cmpG f) where
 anti:=by
  intro a
  induction a with
  | nil=>intro b;cases b <;> simp [cmpG]
  | cons x r ih =>
    intro b
    cases b with
    | nil=>simp [cmpG]
    | cons y s =>
      have h1:=h.anti x y;have h2:=h.anti y x
      simp only [cmpG]
      by_cases e:f x y=0
      ·rw [if_pos e,if_pos (h.z e)];exact ih s
      ·rw [if_neg e,if_neg (fun e'=>e (h.z e'))];exact h1
 tr:=by
  intro a
  induction a with
  | nil=>intro b c _ _;cases c <;> simp [cmpG]
  | cons x r ih =>
    intro b c
    cases b with
    | nil=>intro h1;simp [cmpG] at h1
    | cons y s =>
      cases c with
      | nil=>intro _ h2;simp [cmpG] at h2
      | cons z t =>
        simp only [cmpG]
        intro h1 h2
        by_cases e1:f x y=0 <;> by_cases e2:f y z=0
        ·rw [if_pos e1] at h1;rw [if_pos e2] at h2
         have h3:=h.tr x y z (by omega) (by omega)
         have h4:=h.tr z y x (by rw [h.z e2];omega) (by rw [h.z e1];omega)
         have h5:=h.anti x z;have h6:=h.anti z x
         rw [if_pos (by omega)];exact ih s t h1 h2
        ·rw [if_neg e2] at h2
         have:=h.lt' (a:=x) (b:=y) (c:=z) (by omega) (by omega)
         rw [if_neg (by omega)];omega
        ·rw [if_neg e1] at h1
         have:=h.lt (a:=x) (b:=y) (c:=z) (by omega) (by omega)
         rw [if_neg (by omega)];omega
        ·rw [if_neg e1] at h1;rw [if_neg e2] at h2
         have:=h.lt (a:=x) (b:=y) (c:=z) (by omega) (by omega)
         rw [if_neg (by omega)];omega
theorem PO.congr {α:Type} {f g:α→α→Int} (h:PO f) (e:∀ a b,g a b=f a b):PO g:=⟨fun a b=>by rw [e,e];exact h.anti a b,fun a b c=>by rw [e,e,e];exact h.tr a b c⟩
theorem PO.seg:PO cmpSeg:=by
 refine (PO.lex (PO.key Seg.kind PO.cmpI) (PO.lex (PO.key (fun s:Seg=>(s.ls.length:Int)) PO.cmpI) (PO.lex (PO.key Seg.ls PO.cmpI.list) PO.zero))).congr fun a b => ?_
 simp only [cmpSeg,orL];rfl
theorem PO.path:PO cmpPath:=PO.seg.list
theorem PO.at:PO cmpAs:=by
 refine (PO.lex (PO.key At.org PO.cmpI) (PO.lex (PO.key At.path PO.path) (PO.lex (PO.key At.nxt PO.cmpI) (PO.lex (PO.key At.hm PO.truth) (PO.lex (PO.key At.med PO.cmpI) (PO.lex (PO.key At.hp PO.truth) (PO.lex (PO.key At.prf PO.cmpI) (PO.lex (PO.key At.atm PO.truth) (PO.lex (PO.key At.cms PO.cmpI.list) PO.zero))))))))).congr fun a b => ?_
 simp only [cmpAs,orL];rfl
end Go.Am
namespace Go.Am
def b4 (n:Int):List Int:=[n / 16777216 % 256,n / 65536 % 256,n / 256 % 256,n % 256]
def encW (l:List Int):List Int:=l.flatMap b4
theorem yi (l:List Int):(encW l).length=4*l.length:=by
 induction l with
 | nil=>rfl
 | cons x r ih=>simp only [encW,List.flatMap_cons,List.length_append] at *;rw [ih];simp [b4];omega
def encSeg (s:Seg):List Int:=[s.kind % 256,(s.ls.length:Int) % 256]++encW s.ls
def encPath (l:List Seg):List Int:=l.flatMap encSeg
def segRight (s:Seg):Prop:=(s.kind=1∨s.kind=2)∧1≤s.ls.length∧s.ls.length≤255
instance (s:Seg):Decidable (segRight s):=inferInstanceAs (Decidable (_∧_∧_))
def pathRight (l:List Seg):Prop:=(∀ s ∈ l,segRight s)∧l.length≤16
instance (l:List Seg):Decidable (pathRight l):=inferInstanceAs (Decidable (_∧_))
def oneA (fl kind:Int) (v:List Int):List Int :=
 (if 255<v.length then [fl+16,kind,(v.length:Int) / 256 % 256,(v.length:Int) % 256] else [fl,kind,(v.length:Int)])++v
def encA (a:At):List Int :=
 oneA 64 1 [a.org % 256]++oneA 64 2 (encPath a.path)++oneA 64 3 (b4 a.nxt)++(if a.hm then oneA 128 4 (b4 a.med) else [])++(if a.hp then oneA 64 5 (b4 a.prf) else []) ++
  (if a.atm then oneA 64 6 [] else [])++(if a.cms=[] then [] else oneA 192 8 (encW a.cms))
def goodN (n:Int):Prop:=n / 16777216≠0∧n / 16777216≠127∧n / 16777216<224
instance (n:Int):Decidable (goodN n):=inferInstanceAs (Decidable (_∧_∧_))
def atRight (a:At):Prop:=(0≤a.org∧a.org≤2)∧pathRight a.path∧goodN a.nxt∧(a.hm=false→a.med=0)∧(a.hp=false→a.prf=0)∧a.cms.length≤32∧Inc a.cms
def wantOf (k:Int):Int:=if k=1∨k=2∨k=3∨k=5∨k=6 then 64 else if k=4 then 128 else if k=8 then 192 else 0
def fitsOf (k:Int) (n:Nat):Prop:=(k=1→n=1)∧(k=3∨k=4∨k=5→n=4)∧(k=6→n=0)∧(k=8→n % 4=0)
instance (k:Int) (n:Nat):Decidable (fitsOf k n):=inferInstanceAs (Decidable (_∧_∧_∧_))
end Go.Am
namespace Go.Am
open Go.Proofs Go.Sort
def cB (n:Int):List AV:=[.int .u8 n]
def WI (τ:Store) (id:Nat) (L:List Int) (s:Store):Prop:=τ id=none∧Store.sub τ s∧∃ v,s id=some (.box [v])∧Own 1 τ (L.map cB) v s
theorem WI.mono {τ s s':Store} {id:Nat} {L:List Int} (h:WI τ id L s) (hs:Store.sub s s'):WI τ id L s':=by
 obtain ⟨h1,h2,v,h3,h4⟩:=h
 exact ⟨h1,Store.sub_trans h2 hs,v,hs _ _ h3,h4.mono hs⟩
theorem z81 (σ:Store):ACalls Tryz.prog 106 [] σ (fun r s=>∃ id,r = .ptr id 0∧WI σ id [] s):=by
 refine zk Tst.F106 (by simp [Tst.F106,Fn.mkX]) ?_
 simp only [Tst.F106,Fn.mkX,Tst.b106]
 simp only [↓vcPre,↓z0,↓reduceIte,vcPost,vcStd,Nat.reduceEqDiff,reduceCtorEq,Nat.reduceAdd,Nat.reduceLeDiff,Int.reduceLT,Int.reduceLE,↓u_setN]
 refine AllocQ.i0 fun id hid => ?_
 simp only [↓vcPre,↓z0,↓reduceIte,vcPost,vcStd,Nat.reduceEqDiff,reduceCtorEq,Nat.reduceAdd,Nat.reduceLeDiff,Int.reduceLT,Int.reduceLE,↓u_setN]
 exact EndQ.to _ _ rfl (Store.sub_refl _) ⟨id,rfl,hid,Store.sub_set _ _ _ hid,.nils,Store.set_same _ _ _,.nil⟩
theorem WI.app1 {τ s:Store} {id b:Nat} {L:List Int} {x:Int} {v:AV} {K:AV→Store→Prop} (h1:τ id=none) (h2:Store.sub τ s) (h3:s id=some (.box [v])) (h4:Own 1 τ (L.map cB) v s) (hL:L.length≤100000000) (hb:s b=none)
 (h:∀ v' s',s' id=some (.box [v])→Own 1 τ ((L++[x]).map cB) v' s'→Store.sub τ s'→K v' s'):appwp 1 1 v (.os b 1 0 1) (s.set b (.arr 1 [cB x])) K:=by
 have hbi:¬ id=b:=fun e=>by subst e;rw [h3] at hb;cases hb
 have hsb:=Store.sub_set s b (.arr 1 [cB x]) hb
 obtain ⟨τ0,q1,q2,q3,q4⟩:∃ τ0,Store.sub τ τ0∧Store.sub τ0 s∧τ0 id=some (.box [v])∧Own 1 τ0 (L.map cB) v s:=by
  rcases h4 with ⟨hk,hv⟩ | ⟨g,hv,hg,hs⟩
  ·exact ⟨s,h2,Store.sub_refl _,h3,.inl ⟨hk,hv⟩⟩
  ·have hgi:¬ id=g:=fun e=>by subst e;rw [hs] at h3;cases h3
   exact ⟨s.del g,sub_del h2 hg,z0g _ _,by rw [Store.del_ne _ hgi];exact h3,.inr ⟨g,hv,by simp,hs⟩⟩
 refine Own.app (τ:=τ0) (Store.sub_trans q2 hsb) (q4.mono hsb) (zq (Store.set_same _ _ _) rfl) (by simp;omega) fun v' s' hs' ho' => ?_
 refine h v' s' (hs' _ _ q3) ?_ (Store.sub_trans q1 hs')
 rw [List.map_append];exact ho'.weak q1
theorem Own.setId {esz:Nat} {τ s:Store} {L:List (List AV)} {v:AV} {id:Nat} {o o':Obj} (h:Own esz τ L v s) (hid:s id=some o) (ho:∀ M,o ≠ .arr esz M):Own esz τ L v (s.set id o'):=by
 rcases h with h | ⟨g,h1,h2,h3⟩
 ·exact .inl h
 ·have hgi:¬ g=id:=fun e=>by rw [e,hid] at h3;cases h3;exact ho _ rfl
  exact .inr ⟨g,h1,h2,by rw [Store.set_ne _ _ hgi];exact h3⟩
theorem Own.cell {esz:Nat} {τ s:Store} {L:List (List AV)} {v:AV} (h:Own esz τ L v s):v.isTup=false∧v.cells=[v]:=by
 rcases h with ⟨_,rfl⟩ | ⟨g,rfl,_⟩ <;> exact ⟨rfl,rfl⟩
def beN:Nat→Int→List Int
 | 0,_=>[]
 | k+1,n=>IntKind.u8.wrap (shrInt .u64 n (8*(k:Int)))::beN k n
theorem z82 {τ s:Store} {id:Nat} {L:List Int} (h:WI τ id L s) (hL:L.length≤10000000) (n:Int) (k:Nat) (hk:k≤8):ACalls Tryz.prog 163 [.ptr id 0,.int .u64 n,.int .i64 (k:Int)] s (fun r s'=>r = .tup []∧WI τ id (L++beN k n) s'):=by
 refine zk Tst.F163 (by simp [Tst.F163,Fn.mkX]) ?_
 simp only [Tst.F163,Fn.mkX,Tst.b163]
 simp only [↓vcPre,↓z0,↓reduceIte,vcPost,vcStd,Nat.reduceEqDiff,reduceCtorEq,Nat.reduceAdd,Nat.reduceLeDiff,Int.reduceLT,Int.reduceLE,↓u_setN]
 have em:IntKind.i64.wrap ((k:Int) - 1)=(k:Int) - 1:=zd (by unfold I64;omega)
 rw [em]
 refine LoopQ.inv (S:=Nat×List Int×Store) (fun q=>[(0,.ptr id 0),(1,.int .u64 n),(6,.int .i64 ((q.1:Int) - 1))]) (fun q=>q.2.2) (fun q=>q.1≤k∧q.2.1.length+q.1≤10000008∧q.2.1++beN q.1 n=L++beN k n∧WI τ id q.2.1 q.2.2) (fun q=>q.1) (k,L,s) rfl (Store.sub_refl _) ⟨Nat.le_refl _,by simp only;omega,rfl,h⟩ ?_
 rintro ⟨j,M,s⟩ ⟨hj,hM,hE,hW⟩
 simp only at hj hM hE hW
 obtain ⟨h1,h2,v,h3,h4⟩:=hW
 simp only [↓vcPre,↓z0,↓reduceIte,vcPost,vcStd,Nat.reduceEqDiff,reduceCtorEq,Nat.reduceAdd,Nat.reduceLeDiff,Int.reduceLT,Int.reduceLE,↓u_setN]
 refine ⟨fun c1 => ?_,fun c1 => ?_⟩
 ·obtain ⟨m,rfl⟩:∃ m,j=m+1:=⟨j - 1,by omega⟩
  have e1:((m+1:Nat):Int) - 1=m:=by omega
  have e2:IntKind.i64.wrap ((m:Int) - 1)=(m:Int) - 1:=zd (by unfold I64;omega)
  have e3:IntKind.i64.wrap (8*(m:Int))=8*(m:Int):=zd (by unfold I64;omega)
  rw [e1,e3]
  simp only [h3,↓vcPre,↓z0,↓reduceIte,vcPost,vcStd,Nat.reduceEqDiff,reduceCtorEq,Nat.reduceAdd,Nat.reduceLeDiff,Int.reduceLT,Int.reduceLE,↓u_setN]
  refine ⟨by omega,AllocQ.i0 fun b hb => ?_⟩
  simp only [↓vcPre,↓z0,↓reduceIte,vcPost,vcStd,Nat.reduceEqDiff,reduceCtorEq,Nat.reduceAdd,Nat.reduceLeDiff,Int.reduceLT,Int.reduceLE,↓u_setN]
  refine WI.app1 h1 h2 h3 h4 (by omega) hb fun v' s' g1 g2 g3 => ?_
  have hv:=g2.cell
  simp only [g1,hv.1,hv.2,↓vcPre,↓z0,↓reduceIte,vcPost,vcStd,Nat.reduceEqDiff,reduceCtorEq,Nat.reduceAdd,Nat.reduceLeDiff,Int.reduceLT,Int.reduceLE,↓u_setN]
  refine NextQ.to (m,M++[IntKind.u8.wrap (shrInt .u64 n (8*(m:Int)))],s'.set id (.box [v'])) (by rw [e2]) (Store.sub_refl _) (by simp only;omega) ⟨by simp only;omega,by simp;omega,?_,h1,za g3 h1,v',Store.set_same _ _ _,g2.setId g1 (fun M h=>by cases h)⟩
  simp only [beN] at hE
  simp only [List.append_assoc,List.cons_append,List.nil_append]
  exact hE
 ·have hj0:j=0:=by omega
  subst hj0
  simp only [beN,List.append_nil] at hE
  exact EndQ.to _ _ rfl (Store.sub_refl _) ⟨rfl,by rw [←hE];exact ⟨h1,h2,v,h3,h4⟩⟩
theorem z0c {τ s:Store} {id:Nat} {L:List Int} (h:WI τ id L s) (hL:L.length≤10000000) (n:Int):ACalls Tryz.prog 107 [.ptr id 0,.int .i64 n] s (fun r s'=>r = .tup []∧WI τ id (L++beN 1 (IntKind.u64.wrap n)) s'):=by
 refine zk Tst.F107 (by simp [Tst.F107,Fn.mkX]) ?_
 simp only [Tst.F107,Fn.mkX,Tst.b107]
 simp only [↓vcPre,↓z0,↓reduceIte,vcPost,vcStd,Nat.reduceEqDiff,reduceCtorEq,Nat.reduceAdd,Nat.reduceLeDiff,Int.reduceLT,Int.reduceLE,↓u_setN]
 refine (z82 h hL _ 1 (by omega)).Q ?_
 rintro r s' ⟨rfl,h'⟩
 simp only [↓vcPre,↓z0,↓reduceIte,vcPost,vcStd,Nat.reduceEqDiff,reduceCtorEq,Nat.reduceAdd,Nat.reduceLeDiff,Int.reduceLT,Int.reduceLE,↓u_setN]
 exact EndQ.to _ _ rfl (Store.sub_refl _) ⟨rfl,h'⟩
theorem zgc {τ s:Store} {id:Nat} {L:List Int} (h:WI τ id L s) (hL:L.length≤10000000) (n:Int):ACalls Tryz.prog 108 [.ptr id 0,.int .i64 n] s (fun r s'=>r = .tup []∧WI τ id (L++beN 2 (IntKind.u64.wrap n)) s'):=by
 refine zk Tst.F108 (by simp [Tst.F108,Fn.mkX]) ?_
 simp only [Tst.F108,Fn.mkX,Tst.b108]
 simp only [↓vcPre,↓z0,↓reduceIte,vcPost,vcStd,Nat.reduceEqDiff,reduceCtorEq,Nat.reduceAdd,Nat.reduceLeDiff,Int.reduceLT,Int.reduceLE,↓u_setN]
 refine (z82 h hL _ 2 (by omega)).Q ?_
 rintro r s' ⟨rfl,h'⟩
 simp only [↓vcPre,↓z0,↓reduceIte,vcPost,vcStd,Nat.reduceEqDiff,reduceCtorEq,Nat.reduceAdd,Nat.reduceLeDiff,Int.reduceLT,Int.reduceLE,↓u_setN]
 exact EndQ.to _ _ rfl (Store.sub_refl _) ⟨rfl,h'⟩
theorem zbv {τ s:Store} {id:Nat} {L:List Int} (h:WI τ id L s) (hL:L.length≤10000000) (n:Int):ACalls Tryz.prog 109 [.ptr id 0,.int .u32 n] s (fun r s'=>r = .tup []∧WI τ id (L++beN 4 (IntKind.u64.wrap n)) s'):=by
 refine zk Tst.F109 (by simp [Tst.F109,Fn.mkX]) ?_
 simp only [Tst.F109,Fn.mkX,Tst.b109]
 simp only [↓vcPre,↓z0,↓reduceIte,vcPost,vcStd,Nat.reduceEqDiff,reduceCtorEq,Nat.reduceAdd,Nat.reduceLeDiff,Int.reduceLT,Int.reduceLE,↓u_setN]
 refine (z82 h hL _ 4 (by omega)).Q ?_
 rintro r s' ⟨rfl,h'⟩
 simp only [↓vcPre,↓z0,↓reduceIte,vcPost,vcStd,Nat.reduceEqDiff,reduceCtorEq,Nat.reduceAdd,Nat.reduceLeDiff,Int.reduceLT,Int.reduceLE,↓u_setN]
 exact EndQ.to _ _ rfl (Store.sub_refl _) ⟨rfl,h'⟩
theorem u8w (n:Int):IntKind.u8.wrap n=n % 256:=by simp [IntKind.wrap,IntKind.bits,IntKind.signed]
theorem z8h (n:Int):IntKind.u64.wrap n=n % 18446744073709551616:=by simp [IntKind.wrap,IntKind.bits,IntKind.signed]
theorem be1 (n:Int):beN 1 (IntKind.u64.wrap n)=[n % 256]:=by
 simp [beN,u8w,z8h,shrInt,IntKind.bits]
theorem be2 (n:Int):beN 2 (IntKind.u64.wrap n)=[n / 256 % 256,n % 256]:=by
 have e1:∀ x:Int,x.fdiv 256=x / 256:=fun x=>Int.fdiv_eq_ediv_of_nonneg _ (by omega)
 simp [beN,u8w,z8h,shrInt,IntKind.bits,e1];omega
theorem be4 (n:Int):beN 4 (IntKind.u64.wrap n)=b4 n:=by
 have e1:∀ x:Int,x.fdiv 256=x / 256:=fun x=>Int.fdiv_eq_ediv_of_nonneg _ (by omega)
 have e2:∀ x:Int,x.fdiv 65536=x / 65536:=fun x=>Int.fdiv_eq_ediv_of_nonneg _ (by omega)
 have e3:∀ x:Int,x.fdiv 16777216=x / 16777216:=fun x=>Int.fdiv_eq_ediv_of_nonneg _ (by omega)
 simp [beN,u8w,z8h,shrInt,IntKind.bits,b4,e1,e2,e3];omega
def Rd (esz:Nat) (τ:Store) (L:List (List AV)) (v:AV):Prop:=(∀ t,Store.sub τ t→slc t esz v=some L)∧pv .len [v]=some (.int .i64 L.length)
theorem Rd.mono {esz:Nat} {τ τ':Store} {L:List (List AV)} {v:AV} (h:Rd esz τ L v) (hs:Store.sub τ τ'):Rd esz τ' L v:=⟨fun t ht=>h.1 t (Store.sub_trans hs ht),h.2⟩
theorem Rd.sl {esz:Nat} {τ:Store} {L:List (List AV)}:Rd esz τ L (.sl esz L):=⟨fun _ _=>yw,by simp [pv,pLen]⟩
theorem Rd.nils {esz:Nat} {τ:Store}:Rd esz τ [] .nils:=⟨fun _ _=>rfl,rfl⟩
theorem Rd.os {esz g:Nat} {τ:Store} {L:List (List AV)} (h:τ g=some (.arr esz L)):Rd esz τ L (.os g esz 0 L.length):=⟨fun t ht=>zq (ht _ _ h) rfl,by simp [pv,pLen]⟩
theorem Rd.own {esz:Nat} {τ s:Store} {L:List (List AV)} {v:AV} (h:Own esz τ L v s):Rd esz s L v:=by
 rcases h with ⟨rfl,rfl⟩ | ⟨g,rfl,_,h⟩
 ·exact Rd.nils
 ·exact Rd.os h
theorem Own.appM {esz bytes:Nat} {τ s:Store} {L ys:List (List AV)} {v wv:AV} {K:AV→Store→Prop} (hsub:Store.sub τ s) (ho:Own esz τ L v s) (hw:slc s esz wv=some ys) (hsz:(L.length+ys.length)*bytes≤140737488355328)
 (h:∀ v' s',Store.sub τ s'→Own esz τ (L++ys) v' s'→K v' s'):appwp esz bytes v wv s K:=by
 rcases ho with ⟨rfl,rfl⟩ | ⟨g,rfl,hg,hs⟩
 ·refine qk hw (by simpa using hsz) (fun h0 => ?_) (fun _ j hj => ?_)
  ·exact h _ _ hsub (.inl ⟨by simpa using h0,rfl⟩)
  ·exact h _ _ (za hsub (zm hsub hj)) (.inr ⟨j,rfl,zm hsub hj,Store.set_same _ _ _⟩)
 ·refine yg (zq hs rfl) hw hsz fun j hj => ?_
  have hτ:τ j=none:=zm hsub hj
  refine h _ _ (fun x q hx => ?_) (.inr ⟨j,by simp,hτ,by rw [Store.set_same]⟩)
  have hxj:x≠j:=fun e=>by subst e;rw [hτ] at hx;cases hx
  have hxg:x≠g:=fun e=>by subst e;rw [hg] at hx;cases hx
  rw [Store.set_ne _ _ hxj,Store.del_ne _ hxg];exact hsub x q hx
theorem WI.appM {τ s:Store} {id:Nat} {L:List Int} {ys:List (List AV)} {v wv:AV} {K:AV→Store→Prop} (h1:τ id=none) (h2:Store.sub τ s) (h3:s id=some (.box [v])) (h4:Own 1 τ (L.map cB) v s) (hw:slc s 1 wv=some ys) (hsz:L.length+ys.length≤100000000)
 (h:∀ v' s',s' id=some (.box [v])→Own 1 τ (L.map cB++ys) v' s'→Store.sub τ s'→K v' s'):appwp 1 1 v wv s K:=by
 obtain ⟨τ0,q1,q2,q3,q4⟩:∃ τ0,Store.sub τ τ0∧Store.sub τ0 s∧τ0 id=some (.box [v])∧Own 1 τ0 (L.map cB) v s:=by
  rcases h4 with ⟨hk,hv⟩ | ⟨g,hv,hg,hs⟩
  ·exact ⟨s,h2,Store.sub_refl _,h3,.inl ⟨hk,hv⟩⟩
  ·have hgi:¬ id=g:=fun e=>by subst e;rw [hs] at h3;cases h3
   exact ⟨s.del g,sub_del h2 hg,z0g _ _,by rw [Store.del_ne _ hgi];exact h3,.inr ⟨g,hv,by simp,hs⟩⟩
 refine Own.appM (τ:=τ0) q2 q4 hw (by simp;omega) fun v' s' hs' ho' => ?_
 exact h v' s' (hs' _ _ q3) (ho'.weak q1) (Store.sub_trans q1 hs')
theorem zbx {τ s:Store} {id:Nat} {L M:List Int} {wv:AV} (h:WI τ id L s) (hw:Rd 1 τ (M.map cB) wv) (hL:L.length≤10000000) (hM:M.length≤10000000):ACalls Tryz.prog 164 [.ptr id 0,wv] s (fun r s'=>r = .tup []∧WI τ id (L++M) s'):=by
 refine zk Tst.F164 (by simp [Tst.F164,Fn.mkX]) ?_
 simp only [Tst.F164,Fn.mkX,Tst.b164]
 obtain ⟨h1,h2,v,h3,h4⟩:=h
 simp only [h3,↓vcPre,↓z0,↓reduceIte,vcPost,vcStd,Nat.reduceEqDiff,reduceCtorEq,Nat.reduceAdd,Nat.reduceLeDiff,Int.reduceLT,Int.reduceLE,↓u_setN]
 refine WI.appM h1 h2 h3 h4 (hw.1 _ h2) (by simp;omega) fun v' s' g1 g2 g3 => ?_
 have hv:=g2.cell
 simp only [g1,hv.1,hv.2,↓vcPre,↓z0,↓reduceIte,vcPost,vcStd,Nat.reduceEqDiff,reduceCtorEq,Nat.reduceAdd,Nat.reduceLeDiff,Int.reduceLT,Int.reduceLE,↓u_setN]
 refine EndQ.to _ _ rfl (Store.sub_refl _) ⟨rfl,h1,za g3 h1,v',Store.set_same _ _ _,?_⟩
 rw [List.map_append]
 exact g2.setId g1 (fun M h=>by cases h)
theorem Rd.cases {esz:Nat} {σ:Store} {L:List (List AV)} {v:AV} (h:Rd esz σ L v):(v = .nils∧L=[])∨v = .sl esz L∨∃ g o n,v = .os g esz o n:=by
 have h1:=h.1 σ (Store.sub_refl _)
 unfold slc at h1
 split at h1
 ·exact .inl ⟨rfl,by cases h1;rfl⟩
 ·split at h1
  ·rename_i e;subst e;cases h1;exact .inr (.inl rfl)
  ·cases h1
 ·split at h1
  ·split at h1
   ·rename_i e;obtain ⟨rfl,_,_⟩:=e;exact .inr (.inr ⟨_,_,_,rfl⟩)
   ·cases h1
  ·cases h1
 ·cases h1
theorem Rd.at {esz:Nat} {τ:Store} {L:List (List AV)} {v:AV} (h:Rd esz τ L v) {k:Nat} (hk:k<L.length):∃ p,pv (.idx esz) [v,.int .i64 (k:Int)]=some p∧∀ t,Store.sub τ t→∀ n,rd t n p=takeN 0 n L[k]:=by
 rcases h.cases with ⟨rfl,h0⟩ | rfl | ⟨g,o,n,rfl⟩
 ·subst h0;simp at hk
 ·refine ⟨.ep L[k],by simp [pv,pIdx,hk],fun t _ n=>rfl⟩
 ·have hl:=h.2
  simp only [pv,pLen,Option.some.injEq,AV.int.injEq,true_and] at hl
  refine ⟨.aptr g esz (o+k) 0,by simp [pv,pIdx];omega,fun t ht m => ?_⟩
  have h1:=h.1 t ht
  unfold slc at h1
  simp only at h1
  split at h1
  ·rename_i e2 es hg
   split at h1
   ·rename_i e;obtain ⟨_,rfl,hle⟩:=e
    have h2:=Option.some.inj h1
    have h3:es[o+k]? = some L[k]:=by
     have h4:((es.drop o).take n)[k]? = some L[k]:=by rw [h2];exact List.getElem?_eq_getElem hk
     rw [List.getElem?_take_of_lt (by omega),List.getElem?_drop] at h4
     exact h4
    simp only [rd,hg,if_true,h3,Option.bind_some]
   ·cases h1
  ·cases h1
theorem zgb {σ:Store} {M:List Int} {v:AV} (hr:Rd 1 σ (M.map cB) v) (hM:M.length≤1000000000):ACalls Tryz.prog 101 [v] σ (fun r s=>s=σ∧r = .sl 1 (M.map cB)):=by
 refine zk Tst.F101 (by simp [Tst.F101,Fn.mkX]) ?_
 simp only [Tst.F101,Fn.mkX,Tst.b101]
 have hcp:∀ i,σ i=none→slc (σ.set i (.arr 1 [])) 1 v=some (M.map cB):=fun i hi=>hr.1 _ (Store.sub_set _ _ _ hi)
 rcases hr.cases with ⟨rfl,h0⟩ | rfl | ⟨g,o,n,rfl⟩
 ·simp only [↓vcPre,↓z0,↓reduceIte,vcPost,vcStd,Nat.reduceEqDiff,reduceCtorEq,Nat.reduceAdd,Nat.reduceLeDiff,Int.reduceLT,Int.reduceLE,↓u_setN]
  exact EndQ.nil1 1 σ rfl (Store.sub_refl _) ⟨rfl,by rw [h0]⟩
 ·simp only [↓vcPre,↓z0,↓reduceIte,vcPost,vcStd,Nat.reduceEqDiff,reduceCtorEq,Nat.reduceAdd,Nat.reduceLeDiff,Int.reduceLT,Int.reduceLE,↓u_setN]
  show nilqwp false (.sl 1 (M.map cB)) _
  refine z3c fun b hb => ?_
  cases b with
  | true =>
    have hl:M=[]:=by
     cases M with
     | nil=>rfl
     | cons x r=>have:=hb (by simp);cases this
    subst hl
    simp only [↓vcPre,↓z0,↓reduceIte,vcPost,vcStd,Nat.reduceEqDiff,reduceCtorEq,Nat.reduceAdd,Nat.reduceLeDiff,Int.reduceLT,Int.reduceLE,↓u_setN]
    exact EndQ.nil1 1 σ rfl (Store.sub_refl _) ⟨rfl,rfl⟩
  | false =>
    simp only [↓vcPre,↓z0,↓reduceIte,vcPost,vcStd,Nat.reduceEqDiff,reduceCtorEq,Nat.reduceAdd,Nat.reduceLeDiff,Int.reduceLT,Int.reduceLE,↓u_setN]
    refine AllocQ.i0 fun i hi => ?_
    simp only [↓vcPre,↓z0,↓reduceIte,vcPost,vcStd,Nat.reduceEqDiff,reduceCtorEq,Nat.reduceAdd,Nat.reduceLeDiff,Int.reduceLT,Int.reduceLE,↓u_setN]
    refine yg (zq (Store.set_same _ _ _) rfl) (hcp i hi) (by simp;omega) fun j hj => ?_
    simp only [List.nil_append,List.length_nil,Nat.zero_add]
    refine EndQ.frz j 1 0 _ (M.map cB) σ rfl (Store.set_same _ _ _) (by simp) (u7 hi hj) ⟨rfl,?_⟩
    rw [List.drop_zero,List.take_of_length_le (by simp)]
 ·simp only [↓vcPre,↓z0,↓reduceIte,vcPost,vcStd,Nat.reduceEqDiff,reduceCtorEq,Nat.reduceAdd,Nat.reduceLeDiff,Int.reduceLT,Int.reduceLE,↓u_setN]
  refine AllocQ.i0 fun i hi => ?_
  simp only [↓vcPre,↓z0,↓reduceIte,vcPost,vcStd,Nat.reduceEqDiff,reduceCtorEq,Nat.reduceAdd,Nat.reduceLeDiff,Int.reduceLT,Int.reduceLE,↓u_setN]
  refine yg (zq (Store.set_same _ _ _) rfl) (hcp i hi) (by simp;omega) fun j hj => ?_
  simp only [List.nil_append,List.length_nil,Nat.zero_add]
  refine EndQ.frz j 1 0 _ (M.map cB) σ rfl (Store.set_same _ _ _) (by simp) (u7 hi hj) ⟨rfl,?_⟩
  rw [List.drop_zero,List.take_of_length_le (by simp)]
theorem z53 {τ s:Store} {id:Nat} {L:List Int} (h:WI τ id L s) (hL:L.length≤100000000):ACalls Tryz.prog 110 [.ptr id 0] s (fun r s'=>s'=s∧r = .sl 1 (L.map cB)):=by
 refine zk Tst.F110 (by simp [Tst.F110,Fn.mkX]) ?_
 simp only [Tst.F110,Fn.mkX,Tst.b110]
 obtain ⟨h1,h2,v,h3,h4⟩:=h
 simp only [h3,↓vcPre,↓z0,↓reduceIte,vcPost,vcStd,Nat.reduceEqDiff,reduceCtorEq,Nat.reduceAdd,Nat.reduceLeDiff,Int.reduceLT,Int.reduceLE,↓u_setN]
 refine (zgb (Rd.own h4) (by omega)).Q ?_
 rintro r s' ⟨rfl,rfl⟩
 simp only [↓vcPre,↓z0,↓reduceIte,vcPost,vcStd,Nat.reduceEqDiff,reduceCtorEq,Nat.reduceAdd,Nat.reduceLeDiff,Int.reduceLT,Int.reduceLE,↓u_setN]
 exact EndQ.to _ _ rfl (Store.sub_refl _) ⟨rfl,rfl⟩
end Go.Am
namespace Go.Am
open Go.Proofs Go.Sort
def ofSz (k:Int):Int:=if k=1 then 1 else if k=2 then -1 else if k=3∨k=4∨k=5 then 4 else if k=8 then -4 else 0
def ofOk (k:Int):Bool:=decide (wantOf k≠0)
theorem zfv (k:Int):Pur Tryz.prog 181 [.int .i64 k] (.tup [.int .i64 (wantOf k),.int .i64 (ofSz k),.bool (ofOk k)]):=by
 refine zn Tst.F181 (by simp [Tst.F181,Fn.mkX]) fun σ => ?_
 simp only [Tst.F181,Fn.mkX,Tst.b181]
 simp only [↓vcPre,↓z0,↓reduceIte,vcPost,vcStd,Nat.reduceEqDiff,reduceCtorEq,Nat.reduceAdd,Nat.reduceLeDiff,Int.reduceLT,Int.reduceLE,↓u_setN]
 refine ⟨fun h => ?_,fun h1=>⟨fun h => ?_,fun h2=>⟨fun h => ?_,fun h3=>⟨fun h => ?_,fun h4=>⟨fun h => ?_,fun h5=>⟨fun h => ?_,fun h6=>⟨fun h => ?_,fun h8 => ?_⟩⟩⟩⟩⟩⟩⟩
 all_goals first
  | (subst h;rfl)
  | (simp [ofSz,ofOk,wantOf,h1,h2,h3,h4,h5,h6,h8])
theorem z0d {τ s:Store} {id:Nat} {L M:List Int} {wv:AV} (h:WI τ id L s) (k:Int) (hk:0≤k∧k≤8∧wantOf k≠0) (hw:Rd 1 τ (M.map cB) wv) (hL:L.length≤1000000) (hM:M.length≤1000000) :
 ACalls Tryz.prog 140 [.ptr id 0,.int .i64 k,wv] s (fun r s'=>r = .tup []∧WI τ id (L++oneA (wantOf k) k M) s'):=by
 refine zk Tst.F140 (by simp [Tst.F140,Fn.mkX]) ?_
 simp only [Tst.F140,Fn.mkX,Tst.b140]
 have hlen:pv .len [wv]=some (.int .i64 (M.length:Int)):=by rw [hw.2];simp
 have hor:bitInt .or .i64 (wantOf k) 16=wantOf k+16∧wantOf k % 256=wantOf k∧(wantOf k+16) % 256=wantOf k+16:=by
  have:wantOf k=64∨wantOf k=128∨wantOf k=192:=by
   have:=hk.2.2
   unfold wantOf at this ⊢
   split
   ·exact .inl rfl
   ·rename_i h1
    rw [if_neg h1] at this
    split
    ·exact .inr (.inl rfl)
    ·rename_i h2
     rw [if_neg h2] at this
     split
     ·exact .inr (.inr rfl)
     ·rename_i h3;rw [if_neg h3] at this;exact absurd rfl this
  rcases this with h | h | h <;> rw [h] <;> decide
 have hk8:k % 256=k:=by omega
 simp only [↓vcPre,↓z0,↓reduceIte,vcPost,vcStd,Nat.reduceEqDiff,reduceCtorEq,Nat.reduceAdd,Nat.reduceLeDiff,Int.reduceLT,Int.reduceLE,↓u_setN]
 refine (zfv k).Q ?_
 simp only [hlen,↓vcPre,↓z0,↓reduceIte,vcPost,vcStd,Nat.reduceEqDiff,reduceCtorEq,Nat.reduceAdd,Nat.reduceLeDiff,Int.reduceLT,Int.reduceLE,↓u_setN]
 refine ⟨fun c1 => ?_,fun c1 => ?_⟩
 ·rw [hor.1]
  refine (z0c h (by omega) _).Q ?_
  rintro r s1 ⟨rfl,h1⟩
  simp only [↓vcPre,↓z0,↓reduceIte,vcPost,vcStd,Nat.reduceEqDiff,reduceCtorEq,Nat.reduceAdd,Nat.reduceLeDiff,Int.reduceLT,Int.reduceLE,↓u_setN]
  refine (z0c h1 (by simp [be1];omega) _).Q ?_
  rintro r s2 ⟨rfl,h2⟩
  simp only [hlen,↓vcPre,↓z0,↓reduceIte,vcPost,vcStd,Nat.reduceEqDiff,reduceCtorEq,Nat.reduceAdd,Nat.reduceLeDiff,Int.reduceLT,Int.reduceLE,↓u_setN]
  refine (zgc h2 (by simp [be1];omega) _).Q ?_
  rintro r s3 ⟨rfl,h3⟩
  simp only [↓vcPre,↓z0,↓reduceIte,vcPost,vcStd,Nat.reduceEqDiff,reduceCtorEq,Nat.reduceAdd,Nat.reduceLeDiff,Int.reduceLT,Int.reduceLE,↓u_setN]
  refine (zbx h3 hw (by simp [be1,be2];omega) (by omega)).Q ?_
  rintro r s4 ⟨rfl,h4⟩
  simp only [↓vcPre,↓z0,↓reduceIte,vcPost,vcStd,Nat.reduceEqDiff,reduceCtorEq,Nat.reduceAdd,Nat.reduceLeDiff,Int.reduceLT,Int.reduceLE,↓u_setN]
  refine EndQ.to _ _ rfl (Store.sub_refl _) ⟨rfl,?_⟩
  simp only [be1,be2,hor.2.2,hk8,List.append_assoc,List.cons_append,List.nil_append] at h4
  unfold oneA
  rw [if_pos (by omega)]
  exact h4
 ·refine (z0c h (by omega) _).Q ?_
  rintro r s1 ⟨rfl,h1⟩
  simp only [↓vcPre,↓z0,↓reduceIte,vcPost,vcStd,Nat.reduceEqDiff,reduceCtorEq,Nat.reduceAdd,Nat.reduceLeDiff,Int.reduceLT,Int.reduceLE,↓u_setN]
  refine (z0c h1 (by simp [be1];omega) _).Q ?_
  rintro r s2 ⟨rfl,h2⟩
  simp only [hlen,↓vcPre,↓z0,↓reduceIte,vcPost,vcStd,Nat.reduceEqDiff,reduceCtorEq,Nat.reduceAdd,Nat.reduceLeDiff,Int.reduceLT,Int.reduceLE,↓u_setN]
  refine (z0c h2 (by simp [be1];omega) _).Q ?_
  rintro r s3 ⟨rfl,h3⟩
  simp only [↓vcPre,↓z0,↓reduceIte,vcPost,vcStd,Nat.reduceEqDiff,reduceCtorEq,Nat.reduceAdd,Nat.reduceLeDiff,Int.reduceLT,Int.reduceLE,↓u_setN]
  refine (zbx h3 hw (by simp [be1];omega) (by omega)).Q ?_
  rintro r s4 ⟨rfl,h4⟩
  simp only [↓vcPre,↓z0,↓reduceIte,vcPost,vcStd,Nat.reduceEqDiff,reduceCtorEq,Nat.reduceAdd,Nat.reduceLeDiff,Int.reduceLT,Int.reduceLE,↓u_setN]
  refine EndQ.to _ _ rfl (Store.sub_refl _) ⟨rfl,?_⟩
  have e:(M.length:Int) % 256=(M.length:Int):=by omega
  simp only [be1,hor.2.1,hk8,e,List.append_assoc,List.cons_append,List.nil_append] at h4
  unfold oneA
  rw [if_neg (by omega)]
  exact h4
theorem vj (l:List Int) (k:Nat) (h:k<l.length):encW (l.take (k+1))=encW (l.take k)++b4 l[k]:=by
 unfold encW
 rw [List.take_add_one,List.getElem?_eq_getElem h,List.flatMap_append]
 simp only [Option.toList_some,List.flatMap_cons,List.flatMap_nil,List.append_nil]
set_option maxRecDepth 20000 in
theorem z54 {σ:Store} {l:List Int} {v:AV} (hr:Rd 1 σ (l.map cU) v) (hl:l.length≤100000):ACalls Tryz.prog 142 [v] σ (fun r s=>s=σ∧r = .sl 1 ((encW l).map cB)):=by
 refine zk Tst.F142 (by simp [Tst.F142,Fn.mkX]) ?_
 simp only [Tst.F142,Fn.mkX,Tst.b142]
 have hlen:pv .len [v]=some (.int .i64 (l.length:Int)):=by rw [hr.2];simp
 simp only [↓vcPre,↓z0,↓reduceIte,vcPost,vcStd,Nat.reduceEqDiff,reduceCtorEq,Nat.reduceAdd,Nat.reduceLeDiff,Int.reduceLT,Int.reduceLE,↓u_setN]
 refine (z81 σ).Q ?_
 rintro r s ⟨id,rfl,hW⟩
 simp only [↓vcPre,↓z0,↓reduceIte,vcPost,vcStd,Nat.reduceEqDiff,reduceCtorEq,Nat.reduceAdd,Nat.reduceLeDiff,Int.reduceLT,Int.reduceLE,↓u_setN]
 rw [hlen,yf]
 refine LoopQ.inv (S:=Nat×Store) (fun q=>[(3,.ptr id 0),(7,v),(8,.int .i64 (l.length:Int)),(9,.int .i64 (q.1:Int))]) (fun q=>q.2) (fun q=>q.1≤l.length∧WI σ id (encW (l.take q.1)) q.2) (fun q=>l.length+1 - q.1) (0,s) rfl (Store.sub_refl _) ⟨by simp only;omega,by simpa [encW] using hW⟩ ?_
 rintro ⟨k,s⟩ ⟨hk,hW⟩
 simp only at hk hW
 simp only [↓vcPre,↓z0,↓reduceIte,vcPost,vcStd,Nat.reduceEqDiff,reduceCtorEq,Nat.reduceAdd,Nat.reduceLeDiff,Int.reduceLT,Int.reduceLE,↓u_setN]
 have hle:=yi (l.take k)
 rw [List.length_take] at hle
 refine ⟨fun c1 => ?_,fun c1 => ?_⟩
 ·have ek:IntKind.i64.wrap ((k:Int)+1)=((k+1:Nat):Int):=by rw [zd (by unfold I64;omega)];omega
  obtain ⟨p,hp,hpr⟩:=hr.at (k:=k) (by simpa using c1)
  have hrd:=hpr s hW.2.1 1
  rw [List.getElem_map] at hrd
  simp only [hp,hrd,cU,↓vcPre,↓z0,↓reduceIte,vcPost,vcStd,Nat.reduceEqDiff,reduceCtorEq,Nat.reduceAdd,Nat.reduceLeDiff,Int.reduceLT,Int.reduceLE,↓u_setN]
  refine (zbv hW (by omega) _).Q ?_
  rintro r s' ⟨rfl,h'⟩
  simp only [↓vcPre,↓z0,↓reduceIte,vcPost,vcStd,Nat.reduceEqDiff,reduceCtorEq,Nat.reduceAdd,Nat.reduceLeDiff,Int.reduceLT,Int.reduceLE,↓u_setN]
  rw [ek]
  rw [be4] at h'
  exact NextQ.to (k+1,s') rfl (Store.sub_refl _) (by simp only;omega) ⟨by simp only;omega,by rw [vj _ _ c1];exact h'⟩
 ·have e:l.take k=l:=List.take_of_length_le (by omega)
  rw [e] at hW hle
  refine (z53 hW (by omega)).Q ?_
  rintro r s' ⟨rfl,rfl⟩
  simp only [↓vcPre,↓z0,↓reduceIte,vcPost,vcStd,Nat.reduceEqDiff,reduceCtorEq,Nat.reduceAdd,Nat.reduceLeDiff,Int.reduceLT,Int.reduceLE,↓u_setN]
  exact EndQ.to _ _ rfl hW.2.1 ⟨rfl,rfl⟩
end Go.Am
namespace Go.Am
open Go.Proofs Go.Sort
theorem inc_pt {l:List Int}:Inc l↔∀ i,∀ h:i+1<l.length,l[i]<l[i+1]:=by
 unfold Inc
 rw [List.pairwise_iff_getElem]
 constructor
 ·intro h i hi;exact h i (i+1) (by omega) hi (by omega)
 ·intro h i j hi hj hij
  induction j with
  | zero=>omega
  | succ j ih =>
    have h1:=h j hj
    by_cases e:i=j
    ·subst e;exact h1
    ·have:=ih (by omega) (by omega);omega
instance (l:List Int):Decidable (Inc l):=inferInstanceAs (Decidable (l.Pairwise (· < ·)))
instance (a:At):Decidable (atRight a):=inferInstanceAs (Decidable (_∧_∧_∧_∧_∧_∧_))
theorem zfs (s:Seg):Pur Tryz.prog 170 [.agg s.c] (.bool (decide (segRight s))):=by
 refine zn Tst.F170 (by simp [Tst.F170,Fn.mkX]) fun σ => ?_
 simp only [Tst.F170,Fn.mkX,Tst.b170]
 simp only [Seg.c,↓vcPre,↓z0,↓reduceIte,vcPost,vcStd,Nat.reduceEqDiff,reduceCtorEq,Nat.reduceAdd,Nat.reduceLeDiff,Int.reduceLT,Int.reduceLE,↓u_setN]
 refine AllocQ.i0 fun i hi => ?_
 simp only [Seg.c,↓vcPre,↓z0,↓reduceIte,vcPost,vcStd,Nat.reduceEqDiff,reduceCtorEq,Nat.reduceAdd,Nat.reduceLeDiff,Int.reduceLT,Int.reduceLE,↓u_setN]
 have hsb:=Store.sub_set σ i (.box [.int .i64 s.kind,.sl 1 (s.ls.map cU)]) hi
 (repeat' first
   | (refine ⟨fun _ => ?_,fun _ => ?_⟩)
   | (refine ⟨?_,hsb⟩)
   | (refine decide_eq_decide.2 ?_;unfold segRight;omega)
   | (symm;rw [decide_eq_false_iff_not];unfold segRight;omega)
   | (symm;rw [decide_eq_true_iff];unfold segRight;omega))
theorem zbd (l:List Seg) (hl:l.length≤1000000):Pur Tryz.prog 129 [.sl 2 (l.map Seg.c)] (.bool (decide (pathRight l))):=by
 refine zn Tst.F129 (by simp [Tst.F129,Fn.mkX]) fun σ => ?_
 simp only [Tst.F129,Fn.mkX,Tst.b129]
 simp only [↓vcPre,↓z0,↓reduceIte,vcPost,vcStd,Nat.reduceEqDiff,reduceCtorEq,Nat.reduceAdd,Nat.reduceLeDiff,Int.reduceLT,Int.reduceLE,↓u_setN]
 refine LoopQ.inv (S:=Nat) (fun k=>[(0,.sl 2 (l.map Seg.c)),(5,.sl 2 (l.map Seg.c)),(6,.int .i64 (l.length:Int)),(7,.int .i64 (k:Int))]) (fun _=>σ) (fun k=>k≤l.length∧∀ s ∈ l.take k,segRight s) (fun k=>l.length+1 - k) 0 rfl (Store.sub_refl _) ⟨by omega,by simp⟩ ?_
 rintro k ⟨hk,hr⟩
 simp only [↓vcPre,↓z0,↓reduceIte,vcPost,vcStd,Nat.reduceEqDiff,reduceCtorEq,Nat.reduceAdd,Nat.reduceLeDiff,Int.reduceLT,Int.reduceLE,↓u_setN]
 refine ⟨fun c1 => ?_,fun c1 => ?_⟩
 ·have ek:IntKind.i64.wrap ((k:Int)+1)=((k+1:Nat):Int):=by rw [zd (by unfold I64;omega)];omega
  refine ⟨c1,by simp [Seg.c],?_⟩
  refine AllocQ.i0 fun i hi => ?_
  simp only [Seg.c,Store.set_set,↓vcPre,↓z0,↓reduceIte,vcPost,vcStd,Nat.reduceEqDiff,reduceCtorEq,Nat.reduceAdd,Nat.reduceLeDiff,Int.reduceLT,Int.reduceLE,↓u_setN]
  refine (zfs l[k]).Q ?_
  have hsb:=Store.sub_set σ i (.box [.int .i64 l[k].kind,.sl 1 (l[k].ls.map cU)]) hi
  by_cases g:segRight l[k]
  ·rw [decide_eq_true g]
   simp only [↓vcPre,↓z0,↓reduceIte,vcPost,vcStd,Nat.reduceEqDiff,reduceCtorEq,Nat.reduceAdd,Nat.reduceLeDiff,Int.reduceLT,Int.reduceLE,↓u_setN]
   rw [ek]
   refine NextQ.to (k+1) rfl hsb (by omega) ⟨by omega,fun s hs => ?_⟩
   rw [List.take_add_one,List.getElem?_eq_getElem c1] at hs
   rcases List.mem_append.1 hs with h | h
   ·exact hr s h
   ·simp at h;subst h;exact g
  ·rw [decide_eq_false g]
   simp only [↓vcPre,↓z0,↓reduceIte,vcPost,vcStd,Nat.reduceEqDiff,reduceCtorEq,Nat.reduceAdd,Nat.reduceLeDiff,Int.reduceLT,Int.reduceLE,↓u_setN]
   refine ⟨?_,hsb⟩
   rw [decide_eq_false (fun h:pathRight l=>g (h.1 _ (List.getElem_mem c1)))]
 ·have e:l.take k=l:=List.take_of_length_le (by omega)
  rw [e] at hr
  refine decide_eq_decide.2 ⟨fun h=>⟨hr,by omega⟩,fun h => ?_⟩
  have:=h.2;omega
theorem z2f (x:Int):x.fdiv 16777216=x / 16777216:=Int.fdiv_eq_ediv_of_nonneg _ (by omega)
theorem z76 (n:Int):Pur Tryz.prog 124 [.int .u32 n] (.bool (decide (goodN n))):=by
 refine zn Tst.F124 (by simp [Tst.F124,Fn.mkX]) fun σ => ?_
 simp only [Tst.F124,Fn.mkX,Tst.b124]
 have e:shrInt .u32 n 24=n / 16777216:=by
  simp [shrInt,IntKind.bits,z2f]
 simp only [e,↓vcPre,↓z0,↓reduceIte,vcPost,vcStd,Nat.reduceEqDiff,reduceCtorEq,Nat.reduceAdd,Nat.reduceLeDiff,Int.reduceLT,Int.reduceLE,↓u_setN]
 have hsb:=Store.sub_refl σ
 (repeat' first
   | (refine ⟨fun _ => ?_,fun _ => ?_⟩)
   | (refine ⟨?_,hsb⟩)
   | (refine decide_eq_decide.2 ?_;unfold goodN;omega)
   | (symm;rw [decide_eq_false_iff_not];unfold goodN;omega)
   | (symm;rw [decide_eq_true_iff];unfold goodN;omega))
theorem zfl (l:List Int) (hl:l.length≤1000000):Pur Tryz.prog 130 [.sl 1 (l.map cU)] (.bool (decide (Inc l))):=by
 refine zn Tst.F130 (by simp [Tst.F130,Fn.mkX]) fun σ => ?_
 simp only [Tst.F130,Fn.mkX,Tst.b130]
 simp only [↓vcPre,↓z0,↓reduceIte,vcPost,vcStd,Nat.reduceEqDiff,reduceCtorEq,Nat.reduceAdd,Nat.reduceLeDiff,Int.reduceLT,Int.reduceLE,↓u_setN]
 refine LoopQ.inv (S:=Nat) (fun k=>[(0,.sl 1 (l.map cU)),(3,.int .i64 ((k+1:Nat):Int))]) (fun _=>σ) (fun k=>k≤l.length∧∀ i,∀ h:i+1<l.length,i<k→l[i]<l[i+1]) (fun k=>l.length+1 - k) 0 rfl (Store.sub_refl _) ⟨by omega,fun i _ h=>by omega⟩ ?_
 rintro k ⟨hk,hr⟩
 simp only [↓vcPre,↓z0,↓reduceIte,vcPost,vcStd,Nat.reduceEqDiff,reduceCtorEq,Nat.reduceAdd,Nat.reduceLeDiff,Int.reduceLT,Int.reduceLE,↓u_setN]
 refine ⟨fun c1 => ?_,fun c1 => ?_⟩
 ·have ek:IntKind.i64.wrap (((k+1:Nat):Int)+1)=((k+1+1:Nat):Int):=by rw [zd (by unfold I64;omega)];omega
  have em:IntKind.i64.wrap (((k+1:Nat):Int) - 1)=(k:Int):=by rw [zd (by unfold I64;omega)];omega
  rw [em]
  simp only [Int.toNat_natCast]
  refine ⟨by omega,by omega,c1,by simp [cU],?_⟩
  simp only [cU,↓vcPre,↓z0,↓reduceIte,vcPost,vcStd,Nat.reduceEqDiff,reduceCtorEq,Nat.reduceAdd,Nat.reduceLeDiff,Int.reduceLT,Int.reduceLE,↓u_setN]
  refine ⟨fun g => ?_,fun g => ?_⟩
  ·rw [decide_eq_false (fun h:Inc l=>by have:=inc_pt.1 h k (by omega);omega)]
  ·rw [ek]
   refine NextQ.to (k+1) rfl (Store.sub_refl _) (by omega) ⟨by omega,fun i hi hik => ?_⟩
   by_cases e:i=k
   ·subst e;omega
   ·exact hr i hi (by omega)
 ·rw [decide_eq_true (inc_pt.2 fun i hi=>hr i hi (by omega))]
theorem c72 (a:At) (ha:a.ok):Pur Tryz.prog 72 [.agg a.c] (.bool (decide (atRight a))):=by
 refine zn Tst.F72 (by simp [Tst.F72,Fn.mkX]) fun σ => ?_
 simp only [Tst.F72,Fn.mkX,Tst.b72]
 simp only [At.c,↓vcPre,↓z0,↓reduceIte,vcPost,vcStd,Nat.reduceEqDiff,reduceCtorEq,Nat.reduceAdd,Nat.reduceLeDiff,Int.reduceLT,Int.reduceLE,↓u_setN]
 refine AllocQ.i0 fun i hi => ?_
 have hsb:=Store.sub_set σ i (.box a.c) hi
 have hTb:(σ.set i (.box a.c)) i=some (.box [.int .i64 a.org,.sl 2 (a.path.map Seg.c),.int .u32 a.nxt,.bool a.hm,.int .u32 a.med,.bool a.hp,.int .u32 a.prf,.bool a.atm,.sl 1 (a.cms.map cU)]):=Store.set_same _ _ _
 change bops _ _ _ (σ.set i (.box a.c)) _
 generalize σ.set i (.box a.c)=T at hsb hTb ⊢
 have no:¬ atRight a→false=decide (atRight a)∧Store.sub σ T:=fun h=>⟨by rw [decide_eq_false h],hsb⟩
 by_cases h1:a.org<0
 ·simp only [hTb,h1,↓vcPre,↓z0,↓reduceIte,vcPost,vcStd,Nat.reduceEqDiff,reduceCtorEq,Nat.reduceAdd,Nat.reduceLeDiff,Int.reduceLT,Int.reduceLE,↓u_setN]
  exact no fun h=>by have:=h.1;omega
 by_cases h2:2<a.org
 ·simp only [hTb,h1,h2,↓vcPre,↓z0,↓reduceIte,vcPost,vcStd,Nat.reduceEqDiff,reduceCtorEq,Nat.reduceAdd,Nat.reduceLeDiff,Int.reduceLT,Int.reduceLE,↓u_setN]
  exact no fun h=>by have:=h.1;omega
 simp only [hTb,h1,h2,↓vcPre,↓z0,↓reduceIte,vcPost,vcStd,Nat.reduceEqDiff,reduceCtorEq,Nat.reduceAdd,Nat.reduceLeDiff,Int.reduceLT,Int.reduceLE,↓u_setN]
 refine (zbd a.path ha.1).Q ?_
 by_cases g1:pathRight a.path
 case neg=>rw [decide_eq_false g1];simp only [↓vcPre,↓z0,↓reduceIte,vcPost,vcStd,Nat.reduceEqDiff,reduceCtorEq,Nat.reduceAdd,Nat.reduceLeDiff,Int.reduceLT,Int.reduceLE,↓u_setN];exact no fun h=>g1 h.2.1
 rw [decide_eq_true g1]
 simp only [hTb,↓vcPre,↓z0,↓reduceIte,vcPost,vcStd,Nat.reduceEqDiff,reduceCtorEq,Nat.reduceAdd,Nat.reduceLeDiff,Int.reduceLT,Int.reduceLE,↓u_setN]
 refine (z76 a.nxt).Q ?_
 by_cases g2:goodN a.nxt
 case neg=>rw [decide_eq_false g2];simp only [↓vcPre,↓z0,↓reduceIte,vcPost,vcStd,Nat.reduceEqDiff,reduceCtorEq,Nat.reduceAdd,Nat.reduceLeDiff,Int.reduceLT,Int.reduceLE,↓u_setN];exact no fun h=>g2 h.2.2.1
 rw [decide_eq_true g2]
 cases hm:a.hm <;> cases hp:a.hp
 all_goals
  simp only [hTb,hm,hp,↓vcPre,↓z0,↓reduceIte,vcPost,vcStd,Nat.reduceEqDiff,reduceCtorEq,Nat.reduceAdd,Nat.reduceLeDiff,Int.reduceLT,Int.reduceLE,↓u_setN]
  (repeat' first
    | (refine ⟨fun _ => ?_,fun _ => ?_⟩)
    | (exact no (fun h=>by have:=h.2.2.2.2.2.1;omega))
    | (exact no (fun h=>by have:=h.2.2.2;simp_all)))
 all_goals
  refine (zfl a.cms (by have:=ha.2.2;omega)).Q ?_
  by_cases g3:Inc a.cms
  ·rw [decide_eq_true g3]
   simp only [↓vcPre,↓z0,↓reduceIte,vcPost,vcStd,Nat.reduceEqDiff,reduceCtorEq,Nat.reduceAdd,Nat.reduceLeDiff,Int.reduceLT,Int.reduceLE,↓u_setN]
   refine ⟨?_,hsb⟩
   symm
   rw [decide_eq_true_iff]
   exact ⟨⟨by omega,by omega⟩,g1,g2,by simp_all,by simp_all,by omega,g3⟩
  ·rw [decide_eq_false g3]
   simp only [↓vcPre,↓z0,↓reduceIte,vcPost,vcStd,Nat.reduceEqDiff,reduceCtorEq,Nat.reduceAdd,Nat.reduceLeDiff,Int.reduceLT,Int.reduceLE,↓u_setN]
   exact no fun h=>g3 h.2.2.2.2.2.2
end Go.Am
namespace Go.Am
theorem z2p (fl k:Int) (v:List Int):(oneA fl k v).length=(if 255<v.length then 4 else 3)+v.length:=by unfold oneA;split <;> simp <;> omega
structure It where
 k:Int
 v:List Int
def It.enc (i:It):List Int:=oneA (wantOf i.k) i.k i.v
theorem u0 {l:List Seg} (h:pathRight l):(encPath l).length≤16352:=by
 have:∀ l:List Seg,(∀ s ∈ l,segRight s)→(encPath l).length≤1022*l.length:=by
  intro l
  induction l with
  | nil=>intro _;simp [encPath]
  | cons s r ih =>
    intro h
    have h1:=ih fun x hx=>h x (by simp [hx])
    have h2:=(h s (by simp)).2.2
    have h3:=yi s.ls
    simp only [encPath,List.flatMap_cons,List.length_append,encSeg,List.length_cons,List.length_nil] at *
    omega
 have h1:=this l h.1
 have h2:=h.2
 omega
end Go.Am
namespace Go.Am.Tsi
open Go.Proofs Go.Am.B
def t78_52:BC := .seq (z [f 52 8 1,l 53 1 52,u 54 .len 53,c 55 .gtr 54 0] [1,4,55] (.cond (.t 55) (.ops [m 56 4,f 57 8 1,l 58 1 57,g 59 142 [.t 58],g 60 140 [.t 56,.c (.int .i64 8),.t 59]] [4]) .skip)) (z [m 61 4,g 62 110 [.t 61],m 2 62,j 3 0] [2,3] .ret)
def t78_48:BC := .seq (z [f 48 7 1,l 49 1 48] [1,4,49] (.cond (.t 49) (.ops [m 50 4,g 51 140 [.t 50,.c (.int .i64 6),.c .nils]] [1,4]) .skip)) t78_52
def t78_40:BC := .seq (z [f 40 5 1,l 41 1 40] [1,4,41] (.cond (.t 41) (.ops [m 42 4,f 43 6 1,l 44 1 43,⟨some 45,none,.alloc (.mksl 1 1),[.t 44]⟩,g 46 142 [.t 45],g 47 140 [.t 42,.c (.int .i64 5),.t 46]] [1,4]) .skip)) t78_48
def t78_32:BC := .seq (z [f 32 3 1,l 33 1 32] [1,4,33] (.cond (.t 33) (.ops [m 34 4,f 35 4 1,l 36 1 35,⟨some 37,none,.alloc (.mksl 1 1),[.t 36]⟩,g 38 142 [.t 37],g 39 140 [.t 34,.c (.int .i64 4),.t 38]] [1,4]) .skip)) t78_40
def b78:BC:=z [⟨some 1,none,.alloc (.box),[.t 0]⟩,k 2 .nils,j 3 0] [1] (.seq (z [⟨some 7,none,.load (.ld 9 true),[.t 1]⟩,g 8 72 [.t 7],u 9 .not 8] [1,9] (.cond (.t 9) (z [k 2 .nils,j 3 12] [2,3] .ret) .skip)) (z [g 10 106 [],m 4 10] [1,4] (z [m 11 4,f 12 0 1,l 13 1 12,u 14 (.conv .u8) 13,⟨some 15,none,.alloc (.mksl 1 1),[.t 14]⟩,g 16 140 [.t 11,.c (.int .i64 1),.t 15]] [1,4] (z [f 18 1 1,l 19 1 18,g 20 141 [.t 19],m 17 20,e 21 0 17,e 22 1 17,m 5 21,m 6 22] [1,4,5] (z [m 23 4,m 24 5,g 25 140 [.t 23,.c (.int .i64 2),.t 24]] [1,4] (z [m 26 4,f 27 2 1,l 28 1 27,⟨some 29,none,.alloc (.mksl 1 1),[.t 28]⟩,g 30 142 [.t 29],g 31 140 [.t 26,.c (.int .i64 3),.t 30]] [1,4] t78_32))))))
def F78:Fn Tryz.prog 78:=Fn.mkX false b78 [.t 2,.t 3] 63 Tryz.f78 _ Tryz.func78 (by decide) rfl Tryz.ntmps78 (by kernel_rfl) (by kernel_rfl)
end Go.Am.Tsi
namespace Go.Am
open Go.Proofs Go.Sort
theorem Own.with {esz:Nat} {τ s:Store} {L:List (List AV)} {v:AV} {b:Nat} {o:Obj} (h:Own esz τ L v s) (hb:s b=none):Own esz (τ.set b o) L v (s.set b o):=by
 rcases h with h | ⟨g,h1,h2,h3⟩
 ·exact .inl h
 ·have hgb:¬ g=b:=fun e=>by rw [e,hb] at h3;cases h3
  exact .inr ⟨g,h1,by rw [Store.set_ne _ _ hgb];exact h2,by rw [Store.set_ne _ _ hgb];exact h3⟩
theorem WI.with {τ s:Store} {id b:Nat} {L:List Int} {o:Obj} (h:WI τ id L s) (hb:s b=none):WI (τ.set b o) id L (s.set b o):=by
 obtain ⟨h1,h2,v,h3,h4⟩:=h
 have hib:¬ id=b:=fun e=>by rw [e,hb] at h3;cases h3
 exact ⟨by rw [Store.set_ne _ _ hib];exact h1,qe h2,v,by rw [Store.set_ne _ _ hib];exact h3,h4.with hb⟩
theorem WI.weak {τ τ' s:Store} {id:Nat} {L:List Int} (h:WI τ' id L s) (hs:Store.sub τ τ'):WI τ id L s:=by
 obtain ⟨h1,h2,v,h3,h4⟩:=h
 exact ⟨zm hs h1,Store.sub_trans hs h2,v,h3,h4.weak hs⟩
theorem uw (l:List Seg) (k:Nat) (h:k<l.length):encPath (l.take (k+1))=encPath (l.take k)++encSeg l[k]:=by
 unfold encPath
 rw [List.take_add_one,List.getElem?_eq_getElem h,List.flatMap_append]
 simp only [Option.toList_some,List.flatMap_cons,List.flatMap_nil,List.append_nil]
theorem z1e {l:List Seg} (h:pathRight l) (k:Nat):pathRight (l.take k):=⟨fun s hs=>h.1 s (List.mem_of_mem_take hs),by rw [List.length_take];have:=h.2;omega⟩
theorem zfn (l:List Seg) (hl:l.length≤1000000) (hr:pathRight l):Pur Tryz.prog 141 [.sl 2 (l.map Seg.c)] (.tup [.sl 1 ((encPath l).map cB),.int .i64 0]):=by
 intro σ
 refine zk Tst.F141 (by simp [Tst.F141,Fn.mkX]) ?_
 simp only [Tst.F141,Fn.mkX,Tst.b141]
 simp only [↓vcPre,↓z0,↓reduceIte,vcPost,vcStd,Nat.reduceEqDiff,reduceCtorEq,Nat.reduceAdd,Nat.reduceLeDiff,Int.reduceLT,Int.reduceLE,↓u_setN]
 refine (zbd l hl).Q ?_
 rw [decide_eq_true hr]
 simp only [↓vcPre,↓z0,↓reduceIte,vcPost,vcStd,Nat.reduceEqDiff,reduceCtorEq,Nat.reduceAdd,Nat.reduceLeDiff,Int.reduceLT,Int.reduceLE,↓u_setN]
 refine (z81 σ).Q ?_
 rintro r s ⟨id,rfl,hW⟩
 simp only [↓vcPre,↓z0,↓reduceIte,vcPost,vcStd,Nat.reduceEqDiff,reduceCtorEq,Nat.reduceAdd,Nat.reduceLeDiff,Int.reduceLT,Int.reduceLE,↓u_setN]
 refine LoopQ.inv (S:=Nat×Store) (fun q=>[(4,.ptr id 0),(13,.sl 2 (l.map Seg.c)),(14,.int .i64 (l.length:Int)),(15,.int .i64 (q.1:Int))]) (fun q=>q.2) (fun q=>q.1≤l.length∧WI σ id (encPath (l.take q.1)) q.2) (fun q=>l.length+1 - q.1) (0,s) rfl (Store.sub_refl _) ⟨by simp only;omega,by simpa [encPath] using hW⟩ ?_
 rintro ⟨k,s⟩ ⟨hk,hW⟩
 simp only at hk hW
 simp only [↓vcPre,↓z0,↓reduceIte,vcPost,vcStd,Nat.reduceEqDiff,reduceCtorEq,Nat.reduceAdd,Nat.reduceLeDiff,Int.reduceLT,Int.reduceLE,↓u_setN]
 have hlen:=u0 (z1e hr k)
 refine ⟨fun c1 => ?_,fun c1 => ?_⟩
 ·have ek:IntKind.i64.wrap ((k:Int)+1)=((k+1:Nat):Int):=by rw [zd (by unfold I64;omega)];omega
  have hsr:=hr.1 _ (List.getElem_mem c1)
  refine ⟨c1,by simp [Seg.c],?_⟩
  refine AllocQ.i0 fun i hi => ?_
  simp only [Seg.c,Store.set_set,↓vcPre,↓z0,↓reduceIte,vcPost,vcStd,Nat.reduceEqDiff,reduceCtorEq,Nat.reduceAdd,Nat.reduceLeDiff,Int.reduceLT,Int.reduceLE,↓u_setN]
  have hT:=hW.with (b:=i) (o := .box [.int .i64 l[k].kind,.sl 1 (l[k].ls.map cU)]) hi
  have hτi:σ i=none:=zm hW.2.1 hi
  have hTi:(σ.set i (.box [.int .i64 l[k].kind,.sl 1 (l[k].ls.map cU)])) i=some (.box [.int .i64 l[k].kind,.sl 1 (l[k].ls.map cU)]):=Store.set_same _ _ _
  have hσT:Store.sub σ (σ.set i (.box [.int .i64 l[k].kind,.sl 1 (l[k].ls.map cU)])):=Store.sub_set _ _ _ hτi
  generalize σ.set i (.box [.int .i64 l[k].kind,.sl 1 (l[k].ls.map cU)])=σ' at hT hTi hσT
  generalize s.set i (.box [.int .i64 l[k].kind,.sl 1 (l[k].ls.map cU)])=T at hT ⊢
  refine (z0c hT (by omega) _).Q ?_
  rintro r s1 ⟨rfl,h1⟩
  simp only [h1.2.1 _ _ hTi,↓vcPre,↓z0,↓reduceIte,vcPost,vcStd,Nat.reduceEqDiff,reduceCtorEq,Nat.reduceAdd,Nat.reduceLeDiff,Int.reduceLT,Int.reduceLE,↓u_setN]
  refine (z0c h1 (by simp [be1];omega) _).Q ?_
  rintro r s2 ⟨rfl,h2⟩
  simp only [h2.2.1 _ _ hTi,↓vcPre,↓z0,↓reduceIte,vcPost,vcStd,Nat.reduceEqDiff,reduceCtorEq,Nat.reduceAdd,Nat.reduceLeDiff,Int.reduceLT,Int.reduceLE,↓u_setN]
  have hseg:=hsr.2.2
  refine LoopQ.inv (S:=Nat×Store) (fun q=>[(4,.ptr id 0),(13,.sl 2 (l.map Seg.c)),(14,.int .i64 (l.length:Int)),(15,.int .i64 (k:Int)),(29,.sl 1 (l[k].ls.map cU)),(30,.int .i64 (l[k].ls.length:Int)),(31,.int .i64 (q.1:Int))]) (fun q=>q.2) (fun q=>q.1≤l[k].ls.length∧WI σ' id (encPath (l.take k)++beN 1 (IntKind.u64.wrap l[k].kind)++beN 1 (IntKind.u64.wrap (l[k].ls.length:Int))++encW (l[k].ls.take q.1)) q.2) (fun q=>l[k].ls.length+1 - q.1) (0,s2) rfl (Store.sub_refl _) ⟨by simp only;omega,by simpa [encW] using h2⟩ ?_
  rintro ⟨j,s3⟩ ⟨hj,h3⟩
  simp only at hj h3
  simp only [↓vcPre,↓z0,↓reduceIte,vcPost,vcStd,Nat.reduceEqDiff,reduceCtorEq,Nat.reduceAdd,Nat.reduceLeDiff,Int.reduceLT,Int.reduceLE,↓u_setN]
  have hle:=yi (l[k].ls.take j)
  rw [List.length_take] at hle
  refine ⟨fun d1 => ?_,fun d1 => ?_⟩
  ·have ej:IntKind.i64.wrap ((j:Int)+1)=((j+1:Nat):Int):=by rw [zd (by unfold I64;omega)];omega
   refine ⟨d1,by simp [cU],?_⟩
   simp only [cU,↓vcPre,↓z0,↓reduceIte,vcPost,vcStd,Nat.reduceEqDiff,reduceCtorEq,Nat.reduceAdd,Nat.reduceLeDiff,Int.reduceLT,Int.reduceLE,↓u_setN]
   refine (zbv h3 (by simp [be1];omega) _).Q ?_
   rintro r s4 ⟨rfl,h4⟩
   simp only [↓vcPre,↓z0,↓reduceIte,vcPost,vcStd,Nat.reduceEqDiff,reduceCtorEq,Nat.reduceAdd,Nat.reduceLeDiff,Int.reduceLT,Int.reduceLE,↓u_setN]
   rw [ej]
   rw [be4] at h4
   exact NextQ.to (j+1,s4) rfl (Store.sub_refl _) (by simp only;omega) ⟨by simp only;omega,by rw [vj _ _ d1,←List.append_assoc];exact h4⟩
  ·have e:l[k].ls.take j=l[k].ls:=List.take_of_length_le (by omega)
   rw [e] at h3
   rw [ek]
   refine NextQ.to (k+1,s3) rfl (Store.sub_refl _) (by simp only;omega) ⟨by simp only;omega,?_⟩
   simp only
   rw [uw _ _ c1]
   simp only [be1] at h3
   simp only [encSeg,List.append_assoc,List.cons_append,List.nil_append] at h3 ⊢
   exact h3.weak hσT
 ·have e:l.take k=l:=List.take_of_length_le (by omega)
  rw [e] at hW hlen
  refine (z53 hW (by omega)).Q ?_
  rintro r s' ⟨rfl,rfl⟩
  simp only [↓vcPre,↓z0,↓reduceIte,vcPost,vcStd,Nat.reduceEqDiff,reduceCtorEq,Nat.reduceAdd,Nat.reduceLeDiff,Int.reduceLT,Int.reduceLE,↓u_setN]
  exact EndQ.to _ _ rfl hW.2.1 ⟨rfl,rfl⟩
theorem z95 {a:At} (h:atRight a):(encA a).length≤20000:=by
 obtain ⟨r1,r2,r3,r4,r5,r6,r7⟩:=h
 have h1:=u0 r2
 have h2:=yi a.cms
 unfold encA
 simp only [List.length_append]
 have ol:∀ fl k v,(oneA fl k v).length≤4+v.length:=fun fl k v=>by rw [z2p];split <;> omega
 have o1:=ol 64 1 [a.org % 256]
 have o2:=ol 64 2 (encPath a.path)
 have o3:=ol 64 3 (b4 a.nxt)
 have o4:=ol 128 4 (b4 a.med)
 have o5:=ol 64 5 (b4 a.prf)
 have o6:=ol 64 6 []
 have o8:=ol 192 8 (encW a.cms)
 have hb:∀ n,(b4 n).length=4:=fun _=>rfl
 simp only [hb,List.length_cons,List.length_nil] at o1 o2 o3 o4 o5 o6 o8
 split <;> split <;> split <;> split <;> (try simp only [List.length_nil]) <;> omega
def boxC (a:At):Obj := .box [.int .i64 a.org,.sl 2 (a.path.map Seg.c),.int .u32 a.nxt,.bool a.hm,.int .u32 a.med,.bool a.hp,.int .u32 a.prf,.bool a.atm,.sl 1 (a.cms.map cU)]
theorem y5 (fl k:Int) (v:List Int):(oneA fl k v).length≤4+v.length:=by rw [z2p];split <;> omega
theorem yv (n:Int):(b4 n).length=4:=rfl
theorem z4q (n:Int):encW [n]=b4 n:=by simp [encW]
theorem z1y (a:At) (ha:a.ok) (h8:a.cms.length≤32) {T s:Store} {i id:Nat} {L:List Int} (hTi:T i=some (boxC a)) (h:WI T id L s) (hL:L.length≤100000) {n r:Env→Store→Prop} {x:Nat→Env→Store→Prop}
 (hr:∀ s',Store.sub T s'→r [(2,.sl 1 ((L++(if a.cms=[] then [] else oneA 192 8 (encW a.cms))).map cB)),(3,.int .i64 0)] s'):bwp Tryz.prog Tsi.t78_52 [(1,.ptr i 0),(4,.ptr id 0)] s n r x:=by
 simp only [Tsi.t78_52]
 have hi:=h.2.1 _ _ hTi
 simp only [hi,boxC,↓vcPre,↓z0,↓reduceIte,vcPost,vcStd,Nat.reduceEqDiff,reduceCtorEq,Nat.reduceAdd,Nat.reduceLeDiff,Int.reduceLT,Int.reduceLE,↓u_setN]
 have hc:=yi a.cms
 refine ⟨fun c1 => ?_,fun c1 => ?_⟩
 ·refine (z54 (l:=a.cms) Rd.sl (by omega)).Q ?_
  rintro r' s' ⟨rfl,rfl⟩
  simp only [↓vcPre,↓z0,↓reduceIte,vcPost,vcStd,Nat.reduceEqDiff,reduceCtorEq,Nat.reduceAdd,Nat.reduceLeDiff,Int.reduceLT,Int.reduceLE,↓u_setN]
  refine (z0d h 8 (by decide) Rd.sl (by omega) (by omega)).Q ?_
  rintro r' s1 ⟨rfl,h1⟩
  simp only [↓vcPre,↓z0,↓reduceIte,vcPost,vcStd,Nat.reduceEqDiff,reduceCtorEq,Nat.reduceAdd,Nat.reduceLeDiff,Int.reduceLT,Int.reduceLE,↓u_setN]
  have hl:=y5 (wantOf 8) 8 (encW a.cms)
  refine (z53 h1 (by rw [List.length_append];omega)).Q ?_
  rintro r' s2 ⟨rfl,rfl⟩
  simp only [↓vcPre,↓z0,↓reduceIte,vcPost,vcStd,Nat.reduceEqDiff,reduceCtorEq,Nat.reduceAdd,Nat.reduceLeDiff,Int.reduceLT,Int.reduceLE,↓u_setN]
  have:=hr s2 h1.2.1
  rw [if_neg (fun e=>by rw [e] at c1;simp at c1)] at this
  exact this
 ·refine (z53 h (by omega)).Q ?_
  rintro r' s2 ⟨rfl,rfl⟩
  simp only [↓vcPre,↓z0,↓reduceIte,vcPost,vcStd,Nat.reduceEqDiff,reduceCtorEq,Nat.reduceAdd,Nat.reduceLeDiff,Int.reduceLT,Int.reduceLE,↓u_setN]
  have:=hr s2 h.2.1
  rw [if_pos (List.length_eq_zero_iff.1 (by omega)),List.append_nil] at this
  exact this
theorem z1x (a:At) (ha:a.ok) (h8:a.cms.length≤32) {T s:Store} {i id:Nat} {L:List Int} (hTi:T i=some (boxC a)) (h:WI T id L s) (hL:L.length≤90000) {n r:Env→Store→Prop} {x:Nat→Env→Store→Prop}
 (hr:∀ s',Store.sub T s'→r [(2,.sl 1 ((L++(if a.atm then oneA 64 6 [] else [])++(if a.cms=[] then [] else oneA 192 8 (encW a.cms))).map cB)),(3,.int .i64 0)] s'):bwp Tryz.prog Tsi.t78_48 [(1,.ptr i 0),(4,.ptr id 0)] s n r x:=by
 simp only [Tsi.t78_48]
 have hi:=h.2.1 _ _ hTi
 cases g:a.atm
 ·simp only [hi,boxC,g,↓vcPre,↓z0,↓reduceIte,vcPost,vcStd,Nat.reduceEqDiff,reduceCtorEq,Nat.reduceAdd,Nat.reduceLeDiff,Int.reduceLT,Int.reduceLE,↓u_setN]
  refine z1y a ha h8 hTi h (by omega) fun s' hs' => ?_
  have:=hr s' hs'
  rw [g] at this
  simpa using this
 ·simp only [hi,boxC,g,↓vcPre,↓z0,↓reduceIte,vcPost,vcStd,Nat.reduceEqDiff,reduceCtorEq,Nat.reduceAdd,Nat.reduceLeDiff,Int.reduceLT,Int.reduceLE,↓u_setN]
  refine (z0d h 6 (by decide) (M:=[]) Rd.nils (by omega) (by simp)).Q ?_
  rintro r' s1 ⟨rfl,h1⟩
  simp only [↓vcPre,↓z0,↓reduceIte,vcPost,vcStd,Nat.reduceEqDiff,reduceCtorEq,Nat.reduceAdd,Nat.reduceLeDiff,Int.reduceLT,Int.reduceLE,↓u_setN]
  refine z1y a ha h8 hTi h1 (by have:=y5 (wantOf 6) 6 [];simp at this ⊢;omega) fun s' hs' => ?_
  have:=hr s' hs'
  rw [g] at this
  exact this
theorem z1w (a:At) (ha:a.ok) (h8:a.cms.length≤32) {T s:Store} {i id:Nat} {L:List Int} (hTi:T i=some (boxC a)) (h:WI T id L s) (hL:L.length≤80000) {n r:Env→Store→Prop} {x:Nat→Env→Store→Prop}
 (hr:∀ s',Store.sub T s'→r [(2,.sl 1 ((L++(if a.hp then oneA 64 5 (b4 a.prf) else [])++(if a.atm then oneA 64 6 [] else [])++(if a.cms=[] then [] else oneA 192 8 (encW a.cms))).map cB)),(3,.int .i64 0)] s'):bwp Tryz.prog Tsi.t78_40 [(1,.ptr i 0),(4,.ptr id 0)] s n r x:=by
 simp only [Tsi.t78_40]
 have hi:=h.2.1 _ _ hTi
 cases g:a.hp
 ·simp only [hi,boxC,g,↓vcPre,↓z0,↓reduceIte,vcPost,vcStd,Nat.reduceEqDiff,reduceCtorEq,Nat.reduceAdd,Nat.reduceLeDiff,Int.reduceLT,Int.reduceLE,↓u_setN]
  refine z1x a ha h8 hTi h (by omega) fun s' hs' => ?_
  have:=hr s' hs'
  rw [g] at this
  simpa using this
 ·have hTi5:=(h).2.1 _ _ hTi
  simp only [hTi5,boxC,g,↓vcPre,↓z0,↓reduceIte,vcPost,vcStd,Nat.reduceEqDiff,reduceCtorEq,Nat.reduceAdd,Nat.reduceLeDiff,Int.reduceLT,Int.reduceLE,↓u_setN]
  refine AllocQ.i0 fun b hb => ?_
  simp only [↓vcPre,↓z0,↓reduceIte,vcPost,vcStd,Nat.reduceEqDiff,reduceCtorEq,Nat.reduceAdd,Nat.reduceLeDiff,Int.reduceLT,Int.reduceLE,↓u_setN]
  refine (z54 (l:=[a.prf]) (Rd.os (L:=[a.prf].map cU) (Store.set_same _ _ _)) (by simp)).Q ?_
  rintro r s' ⟨rfl,rfl⟩
  rw [z4q]
  simp only [↓vcPre,↓z0,↓reduceIte,vcPost,vcStd,Nat.reduceEqDiff,reduceCtorEq,Nat.reduceAdd,Nat.reduceLeDiff,Int.reduceLT,Int.reduceLE,↓u_setN]
  have hw:=(h).mono (Store.sub_set _ b (.arr 1 [[.int .u32 a.prf]]) hb)
  refine (z0d hw 5 (by decide) Rd.sl (by omega) (by rw [yv];omega)).Q ?_
  rintro r s1 ⟨rfl,h1⟩
  have hl5:=y5 (wantOf 5) 5 (b4 a.prf)
  rw [yv] at hl5
  simp only [↓vcPre,↓z0,↓reduceIte,vcPost,vcStd,Nat.reduceEqDiff,reduceCtorEq,Nat.reduceAdd,Nat.reduceLeDiff,Int.reduceLT,Int.reduceLE,↓u_setN]
  refine z1x a ha h8 hTi h1 (by rw [List.length_append];omega) fun s' hs' => ?_
  have:=hr s' hs'
  rw [g] at this
  exact this
theorem z6f (a:At) (ha:a.ok) (h8:a.cms.length≤32) {T s:Store} {i id:Nat} {L:List Int} (hTi:T i=some (boxC a)) (h:WI T id L s) (hL:L.length≤70000) {n r:Env→Store→Prop} {x:Nat→Env→Store→Prop}
 (hr:∀ s',Store.sub T s'→r [(2,.sl 1 ((L++(if a.hm then oneA 128 4 (b4 a.med) else [])++(if a.hp then oneA 64 5 (b4 a.prf) else [])++(if a.atm then oneA 64 6 [] else [])++(if a.cms=[] then [] else oneA 192 8 (encW a.cms))).map cB)),(3,.int .i64 0)] s'):bwp Tryz.prog Tsi.t78_32 [(1,.ptr i 0),(4,.ptr id 0)] s n r x:=by
 simp only [Tsi.t78_32]
 have hi:=h.2.1 _ _ hTi
 cases g:a.hm
 ·simp only [hi,boxC,g,↓vcPre,↓z0,↓reduceIte,vcPost,vcStd,Nat.reduceEqDiff,reduceCtorEq,Nat.reduceAdd,Nat.reduceLeDiff,Int.reduceLT,Int.reduceLE,↓u_setN]
  refine z1w a ha h8 hTi h (by omega) fun s' hs' => ?_
  have:=hr s' hs'
  rw [g] at this
  simpa using this
 ·have hTi4:=(h).2.1 _ _ hTi
  simp only [hTi4,boxC,g,↓vcPre,↓z0,↓reduceIte,vcPost,vcStd,Nat.reduceEqDiff,reduceCtorEq,Nat.reduceAdd,Nat.reduceLeDiff,Int.reduceLT,Int.reduceLE,↓u_setN]
  refine AllocQ.i0 fun b hb => ?_
  simp only [↓vcPre,↓z0,↓reduceIte,vcPost,vcStd,Nat.reduceEqDiff,reduceCtorEq,Nat.reduceAdd,Nat.reduceLeDiff,Int.reduceLT,Int.reduceLE,↓u_setN]
  refine (z54 (l:=[a.med]) (Rd.os (L:=[a.med].map cU) (Store.set_same _ _ _)) (by simp)).Q ?_
  rintro r s' ⟨rfl,rfl⟩
  rw [z4q]
  simp only [↓vcPre,↓z0,↓reduceIte,vcPost,vcStd,Nat.reduceEqDiff,reduceCtorEq,Nat.reduceAdd,Nat.reduceLeDiff,Int.reduceLT,Int.reduceLE,↓u_setN]
  have hw:=(h).mono (Store.sub_set _ b (.arr 1 [[.int .u32 a.med]]) hb)
  refine (z0d hw 4 (by decide) Rd.sl (by omega) (by rw [yv];omega)).Q ?_
  rintro r s1 ⟨rfl,h1⟩
  have hl4:=y5 (wantOf 4) 4 (b4 a.med)
  rw [yv] at hl4
  simp only [↓vcPre,↓z0,↓reduceIte,vcPost,vcStd,Nat.reduceEqDiff,reduceCtorEq,Nat.reduceAdd,Nat.reduceLeDiff,Int.reduceLT,Int.reduceLE,↓u_setN]
  refine z1w a ha h8 hTi h1 (by rw [List.length_append];omega) fun s' hs' => ?_
  have:=hr s' hs'
  rw [g] at this
  exact this
set_option maxHeartbeats 600000 in
theorem c78 (a:At) (ha:a.ok):Pur Tryz.prog 78 [.agg a.c] (.tup [.sl 1 ((if atRight a then encA a else []).map cB),.int .i64 (if atRight a then 0 else 12)]):=by
 intro σ
 refine zk Tsi.F78 (by simp [Tsi.F78,Fn.mkX]) ?_
 simp only [Tsi.F78,Fn.mkX,Tsi.b78]
 simp only [↓vcPre,↓z0,↓reduceIte,vcPost,vcStd,Nat.reduceEqDiff,reduceCtorEq,Nat.reduceAdd,Nat.reduceLeDiff,Int.reduceLT,Int.reduceLE,↓u_setN]
 refine AllocQ.i0 fun i hi => ?_
 have e9:∀ x:At,x.c.length=9:=fun _=>rfl
 have t9:∀ x:At,List.take 9 x.c=x.c:=fun _=>rfl
 simp only [e9,t9,Nat.le_refl,↓vcPre,↓z0,↓reduceIte,vcPost,vcStd,Nat.reduceEqDiff,reduceCtorEq,Nat.reduceAdd,Nat.reduceLeDiff,Int.reduceLT,Int.reduceLE,↓u_setN]
 have hsb:=Store.sub_set σ i (.box a.c) hi
 have hTi:(σ.set i (.box a.c)) i=some (boxC a):=Store.set_same _ _ _
 generalize σ.set i (.box a.c)=T at hsb hTi ⊢
 refine (c72 a ha).Q ?_
 by_cases hr:atRight a
 case neg =>
  rw [decide_eq_false hr]
  simp only [↓vcPre,↓z0,↓reduceIte,vcPost,vcStd,Nat.reduceEqDiff,reduceCtorEq,Nat.reduceAdd,Nat.reduceLeDiff,Int.reduceLT,Int.reduceLE,↓u_setN]
  rw [if_neg hr,if_neg hr]
  exact EndQ.twoNil (.int .i64 12) 1 σ rfl hsb ⟨rfl,rfl⟩
 rw [decide_eq_true hr,if_pos hr,if_pos hr]
 have hall:=z95 hr
 obtain ⟨r1,r2,r3,r4,r5,r6,r7⟩:=id hr
 have hpl:=u0 r2
 simp only [↓vcPre,↓z0,↓reduceIte,vcPost,vcStd,Nat.reduceEqDiff,reduceCtorEq,Nat.reduceAdd,Nat.reduceLeDiff,Int.reduceLT,Int.reduceLE,↓u_setN]
 refine (z81 T).Q ?_
 rintro r s0 ⟨id,rfl,h0⟩
 have hT0:=h0.2.1 _ _ hTi
 simp only [hT0,boxC,↓vcPre,↓z0,↓reduceIte,vcPost,vcStd,Nat.reduceEqDiff,reduceCtorEq,Nat.reduceAdd,Nat.reduceLeDiff,Int.reduceLT,Int.reduceLE,↓u_setN]
 refine AllocQ.i0 fun b hb => ?_
 simp only [↓vcPre,↓z0,↓reduceIte,vcPost,vcStd,Nat.reduceEqDiff,reduceCtorEq,Nat.reduceAdd,Nat.reduceLeDiff,Int.reduceLT,Int.reduceLE,↓u_setN]
 refine (z0d (h0.with (o := .arr 1 [cB (IntKind.u8.wrap a.org)]) hb) 1 (by decide) (M:=[IntKind.u8.wrap a.org]) (Rd.os (Store.set_same _ _ _)) (by simp) (by simp)).Q ?_
 rintro r s1 ⟨rfl,h1⟩
 have h1:=h1.weak (Store.sub_set _ _ _ (zm h0.2.1 hb))
 have hl1:=y5 (wantOf 1) 1 [IntKind.u8.wrap a.org]
 have hT1:=h1.2.1 _ _ hTi
 simp only [hT1,boxC,↓vcPre,↓z0,↓reduceIte,vcPost,vcStd,Nat.reduceEqDiff,reduceCtorEq,Nat.reduceAdd,Nat.reduceLeDiff,Int.reduceLT,Int.reduceLE,↓u_setN]
 refine (zfn a.path ha.1 r2).Q ?_
 simp only [↓vcPre,↓z0,↓reduceIte,vcPost,vcStd,Nat.reduceEqDiff,reduceCtorEq,Nat.reduceAdd,Nat.reduceLeDiff,Int.reduceLT,Int.reduceLE,↓u_setN]
 refine (z0d h1 2 (by decide) Rd.sl (by simp at hl1 ⊢;omega) (by omega)).Q ?_
 rintro r s2 ⟨rfl,h2⟩
 have hl2:=y5 (wantOf 2) 2 (encPath a.path)
 have hlen2:([]++oneA (wantOf 1) 1 [IntKind.u8.wrap a.org]++oneA (wantOf 2) 2 (encPath a.path)).length≤20000:=by simp at hl1 hl2 ⊢;omega
 simp only [↓vcPre,↓z0,↓reduceIte,vcPost,vcStd,Nat.reduceEqDiff,reduceCtorEq,Nat.reduceAdd,Nat.reduceLeDiff,Int.reduceLT,Int.reduceLE,↓u_setN]
 have hTi2:=(h2).2.1 _ _ hTi
 simp only [hTi2,boxC,e9,↓vcPre,↓z0,↓reduceIte,vcPost,vcStd,Nat.reduceEqDiff,reduceCtorEq,Nat.reduceAdd,Nat.reduceLeDiff,Int.reduceLT,Int.reduceLE,↓u_setN]
 refine AllocQ.i0 fun b hb => ?_
 simp only [↓vcPre,↓z0,↓reduceIte,vcPost,vcStd,Nat.reduceEqDiff,reduceCtorEq,Nat.reduceAdd,Nat.reduceLeDiff,Int.reduceLT,Int.reduceLE,↓u_setN]
 refine (z54 (l:=[a.nxt]) (Rd.os (L:=[a.nxt].map cU) (Store.set_same _ _ _)) (by simp)).Q ?_
 rintro r s' ⟨rfl,rfl⟩
 rw [z4q]
 simp only [↓vcPre,↓z0,↓reduceIte,vcPost,vcStd,Nat.reduceEqDiff,reduceCtorEq,Nat.reduceAdd,Nat.reduceLeDiff,Int.reduceLT,Int.reduceLE,↓u_setN]
 have hw:=(h2).mono (Store.sub_set _ b (.arr 1 [[.int .u32 a.nxt]]) hb)
 refine (z0d hw 3 (by decide) Rd.sl (by omega) (by rw [yv];omega)).Q ?_
 rintro r s3 ⟨rfl,h3⟩
 have hl2:=y5 (wantOf 3) 3 (b4 a.nxt)
 rw [yv] at hl2
 simp only [↓vcPre,↓z0,↓reduceIte,vcPost,vcStd,Nat.reduceEqDiff,reduceCtorEq,Nat.reduceAdd,Nat.reduceLeDiff,Int.reduceLT,Int.reduceLE,↓u_setN]
 refine z6f a ha r6 hTi h3 (by rw [List.length_append];omega) fun s' hs' => ?_
 refine EndQ.to _ _ rfl (Store.sub_trans hsb hs') ⟨rfl,?_⟩
 simp only [encA,u8w,List.nil_append]
 rfl
end Go.Am
