/- A part of the proof: a logic for calls over plain values, and the functions that the law reaches, each walked once. -/
import Derived.Test.YtholebikgpnmlaaPC12
import Derived.Shelf.Spec.SlicesInsertGrow
import Derived.Test.YtholebikgpnmlaaProg
set_option linter.unusedVariables false
set_option linter.unusedSimpArgs false
set_option linter.unusedSectionVars false
namespace Go.Am
open Go.Proofs Go.Sort
def sideF (b:Bool):Int:=if b then -1 else 1
theorem c56 (b:Bool):Pur Try.prog 56 [.bool b] (.int .i64 (sideF b)):=by
 refine zo Tst.F56 (by simp [Tst.F56,Fn.mkX]) fun σ => ?_
 simp only [Tst.F56,Fn.mkX,Tst.b56]
 cases b <;> simp only [↓vcPre,↓z0,↓reduceIte,vcPost,vcStd,Nat.reduceEqDiff,reduceCtorEq,Nat.reduceAdd,Nat.reduceLeDiff,Int.reduceLT,Int.reduceLE,↓u_setN] <;> rfl
theorem c47 (l m:List Int) (h:l.length≤1000000):Pur Try.prog 47 [.sl 1 (l.map cU),.sl 1 (m.map cU)] (.bool (decide (l=m))):=by
 refine zo Tst.F47 (by simp [Tst.F47,Fn.mkX]) fun σ => ?_
 simp only [Tst.F47,Fn.mkX,Tst.b47]
 simp only [↓vcPre,↓z0,↓reduceIte,vcPost,vcStd,Nat.reduceEqDiff,reduceCtorEq,Nat.reduceAdd,Nat.reduceLeDiff,Int.reduceLT,Int.reduceLE,↓u_setN]
 refine ⟨fun h1=>(decide_eq_false (fun e=>h1 (by rw [e]))).symm,fun h1 => ?_⟩
 have hl:l.length=m.length:=by omega
 refine LoopQ.inv (S:=Nat) (fun k=>[(0,.sl 1 (l.map cU)),(1,.sl 1 (m.map cU)),(5,.int .i64 (k:Int))]) (fun _=>σ) (fun k=>k≤l.length∧∀ i (hi:i<l.length),i<k→l[i]=m[i]'(by omega)) (fun k=>l.length+1 - k) 0 rfl (Store.sub_refl _) ⟨by omega,fun i _ h=>by omega⟩ ?_
 rintro k ⟨hk,hp⟩
 simp only [↓vcPre,↓z0,↓reduceIte,vcPost,vcStd,Nat.reduceEqDiff,reduceCtorEq,Nat.reduceAdd,Nat.reduceLeDiff,Int.reduceLT,Int.reduceLE,↓u_setN]
 refine ⟨fun c1 => ?_,fun c1 => ?_⟩
 ·have ek:IntKind.i64.wrap ((k:Int)+1)=((k+1:Nat):Int):=by rw [zg (by unfold I64;omega)];omega
  refine ⟨c1,by omega,by simp [cU],?_⟩
  simp only [cU,↓vcPre,↓z0,↓reduceIte,vcPost,vcStd,Nat.reduceEqDiff,reduceCtorEq,Nat.reduceAdd,Nat.reduceLeDiff,Int.reduceLT,Int.reduceLE,↓u_setN]
  refine ⟨fun g1 => ?_,fun g1 => ?_⟩
  ·refine (decide_eq_false fun e=>g1 ?_).symm
   subst e;rfl
  ·rw [ek]
   refine NextQ.to (k+1) rfl (Store.sub_refl _) (by omega) ⟨by omega,fun i hi hik => ?_⟩
   by_cases hik':i=k
   ·subst hik';exact g1
   ·exact hp i hi (by omega)
 ·exact (decide_eq_true (List.ext_getElem hl fun i hi hi'=>hp i hi (by omega))).symm
theorem c32 (l m:List Seg) (hl:l.length≤1000000) (hm:m.length≤1000000) (hlo:∀ s ∈ l,s.ok) (hmo:∀ s ∈ m,s.ok):Pur Try.prog 32 [.sl 2 (l.map Seg.c),.sl 2 (m.map Seg.c)] (.int .i64 (cmpPath l m)):=by
 refine zo Tst.F32 (by simp [Tst.F32,Fn.mkX]) fun σ => ?_
 simp only [Tst.F32,Fn.mkX,Tst.b32]
 simp only [↓vcPre,↓z0,↓reduceIte,vcPost,vcStd,Nat.reduceEqDiff,reduceCtorEq,Nat.reduceAdd,Nat.reduceLeDiff,Int.reduceLT,Int.reduceLE,↓u_setN]
 refine LoopQ.inv (S:=Nat) (fun k=>[(0,.sl 2 (l.map Seg.c)),(1,.sl 2 (m.map Seg.c)),(5,.int .i64 (k:Int))]) (fun _=>σ) (fun k=>k≤l.length∧k≤m.length∧cmpG cmpSeg (l.drop k) (m.drop k)=cmpPath l m) (fun k=>l.length+1 - k) 0 rfl (Store.sub_refl _) ⟨by omega,by omega,rfl⟩ ?_
 rintro k ⟨hk,hk2,ho⟩
 simp only [↓vcPre,↓z0,↓reduceIte,vcPost,vcStd,Nat.reduceEqDiff,reduceCtorEq,Nat.reduceAdd,Nat.reduceLeDiff,Int.reduceLT,Int.reduceLE,↓u_setN]
 have hside:∀ x y:Int,x≠y→sideF (decide (x<y))=cmpI x y:=fun x y h=>by
  unfold sideF cmpI
  by_cases h1:x<y
  ·simp [h1]
  ·have h2:y<x:=by omega
   simp [h1,h2]
 have he1:(k=l.length∨k=m.length)→¬ (l.length:Int)=(m.length:Int)→sideF (decide (l.length<m.length))=cmpPath l m:=fun hkk h1=>by
  rw [←ho]
  by_cases h2:l.length<m.length
  ·rw [show List.drop k l=[] from List.drop_eq_nil_of_le (by omega),List.drop_eq_getElem_cons (l:=m) (by omega)]
   simp [sideF,cmpG,h2]
  ·rw [show List.drop k m=[] from List.drop_eq_nil_of_le (by omega),List.drop_eq_getElem_cons (l:=l) (by omega)]
   simp [sideF,cmpG,h2]
 have he2:(k=l.length∨k=m.length)→(l.length:Int)=(m.length:Int)→0=cmpPath l m:=fun hkk h1=>by
  rw [←ho,show List.drop k l=[] from List.drop_eq_nil_of_le (by omega),show List.drop k m=[] from List.drop_eq_nil_of_le (by omega)]
  rfl
 refine ⟨fun c1=>⟨fun c2 => ?_,fun c2 => ?_⟩,fun c1 => ?_⟩
 ·rw [List.drop_eq_getElem_cons c1,List.drop_eq_getElem_cons c2] at ho
  simp only [cmpG] at ho
  refine ⟨c1,c2,by simp [Seg.c],?_⟩
  have hxo:=hlo _ (List.getElem_mem c1)
  have hyo:=hmo _ (List.getElem_mem c2)
  have hc1:cmpSeg l[k] m[k]=orL [cmpI l[k].kind m[k].kind,cmpI l[k].ls.length m[k].ls.length,cmpG cmpI l[k].ls m[k].ls]:=rfl
  simp only [Seg.c,↓vcPre,↓z0,↓reduceIte,vcPost,vcStd,Nat.reduceEqDiff,reduceCtorEq,Nat.reduceAdd,Nat.reduceLeDiff,Int.reduceLT,Int.reduceLE,↓u_setN]
  refine ⟨fun g1=>⟨c1,c2,(c56 _).Q ?_⟩,fun g1=>⟨c1,c2,fun g2=>⟨c1,c2,(c56 _).Q ?_⟩,fun g2 => ?_⟩⟩
  ·have hz:cmpI l[k].kind m[k].kind≠0:=fun e=>g1 (cmpI_z.1 e)
   have h1:cmpSeg l[k] m[k]=cmpI l[k].kind m[k].kind:=by rw [hc1];simp only [orL];rw [if_neg hz]
   simp only [↓vcPre,↓z0,↓reduceIte,vcPost,vcStd,Nat.reduceEqDiff,reduceCtorEq,Nat.reduceAdd,Nat.reduceLeDiff,Int.reduceLT,Int.reduceLE,↓u_setN]
   rw [hside _ _ g1,←ho,if_neg (by rw [h1];exact hz),h1]
  ·have hz:cmpI l[k].ls.length m[k].ls.length≠0:=fun e=>g2 (cmpI_z.1 e)
   have h1:cmpSeg l[k] m[k]=cmpI l[k].ls.length m[k].ls.length:=by rw [hc1];simp only [orL];rw [if_pos (cmpI_z.2 g1),if_neg hz]
   have h2:=hside _ _ g2
   simp only [Int.ofNat_lt] at h2
   simp only [↓vcPre,↓z0,↓reduceIte,vcPost,vcStd,Nat.reduceEqDiff,reduceCtorEq,Nat.reduceAdd,Nat.reduceLeDiff,Int.reduceLT,Int.reduceLE,↓u_setN]
   rw [h2,←ho,if_neg (by rw [h1];exact hz),h1]
  ·have h1:cmpSeg l[k] m[k]=cmpG cmpI l[k].ls m[k].ls:=by
    rw [hc1];simp only [orL];rw [if_pos (cmpI_z.2 g1),if_pos (cmpI_z.2 g2)]
    split
    ·rename_i h;rw [h]
    ·rfl
   rw [h1] at ho
   unfold Seg.ok at hxo hyo
   refine LoopQ.inv (S:=Nat) (fun j=>[(0,.sl 2 (l.map Seg.c)),(1,.sl 2 (m.map Seg.c)),(5,.int .i64 (k:Int)),(6,.int .i64 (j:Int))]) (fun _=>σ) (fun j=>j≤l[k].ls.length∧cmpG cmpI (l[k].ls.drop j) (m[k].ls.drop j)=cmpG cmpI l[k].ls m[k].ls) (fun j=>l[k].ls.length+1 - j) 0 rfl (Store.sub_refl _) ⟨by omega,rfl⟩ ?_
   rintro j ⟨hj,hjo⟩
   simp only [Seg.c,↓vcPre,↓z0,↓reduceIte,vcPost,vcStd,Nat.reduceEqDiff,reduceCtorEq,Nat.reduceAdd,Nat.reduceLeDiff,Int.reduceLT,Int.reduceLE,↓u_setN]
   have hjl:IntKind.i64.wrap ((j:Int)+1)=((j+1:Nat):Int):=by rw [zg (by unfold I64;omega)];omega
   have hkl:IntKind.i64.wrap ((k:Int)+1)=((k+1:Nat):Int):=by rw [zg (by unfold I64;omega)];omega
   refine ⟨c1,fun d1 => ?_,fun d1 => ?_⟩
   ·have d2:j<m[k].ls.length:=by omega
    rw [List.drop_eq_getElem_cons d1,List.drop_eq_getElem_cons d2] at hjo
    simp only [cmpG] at hjo
    refine ⟨c1,c2,d1,by simp [cU],?_⟩
    simp only [cU,↓vcPre,↓z0,↓reduceIte,vcPost,vcStd,Nat.reduceEqDiff,reduceCtorEq,Nat.reduceAdd,Nat.reduceLeDiff,Int.reduceLT,Int.reduceLE,↓u_setN]
    refine ⟨d2,fun e1=>⟨c1,c2,d1,d2,(c56 _).Q ?_⟩,fun e1 => ?_⟩
    ·have hz:cmpI l[k].ls[j] m[k].ls[j]≠0:=fun e=>e1 (cmpI_z.1 e)
     rw [if_neg hz] at hjo
     simp only [↓vcPre,↓z0,↓reduceIte,vcPost,vcStd,Nat.reduceEqDiff,reduceCtorEq,Nat.reduceAdd,Nat.reduceLeDiff,Int.reduceLT,Int.reduceLE,↓u_setN]
     rw [hside _ _ e1,←ho,←hjo,if_neg hz]
    ·rw [if_pos (cmpI_z.2 e1)] at hjo
     rw [hjl]
     exact NextQ.to (j+1) rfl (Store.sub_refl _) (by omega) ⟨by omega,hjo⟩
   ·rw [show List.drop j l[k].ls=[] from List.drop_eq_nil_of_le (by omega),show List.drop j m[k].ls=[] from List.drop_eq_nil_of_le (by omega)] at hjo
    have h0:cmpG cmpI l[k].ls m[k].ls=0:=by rw [←hjo];rfl
    rw [if_pos h0] at ho
    rw [hkl]
    exact NextQ.to (k+1) rfl (Store.sub_refl _) (by omega) ⟨by omega,by omega,ho⟩
 ·refine ⟨fun h1=>(c56 _).Q ?_,he2 (by omega)⟩
  simp only [↓vcPre,↓z0,↓reduceIte,vcPost,vcStd,Nat.reduceEqDiff,reduceCtorEq,Nat.reduceAdd,Nat.reduceLeDiff,Int.reduceLT,Int.reduceLE,↓u_setN]
  rw [he1 (by omega) h1]
 ·refine ⟨fun h1=>(c56 _).Q ?_,he2 (by omega)⟩
  simp only [↓vcPre,↓z0,↓reduceIte,vcPost,vcStd,Nat.reduceEqDiff,reduceCtorEq,Nat.reduceAdd,Nat.reduceLeDiff,Int.reduceLT,Int.reduceLE,↓u_setN]
  rw [he1 (by omega) h1]
theorem z5w (p q:Bool):(p ==q)=decide (p=q):=by cases p <;> cases q <;> rfl
theorem c18 (a b:At) (ha:a.ok) (hb:b.ok):Pur Try.prog 18 [.agg a.c,.agg b.c] (.bool (decide (a=b))):=by
 refine zo Tst.F18 (by simp [Tst.F18,Fn.mkX]) fun σ => ?_
 simp only [Tst.F18,Fn.mkX,Tst.b18,At.c]
 simp only [↓vcPre,↓z0,↓reduceIte,vcPost,vcStd,Nat.reduceEqDiff,reduceCtorEq,Nat.reduceAdd,Nat.reduceLeDiff,Int.reduceLT,Int.reduceLE,↓u_setN]
 refine AllocQ.i0 fun i hi => ?_
 simp only [↓vcPre,↓z0,↓reduceIte,vcPost,vcStd,Nat.reduceEqDiff,reduceCtorEq,Nat.reduceAdd,Nat.reduceLeDiff,Int.reduceLT,Int.reduceLE,↓u_setN]
 refine AllocQ.i1 fun j hj1 hj2 hj => ?_
 simp only [hj1,hj2,↓vcPre,↓z0,↓reduceIte,vcPost,vcStd,Nat.reduceEqDiff,reduceCtorEq,Nat.reduceAdd,Nat.reduceLeDiff,Int.reduceLT,Int.reduceLE,↓u_setN]
 have hsub:=zj (s:=σ) (o:=(Obj.box [AV.int IntKind.i64 a.org,AV.sl 2 (List.map Seg.c a.path),AV.int IntKind.u32 a.nxt,AV.bool a.hm,AV.int IntKind.u32 a.med,AV.bool a.hp,AV.int IntKind.u32 a.prf,AV.bool a.atm,AV.sl 1 (List.map cU a.cms)])) (p:=(Obj.box [AV.int IntKind.i64 b.org,AV.sl 2 (List.map Seg.c b.path),AV.int IntKind.u32 b.nxt,AV.bool b.hm,AV.int IntKind.u32 b.med,AV.bool b.hp,AV.int IntKind.u32 b.prf,AV.bool b.atm,AV.sl 1 (List.map cU b.cms)])) hi hj hj1
 refine ⟨fun g1=>(c32 _ _ ha.1 hb.1 ha.2.1 hb.2.1).Q ?_,fun g1=>⟨(decide_eq_false (by rintro rfl;exact g1 rfl)).symm,hsub⟩⟩
 simp only [hj1,hj2,z5w,↓vcPre,↓z0,↓reduceIte,vcPost,vcStd,Nat.reduceEqDiff,reduceCtorEq,Nat.reduceAdd,Nat.reduceLeDiff,Int.reduceLT,Int.reduceLE,↓u_setN]
 refine ⟨fun g2=>⟨fun g3=>⟨fun g4=>⟨fun g5=>⟨fun g6=>⟨fun g7=>⟨fun g8=>(c47 _ _ ha.2.2).Q ?_,fun g8=>⟨(decide_eq_false (by rintro rfl;exact g8 rfl)).symm,hsub⟩⟩,fun g7=>⟨(decide_eq_false (by rintro rfl;exact g7 rfl)).symm,hsub⟩⟩,fun g6=>⟨(decide_eq_false (by rintro rfl;exact g6 rfl)).symm,hsub⟩⟩,fun g5=>⟨(decide_eq_false (by rintro rfl;exact g5 rfl)).symm,hsub⟩⟩,fun g4=>⟨(decide_eq_false (by rintro rfl;exact g4 rfl)).symm,hsub⟩⟩,fun g3=>⟨(decide_eq_false (by rintro rfl;exact g3 rfl)).symm,hsub⟩⟩,fun g2=>⟨(decide_eq_false (by rintro rfl;exact g2 (cmpPath_z.2 rfl))).symm,hsub⟩⟩
 simp only [↓vcPre,↓z0,↓reduceIte,vcPost,vcStd,Nat.reduceEqDiff,reduceCtorEq,Nat.reduceAdd,Nat.reduceLeDiff,Int.reduceLT,Int.reduceLE,↓u_setN]
 refine ⟨?_,hsub⟩
 rw [Bool.eq_iff_iff,decide_eq_true_eq,decide_eq_true_eq]
 have g2':=cmpPath_z.1 g2
 constructor
 ·intro h;cases a;cases b;simp_all
 ·rintro rfl;rfl
theorem z0j:zeroAt.ok:=⟨by simp [zeroAt],by simp [zeroAt],by simp [zeroAt]⟩
end Go.Am
namespace Go.Am
theorem WeakL.freezeIn {as0:List AV} {σ:Store} {Q:List AV→Store→Prop} (k i j:Nat) {e2 id esz off len:Nat} {es cs:List (List AV)} (ha:as0[k]? = some (.sl e2 es)) (hi:i<es.length) (hj:j<es[i].length) (hc:es[i][j] = .os id esz off len)
 (hσ:σ id=some (.arr esz cs)) (hle:off+len≤cs.length)
 (h:WeakL (as0.set k (.sl e2 (es.set i (es[i].set j (.sl esz ((cs.drop off).take len)))))) (σ.del id) Q):WeakL as0 σ Q:=fun G w vs hs hr=>by
 obtain ⟨v,hv,hvr⟩:=hr.get k _ ha
 have key:∃ G',Ext G σ w G' (σ.del id) w∧Sim G' (σ.del id) w∧VRel G' w (.sl e2 (es.set i (es[i].set j (.sl esz ((cs.drop off).take len))))) v:=by
  cases hvr with
  | sl0=>simp at hi
  | sl f hb hne hcap hl hf hcell hvv =>
    have h0:=hvv i j hi hj
    rw [hc] at h0
    obtain ⟨G',h1,h2,h3⟩:=xa hs hσ hle h0
    refine ⟨G',h1,h2,?_⟩
    have hmem:∀ x ∈ es.set i (es[i].set j (.sl esz ((cs.drop off).take len))),x ∈ es∨x=es[i].set j (.sl esz ((cs.drop off).take len)):=fun x hx=>List.mem_or_eq_of_mem_set hx
    have hlen:(es.set i (es[i].set j (.sl esz ((cs.drop off).take len)))).length=es.length:=List.length_set
    have:=VRel.sl (G:=G') (w:=w) (esz:=e2) (es:=es.set i (es[i].set j (.sl esz ((cs.drop off).take len)))) f (h1.I _ hb) (by intro e;rw [e] at hlen;simp at hlen;omega) (by rw [hlen];exact hcap)
     (fun x hx=>by
       rcases hmem x hx with h | rfl
       ·exact hl x h
       ·rw [List.length_set];exact hl _ (List.getElem_mem hi))
     (fun x hx c hcx=>by
       rcases hmem x hx with h | rfl
       ·exact hf x h c hcx
       ·rcases List.mem_or_eq_of_mem_set hcx with h | rfl
        ·exact hf _ (List.getElem_mem hi) c h
        ·rfl)
     (fun a b hA hB=>hcell a b (by rw [←hlen];exact hA) hB)
     (fun a b hA hB=>by
       have hA':a<es.length:=by rw [←hlen];exact hA
       by_cases hai:a=i
       ·subst hai
        simp only [List.getElem_set_self] at hB ⊢
        by_cases hbj:b=j
        ·subst hbj
         simp only [List.getElem_set_self];exact h3
        ·rw [List.getElem_set_ne (fun e=>hbj e.symm)]
         exact h1.vrel hs (hvv a b hA' (by simpa using hB))
       ·simp only [List.getElem_set_ne (fun e=>hai e.symm)] at hB ⊢
        exact h1.vrel hs (hvv a b hA' hB))
    rw [hlen] at this
    exact this
 obtain ⟨G',h1,h2,h3⟩:=key
 obtain ⟨G'',as',σ',g1,g2,g3,g4⟩:=h G' w vs h2 (Rels.of_get (by simpa using hr.length) fun a ha' hi'=>by
  by_cases hik:a=k
  ·subst hik
   rw [List.getElem?_eq_getElem hi'] at hv;cases hv
   simp;exact h3
  ·rw [List.getElem_set_ne (Ne.symm hik)]
   have hi2:a<as0.length:=by simpa using ha'
   obtain ⟨u,hu,hur⟩:=hr.get a _ (List.getElem?_eq_getElem hi2)
   rw [List.getElem?_eq_getElem hi'] at hu;cases hu
   exact h1.vrel hs hur)
 exact ⟨G'',as',σ',h1.trans g1,g2,g3,g4⟩
end Go.Am
namespace Go.Am
open Go.Proofs Go.Sort
def delAll (s:Store) (gs:List Nat):Store:=gs.foldl Store.del s
theorem z09 {s:Store}:∀ {gs:List Nat} {x:Nat},x ∉ gs→delAll s gs x=s x
 | [],_,_=>rfl
 | g::gs,x,h=>by
   simp only [List.mem_cons,not_or] at h
   show delAll (s.del g) gs x=s x
   rw [z09 h.2,Store.del_ne _ h.1]
def segO (x:Seg) (g:Nat):List AV:=[.int .i64 x.kind,.os g 1 0 x.ls.length]
theorem z4h {Q:List AV→Store→Prop}:∀ (p:List Seg) (gs:List Nat) (pre:List (List AV)) (s:Store),gs.length=p.length→gs.Nodup →
 (∀ i (h:i<p.length) (h':i<gs.length),s gs[i]=some (.arr 1 (p[i].ls.map cU)))→WeakL [.sl 2 (pre++p.map Seg.c)] (delAll s gs) Q→WeakL [.sl 2 (pre++List.zipWith segO p gs)] s Q
 | [],[],pre,s,_,_,_,h=>h
 | [],_::_,_,_,hl,_,_,_=>by simp at hl
 | _::_,[],_,_,hl,_,_,_=>by simp at hl
 | x::p,g::gs,pre,s,hl,hn,hs,h=>by
   have h0:=hs 0 (by simp) (by simp)
   simp only [List.getElem_cons_zero] at h0
   rw [List.nodup_cons] at hn
   refine WeakL.freezeIn 0 pre.length 1 (id:=g) (esz:=1) (off:=0) (len:=x.ls.length) (cs:=x.ls.map cU) (es:=pre++List.zipWith segO (x::p) (g::gs)) rfl (by simp) (by simp [segO]) (by simp [segO]) h0 (by simp) ?_
   have e:(pre++List.zipWith segO (x::p) (g::gs)).set pre.length ((pre++List.zipWith segO (x::p) (g::gs))[pre.length]'(by simp) |>.set 1 (.sl 1 (((x.ls.map cU).drop 0).take x.ls.length)))=(pre++[x.c])++List.zipWith segO p gs:=by
    have ht:List.take x.ls.length (x.ls.map cU)=x.ls.map cU:=List.take_of_length_le (by simp)
    simp [segO,Seg.c,ht]
   rw [e]
   refine z4h p gs (pre++[x.c]) (s.del g) (by simpa using hl) hn.2 (fun i hi hi' => ?_) ?_
   ·rw [Store.del_ne _ (fun e=>hn.1 (by rw [←e];exact List.getElem_mem hi'))]
    have:=hs (i+1) (by simpa using hi) (by simpa using hi')
    simpa using this
   ·simpa [delAll] using h
def OwnP (τ:Store) (p:List Seg) (v:AV) (s:Store):Prop :=
 ∃ gs:List Nat,gs.length=p.length∧gs.Nodup∧(∀ g ∈ gs,τ g=none)∧(∀ i (h:i<p.length) (h':i<gs.length),s gs[i]=some (.arr 1 (p[i].ls.map cU)))∧Own 2 τ (List.zipWith segO p gs) v s
theorem OwnP.nil {τ s:Store}:OwnP τ [] .nils s:=⟨[],rfl,.nil,by simp,fun i h=>by simp at h,.nil⟩
theorem OwnP.app {bytes:Nat} {τ s0 s:Store} {p:List Seg} {x:Seg} {j:Nat} {v wv:AV} {K:AV→Store→Prop} (hτ:Store.sub τ s0) (h0:Store.sub s0 s) (ho:OwnP τ p v s0) (hj:s j=some (.arr 1 (x.ls.map cU))) (hj0:s0 j=none)
 (hw:slc s 2 wv=some [segO x j]) (hsz:(p.length+1)*bytes≤140737488355328) (h:∀ v' s',Store.sub τ s'→OwnP τ (p++[x]) v' s'→K v' s'):appwp 2 bytes v wv s K:=by
 obtain ⟨gs,hl,hn,hg,hi,ho⟩:=ho
 have hτj:τ j=none:=zh hτ hj0
 have hjg:j ∉ gs:=fun e=>by
  obtain ⟨i,hi',rfl⟩:=List.getElem_of_mem e
  rw [hi i (by omega) hi'] at hj0;cases hj0
 have hz:(List.zipWith segO p gs).length=p.length:=by simp [hl]
 have fin:∀ (τ2:Store) v' s',Store.sub τ τ2→Store.sub τ2 s'→τ2 j=some (.arr 1 (x.ls.map cU))→(∀ i (h:i<p.length) (h':i<gs.length),τ2 gs[i]=some (.arr 1 (p[i].ls.map cU)))→Own 2 τ2 (List.zipWith segO p gs++[segO x j]) v' s'→K v' s':=by
  intro τ2 v' s' k1 k2 k3 k4 k5
  refine h v' s' (Store.sub_trans k1 k2) ⟨gs++[j],by simp [hl],?_,?_,?_,?_⟩
  ·rw [List.nodup_append]
   refine ⟨hn,by simp,fun a ha b hb => ?_⟩
   simp only [List.mem_singleton] at hb
   subst hb
   exact fun e=>hjg (e ▸ ha)
  ·intro g hgm
   rcases List.mem_append.1 hgm with h | h
   ·exact hg g h
   ·simp only [List.mem_singleton] at h;subst h;exact hτj
  ·intro i hA hB
   by_cases hip:i<p.length
   ·rw [List.getElem_append_left (by omega),List.getElem_append_left hip]
    exact k2 _ _ (k4 i hip (by omega))
   ·have hip':i=p.length:=by simp at hA;omega
    subst hip'
    have e1:(gs++[j])[p.length]'hB=j:=by
     rw [List.getElem_append_right (by omega)];simp
    have e2:(p++[x])[p.length]'hA=x:=by
     rw [List.getElem_append_right (by omega)];simp
    rw [e1,e2];exact k2 _ _ k3
  ·rw [List.zipWith_append (by omega)]
   exact k5.weak k1
 rcases ho with ⟨hL,rfl⟩ | ⟨g,rfl,hgg,hh⟩
 ·refine Own.app (τ:=s) (L:=List.zipWith segO p gs) (Store.sub_refl _) (.inl ⟨hL,rfl⟩) hw (by rw [hz];exact hsz) fun v' s' hs ho' => ?_
  exact fin s v' s' (Store.sub_trans hτ h0) hs hj (fun i h h'=>h0 _ _ (hi i h h')) ho'
 ·have hgi:∀ i (h':i<gs.length),gs[i]≠g:=fun i h' e=>by
   have:=hi i (by omega) h'
   rw [e,hh] at this;cases this
  have hjg':j≠g:=fun e=>by rw [e,hh] at hj0;cases hj0
  have hsd:Store.sub (s.del g) s:=fun y o hy=>by
   by_cases hyg:y=g
   ·subst hyg;simp at hy
   ·rw [Store.del_ne _ hyg] at hy;exact hy
  refine Own.app (τ:=s.del g) (L:=List.zipWith segO p gs) hsd (.inr ⟨g,rfl,by simp,h0 _ _ hh⟩) hw (by rw [hz];exact hsz) fun v' s' hs ho' => ?_
  refine fin (s.del g) v' s' (fun y o hy => ?_) hs (by rw [Store.del_ne _ hjg'];exact hj) (fun i h h'=>by rw [Store.del_ne _ (hgi i h')];exact h0 _ _ (hi i h h')) ho'
  rw [Store.del_ne _ (fun e=>by subst e;rw [hgg] at hy;cases hy)]
  exact h0 _ _ (hτ _ _ hy)
theorem EndQ.ownP {slots:List RS} {Q:AV→Store→Prop} {e:Env} {σ τ:Store} {p:List Seg} {v:AV} (h1:e.res τ slots=some v) (ho:OwnP σ p v τ) (hs:Store.sub σ τ) (h4:Q (.sl 2 (p.map Seg.c)) σ) : @EndQ e τ ⟨slots,Q⟩:=by
 obtain ⟨gs,hl,hn,hg,hi,ho⟩:=ho
 rcases ho with ⟨h0,rfl⟩ | ⟨g,rfl,hgg,hh⟩
 ·have:p=[]:=by
   have:=congrArg List.length h0
   simp [hl] at this
   exact this
  subst this
  exact EndQ.nil1 2 σ h1 hs h4
 ·unfold EndQ
  refine ⟨_,h1,Weak.of_one (WeakL.freeze 0 rfl hh (by omega) ?_)⟩
  simp only [List.set_cons_zero,List.drop_zero,List.take_length]
  have hgi:∀ i (h':i<gs.length),gs[i]≠g:=fun i h' e=>by
   have:=hi i (by omega) h'
   rw [e,hh] at this;cases this
  refine z4h (Q:=_) p gs [] (τ.del g) hl hn (fun i h h'=>by rw [Store.del_ne _ (hgi i h')];exact hi i h h') ?_
  refine WeakL.forget (σ':=σ) (fun x o hx => ?_) (WeakL.pure ⟨_,rfl,h4⟩)
  have h1:x ∉ gs:=fun e=>by rw [hg x e] at hx;cases hx
  rw [z09 h1,Store.del_ne _ (fun e=>by subst e;rw [hgg] at hx;cases hx)]
  exact hs x o hx
end Go.Am
namespace Go.Am
open Go.Proofs Go.Sort
theorem c42 (p:List Seg) (h:p.length≤1000000) (ho:∀ s ∈ p,s.ok):Pur Try.prog 42 [.sl 2 (p.map Seg.c)] (.sl 2 (p.map Seg.c)):=by
 intro σ
 refine zk Tst.F42 (by simp [Tst.F42,Fn.mkX]) ?_
 simp only [Tst.F42,Fn.mkX,Tst.b42]
 simp only [↓vcPre,↓z0,↓reduceIte,vcPost,vcStd,Nat.reduceEqDiff,reduceCtorEq,Nat.reduceAdd,Nat.reduceLeDiff,Int.reduceLT,Int.reduceLE,↓u_setN]
 refine LoopQ.inv (S:=Nat×AV×Store) (fun q=>[(0,.sl 2 (p.map Seg.c)),(3,q.2.1),(4,.int .i64 (q.1:Int))]) (fun q=>q.2.2)
  (fun q=>q.1≤p.length∧Store.sub σ q.2.2∧OwnP σ (p.take q.1) q.2.1 q.2.2) (fun q=>p.length+1 - q.1) (0,.nils,σ) rfl (Store.sub_refl _) ⟨by simp only;omega,Store.sub_refl _,OwnP.nil⟩ ?_
 rintro ⟨k,v,s⟩ ⟨hk,hs,ho'⟩
 simp only at hk hs ho'
 simp only [↓vcPre,↓z0,↓reduceIte,vcPost,vcStd,Nat.reduceEqDiff,reduceCtorEq,Nat.reduceAdd,Nat.reduceLeDiff,Int.reduceLT,Int.reduceLE,↓u_setN]
 refine ⟨fun c1 => ?_,fun c1 => ?_⟩
 ·have ek:IntKind.i64.wrap ((k:Int)+1)=((k+1:Nat):Int):=by rw [zg (by unfold I64;omega)];omega
  have hx:=ho _ (List.getElem_mem c1)
  unfold Seg.ok at hx
  refine ⟨c1,c1,by simp [Seg.c],?_⟩
  simp only [Seg.c,↓vcPre,↓z0,↓reduceIte,vcPost,vcStd,Nat.reduceEqDiff,reduceCtorEq,Nat.reduceAdd,Nat.reduceLeDiff,Int.reduceLT,Int.reduceLE,↓u_setN]
  have hroom:(([]:List (List AV)).length+(p[k].ls.map cU).length)*4≤140737488355328:=by simp;omega
  refine ⟨?_,?_⟩
  ·refine AllocQ.i0 fun i hi => ?_
   simp only [↓vcPre,↓z0,↓reduceIte,vcPost,vcStd,Nat.reduceEqDiff,reduceCtorEq,Nat.reduceAdd,Nat.reduceLeDiff,Int.reduceLT,Int.reduceLE,↓u_setN]
   refine y6 (zm (Store.set_same _ _ _) rfl) yo hroom fun j hj => ?_
   simp only [↓vcPre,↓z0,↓reduceIte,vcPost,vcStd,Nat.reduceEqDiff,reduceCtorEq,Nat.reduceAdd,Nat.reduceLeDiff,Int.reduceLT,Int.reduceLE,↓u_setN]
   have hji:j≠i:=fun e=>by subst e;rw [Store.set_same] at hj;cases hj
   have hj0:s j=none:=by rw [Store.set_ne _ _ hji] at hj;exact hj
   have hsub:Store.sub s (((s.set i (Obj.arr 1 [])).del i).set j (Obj.arr 1 (List.map cU p[k].ls))):=fun y o hy=>by
    have h1:y≠i:=fun e=>by subst e;rw [hi] at hy;cases hy
    have h2:y≠j:=fun e=>by subst e;rw [hj0] at hy;cases hy
    rw [Store.set_ne _ _ h2,Store.del_ne _ h1,Store.set_ne _ _ h1];exact hy
   have hjs:(((s.set i (Obj.arr 1 [])).del i).set j (Obj.arr 1 (List.map cU p[k].ls))) j=some (.arr 1 (p[k].ls.map cU)):=Store.set_same _ _ _
   refine AllocQ.i0 fun b hb => ?_
   simp only [Nat.zero_add,↓vcPre,↓z0,↓reduceIte,vcPost,vcStd,Nat.reduceEqDiff,reduceCtorEq,Nat.reduceAdd,Nat.reduceLeDiff,Int.reduceLT,Int.reduceLE,↓u_setN]
   refine OwnP.app (τ:=σ) (s0:=s) (x:=p[k]) (j:=j) hs (Store.sub_trans hsub (Store.sub_set _ b _ hb)) ho' (Store.sub_set _ b _ hb _ _ hjs) hj0 (zm (Store.set_same _ _ _) rfl) (by simp;omega) fun v' s' hs' ho'' => ?_
   rw [ek]
   refine NextQ.to (k+1,v',s') rfl (Store.sub_refl _) (by simp only;omega) ⟨by simp only;omega,hs',?_⟩
   simp only [List.take_add_one,List.getElem?_eq_getElem c1,Option.toList_some]
   exact ho''
  ·refine AllocQ.i0 fun i hi => ?_
   simp only [↓vcPre,↓z0,↓reduceIte,vcPost,vcStd,Nat.reduceEqDiff,reduceCtorEq,Nat.reduceAdd,Nat.reduceLeDiff,Int.reduceLT,Int.reduceLE,↓u_setN]
   refine ⟨⟨by simp [Seg.c],?_⟩,?_⟩
   ·simp only [Seg.c,↓vcPre,↓z0,↓reduceIte,vcPost,vcStd,Nat.reduceEqDiff,reduceCtorEq,Nat.reduceAdd,Nat.reduceLeDiff,Int.reduceLT,Int.reduceLE,↓u_setN]
    refine y6 (zm (Store.set_same _ _ _) rfl) yo hroom fun j hj => ?_
    simp only [↓vcPre,↓z0,↓reduceIte,vcPost,vcStd,Nat.reduceEqDiff,reduceCtorEq,Nat.reduceAdd,Nat.reduceLeDiff,Int.reduceLT,Int.reduceLE,↓u_setN]
    have hji:j≠i:=fun e=>by subst e;rw [Store.set_same] at hj;cases hj
    have hj0:s j=none:=by rw [Store.set_ne _ _ hji] at hj;exact hj
    have hsub:Store.sub s (((s.set i (Obj.arr 1 [])).del i).set j (Obj.arr 1 (List.map cU p[k].ls))):=fun y o hy=>by
     have h1:y≠i:=fun e=>by subst e;rw [hi] at hy;cases hy
     have h2:y≠j:=fun e=>by subst e;rw [hj0] at hy;cases hy
     rw [Store.set_ne _ _ h2,Store.del_ne _ h1,Store.set_ne _ _ h1];exact hy
    have hjs:(((s.set i (Obj.arr 1 [])).del i).set j (Obj.arr 1 (List.map cU p[k].ls))) j=some (.arr 1 (p[k].ls.map cU)):=Store.set_same _ _ _
    refine AllocQ.i0 fun b hb => ?_
    simp only [Nat.zero_add,↓vcPre,↓z0,↓reduceIte,vcPost,vcStd,Nat.reduceEqDiff,reduceCtorEq,Nat.reduceAdd,Nat.reduceLeDiff,Int.reduceLT,Int.reduceLE,↓u_setN]
    refine OwnP.app (τ:=σ) (s0:=s) (x:=p[k]) (j:=j) hs (Store.sub_trans hsub (Store.sub_set _ b _ hb)) ho' (Store.sub_set _ b _ hb _ _ hjs) hj0 (zm (Store.set_same _ _ _) rfl) (by simp;omega) fun v' s' hs' ho'' => ?_
    rw [ek]
    refine NextQ.to (k+1,v',s') rfl (Store.sub_refl _) (by simp only;omega) ⟨by simp only;omega,hs',?_⟩
    simp only [List.take_add_one,List.getElem?_eq_getElem c1,Option.toList_some]
    exact ho''
   ·refine y6 (zm (Store.set_same _ _ _) rfl) yo hroom fun j hj => ?_
    refine ⟨by simp [Seg.c],?_⟩
    simp only [Seg.c,↓vcPre,↓z0,↓reduceIte,vcPost,vcStd,Nat.reduceEqDiff,reduceCtorEq,Nat.reduceAdd,Nat.reduceLeDiff,Int.reduceLT,Int.reduceLE,↓u_setN]
    have hji:j≠i:=fun e=>by subst e;rw [Store.set_same] at hj;cases hj
    have hj0:s j=none:=by rw [Store.set_ne _ _ hji] at hj;exact hj
    have hsub:Store.sub s (((s.set i (Obj.arr 1 [])).del i).set j (Obj.arr 1 (List.map cU p[k].ls))):=fun y o hy=>by
     have h1:y≠i:=fun e=>by subst e;rw [hi] at hy;cases hy
     have h2:y≠j:=fun e=>by subst e;rw [hj0] at hy;cases hy
     rw [Store.set_ne _ _ h2,Store.del_ne _ h1,Store.set_ne _ _ h1];exact hy
    have hjs:(((s.set i (Obj.arr 1 [])).del i).set j (Obj.arr 1 (List.map cU p[k].ls))) j=some (.arr 1 (p[k].ls.map cU)):=Store.set_same _ _ _
    refine AllocQ.i0 fun b hb => ?_
    simp only [Nat.zero_add,↓vcPre,↓z0,↓reduceIte,vcPost,vcStd,Nat.reduceEqDiff,reduceCtorEq,Nat.reduceAdd,Nat.reduceLeDiff,Int.reduceLT,Int.reduceLE,↓u_setN]
    refine OwnP.app (τ:=σ) (s0:=s) (x:=p[k]) (j:=j) hs (Store.sub_trans hsub (Store.sub_set _ b _ hb)) ho' (Store.sub_set _ b _ hb _ _ hjs) hj0 (zm (Store.set_same _ _ _) rfl) (by simp;omega) fun v' s' hs' ho'' => ?_
    rw [ek]
    refine NextQ.to (k+1,v',s') rfl (Store.sub_refl _) (by simp only;omega) ⟨by simp only;omega,hs',?_⟩
    simp only [List.take_add_one,List.getElem?_eq_getElem c1,Option.toList_some]
    exact ho''
 ·have hkl:p.take k=p:=List.take_of_length_le (by omega)
  rw [hkl] at ho'
  exact EndQ.ownP rfl ho' hs ⟨rfl,rfl⟩
end Go.Am
namespace Go.Am.Tsf
open Go.Proofs Go.Am.B
def t33_34:BC := .seq (z [m 34 0] [0,1,5,34] (z [m 35 5] [0,1,5,34,35] (z [p 36 (.slice 1 false true) [.t 34,.t 35]] [0,1,5,36] (z [m 38 1] [0,5,36,38] (z [m 41 0] [5,36,38,41] (z [m 42 5] [36,38,41,42] (z [p 43 (.slice 1 true false) [.t 41,.t 42]] [36,38,43] (.both (z [⟨some 33,none,.alloc (.mksl 1 0),[]⟩] [33,36,38,43] (.both (z [⟨some 37,none,.loud (.app 1 4),[.t 33,.t 36]⟩] [37,38,43] (z [⟨some 39,none,.alloc (.mksl 1 1),[.t 38]⟩] [37,39,43] (z [⟨some 40,none,.loud (.app 1 4),[.t 37,.t 39]⟩] [40,43] (z [⟨some 44,none,.loud (.app 1 4),[.t 40,.t 43]⟩] [44] (z [m 4 44] [4] (.ops [] [4])))))) (.both (z [⟨some 39,none,.alloc (.mksl 1 1),[.t 38]⟩] [33,36,39,43] (z [⟨some 37,none,.loud (.app 1 4),[.t 33,.t 36]⟩] [37,39,43] (z [⟨some 40,none,.loud (.app 1 4),[.t 37,.t 39]⟩] [40,43] (z [⟨some 44,none,.loud (.app 1 4),[.t 40,.t 43]⟩] [44] (z [m 4 44] [4] (.ops [] [4])))))) (.top)))) (.both (z [⟨some 39,none,.alloc (.mksl 1 1),[.t 38]⟩] [36,39,43] (z [⟨some 33,none,.alloc (.mksl 1 0),[]⟩] [33,36,39,43] (z [⟨some 37,none,.loud (.app 1 4),[.t 33,.t 36]⟩] [37,39,43] (z [⟨some 40,none,.loud (.app 1 4),[.t 37,.t 39]⟩] [40,43] (z [⟨some 44,none,.loud (.app 1 4),[.t 40,.t 43]⟩] [44] (z [m 4 44] [4] (.ops [] [4]))))))) (.top)))))))))) .ret
def b33:BC:=z [k 4 .nils] [0,1] (z [j 5 0] [0,1,5] (.seq (.block 0 (.loop [0,1,5] (.seq (z [m 6 5,m 7 0,u 8 .len 7,b 9 .lss 6 8,m 10 9,⟨some 11,some (10,true),.pure (.mov),[.t 0]⟩,⟨some 12,some (10,true),.pure (.mov),[.t 5]⟩,⟨some 13,some (10,true),.pure (.idx 1),[.t 11,.t 12]⟩,⟨some 14,some (10,true),.load (.ld 1 false),[.t 13]⟩,⟨some 15,some (10,true),.pure (.mov),[.t 1]⟩,⟨some 16,some (10,true),.pure (.bin .lss),[.t 14,.t 15]⟩,⟨some 17,none,.pick,[.t 10,.t 16,.c (.bool false)]⟩] [0,1,5,17] (.cond (.t 17) .skip (.exit 0))) (.block 1 (.ops [m 18 5,c 19 .add 18 1,m 5 19] [0,1,5]))))) (.seq (z [m 20 5,m 21 0,u 22 .len 21,b 23 .lss 20 22,m 24 23,⟨some 25,some (24,true),.pure (.mov),[.t 0]⟩,⟨some 26,some (24,true),.pure (.mov),[.t 5]⟩,⟨some 27,some (24,true),.pure (.idx 1),[.t 25,.t 26]⟩,⟨some 28,some (24,true),.load (.ld 1 false),[.t 27]⟩,⟨some 29,some (24,true),.pure (.mov),[.t 1]⟩,⟨some 30,some (24,true),.pure (.bin .eql),[.t 28,.t 29]⟩,⟨some 31,none,.pick,[.t 24,.t 30,.c (.bool false)]⟩] [0,1,5,31] (.cond (.t 31) (z [m 32 0,m 4 32] [4] .ret) .skip)) t33_34)))
def F33:Fn Try.prog 33:=Fn.mkX false b33 [.t 4] 45 Try.f33 _ Try.func33 (by decide) rfl Try.ntmps33 (by kernel_rfl) (by kernel_rfl)
end Go.Am.Tsf
namespace Go.Am
open Go.Proofs Go.Sort
def putL:List Int→Int→List Int
 | [],n=>[n]
 | x::r,n=>if x<n then x::putL r n else if x=n then x::r else n::x::r
theorem z2a {L:List Int} {n:Int} {k:Nat} (hk:k≤L.length) (h:∀ i (h:i<L.length),i<k→L[i]<n):putL L n=L.take k++putL (L.drop k) n:=by
 induction L generalizing k with
 | nil=>simp at hk;subst hk;rfl
 | cons x r ih =>
   cases k with
   | zero=>simp
   | succ k =>
     have h0:=h 0 (by simp) (by omega)
     simp only [List.getElem_cons_zero] at h0
     simp only [putL,if_pos h0,List.take_succ_cons,List.drop_succ_cons,List.cons_append]
     rw [ih (by simpa using hk) (fun i hi hik=>by
      have:=h (i+1) (by simpa using hi) (by omega)
      simpa using this)]
theorem putL_mem {L:List Int} {n x:Int}:x ∈ putL L n↔x=n∨x ∈ L:=by
 induction L with
 | nil=>simp [putL]
 | cons y r ih =>
   simp only [putL]
   split
   ·simp [ih];grind
   ·split
    ·rename_i h;subst h;simp
    ·simp
theorem wf {L:List Int} {n:Int} (h:Inc L):Inc (putL L n):=by
 induction L with
 | nil=>simp [putL,Inc]
 | cons y r ih =>
   simp only [putL]
   unfold Inc at h ih ⊢
   rw [List.pairwise_cons] at h
   split
   ·rename_i h1
    rw [List.pairwise_cons]
    refine ⟨fun z hz => ?_,ih h.2⟩
    rcases putL_mem.1 hz with rfl | hz
    ·exact h1
    ·exact h.1 z hz
   ·split
    ·rw [List.pairwise_cons];exact h
    ·rw [List.pairwise_cons,List.pairwise_cons]
     refine ⟨fun z hz => ?_,h⟩
     rcases List.mem_cons.1 hz with rfl | hz
     ·omega
     ·have:=h.1 z hz;omega
theorem z1o (l:List Int):l.foldl putL []=canonC l:=by
 have key:∀ (l:List Int) (b:List Int),Inc b→Inc (l.foldl putL b)∧∀ x,x ∈ l.foldl putL b↔x ∈ b∨x ∈ l:=by
  intro l
  induction l with
  | nil=>intro b hb;exact ⟨hb,by simp⟩
  | cons y r ih =>
    intro b hb
    obtain ⟨h1,h2⟩:=ih (putL b y) (wf hb)
    refine ⟨h1,fun x => ?_⟩
    show x ∈ r.foldl putL (putL b y)↔_
    rw [h2,putL_mem];simp;grind
 obtain ⟨h1,h2⟩:=key l [] (by simp [Inc])
 exact uf h1 (xu l) fun x=>by rw [h2,xw];simp
theorem z1a (L:List Int) (n:Int):(putL L n).length≤L.length+1:=by
 induction L with
 | nil=>simp [putL]
 | cons y r ih =>
   simp only [putL]
   split
   ·simp;omega
   ·split <;> simp
end Go.Am
namespace Go.Am
open Go.Proofs Go.Sort
theorem Own.appN {esz bytes g:Nat} {τ s:Store} {L ys:List (List AV)} {wv:AV} {K:AV→Store→Prop} (hsub:Store.sub τ s) (hg:τ g=none) (hs:s g=some (.arr esz L)) (hw:slc s esz wv=some ys) (hsz:(L.length+ys.length)*bytes≤140737488355328)
 (h:∀ j s',Store.sub τ s'→τ j=none→s' j=some (.arr esz (L++ys))→K (.os j esz 0 (L.length+ys.length)) s'):appwp esz bytes (.os g esz 0 L.length) wv s K:=by
 refine y6 (zm hs rfl) hw hsz fun j hj => ?_
 have hτ:τ j=none:=zh hsub hj
 refine h _ _ (fun x q hx => ?_) hτ (Store.set_same _ _ _)
 have hxj:x≠j:=fun e=>by subst e;rw [hτ] at hx;cases hx
 have hxg:x≠g:=fun e=>by subst e;rw [hg] at hx;cases hx
 rw [Store.set_ne _ _ hxj,Store.del_ne _ hxg];exact hsub x q hx
theorem uk {esz id off n:Nat} {es:List (List AV)} {σ:Store} (h:σ id=some (.arr esz es)) (hn:off+n≤es.length):slc σ esz (.os id esz off n)=some ((es.drop off).take n):=by
 simp [slc,h,hn]
theorem z1b (L:List Int) (n:Int) (k:Nat) (hk:k≤L.length) (hL:L.length≤1000000) {g j b:Nat} {s t:Store} (hg:s g=some (.arr 1 (L.map cU))) (hsub:Store.sub s t) (hj:s j=none) (hb:s b=none) (hjb:b≠j)
 (htj:t j=some (.arr 1 ((L.take k).map cU))) (htb:t b=some (.arr 1 [cU n])) {K:AV→Store→Prop}
 (h:∀ j s',Store.sub s s'→s j=none→s' j=some (.arr 1 ((L.take k++n::L.drop k).map cU))→K (.os j 1 0 (L.length+1)) s') :
 appwp 1 4 (.os j 1 0 k) (.os b 1 0 1) t fun v s'=>appwp 1 4 v (.os g 1 k (L.length - k)) s' K:=by
 have e1:((L.take k).map cU).length=k:=by simp;omega
 have a1:=Own.appN (τ:=s) (g:=j) (bytes:=4) (L:=(L.take k).map cU) (K:=fun v s'=>appwp 1 4 v (.os g 1 k (L.length - k)) s' K) hsub hj htj (zm htb rfl) (by rw [e1];simp;omega) (fun j' s' q1 q2 q3=>by
  have e2:((L.take k).map cU++[cU n]).length=k+1:=by simp;omega
  have hs2:slc s' 1 (.os g 1 k (L.length - k))=some ((L.drop k).map cU):=by
   rw [uk (q1 _ _ hg) (by simp;omega)]
   rw [List.take_of_length_le (by simp),List.map_drop]
  have a2:=Own.appN (τ:=s) (g:=j') (bytes:=4) (L:=(L.take k).map cU++[cU n]) (K:=K) q1 q2 q3 hs2 (by rw [e2];simp;omega) (fun j2 s2 p1 p2 p3=>by
   have e3:((L.take k).map cU++[cU n]).length+((L.drop k).map cU).length=L.length+1:=by simp;omega
   rw [e3]
   refine h j2 s2 p1 p2 ?_
   rw [p3];simp)
  rw [e2] at a2
  rw [e1];exact a2)
 rw [e1] at a1
 exact a1
theorem z2b (L:List Int) (n:Int) (k:Nat) (hk:k≤L.length) (hL:L.length≤1000000) {g i b:Nat} {s t:Store} (hg:s g=some (.arr 1 (L.map cU))) (hsub:Store.sub s t) (hi:s i=none) (hb:s b=none) (hib:b≠i)
 (hti:t i=some (.arr 1 [])) (htb:t b=some (.arr 1 [cU n])) {K:AV→Store→Prop}
 (h:∀ j s',Store.sub s s'→s j=none→s' j=some (.arr 1 ((L.take k++n::L.drop k).map cU))→K (.os j 1 0 (L.length+1)) s') :
 appwp 1 4 (.os i 1 0 0) (.os g 1 0 k) t fun v s'=>appwp 1 4 v (.os b 1 0 1) s' fun v s'=>appwp 1 4 v (.os g 1 k (L.length - k)) s' K:=by
 have hsb:Store.sub (s.set b (.arr 1 [cU n])) t:=fun y o hy=>by
  by_cases hyb:y=b
  ·subst hyb;rw [Store.set_same] at hy;cases hy;exact htb
  ·rw [Store.set_ne _ _ hyb] at hy;exact hsub _ _ hy
 have e1:((L.take k).map cU).length=k:=by simp;omega
 have hs2:slc t 1 (.os g 1 0 k)=some ((L.take k).map cU):=by
  rw [uk (hsub _ _ hg) (by simp;omega)]
  rw [List.drop_zero,List.map_take]
 refine Own.appN (τ:=s.set b (.arr 1 [cU n])) (g:=i) (L:=[]) hsb (by rw [Store.set_ne _ _ (fun e=>hib e.symm)];exact hi) hti hs2 (by rw [e1];simp;omega) fun j s' q1 q2 q3 => ?_
 have hjb:j≠b:=fun e=>by subst e;rw [Store.set_same] at q2;cases q2
 rw [Store.set_ne _ _ hjb] at q2
 have:=z1b L n k hk hL hg (Store.sub_trans (Store.sub_set _ b _ hb) q1) q2 hb (fun e=>hjb e.symm) (by simpa using q3) (q1 _ _ (Store.set_same _ _ _)) h
 simp only [List.length_nil,Nat.zero_add,e1]
 exact this
theorem z5d (E:Env) (L:List Int) (n:Int) (k:Nat) (hk:k≤L.length) (hL:L.length≤1000000) {g:Nat} {s:Store} (hg:s g=some (.arr 1 (L.map cU))) {nn rr:Env→Store→Prop} {x:Nat→Env→Store→Prop}
 (hr:∀ j s',Store.sub s s'→s j=none→s' j=some (.arr 1 ((L.take k++n::L.drop k).map cU))→rr [(4,.os j 1 0 (L.length+1))] s') :
 bwp Try.prog Tsf.t33_34 ((0,.os g 1 0 L.length)::(1,.int .u32 n)::(5,.int .i64 (k:Int))::E) s nn rr x:=by
 simp only [Tsf.t33_34]
 simp only [hg,↓vcPre,↓z0,↓reduceIte,vcPost,vcStd,Nat.reduceEqDiff,reduceCtorEq,Nat.reduceAdd,Nat.reduceLeDiff,Int.reduceLT,Int.reduceLE,↓u_setN]
 refine ⟨⟨by simp only [Option.getD_some];omega,by simp only [Option.getD_some];omega⟩,⟨by simp only [Option.getD_none];omega,by simp only [Option.getD_none];omega⟩,?_,?_⟩
 ·refine AllocQ.i0 fun i hi => ?_
  simp only [hg,Option.getD_some,Option.getD_none,Int.toNat_natCast,Int.toNat_zero,Nat.sub_zero,Nat.zero_add,↓vcPre,↓z0,↓reduceIte,vcPost,vcStd,Nat.reduceEqDiff,reduceCtorEq,Nat.reduceAdd,Nat.reduceLeDiff,Int.reduceLT,Int.reduceLE,↓u_setN]
  have e1:((L.take k).map cU).length=k:=by simp;omega
  refine ⟨?_,?_⟩
  ·refine Own.appN (τ:=s) (g:=i) (L:=[]) (ys:=(L.take k).map cU) (Store.sub_set _ _ _ hi) hi (Store.set_same _ _ _) ?_ (by rw [e1];simp;omega) fun j s1 q1 q2 q3 => ?_
   ·rw [uk (Store.sub_set _ _ _ hi _ _ hg) (by simp;omega),List.drop_zero,List.map_take]
   refine AllocQ.i0 fun b hb => ?_
   have hjb:b≠j:=fun e=>by subst e;rw [q3] at hb;cases hb
   simp only [List.length_nil,Nat.zero_add,e1,List.nil_append] at q3 ⊢
   simp only [hg,↓vcPre,↓z0,↓reduceIte,vcPost,vcStd,Nat.reduceEqDiff,reduceCtorEq,Nat.reduceAdd,Nat.reduceLeDiff,Int.reduceLT,Int.reduceLE,↓u_setN]
   refine z1b L n k hk hL hg (Store.sub_trans q1 (Store.sub_set _ b _ hb)) q2 (zh q1 hb) hjb (Store.sub_set _ b _ hb _ _ q3) (Store.set_same _ _ _) fun j2 s2 p1 p2 p3 => ?_
   exact hr j2 s2 p1 p2 p3
  ·refine AllocQ.i0 fun b hb => ?_
   simp only [hg,Option.getD_some,Option.getD_none,Int.toNat_natCast,Int.toNat_zero,Nat.sub_zero,Nat.zero_add,↓vcPre,↓z0,↓reduceIte,vcPost,vcStd,Nat.reduceEqDiff,reduceCtorEq,Nat.reduceAdd,Nat.reduceLeDiff,Int.reduceLT,Int.reduceLE,↓u_setN]
   have hbi:b≠i:=fun e=>by subst e;rw [Store.set_same] at hb;cases hb
   rw [Store.set_ne _ _ hbi] at hb
   refine z2b L n k hk hL hg (zj hi hb hbi) hi hb hbi (by rw [Store.set_ne _ _ (fun e=>hbi e.symm),Store.set_same]) (Store.set_same _ _ _) fun j2 s2 p1 p2 p3=>hr j2 s2 p1 p2 p3
 ·refine AllocQ.i0 fun b hb => ?_
  simp only [hg,↓vcPre,↓z0,↓reduceIte,vcPost,vcStd,Nat.reduceEqDiff,reduceCtorEq,Nat.reduceAdd,Nat.reduceLeDiff,Int.reduceLT,Int.reduceLE,↓u_setN]
  refine AllocQ.i0 fun i hi => ?_
  simp only [hg,Option.getD_some,Option.getD_none,Int.toNat_natCast,Int.toNat_zero,Nat.sub_zero,Nat.zero_add,↓vcPre,↓z0,↓reduceIte,vcPost,vcStd,Nat.reduceEqDiff,reduceCtorEq,Nat.reduceAdd,Nat.reduceLeDiff,Int.reduceLT,Int.reduceLE,↓u_setN]
  have hib:i≠b:=fun e=>by subst e;rw [Store.set_same] at hi;cases hi
  rw [Store.set_ne _ _ hib] at hi
  refine z2b L n k hk hL hg (zj hb hi hib) hi hb (fun e=>hib e.symm) (Store.set_same _ _ _) (by rw [Store.set_ne _ _ (fun e=>hib e.symm),Store.set_same];rfl) fun j2 s2 p1 p2 p3=>hr j2 s2 p1 p2 p3
end Go.Am
namespace Go.Am
open Go.Proofs Go.Sort
theorem ux {A B:List (List AV)} {y:List AV} {w2:AV} {j b:Nat} {s t:Store} (hsub:Store.sub s t) (hj:s j=none)
 (htj:t j=some (.arr 1 A)) (htb:t b=some (.arr 1 [y])) (h2:∀ t,Store.sub s t→slc t 1 w2=some B) (hsz:(A.length+1+B.length)*4≤140737488355328) {K:AV→Store→Prop}
 (h:∀ j s',Store.sub s s'→s j=none→s' j=some (.arr 1 (A++y::B))→K (.os j 1 0 (A.length+1+B.length)) s') :
 appwp 1 4 (.os j 1 0 A.length) (.os b 1 0 1) t fun v s'=>appwp 1 4 v w2 s' K:=by
 refine Own.appN (τ:=s) (g:=j) (L:=A) hsub hj htj (zm htb rfl) (by simp;omega) fun j' s' q1 q2 q3 => ?_
 have e2:(A++[y]).length=A.length+1:=by simp
 have a2:=Own.appN (τ:=s) (g:=j') (bytes:=4) (L:=A++[y]) (K:=K) q1 q2 q3 (h2 _ q1) (by rw [e2];exact hsz) (fun j2 s2 p1 p2 p3=>by
  rw [e2]
  refine h j2 s2 p1 p2 ?_
  rw [p3];simp)
 rw [e2] at a2
 exact a2
theorem ud {A B:List (List AV)} {y:List AV} {w1 w2:AV} {i b:Nat} {s t:Store} (hsub:Store.sub s t) (hi:s i=none) (hb:s b=none) (hib:b≠i)
 (hti:t i=some (.arr 1 [])) (htb:t b=some (.arr 1 [y])) (h1:∀ t,Store.sub s t→slc t 1 w1=some A) (h2:∀ t,Store.sub s t→slc t 1 w2=some B) (hsz:(A.length+1+B.length)*4≤140737488355328) {K:AV→Store→Prop}
 (h:∀ j s',Store.sub s s'→s j=none→s' j=some (.arr 1 (A++y::B))→K (.os j 1 0 (A.length+1+B.length)) s') :
 appwp 1 4 (.os i 1 0 0) w1 t fun v s'=>appwp 1 4 v (.os b 1 0 1) s' fun v s'=>appwp 1 4 v w2 s' K:=by
 have hsb:Store.sub (s.set b (.arr 1 [y])) t:=fun z o hy=>by
  by_cases hyb:z=b
  ·subst hyb;rw [Store.set_same] at hy;cases hy;exact htb
  ·rw [Store.set_ne _ _ hyb] at hy;exact hsub _ _ hy
 refine Own.appN (τ:=s.set b (.arr 1 [y])) (g:=i) (L:=[]) hsb (by rw [Store.set_ne _ _ (fun e=>hib e.symm)];exact hi) hti (h1 _ hsub) (by simp;omega) fun j s' q1 q2 q3 => ?_
 have hjb:j≠b:=fun e=>by subst e;rw [Store.set_same] at q2;cases q2
 rw [Store.set_ne _ _ hjb] at q2
 have:=ux (A:=A) (B:=B) (Store.sub_trans (Store.sub_set _ b _ hb) q1) q2 (by simpa using q3) (q1 _ _ (Store.set_same _ _ _)) h2 hsz h
 simp only [List.length_nil,Nat.zero_add]
 exact this
theorem z40 (E:Env) (n:Int) {s:Store} {nn rr:Env→Store→Prop} {x:Nat→Env→Store→Prop}
 (hr:∀ j s',Store.sub s s'→s j=none→s' j=some (.arr 1 [cU n])→rr [(4,.os j 1 0 1)] s') :
 bwp Try.prog Tsf.t33_34 ((0,.nils)::(1,.int .u32 n)::(5,.int .i64 0)::E) s nn rr x:=by
 simp only [Tsf.t33_34]
 have hn:∀ t,Store.sub s t→slc t 1 .nils=some []:=fun _ _=>rfl
 simp only [↓vcPre,↓z0,↓reduceIte,vcPost,vcStd,Nat.reduceEqDiff,reduceCtorEq,Nat.reduceAdd,Nat.reduceLeDiff,Int.reduceLT,Int.reduceLE,↓u_setN]
 refine ⟨⟨by simp,by simp⟩,⟨by simp,by simp⟩,?_,?_⟩
 ·refine AllocQ.i0 fun i hi => ?_
  simp only [↓vcPre,↓z0,↓reduceIte,vcPost,vcStd,Nat.reduceEqDiff,reduceCtorEq,Nat.reduceAdd,Nat.reduceLeDiff,Int.reduceLT,Int.reduceLE,↓u_setN]
  refine ⟨?_,?_⟩
  ·refine Own.appN (τ:=s) (g:=i) (L:=[]) (ys:=[]) (Store.sub_set _ _ _ hi) hi (Store.set_same _ _ _) rfl (by simp) fun j s1 q1 q2 q3 => ?_
   refine AllocQ.i0 fun b hb => ?_
   have hjb:b≠j:=fun e=>by subst e;rw [q3] at hb;cases hb
   simp only [List.length_nil,Nat.zero_add,List.nil_append] at q3 ⊢
   simp only [↓vcPre,↓z0,↓reduceIte,vcPost,vcStd,Nat.reduceEqDiff,reduceCtorEq,Nat.reduceAdd,Nat.reduceLeDiff,Int.reduceLT,Int.reduceLE,↓u_setN]
   exact ux (A:=[]) (B:=[]) (Store.sub_trans q1 (Store.sub_set _ b _ hb)) q2 (Store.sub_set _ b _ hb _ _ q3) (Store.set_same _ _ _) hn (by simp) fun j2 s2 p1 p2 p3=>hr j2 s2 p1 p2 p3
  ·refine AllocQ.i0 fun b hb => ?_
   simp only [↓vcPre,↓z0,↓reduceIte,vcPost,vcStd,Nat.reduceEqDiff,reduceCtorEq,Nat.reduceAdd,Nat.reduceLeDiff,Int.reduceLT,Int.reduceLE,↓u_setN]
   have hbi:b≠i:=fun e=>by subst e;rw [Store.set_same] at hb;cases hb
   rw [Store.set_ne _ _ hbi] at hb
   exact ud (A:=[]) (B:=[]) (zj hi hb hbi) hi hb hbi (by rw [Store.set_ne _ _ (fun e=>hbi e.symm),Store.set_same]) (Store.set_same _ _ _) hn hn (by simp) fun j2 s2 p1 p2 p3=>hr j2 s2 p1 p2 p3
 ·refine AllocQ.i0 fun b hb => ?_
  simp only [↓vcPre,↓z0,↓reduceIte,vcPost,vcStd,Nat.reduceEqDiff,reduceCtorEq,Nat.reduceAdd,Nat.reduceLeDiff,Int.reduceLT,Int.reduceLE,↓u_setN]
  refine AllocQ.i0 fun i hi => ?_
  simp only [↓vcPre,↓z0,↓reduceIte,vcPost,vcStd,Nat.reduceEqDiff,reduceCtorEq,Nat.reduceAdd,Nat.reduceLeDiff,Int.reduceLT,Int.reduceLE,↓u_setN]
  have hib:i≠b:=fun e=>by subst e;rw [Store.set_same] at hi;cases hi
  rw [Store.set_ne _ _ hib] at hi
  exact ud (A:=[]) (B:=[]) (zj hb hi hib) hi hb (fun e=>hib e.symm) (Store.set_same _ _ _) (by rw [Store.set_ne _ _ (fun e=>hib e.symm),Store.set_same];rfl) hn hn (by simp) fun j2 s2 p1 p2 p3=>hr j2 s2 p1 p2 p3
theorem s33 {τ s:Store} (hτ:Store.sub τ s) (L:List Int) (n:Int) (hL:L.length≤1000000) {v:AV} (ho:Own 1 τ (L.map cU) v s):ACalls Try.prog 33 [v,.int .u32 n] s (fun r s'=>Store.sub τ s'∧Own 1 τ ((putL L n).map cU) r s'):=by
 refine zk Tsf.F33 (by simp [Tsf.F33,Fn.mkX]) ?_
 simp only [Tsf.F33,Fn.mkX,Tsf.b33]
 rcases ho with ⟨h0,rfl⟩ | ⟨g,rfl,hgg,hg⟩
 ·have hL0:L=[]:=by simpa using h0
  subst hL0
  simp only [↓vcPre,↓z0,↓reduceIte,vcPost,vcStd,Nat.reduceEqDiff,reduceCtorEq,Nat.reduceAdd,Nat.reduceLeDiff,Int.reduceLT,Int.reduceLE,↓u_setN]
  refine LoopQ.inv (S:=Unit) (fun _=>[(0,.nils),(1,.int .u32 n),(5,.int .i64 0)]) (fun _=>s) (fun _=>True) (fun _=>0) () rfl (Store.sub_refl _) trivial ?_
  intro _ _
  simp only [↓vcPre,↓z0,↓reduceIte,vcPost,vcStd,Nat.reduceEqDiff,reduceCtorEq,Nat.reduceAdd,Nat.reduceLeDiff,Int.reduceLT,Int.reduceLE,↓u_setN]
  refine z40 _ n fun j s' h1 h2 h3 => ?_
  refine EndQ.to s' (.os j 1 0 1) rfl (Store.sub_refl _) ⟨Store.sub_trans hτ h1,.inr ⟨j,rfl,zh hτ h2,h3⟩⟩
 ·simp only [List.length_map]
  simp only [hg,↓vcPre,↓z0,↓reduceIte,vcPost,vcStd,Nat.reduceEqDiff,reduceCtorEq,Nat.reduceAdd,Nat.reduceLeDiff,Int.reduceLT,Int.reduceLE,↓u_setN]
  refine LoopQ.inv (S:=Nat) (fun k=>[(0,.os g 1 0 L.length),(1,.int .u32 n),(5,.int .i64 (k:Int))]) (fun _=>s) (fun k=>k≤L.length∧∀ i (h:i<L.length),i<k→L[i]<n) (fun k=>L.length+1 - k) 0 rfl (Store.sub_refl _) ⟨by omega,fun i _ h=>by omega⟩ ?_
  rintro k ⟨hk,hlt⟩
  simp only [hg,Nat.zero_add,↓vcPre,↓z0,↓reduceIte,vcPost,vcStd,Nat.reduceEqDiff,reduceCtorEq,Nat.reduceAdd,Nat.reduceLeDiff,Int.reduceLT,Int.reduceLE,↓u_setN]
  have ek:IntKind.i64.wrap ((k:Int)+1)=((k+1:Nat):Int):=by rw [zg (by unfold I64;omega)];omega
  have hput:=z2a hk hlt
  have tail:(∀ h:k<L.length,n<L[k])→∀ E,bwp Try.prog Tsf.t33_34 ((0,.os g 1 0 L.length)::(1,.int .u32 n)::(5,.int .i64 (k:Int))::E) s (fun e τ' => @EndQ e τ' ⟨Tsf.F33.slots,fun r s'=>Store.sub τ s'∧Own 1 τ ((putL L n).map cU) r s'⟩) (fun e τ' => @EndQ e τ' ⟨Tsf.F33.slots,fun r s'=>Store.sub τ s'∧Own 1 τ ((putL L n).map cU) r s'⟩) fun _ _ _=>False:=fun hkn E=>by
   have hpl:putL L n=L.take k++n::L.drop k:=by
    rw [hput]
    by_cases c1:k<L.length
    ·have:=hkn c1
     rw [List.drop_eq_getElem_cons c1]
     simp only [putL]
     rw [if_neg (by omega),if_neg (by omega)]
    ·rw [List.drop_eq_nil_of_le (by omega)];rfl
   refine z5d E L n k hk hL hg fun j s' h1 h2 h3 => ?_
   refine EndQ.to s' (.os j 1 0 (L.length+1)) rfl (Store.sub_refl _) ⟨Store.sub_trans hτ h1,.inr ⟨j,?_,zh hτ h2,by rw [hpl];exact h3⟩⟩
   rw [hpl];simp;omega
  refine ⟨fun c1=>⟨c1,c1,by simp [cU],?_⟩,fun c1=>⟨fun c2=>absurd c2 c1,fun _=>tail (fun h=>absurd h c1) _⟩⟩
  simp only [cU,↓vcPre,↓z0,↓reduceIte,vcPost,vcStd,Nat.reduceEqDiff,reduceCtorEq,Nat.reduceAdd,Nat.reduceLeDiff,Int.reduceLT,Int.reduceLE,↓u_setN]
  refine ⟨fun g1 => ?_,fun g1=>⟨fun _=>⟨c1,c1,?_⟩,fun c2=>absurd c1 c2⟩⟩
  ·rw [ek]
   refine NextQ.to (k+1) rfl (Store.sub_refl _) (by omega) ⟨by omega,fun i hi hik => ?_⟩
   by_cases hik':i=k
   ·subst hik';exact g1
   ·exact hlt i hi (by omega)
  ·refine ⟨fun g2 => ?_,fun g2=>tail (fun _=>by omega) _⟩
   refine EndQ.to s (.os g 1 0 L.length) rfl (Store.sub_refl _) ⟨hτ,.inr ⟨g,?_,hgg,?_⟩⟩
   ·have hpl:putL L n=L:=by
     rw [hput,List.drop_eq_getElem_cons c1]
     simp only [putL]
     rw [if_neg (by omega),if_pos g2,←List.drop_eq_getElem_cons c1,List.take_append_drop]
    rw [hpl];simp
   ·have hpl:putL L n=L:=by
     rw [hput,List.drop_eq_getElem_cons c1]
     simp only [putL]
     rw [if_neg (by omega),if_pos g2,←List.drop_eq_getElem_cons c1,List.take_append_drop]
    rw [hpl];exact hg
end Go.Am
namespace Go.Am.Tsg
open Go.Proofs Go.Am.B
def t13_3:BC:=z [k 3 .nils] [1,2,3] (.seq (z [j 4 0] [1,2,3,4] (.block 0 (.loop [1,2,3,4] (.seq (z [m 17 4,f 18 8 1,l 19 1 18,u 20 .len 19,b 21 .lss 17 20] [1,2,3,4,21] (.cond (.t 21) .skip (.exit 0))) (.seq (.block 1 (.ops [m 24 3,f 25 8 1,l 26 1 25,m 27 4,x 28 1 26 27,l 29 1 28,g 30 33 [.t 24,.t 29],m 3 30] [1,2,3,4])) (.ops [m 22 4,c 23 .add 22 1,m 4 23] [1,2,3,4])))))) (z [m 31 3,f 32 8 1,s 1 32 31] [1,2] (z [⟨some 33,none,.load (.ld 9 true),[.t 1]⟩,s 9 2 33] [2] .ret)))
def b13:BC:=z [⟨some 1,none,.alloc (.box),[.t 0]⟩,⟨some 2,none,.alloc (.alloc [(.int .i64 0),.nils,(.int .u32 0),(.bool false),(.int .u32 0),(.bool false),(.int .u32 0),(.bool false),.nils]),[]⟩] [1,2] (z [f 5 1 1,l 6 1 5,g 7 42 [.t 6],f 8 1 1,s 1 8 7] [1,2] (.seq (z [f 9 3 1,l 10 1 9,u 11 .not 10] [1,2,11] (.cond (.t 11) (.ops [f 12 4 1,⟨none,none,.loud (.st 1),[.t 12,.c (.int .u32 0)]⟩] [1,2]) .skip)) (.seq (z [f 13 5 1,l 14 1 13,u 15 .not 14] [1,2,15] (.cond (.t 15) (.ops [f 16 6 1,⟨none,none,.loud (.st 1),[.t 16,.c (.int .u32 0)]⟩] [1,2]) .skip)) t13_3)))
def F13:Fn Try.prog 13:=Fn.mkX false b13 [.c 2 9 true] 34 Try.f13 _ Try.func13 (by decide) rfl Try.ntmps13 (by kernel_rfl) (by kernel_rfl)
end Go.Am.Tsg
namespace Go.Am
open Go.Proofs Go.Sort
theorem z1u (E:Env) (a:At) (ha:a.ok) {σ t:Store} {i j:Nat} {z:List AV} (hz:z.length=9) (hi:t i=some (.box a.c)) (hj:t j=some (.box z)) (hij:¬ i=j) (hi0:σ i=none) (hj0:σ j=none) (hs:Store.sub σ t) {nn rr:Env→Store→Prop} {x:Nat→Env→Store→Prop}
 (hr:∀ v s',Store.sub σ s'→Own 1 σ ((canonC a.cms).map cU) v s'→s' j=some (.box (a.cO v))→rr [(2,.ptr j 0)] s') :
 bwp Try.prog Tsg.t13_3 ((1,.ptr i 0)::(2,.ptr j 0)::E) t nn rr x:=by
 simp only [Tsg.t13_3]
 have hji:¬ j=i:=fun e=>hij e.symm
 have hcm:a.cms.length≤1000000:=ha.2.2
 simp only [↓vcPre,↓z0,↓reduceIte,vcPost,vcStd,Nat.reduceEqDiff,reduceCtorEq,Nat.reduceAdd,Nat.reduceLeDiff,Int.reduceLT,Int.reduceLE,↓u_setN]
 refine LoopQ.inv (S:=Nat×AV×Store) (fun q=>[(1,.ptr i 0),(2,.ptr j 0),(3,q.2.1),(4,.int .i64 (q.1:Int))]) (fun q=>q.2.2) (fun q=>q.1≤a.cms.length∧Store.sub t q.2.2∧Own 1 t (((a.cms.take q.1).foldl putL []).map cU) q.2.1 q.2.2) (fun q=>a.cms.length+1 - q.1) (0,.nils,t) rfl (Store.sub_refl _) ⟨by simp only;omega,Store.sub_refl _,.nil⟩ ?_
 rintro ⟨k,v,s⟩ ⟨hk,hts,ho⟩
 simp only at hk hts ho
 have hsi:=hts _ _ hi
 have hsj:=hts _ _ hj
 simp only [hsi,At.c,↓vcPre,↓z0,↓reduceIte,vcPost,vcStd,Nat.reduceEqDiff,reduceCtorEq,Nat.reduceAdd,Nat.reduceLeDiff,Int.reduceLT,Int.reduceLE,↓u_setN]
 refine ⟨fun c1 => ?_,fun c1 => ?_⟩
 ·have ek:IntKind.i64.wrap ((k:Int)+1)=((k+1:Nat):Int):=by rw [zg (by unfold I64;omega)];omega
  refine ⟨c1,by simp [cU],?_⟩
  simp only [cU,↓vcPre,↓z0,↓reduceIte,vcPost,vcStd,Nat.reduceEqDiff,reduceCtorEq,Nat.reduceAdd,Nat.reduceLeDiff,Int.reduceLT,Int.reduceLE,↓u_setN]
  have hfl:∀ (l:List Int) (b:List Int),(l.foldl putL b).length≤b.length+l.length:=by
   intro l
   induction l with
   | nil=>intro b;simp
   | cons y r ih=>intro b;have h1:=ih (putL b y);have h2:=z1a b y;simp only [List.foldl_cons,List.length_cons];omega
  have hlen:=hfl (a.cms.take k) []
  simp only [List.length_take,List.length_nil] at hlen
  refine (s33 hts ((a.cms.take k).foldl putL []) a.cms[k] (by omega) ho).Q ?_
  rintro r s' ⟨h1,h2⟩
  simp only [↓vcPre,↓z0,↓reduceIte,vcPost,vcStd,Nat.reduceEqDiff,reduceCtorEq,Nat.reduceAdd,Nat.reduceLeDiff,Int.reduceLT,Int.reduceLE,↓u_setN]
  rw [ek]
  refine NextQ.to (k+1,r,s') rfl (Store.sub_refl _) (by simp only;omega) ⟨by simp only;omega,h1,?_⟩
  simp only
  rw [qg putL [] c1]
  exact h2
 ·have hkl:a.cms.take k=a.cms:=List.take_of_length_le (by omega)
  rw [hkl,z1o] at ho
  have hv:v.isTup=false∧v.cells=[v]:=by
   rcases ho with ⟨_,rfl⟩ | ⟨g,rfl,_,_⟩ <;> exact ⟨rfl,rfl⟩
  simp only [hv.1,hv.2,hsi,hsj,hij,hji,At.c,hz,↓vcPre,↓z0,↓reduceIte,vcPost,vcStd,Nat.reduceEqDiff,reduceCtorEq,Nat.reduceAdd,Nat.reduceLeDiff,Int.reduceLT,Int.reduceLE,↓u_setN]
  rw [yx _ _ (by simp [hz]),xh]
  refine hr v _ (z6 (z6 (Store.sub_trans hs hts) hi0) hj0) ?_ (Store.set_same _ _ _)
  rcases ho.weak hs with h | ⟨g,h1,h2,h3⟩
  ·exact .inl h
  ·refine .inr ⟨g,h1,h2,?_⟩
   have hgi:¬ g=i:=fun e=>by rw [e,hsi] at h3;cases h3
   have hgj:¬ g=j:=fun e=>by rw [e,hsj] at h3;cases h3
   rw [Store.set_ne _ _ hgj,Store.set_ne _ _ hgi];exact h3
theorem s13 (a:At) (ha:a.ok) {σ:Store} {Q:AV→Store→Prop} (hQ:∀ v s',Store.sub σ s'→Own 1 σ ((canonC a.cms).map cU) v s'→Weak (.agg ((canonA a).cO v)) s' Q):ACalls Try.prog 13 [.agg a.c] σ Q:=by
 refine zk Tsg.F13 (by simp [Tsg.F13,Fn.mkX]) ?_
 simp only [Tsg.F13,Fn.mkX,Tsg.b13]
 simp only [At.c,↓vcPre,↓z0,↓reduceIte,vcPost,vcStd,Nat.reduceEqDiff,reduceCtorEq,Nat.reduceAdd,Nat.reduceLeDiff,Int.reduceLT,Int.reduceLE,↓u_setN]
 refine AllocQ.i0 fun i hi => ?_
 simp only [At.c,↓vcPre,↓z0,↓reduceIte,vcPost,vcStd,Nat.reduceEqDiff,reduceCtorEq,Nat.reduceAdd,Nat.reduceLeDiff,Int.reduceLT,Int.reduceLE,↓u_setN]
 refine AllocQ.i1 fun j hj1 hj2 hj => ?_
 simp only [hj1,hj2,↓vcPre,↓z0,↓reduceIte,vcPost,vcStd,Nat.reduceEqDiff,reduceCtorEq,Nat.reduceAdd,Nat.reduceLeDiff,Int.reduceLT,Int.reduceLE,↓u_setN]
 refine (c42 _ ha.1 ha.2.1).Q ?_
 simp only [hj1,hj2,↓vcPre,↓z0,↓reduceIte,vcPost,vcStd,Nat.reduceEqDiff,reduceCtorEq,Nat.reduceAdd,Nat.reduceLeDiff,Int.reduceLT,Int.reduceLE,↓u_setN]
 have key:∀ (E:Env) (t:Store) (z:List AV) (x:Nat→Env→Store→Prop) (n:Env→Store→Prop) (m p:Int),z.length=9→t i=some (.box ({ a with med:=m,prf:=p }:At).c)→t j=some (.box z)→Store.sub σ t→(if a.hm then a.med else 0)=m→(if a.hp then a.prf else 0)=p →
  bwp Try.prog Tsg.t13_3 ((1,.ptr i 0)::(2,.ptr j 0)::E) t n (fun e s => @EndQ e s ⟨Tsg.F13.slots,Q⟩) x:=by
  intro E t z x n m p hz h1 h2 h3 rfl rfl
  refine z1u E { a with med:=(if a.hm then a.med else 0),prf:=(if a.hp then a.prf else 0) } ha hz h1 h2 hj2 hi hj h3 ?_
  intro v s' q1 q2 q3
  unfold EndQ
  refine ⟨_,?_,hQ v s' q1 q2⟩
  show Env.res [(2,AV.ptr j 0)] s' [RS.c 2 9 true]=_
  have e9:∀ x:At,(x.cO v).length=9:=fun _=>rfl
  have t9:∀ x:At,List.take 9 (x.cO v)=x.cO v:=fun _=>rfl
  simp only [q3,e9,t9,Nat.le_refl,↓vcPre,↓z0,↓reduceIte,vcPost,vcStd,Nat.reduceEqDiff,reduceCtorEq,Nat.reduceAdd,Nat.reduceLeDiff,Int.reduceLT,Int.reduceLE,↓u_setN]
  rfl
 cases hm:a.hm <;> cases hp:a.hp
 all_goals simp only [↓vcPre,↓z0,↓reduceIte,vcPost,vcStd,Nat.reduceEqDiff,reduceCtorEq,Nat.reduceAdd,Nat.reduceLeDiff,Int.reduceLT,Int.reduceLE,↓u_setN]
 all_goals
  refine key _ _ zCells _ _ (if a.hm then a.med else 0) (if a.hp then a.prf else 0) rfl ?_ ?_ ?_ rfl rfl
  ·rw [Store.set_same];simp [At.c,hm,hp]
  ·simp only [Store.set_ne _ _ hj1,Store.set_same];rfl
  ·first
    | exact z6 (z6 (z6 (zj hi hj hj1) hi) hi) hi
    | exact z6 (z6 (zj hi hj hj1) hi) hi
    | exact z6 (zj hi hj hj1) hi
theorem c13 (a:At) (ha:a.ok):Pur Try.prog 13 [.agg a.c] (.agg (canonA a).c):=fun σ =>
 s13 a ha fun v s' hs ho=>by
  rcases ho with ⟨h0,rfl⟩ | ⟨g,rfl,hg,hh⟩
  ·have h0':canonC a.cms=[]:=by simpa using h0
   refine Weak.agg (WeakL.nil 8 1 rfl (WeakL.forget hs (WeakL.pure ⟨?_,rfl,?_⟩)))
   ·intro c hc
    simp [At.cO] at hc
    rcases hc with rfl | rfl | rfl | rfl | rfl | rfl | rfl | rfl | rfl <;> rfl
   ·simp [At.cO,At.c,canonA,h0']
  ·refine Weak.agg (WeakL.freeze 8 rfl hh (by simp) (WeakL.forget (fun i o hi => ?_) (WeakL.pure ⟨?_,rfl,?_⟩)))
   ·rw [Store.del_ne _ (fun e=>by subst e;rw [hg] at hi;cases hi)];exact hs i o hi
   ·intro c hc
    simp [At.cO] at hc
    rcases hc with rfl | rfl | rfl | rfl | rfl | rfl | rfl | rfl | rfl <;> rfl
   ·have:List.take (canonC a.cms).length ((canonC a.cms).map cU)=(canonC a.cms).map cU:=List.take_of_length_le (by simp)
    simp [At.cO,At.c,canonA,this]
end Go.Am
namespace Go.Am
structure PO {α:Type} (f:α→α→Int):Prop where
 anti:∀ a b,f b a<0↔0<f a b
 tr:∀ a b c,f a b≤0→f b c≤0→f a c≤0
theorem PO.z {α:Type} {f:α→α→Int} (h:PO f) {a b:α} (e:f a b=0):f b a=0:=by
 have h1:=h.anti a b;have h2:=h.anti b a;omega
theorem PO.lt {α:Type} {f:α→α→Int} (h:PO f) {a b c:α} (h1:f a b<0) (h2:f b c≤0):f a c<0:=by
 apply Classical.byContradiction;intro hn
 have a1:=h.anti a c;have a2:=h.anti c a;have a3:=h.anti a b;have a4:=h.anti b a
 have:=h.tr b c a h2 (by omega)
 omega
theorem PO.lt' {α:Type} {f:α→α→Int} (h:PO f) {a b c:α} (h1:f a b≤0) (h2:f b c<0):f a c<0:=by
 apply Classical.byContradiction;intro hn
 have a1:=h.anti a c;have a2:=h.anti c a;have a3:=h.anti b c;have a4:=h.anti c b
 have:=h.tr c a b (by omega) h1
 omega
def lex {α:Type} (f g:α→α→Int) (a b:α):Int:=if f a b=0 then g a b else f a b
theorem PO.lex {α:Type} {f g:α→α→Int} (hf:PO f) (hg:PO g):PO (lex f g) where
 anti a b:=by
  have h1:=hf.anti a b;have h2:=hf.anti b a;have h3:=hg.anti a b
  unfold Am.lex
  by_cases e:f a b=0
  ·rw [if_pos e,if_pos (hf.z e)];exact h3
  ·rw [if_neg e,if_neg (fun e'=>e (hf.z e'))];exact h1
 tr a b c:=by
  unfold Am.lex
  intro h1 h2
  by_cases e1:f a b=0 <;> by_cases e2:f b c=0
  ·rw [if_pos e1] at h1;rw [if_pos e2] at h2
   have h3:=hf.tr a b c (by omega) (by omega)
   have h4:=hf.tr c b a (by rw [hf.z e2];omega) (by rw [hf.z e1];omega)
   have h5:=hf.anti a c;have h6:=hf.anti c a
   rw [if_pos (by omega)];exact hg.tr a b c h1 h2
  ·rw [if_neg e2] at h2
   have:=hf.lt' (a:=a) (b:=b) (c:=c) (by omega) (by omega)
   rw [if_neg (by omega)];omega
  ·rw [if_neg e1] at h1
   have:=hf.lt (a:=a) (b:=b) (c:=c) (by omega) (by omega)
   rw [if_neg (by omega)];omega
  ·rw [if_neg e1] at h1;rw [if_neg e2] at h2
   have:=hf.lt (a:=a) (b:=b) (c:=c) (by omega) (by omega)
   rw [if_neg (by omega)];omega
theorem PO.key {α β:Type} {f:β→β→Int} (k:α→β) (h:PO f):PO fun a b=>f (k a) (k b):=⟨fun _ _=>h.anti _ _,fun _ _ _=>h.tr _ _ _⟩
theorem PO.cmpI:PO cmpI:=⟨fun a b=>by unfold Am.cmpI;split <;> split <;> (try split) <;> (try split) <;> omega,fun a b c=>by unfold Am.cmpI;split <;> split <;> (try split) <;> (try split) <;> (try split) <;> omega⟩
theorem PO.truth:PO fun a b:Bool=>IntKind.i64.wrap (truthF a - truthF b):=⟨by decide,by decide⟩
theorem PO.zero {α:Type}:PO fun _ _:α=>(0:Int):=⟨fun _ _=>by omega,fun _ _ _ _ _=>by omega⟩
theorem PO.list {α:Type} {f:α→α→Int} (h:PO f):PO (cmpG f) where
 anti:=by
  intro a
  induction a with
  | nil=>intro b;cases b <;> simp [cmpG]
  | cons x r ih =>
    intro b
    cases b with
    | nil=>simp [cmpG]
    | cons y s =>
      have h1:=h.anti x y;have h2:=h.anti y x
      simp only [cmpG]
      by_cases e:f x y=0
      ·rw [if_pos e,if_pos (h.z e)];exact ih s
      ·rw [if_neg e,if_neg (fun e'=>e (h.z e'))];exact h1
 tr:=by
  intro a
  induction a with
  | nil=>intro b c _ _;cases c <;> simp [cmpG]
  | cons x r ih =>
    intro b c
    cases b with
    | nil=>intro h1;simp [cmpG] at h1
    | cons y s =>
      cases c with
      | nil=>intro _ h2;simp [cmpG] at h2
      | cons z t =>
        simp only [cmpG]
        intro h1 h2
        by_cases e1:f x y=0 <;> by_cases e2:f y z=0
        ·rw [if_pos e1] at h1;rw [if_pos e2] at h2
         have h3:=h.tr x y z (by omega) (by omega)
         have h4:=h.tr z y x (by rw [h.z e2];omega) (by rw [h.z e1];omega)
         have h5:=h.anti x z;have h6:=h.anti z x
         rw [if_pos (by omega)];exact ih s t h1 h2
        ·rw [if_neg e2] at h2
         have:=h.lt' (a:=x) (b:=y) (c:=z) (by omega) (by omega)
         rw [if_neg (by omega)];omega
        ·rw [if_neg e1] at h1
         have:=h.lt (a:=x) (b:=y) (c:=z) (by omega) (by omega)
         rw [if_neg (by omega)];omega
        ·rw [if_neg e1] at h1;rw [if_neg e2] at h2
         have:=h.lt (a:=x) (b:=y) (c:=z) (by omega) (by omega)
         rw [if_neg (by omega)];omega
theorem PO.congr {α:Type} {f g:α→α→Int} (h:PO f) (e:∀ a b,g a b=f a b):PO g:=⟨fun a b=>by rw [e,e];exact h.anti a b,fun a b c=>by rw [e,e,e];exact h.tr a b c⟩
theorem PO.seg:PO cmpSeg:=by
 refine (PO.lex (PO.key Seg.kind PO.cmpI) (PO.lex (PO.key (fun s:Seg=>(s.ls.length:Int)) PO.cmpI) (PO.lex (PO.key Seg.ls PO.cmpI.list) PO.zero))).congr fun a b => ?_
 simp only [cmpSeg,orL];rfl
theorem PO.path:PO cmpPath:=PO.seg.list
theorem PO.at:PO cmpAs:=by
 refine (PO.lex (PO.key At.org PO.cmpI) (PO.lex (PO.key At.path PO.path) (PO.lex (PO.key At.nxt PO.cmpI) (PO.lex (PO.key At.hm PO.truth) (PO.lex (PO.key At.med PO.cmpI) (PO.lex (PO.key At.hp PO.truth) (PO.lex (PO.key At.prf PO.cmpI) (PO.lex (PO.key At.atm PO.truth) (PO.lex (PO.key At.cms PO.cmpI.list) PO.zero))))))))).congr fun a b => ?_
 simp only [cmpAs,orL];rfl
end Go.Am
namespace Go.Am
def b4 (n:Int):List Int:=[n / 16777216 % 256,n / 65536 % 256,n / 256 % 256,n % 256]
def segRight (s:Seg):Prop:=(s.kind=1∨s.kind=2)∧1≤s.ls.length∧s.ls.length≤255
instance (s:Seg):Decidable (segRight s):=inferInstanceAs (Decidable (_∧_∧_))
def pathRight (l:List Seg):Prop:=(∀ s ∈ l,segRight s)∧l.length≤16
instance (l:List Seg):Decidable (pathRight l):=inferInstanceAs (Decidable (_∧_))
def oneA (fl kind:Int) (v:List Int):List Int :=
 (if 255<v.length then [fl+16,kind,(v.length:Int) / 256 % 256,(v.length:Int) % 256] else [fl,kind,(v.length:Int)])++v
def goodN (n:Int):Prop:=n / 16777216≠0∧n / 16777216≠127∧n / 16777216<224
instance (n:Int):Decidable (goodN n):=inferInstanceAs (Decidable (_∧_∧_))
def atRight (a:At):Prop:=(0≤a.org∧a.org≤2)∧pathRight a.path∧goodN a.nxt∧(a.hm=false→a.med=0)∧(a.hp=false→a.prf=0)∧a.cms.length≤32∧Inc a.cms
def wantOf (k:Int):Int:=if k=1∨k=2∨k=3∨k=5∨k=6 then 64 else if k=4 then 128 else if k=8 then 192 else 0
def fitsOf (k:Int) (n:Nat):Prop:=(k=1→n=1)∧(k=3∨k=4∨k=5→n=4)∧(k=6→n=0)∧(k=8→n % 4=0)
instance (k:Int) (n:Nat):Decidable (fitsOf k n):=inferInstanceAs (Decidable (_∧_∧_∧_))
end Go.Am
namespace Go.Am
open Go.Proofs Go.Sort
def cB (n:Int):List AV:=[.int .u8 n]
def WI (τ:Store) (id:Nat) (L:List Int) (s:Store):Prop:=τ id=none∧Store.sub τ s∧∃ v,s id=some (.box [v])∧Own 1 τ (L.map cB) v s
theorem WI.mono {τ s s':Store} {id:Nat} {L:List Int} (h:WI τ id L s) (hs:Store.sub s s'):WI τ id L s':=by
 obtain ⟨h1,h2,v,h3,h4⟩:=h
 exact ⟨h1,Store.sub_trans h2 hs,v,hs _ _ h3,h4.mono hs⟩
theorem Own.setId {esz:Nat} {τ s:Store} {L:List (List AV)} {v:AV} {id:Nat} {o o':Obj} (h:Own esz τ L v s) (hid:s id=some o) (ho:∀ M,o ≠ .arr esz M):Own esz τ L v (s.set id o'):=by
 rcases h with h | ⟨g,h1,h2,h3⟩
 ·exact .inl h
 ·have hgi:¬ g=id:=fun e=>by rw [e,hid] at h3;cases h3;exact ho _ rfl
  exact .inr ⟨g,h1,h2,by rw [Store.set_ne _ _ hgi];exact h3⟩
theorem Own.cell {esz:Nat} {τ s:Store} {L:List (List AV)} {v:AV} (h:Own esz τ L v s):v.isTup=false∧v.cells=[v]:=by
 rcases h with ⟨_,rfl⟩ | ⟨g,rfl,_⟩ <;> exact ⟨rfl,rfl⟩
def Rd (esz:Nat) (τ:Store) (L:List (List AV)) (v:AV):Prop:=(∀ t,Store.sub τ t→slc t esz v=some L)∧pv .len [v]=some (.int .i64 L.length)
theorem Rd.mono {esz:Nat} {τ τ':Store} {L:List (List AV)} {v:AV} (h:Rd esz τ L v) (hs:Store.sub τ τ'):Rd esz τ' L v:=⟨fun t ht=>h.1 t (Store.sub_trans hs ht),h.2⟩
theorem Rd.nils {esz:Nat} {τ:Store}:Rd esz τ [] .nils:=⟨fun _ _=>rfl,rfl⟩
theorem Rd.os {esz g:Nat} {τ:Store} {L:List (List AV)} (h:τ g=some (.arr esz L)):Rd esz τ L (.os g esz 0 L.length):=⟨fun t ht=>zm (ht _ _ h) rfl,by simp [pv,pLen]⟩
theorem Rd.own {esz:Nat} {τ s:Store} {L:List (List AV)} {v:AV} (h:Own esz τ L v s):Rd esz s L v:=by
 rcases h with ⟨rfl,rfl⟩ | ⟨g,rfl,_,h⟩
 ·exact Rd.nils
 ·exact Rd.os h
theorem Own.appM {esz bytes:Nat} {τ s:Store} {L ys:List (List AV)} {v wv:AV} {K:AV→Store→Prop} (hsub:Store.sub τ s) (ho:Own esz τ L v s) (hw:slc s esz wv=some ys) (hsz:(L.length+ys.length)*bytes≤140737488355328)
 (h:∀ v' s',Store.sub τ s'→Own esz τ (L++ys) v' s'→K v' s'):appwp esz bytes v wv s K:=by
 rcases ho with ⟨rfl,rfl⟩ | ⟨g,rfl,hg,hs⟩
 ·refine ue hw (by simpa using hsz) (fun h0 => ?_) (fun _ j hj => ?_)
  ·exact h _ _ hsub (.inl ⟨by simpa using h0,rfl⟩)
  ·exact h _ _ (z6 hsub (zh hsub hj)) (.inr ⟨j,rfl,zh hsub hj,Store.set_same _ _ _⟩)
 ·refine y6 (zm hs rfl) hw hsz fun j hj => ?_
  have hτ:τ j=none:=zh hsub hj
  refine h _ _ (fun x q hx => ?_) (.inr ⟨j,by simp,hτ,by rw [Store.set_same]⟩)
  have hxj:x≠j:=fun e=>by subst e;rw [hτ] at hx;cases hx
  have hxg:x≠g:=fun e=>by subst e;rw [hg] at hx;cases hx
  rw [Store.set_ne _ _ hxj,Store.del_ne _ hxg];exact hsub x q hx
theorem Rd.cases {esz:Nat} {σ:Store} {L:List (List AV)} {v:AV} (h:Rd esz σ L v):(v = .nils∧L=[])∨v = .sl esz L∨∃ g o n,v = .os g esz o n:=by
 have h1:=h.1 σ (Store.sub_refl _)
 unfold slc at h1
 split at h1
 ·exact .inl ⟨rfl,by cases h1;rfl⟩
 ·split at h1
  ·rename_i e;subst e;cases h1;exact .inr (.inl rfl)
  ·cases h1
 ·split at h1
  ·split at h1
   ·rename_i e;obtain ⟨rfl,_,_⟩:=e;exact .inr (.inr ⟨_,_,_,rfl⟩)
   ·cases h1
  ·cases h1
 ·cases h1
theorem Rd.at {esz:Nat} {τ:Store} {L:List (List AV)} {v:AV} (h:Rd esz τ L v) {k:Nat} (hk:k<L.length):∃ p,pv (.idx esz) [v,.int .i64 (k:Int)]=some p∧∀ t,Store.sub τ t→∀ n,rd t n p=takeN 0 n L[k]:=by
 rcases h.cases with ⟨rfl,h0⟩ | rfl | ⟨g,o,n,rfl⟩
 ·subst h0;simp at hk
 ·refine ⟨.ep L[k],by simp [pv,pIdx,hk],fun t _ n=>rfl⟩
 ·have hl:=h.2
  simp only [pv,pLen,Option.some.injEq,AV.int.injEq,true_and] at hl
  refine ⟨.aptr g esz (o+k) 0,by simp [pv,pIdx];omega,fun t ht m => ?_⟩
  have h1:=h.1 t ht
  unfold slc at h1
  simp only at h1
  split at h1
  ·rename_i e2 es hg
   split at h1
   ·rename_i e;obtain ⟨_,rfl,hle⟩:=e
    have h2:=Option.some.inj h1
    have h3:es[o+k]? = some L[k]:=by
     have h4:((es.drop o).take n)[k]? = some L[k]:=by rw [h2];exact List.getElem?_eq_getElem hk
     rw [List.getElem?_take_of_lt (by omega),List.getElem?_drop] at h4
     exact h4
    simp only [rd,hg,if_true,h3,Option.bind_some]
   ·cases h1
  ·cases h1
end Go.Am
namespace Go.Am
open Go.Proofs Go.Sort
instance (l:List Int):Decidable (Inc l):=inferInstanceAs (Decidable (l.Pairwise (· < ·)))
instance (a:At):Decidable (atRight a):=inferInstanceAs (Decidable (_∧_∧_∧_∧_∧_∧_))
end Go.Am
namespace Go.Am
structure It where
 k:Int
 v:List Int
def It.enc (i:It):List Int:=oneA (wantOf i.k) i.k i.v
end Go.Am
namespace Go.Am
theorem Sim.obj {G:Gh} {σ:Store} {w:World} (hs:Sim G σ w) {p:Nat} {o o':Obj} (hp:σ p=some o) (h:∀ b base,G.ρ p=some (b,base)→ORel G w b base o→ORel G w b base o') :
 Sim G (σ.set p o') w∧Ext G σ w G (σ.set p o') w:=by
 have hset:∀ i oi,(σ.set p o') i=some oi→∃ oj,σ i=some oj:=fun i oi h=>by
  by_cases hi:i=p
  ·subst hi;exact ⟨o,hp⟩
  ·rw [Store.set_ne _ _ hi] at h;exact ⟨oi,h⟩
 refine ⟨{ lt:=hs.lt,fin:=hs.fin,blk:=hs.blk,used := ?_,inj := ?_,apart := ?_ },{ Ext.refl G σ w with newOwn := ?_,newId := ?_ }⟩
 ·intro i oi hi
  by_cases e:i=p
  ·subst e
   rw [Store.set_same] at hi;cases hi
   obtain ⟨c,bi,h2,h3⟩:=hs.used i _ hp
   exact ⟨c,bi,h2,h c bi h2 h3⟩
  ·rw [Store.set_ne _ _ e] at hi;exact hs.used i oi hi
 ·intro i j oi oj b bi bj h1 h2
  obtain ⟨a1,k1⟩:=hset i oi h1
  obtain ⟨a2,k2⟩:=hset j oj h2
  exact hs.inj i j a1 a2 b bi bj k1 k2
 ·intro i oi b bi h1
  obtain ⟨a1,k1⟩:=hset i oi h1
  exact hs.apart i a1 b bi k1
 ·rintro c ⟨i,oi,bi,h1,h2⟩
  obtain ⟨a1,k1⟩:=hset i oi h1
  exact .inl ⟨i,a1,bi,k1,h2⟩
 ·intro i oi h1;exact .inl (hset i oi h1)
theorem WeakE.frz {e:Env} {σ:Store} {Q:Env→Store→Prop} (t:Nat) {id esz off len:Nat} {es:List (List AV)} (ht:e.get t=some (.os id esz off len)) (hσ:σ id=some (.arr esz es)) (hle:off+len≤es.length)
 (h:WeakE ((t,.sl esz ((es.drop off).take len))::e) (σ.del id) Q):WeakE e σ Q:=fun G w vs hs hv=>by
 obtain ⟨x,hx,hr⟩:=hv t _ ht
 obtain ⟨G',h1,h2,h3⟩:=xa hs hσ hle hr
 obtain ⟨G2,e2,σ2,g1,g2,g3,g4⟩:=h G' w vs h2 (fun u v hu=>by
  simp only [Env.get] at hu
  split at hu
  ·rename_i he;subst he;cases hu;exact ⟨x,hx,h3⟩
  ·obtain ⟨y,hy,hyr⟩:=hv u v hu;exact ⟨y,hy,h1.vrel hs hyr⟩)
 exact ⟨G2,e2,σ2,h1.trans g1,g2,g3,g4⟩
theorem WeakE.pure {e:Env} {σ:Store} {Q:Env→Store→Prop} (h:Q e σ):WeakE e σ Q:=fun G w vs hs hv=>⟨G,e,σ,Ext.refl _ _ _,hs,hv,h⟩
theorem WeakE.forget {e:Env} {σ σ':Store} {Q:Env→Store→Prop} (hsub:Store.sub σ' σ) (h:WeakE e σ' Q):WeakE e σ Q:=fun G w vs hs hv=>by
 obtain ⟨G',a',σ'',h1,h2,h3,h4⟩:=h G w vs (hs.sub hsub) hv
 exact ⟨G',a',σ'',((Ext.refl G σ w).sub hsub).trans h1,h2,h3,h4⟩
theorem WeakE.slot {e:Env} {σ:Store} {Q:Env→Store→Prop} (t:Nat) {a b:AV} (ht:e.get t=some a) (hab:∀ G w v,VRel G w a v→VRel G w b v) (h:WeakE ((t,b)::e) σ Q):WeakE e σ Q:=fun G w vs hs hv=>by
 obtain ⟨x,hx,hr⟩:=hv t _ ht
 exact h G w vs hs (fun u v hu=>by
  simp only [Env.get] at hu
  split at hu
  ·rename_i he;subst he;cases hu;exact ⟨x,hx,hab _ _ _ hr⟩
  ·exact hv u v hu)
theorem uh (esz:Nat) (G:Gh) (w:World) (v:Value) (h:VRel G w .nils v):VRel G w (.sl esz []) v:=by
 have e:=h.of_nils;subst e;exact .sl0
theorem WeakE.nil {e:Env} {σ:Store} {Q:Env→Store→Prop} (t esz:Nat) (ht:e.get t=some .nils) (h:WeakE ((t,.sl esz [])::e) σ Q):WeakE e σ Q := .slot t ht (fun G w v h=>uh esz G w v h) h
theorem WeakE.own {e:Env} {τ σ:Store} {Q:Env→Store→Prop} (t:Nat) {esz:Nat} {L:List (List AV)} {v:AV} (ht:e.get t=some v) (ho:Own esz τ L v σ) (hs:Store.sub τ σ)
 (h:∀ σ',Store.sub τ σ'→Store.sub σ' σ→(∀ i o,σ i=some o→(∀ n,v ≠ .os i esz 0 n)→σ' i=some o)→WeakE ((t,.sl esz L)::e) σ' Q):WeakE e σ Q:=by
 rcases ho with ⟨rfl,rfl⟩ | ⟨g,rfl,h2,h3⟩
 ·exact .nil t esz ht (h σ hs (Store.sub_refl _) fun _ _ h _=>h)
 ·refine .frz t ht h3 (by omega) ?_
  rw [List.drop_zero,List.take_length]
  refine h _ (sub_del hs h2) (fun j o hj => ?_) fun i o hi hn => ?_
  ·simp only [Store.del] at hj;split at hj
   ·cases hj
   ·exact hj
  ·rw [Store.del_ne _ (fun e=>hn _ (by rw [e]))];exact hi
theorem WeakE.frzBox {e:Env} {σ:Store} {Q:Env→Store→Prop} (p k:Nat) {id esz off len:Nat} {es:List (List AV)} {cs:List AV} (hp:σ p=some (.box cs)) (hk:cs[k]? = some (.os id esz off len)) (hσ:σ id=some (.arr esz es)) (hle:off+len≤es.length)
 (h:WeakE e ((σ.del id).set p (.box (cs.set k (.sl esz ((es.drop off).take len))))) Q):WeakE e σ Q:=fun G w vs hs hv=>by
 have hne:¬ p=id:=fun e=>by subst e;rw [hp] at hσ;cases hσ
 obtain ⟨b,base,hb,ho⟩:=hs.used p _ hp
 obtain ⟨hk',hk2⟩:=List.getElem?_eq_some_iff.1 hk
 cases ho with
 | box hh hsz hf hvv =>
   rename_i ccs ty
   have h0:=hvv k hk'
   rw [hk2] at h0
   obtain ⟨G',h1,h2,h3⟩:=xa hs hσ hle h0
   have hp':(σ.del id) p=some (.box cs):=by rw [Store.del_ne _ hne];exact hp
   obtain ⟨h4,h5⟩:=h2.obj (o' := .box (cs.set k (.sl esz ((es.drop off).take len)))) hp' (fun b' base' hb' ho'=>by
    have e1:=h1.ρ _ _ hb
    rw [hb'] at e1;cases e1
    refine .box hh (by rw [List.length_set];exact hsz) (fun c hc => ?_) (fun i hi => ?_)
    ·rcases List.mem_or_eq_of_mem_set hc with hc | rfl
     ·exact hf c hc
     ·rfl
    ·by_cases hik:i=k
     ·subst hik;rw [List.getElem_set_self];exact h3
     ·rw [List.getElem_set_ne (fun e=>hik e.symm)]
      exact h1.vrel hs (hvv i (by simpa using hi)))
   have hx:=h1.trans h5
   obtain ⟨G2,e2,σ2,g1,g2,g3,g4⟩:=h G' w vs h4 (fun u v hu=>by
    obtain ⟨y,hy,hyr⟩:=hv u v hu;exact ⟨y,hy,h1.vrel hs hyr⟩)
   exact ⟨G2,e2,σ2,hx.trans g1,g2,g3,g4⟩
theorem WeakE.cell {e:Env} {σ:Store} {Q:Env→Store→Prop} (p k:Nat) {a b:AV} {cs:List AV} (hp:σ p=some (.box cs)) (hk:cs[k]? = some a) (hab:∀ G w v,VRel G w a v→VRel G w b v) (hbf:b.flat=true)
 (h:WeakE e (σ.set p (.box (cs.set k b))) Q):WeakE e σ Q:=fun G w vs hs hv=>by
 obtain ⟨hk',hk2⟩:=List.getElem?_eq_some_iff.1 hk
 obtain ⟨h4,h5⟩:=hs.obj (o' := .box (cs.set k b)) hp (fun b' base' hb' ho'=>by
  cases ho' with
  | box hh hsz hf hvv =>
    refine .box hh (by rw [List.length_set];exact hsz) (fun c hc => ?_) (fun i hi => ?_)
    ·rcases List.mem_or_eq_of_mem_set hc with hc | rfl
     ·exact hf c hc
     ·exact hbf
    ·by_cases hik:i=k
     ·subst hik;rw [List.getElem_set_self];have:=hvv i hk';rw [hk2] at this;exact hab _ _ _ this
     ·rw [List.getElem_set_ne (fun e=>hik e.symm)]
      exact hvv i (by simpa using hi))
 obtain ⟨G2,e2,σ2,g1,g2,g3,g4⟩:=h G w vs h4 hv
 exact ⟨G2,e2,σ2,h5.trans g1,g2,g3,g4⟩
theorem EndQ.weak {slots:List RS} {Q:AV→Store→Prop} {e:Env} {τ:Store} (a:AV) (h1:e.res τ slots=some a) (h:Weak a τ Q) : @EndQ e τ ⟨slots,Q⟩:=by
 unfold EndQ;exact ⟨a,h1,h⟩
end Go.Am
namespace Go.Am
theorem WeakE.boxImp {e:Env} {σ:Store} {Q:Env→Store→Prop} (p:Nat) {cs cs':List AV} (hp:σ p=some (.box cs)) (hi:ImpL cs cs') (h:WeakE e (σ.set p (.box cs')) Q):WeakE e σ Q:=fun G w vs hs hv=>by
 have hl:=hi.length
 obtain ⟨h4,h5⟩:=hs.obj (o' := .box cs') hp (fun b' base' hb' ho'=>by
  cases ho' with
  | box hh hsz hf hvv =>
    refine .box hh (by rw [←hl];exact hsz) (fun c hc=>hi.flat c hc) (fun i hx => ?_)
    have hi':i<cs.length:=by rw [hl];exact hx
    obtain ⟨b,hb,hr⟩:=hi.get i _ (List.getElem?_eq_getElem hi')
    rw [List.getElem?_eq_getElem hx] at hb;cases hb
    exact hr.2 _ _ _ (hvv i hi'))
 obtain ⟨G2,e2,σ2,g1,g2,g3,g4⟩:=h G w vs h4 hv
 exact ⟨G2,e2,σ2,h5.trans g1,g2,g3,g4⟩
theorem WeakE.ownBox {e:Env} {τ σ:Store} {Q:Env→Store→Prop} (p k:Nat) {esz:Nat} {L:List (List AV)} {v:AV} {cs:List AV} (hp:σ p=some (.box cs)) (hk:cs[k]? = some v) (ho:Own esz τ L v σ) (hs:Store.sub τ σ) (hτ:τ p=none)
 (h:∀ σ',Store.sub τ σ'→σ' p=some (.box (cs.set k (.sl esz L)))→(∀ i o,σ i=some o→i≠p→(∀ n,v ≠ .os i esz 0 n)→σ' i=some o)→WeakE e σ' Q):WeakE e σ Q:=by
 rcases ho with ⟨rfl,rfl⟩ | ⟨g,rfl,h2,h3⟩
 ·exact .cell p k hp hk (fun G w v h=>uh esz G w v h) rfl (h _ (z6 hs hτ) (Store.set_same _ _ _) fun i o hi hn _=>by rw [Store.set_ne _ _ hn];exact hi)
 ·refine .frzBox p k hp hk h3 (by omega) ?_
  rw [List.drop_zero,List.take_length]
  refine h _ (z6 (sub_del hs h2) hτ) (Store.set_same _ _ _) fun i o hi hn hv => ?_
  rw [Store.set_ne _ _ hn,Store.del_ne _ (fun e=>hv _ (by rw [e]))];exact hi
theorem WeakE.mono {e:Env} {σ:Store} {Q Q':Env→Store→Prop} (h:WeakE e σ Q) (hq:∀ e s,Q e s→Q' e s):WeakE e σ Q':=fun G w vs hs hv=>by
 obtain ⟨G',e',s',h1,h2,h3,h4⟩:=h G w vs hs hv
 exact ⟨G',e',s',h1,h2,h3,hq _ _ h4⟩
end Go.Am
namespace Go.Am
open Go.Proofs Go.Sort
theorem Own.split {esz:Nat} {τ s:Store} {L:List (List AV)} {v:AV} (hsub:Store.sub τ s) (ho:Own esz τ L v s):∃ τ0,Store.sub τ τ0∧Store.sub τ0 s∧(∀ j o,s j=some o→(∀ M,o ≠ .arr esz M)→τ0 j=some o)∧Own esz τ0 L v s:=by
 rcases ho with ⟨hk,hv⟩ | ⟨g,hv,hg,hs⟩
 ·exact ⟨s,hsub,Store.sub_refl _,fun _ _ h _=>h,.inl ⟨hk,hv⟩⟩
 ·exact ⟨s.del g,sub_del hsub hg,z5a _ _,fun j o hj hn=>by rw [Store.del_ne _ (fun e=>by rw [e,hs] at hj;cases hj;exact hn _ rfl)];exact hj,.inr ⟨g,hv,by simp,hs⟩⟩
theorem Own.appP {esz bytes:Nat} {τ s:Store} {L ys:List (List AV)} {v wv:AV} {K:AV→Store→Prop} (hsub:Store.sub τ s) (ho:Own esz τ L v s) (hw:slc s esz wv=some ys) (hsz:(L.length+ys.length)*bytes≤140737488355328)
 (h:∀ v' s',Store.sub τ s'→Own esz τ (L++ys) v' s'→(∀ j o,s j=some o→(∀ M,o ≠ .arr esz M)→s' j=some o)→K v' s'):appwp esz bytes v wv s K:=by
 obtain ⟨τ0,q1,q2,q3,q4⟩:=Own.split hsub ho
 refine Own.appM (τ:=τ0) q2 q4 hw hsz fun v' s' hs' ho' => ?_
 exact h v' s' (Store.sub_trans q1 hs') (ho'.weak q1) fun j o hj hn=>hs' _ _ (q3 j o hj hn)
theorem yz:[AV.int .i64 0,.nils,.int .u32 0,.bool false,.int .u32 0,.bool false,.int .u32 0,.bool false,.nils]=zCells:=rfl
section
variable {a:At} {as1:Int} {σ:Store} {n rr:Env→Store→Prop} {xx:Nat→Env→Store→Prop}
end
end Go.Am
namespace Go.Am
open Go.Proofs Go.Sort
theorem zbo (a n x:Int):Pur Try.prog 107 [.agg [.int .u32 a,.int .i64 n],.int .u32 x] (.bool (hasF a n x)):=by
 refine zo Tst.F107 (by simp [Tst.F107,Fn.mkX]) fun σ => ?_
 simp only [Tst.F107,Fn.mkX,Tst.b107]
 simp only [↓vcPre,↓z0,↓reduceIte,vcPost,vcStd,Nat.reduceEqDiff,reduceCtorEq,Nat.reduceAdd,Nat.reduceLeDiff,Int.reduceLT,Int.reduceLE,↓u_setN]
 refine AllocQ.i0 fun i hi => ?_
 simp only [*,↓vcPre,↓z0,↓reduceIte,vcPost,vcStd,Nat.reduceEqDiff,reduceCtorEq,Nat.reduceAdd,Nat.reduceLeDiff,Int.reduceLT,Int.reduceLE,↓u_setN]
 refine (c83 a n).q' ?_
 have hs:=Store.sub_set σ i (.box [.int .u32 a,.int .i64 n]) hi
 cases h1:rightF a n
 ·simp only [*,↓vcPre,↓z0,↓reduceIte,vcPost,vcStd,Nat.reduceEqDiff,reduceCtorEq,Nat.reduceAdd,Nat.reduceLeDiff,Int.reduceLT,Int.reduceLE,↓u_setN]
  simp [hasF,h1]
 ·simp only [*,↓vcPre,↓z0,↓reduceIte,vcPost,vcStd,Nat.reduceEqDiff,reduceCtorEq,Nat.reduceAdd,Nat.reduceLeDiff,Int.reduceLT,Int.reduceLE,↓u_setN]
  refine (c78 n (qq h1)).q' ?_
  simp only [*,↓vcPre,↓z0,↓reduceIte,vcPost,vcStd,Nat.reduceEqDiff,reduceCtorEq,Nat.reduceAdd,Nat.reduceLeDiff,Int.reduceLT,Int.reduceLE,↓u_setN]
  simp [hasF,h1]
theorem c81 (p q:Int×Int):Pur Try.prog 81 [.agg [.int .u32 p.1,.int .i64 p.2],.agg [.int .u32 q.1,.int .i64 q.2]] (.bool (coversF p q)):=by
 refine zo Tst.F81 (by simp [Tst.F81,Fn.mkX]) fun σ => ?_
 simp only [Tst.F81,Fn.mkX,Tst.b81]
 simp only [↓vcPre,↓z0,↓reduceIte,vcPost,vcStd,Nat.reduceEqDiff,reduceCtorEq,Nat.reduceAdd,Nat.reduceLeDiff,Int.reduceLT,Int.reduceLE,↓u_setN]
 refine AllocQ.i0 fun i hi => ?_
 simp only [↓vcPre,↓z0,↓reduceIte,vcPost,vcStd,Nat.reduceEqDiff,reduceCtorEq,Nat.reduceAdd,Nat.reduceLeDiff,Int.reduceLT,Int.reduceLE,↓u_setN]
 refine AllocQ.i1 fun j hj1 hj2 hj => ?_
 simp only [*,↓vcPre,↓z0,↓reduceIte,vcPost,vcStd,Nat.reduceEqDiff,reduceCtorEq,Nat.reduceAdd,Nat.reduceLeDiff,Int.reduceLT,Int.reduceLE,↓u_setN]
 refine (c83 q.1 q.2).Q ?_
 cases h1:rightF q.1 q.2
 ·simp only [*,↓vcPre,↓z0,↓reduceIte,vcPost,vcStd,Nat.reduceEqDiff,reduceCtorEq,Nat.reduceAdd,Nat.reduceLeDiff,Int.reduceLT,Int.reduceLE,↓u_setN];simp [coversF,h1]
 ·by_cases h3:p.2≤q.2
  ·simp only [*,↓vcPre,↓z0,↓reduceIte,vcPost,vcStd,Nat.reduceEqDiff,reduceCtorEq,Nat.reduceAdd,Nat.reduceLeDiff,Int.reduceLT,Int.reduceLE,↓u_setN]
   refine (zbo p.1 p.2 q.1).Q ?_
   cases h2:hasF p.1 p.2 q.1
   ·simp only [*,↓vcPre,↓z0,↓reduceIte,vcPost,vcStd,Nat.reduceEqDiff,reduceCtorEq,Nat.reduceAdd,Nat.reduceLeDiff,Int.reduceLT,Int.reduceLE,↓u_setN];simp [coversF,h1,h2]
   ·simp only [*,↓vcPre,↓z0,↓reduceIte,vcPost,vcStd,Nat.reduceEqDiff,reduceCtorEq,Nat.reduceAdd,Nat.reduceLeDiff,Int.reduceLT,Int.reduceLE,↓u_setN];simp [coversF,h1,h2,h3]
  ·simp only [*,↓vcPre,↓z0,↓reduceIte,vcPost,vcStd,Nat.reduceEqDiff,reduceCtorEq,Nat.reduceAdd,Nat.reduceLeDiff,Int.reduceLT,Int.reduceLE,↓u_setN]
   simp [coversF,h1,h3]
theorem c57 (r:Rule) (q:Int×Int) (a:At) (ha:a.cms.length≤1000000):Pur Try.prog 57 [.agg r.c,.agg [.int .u32 q.1,.int .i64 q.2],.agg a.c] (.bool (matchF r q a)):=by
 refine zo Tst.F57 (by simp [Tst.F57,Fn.mkX]) fun σ => ?_
 simp only [Tst.F57,Fn.mkX,Tst.b57]
 have e12:r.c.length=12:=rfl
 have e9:a.c.length=9:=rfl
 have r0:List.take 2 r.c=[.int .u32 r.ad,.int .i64 r.ln]:=rfl
 have r2:List.take 1 (List.drop 2 r.c)=[.int .i64 r.fr]:=rfl
 have r3:List.take 1 (List.drop 3 r.c)=[.int .i64 r.tl]:=rfl
 have r4:List.take 1 (List.drop 4 r.c)=[.int .u32 r.cm]:=rfl
 have a8:List.take 1 (List.drop 8 a.c)=[.sl 1 (a.cms.map cU)]:=rfl
 simp only [↓vcPre,↓z0,↓reduceIte,vcPost,vcStd,Nat.reduceEqDiff,reduceCtorEq,Nat.reduceAdd,Nat.reduceLeDiff,Int.reduceLT,Int.reduceLE,↓u_setN]
 refine AllocQ.i0 fun i hi => ?_
 simp only [↓vcPre,↓z0,↓reduceIte,vcPost,vcStd,Nat.reduceEqDiff,reduceCtorEq,Nat.reduceAdd,Nat.reduceLeDiff,Int.reduceLT,Int.reduceLE,↓u_setN]
 refine AllocQ.i1 fun j hj1 hj2 hj => ?_
 simp only [↓vcPre,↓z0,↓reduceIte,vcPost,vcStd,Nat.reduceEqDiff,reduceCtorEq,Nat.reduceAdd,Nat.reduceLeDiff,Int.reduceLT,Int.reduceLE,↓u_setN]
 refine AllocQ.i2 fun k hk1 hk2 hk3 hk4 hk => ?_
 have sT:Store.sub σ (((σ.set i (.box r.c)).set j (.box [.int .u32 q.1,.int .i64 q.2])).set k (.box a.c)):=z6 (zj hi hj hj1) hk
 have Tk:(((σ.set i (.box r.c)).set j (.box [.int .u32 q.1,.int .i64 q.2])).set k (.box a.c)) k=some (.box a.c):=Store.set_same _ _ _
 have Tj:(((σ.set i (.box r.c)).set j (.box [.int .u32 q.1,.int .i64 q.2])).set k (.box a.c)) j=some (.box [.int .u32 q.1,.int .i64 q.2]):=by rw [Store.set_ne _ _ hk4];exact Store.set_same _ _ _
 have Ti:(((σ.set i (.box r.c)).set j (.box [.int .u32 q.1,.int .i64 q.2])).set k (.box a.c)) i=some (.box r.c):=by rw [Store.set_ne _ _ hk2,Store.set_ne _ _ hj2];exact Store.set_same _ _ _
 simp only [↓vcPre,↓z0,↓reduceIte,vcPost,vcStd,Nat.reduceEqDiff,reduceCtorEq,Nat.reduceAdd,Nat.reduceLeDiff,Int.reduceLT,Int.reduceLE,↓u_setN]
 generalize ((σ.set i (.box r.c)).set j (.box [.int .u32 q.1,.int .i64 q.2])).set k (.box a.c)=T at sT Tk Tj Ti ⊢
 simp only [Ti,Tj,e12,r0,↓vcPre,↓z0,↓reduceIte,vcPost,vcStd,Nat.reduceEqDiff,reduceCtorEq,Nat.reduceAdd,Nat.reduceLeDiff,Int.reduceLT,Int.reduceLE,↓u_setN]
 refine (c81 (r.ad,r.ln) q).Q ?_
 have hM:matchF r q a=(coversF (r.ad,r.ln) q && (decide (r.fr≤q.2) && (decide (q.2≤r.tl) && (decide (r.cm=0) || decide (r.cm ∈ a.cms))))):=rfl
 have l1:¬ r.fr≤q.2→q.2<r.fr:=fun h=>by omega
 have l2:r.fr≤q.2→¬ q.2<r.fr:=fun h=>by omega
 have l3:¬ q.2≤r.tl→q.2>r.tl:=fun h=>by omega
 have l4:q.2≤r.tl→¬ q.2>r.tl:=fun h=>by omega
 cases h1:coversF (r.ad,r.ln) q
 ·rw [h1,Bool.false_and] at hM
  rw [hM]
  simp only [↓vcPre,↓z0,↓reduceIte,vcPost,vcStd,Nat.reduceEqDiff,reduceCtorEq,Nat.reduceAdd,Nat.reduceLeDiff,Int.reduceLT,Int.reduceLE,↓u_setN]
  exact sT
 by_cases h2:r.fr≤q.2
 ·have h2':=l2 h2
  by_cases h3:q.2≤r.tl
  ·have h3':=l4 h3
   rw [h1,decide_eq_true h2,decide_eq_true h3,Bool.true_and,Bool.true_and,Bool.true_and] at hM
   simp only [Ti,Tj,Tk,e12,e9,r2,r3,r4,h2',h3',↓vcPre,↓z0,↓reduceIte,vcPost,vcStd,Nat.reduceEqDiff,reduceCtorEq,Nat.reduceAdd,Nat.reduceLeDiff,Int.reduceLT,Int.reduceLE,↓u_setN]
   refine LoopQ.inv (S:=Nat×Bool) (fun w=>[(3,.ptr i 0),(5,.ptr k 0),(7,.bool w.2),(8,.int .i64 (w.1:Int))]) (fun _=>T)
    (fun w=>w.1≤a.cms.length∧w.2=(decide (r.cm=0) || decide (r.cm ∈ a.cms.take w.1))) (fun w=>a.cms.length+1 - w.1) (0,decide (r.cm=0)) rfl (Store.sub_refl _) ⟨by simp only;omega,by simp⟩ ?_
   rintro ⟨m,b⟩ ⟨hm,hb⟩
   simp only at hm hb
   simp only [Tk,a8,e9,↓vcPre,↓z0,↓reduceIte,vcPost,vcStd,Nat.reduceEqDiff,reduceCtorEq,Nat.reduceAdd,Nat.reduceLeDiff,Int.reduceLT,Int.reduceLE,↓u_setN]
   refine ⟨fun c1 => ?_,fun c1 => ?_⟩
   ·have ek:IntKind.i64.wrap ((m:Int)+1)=((m+1:Nat):Int):=by rw [zg (by unfold I64;omega)];omega
    have hstep:(decide (r.cm=0) || decide (r.cm ∈ a.cms.take (m+1)))=(b || decide (a.cms[m]=r.cm)):=by
     rw [hb,List.take_succ_eq_append_getElem c1]
     simp only [List.mem_append,List.mem_singleton,Bool.decide_or,Bool.or_assoc]
     congr 2
     simp only [eq_comm]
    cases b
    ·simp only [Tk,Ti,a8,e9,e12,r4,cU,ek,↓vcPre,↓z0,↓reduceIte,vcPost,vcStd,Nat.reduceEqDiff,reduceCtorEq,Nat.reduceAdd,Nat.reduceLeDiff,Int.reduceLT,Int.reduceLE,↓u_setN]
     exact ⟨c1,NextQ.to (m+1,decide (a.cms[m]=r.cm)) rfl (Store.sub_refl _) (by simp only;omega) ⟨by simp only;omega,by simp only;rw [hstep];rfl⟩⟩
    ·simp only [ek,↓vcPre,↓z0,↓reduceIte,vcPost,vcStd,Nat.reduceEqDiff,reduceCtorEq,Nat.reduceAdd,Nat.reduceLeDiff,Int.reduceLT,Int.reduceLE,↓u_setN]
     exact NextQ.to (m+1,true) rfl (Store.sub_refl _) (by simp only;omega) ⟨by simp only;omega,by simp only;rw [hstep];rfl⟩
   ·have hh:m=a.cms.length:=by omega
    subst hh
    rw [List.take_length] at hb
    rw [hM,←hb]
    simp only [↓vcPre,↓z0,↓reduceIte,vcPost,vcStd,Nat.reduceEqDiff,reduceCtorEq,Nat.reduceAdd,Nat.reduceLeDiff,Int.reduceLT,Int.reduceLE,↓u_setN]
    exact sT
  ·have h3':=l3 h3
   rw [h1,decide_eq_true h2,decide_eq_false h3,Bool.true_and,Bool.true_and,Bool.false_and] at hM
   rw [hM]
   simp only [Ti,Tj,Tk,e12,e9,r2,r3,r4,h2',h3',↓vcPre,↓z0,↓reduceIte,vcPost,vcStd,Nat.reduceEqDiff,reduceCtorEq,Nat.reduceAdd,Nat.reduceLeDiff,Int.reduceLT,Int.reduceLE,↓u_setN]
   exact sT
 ·have h2':=l1 h2
  rw [h1,decide_eq_false h2,Bool.true_and,Bool.false_and] at hM
  rw [hM]
  simp only [Ti,Tj,Tk,e12,e9,r2,r3,r4,h2',↓vcPre,↓z0,↓reduceIte,vcPost,vcStd,Nat.reduceEqDiff,reduceCtorEq,Nat.reduceAdd,Nat.reduceLeDiff,Int.reduceLT,Int.reduceLE,↓u_setN]
  exact sT
end Go.Am
namespace Go.Am
def lay (cur:Array Value) (o:Nat) (vs:List Value):Array Value:=(cur.toList.take o++vs++cur.toList.drop (o+vs.length)).toArray
theorem zx {P:Program} (w:World) {dT sT ty elem:TypeId} {sz:Nat} (g o dLen dCap:Nat) (a:Addr) (sLen sCap k:Nat) (cur:Array Value) (t:TypeId) (cs:List Value)
 (hu:P.underlying dT=some (.slice elem)) (hs:tsz P elem=some sz) (hg:w.heap[g]? = some (.cells cur t (0,0))) (hk:k=Nat.min sLen dLen) (hn:cs.length=k*sz)
 (hsrc:∀ j v,cs[j]? = some v→w.cell? (a.add j)=some v) (hfit:o+cs.length≤cur.size) (h1:∀ v ∈ cs,v.oneCell'=true) :
 (Builtin.copy_ #[dT,sT] ty #[.slice (some ⟨g,o,none⟩) dLen dCap,.slice (some a) sLen sCap]).run P w = .ok (goInt k) (w.setRow g (lay cur o cs)):=by
 have hl:=run_loadCells_list (P:=P) w a cs hsrc
 have hst:=run_storeCells_at P g o t cs 0 cur w hg (by simpa using hfit) h1
 unfold Builtin.copy_
 simp [zb hu,u9,Builtin.firstCells,zq hs,←hk,←hn,hl,hst,lay]
theorem va (w:World) (row A B:Array Value) (e:TypeId):(((w.alloc (.cells row e (0,0))).drew.setRow w.heap.size A).drew.setRow w.heap.size B).heap=w.heap.push (.cells B e (0,0)):=by
 have h1:(w.alloc (.cells row e (0,0))).drew.heap[w.heap.size]? = some (.cells row e (0,0)):=yj _
 have h2:(((w.alloc (.cells row e (0,0))).drew.setRow w.heap.size A).drew).heap[w.heap.size]? = some (.cells A e (0,0)):=zn h1
 refine Array.ext_getElem? fun k => ?_
 by_cases hk:k=w.heap.size
 ·subst hk
  rw [zn h2]
  simp
 ·rw [zy _ hk]
  show ((w.alloc (.cells row e (0,0))).drew.setRow w.heap.size A).heap[k]? = _
  rw [zy _ hk]
  show (w.heap.push _)[k]? = _
  rw [Array.getElem?_push,Array.getElem?_push,if_neg hk,if_neg hk]
structure InsHolds (P:Program) (F:Nat) (tS e:TypeId) (esz bytes:Nat) (z:List AV):Prop where
 ent:Ent P F
 und:P.underlying tS=some (.slice e)
 sz:tsz P e=some esz
 zero:tzero P e=some z
 zl:z.length=esz
 inf:∃ i,P.info? e=some i∧i.bytes=bytes∧1≤i.bytes
 onto:∀ (base:Option Addr) (c:Nat) (xb:Addr) (xc:Nat) (w:World) (v':Value) (w':World),(Builtin.append_ #[tS,tS] tS #[.slice base 0 c,.slice (some xb) 1 xc]).run P w = .ok v' w' →
  Calls P F #[.slice base 0 c,.int .i64 0,.slice (some xb) 1 xc] w fun r w2=>r = .returned v'∧w2=w'
 shift:∀ (b o n c vb vo vc:Nat) (cur vcur:Array Value) (t vt:TypeId) (vs cs:List Value) (w:World),0<n→n≤140737488355328→n+1≤c→w.heap[b]? = some (.cells cur t (0,0))→w.heap[vb]? = some (.cells vcur vt (0,0))→vb≠b →
  vs.length=esz→cs.length=n*esz→(∀ j v,vs[j]? = some v→w.cell? ⟨vb,vo+j,none⟩=some v)→(∀ j v,cs[j]? = some v→w.cell? ⟨b,o+j,none⟩=some v)→o+(n+1)*esz≤cur.size →
  (∀ v ∈ vs,v.oneCell'=true)→(∀ v ∈ cs,v.oneCell'=true) →
  Calls P F #[.slice (some ⟨b,o,none⟩) n c,.int .i64 0,.slice (some ⟨vb,vo,none⟩) 1 vc] w fun r w2=>r = .returned (.slice (some ⟨b,o,none⟩) (n+1) c)∧w2.tape=w.tape∧w2.os=w.os∧w2.output=w.output∧w.drawn≤w2.drawn ∧
   w2.heap=(w.setRow b (lay (lay cur (o+esz) cs) o vs)).heap
 grow:∀ (b o n vb vo vc:Nat) (cur vcur:Array Value) (t vt:TypeId) (vs cs:List Value) (w:World),0<n→(n+1)*bytes≤140737488355328→w.heap[b]? = some (.cells cur t (0,0))→w.heap[vb]? = some (.cells vcur vt (0,0)) →
  vs.length=esz→cs.length=n*esz→(∀ j v,vs[j]? = some v→w.cell? ⟨vb,vo+j,none⟩=some v)→(∀ j v,cs[j]? = some v→w.cell? ⟨b,o+j,none⟩=some v) →
  (∀ v ∈ vs,v.oneCell'=true)→(∀ v ∈ cs,v.oneCell'=true) →
  Calls P F #[.slice (some ⟨b,o,none⟩) n n,.int .i64 0,.slice (some ⟨vb,vo,none⟩) 1 vc] w fun r w2=>∃ (cap:Nat) (row:Array Value),n+1≤cap∧row.size=cap*esz∧r = .returned (.slice (some ⟨w.heap.size,0,none⟩) (n+1) cap) ∧
   w2.tape=w.tape∧w2.os=w.os∧w2.output=w.output∧w2.heap=w.heap.push (.cells (lay (lay row 0 vs) esz cs) e (0,0))
section
variable {P:Program} {w:World} {G:Gh} {σ:Store}
theorem ERel.one {esz:Nat} {es:List (List AV)} {f:Nat→Value} (h:ERel G w esz es f):∀ v ∈ (List.range (es.length*esz)).map f,v.oneCell'=true:=by
 intro v hv
 obtain ⟨k,hk,rfl⟩:=List.mem_map.1 hv
 have hk':k<es.length*esz:=by simpa using hk
 have hpos:0<esz:=by
  rcases Nat.eq_zero_or_pos esz with h | h
  ·subst h;simp at hk'
  ·exact h
 obtain ⟨f1,f2,f3⟩:=h
 have hi':k / esz<es.length:=by rw [Nat.div_lt_iff_lt_mul hpos];exact hk'
 have hj':k % esz<(es[k / esz]).length:=by rw [f1 _ (List.getElem_mem hi')];exact Nat.mod_lt _ hpos
 have:=f3 (k / esz) (k % esz) hi' hj'
 rw [Nat.div_add_mod'] at this
 exact this.oneCell (f2 _ (List.getElem_mem hi') _ (List.getElem_mem hj'))
theorem z0g {b base n:Nat} {cur:Array Value} {t:TypeId} (hh:w.heap[b]? = some (.cells cur t (0,0))) (hs:base+n≤cur.size) :
 ∀ j v,((List.range n).map fun k=>cur.getD (base+k) undef)[j]? = some v→w.cell? ⟨b,base+j,none⟩=some v:=by
 intro j v hj
 have hjn:j<n:=by
  have:=(List.getElem?_eq_some_iff.1 hj).1
  simpa using this
 rw [yu hh,←hj,List.getElem?_map,List.getElem?_range hjn,Array.getElem?_eq_getElem (by omega)]
 simp [Array.getD_eq_getD_getElem?,Array.getElem?_eq_getElem (show base+j<cur.size by omega)]
theorem xg {cur:Array Value} {vs:List Value} {o:Nat} (h:o+vs.length≤cur.size) (k:Nat) :
 (lay cur o vs).getD k undef=if o≤k∧k<o+vs.length then vs.getD (k - o) undef else cur.getD k undef:=x7 h k
theorem xn {cur:Array Value} {vs:List Value} {o:Nat} (h:o+vs.length≤cur.size):(lay cur o vs).size=cur.size:=y0 h
theorem xy {n k:Nat} {f:Nat→Value} (h:k<n):((List.range n).map f).getD k undef=f k:=by
 simp [List.getD_eq_getElem?_getD,List.getElem?_map,List.getElem?_range h]
theorem z27 {G':Gh} {w':World} {esz o:Nat} {x:List AV} {L:List (List AV)} {fv fc:Nat→Value} {cur:Array Value} (hv:ERel G' w' esz [x] fv) (hc:ERel G' w' esz L fc) (hs:o+(L.length+1)*esz≤cur.size)
 (A:Array Value) (hA:A=lay (lay cur (o+esz) ((List.range (L.length*esz)).map fc)) o ((List.range esz).map fv)∨A=lay (lay cur o ((List.range esz).map fv)) (o+esz) ((List.range (L.length*esz)).map fc)) :
 A.size=cur.size∧ERel G' w' esz (x::L) (fun k=>A.getD (o+k) undef):=by
 have hm:(L.length+1)*esz=L.length*esz+esz:=Nat.succ_mul _ _
 have l1:((List.range (L.length*esz)).map fc).length=L.length*esz:=by simp
 have l2:((List.range esz).map fv).length=esz:=by simp
 have l3:([x]:List (List AV)).length*esz=esz:=by simp
 rcases hA with rfl | rfl
 ·have s1:(lay cur (o+esz) ((List.range (L.length*esz)).map fc)).size=cur.size:=xn (by rw [l1];omega)
  have hB:o+((List.range esz).map fv).length≤(lay cur (o+esz) ((List.range (L.length*esz)).map fc)).size:=by rw [s1,l2];omega
  refine ⟨(xn hB).trans s1,?_⟩
  refine ERel.append (xs:=[x]) hv hc (fun k hk => ?_) (fun k hk => ?_)
  ·rw [l3] at hk
   show (lay _ o _).getD (o+k) undef=_
   rw [xg hB,l2,if_pos (by omega),Nat.add_sub_cancel_left,xy hk]
  ·rw [l3]
   show (lay _ o _).getD (o+(esz+k)) undef=_
   rw [xg hB,l2,if_neg (by omega),xg (by rw [l1];omega),l1,if_pos (by omega),show o+(esz+k) - (o+esz)=k by omega,xy hk]
 ·have s1:(lay cur o ((List.range esz).map fv)).size=cur.size:=xn (by rw [l2];omega)
  have hB:o+esz+((List.range (L.length*esz)).map fc).length≤(lay cur o ((List.range esz).map fv)).size:=by rw [s1,l1];omega
  refine ⟨(xn hB).trans s1,?_⟩
  refine ERel.append (xs:=[x]) hv hc (fun k hk => ?_) (fun k hk => ?_)
  ·rw [l3] at hk
   show (lay _ (o+esz) _).getD (o+k) undef=_
   rw [xg hB,l1,if_neg (by omega),xg (by rw [l2];omega),l2,if_pos (by omega),Nat.add_sub_cancel_left,xy hk]
  ·rw [l3]
   show (lay _ (o+esz) _).getD (o+(esz+k)) undef=_
   rw [xg hB,l1,if_pos (by omega),show o+(esz+k) - (o+esz)=k by omega,xy hk]
theorem wc {F:Nat} {tS e:TypeId} {esz bytes:Nat} {z:List AV} (H:InsHolds P F tS e esz bytes z) {s:AV} {L:List (List AV)} {x:List AV} {h:Nat} {Q:AV→Store→Prop}
 (hh:σ h=some (.arr esz [x])) (hS:(s = .nils∧L=[])∨∃ g,s = .os g esz 0 L.length∧σ g=some (.arr esz L)∧g≠h) (hsz:(L.length+1)*bytes≤140737488355328)
 (hQ1:∀ id,σ id=none→Q (.os id esz 0 (L.length+1)) (σ.set id (.arr esz (x::L)))) (hQ2:∀ g,s = .os g esz 0 L.length→Q (.os g esz 0 (L.length+1)) (σ.set g (.arr esz (x::L)))) :
 ACalls P F [s,.int .i64 0,.os h esz 0 1] σ Q:=by
 obtain ⟨i,hi,hib,hi1⟩:=H.inf
 refine ⟨H.ent,fun G w vs hs hvs => ?_⟩
 cases hvs with
 | cons hvS hvs =>
 cases hvs with
 | cons hv0 hvs =>
 cases hvs with
 | cons hvV hvs =>
 cases hvs
 obtain rfl:=hv0.of_int
 have hyV:=hvV
 rename_i vS0 vV
 have hslh:slc σ esz (.os h esz 0 1)=some [x]:=by simp [slc,hh]
 have empty:L=[]→∀ (vS:Value),VRel G w s vS→(∃ base c,vS = .slice base 0 c)→Calls P F [vS,.int .i64 0,vV].toArray w (fun e w'=>∃ v a G' σ',e = .returned v∧Ext G σ w G' σ' w'∧Sim G' σ' w'∧VRel G' w' a v∧Q a σ'):=by
  intro hL vS hr ⟨base,c,hvs⟩
  subst hvs
  have hK:appwp esz i.bytes s (.os h esz 0 1) σ Q:=by
   unfold appwp
   subst hL
   rcases hS with ⟨rfl,_⟩ | ⟨g,rfl,hg,_⟩
   ·rw [hslh]
    refine ⟨by simp at hsz ⊢;omega,?_⟩
    exact ⟨fun h0=>(by cases h0),fun _ id hid=>hQ1 id hid⟩
   ·rw [hslh,show slc σ esz (.os g esz 0 ([]:List (List AV)).length)=some [] by simp [slc,hg]]
    refine ⟨by simp at hsz ⊢;omega,?_⟩
    exact .inr ⟨hg,hQ2 g rfl,fun id hid=>hQ1 id hid⟩
  obtain ⟨v,w',G',σ',av,r1,r2,r3,r4,r5⟩:=z3b (ty:=tS) hs H.und H.sz H.und (fun k=>by simp) hi hi1 H.zero H.zl hr hyV hK
  obtain ⟨b,base',hb,⟨c',rfl,_⟩ | ⟨h0,_⟩⟩:=hyV.of_os
  ·exact (H.onto base c _ c' w v w' r1).mono fun r w2 ⟨e1,e2⟩=>⟨v,av,G',σ',e1,by rw [e2];exact r2,by rw [e2];exact r3,by rw [e2];exact r4,r5⟩
  ·cases h0
 rcases hS with ⟨rfl,hL⟩ | ⟨g,rfl,hg,hne⟩
 ·exact empty hL _ hvS ⟨none,0,hvS.of_nils⟩
 ·by_cases hL:L=[]
  ·refine empty hL _ hvS ?_
   subst hL
   obtain ⟨b,base,hb,⟨c,rfl,_⟩ | ⟨h0,x0,rfl⟩⟩:=hvS.of_os
   ·exact ⟨_,_,rfl⟩
   ·exact ⟨_,_,rfl⟩
  ·have hn:0<L.length:=List.length_pos_iff.2 hL
   obtain ⟨b,base,hbρ,⟨c,rfl,hlen,ty',N,hsh,hcap⟩ | ⟨h0,x0,rfl⟩⟩:=hvS.of_os
   ·obtain ⟨vb,vbase,hvρ,⟨vc,rfl,vlen,vty,vN,vsh,vcap⟩ | ⟨h0,_⟩⟩:=hvV.of_os
    ·obtain ⟨b',base',hb',ho⟩:=hs.used g _ hg
     rw [hbρ] at hb';cases hb'
     obtain ⟨b',base',hb',hov⟩:=hs.used h _ hh
     rw [hvρ] at hb';cases hb'
     cases ho with
     | arr gh gs gl gf gr =>
     cases hov with
     | arr vh vs' vl vf vr =>
     rename_i cur tyc vcur vtyc
     simp only [Nat.zero_mul,Nat.add_zero,List.length_singleton,Nat.one_mul] at *
     have hsh':N=cur.size:=by
      simp only [World.shape?,gh,Option.some.injEq,Prod.mk.injEq] at hsh;exact hsh.2.symm
     subst hsh'
     have hbb:vb≠b:=fun e=>by
      subst e
      exact hne (hs.inj g h _ _ _ _ _ hg hh hbρ hvρ)
     have EC:ERel G w esz L (fun k=>cur.getD (base+k) undef):=⟨gl,gf,gr⟩
     have EV:ERel G w esz [x] (fun k=>vcur.getD (vbase+k) undef):=⟨vl,vf,vr⟩
     have oC:=EC.one
     have oV:=EV.one
     have cC:=z0g gh gs
     have cV:=z0g vh vs'
     have lC:((List.range (L.length*esz)).map fun k=>cur.getD (base+k) undef).length=L.length*esz:=by simp
     have lV:((List.range esz).map fun k=>vcur.getD (vbase+k) undef).length=esz:=by simp
     simp only [List.length_singleton,Nat.one_mul] at oV
     have hm:(L.length+1)*esz=L.length*esz+esz:=Nat.succ_mul _ _
     by_cases hfit:L.length+1≤c
     ·have hcc:(L.length+1)*esz≤c*esz:=Nat.mul_le_mul_right _ hfit
      have hsN:base+(L.length+1)*esz≤cur.size:=by simp only [Nat.zero_add] at hcap;omega
      have hbig:L.length≤140737488355328:=by
       have:=Nat.mul_le_mul_left (L.length+1) (show 1≤bytes by omega)
       omega
      refine (H.shift b base L.length c vb vbase vc cur vcur tyc vtyc _ _ w hn hbig hfit gh vh hbb lV lC cV cC hsN oV oC).mono ?_
      rintro r w2 ⟨rfl,t1,t2,t3,t4,hH⟩
      have hget:w2.heap[b]? = some (.cells (lay (lay cur (base+esz) ((List.range (L.length*esz)).map fun k=>cur.getD (base+k) undef)) base ((List.range esz).map fun k=>vcur.getD (vbase+k) undef)) tyc (0,0)):=by
       rw [hH];exact zn gh
      have key:=fun (G':Gh) (w':World) (hvr:∀ a v,VRel G w a v→VRel G' w' a v)=>z27 (fv:=fun k=>vcur.getD (vbase+k) undef) (fc:=fun k=>cur.getD (base+k) undef) (G':=G') (w':=w') (o:=base) (cur:=cur) ⟨EV.1,EV.2.1,fun i j hi hj=>hvr _ _ (EV.2.2 i j hi hj)⟩ ⟨EC.1,EC.2.1,fun i j hi hj=>hvr _ _ (EC.2.2 i j hi hj)⟩ hsN _ (.inl rfl)
      have hsz2:=(key G w fun _ _ h=>h).1
      obtain ⟨g1,g2⟩:=hs.put (w':=w2) (o' := .arr esz (x::L)) hg hbρ t1 t2 t3 t4 (by rw [hH];exact yq _ _) (fun c hc=>by rw [hH];exact zy _ hc)
       (by simp only [World.shape?,hget,gh,hsz2])
       (fun hvr=>by
         obtain ⟨k1,k2,k3,k4⟩:=key G w2 hvr
         exact .arr hget (by rw [k1];simpa using hsN) k2 k3 k4)
      refine ⟨_,.os g esz 0 (L.length+1),G,_,rfl,g1,g2,?_,hQ2 g rfl⟩
      have hs2:w2.shape? b=some (tyc,cur.size):=by simp only [World.shape?,hget,hsz2]
      have:=VRel.os (G:=G) (w:=w2) (esz:=esz) (off:=0) (len:=L.length+1) (c:=c) hbρ hfit ⟨tyc,_,hs2,by simpa using hcap⟩
      simpa using this
     ·obtain rfl:c=L.length:=by omega
      obtain ⟨id,hidρ,hidσ⟩:=hs.fresh
      refine (H.grow b base L.length vb vbase vc cur vcur tyc vtyc _ _ w hn hsz gh vh lV lC cV cC oV oC).mono ?_
      rintro r w2 ⟨cap,row,hcap2,hrow,rfl,t1,t2,t3,hH⟩
      have hcc:(L.length+1)*esz≤cap*esz:=Nat.mul_le_mul_right _ hcap2
      have hsN:0+(L.length+1)*esz≤row.size:=by omega
      have hget:w2.heap[w.heap.size]? = some (.cells (lay (lay row 0 ((List.range esz).map fun k=>vcur.getD (vbase+k) undef)) esz ((List.range (L.length*esz)).map fun k=>cur.getD (base+k) undef)) e (0,0)):=by
       rw [hH];simp
      have key:=fun (G':Gh) (w':World) (hvr:∀ a v,VRel G w a v→VRel G' w' a v)=>z27 (fv:=fun k=>vcur.getD (vbase+k) undef) (fc:=fun k=>cur.getD (base+k) undef) (G':=G') (w':=w') (o:=0) (cur:=row) ⟨EV.1,EV.2.1,fun i j hi hj=>hvr _ _ (EV.2.2 i j hi hj)⟩ ⟨EC.1,EC.2.1,fun i j hi hj=>hvr _ _ (EC.2.2 i j hi hj)⟩ hsN _ (.inr rfl)
      simp only [Nat.zero_add] at key
      have hsz2:=(key G w fun _ _ h=>h).1
      obtain ⟨G',g1,g2,g3⟩:=hs.adopt (w':=w2) (o := .arr esz (x::L)) hidρ hidσ (g:=w.heap.size) (Nat.le_refl _) (by rw [hH];simp) (by rw [hH];simp) t1 t2 t3
       (fun b hb=>by rw [hH,Array.getElem?_push,if_neg (Nat.ne_of_lt hb)])
       (fun G' _ _ hvr=>by
         obtain ⟨k1,k2,k3,k4⟩:=key G' w2 hvr
         refine .arr hget (by rw [k1];simp;omega) k2 k3 fun i j hi hj => ?_
         have:=k4 i j hi hj
         simpa using this)
      refine ⟨_,.os id esz 0 (L.length+1),G',_,rfl,g1,g2,?_,hQ1 id hidσ⟩
      have hs2:w2.shape? w.heap.size=some (e,row.size):=by simp only [World.shape?,hget,hsz2]
      have:=VRel.os (G:=G') (w:=w2) (esz:=esz) (off:=0) (len:=L.length+1) (c:=cap) g3 hcap2 ⟨e,_,hs2,by simp;omega⟩
      simpa using this
    ·cases h0
   ·omega
end
end Go.Am
namespace Go.Am.Ins
open Go.RowKit Go.Shelf Go.Proofs Go.Lib
set_option linter.unusedVariables false
set_option linter.unusedSimpArgs false
theorem qj:(Try.prog.info? 30).map (fun i=>(i.zero,i.size,i.bytes))=some (some (.int .u32 0),1,4):=by kernel_rfl
set_option maxHeartbeats 4000000 in
set_option maxRecDepth 100000 in
theorem zag (base:Option Addr) (c:Nat) (xb:Addr) (xc:Nat) (w:World) (v':Value) (w':World) (h:(Builtin.append_ #[31,31] 31 #[.slice base 0 c,.slice (some xb) 1 xc]).run Try.prog w = .ok v' w') :
 Calls Try.prog 89 #[.slice base 0 c,.int .i64 0,.slice (some xb) 1 xc] w fun r w2=>r = .returned v'∧w2=w':=by
 go_enter Try.func89,Try.ntmps89
 cases base with
 | none =>
   go_wp2_with (at_builtin;refine Lib.wpList_append_run _ rfl _ _ _ _ rfl _ _ rfl rfl _ _ h ?_)
   go_ret
   exact ⟨rfl,rfl⟩
 | some a =>
   obtain ⟨ab,ao,asp⟩:=a
   go_wp2_with (at_builtin;refine Lib.wpList_append_run _ rfl _ _ _ _ rfl _ _ rfl rfl _ _ h ?_)
   all_goals (go_ret;exact ⟨rfl,rfl⟩)
set_option maxHeartbeats 4000000 in
set_option maxRecDepth 100000 in
theorem z8f (b o n c vb vo vc:Nat) (cur vcur:Array Value) (t vt:TypeId) (vs cs:List Value) (w:World) (hn:0<n) (hbig:n≤140737488355328) (hroom:n+1≤c) (hb:w.heap[b]? = some (.cells cur t (0,0))) (hv:w.heap[vb]? = some (.cells vcur vt (0,0))) (hne:vb≠b)
 (lv:vs.length=1) (lc:cs.length=n*1) (hvs:∀ j v,vs[j]? = some v→w.cell? ⟨vb,vo+j,none⟩=some v) (hcs:∀ j v,cs[j]? = some v→w.cell? ⟨b,o+j,none⟩=some v) (hsz:o+(n+1)*1≤cur.size)
 (ov:∀ v ∈ vs,v.oneCell'=true) (oc:∀ v ∈ cs,v.oneCell'=true) :
 Calls Try.prog 89 #[.slice (some ⟨b,o,none⟩) n c,.int .i64 0,.slice (some ⟨vb,vo,none⟩) 1 vc] w fun r w2=>r = .returned (.slice (some ⟨b,o,none⟩) (n+1) c)∧w2.tape=w.tape∧w2.os=w.os∧w2.output=w.output∧w.drawn≤w2.drawn ∧
  w2.heap=(w.setRow b (lay (lay cur (o+1) cs) o vs)).heap:=by
 have hz1:¬ ((n:Int)=0):=by omega
 have hz2:¬ ((0:Int)=(n:Int)):=by omega
 have hw1:IntKind.i64.wrap ((n:Int)+1)=(n:Int)+1:=by rw [IntKind.wrap_i64];omega
 have htn:((n:Int)+1).toNat=n+1:=by omega
 have mixed:Try.prog.follows Departure.mixedOrders=true:=by kernel_rfl
 have hw0:IntKind.i64.wrap 1=1:=by decide
 have hb1':(1:Int)≤(n:Int)+1:=by omega
 have hb2':(0:Int)≤(n:Int)+1:=by omega
 have hc1':¬ (c=1):=by omega
 have ht1:(1:Int).toNat=1:=rfl
 have hsS:tsz Try.prog 30=some 1:=by
  obtain ⟨i0,hi0,h0,h1,h2⟩:=info_parts qj
  unfold tsz;rw [hi0];simp [h1]
 have hsO:∀ w,(Go.sizeOf 30).run Try.prog w = .ok 1 w:=fun w=>zq hsS
 have fz:∀ x k,w.frozen? ⟨vb,x,k⟩=false:=fun x k=>by simp [World.frozen?,hv]
 have hov:∀ o' lb cb,(callFunc 109 #[.slice (some ⟨vb,vo,none⟩) 1 vc,.slice (some ⟨b,o',none⟩) lb cb]).run Try.prog w = .ok (.value (.bool false)) w:=fun o' lb cb=>by
  rw [run_callFunc_extern Try.func109 (by kernel_rfl) (by kernel_rfl) (by kernel_rfl) (e:=Extern.SlicesOverlaps.overlaps #[31,31] #[4]) (by kernel_rfl),
   Lib.run_overlaps_apart w 31 4 30 Try.underlying31 1 hsO ⟨vb,vo,none⟩ ⟨b,o',none⟩ 1 vc lb cb hne vt t vcur.size cur.size (by simp [World.shape?,hv]) (by simp [World.shape?,hb]) (by omega) (fz _ _) (fz _ _)]
  rfl
 have l1:o+1+cs.length≤cur.size:=by omega
 have hcp1:∀ (W:World),W.heap=w.heap→∀ ty dc sc,(Builtin.copy_ #[31,31] ty #[.slice (some ⟨b,o+1,none⟩) n dc,.slice (some ⟨b,o,none⟩) (n+1) sc]).run Try.prog W = .ok (goInt n) (W.setRow b (lay cur (o+1) cs)):=fun W hW ty dc sc =>
  zx W b (o+1) n dc ⟨b,o,none⟩ (n+1) sc n cur t cs Try.underlying31 hsS (by rw [hW];exact hb) (by simp only [Nat.min_def];split <;> omega) lc
   (fun j v hj=>by have:=hcs j v hj;simpa [zu,World.cell?,hW] using this) l1 oc
 obtain ⟨c1,hc1⟩:∃ c1,c1=lay cur (o+1) cs:=⟨_,rfl⟩
 have s1:c1.size=cur.size:=by rw [hc1];exact xn l1
 have hb1:(w.setRow b c1).heap[b]? = some (.cells c1 t (0,0)):=zn hb
 have hcp2:∀ (W:World),W.heap=(w.setRow b c1).heap→∀ ty dc,(Builtin.copy_ #[31,31] ty #[.slice (some ⟨b,o,none⟩) (n+1) dc,.slice (some ⟨vb,vo,none⟩) 1 vc]).run Try.prog W = .ok (goInt (1:Nat)) (W.setRow b (lay c1 o vs)):=fun W hW ty dc =>
  zx W b o (n+1) dc ⟨vb,vo,none⟩ 1 vc 1 c1 t vs Try.underlying31 hsS (by rw [hW];exact hb1) (by simp only [Nat.min_def];split <;> omega) (by omega)
   (fun j v hj=>by have:=hvs j v hj;simpa [zu,World.cell?,hW,zy c1 hne] using this) (by omega) ov
 rw [←hc1] at hcp1 ⊢
 clear hc1
 go_enter Try.func89,Try.ntmps89
 go_wp2_with (simp only [hov])
 go_region_law_o (refine step_copy_runI rfl _ _ 31 31 rfl (.slice (some ⟨b,o+1,none⟩) n (c - 1)) (.slice (some ⟨b,o,none⟩) (n+1) c) (by simp [Act.eval,Act.put]) (by simp [Act.eval,Act.put]) (hcp1 w.drew rfl 3 (c - 1) c) ?_)
 have hcp3:=hcp2 (w.drew.setRow b c1) rfl
 go_wp2
 go_ret
 refine ⟨rfl,rfl,rfl,rfl,Nat.le_succ _,?_⟩
 rw [setRow_setRow]
 rfl
set_option maxHeartbeats 4000000 in
set_option maxRecDepth 100000 in
theorem zaa (b o n vb vo vc:Nat) (cur vcur:Array Value) (t vt:TypeId) (vs cs:List Value) (w:World) (hn:0<n) (hbig:(n+1)*4≤140737488355328) (hb:w.heap[b]? = some (.cells cur t (0,0))) (hv:w.heap[vb]? = some (.cells vcur vt (0,0)))
 (lv:vs.length=1) (lc:cs.length=n*1) (hvs:∀ j v,vs[j]? = some v→w.cell? ⟨vb,vo+j,none⟩=some v) (hcs:∀ j v,cs[j]? = some v→w.cell? ⟨b,o+j,none⟩=some v)
 (ov:∀ v ∈ vs,v.oneCell'=true) (oc:∀ v ∈ cs,v.oneCell'=true) :
 Calls Try.prog 89 #[.slice (some ⟨b,o,none⟩) n n,.int .i64 0,.slice (some ⟨vb,vo,none⟩) 1 vc] w fun r w2=>∃ (cap:Nat) (row:Array Value),n+1≤cap∧row.size=cap*1∧r = .returned (.slice (some ⟨w.heap.size,0,none⟩) (n+1) cap) ∧
  w2.tape=w.tape∧w2.os=w.os∧w2.output=w.output∧w2.heap=w.heap.push (.cells (lay (lay row 0 vs) 1 cs) 30 (0,0)):=by
 obtain ⟨i0,hi0,hz0,hzs,hzb⟩:=info_parts qj
 have hz1:¬ ((n:Int)=0):=by omega
 have hz2:¬ ((0:Int)=(n:Int)):=by omega
 have hw1:IntKind.i64.wrap ((n:Int)+1)=(n:Int)+1:=by rw [IntKind.wrap_i64];omega
 have mixed:Try.prog.follows Departure.mixedOrders=true:=by kernel_rfl
 have hw0:IntKind.i64.wrap 1=1:=by decide
 have hsS:tsz Try.prog 30=some 1:=by unfold tsz;rw [hi0];simp [hzs]
 have hlt:b<w.heap.size:=(Array.getElem?_eq_some_iff.1 hb).1
 have vlt:vb<w.heap.size:=(Array.getElem?_eq_some_iff.1 hv).1
 obtain ⟨G,hG⟩:∃ G,G=grownCap w (n+1) n 30:=⟨_,rfl⟩
 obtain ⟨row,hrow⟩:∃ row:Array Value,row=Builtin.zeroCells (.int .u32 0:Value).cells (n+1)++Builtin.zeroCells (.int .u32 0:Value).cells (G - (n+1)):=⟨_,rfl⟩
 have hrz:∀ ty,(Builtin.append_ #[31,3] ty #[.slice (some ⟨b,o,none⟩) 0 n,.int .i64 ((n:Int)+1)]).run Try.prog w =
  .ok (.slice (some ⟨w.heap.size,0,none⟩) (n+1) G) (w.drew.alloc (.cells row 30)):=fun ty=>by
  have hle:=wz (show n<n+1 by omega)
  have h:=Lib.run_append_grow_zeros (P:=Try.prog) w 31 3 ty 30 i0 _ .i64 .i64 Try.underlying31 Try.underlying3 hi0 hz0 (some ⟨b,o,none⟩) 0 n [] zw (n+1) (by omega) (by omega) (by omega) (by omega) (by rw [hzb];omega)
   (by rw [hzb,Nat.zero_add];have:=Nat.mul_le_mul_right 4 hle;omega)
  rw [Nat.zero_add] at h
  rw [hrow,hG]
  simpa using h
 have hGn:n+1≤G:=by rw [hG];exact grownCap_ge w _ _ _
 have hrs:row.size=G*1:=by
  rw [hrow]
  simp [Builtin.zeroCells,Value.cells]
  omega
 clear hG hrow
 obtain ⟨W1,hW1⟩:∃ W1,W1=w.drew.alloc (.cells row 30):=⟨_,rfl⟩
 have hb1:W1.heap[w.heap.size]? = some (.cells row 30 (0,0)):=by rw [hW1];exact yj (w:=w.drew) _
 have hcell:∀ x j,x<w.heap.size→W1.cell? ⟨x,j,none⟩=w.cell? ⟨x,j,none⟩:=fun x j hx=>by
  rw [hW1];exact World.cell?_alloc_past (w:=w.drew) _ x j hx
 rw [←hW1] at hrz
 have lA:0+vs.length≤row.size:=by
  have:=Nat.mul_le_mul_right 1 hGn
  omega
 have hcpA:∀ (W:World),W.heap=W1.heap→∀ ty dc,(Builtin.copy_ #[31,31] ty #[.slice (some ⟨w.heap.size,0,none⟩) (n+1) dc,.slice (some ⟨vb,vo,none⟩) 1 vc]).run Try.prog W = .ok (goInt (1:Nat)) (W.setRow w.heap.size (lay row 0 vs)):=fun W hW ty dc =>
  zx W w.heap.size 0 (n+1) dc ⟨vb,vo,none⟩ 1 vc 1 row 30 vs Try.underlying31 hsS (by rw [hW];exact hb1) (by simp only [Nat.min_def];split <;> omega) (by omega)
   (fun j v hj=>by
     have h1:=hvs j v hj
     rw [←hcell vb _ vlt] at h1
     simpa [zu,World.cell?,hW] using h1) lA ov
 obtain ⟨r1,hr1⟩:∃ r1,r1=lay row 0 vs:=⟨_,rfl⟩
 have s1:r1.size=row.size:=by rw [hr1];exact xn lA
 rw [←hr1] at hcpA
 have hb2:(W1.setRow w.heap.size r1).heap[w.heap.size]? = some (.cells r1 30 (0,0)):=zn hb1
 have lB:1+cs.length≤r1.size:=by
  have:=Nat.mul_le_mul_right 1 hGn
  omega
 have hcpB:∀ (W:World),W.heap=(W1.setRow w.heap.size r1).heap→∀ ty dc sc,(Builtin.copy_ #[31,31] ty #[.slice (some ⟨w.heap.size,1,none⟩) n dc,.slice (some ⟨b,o,none⟩) n sc]).run Try.prog W = .ok (goInt (n:Nat)) (W.setRow w.heap.size (lay r1 1 cs)):=fun W hW ty dc sc =>
  zx W w.heap.size 1 n dc ⟨b,o,none⟩ n sc n r1 30 cs Try.underlying31 hsS (by rw [hW];exact hb2) (by simp only [Nat.min_def];split <;> omega) lc
   (fun j v hj=>by
     have h1:=hcs j v hj
     rw [←hcell b _ hlt] at h1
     simpa [zu,World.cell?,hW,zy (w:=W1) r1 (Nat.ne_of_lt hlt)] using h1) lB oc
 have ht1:(1:Int).toNat=1:=rfl
 have hb1':(1:Int)≤(n:Int)+1:=by omega
 have hb2':(0:Int)≤(n:Int)+1:=by omega
 have hc1':¬ (G=1):=by omega
 have hc2':¬ (G=0):=by omega
 subst hW1
 subst hr1
 have hcpD:=hcpA ((w.alloc (.cells row 30)).drew) rfl
 go_enter Try.func89,Try.ntmps89
 go_wp2_with (at_builtin;refine Lib.wpList_append_run _ rfl _ _ _ _ rfl _ _ rfl rfl _ _ (hrz _) ?_)
 have hcpC:=hcpB (((w.alloc (.cells row 30)).drew.setRow w.heap.size (lay row 0 vs)).drew) rfl 3 (G - 1) n
 go_region_law_o (refine step_copy_runI rfl _ _ 31 31 rfl (.slice (some ⟨w.heap.size,1,none⟩) n (G - 1)) (.slice (some ⟨b,o,none⟩) n n) (by simp [Act.eval,Act.put]) (by simp [Act.eval,Act.put]) hcpC ?_)
 go_wp2
 go_ret
 refine ⟨G,row,hGn,hrs,rfl,rfl,rfl,rfl,?_⟩
 exact va w row _ _ _
theorem holdsU:InsHolds Try.prog 89 31 30 1 4 [.int .u32 0] where
 ent:=⟨_,Try.func89,by decide,rfl⟩
 und:=Try.underlying31
 sz:=by
  obtain ⟨i0,hi0,hz0,hzs,hzb⟩:=info_parts qj
  unfold tsz;rw [hi0];simp [hzs]
 zero:=by
  obtain ⟨i0,hi0,hz0,hzs,hzb⟩:=info_parts qj
  unfold tzero;rw [hi0];simp [hz0,Value.cells,AV.ofCell]
 zl:=rfl
 inf:=by
  obtain ⟨i0,hi0,hz0,hzs,hzb⟩:=info_parts qj
  exact ⟨i0,hi0,hzb,by omega⟩
 onto:=zag
 shift:=z8f
 grow:=zaa
theorem qi:(Try.prog.info? 66).map (fun i=>(i.zero,i.size,i.bytes))=some (some (.agg #[.int .i64 0,.slice none 0 0]),2,32):=by kernel_rfl
set_option maxHeartbeats 4000000 in
set_option maxRecDepth 100000 in
theorem zaf (base:Option Addr) (c:Nat) (xb:Addr) (xc:Nat) (w:World) (v':Value) (w':World) (h:(Builtin.append_ #[29,29] 29 #[.slice base 0 c,.slice (some xb) 1 xc]).run Try.prog w = .ok v' w') :
 Calls Try.prog 90 #[.slice base 0 c,.int .i64 0,.slice (some xb) 1 xc] w fun r w2=>r = .returned v'∧w2=w':=by
 go_enter Try.func90,Try.ntmps90
 cases base with
 | none =>
   go_wp2_with (at_builtin;refine Lib.wpList_append_run _ rfl _ _ _ _ rfl _ _ rfl rfl _ _ h ?_)
   go_ret
   exact ⟨rfl,rfl⟩
 | some a =>
   obtain ⟨ab,ao,asp⟩:=a
   go_wp2_with (at_builtin;refine Lib.wpList_append_run _ rfl _ _ _ _ rfl _ _ rfl rfl _ _ h ?_)
   all_goals (go_ret;exact ⟨rfl,rfl⟩)
set_option maxHeartbeats 4000000 in
set_option maxRecDepth 100000 in
theorem z8e (b o n c vb vo vc:Nat) (cur vcur:Array Value) (t vt:TypeId) (vs cs:List Value) (w:World) (hn:0<n) (hbig:n≤140737488355328) (hroom:n+1≤c) (hb:w.heap[b]? = some (.cells cur t (0,0))) (hv:w.heap[vb]? = some (.cells vcur vt (0,0))) (hne:vb≠b)
 (lv:vs.length=2) (lc:cs.length=n*2) (hvs:∀ j v,vs[j]? = some v→w.cell? ⟨vb,vo+j,none⟩=some v) (hcs:∀ j v,cs[j]? = some v→w.cell? ⟨b,o+j,none⟩=some v) (hsz:o+(n+1)*2≤cur.size)
 (ov:∀ v ∈ vs,v.oneCell'=true) (oc:∀ v ∈ cs,v.oneCell'=true) :
 Calls Try.prog 90 #[.slice (some ⟨b,o,none⟩) n c,.int .i64 0,.slice (some ⟨vb,vo,none⟩) 1 vc] w fun r w2=>r = .returned (.slice (some ⟨b,o,none⟩) (n+1) c)∧w2.tape=w.tape∧w2.os=w.os∧w2.output=w.output∧w.drawn≤w2.drawn ∧
  w2.heap=(w.setRow b (lay (lay cur (o+2) cs) o vs)).heap:=by
 have hz1:¬ ((n:Int)=0):=by omega
 have hz2:¬ ((0:Int)=(n:Int)):=by omega
 have hw1:IntKind.i64.wrap ((n:Int)+1)=(n:Int)+1:=by rw [IntKind.wrap_i64];omega
 have htn:((n:Int)+1).toNat=n+1:=by omega
 have mixed:Try.prog.follows Departure.mixedOrders=true:=by kernel_rfl
 have hw0:IntKind.i64.wrap 1=1:=by decide
 have hb1':(1:Int)≤(n:Int)+1:=by omega
 have hb2':(0:Int)≤(n:Int)+1:=by omega
 have hc1':¬ (c=1):=by omega
 have ht1:(1:Int).toNat=1:=rfl
 have hsS:tsz Try.prog 66=some 2:=by
  obtain ⟨i0,hi0,h0,h1,h2⟩:=info_parts qi
  unfold tsz;rw [hi0];simp [h1]
 have hsO:∀ w,(Go.sizeOf 66).run Try.prog w = .ok 2 w:=fun w=>zq hsS
 have fz:∀ x k,w.frozen? ⟨vb,x,k⟩=false:=fun x k=>by simp [World.frozen?,hv]
 have hov:∀ o' lb cb,(callFunc 111 #[.slice (some ⟨vb,vo,none⟩) 1 vc,.slice (some ⟨b,o',none⟩) lb cb]).run Try.prog w = .ok (.value (.bool false)) w:=fun o' lb cb=>by
  rw [run_callFunc_extern Try.func111 (by kernel_rfl) (by kernel_rfl) (by kernel_rfl) (e:=Extern.SlicesOverlaps.overlaps #[29,29] #[4]) (by kernel_rfl),
   Lib.run_overlaps_apart w 29 4 66 Try.underlying29 2 hsO ⟨vb,vo,none⟩ ⟨b,o',none⟩ 1 vc lb cb hne vt t vcur.size cur.size (by simp [World.shape?,hv]) (by simp [World.shape?,hb]) (by omega) (fz _ _) (fz _ _)]
  rfl
 have l1:o+2+cs.length≤cur.size:=by omega
 have hcp1:∀ (W:World),W.heap=w.heap→∀ ty dc sc,(Builtin.copy_ #[29,29] ty #[.slice (some ⟨b,o+2,none⟩) n dc,.slice (some ⟨b,o,none⟩) (n+1) sc]).run Try.prog W = .ok (goInt n) (W.setRow b (lay cur (o+2) cs)):=fun W hW ty dc sc =>
  zx W b (o+2) n dc ⟨b,o,none⟩ (n+1) sc n cur t cs Try.underlying29 hsS (by rw [hW];exact hb) (by simp only [Nat.min_def];split <;> omega) lc
   (fun j v hj=>by have:=hcs j v hj;simpa [zu,World.cell?,hW] using this) l1 oc
 obtain ⟨c1,hc1⟩:∃ c1,c1=lay cur (o+2) cs:=⟨_,rfl⟩
 have s1:c1.size=cur.size:=by rw [hc1];exact xn l1
 have hb1:(w.setRow b c1).heap[b]? = some (.cells c1 t (0,0)):=zn hb
 have hcp2:∀ (W:World),W.heap=(w.setRow b c1).heap→∀ ty dc,(Builtin.copy_ #[29,29] ty #[.slice (some ⟨b,o,none⟩) (n+1) dc,.slice (some ⟨vb,vo,none⟩) 1 vc]).run Try.prog W = .ok (goInt (1:Nat)) (W.setRow b (lay c1 o vs)):=fun W hW ty dc =>
  zx W b o (n+1) dc ⟨vb,vo,none⟩ 1 vc 1 c1 t vs Try.underlying29 hsS (by rw [hW];exact hb1) (by simp only [Nat.min_def];split <;> omega) (by omega)
   (fun j v hj=>by have:=hvs j v hj;simpa [zu,World.cell?,hW,zy c1 hne] using this) (by omega) ov
 rw [←hc1] at hcp1 ⊢
 clear hc1
 go_enter Try.func90,Try.ntmps90
 go_wp2_with (simp only [hov])
 go_region_law_o (refine step_copy_runI rfl _ _ 29 29 rfl (.slice (some ⟨b,o+2,none⟩) n (c - 1)) (.slice (some ⟨b,o,none⟩) (n+1) c) (by simp [Act.eval,Act.put]) (by simp [Act.eval,Act.put]) (hcp1 w.drew rfl 3 (c - 1) c) ?_)
 have hcp3:=hcp2 (w.drew.setRow b c1) rfl
 go_wp2
 go_ret
 refine ⟨rfl,rfl,rfl,rfl,Nat.le_succ _,?_⟩
 rw [setRow_setRow]
 rfl
set_option maxHeartbeats 4000000 in
set_option maxRecDepth 100000 in
theorem za9 (b o n vb vo vc:Nat) (cur vcur:Array Value) (t vt:TypeId) (vs cs:List Value) (w:World) (hn:0<n) (hbig:(n+1)*32≤140737488355328) (hb:w.heap[b]? = some (.cells cur t (0,0))) (hv:w.heap[vb]? = some (.cells vcur vt (0,0)))
 (lv:vs.length=2) (lc:cs.length=n*2) (hvs:∀ j v,vs[j]? = some v→w.cell? ⟨vb,vo+j,none⟩=some v) (hcs:∀ j v,cs[j]? = some v→w.cell? ⟨b,o+j,none⟩=some v)
 (ov:∀ v ∈ vs,v.oneCell'=true) (oc:∀ v ∈ cs,v.oneCell'=true) :
 Calls Try.prog 90 #[.slice (some ⟨b,o,none⟩) n n,.int .i64 0,.slice (some ⟨vb,vo,none⟩) 1 vc] w fun r w2=>∃ (cap:Nat) (row:Array Value),n+1≤cap∧row.size=cap*2∧r = .returned (.slice (some ⟨w.heap.size,0,none⟩) (n+1) cap) ∧
  w2.tape=w.tape∧w2.os=w.os∧w2.output=w.output∧w2.heap=w.heap.push (.cells (lay (lay row 0 vs) 2 cs) 66 (0,0)):=by
 obtain ⟨i0,hi0,hz0,hzs,hzb⟩:=info_parts qi
 have hz1:¬ ((n:Int)=0):=by omega
 have hz2:¬ ((0:Int)=(n:Int)):=by omega
 have hw1:IntKind.i64.wrap ((n:Int)+1)=(n:Int)+1:=by rw [IntKind.wrap_i64];omega
 have mixed:Try.prog.follows Departure.mixedOrders=true:=by kernel_rfl
 have hw0:IntKind.i64.wrap 1=1:=by decide
 have hsS:tsz Try.prog 66=some 2:=by unfold tsz;rw [hi0];simp [hzs]
 have hlt:b<w.heap.size:=(Array.getElem?_eq_some_iff.1 hb).1
 have vlt:vb<w.heap.size:=(Array.getElem?_eq_some_iff.1 hv).1
 obtain ⟨G,hG⟩:∃ G,G=grownCap w (n+1) n 66:=⟨_,rfl⟩
 obtain ⟨row,hrow⟩:∃ row:Array Value,row=Builtin.zeroCells (.agg #[.int .i64 0,.slice none 0 0]:Value).cells (n+1)++Builtin.zeroCells (.agg #[.int .i64 0,.slice none 0 0]:Value).cells (G - (n+1)):=⟨_,rfl⟩
 have hrz:∀ ty,(Builtin.append_ #[29,3] ty #[.slice (some ⟨b,o,none⟩) 0 n,.int .i64 ((n:Int)+1)]).run Try.prog w =
  .ok (.slice (some ⟨w.heap.size,0,none⟩) (n+1) G) (w.drew.alloc (.cells row 66)):=fun ty=>by
  have hle:=wz (show n<n+1 by omega)
  have h:=Lib.run_append_grow_zeros (P:=Try.prog) w 29 3 ty 66 i0 _ .i64 .i64 Try.underlying29 Try.underlying3 hi0 hz0 (some ⟨b,o,none⟩) 0 n [] zw (n+1) (by omega) (by omega) (by omega) (by omega) (by rw [hzb];omega)
   (by rw [hzb,Nat.zero_add];have:=Nat.mul_le_mul_right 32 hle;omega)
  rw [Nat.zero_add] at h
  rw [hrow,hG]
  simpa using h
 have hGn:n+1≤G:=by rw [hG];exact grownCap_ge w _ _ _
 have hrs:row.size=G*2:=by
  rw [hrow]
  simp [Builtin.zeroCells,Value.cells]
  omega
 clear hG hrow
 obtain ⟨W1,hW1⟩:∃ W1,W1=w.drew.alloc (.cells row 66):=⟨_,rfl⟩
 have hb1:W1.heap[w.heap.size]? = some (.cells row 66 (0,0)):=by rw [hW1];exact yj (w:=w.drew) _
 have hcell:∀ x j,x<w.heap.size→W1.cell? ⟨x,j,none⟩=w.cell? ⟨x,j,none⟩:=fun x j hx=>by
  rw [hW1];exact World.cell?_alloc_past (w:=w.drew) _ x j hx
 rw [←hW1] at hrz
 have lA:0+vs.length≤row.size:=by
  have:=Nat.mul_le_mul_right 2 hGn
  omega
 have hcpA:∀ (W:World),W.heap=W1.heap→∀ ty dc,(Builtin.copy_ #[29,29] ty #[.slice (some ⟨w.heap.size,0,none⟩) (n+1) dc,.slice (some ⟨vb,vo,none⟩) 1 vc]).run Try.prog W = .ok (goInt (1:Nat)) (W.setRow w.heap.size (lay row 0 vs)):=fun W hW ty dc =>
  zx W w.heap.size 0 (n+1) dc ⟨vb,vo,none⟩ 1 vc 1 row 66 vs Try.underlying29 hsS (by rw [hW];exact hb1) (by simp only [Nat.min_def];split <;> omega) (by omega)
   (fun j v hj=>by
     have h1:=hvs j v hj
     rw [←hcell vb _ vlt] at h1
     simpa [zu,World.cell?,hW] using h1) lA ov
 obtain ⟨r1,hr1⟩:∃ r1,r1=lay row 0 vs:=⟨_,rfl⟩
 have s1:r1.size=row.size:=by rw [hr1];exact xn lA
 rw [←hr1] at hcpA
 have hb2:(W1.setRow w.heap.size r1).heap[w.heap.size]? = some (.cells r1 66 (0,0)):=zn hb1
 have lB:2+cs.length≤r1.size:=by
  have:=Nat.mul_le_mul_right 2 hGn
  omega
 have hcpB:∀ (W:World),W.heap=(W1.setRow w.heap.size r1).heap→∀ ty dc sc,(Builtin.copy_ #[29,29] ty #[.slice (some ⟨w.heap.size,2,none⟩) n dc,.slice (some ⟨b,o,none⟩) n sc]).run Try.prog W = .ok (goInt (n:Nat)) (W.setRow w.heap.size (lay r1 2 cs)):=fun W hW ty dc sc =>
  zx W w.heap.size 2 n dc ⟨b,o,none⟩ n sc n r1 66 cs Try.underlying29 hsS (by rw [hW];exact hb2) (by simp only [Nat.min_def];split <;> omega) lc
   (fun j v hj=>by
     have h1:=hcs j v hj
     rw [←hcell b _ hlt] at h1
     simpa [zu,World.cell?,hW,zy (w:=W1) r1 (Nat.ne_of_lt hlt)] using h1) lB oc
 have ht1:(1:Int).toNat=1:=rfl
 have hb1':(1:Int)≤(n:Int)+1:=by omega
 have hb2':(0:Int)≤(n:Int)+1:=by omega
 have hc1':¬ (G=1):=by omega
 have hc2':¬ (G=0):=by omega
 subst hW1
 subst hr1
 have hcpD:=hcpA ((w.alloc (.cells row 66)).drew) rfl
 go_enter Try.func90,Try.ntmps90
 go_wp2_with (at_builtin;refine Lib.wpList_append_run _ rfl _ _ _ _ rfl _ _ rfl rfl _ _ (hrz _) ?_)
 have hcpC:=hcpB (((w.alloc (.cells row 66)).drew.setRow w.heap.size (lay row 0 vs)).drew) rfl 3 (G - 1) n
 go_region_law_o (refine step_copy_runI rfl _ _ 29 29 rfl (.slice (some ⟨w.heap.size,2,none⟩) n (G - 1)) (.slice (some ⟨b,o,none⟩) n n) (by simp [Act.eval,Act.put]) (by simp [Act.eval,Act.put]) hcpC ?_)
 go_wp2
 go_ret
 refine ⟨G,row,hGn,hrs,rfl,rfl,rfl,rfl,?_⟩
 exact va w row _ _ _
theorem holdsS:InsHolds Try.prog 90 29 66 2 32 [.int .i64 0,.nils] where
 ent:=⟨_,Try.func90,by decide,rfl⟩
 und:=Try.underlying29
 sz:=by
  obtain ⟨i0,hi0,hz0,hzs,hzb⟩:=info_parts qi
  unfold tsz;rw [hi0];simp [hzs]
 zero:=by
  obtain ⟨i0,hi0,hz0,hzs,hzb⟩:=info_parts qi
  unfold tzero;rw [hi0];simp [hz0,Value.cells,AV.ofCell]
 zl:=rfl
 inf:=by
  obtain ⟨i0,hi0,hz0,hzs,hzb⟩:=info_parts qi
  exact ⟨i0,hi0,hzb,by omega⟩
 onto:=zaf
 shift:=z8e
 grow:=za9
end Go.Am.Ins
namespace Go.Am
open Go.Proofs Go.Sort
theorem WeakE.frzArr {e:Env} {σ:Store} {Q:Env→Store→Prop} (g i j:Nat) {id esz off len e2:Nat} {cs es:List (List AV)} {c:List AV} (hg:σ g=some (.arr e2 es)) (hi:es[i]? = some c) (hj:c[j]? = some (.os id esz off len)) (hσ:σ id=some (.arr esz cs)) (hgi:¬ g=id) (hle:off+len≤cs.length)
 (h:WeakE e ((σ.del id).set g (.arr e2 (es.set i (c.set j (.sl esz ((cs.drop off).take len)))))) Q):WeakE e σ Q:=fun G w vs hs hv=>by
 obtain ⟨b,base,hb,ho⟩:=hs.used g _ hg
 obtain ⟨hi',hi2⟩:=List.getElem?_eq_some_iff.1 hi
 obtain ⟨hj',hj2⟩:=List.getElem?_eq_some_iff.1 hj
 subst hi2
 cases ho with
 | arr hh hsz hl hf hvv =>
   rename_i ccs ty
   have h0:=hvv i j hi' hj'
   rw [hj2] at h0
   obtain ⟨G',h1,h2,h3⟩:=xa hs hσ hle h0
   have hp':(σ.del id) g=some (.arr e2 es):=by rw [Store.del_ne _ hgi];exact hg
   have hmem:∀ x ∈ es.set i (es[i].set j (.sl esz ((cs.drop off).take len))),x ∈ es∨x=es[i].set j (.sl esz ((cs.drop off).take len)):=fun x hx=>List.mem_or_eq_of_mem_set hx
   obtain ⟨h4,h5⟩:=h2.obj (o' := .arr e2 (es.set i (es[i].set j (.sl esz ((cs.drop off).take len))))) hp' (fun b' base' hb' ho'=>by
    have e1:=h1.ρ _ _ hb
    rw [hb'] at e1;cases e1
    refine .arr hh (by rw [List.length_set];exact hsz) (fun x hx => ?_) (fun x hx c hcx => ?_) (fun a d hA hB => ?_)
    ·rcases hmem x hx with h | rfl
     ·exact hl x h
     ·rw [List.length_set];exact hl _ (List.getElem_mem hi')
    ·rcases hmem x hx with h | rfl
     ·exact hf x h c hcx
     ·rcases List.mem_or_eq_of_mem_set hcx with h | rfl
      ·exact hf _ (List.getElem_mem hi') c h
      ·rfl
    ·have hA':a<es.length:=by simpa using hA
     by_cases hai:a=i
     ·subst hai
      simp only [List.getElem_set_self] at hB ⊢
      by_cases hbj:d=j
      ·subst hbj
       simp only [List.getElem_set_self];exact h3
      ·rw [List.getElem_set_ne (fun e=>hbj e.symm)]
       exact h1.vrel hs (hvv a d hA' (by simpa using hB))
     ·simp only [List.getElem_set_ne (fun e=>hai e.symm)] at hB ⊢
      exact h1.vrel hs (hvv a d hA' hB))
   obtain ⟨G2,e2',σ2,g1,g2,g3,g4⟩:=h G' w vs h4 (fun u v hu=>by
    obtain ⟨y,hy,hyr⟩:=hv u v hu;exact ⟨y,hy,h1.vrel hs hyr⟩)
   exact ⟨G2,e2',σ2,(h1.trans h5).trans g1,g2,g3,g4⟩
theorem z2g {e:Env} {Q:Env→Store→Prop} {g:Nat} {τ:Store}:∀ (p:List Seg) (gs:List Nat) (pre:List (List AV)) (s:Store),gs.length=p.length→gs.Nodup→(∀ x ∈ gs,τ x=none)→g ∉ gs→τ g=none→Store.sub τ s →
 (∀ i (h:i<p.length) (h':i<gs.length),s gs[i]=some (.arr 1 (p[i].ls.map cU)))→s g=some (.arr 2 (pre++List.zipWith segO p gs))→(∀ s',Store.sub τ s'→s' g=some (.arr 2 (pre++p.map Seg.c))→WeakE e s' Q)→WeakE e s Q
 | [],[],pre,s,_,_,_,_,_,hs,_,hg,h=>h s hs hg
 | [],_::_,_,_,hl,_,_,_,_,_,_,_,_=>by simp at hl
 | _::_,[],_,_,hl,_,_,_,_,_,_,_,_=>by simp at hl
 | x::p,y::gs,pre,s,hl,hn,hτ,hgn,hτg,hs,hi,hg,h=>by
   have h0:=hi 0 (by simp) (by simp)
   simp only [List.getElem_cons_zero] at h0
   rw [List.nodup_cons] at hn
   have hgy:¬ g=y:=fun e=>hgn (by rw [e];simp)
   have hgt:g ∉ gs:=fun e=>hgn (by simp [e])
   refine WeakE.frzArr g pre.length 1 (c:=segO x y) hg (by simp) rfl h0 hgy (by simp) ?_
   have hτy:=hτ y (by simp)
   refine z2g p gs (pre++[x.c]) _ (by simpa using hl) hn.2 (fun z hz=>hτ z (by simp [hz])) hgt hτg (z6 (sub_del hs hτy) hτg) (fun i hA hB => ?_) ?_ fun s' h1 h2=>h s' h1 (by rw [h2];simp)
   ·have h1:¬ gs[i]=g:=fun e=>hgt (by rw [←e];exact List.getElem_mem hB)
    have h2:¬ gs[i]=y:=fun e=>hn.1 (by rw [←e];exact List.getElem_mem hB)
    rw [Store.set_ne _ _ h1,Store.del_ne _ h2]
    have:=hi (i+1) (by simpa using hA) (by simpa using hB)
    simpa using this
   ·rw [Store.set_same]
    have ht:List.take x.ls.length (x.ls.map cU)=x.ls.map cU:=List.take_of_length_le (by simp)
    simp [segO,Seg.c,ht]
theorem WeakE.ownP {e:Env} {τ σ:Store} {Q:Env→Store→Prop} {p:List Seg} {v:AV} (ho:OwnP τ p v σ) (hs:Store.sub τ σ) (h:∀ σ',Store.sub τ σ'→Own 2 τ (p.map Seg.c) v σ'→WeakE e σ' Q):WeakE e σ Q:=by
 obtain ⟨gs,hl,hn,hg,hi,ho⟩:=ho
 rcases ho with ⟨h0,rfl⟩ | ⟨g,rfl,hgg,hh⟩
 ·have:p=[]:=by
   have:=congrArg List.length h0
   simp [hl] at this
   exact this
  subst this
  exact h σ hs .nil
 ·have hgi:g ∉ gs:=fun e=>by
   obtain ⟨i,hi',rfl⟩:=List.getElem_of_mem e
   rw [hi i (by omega) hi'] at hh;cases hh
  refine z2g p gs [] σ hl hn hg hgi hgg hs hi hh fun s' h1 h2=>h s' h1 (.inr ⟨g,by simp [hl],hgg,by simpa using h2⟩)
end Go.Am
