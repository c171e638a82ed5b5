/- A part of the proof: a logic for calls over plain values, and the functions that the law reaches, each walked once. -/
import Derived.Test.YtplkahhkogncjaaGreatQC12
set_option linter.unusedVariables false
set_option linter.unusedSimpArgs false
set_option linter.unusedSectionVars false
namespace Go.Am
open Go.Proofs Go.Sort
def sideF (b:Bool):Int:=if b then -1 else 1
theorem z3a (b:Bool):Pur Tryz.prog 150 [.bool b] (.int .i64 (sideF b)):=by
 refine zw Tst.F150 (by simp [Tst.F150,Fn.mkX]) fun σ => ?_
 simp only [Tst.F150,Fn.mkX,Tst.b150]
 cases b <;> simp only [↓vcPre,↓z8,↓reduceIte,vcPost,vcStd,Nat.reduceEqDiff,reduceCtorEq,Nat.reduceAdd,Nat.reduceLeDiff,Int.reduceLT,Int.reduceLE,↓u_setN] <;> rfl
theorem c88 (l m:List Seg) (hl:l.length≤1000000) (hm:m.length≤1000000) (hlo:∀ s ∈ l,s.ok) (hmo:∀ s ∈ m,s.ok):Pur Tryz.prog 88 [.sl 2 (l.map Seg.c),.sl 2 (m.map Seg.c)] (.int .i64 (cmpPath l m)):=by
 refine zw Tst.F88 (by simp [Tst.F88,Fn.mkX]) fun σ => ?_
 simp only [Tst.F88,Fn.mkX,Tst.b88]
 simp only [↓vcPre,↓z8,↓reduceIte,vcPost,vcStd,Nat.reduceEqDiff,reduceCtorEq,Nat.reduceAdd,Nat.reduceLeDiff,Int.reduceLT,Int.reduceLE,↓u_setN]
 refine LoopQ.inv (S:=Nat) (fun k=>[(0,.sl 2 (l.map Seg.c)),(1,.sl 2 (m.map Seg.c)),(5,.int .i64 (k:Int))]) (fun _=>σ) (fun k=>k≤l.length∧k≤m.length∧cmpG cmpSeg (l.drop k) (m.drop k)=cmpPath l m) (fun k=>l.length+1 - k) 0 rfl (Store.sub_refl _) ⟨by omega,by omega,rfl⟩ ?_
 rintro k ⟨hk,hk2,ho⟩
 simp only [↓vcPre,↓z8,↓reduceIte,vcPost,vcStd,Nat.reduceEqDiff,reduceCtorEq,Nat.reduceAdd,Nat.reduceLeDiff,Int.reduceLT,Int.reduceLE,↓u_setN]
 have hside:∀ x y:Int,x≠y→sideF (decide (x<y))=cmpI x y:=fun x y h=>by
  unfold sideF cmpI
  by_cases h1:x<y
  ·simp [h1]
  ·have h2:y<x:=by omega
   simp [h1,h2]
 have he1:(k=l.length∨k=m.length)→¬ (l.length:Int)=(m.length:Int)→sideF (decide (l.length<m.length))=cmpPath l m:=fun hkk h1=>by
  rw [←ho]
  by_cases h2:l.length<m.length
  ·rw [show List.drop k l=[] from List.drop_eq_nil_of_le (by omega),List.drop_eq_getElem_cons (l:=m) (by omega)]
   simp [sideF,cmpG,h2]
  ·rw [show List.drop k m=[] from List.drop_eq_nil_of_le (by omega),List.drop_eq_getElem_cons (l:=l) (by omega)]
   simp [sideF,cmpG,h2]
 have he2:(k=l.length∨k=m.length)→(l.length:Int)=(m.length:Int)→0=cmpPath l m:=fun hkk h1=>by
  rw [←ho,show List.drop k l=[] from List.drop_eq_nil_of_le (by omega),show List.drop k m=[] from List.drop_eq_nil_of_le (by omega)]
  rfl
 refine ⟨fun c1=>⟨fun c2 => ?_,fun c2 => ?_⟩,fun c1 => ?_⟩
 ·rw [List.drop_eq_getElem_cons c1,List.drop_eq_getElem_cons c2] at ho
  simp only [cmpG] at ho
  refine ⟨c1,c2,by simp [Seg.c],?_⟩
  have hxo:=hlo _ (List.getElem_mem c1)
  have hyo:=hmo _ (List.getElem_mem c2)
  have hc1:cmpSeg l[k] m[k]=orL [cmpI l[k].kind m[k].kind,cmpI l[k].ls.length m[k].ls.length,cmpG cmpI l[k].ls m[k].ls]:=rfl
  simp only [Seg.c,↓vcPre,↓z8,↓reduceIte,vcPost,vcStd,Nat.reduceEqDiff,reduceCtorEq,Nat.reduceAdd,Nat.reduceLeDiff,Int.reduceLT,Int.reduceLE,↓u_setN]
  refine ⟨fun g1=>⟨c1,c2,(z3a _).Q ?_⟩,fun g1=>⟨c1,c2,fun g2=>⟨c1,c2,(z3a _).Q ?_⟩,fun g2 => ?_⟩⟩
  ·have hz:cmpI l[k].kind m[k].kind≠0:=fun e=>g1 (cmpI_z.1 e)
   have h1:cmpSeg l[k] m[k]=cmpI l[k].kind m[k].kind:=by rw [hc1];simp only [orL];rw [if_neg hz]
   simp only [↓vcPre,↓z8,↓reduceIte,vcPost,vcStd,Nat.reduceEqDiff,reduceCtorEq,Nat.reduceAdd,Nat.reduceLeDiff,Int.reduceLT,Int.reduceLE,↓u_setN]
   rw [hside _ _ g1,←ho,if_neg (by rw [h1];exact hz),h1]
  ·have hz:cmpI l[k].ls.length m[k].ls.length≠0:=fun e=>g2 (cmpI_z.1 e)
   have h1:cmpSeg l[k] m[k]=cmpI l[k].ls.length m[k].ls.length:=by rw [hc1];simp only [orL];rw [if_pos (cmpI_z.2 g1),if_neg hz]
   have h2:=hside _ _ g2
   simp only [Int.ofNat_lt] at h2
   simp only [↓vcPre,↓z8,↓reduceIte,vcPost,vcStd,Nat.reduceEqDiff,reduceCtorEq,Nat.reduceAdd,Nat.reduceLeDiff,Int.reduceLT,Int.reduceLE,↓u_setN]
   rw [h2,←ho,if_neg (by rw [h1];exact hz),h1]
  ·have h1:cmpSeg l[k] m[k]=cmpG cmpI l[k].ls m[k].ls:=by
    rw [hc1];simp only [orL];rw [if_pos (cmpI_z.2 g1),if_pos (cmpI_z.2 g2)]
    split
    ·rename_i h;rw [h]
    ·rfl
   rw [h1] at ho
   unfold Seg.ok at hxo hyo
   refine LoopQ.inv (S:=Nat) (fun j=>[(0,.sl 2 (l.map Seg.c)),(1,.sl 2 (m.map Seg.c)),(5,.int .i64 (k:Int)),(6,.int .i64 (j:Int))]) (fun _=>σ) (fun j=>j≤l[k].ls.length∧cmpG cmpI (l[k].ls.drop j) (m[k].ls.drop j)=cmpG cmpI l[k].ls m[k].ls) (fun j=>l[k].ls.length+1 - j) 0 rfl (Store.sub_refl _) ⟨by omega,rfl⟩ ?_
   rintro j ⟨hj,hjo⟩
   simp only [Seg.c,↓vcPre,↓z8,↓reduceIte,vcPost,vcStd,Nat.reduceEqDiff,reduceCtorEq,Nat.reduceAdd,Nat.reduceLeDiff,Int.reduceLT,Int.reduceLE,↓u_setN]
   have hjl:IntKind.i64.wrap ((j:Int)+1)=((j+1:Nat):Int):=by rw [zd (by unfold I64;omega)];omega
   have hkl:IntKind.i64.wrap ((k:Int)+1)=((k+1:Nat):Int):=by rw [zd (by unfold I64;omega)];omega
   refine ⟨c1,fun d1 => ?_,fun d1 => ?_⟩
   ·have d2:j<m[k].ls.length:=by omega
    rw [List.drop_eq_getElem_cons d1,List.drop_eq_getElem_cons d2] at hjo
    simp only [cmpG] at hjo
    refine ⟨c1,c2,d1,by simp [cU],?_⟩
    simp only [cU,↓vcPre,↓z8,↓reduceIte,vcPost,vcStd,Nat.reduceEqDiff,reduceCtorEq,Nat.reduceAdd,Nat.reduceLeDiff,Int.reduceLT,Int.reduceLE,↓u_setN]
    refine ⟨d2,fun e1=>⟨c1,c2,d1,d2,(z3a _).Q ?_⟩,fun e1 => ?_⟩
    ·have hz:cmpI l[k].ls[j] m[k].ls[j]≠0:=fun e=>e1 (cmpI_z.1 e)
     rw [if_neg hz] at hjo
     simp only [↓vcPre,↓z8,↓reduceIte,vcPost,vcStd,Nat.reduceEqDiff,reduceCtorEq,Nat.reduceAdd,Nat.reduceLeDiff,Int.reduceLT,Int.reduceLE,↓u_setN]
     rw [hside _ _ e1,←ho,←hjo,if_neg hz]
    ·rw [if_pos (cmpI_z.2 e1)] at hjo
     rw [hjl]
     exact NextQ.to (j+1) rfl (Store.sub_refl _) (by omega) ⟨by omega,hjo⟩
   ·rw [show List.drop j l[k].ls=[] from List.drop_eq_nil_of_le (by omega),show List.drop j m[k].ls=[] from List.drop_eq_nil_of_le (by omega)] at hjo
    have h0:cmpG cmpI l[k].ls m[k].ls=0:=by rw [←hjo];rfl
    rw [if_pos h0] at ho
    rw [hkl]
    exact NextQ.to (k+1) rfl (Store.sub_refl _) (by omega) ⟨by omega,by omega,ho⟩
 ·refine ⟨fun h1=>(z3a _).Q ?_,he2 (by omega)⟩
  simp only [↓vcPre,↓z8,↓reduceIte,vcPost,vcStd,Nat.reduceEqDiff,reduceCtorEq,Nat.reduceAdd,Nat.reduceLeDiff,Int.reduceLT,Int.reduceLE,↓u_setN]
  rw [he1 (by omega) h1]
 ·refine ⟨fun h1=>(z3a _).Q ?_,he2 (by omega)⟩
  simp only [↓vcPre,↓z8,↓reduceIte,vcPost,vcStd,Nat.reduceEqDiff,reduceCtorEq,Nat.reduceAdd,Nat.reduceLeDiff,Int.reduceLT,Int.reduceLE,↓u_setN]
  rw [he1 (by omega) h1]
theorem z09:zeroAt.ok:=⟨by simp [zeroAt],by simp [zeroAt],by simp [zeroAt]⟩
end Go.Am
namespace Go.Am
theorem WeakL.freezeIn {as0:List AV} {σ:Store} {Q:List AV→Store→Prop} (k i j:Nat) {e2 id esz off len:Nat} {es cs:List (List AV)} (ha:as0[k]? = some (.sl e2 es)) (hi:i<es.length) (hj:j<es[i].length) (hc:es[i][j] = .os id esz off len)
 (hσ:σ id=some (.arr esz cs)) (hle:off+len≤cs.length)
 (h:WeakL (as0.set k (.sl e2 (es.set i (es[i].set j (.sl esz ((cs.drop off).take len)))))) (σ.del id) Q):WeakL as0 σ Q:=fun G w vs hs hr=>by
 obtain ⟨v,hv,hvr⟩:=hr.get k _ ha
 have key:∃ G',Ext G σ w G' (σ.del id) w∧Sim G' (σ.del id) w∧VRel G' w (.sl e2 (es.set i (es[i].set j (.sl esz ((cs.drop off).take len))))) v:=by
  cases hvr with
  | sl0=>simp at hi
  | sl f hb hne hcap hl hf hcell hvv =>
    have h0:=hvv i j hi hj
    rw [hc] at h0
    obtain ⟨G',h1,h2,h3⟩:=v9 hs hσ hle h0
    refine ⟨G',h1,h2,?_⟩
    have hmem:∀ x ∈ es.set i (es[i].set j (.sl esz ((cs.drop off).take len))),x ∈ es∨x=es[i].set j (.sl esz ((cs.drop off).take len)):=fun x hx=>List.mem_or_eq_of_mem_set hx
    have hlen:(es.set i (es[i].set j (.sl esz ((cs.drop off).take len)))).length=es.length:=List.length_set
    have:=VRel.sl (G:=G') (w:=w) (esz:=e2) (es:=es.set i (es[i].set j (.sl esz ((cs.drop off).take len)))) f (h1.I _ hb) (by intro e;rw [e] at hlen;simp at hlen;omega) (by rw [hlen];exact hcap)
     (fun x hx=>by
       rcases hmem x hx with h | rfl
       ·exact hl x h
       ·rw [List.length_set];exact hl _ (List.getElem_mem hi))
     (fun x hx c hcx=>by
       rcases hmem x hx with h | rfl
       ·exact hf x h c hcx
       ·rcases List.mem_or_eq_of_mem_set hcx with h | rfl
        ·exact hf _ (List.getElem_mem hi) c h
        ·rfl)
     (fun a b hA hB=>hcell a b (by rw [←hlen];exact hA) hB)
     (fun a b hA hB=>by
       have hA':a<es.length:=by rw [←hlen];exact hA
       by_cases hai:a=i
       ·subst hai
        simp only [List.getElem_set_self] at hB ⊢
        by_cases hbj:b=j
        ·subst hbj
         simp only [List.getElem_set_self];exact h3
        ·rw [List.getElem_set_ne (fun e=>hbj e.symm)]
         exact h1.vrel hs (hvv a b hA' (by simpa using hB))
       ·simp only [List.getElem_set_ne (fun e=>hai e.symm)] at hB ⊢
        exact h1.vrel hs (hvv a b hA' hB))
    rw [hlen] at this
    exact this
 obtain ⟨G',h1,h2,h3⟩:=key
 obtain ⟨G'',as',σ',g1,g2,g3,g4⟩:=h G' w vs h2 (Rels.of_get (by simpa using hr.length) fun a ha' hi'=>by
  by_cases hik:a=k
  ·subst hik
   rw [List.getElem?_eq_getElem hi'] at hv;cases hv
   simp;exact h3
  ·rw [List.getElem_set_ne (Ne.symm hik)]
   have hi2:a<as0.length:=by simpa using ha'
   obtain ⟨u,hu,hur⟩:=hr.get a _ (List.getElem?_eq_getElem hi2)
   rw [List.getElem?_eq_getElem hi'] at hu;cases hu
   exact h1.vrel hs hur)
 exact ⟨G'',as',σ',h1.trans g1,g2,g3,g4⟩
end Go.Am
namespace Go.Am
open Go.Proofs Go.Sort
def delAll (s:Store) (gs:List Nat):Store:=gs.foldl Store.del s
theorem z2e {s:Store}:∀ {gs:List Nat} {x:Nat},x ∉ gs→delAll s gs x=s x
 | [],_,_=>rfl
 | g::gs,x,h=>by
   simp only [List.mem_cons,not_or] at h
   show delAll (s.del g) gs x=s x
   rw [z2e h.2,Store.del_ne _ h.1]
def segO (x:Seg) (g:Nat):List AV:=[.int .i64 x.kind,.os g 1 0 x.ls.length]
theorem z8p {Q:List AV→Store→Prop}:∀ (p:List Seg) (gs:List Nat) (pre:List (List AV)) (s:Store),gs.length=p.length→gs.Nodup →
 (∀ i (h:i<p.length) (h':i<gs.length),s gs[i]=some (.arr 1 (p[i].ls.map cU)))→WeakL [.sl 2 (pre++p.map Seg.c)] (delAll s gs) Q→WeakL [.sl 2 (pre++List.zipWith segO p gs)] s Q
 | [],[],pre,s,_,_,_,h=>h
 | [],_::_,_,_,hl,_,_,_=>by simp at hl
 | _::_,[],_,_,hl,_,_,_=>by simp at hl
 | x::p,g::gs,pre,s,hl,hn,hs,h=>by
   have h0:=hs 0 (by simp) (by simp)
   simp only [List.getElem_cons_zero] at h0
   rw [List.nodup_cons] at hn
   refine WeakL.freezeIn 0 pre.length 1 (id:=g) (esz:=1) (off:=0) (len:=x.ls.length) (cs:=x.ls.map cU) (es:=pre++List.zipWith segO (x::p) (g::gs)) rfl (by simp) (by simp [segO]) (by simp [segO]) h0 (by simp) ?_
   have e:(pre++List.zipWith segO (x::p) (g::gs)).set pre.length ((pre++List.zipWith segO (x::p) (g::gs))[pre.length]'(by simp) |>.set 1 (.sl 1 (((x.ls.map cU).drop 0).take x.ls.length)))=(pre++[x.c])++List.zipWith segO p gs:=by
    have ht:List.take x.ls.length (x.ls.map cU)=x.ls.map cU:=List.take_of_length_le (by simp)
    simp [segO,Seg.c,ht]
   rw [e]
   refine z8p p gs (pre++[x.c]) (s.del g) (by simpa using hl) hn.2 (fun i hi hi' => ?_) ?_
   ·rw [Store.del_ne _ (fun e=>hn.1 (by rw [←e];exact List.getElem_mem hi'))]
    have:=hs (i+1) (by simpa using hi) (by simpa using hi')
    simpa using this
   ·simpa [delAll] using h
def OwnP (τ:Store) (p:List Seg) (v:AV) (s:Store):Prop :=
 ∃ gs:List Nat,gs.length=p.length∧gs.Nodup∧(∀ g ∈ gs,τ g=none)∧(∀ i (h:i<p.length) (h':i<gs.length),s gs[i]=some (.arr 1 (p[i].ls.map cU)))∧Own 2 τ (List.zipWith segO p gs) v s
theorem OwnP.nil {τ s:Store}:OwnP τ [] .nils s:=⟨[],rfl,.nil,by simp,fun i h=>by simp at h,.nil⟩
theorem OwnP.app {bytes:Nat} {τ s0 s:Store} {p:List Seg} {x:Seg} {j:Nat} {v wv:AV} {K:AV→Store→Prop} (hτ:Store.sub τ s0) (h0:Store.sub s0 s) (ho:OwnP τ p v s0) (hj:s j=some (.arr 1 (x.ls.map cU))) (hj0:s0 j=none)
 (hw:slc s 2 wv=some [segO x j]) (hsz:(p.length+1)*bytes≤140737488355328) (h:∀ v' s',Store.sub τ s'→OwnP τ (p++[x]) v' s'→K v' s'):appwp 2 bytes v wv s K:=by
 obtain ⟨gs,hl,hn,hg,hi,ho⟩:=ho
 have hτj:τ j=none:=zo hτ hj0
 have hjg:j ∉ gs:=fun e=>by
  obtain ⟨i,hi',rfl⟩:=List.getElem_of_mem e
  rw [hi i (by omega) hi'] at hj0;cases hj0
 have hz:(List.zipWith segO p gs).length=p.length:=by simp [hl]
 have fin:∀ (τ2:Store) v' s',Store.sub τ τ2→Store.sub τ2 s'→τ2 j=some (.arr 1 (x.ls.map cU))→(∀ i (h:i<p.length) (h':i<gs.length),τ2 gs[i]=some (.arr 1 (p[i].ls.map cU)))→Own 2 τ2 (List.zipWith segO p gs++[segO x j]) v' s'→K v' s':=by
  intro τ2 v' s' k1 k2 k3 k4 k5
  refine h v' s' (Store.sub_trans k1 k2) ⟨gs++[j],by simp [hl],?_,?_,?_,?_⟩
  ·rw [List.nodup_append]
   refine ⟨hn,by simp,fun a ha b hb => ?_⟩
   simp only [List.mem_singleton] at hb
   subst hb
   exact fun e=>hjg (e ▸ ha)
  ·intro g hgm
   rcases List.mem_append.1 hgm with h | h
   ·exact hg g h
   ·simp only [List.mem_singleton] at h;subst h;exact hτj
  ·intro i hA hB
   by_cases hip:i<p.length
   ·rw [List.getElem_append_left (by omega),List.getElem_append_left hip]
    exact k2 _ _ (k4 i hip (by omega))
   ·have hip':i=p.length:=by simp at hA;omega
    subst hip'
    have e1:(gs++[j])[p.length]'hB=j:=by
     rw [List.getElem_append_right (by omega)];simp
    have e2:(p++[x])[p.length]'hA=x:=by
     rw [List.getElem_append_right (by omega)];simp
    rw [e1,e2];exact k2 _ _ k3
  ·rw [List.zipWith_append (by omega)]
   exact k5.weak k1
 rcases ho with ⟨hL,rfl⟩ | ⟨g,rfl,hgg,hh⟩
 ·refine Own.app (τ:=s) (L:=List.zipWith segO p gs) (Store.sub_refl _) (.inl ⟨hL,rfl⟩) hw (by rw [hz];exact hsz) fun v' s' hs ho' => ?_
  exact fin s v' s' (Store.sub_trans hτ h0) hs hj (fun i h h'=>h0 _ _ (hi i h h')) ho'
 ·have hgi:∀ i (h':i<gs.length),gs[i]≠g:=fun i h' e=>by
   have:=hi i (by omega) h'
   rw [e,hh] at this;cases this
  have hjg':j≠g:=fun e=>by rw [e,hh] at hj0;cases hj0
  have hsd:Store.sub (s.del g) s:=fun y o hy=>by
   by_cases hyg:y=g
   ·subst hyg;simp at hy
   ·rw [Store.del_ne _ hyg] at hy;exact hy
  refine Own.app (τ:=s.del g) (L:=List.zipWith segO p gs) hsd (.inr ⟨g,rfl,by simp,h0 _ _ hh⟩) hw (by rw [hz];exact hsz) fun v' s' hs ho' => ?_
  refine fin (s.del g) v' s' (fun y o hy => ?_) hs (by rw [Store.del_ne _ hjg'];exact hj) (fun i h h'=>by rw [Store.del_ne _ (hgi i h')];exact h0 _ _ (hi i h h')) ho'
  rw [Store.del_ne _ (fun e=>by subst e;rw [hgg] at hy;cases hy)]
  exact h0 _ _ (hτ _ _ hy)
theorem EndQ.ownP {slots:List RS} {Q:AV→Store→Prop} {e:Env} {σ τ:Store} {p:List Seg} {v:AV} (h1:e.res τ slots=some v) (ho:OwnP σ p v τ) (hs:Store.sub σ τ) (h4:Q (.sl 2 (p.map Seg.c)) σ) : @EndQ e τ ⟨slots,Q⟩:=by
 obtain ⟨gs,hl,hn,hg,hi,ho⟩:=ho
 rcases ho with ⟨h0,rfl⟩ | ⟨g,rfl,hgg,hh⟩
 ·have:p=[]:=by
   have:=congrArg List.length h0
   simp [hl] at this
   exact this
  subst this
  exact EndQ.nil1 2 σ h1 hs h4
 ·unfold EndQ
  refine ⟨_,h1,Weak.of_one (WeakL.freeze 0 rfl hh (by omega) ?_)⟩
  simp only [List.set_cons_zero,List.drop_zero,List.take_length]
  have hgi:∀ i (h':i<gs.length),gs[i]≠g:=fun i h' e=>by
   have:=hi i (by omega) h'
   rw [e,hh] at this;cases this
  refine z8p (Q:=_) p gs [] (τ.del g) hl hn (fun i h h'=>by rw [Store.del_ne _ (hgi i h')];exact hi i h h') ?_
  refine WeakL.forget (σ':=σ) (fun x o hx => ?_) (WeakL.pure ⟨_,rfl,h4⟩)
  have h1:x ∉ gs:=fun e=>by rw [hg x e] at hx;cases hx
  rw [z2e h1,Store.del_ne _ (fun e=>by subst e;rw [hgg] at hx;cases hx)]
  exact hs x o hx
end Go.Am
namespace Go.Am
open Go.Proofs Go.Sort
def segV (x:Seg) (v:AV):List AV:=[.int .i64 x.kind,v]
def OwnsL (τ:Store):List Seg→List AV→Store→Prop
 | [],[],_=>True
 | x::p,v::vs,s=>(x.ls=[]∧v = .nils∧OwnsL τ p vs s)∨(∃ g,v = .os g 1 0 x.ls.length∧τ g=none∧s g=some (.arr 1 (x.ls.map cU))∧OwnsL τ p vs (s.del g))
 | _,_,_=>False
theorem OwnsL.len {τ:Store}:∀ {p:List Seg} {vs:List AV} {s:Store},OwnsL τ p vs s→vs.length=p.length
 | [],[],_,_=>rfl
 | _::_,_::_,_,h=>by
   rcases h with ⟨_,_,h⟩ | ⟨_,_,_,_,h⟩
   ·simp [OwnsL.len h]
   ·simp [OwnsL.len h]
 | [],_::_,_,h=>h.elim
 | _::_,[],_,h=>h.elim
theorem z44 {s s':Store} (h:Store.sub s s') (g:Nat):Store.sub (s.del g) (s'.del g):=fun j o hj=>by
 by_cases e:j=g
 ·subst e;simp at hj
 ·rw [Store.del_ne _ e] at hj ⊢;exact h j o hj
theorem OwnsL.mono {τ:Store}:∀ {p:List Seg} {vs:List AV} {s s':Store},OwnsL τ p vs s→Store.sub s s'→OwnsL τ p vs s'
 | [],[],_,_,_,_=>trivial
 | _::_,_::_,_,_,h,hs=>by
   rcases h with ⟨h1,h2,h⟩ | ⟨g,h1,h2,h3,h⟩
   ·exact .inl ⟨h1,h2,h.mono hs⟩
   ·exact .inr ⟨g,h1,h2,hs _ _ h3,h.mono (z44 hs g)⟩
 | [],_::_,_,_,h,_=>h.elim
 | _::_,[],_,_,h,_=>h.elim
theorem z3e (s:Store) (a b:Nat):(s.del a).del b=(s.del b).del a:=by
 funext j;simp only [Store.del];split <;> split <;> rfl
theorem OwnsL.del {τ:Store} {b:Nat}:∀ {p:List Seg} {vs:List AV} {s:Store},OwnsL τ p vs s→(∀ M,s b≠some (.arr 1 M))→OwnsL τ p vs (s.del b)
 | [],[],_,_,_=>trivial
 | _::_,_::_,s,h,hb=>by
   rcases h with ⟨h1,h2,h⟩ | ⟨g,h1,h2,h3,h⟩
   ·exact .inl ⟨h1,h2,h.del hb⟩
   ·have hgb:g≠b:=fun e=>hb _ (e ▸ h3)
    refine .inr ⟨g,h1,h2,by rw [Store.del_ne _ hgb];exact h3,?_⟩
    rw [z3e]
    exact h.del fun M e=>by
     by_cases e2:b=g
     ·exact hgb e2.symm
     ·rw [Store.del_ne _ e2] at e;exact hb M e
 | [],_::_,_,h,_=>h.elim
 | _::_,[],_,h,_=>h.elim
theorem OwnsL.snoc {τ:Store} {x:Seg}:∀ {p:List Seg} {vs:List AV} {xv:AV} {s:Store},((x.ls=[]∧xv = .nils∧OwnsL τ p vs s)∨∃ j,xv = .os j 1 0 x.ls.length∧τ j=none∧s j=some (.arr 1 (x.ls.map cU))∧OwnsL τ p vs (s.del j))→OwnsL τ (p++[x]) (vs++[xv]) s
 | [],[],xv,s,h=>h
 | y::p,v::vs,xv,s,h=>by
   rcases h with ⟨h1,h2,h⟩ | ⟨j,h1,h2,h3,h⟩
   ·rcases h with ⟨k1,k2,h⟩ | ⟨g,k1,k2,k3,h⟩
    ·exact .inl ⟨k1,k2,OwnsL.snoc (.inl ⟨h1,h2,h⟩)⟩
    ·exact .inr ⟨g,k1,k2,k3,OwnsL.snoc (.inl ⟨h1,h2,h⟩)⟩
   ·rcases h with ⟨k1,k2,h⟩ | ⟨g,k1,k2,k3,h⟩
    ·exact .inl ⟨k1,k2,OwnsL.snoc (.inr ⟨j,h1,h2,h3,h⟩)⟩
    ·have hgj:g≠j:=fun e=>by subst e;simp at k3
     rw [Store.del_ne _ hgj] at k3
     refine .inr ⟨g,k1,k2,k3,OwnsL.snoc (.inr ⟨j,h1,h2,by rw [Store.del_ne _ (fun e=>hgj e.symm)];exact h3,by rw [z3e];exact h⟩)⟩
 | [],_::_,_,_,h=>by rcases h with ⟨_,_,h⟩ | ⟨_,_,_,_,h⟩ <;> exact h.elim
 | _::_,[],_,_,h=>by rcases h with ⟨_,_,h⟩ | ⟨_,_,_,_,h⟩ <;> exact h.elim
theorem OwnsL.flat {τ:Store}:∀ {p:List Seg} {vs:List AV} {s:Store},OwnsL τ p vs s→∀ v ∈ vs,v.flat=true∧(v = .nils∨∃ g n,v = .os g 1 0 n)
 | [],[],_,_=>by simp
 | _::_,v::vs,_,h=>by
   rcases h with ⟨_,rfl,h⟩ | ⟨g,rfl,_,_,h⟩
   all_goals
    intro w hw
    rcases List.mem_cons.1 hw with rfl | hw
    ·exact ⟨rfl,by first | exact .inl rfl | exact .inr ⟨_,_,rfl⟩⟩
    ·exact OwnsL.flat h w hw
 | [],_::_,_,h=>h.elim
 | _::_,[],_,h=>h.elim
theorem OwnsL.lens {τ:Store}:∀ {p:List Seg} {vs:List AV} {s:Store},OwnsL τ p vs s→∀ i (h:i<p.length) (h':i<vs.length),pv .len [vs[i]]=some (.int .i64 (p[i].ls.length:Int))
 | [],[],_,_,i,h,_=>by simp at h
 | x::p,v::vs,s,hh,i,h,h'=>by
   cases i with
   | zero =>
     rcases hh with ⟨h1,rfl,_⟩ | ⟨g,rfl,_⟩
     ·simp [pv,pLen,h1]
     ·simp [pv,pLen]
   | succ i =>
     simp only [List.getElem_cons_succ]
     rcases hh with ⟨_,_,hh⟩ | ⟨_,_,_,_,hh⟩ <;> exact OwnsL.lens hh i (by simpa using h) (by simpa using h')
 | [],_::_,_,h,_,_,_=>h.elim
 | _::_,[],_,h,_,_,_=>h.elim
theorem WeakL.imp {xs bs:List AV} {σ:Store} {Q:List AV→Store→Prop} (h:Rels Imp xs bs) (hq:WeakL bs σ Q):WeakL xs σ Q:=fun G w vs hs hr=>by
 refine hq G w vs hs ?_
 clear hq hs
 induction h generalizing vs with
 | nil=>exact hr
 | cons h1 _ ih=>cases hr with | cons r1 r2=>exact .cons (h1.2 _ _ _ r1) (ih _ r2)
theorem ImpL.refl' (l:List (List AV)) (h:∀ e ∈ l,∀ c ∈ e,c.flat=true):Rels ImpL l l:=by
 induction l with
 | nil=>exact .nil
 | cons x l ih=>exact .cons (ImpL.refl x (h x (by simp))) (ih fun e he=>h e (by simp [he]))
theorem z6s {τ:Store} {Q:List AV→Store→Prop}:∀ (p:List Seg) (vs:List AV) (pre:List (List AV)) (s:Store),(∀ e ∈ pre,∀ c ∈ e,c.flat=true)→OwnsL τ p vs s→Store.sub τ s→(∀ s',Store.sub τ s'→WeakL [.sl 2 (pre++p.map Seg.c)] s' Q)→WeakL [.sl 2 (pre++List.zipWith segV p vs)] s Q
 | [],[],pre,s,_,_,hs,h=>h s hs
 | x::p,v::vs,pre,s,hpre,ho,hs,h=>by
   have hxc:∀ c ∈ x.c,c.flat=true:=fun c hc=>by
    simp only [Seg.c,List.mem_cons,List.not_mem_nil,or_false] at hc
    rcases hc with rfl | rfl <;> rfl
   have hpre':∀ e ∈ pre++[x.c],∀ c ∈ e,c.flat=true:=fun e he=>by
    rcases List.mem_append.1 he with he | he
    ·exact hpre e he
    ·simp only [List.mem_singleton] at he;subst he;exact hxc
   have h':∀ s',Store.sub τ s'→WeakL [.sl 2 ((pre++[x.c])++p.map Seg.c)] s' Q:=fun s' hs'=>by
    have:=h s' hs'
    simpa using this
   rcases ho with ⟨h0,rfl,ho⟩ | ⟨g,rfl,hτg,hg,ho⟩
   ·have hfl:=ho.flat
    have hrow:∀ e ∈ List.zipWith segV p vs,∀ c ∈ e,c.flat=true:=fun e he c hc=>by
     obtain ⟨i,hi,rfl⟩:=List.getElem_of_mem he
     simp only [List.getElem_zipWith,segV,List.mem_cons,List.not_mem_nil,or_false] at hc
     rcases hc with rfl | rfl
     ·rfl
     ·exact (hfl _ (List.getElem_mem _)).1
    refine WeakL.imp (bs:=[.sl 2 ((pre++[x.c])++List.zipWith segV p vs)]) (.cons (Imp.sl ?_) .nil) (z6s p vs (pre++[x.c]) s hpre' ho hs h')
    rw [List.append_assoc]
    refine Rels.append (ImpL.refl' pre hpre) ?_
    simp only [List.zipWith_cons_cons,List.cons_append,List.nil_append]
    refine .cons ?_ (ImpL.refl' _ hrow)
    refine .cons (.refl rfl) (.cons ?_ .nil)
    rw [h0];exact Imp.nils
   ·refine WeakL.freezeIn 0 pre.length 1 (id:=g) (esz:=1) (off:=0) (len:=x.ls.length) (cs:=x.ls.map cU) (es:=pre++List.zipWith segV (x::p) (.os g 1 0 x.ls.length::vs)) rfl (by simp) (by simp [segV]) (by simp [segV]) hg (by simp) ?_
    have e:(pre++List.zipWith segV (x::p) (.os g 1 0 x.ls.length::vs)).set pre.length ((pre++List.zipWith segV (x::p) (.os g 1 0 x.ls.length::vs))[pre.length]'(by simp) |>.set 1 (.sl 1 (((x.ls.map cU).drop 0).take x.ls.length)))=(pre++[x.c])++List.zipWith segV p vs:=by
     have ht:List.take x.ls.length (x.ls.map cU)=x.ls.map cU:=List.take_of_length_le (by simp)
     simp [segV,Seg.c,ht]
    rw [e]
    exact z6s p vs (pre++[x.c]) (s.del g) hpre' ho (sub_del hs hτg) h'
 | [],_::_,_,_,_,h,_,_=>h.elim
 | _::_,[],_,_,_,h,_,_=>h.elim
def OwnQ (τ:Store) (p:List Seg) (v:AV) (s:Store):Prop:=∃ vs,OwnsL τ p vs s∧Own 2 τ (List.zipWith segV p vs) v s
theorem OwnQ.nil {τ s:Store}:OwnQ τ [] .nils s:=⟨[],trivial,.inl ⟨rfl,rfl⟩⟩
theorem OwnQ.mono {τ s s':Store} {p:List Seg} {v:AV} (h:OwnQ τ p v s) (hs:Store.sub s s'):OwnQ τ p v s':=by
 obtain ⟨vs,h1,h2⟩:=h
 exact ⟨vs,h1.mono hs,h2.mono hs⟩
theorem OwnQ.app {bytes:Nat} {τ s0 s:Store} {p:List Seg} {x:Seg} {v xv wv:AV} {K:AV→Store→Prop} (hτ:Store.sub τ s0) (h0:Store.sub s0 s) (ho:OwnQ τ p v s0) (hx:(x.ls=[]∧xv = .nils)∨∃ j,xv = .os j 1 0 x.ls.length∧s0 j=none∧s j=some (.arr 1 (x.ls.map cU)))
 (hw:slc s 2 wv=some [segV x xv]) (hsz:(p.length+1)*bytes≤140737488355328) (h:∀ v' s',Store.sub τ s'→OwnQ τ (p++[x]) v' s'→(∀ j o,s j=some o→(∀ M,o ≠ .arr 2 M)→s' j=some o)→K v' s'):appwp 2 bytes v wv s K:=by
 obtain ⟨vs,h1,h2⟩:=ho
 have hl:=h1.len
 have hz:(List.zipWith segV p vs).length=p.length:=by simp [hl]
 have hsn:∀ t,Store.sub s0 t→(∀ j o,s0 j=none→s j=some o→t j=some o)→OwnsL τ (p++[x]) (vs++[xv]) t:=fun t ht hn=>by
  refine OwnsL.snoc ?_
  rcases hx with ⟨a,b⟩ | ⟨j,a,b,c⟩
  ·exact .inl ⟨a,b,h1.mono ht⟩
  ·refine .inr ⟨j,a,zo hτ b,hn _ _ b c,h1.mono fun k o hk => ?_⟩
   rw [Store.del_ne _ (fun e=>by subst e;rw [b] at hk;cases hk)]
   exact ht _ _ hk
 rcases h2 with ⟨hL,rfl⟩ | ⟨g,rfl,hgg,hh⟩
 ·refine Own.app (τ:=s) (L:=List.zipWith segV p vs) (Store.sub_refl _) (.inl ⟨hL,rfl⟩) hw (by rw [hz];exact hsz) fun v' s' hs ho' => ?_
  have hsub:=Store.sub_trans hτ h0
  refine h v' s' (Store.sub_trans hsub hs) ⟨vs++[xv],hsn s' (Store.sub_trans h0 hs) fun j o _ h=>hs _ _ h,?_⟩ ?_
  rw [List.zipWith_append (by omega)]
  exact ho'.weak hsub
  exact fun j o hj _=>hs _ _ hj
 ·have hs0d:Store.sub s0 s:=h0
  have hsd:Store.sub (s.del g) s:=zz _ _
  refine Own.app (τ:=s.del g) (L:=List.zipWith segV p vs) hsd (.inr ⟨g,rfl,by simp,h0 _ _ hh⟩) hw (by rw [hz];exact hsz) fun v' s' hs ho' => ?_
  have hτd:Store.sub τ (s.del g):=fun y o hy=>by
   rw [Store.del_ne _ (fun e=>by subst e;rw [hgg] at hy;cases hy)]
   exact h0 _ _ (hτ _ _ hy)
  have h1d:OwnsL τ p vs (s0.del g):=h1.del fun M e=>by rw [hh] at e;cases e
  refine h v' s' (Store.sub_trans hτd hs) ⟨vs++[xv],?_,?_⟩ fun j o hj hn=>hs _ _ (by rw [Store.del_ne _ (fun e=>by rw [e,h0 _ _ hh] at hj;cases hj;exact hn _ rfl)];exact hj)
  ·refine OwnsL.snoc ?_
   rcases hx with ⟨a,b⟩ | ⟨j,a,b,c⟩
   ·exact .inl ⟨a,b,h1d.mono (Store.sub_trans (z44 h0 g) hs)⟩
   ·have hjg:j≠g:=fun e=>by rw [e,hh] at b;cases b
    refine .inr ⟨j,a,zo hτ b,hs _ _ (by rw [Store.del_ne _ hjg];exact c),h1d.mono fun k o hk => ?_⟩
    have hkg:k≠g:=fun e=>by subst e;simp at hk
    rw [Store.del_ne _ hkg] at hk
    rw [Store.del_ne _ (fun e=>by subst e;rw [b] at hk;cases hk)]
    exact hs _ _ (by rw [Store.del_ne _ hkg];exact h0 _ _ hk)
  ·rw [List.zipWith_append (by omega)]
   exact ho'.weak hτd
theorem OwnQ.weak {τ s:Store} {p:List Seg} {v:AV} {Q:List AV→Store→Prop} (h:OwnQ τ p v s) (hs:Store.sub τ s) (hq:∀ s',Store.sub τ s'→WeakL [.sl 2 (p.map Seg.c)] s' Q):WeakL [v] s Q:=by
 obtain ⟨vs,h1,h2⟩:=h
 have hl:=h1.len
 rcases h2 with ⟨h0,rfl⟩ | ⟨g,rfl,hgg,hh⟩
 ·have:p=[]:=by
   have:=congrArg List.length h0
   simp [hl] at this
   exact this
  subst this
  exact WeakL.nil 0 2 rfl (hq s hs)
 ·refine WeakL.freeze 0 rfl hh (by omega) ?_
  simp only [List.set_cons_zero,List.drop_zero,List.take_length]
  have:=z6s (τ:=τ) (Q:=Q) p vs [] (s.del g) (by simp) (h1.del fun M e=>by rw [hh] at e;cases e) (sub_del hs hgg) (by simpa using hq)
  simpa using this
end Go.Am
namespace Go.Am
open Go.Proofs Go.Sort
theorem EndQ.impT {slots:List RS} {Q:AV→Store→Prop} {e:Env} {τ:Store} {vs:List AV} (h1:e.res τ slots=some (.tup vs)) (hi:WeakL vs τ (fun l s=>Q (.tup l) s)) : @EndQ e τ ⟨slots,Q⟩:=by
 unfold EndQ;exact ⟨_,h1,Weak.tup hi⟩
theorem up {cs ds:List AV} {σ:Store} {Q:AV→Store→Prop} (h:ImpL cs ds) (hq:Q (.agg ds) σ):Weak (.agg cs) σ Q:=Weak.agg (WeakL.imp h (WeakL.pure ⟨h.flat,hq⟩))
def ntC (n:Nt3):List AV:=[.int .i64 n.code,.int .i64 n.sub,.nils]
theorem z0d (n:Nt3) (h:n.data=[]):ImpL (ntC n) n.c:=by
 unfold Nt3.c;rw [h];exact .cons (.refl rfl) (.cons (.refl rfl) (.cons .nils .nil))
section
variable {σ T:Store} {B:List Int} {v:AV} {p:Nat}
theorem yx (hs:Store.sub σ T) (hp:σ p=none) (n:Nt3) (ns:List AV) (h3:ns=ntC n∧n.data=[]∨ns=n.c) (h:splitF B=noneS n) :
 @EndQ [(2,.int .i64 0),(3,.nils),(4,.int .i64 0),(5,.ptr p 0)] (T.set p (.box ns)) ⟨Tst.F50.slots,fun r s=>s=σ∧r=(splitF B).v⟩:=by
 have l3:ns.length=3:=by rcases h3 with ⟨rfl,_⟩ | rfl <;> rfl
 have t3:List.take 3 ns=ns:=List.take_of_length_le (by omega)
 have hr:Env.res [(2,.int .i64 0),(3,.nils),(4,.int .i64 0),(5,AV.ptr p 0)] (T.set p (.box ns)) Tst.F50.slots=some (.tup [.int .i64 0,.nils,.int .i64 0,.agg ns]):=by
  show Env.res [(2,.int .i64 0),(3,.nils),(4,.int .i64 0),(5,AV.ptr p 0)] _ [RS.t 2,RS.t 3,RS.t 4,RS.c 5 3 true]=_
  simp only [Store.set_same,l3,t3,Nat.le_refl,↓vcPre,↓z8,↓reduceIte,vcPost,vcStd,Nat.reduceEqDiff,reduceCtorEq,Nat.reduceAdd,Nat.reduceLeDiff,Int.reduceLT,Int.reduceLE,↓u_setN]
 rw [h]
 refine EndQ.impT hr (WeakL.nil 1 1 rfl (WeakL.forget (zb hs hp) ?_))
 have fin:σ=σ∧AV.tup [.int .i64 0,.sl 1 [],.int .i64 0,.agg n.c]=(noneS n).v:=⟨rfl,rfl⟩
 rcases h3 with ⟨rfl,hd⟩ | rfl
 ·exact WeakL.pos 3 rfl (up (z0d n hd) (WeakL.pure fin))
 ·exact WeakL.pure fin
set_option maxHeartbeats 1000000 in
theorem z80 {k:Int} {w:AV} {nn:Env→Store→Prop} {xx:Nat→Env→Store→Prop} (hr:Rd 1 σ (B.map cB) v) (hB:B.length≤1000000) (h19:19≤B.length) (hw:Rd 1 σ ([B.getD 16 0,B.getD 17 0].map cB) w) (hk:k=B.getD 18 0) (h16:B.take 16=ones16)
 (hs:Store.sub σ T) (hp:σ p=none) (Tp:T p=some (.box [.int .i64 0,.int .i64 0,.nils])) (E:List (Nat×AV)) (hsz:0≤sizeF B)
 (hn:19≤sizeF B→(splitF B=⟨B.getD 18 0,(B.take (sizeF B).toNat).drop 19,sizeF B,nt0⟩)→sizeF B≤(B.length:Int)→∀ E',nn ((0,v)::(5,.ptr p 0)::(7,.int .i64 (sizeF B))::(8,.int .i64 k)::E') T) :
 bwp Tryz.prog Ts34.t50_37 ((0,v)::(5,.ptr p 0)::(6,w)::(7,.int .i64 (sizeF B))::(8,.int .i64 k)::E) T nn (fun e τ => @EndQ e τ ⟨Tst.F50.slots,fun r s=>s=σ∧r=(splitF B).v⟩) xx:=by
 simp only [Ts34.t50_37]
 have lv:pv .len [v]=some (.int .i64 (B.length:Int)):=by rw [hr.2];simp
 have z3:∀ n:Nt3,splice 0 n.c [AV.int .i64 0,.int .i64 0,.nils]=some n.c:=fun _=>rfl
 have z3':splice 0 [AV.int .i64 0,.int .i64 0,.nils] [AV.int .i64 0,.int .i64 0,.nils]=some [AV.int .i64 0,.int .i64 0,.nils]:=rfl
 have wf:∀ (n:Int) (l:List Int),[AV.int .i64 1,.int .i64 n,.sl 1 (l.map cB)]=(⟨1,n,l⟩:Nt3).c:=fun _ _=>rfl
 have l3:∀ n:Nt3,n.c.length=3:=fun _=>rfl
 have f1:∀ X:Spl,splitF B=(if sizeF B<19∨4096<sizeF B then noneS ⟨1,2,[B.getD 16 0,B.getD 17 0]⟩ else if B.getD 18 0<1∨4<B.getD 18 0 then noneS ⟨1,3,[B.getD 18 0]⟩ else if fitsF (B.getD 18 0) (sizeF B)=false then noneS ⟨1,2,[B.getD 16 0,B.getD 17 0]⟩ else if (B.length:Int)<sizeF B then noneS nt0 else ⟨B.getD 18 0,(B.take (sizeF B).toNat).drop 19,sizeF B,nt0⟩):=fun _=>by
  unfold splitF;rw [if_neg (by omega),if_neg (fun h=>h h16)]
 have f1:=f1 ⟨0,[],0,nt0⟩
 rw [←hk] at f1 hn
 obtain ⟨w3,hp3,hr3'⟩:=hr.slice (lo:=18) (hi:=19) (by omega) (by simp;omega)
 have hd:(List.take 19 (B.map cB)).drop 18=[B.getD 18 0].map cB:=by
  rw [←List.map_take,←List.map_drop]
  congr 1
  rw [vn (by omega)]
  have e1:(B.take 19).length=19:=by simp;omega
  rw [List.drop_eq_getElem_cons (by omega),List.drop_of_length_le (by omega)]
  simp
 rw [hd] at hr3'
 have hr3:∀ U,Store.sub σ U→Rd 1 U ([B.getD 18 0].map cB) w3:=fun U hU=>hr3'.mono hU
 have hp3':pSlice 1 v 18 (some 19)=some w3:=hp3
 have hfs:∀ U,Store.sub σ U→Pur Tryz.prog 100 [.int .i64 k,.int .i64 (sizeF B)] (.bool (fitsF k (sizeF B))):=fun _ _=>zd4 k (sizeF B)
 simp only [↓vcPre,↓z8,↓reduceIte,vcPost,vcStd,Nat.reduceEqDiff,reduceCtorEq,Nat.reduceAdd,Nat.reduceLeDiff,Int.reduceLT,Int.reduceLE,↓u_setN]
 refine ⟨fun c1=>⟨fun c2 => ?_,fun c2=>⟨fun c3=>⟨fun c4 => ?_,fun c4 => ?_⟩,fun c3 => ?_⟩⟩,fun c1 => ?_⟩
 ·refine (s99 (hw.mono hs) (by simp) 2).Q ?_
  rintro r T ⟨rfl,rfl⟩
  simp only [Tp,wf,z3,l3,↓vcPre,↓z8,↓reduceIte,vcPost,vcStd,Nat.reduceEqDiff,reduceCtorEq,Nat.reduceAdd,Nat.reduceLeDiff,Int.reduceLT,Int.reduceLE,↓u_setN]
  exact yx hs hp _ _ (.inr rfl) (by rw [f1,if_pos (.inr c2)])
 ·simp only [hp3',↓vcPre,↓z8,↓reduceIte,vcPost,vcStd,Nat.reduceEqDiff,reduceCtorEq,Nat.reduceAdd,Nat.reduceLeDiff,Int.reduceLT,Int.reduceLE,↓u_setN]
  refine (s99 (hr3 T hs) (by simp) 3).Q ?_
  rintro r T ⟨rfl,rfl⟩
  simp only [Tp,wf,z3,l3,↓vcPre,↓z8,↓reduceIte,vcPost,vcStd,Nat.reduceEqDiff,reduceCtorEq,Nat.reduceAdd,Nat.reduceLeDiff,Int.reduceLT,Int.reduceLE,↓u_setN]
  exact yx hs hp _ _ (.inr rfl) (by rw [f1,if_neg (by omega),if_pos (.inr c4),hk])
 ·refine (zd4 k (sizeF B)).Q ?_
  cases hf:fitsF k (sizeF B)
  ·simp only [↓vcPre,↓z8,↓reduceIte,vcPost,vcStd,Nat.reduceEqDiff,reduceCtorEq,Nat.reduceAdd,Nat.reduceLeDiff,Int.reduceLT,Int.reduceLE,↓u_setN]
   refine (s99 (hw.mono hs) (by simp) 2).Q ?_
   rintro r T ⟨rfl,rfl⟩
   simp only [Tp,wf,z3,l3,↓vcPre,↓z8,↓reduceIte,vcPost,vcStd,Nat.reduceEqDiff,reduceCtorEq,Nat.reduceAdd,Nat.reduceLeDiff,Int.reduceLT,Int.reduceLE,↓u_setN]
   exact yx hs hp _ _ (.inr rfl) (by rw [f1,if_neg (by omega),if_neg (by omega),if_pos hf])
  ·simp only [lv,↓vcPre,↓z8,↓reduceIte,vcPost,vcStd,Nat.reduceEqDiff,reduceCtorEq,Nat.reduceAdd,Nat.reduceLeDiff,Int.reduceLT,Int.reduceLE,↓u_setN]
   refine ⟨fun c5 => ?_,fun c5 => ?_⟩
   ·simp only [Tp,z3',↓vcPre,↓z8,↓reduceIte,vcPost,vcStd,Nat.reduceEqDiff,reduceCtorEq,Nat.reduceAdd,Nat.reduceLeDiff,Int.reduceLT,Int.reduceLE,↓u_setN]
    exact yx hs hp nt0 _ (.inl ⟨rfl,rfl⟩) (by rw [f1,if_neg (by omega),if_neg (by omega),if_neg (by rw [hf];simp),if_pos c5])
   ·exact hn (by omega) (by rw [f1,if_neg (by omega),if_neg (by omega),if_neg (by rw [hf];simp),if_neg c5]) (by omega) _
 ·simp only [hp3',↓vcPre,↓z8,↓reduceIte,vcPost,vcStd,Nat.reduceEqDiff,reduceCtorEq,Nat.reduceAdd,Nat.reduceLeDiff,Int.reduceLT,Int.reduceLE,↓u_setN]
  refine (s99 (hr3 T hs) (by simp) 3).Q ?_
  rintro r T ⟨rfl,rfl⟩
  simp only [Tp,wf,z3,l3,↓vcPre,↓z8,↓reduceIte,vcPost,vcStd,Nat.reduceEqDiff,reduceCtorEq,Nat.reduceAdd,Nat.reduceLeDiff,Int.reduceLT,Int.reduceLE,↓u_setN]
  exact yx hs hp _ _ (.inr rfl) (by rw [f1,if_neg (by omega),if_pos (.inl c3),hk])
 ·refine (s99 (hw.mono hs) (by simp) 2).Q ?_
  rintro r T ⟨rfl,rfl⟩
  simp only [Tp,wf,z3,l3,↓vcPre,↓z8,↓reduceIte,vcPost,vcStd,Nat.reduceEqDiff,reduceCtorEq,Nat.reduceAdd,Nat.reduceLeDiff,Int.reduceLT,Int.reduceLE,↓u_setN]
  exact yx hs hp _ _ (.inr rfl) (by rw [f1,if_pos (.inl c1)])
end
theorem z2m:U8s ones16:=fun x hx=>by rw [List.eq_of_mem_replicate hx];omega
set_option maxHeartbeats 1000000 in
theorem s50 {σ:Store} {B:List Int} {v:AV} (hr:Rd 1 σ (B.map cB) v) (hB:B.length≤1000000) (hu:U8s B):ACalls Tryz.prog 50 [v] σ (fun r s=>s=σ∧r=(splitF B).v):=by
 refine ze Ts34.F50 (by simp [Ts34.F50,Fn.mkX]) ?_
 simp only [Ts34.F50,Fn.mkX,Ts34.b50]
 have lv:pv .len [v]=some (.int .i64 (B.length:Int)):=by rw [hr.2];simp
 have z3':splice 0 [AV.int .i64 0,.int .i64 0,.nils] [AV.int .i64 0,.int .i64 0,.nils]=some [AV.int .i64 0,.int .i64 0,.nils]:=rfl
 simp only [↓vcPre,↓z8,↓reduceIte,vcPost,vcStd,Nat.reduceEqDiff,reduceCtorEq,Nat.reduceAdd,Nat.reduceLeDiff,Int.reduceLT,Int.reduceLE,↓u_setN]
 refine AllocQ.i0 fun p hp => ?_
 have sT:=Store.sub_set σ p (.box [AV.int .i64 0,.int .i64 0,.nils]) hp
 have Tp:=Store.set_same σ p (.box [AV.int .i64 0,.int .i64 0,.nils])
 generalize σ.set p (.box [AV.int .i64 0,.int .i64 0,.nils])=T at sT Tp ⊢
 have fin0:=fun (h:splitF B=noneS nt0)=>yx (B:=B) sT hp nt0 (ntC nt0) (.inl ⟨rfl,rfl⟩) h
 simp only [lv,↓vcPre,↓z8,↓reduceIte,vcPost,vcStd,Nat.reduceEqDiff,reduceCtorEq,Nat.reduceAdd,Nat.reduceLeDiff,Int.reduceLT,Int.reduceLE,↓u_setN]
 refine ⟨fun c1 => ?_,fun c1 => ?_⟩
 ·simp only [Tp,z3',↓vcPre,↓z8,↓reduceIte,vcPost,vcStd,Nat.reduceEqDiff,reduceCtorEq,Nat.reduceAdd,Nat.reduceLeDiff,Int.reduceLT,Int.reduceLE,↓u_setN]
  exact fin0 (by unfold splitF;rw [if_pos (by omega)])
 ·have h19:19≤B.length:=by omega
  obtain ⟨w,hw1,hw2⟩:=hr.slice (lo:=16) (hi:=18) (by omega) (by simp;omega)
  have hd:(List.take 18 (B.map cB)).drop 16=[B.getD 16 0,B.getD 17 0].map cB:=by
   rw [←List.map_take,←List.map_drop]
   congr 1
   rw [vn (show 16<B.length by omega),vn (show 17<B.length by omega)]
   have e1:(B.take 18).length=18:=by simp;omega
   rw [List.drop_eq_getElem_cons (by omega),List.drop_eq_getElem_cons (by omega),List.drop_of_length_le (by omega)]
   simp
  rw [hd] at hw2
  have hw1':pSlice 1 v 16 (some 18)=some w:=hw1
  obtain ⟨q0,a0,b0⟩:=Rd.byte hw2 (k:=0) (by simp)
  obtain ⟨q1,a1,b1⟩:=Rd.byte hw2 (k:=1) (by simp)
  obtain ⟨q2,a2,b2⟩:=Rd.byte hr (k:=18) (by omega)
  have a0':pv (.idx 1) [w,.int .i64 0]=some q0:=a0
  have a1':pv (.idx 1) [w,.int .i64 1]=some q1:=a1
  have a2':pv (.idx 1) [v,.int .i64 18]=some q2:=a2
  have b0':rd T 1 q0=some [.int .u8 (B.getD 16 0)]:=b0 T sT
  have b1':rd T 1 q1=some [.int .u8 (B.getD 17 0)]:=b1 T sT
  have b2':=b2 T sT
  have hx:∀ k,k<B.length→0≤B.getD k 0∧B.getD k 0<256:=fun k hk=>by rw [vn hk];exact hu _ (List.getElem_mem hk)
  have x16:=hx 16 (by omega)
  have x17:=hx 17 (by omega)
  have x18:=hx 18 (by omega)
  have ws:∀ x:Int,0≤x∧x<256→IntKind.i64.wrap x=x:=fun x h=>zd (by unfold I64;omega)
  have hor:bitInt .or .i64 (shlInt .i64 (B.getD 16 0) 8) (B.getD 17 0)=sizeF B:=zia x16.1 x16.2 x17.1 x17.2
  obtain ⟨w6,h61,h62⟩:=hr.slice (lo:=0) (hi:=16) (by omega) (by simp;omega)
  rw [List.drop_zero,←List.map_take] at h62
  have h61':pSlice 1 v 0 (some 16)=some w6:=h61
  have hsz:0≤sizeF B:=by unfold sizeF;omega
  simp only [hw1',a0',a1',a2',b0',b1',b2',ws _ x16,ws _ x17,ws _ x18,hor,↓vcPre,↓z8,↓reduceIte,vcPost,vcStd,Nat.reduceEqDiff,reduceCtorEq,Nat.reduceAdd,Nat.reduceLeDiff,Int.reduceLT,Int.reduceLE,↓u_setN]
  rw [h61',y7]
  refine (c98).Q ?_
  simp only [↓vcPre,↓z8,↓reduceIte,vcPost,vcStd,Nat.reduceEqDiff,reduceCtorEq,Nat.reduceAdd,Nat.reduceLeDiff,Int.reduceLT,Int.reduceLE,↓u_setN]
  refine (s97 (h62.mono sT) Rd.sl (hu.take _) z2m).Q ?_
  rintro r T ⟨rfl,rfl⟩
  by_cases hq:B.take 16=ones16
  ·rw [decide_eq_true hq]
   simp only [↓vcPre,↓z8,↓reduceIte,vcPost,vcStd,Nat.reduceEqDiff,reduceCtorEq,Nat.reduceAdd,Nat.reduceLeDiff,Int.reduceLT,Int.reduceLE,↓u_setN]
   refine z80 hr hB h19 hw2 rfl hq sT hp Tp _ hsz fun g1 g2 g3 E' => ?_
   obtain ⟨z,hz1,hz2⟩:=hr.slice (lo:=19) (hi:=(sizeF B).toNat) (by omega) (by simp;omega)
   have ez:(((sizeF B).toNat:Nat):Int)=sizeF B:=by omega
   rw [ez] at hz1
   have hz1':pSlice 1 v 19 (some (sizeF B))=some z:=hz1
   simp only [hz1',↓vcPre,↓z8,↓reduceIte,vcPost,vcStd,Nat.reduceEqDiff,reduceCtorEq,Nat.reduceAdd,Nat.reduceLeDiff,Int.reduceLT,Int.reduceLE,↓u_setN]
   rw [←List.map_take,←List.map_drop] at hz2
   refine (z21 (hz2.mono sT) (by simp;omega)).Q ?_
   rintro r T ⟨rfl,rfl⟩
   simp only [Tp,z3',↓vcPre,↓z8,↓reduceIte,vcPost,vcStd,Nat.reduceEqDiff,reduceCtorEq,Nat.reduceAdd,Nat.reduceLeDiff,Int.reduceLT,Int.reduceLE,↓u_setN]
   have hres:Env.res [(2,.int .i64 (B.getD 18 0)),(3,.sl 1 (((B.take (sizeF B).toNat).drop 19).map cB)),(4,.int .i64 (sizeF B)),(5,AV.ptr p 0)] (T.set p (.box (ntC nt0))) Tst.F50.slots=some (.tup [.int .i64 (B.getD 18 0),.sl 1 (((B.take (sizeF B).toNat).drop 19).map cB),.int .i64 (sizeF B),.agg (ntC nt0)]):=by
    show Env.res [(2,_),(3,_),(4,_),(5,AV.ptr p 0)] _ [RS.t 2,RS.t 3,RS.t 4,RS.c 5 3 true]=_
    have l3:(ntC nt0).length=3:=rfl
    have t3:List.take 3 (ntC nt0)=ntC nt0:=rfl
    simp only [Store.set_same,l3,t3,Nat.le_refl,↓vcPre,↓z8,↓reduceIte,vcPost,vcStd,Nat.reduceEqDiff,reduceCtorEq,Nat.reduceAdd,Nat.reduceLeDiff,Int.reduceLT,Int.reduceLE,↓u_setN]
   rw [g2]
   exact EndQ.impT hres (WeakL.forget (zb sT hp) (WeakL.pos 3 rfl (up (z0d nt0 rfl) (WeakL.pure ⟨rfl,rfl⟩))))
  ·rw [decide_eq_false hq]
   simp only [↓vcPre,↓z8,↓reduceIte,vcPost,vcStd,Nat.reduceEqDiff,reduceCtorEq,Nat.reduceAdd,Nat.reduceLeDiff,Int.reduceLT,Int.reduceLE,↓u_setN]
   refine (s99 (σ:=T) (B:=[]) Rd.nils (by simp) 1).Q ?_
   rintro r T ⟨rfl,rfl⟩
   have z3:splice 0 [AV.int .i64 1,.int .i64 1,.sl 1 (([]:List Int).map cB)] [AV.int .i64 0,.int .i64 0,.nils]=some (⟨1,1,[]⟩:Nt3).c:=rfl
   simp only [Tp,z3,↓vcPre,↓z8,↓reduceIte,vcPost,vcStd,Nat.reduceEqDiff,reduceCtorEq,Nat.reduceAdd,Nat.reduceLeDiff,Int.reduceLT,Int.reduceLE,↓u_setN]
   exact yx sT hp ⟨1,1,[]⟩ _ (.inr rfl) (by unfold splitF;rw [if_neg (by omega),if_pos hq])
end Go.Am
namespace Go.Am
open Go.Proofs Go.Sort
def OwnO (esz:Nat) (τ:Store) (L:List (List AV)) (v:AV) (s:Store):Prop :=
 (L=[]∧v = .nils)∨∃ g o es,v = .os g esz o L.length∧τ g=none∧s g=some (.arr esz es)∧slc s esz v=some L
theorem OwnO.of {esz:Nat} {τ s:Store} {L:List (List AV)} {v:AV} (h:Own esz τ L v s):OwnO esz τ L v s:=by
 rcases h with h | ⟨g,rfl,h2,h3⟩
 ·exact .inl h
 ·exact .inr ⟨g,0,L,rfl,h2,h3,zq h3 rfl⟩
theorem OwnO.rd {esz:Nat} {τ s:Store} {L:List (List AV)} {v:AV} (h:OwnO esz τ L v s):Rd esz s L v:=by
 rcases h with ⟨rfl,rfl⟩ | ⟨g,o,es,rfl,_,_,h⟩
 ·exact Rd.nils
 ·exact ⟨fun t ht=>z0g h ht,rfl⟩
theorem OwnO.mono {esz:Nat} {τ s s':Store} {L:List (List AV)} {v:AV} (h:OwnO esz τ L v s) (hs:Store.sub s s'):OwnO esz τ L v s':=by
 rcases h with h | ⟨g,o,es,h1,h2,h3,h4⟩
 ·exact .inl h
 ·exact .inr ⟨g,o,es,h1,h2,hs _ _ h3,z0g h4 hs⟩
theorem OwnO.cell {esz:Nat} {τ s:Store} {L:List (List AV)} {v:AV} (h:OwnO esz τ L v s):v.isTup=false∧v.cells=[v]:=by
 rcases h with ⟨_,rfl⟩ | ⟨g,o,es,rfl,_⟩ <;> exact ⟨rfl,rfl⟩
theorem OwnO.app {esz bytes:Nat} {τ s:Store} {L ys:List (List AV)} {v wv:AV} {K:AV→Store→Prop} (hsub:Store.sub τ s) (ho:OwnO esz τ L v s) (hw:slc s esz wv=some ys) (hsz:(L.length+ys.length)*bytes≤140737488355328)
 (h:∀ v' s',Store.sub τ s'→Own esz τ (L++ys) v' s'→(∀ j o,s j=some o→(∀ e o' n,v ≠ .os j e o' n)→s' j=some o∧(∀ e o' n,v' ≠ .os j e o' n))→K v' s'):appwp esz bytes v wv s K:=by
 rcases ho with ⟨rfl,rfl⟩ | ⟨g,o,es,rfl,hg,hs,hL⟩
 ·refine z1t hw (by simpa using hsz) (fun h0 => ?_) (fun _ j hj => ?_)
  ·exact h _ _ hsub (.inl ⟨by simpa using h0,rfl⟩) fun j o hj _=>⟨hj,fun e o' n=>by simp⟩
  ·refine h _ _ (zb hsub (zo hsub hj)) (.inr ⟨j,by simp,zo hsub hj,by simp⟩) fun i o hi _ => ?_
   have ne:¬ i=j:=fun e=>by subst e;rw [hj] at hi;cases hi
   exact ⟨by rw [Store.set_ne _ _ ne];exact hi,fun e o' n=>by simp;intro h;exact absurd h.symm ne⟩
 ·refine xd hL hw hsz fun j hj => ?_
  have hgj:Store.sub τ (s.del g):=sub_del hsub hg
  have hτj:τ j=none:=zo hsub hj
  have hd:(s.del g) j=none:=by
   by_cases e:j=g
   ·subst e;simp
   ·rw [Store.del_ne _ e];exact hj
  refine h _ _ (zb hgj hτj) (.inr ⟨j,by simp,hτj,by simp⟩) fun i o' hi hv => ?_
  have n1:¬ i=g:=fun e=>by subst e;exact hv _ _ _ rfl
  have n2:¬ i=j:=fun e=>by subst e;rw [hj] at hi;cases hi
  exact ⟨by rw [Store.set_ne _ _ n2,Store.del_ne _ n1];exact hi,fun e o' n=>by simp;intro h;exact absurd h.symm n2⟩
theorem zim {σ:Store} (n:Nat) (hn:n≤1000000):ACalls Tryz.prog 189 [.nils,.int .i64 (n:Int)] σ (fun r s=>Store.sub σ s∧OwnO 1 σ [] r s):=by
 refine ze Tst.F189 (by simp [Tst.F189,Fn.mkX]) ?_
 simp only [Tst.F189,Fn.mkX,Tst.b189]
 have w1:IntKind.i64.wrap ((n:Int) - IntKind.i64.wrap (0 - 0))=(n:Int):=by
  rw [show IntKind.i64.wrap (0 - 0)=0 from by decide,Int.sub_zero,zd (by unfold I64;omega)]
 have capn:pv PK.cap [AV.nils]=some (.int .i64 0):=rfl
 have sl0:pv (PK.slice 1 false true) [.nils,.int .i64 0]=some .nils:=rfl
 simp only [↓vcPre,↓z8,↓reduceIte,vcPost,vcStd,Nat.reduceEqDiff,reduceCtorEq,Nat.reduceAdd,Nat.reduceLeDiff,Int.reduceLT,Int.reduceLE,↓u_setN]
 refine ⟨fun c=>by omega,fun _ => ?_⟩
 simp only [capn,w1,sl0,↓vcPre,↓z8,↓reduceIte,vcPost,vcStd,Nat.reduceEqDiff,reduceCtorEq,Nat.reduceAdd,Nat.reduceLeDiff,Int.reduceLT,Int.reduceLE,↓u_setN]
 refine ⟨fun c => ?_,fun c => ?_⟩
 ·simp only [lwp,appzwp]
  refine ⟨by omega,by omega,fun h=>by omega,fun _ id hid => ?_⟩
  have hsl:pSlice 1 (.os id 1 0 (n:Int).toNat) 0 (some 0)=some (.os id 1 0 0):=by simp [pSlice]
  simp only [hsl,↓vcPre,↓z8,↓reduceIte,vcPost,vcStd,Nat.reduceEqDiff,reduceCtorEq,Nat.reduceAdd,Nat.reduceLeDiff,Int.reduceLT,Int.reduceLE,↓u_setN]
  refine ⟨by simp,?_⟩
  refine EndQ.to _ _ rfl (Store.sub_refl _) ?_
  refine ⟨Store.sub_set _ _ _ hid,.inr ⟨id,0,_,rfl,hid,Store.set_same _ _ _,?_⟩⟩
  simp [slc,Store.set_same]
 ·refine EndQ.to _ _ rfl (Store.sub_refl _) ?_
  exact ⟨Store.sub_refl _,.inl ⟨rfl,rfl⟩⟩
theorem EndQ.ownO {esz:Nat} {slots:List RS} {Q:AV→Store→Prop} {e:Env} {σ τ:Store} {L:List (List AV)} {v:AV} (h1:e.res τ slots=some v) (ho:OwnO esz σ L v τ) (hs:Store.sub σ τ) (h4:Q (.sl esz L) σ) : @EndQ e τ ⟨slots,Q⟩:=by
 rcases ho with ⟨rfl,rfl⟩ | ⟨g,o,es,rfl,hg,hh,hL⟩
 ·exact EndQ.nil1 esz σ h1 hs h4
 ·simp only [slc,hh] at hL
  split at hL
  ·rename_i hc
   have hL':=Option.some.inj hL
   exact EndQ.frz g esz o _ es σ h1 hh hc.2.2 (sub_del hs hg) (by rw [hL'];exact h4)
  ·cases hL
set_option maxHeartbeats 1000000 in
theorem zij {σ:Store} {L M:List Int} {v w:AV} {g:Nat} (hL:L.length≤100000) (hM:M.length≤100000) (hg:σ g=some (.arr 1 [[v],[w]])) (h1:Rd 1 σ (L.map cB) v) (h2:Rd 1 σ (M.map cB) w):ACalls Tryz.prog 159 [.os g 1 0 2] σ (fun r s=>s=σ∧r = .sl 1 ((L++M).map cB)):=by
 refine ze Tst.F159 (by simp [Tst.F159,Fn.mkX]) ?_
 simp only [Tst.F159,Fn.mkX,Tst.b159]
 have lv:pv .len [v]=some (.int .i64 (L.length:Int)):=by rw [h1.2];simp
 have lw:pv .len [w]=some (.int .i64 (M.length:Int)):=by rw [h2.2];simp
 have en:∀ x:Nat,x≤1000000→IntKind.i64.wrap (x:Int)=(x:Int):=fun x hx=>zd (by unfold I64;omega)
 simp only [↓vcPre,↓z8,↓reduceIte,vcPost,vcStd,Nat.reduceEqDiff,reduceCtorEq,Nat.reduceAdd,Nat.reduceLeDiff,Int.reduceLT,Int.reduceLE,↓u_setN]
 refine LoopQ.inv (S:=Nat) (fun k=>[(0,.os g 1 0 2),(3,.int .i64 ((if k=0 then 0 else if k=1 then L.length else L.length+M.length:Nat):Int)),(9,.os g 1 0 2),(10,.int .i64 2),(11,.int .i64 (k:Int))]) (fun _=>σ) (fun k=>k≤2) (fun k=>3 - k) 0 rfl (Store.sub_refl _) (by omega) ?_
 intro k hk
 have hk3:k=0∨k=1∨k=2:=by omega
 rcases hk3 with rfl | rfl | rfl
 ·simp only [hg,lv,↓vcPre,↓z8,↓reduceIte,vcPost,vcStd,Nat.reduceEqDiff,reduceCtorEq,Nat.reduceAdd,Nat.reduceLeDiff,Int.reduceLT,Int.reduceLE,↓u_setN]
  have e0:IntKind.i64.wrap (((0:Nat):Int)+(L.length:Int))=(L.length:Int):=by rw [zd (by unfold I64;omega)];omega
  rw [e0]
  refine ⟨fun _=>⟨by omega,fun c=>by omega,fun _ => ?_⟩,fun c=>absurd (by decide) c⟩
  exact NextQ.to 1 rfl (Store.sub_refl _) (by omega) (by omega)
 ·simp only [hg,lw,↓vcPre,↓z8,↓reduceIte,vcPost,vcStd,Nat.reduceEqDiff,reduceCtorEq,Nat.reduceAdd,Nat.reduceLeDiff,Int.reduceLT,Int.reduceLE,↓u_setN]
  have e0:IntKind.i64.wrap ((L.length:Int)+(M.length:Int))=((L.length+M.length:Nat):Int):=by rw [zd (by unfold I64;omega)];omega
  rw [e0]
  refine ⟨fun _=>⟨by omega,fun c=>by omega,fun _ => ?_⟩,fun c=>absurd (by decide) c⟩
  exact NextQ.to 2 rfl (Store.sub_refl _) (by omega) (by omega)
 ·simp only [↓vcPre,↓z8,↓reduceIte,vcPost,vcStd,Nat.reduceEqDiff,reduceCtorEq,Nat.reduceAdd,Nat.reduceLeDiff,Int.reduceLT,Int.reduceLE,↓u_setN]
  refine ⟨fun c=>absurd c (by decide),fun _ => ?_⟩
  refine (zim (L.length+M.length) (by omega)).Q ?_
  rintro r s ⟨hs,ho⟩
  simp only [↓vcPre,↓z8,↓reduceIte,vcPost,vcStd,Nat.reduceEqDiff,reduceCtorEq,Nat.reduceAdd,Nat.reduceLeDiff,Int.reduceLT,Int.reduceLE,↓u_setN]
  refine LoopQ.inv (S:=Nat×AV×Store) (fun q=>[(6,q.2.1),(25,.os g 1 0 2),(26,.int .i64 2),(27,.int .i64 (q.1:Int))]) (fun q=>q.2.2)
   (fun q=>q.1≤2∧Store.sub σ q.2.2∧OwnO 1 σ ((if q.1=0 then [] else if q.1=1 then L else L++M).map cB) q.2.1 q.2.2) (fun q=>3 - q.1) (0,r,s) rfl (Store.sub_refl _) ⟨by simp,hs,ho⟩ ?_
  rintro ⟨j,u,t⟩ ⟨hj,ht,hu⟩
  simp only at hj ht hu
  have tg:=ht _ _ hg
  have hj3:j=0∨j=1∨j=2:=by omega
  rcases hj3 with rfl | rfl | rfl
  ·simp only [tg,↓vcPre,↓z8,↓reduceIte,vcPost,vcStd,Nat.reduceEqDiff,reduceCtorEq,Nat.reduceAdd,Nat.reduceLeDiff,Int.reduceLT,Int.reduceLE,↓u_setN]
   refine ⟨fun _=>⟨by omega,?_⟩,fun c=>absurd (by decide) c⟩
   refine hu.app (τ:=σ) ht (h1.1 _ ht) (by simp;omega) fun v' t' q1 q2 _ => ?_
   exact NextQ.to (1,v',t') rfl (Store.sub_refl _) (by simp only;omega) ⟨by simp only;omega,q1,OwnO.of (by simpa using q2)⟩
  ·simp only [tg,↓vcPre,↓z8,↓reduceIte,vcPost,vcStd,Nat.reduceEqDiff,reduceCtorEq,Nat.reduceAdd,Nat.reduceLeDiff,Int.reduceLT,Int.reduceLE,↓u_setN]
   refine ⟨fun _=>⟨by omega,?_⟩,fun c=>absurd (by decide) c⟩
   refine hu.app (τ:=σ) ht (h2.1 _ ht) (by simp;omega) fun v' t' q1 q2 _ => ?_
   exact NextQ.to (2,v',t') rfl (Store.sub_refl _) (by simp only;omega) ⟨by simp only;omega,q1,OwnO.of (by simpa using q2)⟩
  ·simp only [↓vcPre,↓z8,↓reduceIte,vcPost,vcStd,Nat.reduceEqDiff,reduceCtorEq,Nat.reduceAdd,Nat.reduceLeDiff,Int.reduceLT,Int.reduceLE,↓u_setN]
   refine ⟨fun c=>absurd c (by decide),fun _ => ?_⟩
   exact EndQ.ownO rfl hu ht ⟨rfl,rfl⟩
def enoteF (n:Nt3):List Int:=[IntKind.u8.wrap n.code,IntKind.u8.wrap n.sub]++n.data
theorem zhm (n:Nt3) (h:n.data.length≤100000):Pur Tryz.prog 102 [.agg n.c] (.sl 1 ((enoteF n).map cB)):=by
 intro σ
 refine ze Tst.F102 (by simp [Tst.F102,Fn.mkX]) ?_
 simp only [Tst.F102,Fn.mkX,Tst.b102]
 have l3:n.c.length=3:=rfl
 have f0:List.take 1 n.c=[.int .i64 n.code]:=rfl
 have f1:List.take 1 (List.drop 1 n.c)=[.int .i64 n.sub]:=rfl
 have f2:List.take 1 (List.drop 2 n.c)=[.sl 1 (n.data.map cB)]:=rfl
 simp only [↓vcPre,↓z8,↓reduceIte,vcPost,vcStd,Nat.reduceEqDiff,reduceCtorEq,Nat.reduceAdd,Nat.reduceLeDiff,Int.reduceLT,Int.reduceLE,↓u_setN]
 refine AllocQ.i0 fun p hp => ?_
 simp only [l3,f0,f1,f2,↓vcPre,↓z8,↓reduceIte,vcPost,vcStd,Nat.reduceEqDiff,reduceCtorEq,Nat.reduceAdd,Nat.reduceLeDiff,Int.reduceLT,Int.reduceLE,↓u_setN]
 refine AllocQ.i0 fun q hq => ?_
 have hpq:¬ p=q:=fun e=>by subst e;rw [Store.set_same] at hq;cases hq
 have sU:Store.sub σ ((σ.set p (.box n.c)).set q (.arr 1 [[AV.int .u8 (IntKind.u8.wrap n.code)],[.int .u8 (IntKind.u8.wrap n.sub)]])):=Store.sub_trans (Store.sub_set _ _ _ hp) (Store.sub_set _ _ _ hq)
 have Up:((σ.set p (.box n.c)).set q (.arr 1 [[AV.int .u8 (IntKind.u8.wrap n.code)],[.int .u8 (IntKind.u8.wrap n.sub)]])) p=some (.box n.c):=(Store.set_ne _ _ hpq).trans (Store.set_same _ _ _)
 have Uq:=Store.set_same (σ.set p (.box n.c)) q (.arr 1 [[AV.int .u8 (IntKind.u8.wrap n.code)],[.int .u8 (IntKind.u8.wrap n.sub)]])
 simp only [l3,f2,↓vcPre,↓z8,↓reduceIte,vcPost,vcStd,Nat.reduceEqDiff,reduceCtorEq,Nat.reduceAdd,Nat.reduceLeDiff,Int.reduceLT,Int.reduceLE,↓u_setN]
 generalize ((σ.set p (.box n.c)).set q (.arr 1 [[AV.int .u8 (IntKind.u8.wrap n.code)],[.int .u8 (IntKind.u8.wrap n.sub)]]))=U at sU Up Uq ⊢
 simp only [Up,l3,f2,↓vcPre,↓z8,↓reduceIte,vcPost,vcStd,Nat.reduceEqDiff,reduceCtorEq,Nat.reduceAdd,Nat.reduceLeDiff,Int.reduceLT,Int.reduceLE,↓u_setN]
 refine AllocQ.i0 fun g hg => ?_
 simp only [↓vcPre,↓z8,↓reduceIte,vcPost,vcStd,Nat.reduceEqDiff,reduceCtorEq,Nat.reduceAdd,Nat.reduceLeDiff,Int.reduceLT,Int.reduceLE,↓u_setN]
 have sV:=Store.sub_trans sU (Store.sub_set U g (.arr 1 [[.os q 1 0 2],[.sl 1 (n.data.map cB)]]) hg)
 have Vq:=Store.sub_set U g (.arr 1 [[.os q 1 0 2],[.sl 1 (n.data.map cB)]]) hg _ _ Uq
 have Vq':_=some (Obj.arr 1 ([IntKind.u8.wrap n.code,IntKind.u8.wrap n.sub].map cB)):=Vq
 refine (zij (L:=[IntKind.u8.wrap n.code,IntKind.u8.wrap n.sub]) (M:=n.data) (by simp) h (Store.set_same _ _ _) (Rd.os Vq') Rd.sl).Q ?_
 rintro r V ⟨rfl,rfl⟩
 simp only [↓vcPre,↓z8,↓reduceIte,vcPost,vcStd,Nat.reduceEqDiff,reduceCtorEq,Nat.reduceAdd,Nat.reduceLeDiff,Int.reduceLT,Int.reduceLE,↓u_setN]
 exact EndQ.to σ _ rfl sV ⟨rfl,rfl⟩
end Go.Am
namespace Go.Am
open Go.Proofs Go.Sort
theorem zd9 (k:Int) (v:AV) (n:Nat) (hv:pv .len [v]=some (.int .i64 (n:Int))):Pur Tryz.prog 170 [.agg [.int .i64 k,v]] (.bool (decide ((k=1∨k=2)∧1≤n∧n≤255))):=by
 refine zw Tst.F170 (by simp [Tst.F170,Fn.mkX]) fun σ => ?_
 simp only [Tst.F170,Fn.mkX,Tst.b170]
 simp only [↓vcPre,↓z8,↓reduceIte,vcPost,vcStd,Nat.reduceEqDiff,reduceCtorEq,Nat.reduceAdd,Nat.reduceLeDiff,Int.reduceLT,Int.reduceLE,↓u_setN]
 refine AllocQ.i0 fun i hi => ?_
 simp only [hv,↓vcPre,↓z8,↓reduceIte,vcPost,vcStd,Nat.reduceEqDiff,reduceCtorEq,Nat.reduceAdd,Nat.reduceLeDiff,Int.reduceLT,Int.reduceLE,↓u_setN]
 have hsb:=Store.sub_set σ i (.box [.int .i64 k,v]) hi
 (repeat' first
   | (refine ⟨fun _ => ?_,fun _ => ?_⟩)
   | (refine ⟨?_,hsb⟩)
   | (refine decide_eq_decide.2 ?_;omega)
   | (symm;rw [decide_eq_false_iff_not];omega)
   | (symm;rw [decide_eq_true_iff];omega))
theorem z2b {p:List Seg} {vs:List AV} {k:Nat} (h:k<(List.zipWith segV p vs).length):(List.zipWith segV p vs)[k]=[.int .i64 (p[k]'(by simp at h;omega)).kind,vs[k]'(by simp at h;omega)]:=by
 simp [segV]
theorem z41 (x:Seg):segRight x↔((x.kind=1∨x.kind=2)∧1≤x.ls.length∧x.ls.length≤255):=Iff.rfl
theorem z7l {τ σ:Store} {p:List Seg} {v:AV} (h:OwnQ τ p v σ) (hp:p.length≤1000000):ACalls Tryz.prog 129 [v] σ (fun r s=>s=σ∧r = .bool (decide (pathRight p))):=by
 refine ze Tst.F129 (by simp [Tst.F129,Fn.mkX]) ?_
 simp only [Tst.F129,Fn.mkX,Tst.b129]
 obtain ⟨vs,h1,h2⟩:=h
 have hl:=h1.len
 have hz:(List.zipWith segV p vs).length=p.length:=by simp [hl]
 have hlens:=h1.lens
 rcases h2 with ⟨h0,rfl⟩ | ⟨g,rfl,hgg,hh⟩
 ·have hp0:p=[]:=by rw [h0] at hz;exact List.length_eq_zero_iff.1 hz.symm
  subst hp0
  simp only [↓vcPre,↓z8,↓reduceIte,vcPost,vcStd,Nat.reduceEqDiff,reduceCtorEq,Nat.reduceAdd,Nat.reduceLeDiff,Int.reduceLT,Int.reduceLE,↓u_setN]
  refine LoopQ.inv (S:=Unit) (fun _=>[(0,.nils),(5,.nils),(6,.int .i64 0),(7,.int .i64 0)]) (fun _=>σ) (fun _=>True) (fun _=>0) () rfl (Store.sub_refl _) trivial ?_
  intro _ _
  simp only [↓vcPre,↓z8,↓reduceIte,vcPost,vcStd,Nat.reduceEqDiff,reduceCtorEq,Nat.reduceAdd,Nat.reduceLeDiff,Int.reduceLT,Int.reduceLE,↓u_setN]
  exact EndQ.to _ _ rfl (Store.sub_refl _) ⟨rfl,by rw [decide_eq_true (show pathRight [] from ⟨by simp,by simp⟩)]⟩
 ·rw [hz]
  simp only [↓vcPre,↓z8,↓reduceIte,vcPost,vcStd,Nat.reduceEqDiff,reduceCtorEq,Nat.reduceAdd,Nat.reduceLeDiff,Int.reduceLT,Int.reduceLE,↓u_setN]
  refine LoopQ.inv (S:=Nat) (fun k=>[(0,.os g 2 0 p.length),(5,.os g 2 0 p.length),(6,.int .i64 (p.length:Int)),(7,.int .i64 (k:Int))]) (fun _=>σ) (fun k=>k≤p.length∧∀ s ∈ p.take k,segRight s) (fun k=>p.length+1 - k) 0 rfl (Store.sub_refl _) ⟨by omega,by simp⟩ ?_
  rintro k ⟨hk,hr⟩
  simp only [↓vcPre,↓z8,↓reduceIte,vcPost,vcStd,Nat.reduceEqDiff,reduceCtorEq,Nat.reduceAdd,Nat.reduceLeDiff,Int.reduceLT,Int.reduceLE,↓u_setN]
  refine ⟨fun c1 => ?_,fun c1 => ?_⟩
  ·have ek:IntKind.i64.wrap ((k:Int)+1)=((k+1:Nat):Int):=by rw [zd (by unfold I64;omega)];omega
   have hkz:k<(List.zipWith segV p vs).length:=by omega
   have hkv:k<vs.length:=by omega
   have hget:(List.zipWith segV p vs)[k]? = some [.int .i64 p[k].kind,vs[k]]:=by rw [List.getElem?_eq_getElem hkz,z2b hkz]
   simp only [hh,Nat.zero_add,↓vcPre,↓z8,↓reduceIte,vcPost,vcStd,Nat.reduceEqDiff,reduceCtorEq,Nat.reduceAdd,Nat.reduceLeDiff,Int.reduceLT,Int.reduceLE,↓u_setN]
   refine ⟨c1,hkz,by rw [z2b hkz];exact Nat.le_refl _,?_⟩
   refine AllocQ.i0 fun i hi => ?_
   have hvt:vs[k].isTup=false∧vs[k].cells=[vs[k]]:=by
    rcases (h1.flat _ (List.getElem_mem hkv)).2 with h | ⟨a,b,h⟩ <;> rw [h] <;> exact ⟨rfl,rfl⟩
   simp only [Nat.zero_add,z2b hkz,Store.set_set,↓vcPre,↓z8,↓reduceIte,vcPost,vcStd,Nat.reduceEqDiff,reduceCtorEq,Nat.reduceAdd,Nat.reduceLeDiff,Int.reduceLT,Int.reduceLE,↓u_setN]
   refine (zd9 p[k].kind vs[k] p[k].ls.length (hlens k c1 hkv)).Q ?_
   have hsb:=Store.sub_set σ i (.box [.int .i64 p[k].kind,vs[k]]) hi
   by_cases g3:segRight p[k]
   ·rw [decide_eq_true ((z41 _).1 g3)]
    simp only [↓vcPre,↓z8,↓reduceIte,vcPost,vcStd,Nat.reduceEqDiff,reduceCtorEq,Nat.reduceAdd,Nat.reduceLeDiff,Int.reduceLT,Int.reduceLE,↓u_setN]
    rw [ek]
    refine NextQ.to (k+1) rfl hsb (by omega) ⟨by omega,fun s hs => ?_⟩
    rw [List.take_add_one,List.getElem?_eq_getElem c1] at hs
    rcases List.mem_append.1 hs with h | h
    ·exact hr s h
    ·simp at h;subst h;exact g3
   ·rw [decide_eq_false (fun h=>g3 ((z41 _).2 h))]
    simp only [↓vcPre,↓z8,↓reduceIte,vcPost,vcStd,Nat.reduceEqDiff,reduceCtorEq,Nat.reduceAdd,Nat.reduceLeDiff,Int.reduceLT,Int.reduceLE,↓u_setN]
    refine EndQ.to _ _ rfl hsb ⟨rfl,?_⟩
    rw [decide_eq_false (fun h:pathRight p=>g3 (h.1 _ (List.getElem_mem c1)))]
  ·have e:p.take k=p:=List.take_of_length_le (by omega)
   rw [e] at hr
   refine EndQ.to _ _ rfl (Store.sub_refl _) ⟨rfl,?_⟩
   refine congrArg AV.bool (decide_eq_decide.2 ⟨fun h=>⟨hr,by omega⟩,fun h => ?_⟩)
   have:=h.2;omega
end Go.Am
namespace Go.Am.Tsk
open Go.Proofs Go.Am.B
def t165_37:BC := .ops [m 37 5,⟨some 38,none,.load (.ld 2 true),[.t 6]⟩,⟨some 39,none,.alloc (.mksl 2 1),[.t 38]⟩,⟨some 40,none,.loud (.app 2 32),[.t 37,.t 39]⟩,m 5 40] [4,5]
def b165:BC:=z [k 2 .nils,k 3 (.bool false)] [0] (z [m 8 0,p 9 (.build [.nils,(.int .i64 0),(.bool false)] [(0,1)]) [.t 8],⟨some 10,none,.alloc (.box),[.t 9]⟩,m 4 10] [4] (z [k 5 .nils] [4,5] (.seq (.block 0 (.loop [4,5] (.seq (z [m 11 4,g 12 113 [.t 11],c 13 .gtr 12 0] [4,5,13] (.cond (.t 13) .skip (.exit 0))) (.block 1 (z [m 14 4,g 15 114 [.t 14],p 16 (.build [(.int .i64 0),.nils] [(0,1)]) [.t 15],⟨some 6,none,.alloc (.alloc [(.int .i64 0),.nils]),[]⟩,s 2 6 16] [4,5,6] (.seq (z [m 17 4,g 18 114 [.t 17],m 7 18] [4,5,6,7] (.block 2 (.loop [4,5,6,7] (.seq (z [m 19 7,c 20 .gtr 19 0,m 21 20,⟨some 22,some (21,true),.pure (.mov),[.t 4]⟩,⟨some 23,some (21,true),.pure (.nilchk),[.t 22]⟩,⟨some 24,some (21,true),.pure (.fld 2),[.t 23]⟩,⟨some 25,some (21,true),.load (.ld 1 false),[.t 24]⟩,⟨some 26,some (21,true),.pure (.not),[.t 25]⟩,⟨some 27,none,.pick,[.t 21,.t 26,.c (.bool false)]⟩] [4,5,6,7,27] (.cond (.t 27) .skip (.exit 2))) (.seq (.block 3 (z [f 30 1 6] [4,5,6,7,30] (z [m 32 4] [4,5,6,7,30,32] (.both (z [l 31 1 30] [4,5,6,7,31,32] (z [g 33 115 [.t 32]] [4,5,6,7,31,33] (z [⟨some 34,none,.alloc (.mksl 1 1),[.t 33]⟩] [4,5,6,7,31,34] (z [⟨some 35,none,.loud (.app 1 4),[.t 31,.t 34]⟩] [4,5,6,7,35] (z [f 36 1 6] [4,5,6,7,35,36] (z [s 1 36 35] [4,5,6,7] (.ops [] [4,5,6,7]))))))) (.both (z [g 33 115 [.t 32]] [4,5,6,7,30,33] (z [l 31 1 30] [4,5,6,7,31,33] (z [⟨some 34,none,.alloc (.mksl 1 1),[.t 33]⟩] [4,5,6,7,31,34] (z [⟨some 35,none,.loud (.app 1 4),[.t 31,.t 34]⟩] [4,5,6,7,35] (z [f 36 1 6] [4,5,6,7,35,36] (z [s 1 36 35] [4,5,6,7] (.ops [] [4,5,6,7]))))))) (.top)))))) (.ops [m 28 7,c 29 .sub 28 1,m 7 29] [4,5,6,7])))))) t165_37)))))) (.seq (z [m 41 4,u 42 .nilchk 41,f 43 2 42,l 44 1 43,m 45 44,⟨some 46,some (45,false),.pure (.mov),[.t 5]⟩,⟨some 47,some (45,false),.loud (.call 145),[.t 46]⟩,⟨some 48,some (45,false),.pure (.not),[.t 47]⟩,⟨some 49,none,.pick,[.t 45,.c (.bool true),.t 48]⟩] [5,49] (.cond (.t 49) (z [k 2 .nils,k 3 (.bool false)] [2,3] .ret) .skip)) (z [m 50 5,m 2 50,k 3 (.bool true)] [2,3] .ret)))))
def F165:Fn Tryz.prog 165:=Fn.mkX true b165 [.t 2,.t 3] 51 Tryz.f165 _ Tryz.func165 (by decide) rfl Tryz.ntmps165 (by kernel_rfl) (by kernel_rfl)
def t238_34:BC := .ops [m 34 5,⟨some 35,none,.load (.ld 2 true),[.t 6]⟩,⟨some 36,none,.alloc (.mksl 2 1),[.t 35]⟩,⟨some 37,none,.loud (.app 2 32),[.t 34,.t 36]⟩,m 5 37] [4,5]
def b238:BC:=z [k 2 .nils,k 3 (.bool false)] [0] (z [m 8 0,g 9 190 [.t 8],m 4 9] [4] (z [k 5 .nils] [4,5] (.seq (.block 0 (.loop [4,5] (.seq (z [m 10 4,g 11 195 [.t 10],c 12 .gtr 11 0] [4,5,12] (.cond (.t 12) .skip (.exit 0))) (.block 1 (z [m 13 4,g 14 191 [.t 13],p 15 (.build [(.int .i64 0),.nils] [(0,1)]) [.t 14],⟨some 6,none,.alloc (.alloc [(.int .i64 0),.nils]),[]⟩,s 2 6 15] [4,5,6] (z [m 16 4,g 17 191 [.t 16],m 7 17] [4,5,6,7] (.seq (z [m 18 7,c 19 .mul 18 4,m 20 4,g 21 195 [.t 20],b 22 .gtr 19 21] [4,5,6,7,22] (.cond (.t 22) (z [k 2 .nils,k 3 (.bool false)] [2,3] .ret) .skip)) (.seq (z [m 23 7,j 24 0] [4,5,6,23,24] (.block 2 (.loop [4,5,6,23,24] (z [b 25 .lss 24 23] [4,5,6,23,24,25] (.seq (.cond (.t 25) .skip (.exit 2)) (.seq (.block 3 (z [f 26 1 6] [4,5,6,23,24,26] (z [m 28 4] [4,5,6,23,24,26,28] (.both (z [l 27 1 26] [4,5,6,23,24,27,28] (z [g 29 193 [.t 28]] [4,5,6,23,24,27,29] (z [⟨some 30,none,.alloc (.mksl 1 1),[.t 29]⟩] [4,5,6,23,24,27,30] (z [⟨some 31,none,.loud (.app 1 4),[.t 27,.t 30]⟩] [4,5,6,23,24,31] (z [f 32 1 6] [4,5,6,23,24,31,32] (z [s 1 32 31] [4,5,6,23,24] (.ops [] [4,5,6,23,24]))))))) (.both (z [g 29 193 [.t 28]] [4,5,6,23,24,26,29] (z [l 27 1 26] [4,5,6,23,24,27,29] (z [⟨some 30,none,.alloc (.mksl 1 1),[.t 29]⟩] [4,5,6,23,24,27,30] (z [⟨some 31,none,.loud (.app 1 4),[.t 27,.t 30]⟩] [4,5,6,23,24,31] (z [f 32 1 6] [4,5,6,23,24,31,32] (z [s 1 32 31] [4,5,6,23,24] (.ops [] [4,5,6,23,24]))))))) (.top)))))) (.ops [c 33 .add 24 1,m 24 33] [4,5,6,23,24]))))))) t238_34)))))))) (.seq (z [m 38 4,g 39 197 [.t 38],u 40 .not 39,m 41 40,⟨some 42,some (41,false),.pure (.mov),[.t 5]⟩,⟨some 43,some (41,false),.loud (.call 129),[.t 42]⟩,⟨some 44,some (41,false),.pure (.not),[.t 43]⟩,⟨some 45,none,.pick,[.t 41,.c (.bool true),.t 44]⟩] [5,45] (.cond (.t 45) (z [k 2 .nils,k 3 (.bool false)] [2,3] .ret) .skip)) (z [m 46 5,m 2 46,k 3 (.bool true)] [2,3] .ret)))))
def F238:Fn Tryz.prog 238:=Fn.mkX true b238 [.t 2,.t 3] 47 Tryz.f238 _ Tryz.func238 (by decide) rfl Tryz.ntmps238 (by kernel_rfl) (by kernel_rfl)
end Go.Am.Tsk
namespace Go.Am
open Go.Proofs Go.Sort
theorem z64 {R:List Int} (h:4≤R.length):∃ x,numM 4 R false=(x,R.drop 4,false)∧words 1 R=[x]∧∀ n,words (n+1) R=x::words n (R.drop 4):=by
 match R,h with
 | a::b::c::d::r,_ =>
   refine ⟨n4 a b c d,?_,rfl,fun n=>rfl⟩
   have e:rawM ((4:Nat):Int) (a::b::c::d::r) false=([a,b,c,d],r,false):=by
    unfold rawM
    rw [if_neg (by simp;omega),if_neg (by omega)];rfl
   unfold numM
   rw [e]
   simp [num,n4]
theorem zdk {R:List Int} (h:¬ 4≤R.length):numM 4 R false=(0,R,true):=by
 have:(R.length:Int)<4:=by omega
 simp [numM,rawM,num,this]
theorem vi:∀ (n:Nat) (l:List Int),4*n+4≤l.length→words (n+1) l=words n l++words 1 (l.drop (4*n))
 | 0,l,h=>by
   obtain ⟨x,_,h2,_⟩:=z64 (R:=l) (by omega)
   simp only [words,Nat.mul_zero,List.drop_zero]
   cases l <;> simp [words]
 | n+1,a::b::c::d::r,h=>by
   have:=vi n r (by simp at h;omega)
   have e:(a::b::c::d::r).drop (4*(n+1))=r.drop (4*n):=by
    rw [show 4*(n+1)=4*n+4 by omega];simp
   rw [e]
   show n4 a b c d::words (n+1) r=n4 a b c d::words n r++_
   rw [this];rfl
 | n+1,[],h=>by simp at h
 | n+1,[_],h=>by simp at h
 | n+1,[_,_],h=>by simp at h
 | n+1,[_,_,_],h=>by simp at h
theorem RP.base {τ s:Store} {id:Nat} {R:List Int} {bad:Bool} (h:RP τ id R bad s):RP (s.del id) id R bad s∧Store.sub τ (s.del id):=⟨⟨by simp,zz _ _,h.2.2⟩,sub_del h.2.1 h.1⟩
theorem RP.weak {τ τ' s:Store} {id:Nat} {R:List Int} {bad:Bool} (h:RP τ' id R bad s) (hs:Store.sub τ τ'):RP τ id R bad s:=⟨zo hs h.1,Store.sub_trans hs h.2.1,h.2.2⟩
theorem Own.delBox {esz id:Nat} {τ s:Store} {L:List (List AV)} {v:AV} {c:List AV} (h:Own esz τ L v s) (hid:s id=some (.box c)):Own esz τ L v (s.del id):=by
 rcases h with h | ⟨g,h1,h2,h3⟩
 ·exact .inl h
 ·exact .inr ⟨g,h1,h2,by rw [Store.del_ne _ (fun e=>by rw [e,hid] at h3;cases h3)];exact h3⟩
theorem Own.appK {esz bytes:Nat} {τ s:Store} {L ys:List (List AV)} {v wv:AV} {K:AV→Store→Prop} (hsub:Store.sub τ s) (ho:Own esz τ L v s) (hw:slc s esz wv=some ys) (hsz:(L.length+ys.length)*bytes≤140737488355328)
 (h:∀ v' s',Store.sub τ s'→Own esz τ (L++ys) v' s'→(∀ j o,s j=some o→(∀ M,o ≠ .arr esz M)→s' j=some o)→K v' s'):appwp esz bytes v wv s K:=by
 obtain ⟨τ0,q1,q2,q3,q4⟩:∃ τ0,Store.sub τ τ0∧Store.sub τ0 s∧(∀ j o,s j=some o→(∀ M,o ≠ .arr esz M)→τ0 j=some o)∧Own esz τ0 L v s:=by
  rcases ho with ⟨hk,hv⟩ | ⟨g,hv,hg,hs⟩
  ·exact ⟨s,hsub,Store.sub_refl _,fun _ _ h _=>h,.inl ⟨hk,hv⟩⟩
  ·exact ⟨s.del g,sub_del hsub hg,zz _ _,fun j o hj hn=>by rw [Store.del_ne _ (fun e=>by rw [e,hs] at hj;cases hj;exact hn _ rfl)];exact hj,.inr ⟨g,hv,by simp,hs⟩⟩
 refine Own.appM (τ:=τ0) q2 q4 hw hsz fun v' s' hs' ho' => ?_
 exact h v' s' (Store.sub_trans q1 hs') (ho'.weak q1) fun j o hj hn=>hs' _ _ (q3 j o hj hn)
theorem ziq {M:List Int} (hM:M.length≤1000000000) (hu:U8s M) (σ:Store):ACalls Tryz.prog 237 [.sl 1 (M.map cB)] σ (fun r s=>s=σ∧∃ l:List Int,r = .sl 1 (l.map cU)∧(M.length % 4=0→l=words (M.length / 4) M)):=by
 refine ze Tst.F237 (by simp [Tst.F237,Fn.mkX]) ?_
 simp only [Tst.F237,Fn.mkX,Tst.b237]
 simp only [↓vcPre,↓z8,↓reduceIte,vcPost,vcStd,Nat.reduceEqDiff,reduceCtorEq,Nat.reduceAdd,Nat.reduceLeDiff,Int.reduceLT,Int.reduceLE,↓u_setN]
 refine (z22 Rd.sl hM).Q ?_
 rintro r s ⟨id,rfl,h⟩
 simp only [↓vcPre,↓z8,↓reduceIte,vcPost,vcStd,Nat.reduceEqDiff,reduceCtorEq,Nat.reduceAdd,Nat.reduceLeDiff,Int.reduceLT,Int.reduceLE,↓u_setN]
 refine LoopQ.inv (S:=List Int×Bool×List Int×AV×Store) (fun q=>[(3,.ptr id 0),(4,q.2.2.2.1)]) (fun q=>q.2.2.2.2)
  (fun q=>RP σ id q.1 q.2.1 q.2.2.2.2∧Own 1 σ (q.2.2.1.map cU) q.2.2.2.1 q.2.2.2.2∧q.2.2.1.length≤M.length+1∧U8s q.1∧q.1.length≤M.length∧((q.2.1=false∧∃ j:Nat,4*j≤M.length∧q.1=M.drop (4*j)∧q.2.2.1=words j M)∨(q.2.1=true∧M.length % 4≠0)))
  (fun q=>if q.2.1 then 0 else q.1.length+1) (M,false,[],.nils,s) rfl (Store.sub_refl _) ⟨h,.nil,by simp,hu,Nat.le_refl _,.inl ⟨rfl,0,by omega,by simp,by cases M <;> rfl⟩⟩ ?_
 rintro ⟨R,bad,l,v,s⟩ ⟨h,ho,hl,hR,hRM,hj⟩
 simp only at h ho hl hR hRM hj
 simp only [↓vcPre,↓z8,↓reduceIte,vcPost,vcStd,Nat.reduceEqDiff,reduceCtorEq,Nat.reduceAdd,Nat.reduceLeDiff,Int.reduceLT,Int.reduceLE,↓u_setN]
 refine (z12 h).Q ?_
 rintro r s' ⟨rfl,rfl⟩
 simp only [↓vcPre,↓z8,↓reduceIte,vcPost,vcStd,Nat.reduceEqDiff,reduceCtorEq,Nat.reduceAdd,Nat.reduceLeDiff,Int.reduceLT,Int.reduceLE,↓u_setN]
 refine ⟨fun c1 => ?_,fun c1 => ?_⟩
 ·obtain ⟨rfl,j,hj1,hj2,hj3⟩:bad=false∧∃ j:Nat,4*j≤M.length∧R=M.drop (4*j)∧l=words j M:=by
   rcases hj with hj | ⟨hb,_⟩
   ·exact hj
   ·rw [hb] at c1;simp at c1
  simp only [Bool.false_eq_true,if_false] at c1
  have hRl:R.length=M.length - 4*j:=by rw [hj2,List.length_drop]
  have hlj:l.length=j:=by rw [hj3];exact w5 j M (by omega)
  have hl1:∀ x:Int,(l++[x]).length≤M.length+1:=fun x=>by rw [List.length_append,List.length_singleton];omega
  obtain ⟨hb1,hb2⟩:=h.base
  refine (z68 hb1 (by omega) hR).Q ?_
  rintro r s2 ⟨rfl,h2⟩
  have hov:=(ho.delBox h.2.2).mono h2.2.1
  simp only [↓vcPre,↓z8,↓reduceIte,vcPost,vcStd,Nat.reduceEqDiff,reduceCtorEq,Nat.reduceAdd,Nat.reduceLeDiff,Int.reduceLT,Int.reduceLE,↓u_setN]
  refine AllocQ.i0 fun b hb => ?_
  simp only [↓vcPre,↓z8,↓reduceIte,vcPost,vcStd,Nat.reduceEqDiff,reduceCtorEq,Nat.reduceAdd,Nat.reduceLeDiff,Int.reduceLT,Int.reduceLE,↓u_setN]
  have hsb:=Store.sub_set s2 b (.arr 1 [[.int .u32 (numM 4 R false).1]]) hb
  have h3:=(h2.weak hb2).mono hsb
  refine Own.appK (τ:=σ) h3.2.1 (hov.mono hsb) (zq (Store.set_same _ _ _) rfl) (by simp;omega) fun v' s3 hs3 ho3 hk3 => ?_
  have h4:RP σ id (numM 4 R false).2.1 (numM 4 R false).2.2 s3:=⟨h3.1,hs3,hk3 _ _ h3.2.2 (fun M e=>by cases e)⟩
  have ho4:Own 1 σ ((l++[(numM 4 R false).1]).map cU) v' s3:=by simpa [cU] using ho3
  by_cases h4l:4≤R.length
  ·obtain ⟨x,hx1,hx2,hx3⟩:=z64 h4l
   rw [hx1] at h4 ho4
   refine NextQ.to (R.drop 4,false,l++[x],v',s3) rfl (Store.sub_refl _) (by simp only [Bool.false_eq_true,if_false,List.length_drop];omega) ⟨h4,ho4,hl1 _,hR.drop _,by simp;omega,.inl ⟨rfl,j+1,by omega,?_,?_⟩⟩
   ·simp only;rw [hj2,List.drop_drop];congr 1
   ·simp only;rw [vi j M (by omega),hj3,←hj2,hx2]
  ·have hx:=zdk h4l
   rw [hx] at h4 ho4
   refine NextQ.to (R,true,l++[0],v',s3) rfl (Store.sub_refl _) (by simp) ⟨h4,ho4,hl1 _,hR,hRM,.inr ⟨rfl,by omega⟩⟩
 ·have e:M.length % 4=0→l=words (M.length / 4) M:=fun h4=>by
   rcases hj with ⟨hb,j,hj1,hj2,hj3⟩ | ⟨_,hb⟩
   ·rw [hb] at c1
    simp only [Bool.false_eq_true,if_false] at c1
    rw [hj2,List.length_drop] at c1
    rw [hj3];congr 1;omega
   ·exact absurd h4 hb
  exact EndQ.own rfl ho h.2.1 ⟨rfl,l,rfl,e⟩
end Go.Am
namespace Go.Am
open Go.Proofs Go.Sort
theorem wm {x:Int} {r:List Int}:numM 1 (x::r) false=(x,r,false):=by
 have e:rawM ((1:Nat):Int) (x::r) false=([x],r,false):=by
  unfold rawM
  rw [if_neg (by simp;omega),if_neg (by omega)];rfl
 unfold numM
 rw [e];simp [num]
theorem z1f:numM 1 [] false=(0,[],true):=by
 have e:rawM ((1:Nat):Int) [] false=([],[],true):=by
  unfold rawM
  rw [if_pos (by right;simp)]
 unfold numM
 rw [e];simp [num]
theorem z1g {k:Nat} {R:List Int}:numM k R true=(0,R,true):=by
 have e:rawM (k:Int) R true=([],R,true):=by
  unfold rawM
  rw [if_pos (by left;rfl)]
 unfold numM
 rw [e];simp [num]
theorem RP.setOther {τ s:Store} {id b:Nat} {R:List Int} {bad:Bool} {o:Obj} (h:RP τ id R bad s) (hb:τ b=none) (hbi:¬ id=b):RP τ id R bad (s.set b o):=⟨h.1,zb h.2.1 hb,by rw [Store.set_ne _ _ hbi];exact h.2.2⟩
theorem OwnQ.delBox {τ s:Store} {p:List Seg} {v:AV} {b:Nat} {c:List AV} (h:OwnQ τ p v s) (hb:s b=some (.box c)):OwnQ τ p v (s.del b):=by
 obtain ⟨vs,h1,h2⟩:=h
 exact ⟨vs,h1.del fun M e=>(by rw [hb] at e;cases e),h2.delBox hb⟩
theorem z7o {k n:Int} {r:List Int} (hn:0≤n) (hl:¬ (r.length:Int)<4*n):segs (k::n::r).length (k::n::r)=(segs (r.drop (4*n.toNat)).length (r.drop (4*n.toNat))).map (⟨k,words n.toNat r⟩ :: ·):=by
 show segs (r.length+1+1) (k::n::r)=_
 simp only [segs]
 rw [if_neg hl,z2p (r.length+1) _ _ (by simp;omega) (Nat.le_refl _)]
theorem z9u {k n:Int} {r:List Int} (hl:(r.length:Int)<4*n):segs (k::n::r).length (k::n::r)=none:=by
 show segs (r.length+1+1) (k::n::r)=_
 simp only [segs]
 rw [if_pos hl]
theorem z9v {k:Int}:segs [k].length [k]=none:=rfl
def pathR (o:Option (List Seg)):AV:=match o with | some l => .tup [.sl 2 (l.map Seg.c),.bool true] | none => .tup [.sl 2 [],.bool false]
theorem EndQ.ownQT {slots:List RS} {Q:AV→Store→Prop} {e:Env} {σ τ:Store} {p:List Seg} {v:AV} {x:AV} (h1:e.res τ slots=some (.tup [v,x])) (ho:OwnQ σ p v τ) (hs:Store.sub σ τ) (h4:Q (.tup [.sl 2 (p.map Seg.c),x]) σ) : @EndQ e τ ⟨slots,Q⟩:=by
 refine EndQ.two v x σ h1 (WeakL.pos 0 rfl (Weak.of_one (ho.weak hs fun s' hs'=>WeakL.pure ⟨_,rfl,?_⟩)))
 exact WeakL.forget hs' (WeakL.pure h4)
theorem z2t (E:Env) {σ β s:Store} {id bx:Nat} (x:Seg) (l:List Seg) {v va:AV} (hσβ:Store.sub σ β) (hβs:Store.sub β s) (ho:OwnQ σ l v β) (hbx:s bx=some (.box [.int .i64 x.kind,va])) (hva:va.isTup=false∧va.cells=[va])
 (hx:(x.ls=[]∧va = .nils)∨∃ j,va = .os j 1 0 x.ls.length∧β j=none∧s j=some (.arr 1 (x.ls.map cU))) (hl:l.length≤2000000) {n r:Env→Store→Prop} {xx:Nat→Env→Store→Prop}
 (h:∀ v' s',Store.sub σ s'→OwnQ σ (l++[x]) v' s'→(∀ j o,s j=some o→(∀ M,o ≠ .arr 2 M)→s' j=some o)→n [(4,.ptr id 0),(5,v')] s') :
 bwp Tryz.prog Tsk.t238_34 ((4,.ptr id 0)::(5,v)::(6,.ptr bx 0)::E) s n r xx:=by
 simp only [Tsk.t238_34]
 simp only [hbx,↓vcPre,↓z8,↓reduceIte,vcPost,vcStd,Nat.reduceEqDiff,reduceCtorEq,Nat.reduceAdd,Nat.reduceLeDiff,Int.reduceLT,Int.reduceLE,↓u_setN]
 refine AllocQ.i0 fun c hc => ?_
 simp only [↓vcPre,↓z8,↓reduceIte,vcPost,vcStd,Nat.reduceEqDiff,reduceCtorEq,Nat.reduceAdd,Nat.reduceLeDiff,Int.reduceLT,Int.reduceLE,↓u_setN]
 have hsc:=Store.sub_set s c (.arr 2 [[.int .i64 x.kind,va]]) hc
 refine OwnQ.app (τ:=σ) (s0:=β) (x:=x) (xv:=va) hσβ (Store.sub_trans hβs hsc) ho ?_ (zq (Store.set_same _ _ _) rfl) (by omega) fun v' s' h1 h2 h3 => ?_
 ·rcases hx with hx | ⟨j,a,b,d⟩
  ·exact .inl hx
  ·exact .inr ⟨j,a,b,hsc _ _ d⟩
 ·exact h v' s' h1 h2 fun j o hj hn=>h3 j o (hsc _ _ hj) hn
set_option maxHeartbeats 1000000 in
theorem zi1 {M:List Int} (hM:M.length≤1000000) (hu:U8s M):Pur Tryz.prog 238 [.sl 1 (M.map cB)] (pathR (decPath M)):=by
 intro σ
 refine ze Tsk.F238 (by simp [Tsk.F238,Fn.mkX]) ?_
 simp only [Tsk.F238,Fn.mkX,Tsk.b238]
 simp only [↓vcPre,↓z8,↓reduceIte,vcPost,vcStd,Nat.reduceEqDiff,reduceCtorEq,Nat.reduceAdd,Nat.reduceLeDiff,Int.reduceLT,Int.reduceLE,↓u_setN]
 refine (z22 Rd.sl (by omega)).Q ?_
 rintro r s ⟨id,rfl,h⟩
 simp only [↓vcPre,↓z8,↓reduceIte,vcPost,vcStd,Nat.reduceEqDiff,reduceCtorEq,Nat.reduceAdd,Nat.reduceLeDiff,Int.reduceLT,Int.reduceLE,↓u_setN]
 refine LoopQ.inv (S:=List Int×Bool×List Seg×AV×Store) (fun q=>[(4,.ptr id 0),(5,q.2.2.2.1)]) (fun q=>q.2.2.2.2)
  (fun q=>RP σ id q.1 q.2.1 q.2.2.2.2∧OwnQ σ q.2.2.1 q.2.2.2.1 q.2.2.2.2∧q.2.2.1.length+q.1.length≤M.length+(if q.2.1 then 1 else 0)∧U8s q.1∧((q.2.1=false∧segs M.length M=(segs q.1.length q.1).map (q.2.2.1 ++ ·))∨(q.2.1=true∧segs M.length M=none)))
  (fun q=>if q.2.1 then 0 else q.1.length+1) (M,false,[],.nils,s) rfl (Store.sub_refl _) ⟨h,.nil,by simp,hu,.inl ⟨rfl,by simp only;cases segs M.length M <;> rfl⟩⟩ ?_
 rintro ⟨R,bad,l,v,s⟩ ⟨h,ho,hl,hR,hj⟩
 simp only at h ho hl hR hj
 simp only [↓vcPre,↓z8,↓reduceIte,vcPost,vcStd,Nat.reduceEqDiff,reduceCtorEq,Nat.reduceAdd,Nat.reduceLeDiff,Int.reduceLT,Int.reduceLE,↓u_setN]
 refine (z12 h).Q ?_
 rintro r s' ⟨rfl,rfl⟩
 simp only [↓vcPre,↓z8,↓reduceIte,vcPost,vcStd,Nat.reduceEqDiff,reduceCtorEq,Nat.reduceAdd,Nat.reduceLeDiff,Int.reduceLT,Int.reduceLE,↓u_setN]
 have bad2:segs M.length M=none→∀ τ',Store.sub σ τ' → @EndQ [(2,.nils),(3,.bool false)] τ' ⟨Tsk.F238.slots,fun r s=>s=σ∧r=pathR (decPath M)⟩:=fun hn τ' hs=>by
  refine EndQ.twoNil (.bool false) 2 σ rfl hs ⟨rfl,?_⟩
  unfold decPath;rw [hn];rfl
 refine ⟨fun c1 => ?_,fun c1 => ?_⟩
 ·obtain ⟨rfl,hseg⟩:bad=false∧segs M.length M=(segs R.length R).map (l ++ ·):=by
   rcases hj with hj | ⟨hb,_⟩
   ·exact hj
   ·rw [hb] at c1;simp at c1
  simp only [Bool.false_eq_true,if_false] at c1 hl
  obtain ⟨k0,R1,rfl⟩:∃ k0 R1,R=k0::R1:=by cases R with | nil=>simp at c1 | cons a b=>exact ⟨a,b,rfl⟩
  simp only [List.length_cons] at hl
  obtain ⟨hb1,hb2⟩:=h.base
  refine (z05 hb1 (by simp;omega) hR).Q ?_
  rw [wm]
  rintro r s2 ⟨rfl,h2⟩
  simp only at h2
  have ho2:=(ho.delBox h.2.2).mono h2.2.1
  have h2':=h2.weak hb2
  simp only [↓vcPre,↓z8,↓reduceIte,vcPost,vcStd,Nat.reduceEqDiff,reduceCtorEq,Nat.reduceAdd,Nat.reduceLeDiff,Int.reduceLT,Int.reduceLE,↓u_setN]
  refine AllocQ.i0 fun bx hbx => ?_
  have hib:¬ id=bx:=fun e=>by have:=h2'.2.2;rw [e,hbx] at this;cases this
  simp only [Store.set_set,↓vcPre,↓z8,↓reduceIte,vcPost,vcStd,Nat.reduceEqDiff,reduceCtorEq,Nat.reduceAdd,Nat.reduceLeDiff,Int.reduceLT,Int.reduceLE,↓u_setN]
  have hσb:σ bx=none:=zo h2'.2.1 hbx
  have hR1:U8s R1:=fun x hx=>hR x (by simp [hx])
  have hT:=h2'.setOther (o := .box [.int .i64 k0,.nils]) hσb hib
  have hoT:=ho2.mono (Store.sub_set _ bx (.box [.int .i64 k0,.nils]) hbx)
  have hTb:(s2.set bx (.box [.int .i64 k0,.nils])) bx=some (.box [.int .i64 k0,.nils]):=Store.set_same _ _ _
  generalize s2.set bx (.box [.int .i64 k0,.nils])=T at hT hoT hTb ⊢
  obtain ⟨hc1,hc2⟩:=hT.base
  refine (z05 hc1 (by omega) hR1).Q ?_
  rintro r s3 ⟨rfl,h3⟩
  have ho3:=(hoT.delBox hT.2.2).mono h3.2.1
  have hb3:s3 bx=some (.box [.int .i64 k0,.nils]):=h3.2.1 _ _ (by rw [Store.del_ne _ (fun e=>hib e.symm)];exact hTb)
  have h3':=h3.weak hc2
  simp only [↓vcPre,↓z8,↓reduceIte,vcPost,vcStd,Nat.reduceEqDiff,reduceCtorEq,Nat.reduceAdd,Nat.reduceLeDiff,Int.reduceLT,Int.reduceLE,↓u_setN]
  refine (z12 h3').Q ?_
  rintro r s3' ⟨rfl,rfl⟩
  have hbd:(s3'.del id) bx=some (.box [.int .i64 k0,.nils]):=by rw [Store.del_ne _ (fun e=>hib e.symm)];exact hb3
  have hseg1:∀ {o},segs (k0::R1).length (k0::R1)=o→segs M.length M=o.map (l ++ ·):=fun h=>by rw [hseg,h]
  cases R1 with
  | nil =>
    rw [z1f] at h3 h3' ⊢
    simp only [if_true] at h3 h3' ⊢
    have hz:IntKind.i64.wrap (0*4)=0:=by decide
    simp only [hz,↓vcPre,↓z8,↓reduceIte,vcPost,vcStd,Nat.reduceEqDiff,reduceCtorEq,Nat.reduceAdd,Nat.reduceLeDiff,Int.reduceLT,Int.reduceLE,↓u_setN]
    refine LoopQ.inv (S:=Unit) (fun _=>[(4,.ptr id 0),(5,v),(6,.ptr bx 0),(23,.int .i64 0),(24,.int .i64 0)]) (fun _=>s3') (fun _=>True) (fun _=>0) () rfl (Store.sub_refl _) trivial ?_
    intro _ _
    simp only [↓vcPre,↓z8,↓reduceIte,vcPost,vcStd,Nat.reduceEqDiff,reduceCtorEq,Nat.reduceAdd,Nat.reduceLeDiff,Int.reduceLT,Int.reduceLE,↓u_setN]
    refine z2t _ ⟨k0,[]⟩ l (β:=s3') h3'.2.1 (Store.sub_refl _) ho3 hb3 ⟨rfl,rfl⟩ (.inl ⟨rfl,rfl⟩) (by omega) fun v' s' k1 k2 k3 => ?_
    refine NextQ.to ([],true,l++[⟨k0,[]⟩],v',s') rfl (Store.sub_refl _) (by simp) ⟨⟨h3'.1,k1,k3 _ _ h3'.2.2 (fun M e=>by cases e)⟩,k2,by simp at hl ⊢;omega,fun x hx=>by simp at hx,.inr ⟨rfl,hseg1 z9v⟩⟩
  | cons n0 R2 =>
    rw [wm] at h3 h3' ⊢
    simp only [Bool.false_eq_true,if_false,List.length_cons] at h3 h3' hl ⊢
    have hn0:=hR1 n0 (by simp)
    have hR2:U8s R2:=fun x hx=>hR1 x (by simp [hx])
    have hw:IntKind.i64.wrap (n0*4)=n0*4:=zd (by unfold I64;omega)
    simp only [hw,↓vcPre,↓z8,↓reduceIte,vcPost,vcStd,Nat.reduceEqDiff,reduceCtorEq,Nat.reduceAdd,Nat.reduceLeDiff,Int.reduceLT,Int.reduceLE,↓u_setN]
    refine ⟨fun d1 => ?_,fun d1 => ?_⟩
    ·exact bad2 (hseg1 (z9u (by omega))) _ h3'.2.1
    ·obtain ⟨m,rfl⟩:=Int.eq_ofNat_of_zero_le hn0.1
     have hml:4*m≤R2.length:=by omega
     have hβi:((s3'.del id).del bx) id=none:=by rw [Store.del_ne _ hib];simp
     have hβb:((s3'.del id).del bx) bx=none:=by simp
     have hβs:Store.sub ((s3'.del id).del bx) s3':=Store.sub_trans (zz _ _) (zz _ _)
     have hσβ:Store.sub σ ((s3'.del id).del bx):=sub_del (sub_del h3'.2.1 h3'.1) hσb
     have hoβ:OwnQ σ l v ((s3'.del id).del bx):=(ho3.delBox h3'.2.2).delBox hbd
     generalize hβ:(s3'.del id).del bx=β at hβi hβb hβs hσβ hoβ
     refine LoopQ.inv (S:=Nat×AV×Store) (fun q=>[(4,.ptr id 0),(5,v),(6,.ptr bx 0),(23,.int .i64 (m:Int)),(24,.int .i64 (q.1:Int))]) (fun q=>q.2.2)
      (fun q=>q.1≤m∧RP β id (R2.drop (4*q.1)) false q.2.2∧q.2.2 bx=some (.box [.int .i64 k0,q.2.1])∧Own 1 β ((words q.1 R2).map cU) q.2.1 q.2.2) (fun q=>m+1 - q.1) (0,.nils,s3') rfl (Store.sub_refl _) ⟨by simp only;omega,⟨hβi,hβs,by simpa using h3'.2.2⟩,hb3,by simp only;cases R2 <;> exact .nil⟩ ?_
     rintro ⟨j,va,s5⟩ ⟨hjm,hr5,hb5,ho5⟩
     simp only at hjm hr5 hb5 ho5
     have hwl:=w5 j R2 (by omega)
     simp only [↓vcPre,↓z8,↓reduceIte,vcPost,vcStd,Nat.reduceEqDiff,reduceCtorEq,Nat.reduceAdd,Nat.reduceLeDiff,Int.reduceLT,Int.reduceLE,↓u_setN]
     refine ⟨fun e1 => ?_,fun e1 => ?_⟩
     ·have ej:IntKind.i64.wrap ((j:Int)+1)=((j+1:Nat):Int):=by rw [zd (by unfold I64;omega)];omega
      obtain ⟨x,hx1,hx2,hx3⟩:=z64 (R:=R2.drop (4*j)) (by rw [List.length_drop];omega)
      obtain ⟨hd1,hd2⟩:=hr5.base
      have hβd:Store.sub β (s5.del id):=hd2
      have hbd5:(s5.del id) bx=some (.box [.int .i64 k0,va]):=by rw [Store.del_ne _ (fun e=>hib e.symm)];exact hb5
      have hod:=ho5.delBox hr5.2.2
      have key:∀ s6,RP (s5.del id) id (numM 4 (R2.drop (4*j)) false).2.1 (numM 4 (R2.drop (4*j)) false).2.2 s6→s6 bx=some (.box [.int .i64 k0,va])∧Own 1 β ((words j R2).map cU) va s6:=fun s6 h6=>⟨h6.2.1 _ _ hbd5,hod.mono h6.2.1⟩
      refine ⟨?_,?_⟩
      ·simp only [hb5,↓vcPre,↓z8,↓reduceIte,vcPost,vcStd,Nat.reduceEqDiff,reduceCtorEq,Nat.reduceAdd,Nat.reduceLeDiff,Int.reduceLT,Int.reduceLE,↓u_setN]
       refine (z68 hd1 (by rw [List.length_drop];omega) (hR2.drop _)).Q ?_
       rintro r s6 ⟨rfl,h6⟩
       obtain ⟨hb6,hov⟩:=key s6 h6
       simp only [↓vcPre,↓z8,↓reduceIte,vcPost,vcStd,Nat.reduceEqDiff,reduceCtorEq,Nat.reduceAdd,Nat.reduceLeDiff,Int.reduceLT,Int.reduceLE,↓u_setN]
       refine AllocQ.i0 fun c hc => ?_
       simp only [↓vcPre,↓z8,↓reduceIte,vcPost,vcStd,Nat.reduceEqDiff,reduceCtorEq,Nat.reduceAdd,Nat.reduceLeDiff,Int.reduceLT,Int.reduceLE,↓u_setN]
       have hsc:=Store.sub_set s6 c (.arr 1 [[.int .u32 (numM 4 (R2.drop (4*j)) false).1]]) hc
       refine Own.appK (τ:=β) (Store.sub_trans (Store.sub_trans hβd h6.2.1) hsc) (hov.mono hsc) (zq (Store.set_same _ _ _) rfl) (by simp;omega) fun va' s7 hs7 ho7 hk7 => ?_
       have hb7:=hk7 _ _ (hsc _ _ hb6) (fun M e=>by cases e)
       have hi7:=hk7 _ _ (hsc _ _ h6.2.2) (fun M e=>by cases e)
       have hvc:=ho7.cell
       simp only [hb7,hvc.1,hvc.2,↓vcPre,↓z8,↓reduceIte,vcPost,vcStd,Nat.reduceEqDiff,reduceCtorEq,Nat.reduceAdd,Nat.reduceLeDiff,Int.reduceLT,Int.reduceLE,↓u_setN]
       rw [ej]
       rw [hx1] at hi7 ho7
       refine NextQ.to (j+1,va',s7.set bx (.box [.int .i64 k0,va'])) rfl (Store.sub_refl _) (by simp only;omega) ⟨by simp only;omega,⟨hβi,zb hs7 hβb,?_⟩,Store.set_same _ _ _,?_⟩
       ·simp only
        rw [Store.set_ne _ _ hib,hi7]
        simp only [List.drop_drop]
        rfl
       ·simp only
        rw [vi j R2 (by omega),hx2,List.map_append]
        exact ho7.setId hb7 (fun M e=>by cases e)
      ·refine (z68 hd1 (by rw [List.length_drop];omega) (hR2.drop _)).Q ?_
       rintro r s6 ⟨rfl,h6⟩
       obtain ⟨hb6,hov⟩:=key s6 h6
       simp only [hb6,↓vcPre,↓z8,↓reduceIte,vcPost,vcStd,Nat.reduceEqDiff,reduceCtorEq,Nat.reduceAdd,Nat.reduceLeDiff,Int.reduceLT,Int.reduceLE,↓u_setN]
       refine AllocQ.i0 fun c hc => ?_
       simp only [↓vcPre,↓z8,↓reduceIte,vcPost,vcStd,Nat.reduceEqDiff,reduceCtorEq,Nat.reduceAdd,Nat.reduceLeDiff,Int.reduceLT,Int.reduceLE,↓u_setN]
       have hsc:=Store.sub_set s6 c (.arr 1 [[.int .u32 (numM 4 (R2.drop (4*j)) false).1]]) hc
       refine Own.appK (τ:=β) (Store.sub_trans (Store.sub_trans hβd h6.2.1) hsc) (hov.mono hsc) (zq (Store.set_same _ _ _) rfl) (by simp;omega) fun va' s7 hs7 ho7 hk7 => ?_
       have hb7:=hk7 _ _ (hsc _ _ hb6) (fun M e=>by cases e)
       have hi7:=hk7 _ _ (hsc _ _ h6.2.2) (fun M e=>by cases e)
       have hvc:=ho7.cell
       simp only [hb7,hvc.1,hvc.2,↓vcPre,↓z8,↓reduceIte,vcPost,vcStd,Nat.reduceEqDiff,reduceCtorEq,Nat.reduceAdd,Nat.reduceLeDiff,Int.reduceLT,Int.reduceLE,↓u_setN]
       rw [ej]
       rw [hx1] at hi7 ho7
       refine NextQ.to (j+1,va',s7.set bx (.box [.int .i64 k0,va'])) rfl (Store.sub_refl _) (by simp only;omega) ⟨by simp only;omega,⟨hβi,zb hs7 hβb,?_⟩,Store.set_same _ _ _,?_⟩
       ·simp only
        rw [Store.set_ne _ _ hib,hi7]
        simp only [List.drop_drop]
        rfl
       ·simp only
        rw [vi j R2 (by omega),hx2,List.map_append]
        exact ho7.setId hb7 (fun M e=>by cases e)
     ·have hjm':j=m:=by omega
      subst hjm'
      have hx:(words j R2=[]∧va = .nils)∨∃ g,va = .os g 1 0 (words j R2).length∧β g=none∧s5 g=some (.arr 1 ((words j R2).map cU)):=by
       rcases ho5 with ⟨a,b⟩ | ⟨g,a,b,c⟩
       ·exact .inl ⟨by simpa using a,b⟩
       ·exact .inr ⟨g,by rw [a];simp,b,c⟩
      have hsg:=z7o (k:=k0) (n:=(j:Int)) (r:=R2) (by omega) (by omega)
      rw [Int.toNat_natCast] at hsg
      refine z2t _ ⟨k0,words j R2⟩ l (β:=β) hσβ hr5.2.1 hoβ hb5 ho5.cell hx (by omega) fun v' s' k1 k2 k3 => ?_
      refine NextQ.to (R2.drop (4*j),false,l++[⟨k0,words j R2⟩],v',s') rfl (Store.sub_refl _) (by simp only [Bool.false_eq_true,if_false,List.length_drop,List.length_cons];omega) ⟨⟨zo hσβ hβi,k1,k3 _ _ hr5.2.2 (fun M e=>by cases e)⟩,k2,by simp;omega,hR2.drop _,.inl ⟨rfl,?_⟩⟩
      simp only
      rw [hseg1 hsg]
      cases segs (R2.drop (4*j)).length (R2.drop (4*j)) <;> simp
 ·have hll:l.length≤1000001:=by cases bad <;> simp at hl <;> omega
  refine (z69 h).Q ?_
  rintro r s' ⟨rfl,rfl⟩
  rcases hj with ⟨hb,hseg⟩ | ⟨hb,hseg⟩
  ·subst hb
   simp only [Bool.false_eq_true,if_false] at c1
   have hR0:R=[]:=List.length_eq_zero_iff.1 (by omega)
   subst hR0
   have hs':segs M.length M=some l:=by rw [hseg];simp [segs]
   simp only [↓vcPre,↓z8,↓reduceIte,vcPost,vcStd,Nat.reduceEqDiff,reduceCtorEq,Nat.reduceAdd,Nat.reduceLeDiff,Int.reduceLT,Int.reduceLE,↓u_setN]
   refine (z7l ho (by simp at hl;omega)).Q ?_
   rintro r s2 ⟨rfl,rfl⟩
   by_cases g:pathRight l
   ·rw [decide_eq_true g]
    simp only [↓vcPre,↓z8,↓reduceIte,vcPost,vcStd,Nat.reduceEqDiff,reduceCtorEq,Nat.reduceAdd,Nat.reduceLeDiff,Int.reduceLT,Int.reduceLE,↓u_setN]
    refine EndQ.ownQT rfl ho h.2.1 ⟨rfl,?_⟩
    unfold decPath;rw [hs'];simp only;rw [if_pos g];rfl
   ·rw [decide_eq_false g]
    simp only [↓vcPre,↓z8,↓reduceIte,vcPost,vcStd,Nat.reduceEqDiff,reduceCtorEq,Nat.reduceAdd,Nat.reduceLeDiff,Int.reduceLT,Int.reduceLE,↓u_setN]
    refine EndQ.twoNil (.bool false) 2 σ rfl h.2.1 ⟨rfl,?_⟩
    unfold decPath;rw [hs'];simp only;rw [if_neg g];rfl
  ·subst hb
   simp only [↓vcPre,↓z8,↓reduceIte,vcPost,vcStd,Nat.reduceEqDiff,reduceCtorEq,Nat.reduceAdd,Nat.reduceLeDiff,Int.reduceLT,Int.reduceLE,↓u_setN]
   exact bad2 hseg _ h.2.1
end Go.Am
namespace Go.Am
open Go.Proofs Go.Sort
theorem RF.base {τ s:Store} {id:Nat} {v:AV} {B:List Int} {at_:Nat} {lack:Bool} (h:RF τ id v B at_ lack s):RF (s.del id) id v B at_ lack s∧Store.sub τ (s.del id) :=
 ⟨⟨by simp,zz _ _,h.2.2.1,h.2.2.2.1.mono (sub_del h.2.1 h.1),h.2.2.2.2⟩,sub_del h.2.1 h.1⟩
def RX (σ τ:Store) (id:Nat) (R:List Int) (lack:Bool) (s:Store):Prop:=∃ (v:AV) (B:List Int) (at_:Nat),τ id=none∧Store.sub τ s∧Store.sub σ τ∧s id=some (.box [v,.int .i64 (at_:Int),.bool lack])∧Rd 1 σ (B.map cB) v∧at_≤B.length∧R=B.drop at_∧B.length≤1000000000∧U8s B
theorem RX.base {σ τ s:Store} {id:Nat} {R:List Int} {lack:Bool} (h:RX σ τ id R lack s):RX σ (s.del id) id R lack s∧Store.sub τ (s.del id):=by
 obtain ⟨v,B,at_,h1,h2,h3,h4,h5⟩:=h
 exact ⟨⟨v,B,at_,by simp,zz _ _,Store.sub_trans h3 (sub_del h2 h1),h4,h5⟩,sub_del h2 h1⟩
theorem RX.of {σ τ s:Store} {id:Nat} {v:AV} {B:List Int} {at_:Nat} {lack:Bool} (h:RF τ id v B at_ lack s) (h1:B.length≤1000000000) (h2:U8s B) (h3:Store.sub σ τ) (h4:Rd 1 σ (B.map cB) v):RX σ τ id (B.drop at_) lack s:=⟨v,B,at_,h.1,h.2.1,h3,h.2.2.1,h4,h.2.2.2.2,rfl,h1,h2⟩
end Go.Am
namespace Go.Am.Tsl
open Go.Proofs Go.Am.B
def t217_24:BC:=z [m 24 5,m 25 7,g 26 196 [.t 24,.t 25],f 27 2 6,s 1 27 26] [0,2,5,6] (.seq (z [m 28 5,g 29 197 [.t 28],u 30 .not 29] [0,2,5,6,30] (.cond (.t 30) (z [p 31 (.build [(.int .i64 0),(.int .i64 0),.nils,.nils] []) [],s 4 2 31,k 3 .nils,k 4 (.bool false)] [2,3,4] .ret) .skip)) (z [m 32 0,u 33 .len 32,m 34 5,g 35 195 [.t 34],b 36 .sub 33 35,m 8 36] [0,2,6,8] (z [m 37 0,m 38 8,p 39 (.slice 1 false true) [.t 37,.t 38],f 40 3 6,s 1 40 39] [0,2,6,8] (z [m 42 0,m 43 8,p 44 (.slice 1 true false) [.t 42,.t 43],⟨some 41,none,.load (.ld 4 true),[.t 6]⟩,s 4 2 41,m 3 44,k 4 (.bool true)] [2,3,4] .ret))))
def b217:BC:=z [⟨some 2,none,.alloc (.alloc [(.int .i64 0),(.int .i64 0),.nils,.nils]),[]⟩,k 3 .nils,k 4 (.bool false)] [0,2] (z [m 9 0,g 10 190 [.t 9],m 5 10] [0,2,5] (z [m 11 5,g 12 191 [.t 11],m 13 5,g 14 191 [.t 13],p 15 (.build [(.int .i64 0),(.int .i64 0),.nils,.nils] [(0,1),(1,1)]) [.t 12,.t 14],⟨some 6,none,.alloc (.alloc [(.int .i64 0),(.int .i64 0),.nils,.nils]),[]⟩,s 4 6 15] [0,2,5,6] (z [j 7 0] [0,2,5,6] (.seq (z [f 16 0 6,l 17 1 16,c 18 .and 17 16,c 19 .neq 18 0] [0,2,5,6,19] (.cond (.t 19) (.ops [m 20 5,g 21 192 [.t 20],m 7 21] [0,2,5,6,7]) (.ops [m 22 5,g 23 191 [.t 22],m 7 23] [0,2,5,6,7]))) t217_24))))
def F217:Fn Tryz.prog 217:=Fn.mkX false b217 [.c 2 4 true,.t 3,.t 4] 45 Tryz.f217 _ Tryz.func217 (by decide) rfl Tryz.ntmps217 (by kernel_rfl) (by kernel_rfl)
end Go.Am.Tsl
namespace Go.Am
open Go.Proofs Go.Sort
def chain (B:List Int):Int×Int×Int×List Int×List Int×Bool :=
 let a:=numM 1 B false
 let b:=numM 1 a.2.1 a.2.2
 let c:=if andI a.1 16=0 then numM 1 b.2.1 b.2.2 else numM 2 b.2.1 b.2.2
 let d:=rawM c.1 c.2.1 c.2.2
 (a.1,b.1,c.1,d.1,d.2.1,d.2.2)
theorem z31 {x y:Int} {r:List Int}:numM 2 (x::y::r) false=(x*256+y,r,false):=by
 have e:rawM ((2:Nat):Int) (x::y::r) false=([x,y],r,false):=by
  unfold rawM
  rw [if_neg (by simp;omega),if_neg (by omega)];rfl
 unfold numM
 rw [e];simp [num]
theorem uq {R:List Int} (h:R.length<2):numM 2 R false=(0,R,true):=by
 have e:rawM ((2:Nat):Int) R false=([],R,true):=by
  unfold rawM
  rw [if_pos (by right;omega)]
 unfold numM
 rw [e];simp [num]
theorem xq {n:Int} {R:List Int}:rawM n R true=([],R,true):=by
 unfold rawM
 rw [if_pos (by left;rfl)]
def chunkF (B:List Int) (c:Ch):Prop:=chain B=(c.fl,c.kind,(c.val.length:Int),c.val,c.rest,false)∧c.all=B.take (B.length - c.rest.length)∧c.rest=B.drop (B.length - c.rest.length)∧c.rest.length<B.length
theorem xt {n:Int} {R:List Int} (h0:0≤n) (h:¬ (R.length:Int)<n):rawM n R false=(R.take n.toNat,R.drop n.toNat,false):=by
 unfold rawM
 rw [if_neg (by simp;omega)]
 split
 ·have:n.toNat=0:=by omega
  rw [this];simp
 ·rfl
theorem z4d {B:List Int} (hu:U8s B):(chunk B=none∧(chain B).2.2.2.2.2=true)∨∃ c,chunk B=some c∧chunkF B c:=by
 match B,hu with
 | [],_=>exact .inl ⟨rfl,by simp [chain,z1f,z1g,xq]⟩
 | [f],_ =>
   refine .inl ⟨rfl,?_⟩
   simp only [chain,wm,z1f,z1g]
   split <;> rw [xq]
 | [f,k],_ =>
   refine .inl ⟨rfl,?_⟩
   simp only [chain,wm,z1f,uq (R:=[]) (by simp)]
   split <;> rw [xq]
 | f::k::h::r,hu =>
   have hh:=hu h (by simp)
   by_cases hf:andI f 16=0
   ·by_cases hl:(r.length:Int)<h
    ·refine .inl ⟨by simp only [chunk];rw [if_pos hf,if_pos hl],?_⟩
     simp only [chain,wm,if_pos hf]
     unfold rawM;rw [if_pos (by right;exact hl)]
    ·refine .inr ⟨⟨f,k,r.take h.toNat,(f::k::h::r).take (3+h.toNat),r.drop h.toNat⟩,by simp only [chunk];rw [if_pos hf,if_neg hl],?_⟩
     have e:(f::k::h::r).length - (r.drop h.toNat).length=3+h.toNat:=by simp;omega
     refine ⟨?_,by simp only;rw [e],?_,by simp;omega⟩
     ·simp only [chain,wm,if_pos hf,xt hh.1 hl]
      rw [List.length_take]
      congr 3;omega
     ·simp only;rw [e,Nat.add_comm];simp
   ·match r,hu with
    | [],_ =>
      refine .inl ⟨by simp only [chunk];rw [if_neg hf],?_⟩
      simp only [chain,wm,if_neg hf,uq (R:=[h]) (by simp)]
      rw [xq]
    | l::r',hu =>
      have hll:=hu l (by simp)
      by_cases hl:(r'.length:Int)<h*256+l
      ·refine .inl ⟨by simp only [chunk];rw [if_neg hf,if_pos hl],?_⟩
       simp only [chain,wm,if_neg hf,z31]
       unfold rawM;rw [if_pos (by right;exact hl)]
      ·refine .inr ⟨⟨f,k,r'.take (h*256+l).toNat,(f::k::h::l::r').take (4+(h*256+l).toNat),r'.drop (h*256+l).toNat⟩,by simp only [chunk];rw [if_neg hf,if_neg hl],?_⟩
       have e:(f::k::h::l::r').length - (r'.drop (h*256+l).toNat).length=4+(h*256+l).toNat:=by simp;omega
       refine ⟨?_,by simp only;rw [e],?_,by simp;omega⟩
       ·simp only [chain,wm,z31,if_neg hf,xt (n:=h*256+l) (by omega) hl]
        rw [List.length_take]
        congr 3;omega
       ·simp only;rw [e,Nat.add_comm];simp
theorem Rd.sliceL {esz:Nat} {τ:Store} {L:List (List AV)} {v:AV} (h:Rd esz τ L v) {lo:Nat} (h1:lo≤L.length):∃ v',pSlice esz v (lo:Int) none=some v'∧Rd esz τ (L.drop lo) v':=by
 obtain ⟨v',h2,h3⟩:=h.slice (lo:=lo) (hi:=L.length) h1 (Nat.le_refl _)
 refine ⟨v',?_,by rwa [List.take_length] at h3⟩
 rw [←h2]
 have hl:=h.2
 rcases h.cases with ⟨rfl,h0⟩ | rfl | ⟨g,o,n,rfl⟩
 ·subst h0;simp [pSlice]
 ·simp [pSlice]
 ·simp only [pv,pLen,Option.some.injEq,AV.int.injEq,true_and] at hl
  simp [pSlice,hl]
theorem yu {k:Nat} {R:List Int} {b:Bool} (h:U8s R):U8s (numM k R b).2.1∧(numM k R b).2.1.length≤R.length:=⟨(vo h).2,rawM_len.1⟩
theorem zio {τ0 σ:Store} (h0:Store.sub τ0 σ) {B:List Int} {v:AV} (hr0:Rd 1 τ0 (B.map cB) v) (hB:B.length≤1000000) (hu:U8s B):ACalls Tryz.prog 217 [v] σ (fun r s=>s=σ ∧
 match chunk B with
 | none=>r = .tup [.agg [.int .i64 0,.int .i64 0,.nils,.nils],.nils,.bool false]
 | some c=>∃ av rv,r = .tup [.agg [.int .i64 c.fl,.int .i64 c.kind,.sl 1 (c.val.map cB),av],rv,.bool true]∧Rd 1 τ0 (c.all.map cB) av∧Rd 1 τ0 (c.rest.map cB) rv):=by
 have hr:=hr0.mono h0
 refine ze Tsl.F217 (by simp [Tsl.F217,Fn.mkX]) ?_
 simp only [Tsl.F217,Fn.mkX,Tsl.b217]
 have hlen:pv .len [v]=some (.int .i64 (B.length:Int)):=by rw [hr.2];simp
 simp only [↓vcPre,↓z8,↓reduceIte,vcPost,vcStd,Nat.reduceEqDiff,reduceCtorEq,Nat.reduceAdd,Nat.reduceLeDiff,Int.reduceLT,Int.reduceLE,↓u_setN]
 refine AllocQ.i0 fun i hi => ?_
 simp only [↓vcPre,↓z8,↓reduceIte,vcPost,vcStd,Nat.reduceEqDiff,reduceCtorEq,Nat.reduceAdd,Nat.reduceLeDiff,Int.reduceLT,Int.reduceLE,↓u_setN]
 have hsi:=Store.sub_set σ i (.box [.int .i64 0,.int .i64 0,.nils,.nils]) hi
 have hTi:(σ.set i (.box [.int .i64 0,.int .i64 0,.nils,.nils])) i=some (.box [.int .i64 0,.int .i64 0,.nils,.nils]):=Store.set_same _ _ _
 generalize σ.set i (.box [.int .i64 0,.int .i64 0,.nils,.nils])=T at hsi hTi ⊢
 refine (z22 (hr.mono hsi) (by omega)).Q ?_
 rintro r s ⟨id,rfl,h⟩
 simp only [↓vcPre,↓z8,↓reduceIte,vcPost,vcStd,Nat.reduceEqDiff,reduceCtorEq,Nat.reduceAdd,Nat.reduceLeDiff,Int.reduceLT,Int.reduceLE,↓u_setN]
 have hch:=z4d hu
 unfold chunkF chain at hch
 refine (z05 h (by omega) hu).Q ?_
 have n1:=yu (k:=1) (b:=false) hu
 generalize numM 1 B false=a at hch n1 ⊢
 obtain ⟨f,R1,b1⟩:=a
 simp only at hch n1
 rintro r s1 ⟨rfl,h1⟩
 simp only at h1
 simp only [↓vcPre,↓z8,↓reduceIte,vcPost,vcStd,Nat.reduceEqDiff,reduceCtorEq,Nat.reduceAdd,Nat.reduceLeDiff,Int.reduceLT,Int.reduceLE,↓u_setN]
 refine (z05 h1 (by omega) n1.1).Q ?_
 have n2:=yu (k:=1) (b:=b1) n1.1
 generalize numM 1 R1 b1=a at hch n2 ⊢
 obtain ⟨k,R2,b2⟩:=a
 simp only at hch n2
 rintro r s2 ⟨rfl,h2⟩
 simp only at h2
 simp only [↓vcPre,↓z8,↓reduceIte,vcPost,vcStd,Nat.reduceEqDiff,reduceCtorEq,Nat.reduceAdd,Nat.reduceLeDiff,Int.reduceLT,Int.reduceLE,↓u_setN]
 refine AllocQ.i0 fun ix hix => ?_
 have hTx:¬ i=ix:=fun e=>by rw [←e,h2.2.1 _ _ hTi] at hix;cases hix
 have hdx:¬ id=ix:=fun e=>by have:=h2.2.2;rw [e,hix] at this;cases this
 have hτx:T ix=none:=zo h2.2.1 hix
 simp only [Store.set_set,↓vcPre,↓z8,↓reduceIte,vcPost,vcStd,Nat.reduceEqDiff,reduceCtorEq,Nat.reduceAdd,Nat.reduceLeDiff,Int.reduceLT,Int.reduceLE,↓u_setN]
 have h3:=h2.setOther (o := .box [.int .i64 f,.int .i64 k,.nils,.nils]) hτx hdx
 have hx3:(s2.set ix (.box [.int .i64 f,.int .i64 k,.nils,.nils])) ix=some (.box [.int .i64 f,.int .i64 k,.nils,.nils]):=Store.set_same _ _ _
 generalize s2.set ix (.box [.int .i64 f,.int .i64 k,.nils,.nils])=s3 at h3 hx3 ⊢
 have tail:∀ (n:Int) (R3:List Int) (b3:Bool) (s4:Store),U8s R3→R3.length≤B.length→RP T id R3 b3 s4→s4 ix=some (.box [.int .i64 f,.int .i64 k,.nils,.nils]) →
  ((chunk B=none∧(rawM n R3 b3).2.2=true)∨∃ c,chunk B=some c∧(f,k,n,(rawM n R3 b3).1,(rawM n R3 b3).2.1,(rawM n R3 b3).2.2)=(c.fl,c.kind,(c.val.length:Int),c.val,c.rest,false)∧c.all=B.take (B.length - c.rest.length)∧c.rest=B.drop (B.length - c.rest.length)∧c.rest.length<B.length) →
  ∀ nn xx,bwp Tryz.prog Tsl.t217_24 [(0,v),(2,.ptr i 0),(5,.ptr id 0),(6,.ptr ix 0),(7,.int .i64 n)] s4 nn (fun e s => @EndQ e s ⟨Tsl.F217.slots,fun r s=>s=σ ∧
  match chunk B with
  | none=>r = .tup [.agg [.int .i64 0,.int .i64 0,.nils,.nils],.nils,.bool false]
  | some c=>∃ av rv,r = .tup [.agg [.int .i64 c.fl,.int .i64 c.kind,.sl 1 (c.val.map cB),av],rv,.bool true]∧Rd 1 τ0 (c.all.map cB) av∧Rd 1 τ0 (c.rest.map cB) rv⟩) xx:=by
  intro n R3 b3 s4 hu3 hl3 h4 hx4 hcc nn xx
  simp only [Tsl.t217_24]
  obtain ⟨k1,k2⟩:=h4.base
  simp only [↓vcPre,↓z8,↓reduceIte,vcPost,vcStd,Nat.reduceEqDiff,reduceCtorEq,Nat.reduceAdd,Nat.reduceLeDiff,Int.reduceLT,Int.reduceLE,↓u_setN]
  refine (z23 k1 (by omega) n).Q ?_
  have n5:=rawM_len (n:=n) (bad:=b3) (R:=R3)
  generalize rawM n R3 b3=q at hcc n5 ⊢
  obtain ⟨val,R4,b4⟩:=q
  simp only at hcc n5
  rintro r s5 ⟨rfl,h5⟩
  simp only at h5
  have hx5:s5 ix=some (.box [.int .i64 f,.int .i64 k,.nils,.nils]):=h5.2.1 _ _ (by rw [Store.del_ne _ (fun e=>hdx e.symm)];exact hx4)
  simp only [hx5,↓vcPre,↓z8,↓reduceIte,vcPost,vcStd,Nat.reduceEqDiff,reduceCtorEq,Nat.reduceAdd,Nat.reduceLeDiff,Int.reduceLT,Int.reduceLE,↓u_setN]
  have h6:=(h5.weak k2).setOther (o := .box [.int .i64 f,.int .i64 k,.sl 1 (val.map cB),.nils]) hτx hdx
  have hx6:(s5.set ix (.box [.int .i64 f,.int .i64 k,.sl 1 (val.map cB),.nils])) ix=some (.box [.int .i64 f,.int .i64 k,.sl 1 (val.map cB),.nils]):=Store.set_same _ _ _
  generalize s5.set ix (.box [.int .i64 f,.int .i64 k,.sl 1 (val.map cB),.nils])=s6 at h6 hx6 ⊢
  refine (z69 h6).Q ?_
  rintro r s7 ⟨rfl,rfl⟩
  have hi7:=h6.2.1 _ _ hTi
  have hσT:Store.sub σ s7:=Store.sub_trans hsi h6.2.1
  rcases hcc with ⟨hn,hb⟩ | ⟨c,hn,he,ha,hrr,hlt⟩
  ·subst hb
   simp only [hi7,↓vcPre,↓z8,↓reduceIte,vcPost,vcStd,Nat.reduceEqDiff,reduceCtorEq,Nat.reduceAdd,Nat.reduceLeDiff,Int.reduceLT,Int.reduceLE,↓u_setN]
   refine EndQ.to σ (.tup [.agg [.int .i64 0,.int .i64 0,.nils,.nils],.nils,.bool false]) ?_ (zb hσT hi) ⟨rfl,?_⟩
   ·show Env.res [(2,AV.ptr i 0),(3,AV.nils),(4,AV.bool false)] _ [RS.c 2 4 true,RS.t 3,RS.t 4]=_
    simp only [Store.set_same,↓vcPre,↓z8,↓reduceIte,vcPost,vcStd,Nat.reduceEqDiff,reduceCtorEq,Nat.reduceAdd,Nat.reduceLeDiff,Int.reduceLT,Int.reduceLE,↓u_setN]
   ·rw [hn]
  ·simp only [Prod.mk.injEq] at he
   obtain ⟨rfl,rfl,rfl,rfl,rfl,rfl⟩:=he
   simp only [hlen,↓vcPre,↓z8,↓reduceIte,vcPost,vcStd,Nat.reduceEqDiff,reduceCtorEq,Nat.reduceAdd,Nat.reduceLeDiff,Int.reduceLT,Int.reduceLE,↓u_setN]
   refine (z12 h6).Q ?_
   rintro r s8 ⟨rfl,rfl⟩
   simp only [Bool.false_eq_true,if_false]
   simp only [↓vcPre,↓z8,↓reduceIte,vcPost,vcStd,Nat.reduceEqDiff,reduceCtorEq,Nat.reduceAdd,Nat.reduceLeDiff,Int.reduceLT,Int.reduceLE,↓u_setN]
   have ew:IntKind.i64.wrap ((B.length:Int) - (c.rest.length:Int))=((B.length - c.rest.length:Nat):Int):=by rw [zd (by unfold I64;omega)];omega
   rw [ew]
   obtain ⟨av,hav,hra⟩:=hr0.slice (lo:=0) (hi:=B.length - c.rest.length) (by omega) (by simp)
   obtain ⟨rv,hrv,hrr2⟩:=hr0.sliceL (lo:=B.length - c.rest.length) (by simp)
   have hav':pSlice 1 v 0 (some ((B.length - c.rest.length:Nat):Int))=some av:=hav
   rw [List.drop_zero,←List.map_take,←ha] at hra
   rw [←List.map_drop,←hrr] at hrr2
   rw [hav',y7]
   have hat:=hra.isTup
   have hrt:=hrr2.isTup
   simp only [hx6,hat.1,hat.2,hrv,hTx,hi7,↓vcPre,↓z8,↓reduceIte,vcPost,vcStd,Nat.reduceEqDiff,reduceCtorEq,Nat.reduceAdd,Nat.reduceLeDiff,Int.reduceLT,Int.reduceLE,↓u_setN]
   refine EndQ.to σ (.tup [.agg [.int .i64 c.fl,.int .i64 c.kind,.sl 1 (c.val.map cB),av],rv,.bool true]) ?_ (zb (zb hσT (zo hsi hτx)) hi) ⟨rfl,?_⟩
   ·show Env.res [(2,AV.ptr i 0),(3,rv),(4,AV.bool true)] _ [RS.c 2 4 true,RS.t 3,RS.t 4]=_
    simp only [Store.set_same,↓vcPre,↓z8,↓reduceIte,vcPost,vcStd,Nat.reduceEqDiff,reduceCtorEq,Nat.reduceAdd,Nat.reduceLeDiff,Int.reduceLT,Int.reduceLE,↓u_setN]
   ·rw [hn];exact ⟨av,rv,rfl,hra,hrr2⟩
 refine ⟨fun g => ?_,fun g => ?_⟩
 ·rw [show (if andI f 16=0 then numM 1 R2 b2 else numM 2 R2 b2)=numM 2 R2 b2 from if_neg g] at hch
  obtain ⟨k1,k2⟩:=h3.base
  refine (z40 k1 (by omega) n2.1).Q ?_
  have n3:=yu (k:=2) (b:=b2) n2.1
  rintro r s4 ⟨rfl,h4⟩
  have hx4:=h4.2.1 _ _ (by rw [Store.del_ne _ (fun e=>hdx e.symm)];exact hx3)
  simp only [↓vcPre,↓z8,↓reduceIte,vcPost,vcStd,Nat.reduceEqDiff,reduceCtorEq,Nat.reduceAdd,Nat.reduceLeDiff,Int.reduceLT,Int.reduceLE,↓u_setN]
  exact tail _ _ _ s4 n3.1 (by omega) (h4.weak k2) hx4 hch _ _
 ·rw [show (if andI f 16=0 then numM 1 R2 b2 else numM 2 R2 b2)=numM 1 R2 b2 from if_pos g] at hch
  obtain ⟨k1,k2⟩:=h3.base
  refine (z05 k1 (by omega) n2.1).Q ?_
  have n3:=yu (k:=1) (b:=b2) n2.1
  rintro r s4 ⟨rfl,h4⟩
  have hx4:=h4.2.1 _ _ (by rw [Store.del_ne _ (fun e=>hdx e.symm)];exact hx3)
  simp only [↓vcPre,↓z8,↓reduceIte,vcPost,vcStd,Nat.reduceEqDiff,reduceCtorEq,Nat.reduceAdd,Nat.reduceLeDiff,Int.reduceLT,Int.reduceLE,↓u_setN]
  exact tail _ _ _ s4 n3.1 (by omega) (h4.weak k2) hx4 hch _ _
end Go.Am
namespace Go.Am
open Go.Proofs Go.Sort
structure Hel where
 asn:Int
 hold:Int
 id:Int
def Hel.c (h:Hel):List AV:=[.int .i64 h.asn,.int .i64 h.hold,.int .u32 h.id]
def hel0:Hel:=⟨0,0,0⟩
def badH (h:Hel):Prop:=h.asn<1∨65535<h.asn∨(h.hold≠0∧h.hold<3)∨65535<h.hold∨h.id=0
instance (h:Hel):Decidable (badH h):=by unfold badH;infer_instance
def encH (h:Hel):List Int:=[4,h.asn / 256 % 256,h.asn % 256,h.hold / 256 % 256,h.hold % 256]++b4 h.id++[0]
theorem c56 (h:Hel):Pur Tryz.prog 56 [.agg h.c] (.tup [.sl 1 ((if badH h then [] else encH h).map cB),.int .i64 (if badH h then 12 else 0)]):=by
 intro σ
 refine ze Tst.F56 (by simp [Tst.F56,Fn.mkX]) ?_
 simp only [Tst.F56,Fn.mkX,Tst.b56]
 have l3:h.c.length=3:=rfl
 have f0:List.take 1 h.c=[.int .i64 h.asn]:=rfl
 have f1:List.take 1 (List.drop 1 h.c)=[.int .i64 h.hold]:=rfl
 have f2:List.take 1 (List.drop 2 h.c)=[.int .u32 h.id]:=rfl
 simp only [↓vcPre,↓z8,↓reduceIte,vcPost,vcStd,Nat.reduceEqDiff,reduceCtorEq,Nat.reduceAdd,Nat.reduceLeDiff,Int.reduceLT,Int.reduceLE,↓u_setN]
 refine AllocQ.i0 fun p hp => ?_
 have sT:=Store.sub_set σ p (.box h.c) hp
 have Tp:=Store.set_same σ p (.box h.c)
 generalize σ.set p (.box h.c)=T at sT Tp ⊢
 simp only [Tp,l3,f0,f1,f2,↓vcPre,↓z8,↓reduceIte,vcPost,vcStd,Nat.reduceEqDiff,reduceCtorEq,Nat.reduceAdd,Nat.reduceLeDiff,Int.reduceLT,Int.reduceLE,↓u_setN]
 have bad:badH h → @EndQ [(2,.nils),(3,.int .i64 12)] T ⟨Tst.F56.slots,fun r s=>s=σ∧r = .tup [.sl 1 ((if badH h then [] else encH h).map cB),.int .i64 (if badH h then 12 else 0)]⟩:=fun hb=>by
  rw [if_pos hb,if_pos hb]
  exact EndQ.twoNil _ 1 σ rfl sT ⟨rfl,rfl⟩
 repeat' (with_reducible refine And.intro (fun _ => ?_) (fun _ => ?_))
 all_goals first
  | exact bad (by unfold badH;omega)
  | (exfalso;omega)
  | skip
 all_goals
  have hb:¬ badH h:=by unfold badH;omega
  rw [if_neg hb,if_neg hb]
  refine (zdn T).Q ?_
  rintro r s0 ⟨id,rfl,h0⟩
  simp only [↓vcPre,↓z8,↓reduceIte,vcPost,vcStd,Nat.reduceEqDiff,reduceCtorEq,Nat.reduceAdd,Nat.reduceLeDiff,Int.reduceLT,Int.reduceLE,↓u_setN]
  refine (z9q h0 (by simp) _).Q ?_
  rintro r s1 ⟨rfl,h1⟩
  have T1:=h1.2.1 _ _ Tp
  simp only [T1,l3,f0,↓vcPre,↓z8,↓reduceIte,vcPost,vcStd,Nat.reduceEqDiff,reduceCtorEq,Nat.reduceAdd,Nat.reduceLeDiff,Int.reduceLT,Int.reduceLE,↓u_setN]
  refine (z9r h1 (by decide) _).Q ?_
  rintro r s2 ⟨rfl,h2⟩
  have T2:=h2.2.1 _ _ Tp
  simp only [T2,l3,f1,↓vcPre,↓z8,↓reduceIte,vcPost,vcStd,Nat.reduceEqDiff,reduceCtorEq,Nat.reduceAdd,Nat.reduceLeDiff,Int.reduceLT,Int.reduceLE,↓u_setN]
  refine (z9r h2 (by simp [be1,be2]) _).Q ?_
  rintro r s3 ⟨rfl,h3⟩
  have T3:=h3.2.1 _ _ Tp
  simp only [T3,l3,f2,↓vcPre,↓z8,↓reduceIte,vcPost,vcStd,Nat.reduceEqDiff,reduceCtorEq,Nat.reduceAdd,Nat.reduceLeDiff,Int.reduceLT,Int.reduceLE,↓u_setN]
  refine (zie h3 (by simp [be1,be2]) _).Q ?_
  rintro r s4 ⟨rfl,h4⟩
  simp only [↓vcPre,↓z8,↓reduceIte,vcPost,vcStd,Nat.reduceEqDiff,reduceCtorEq,Nat.reduceAdd,Nat.reduceLeDiff,Int.reduceLT,Int.reduceLE,↓u_setN]
  refine (z9q h4 (by simp [be1,be2,be4,b4]) _).Q ?_
  rintro r s5 ⟨rfl,h5⟩
  have e5:[]++beN 1 (IntKind.u64.wrap 4)++beN 2 (IntKind.u64.wrap h.asn)++beN 2 (IntKind.u64.wrap h.hold)++beN 4 (IntKind.u64.wrap h.id)++beN 1 (IntKind.u64.wrap 0)=encH h:=by
   rw [be1,be1,be2,be2,be4];simp [encH]
  rw [e5] at h5
  simp only [↓vcPre,↓z8,↓reduceIte,vcPost,vcStd,Nat.reduceEqDiff,reduceCtorEq,Nat.reduceAdd,Nat.reduceLeDiff,Int.reduceLT,Int.reduceLE,↓u_setN]
  refine (zdo h5 (by simp [encH,b4])).Q ?_
  rintro r s6 ⟨rfl,rfl⟩
  simp only [↓vcPre,↓z8,↓reduceIte,vcPost,vcStd,Nat.reduceEqDiff,reduceCtorEq,Nat.reduceAdd,Nat.reduceLeDiff,Int.reduceLT,Int.reduceLE,↓u_setN]
  exact EndQ.to σ _ rfl (Store.sub_trans sT h5.2.1) ⟨rfl,rfl⟩
def decH (B:List Int):Hel×Nt3 :=
 if B.length<10 then (hel0,⟨2,0,[]⟩)
 else if B.getD 0 0≠4 then (hel0,⟨2,1,[0,4]⟩)
 else if B.getD 9 0≠(B.length:Int) - 10 then (hel0,⟨2,0,[]⟩)
 else if 0<B.getD 9 0 then (hel0,⟨2,4,[]⟩)
 else if B.getD 3 0*256+B.getD 4 0≠0∧B.getD 3 0*256+B.getD 4 0<3 then (hel0,⟨2,6,[]⟩)
 else if num [B.getD 5 0,B.getD 6 0,B.getD 7 0,B.getD 8 0]=0 then (hel0,⟨2,3,[]⟩)
 else if B.getD 1 0*256+B.getD 2 0=0 then (hel0,⟨2,2,[]⟩)
 else (⟨B.getD 1 0*256+B.getD 2 0,B.getD 3 0*256+B.getD 4 0,num [B.getD 5 0,B.getD 6 0,B.getD 7 0,B.getD 8 0]⟩,nt0)
theorem vz {k:Nat} {R:List Int} (h:k≤R.length):numM k R false=(num (R.take k),R.drop k,false):=by
 unfold numM
 rw [xt (by omega) (by omega)]
 simp
theorem z0t (n:Int) (v:AV) (hv:v.isTup=false∧v.cells=[v]):Pur Tryz.prog 194 [.int .i64 n,v] (.agg [.int .i64 2,.int .i64 n,v]):=by
 refine zw Tst.F194 (by simp [Tst.F194,Fn.mkX]) fun σ => ?_
 simp only [Tst.F194,Fn.mkX,Tst.b194]
 simp only [↓vcPre,↓z8,↓reduceIte,vcPost,vcStd,Nat.reduceEqDiff,reduceCtorEq,Nat.reduceAdd,Nat.reduceLeDiff,Int.reduceLT,Int.reduceLE,↓u_setN]
 refine AllocQ.i0 fun p hp => ?_
 have sT:=Store.sub_set σ p (.box [AV.int .i64 0,.int .i64 0,.nils]) hp
 have Tp:=Store.set_same σ p (.box [AV.int .i64 0,.int .i64 0,.nils])
 generalize σ.set p (.box [AV.int .i64 0,.int .i64 0,.nils])=T at sT Tp ⊢
 have l1:v.cells.length=1:=by rw [hv.2];rfl
 simp only [hv.1,hv.2,Tp,↓vcPre,↓z8,↓reduceIte,vcPost,vcStd,Nat.reduceEqDiff,reduceCtorEq,Nat.reduceAdd,Nat.reduceLeDiff,Int.reduceLT,Int.reduceLE,↓u_setN]
 exact zb sT hp
end Go.Am
namespace Go.Am.Ts35
open Go.Proofs Go.Am.B
def t160_22:BC := .seq (.block 0 (z [m 22 0,u 23 .len 22,c 24 .lss 23 10,m 21 24] [2,3,4,5,6,7,21] (.cond (.t 21) (z [p 25 (.build [(.int .i64 0),(.int .i64 0),(.int .u32 0)] []) [],g 26 194 [.c (.int .i64 0),.c .nils],s 3 2 25,s 3 3 26] [2,3] .ret) (z [m 28 5,c 29 .neq 28 4,m 27 29] [2,3,4,6,7,27] (.cond (.t 27) (z [p 30 (.build [(.int .i64 0),(.int .i64 0),(.int .u32 0)] []) [],⟨some 31,none,.alloc (.mksl 1 2),[.c (.int .u8 0),.c (.int .u8 4)]⟩,g 32 194 [.c (.int .i64 1),.t 31],s 3 2 30,s 3 3 32] [2,3] .ret) (z [m 34 7,m 35 4,g 36 195 [.t 35],b 37 .neq 34 36,m 33 37] [2,3,6,7,33] (.cond (.t 33) (z [p 38 (.build [(.int .i64 0),(.int .i64 0),(.int .u32 0)] []) [],g 39 194 [.c (.int .i64 0),.c .nils],s 3 2 38,s 3 3 39] [2,3] .ret) (z [m 41 7,c 42 .gtr 41 0,m 40 42] [2,3,6,40] (.cond (.t 40) (z [p 43 (.build [(.int .i64 0),(.int .i64 0),(.int .u32 0)] []) [],g 44 194 [.c (.int .i64 4),.c .nils],s 3 2 43,s 3 3 44] [2,3] .ret) (z [f 46 1 6,l 47 1 46,c 48 .neq 47 0,m 49 48,⟨some 50,some (49,true),.pure (.fld 1),[.t 6]⟩,⟨some 51,some (49,true),.load (.ld 1 false),[.t 50]⟩,⟨some 52,some (49,true),.pure (.bin .lss),[.t 51,.c (.int .i64 3)]⟩,⟨some 53,none,.pick,[.t 49,.t 52,.c (.bool false)]⟩,m 45 53] [2,3,6,45] (.cond (.t 45) (z [p 54 (.build [(.int .i64 0),(.int .i64 0),(.int .u32 0)] []) [],g 55 194 [.c (.int .i64 6),.c .nils],s 3 2 54,s 3 3 55] [2,3] .ret) (z [f 57 2 6,l 58 1 57,p 59 (.bin .eql) [.t 58,.c (.int .u32 0)],m 56 59] [2,3,6,56] (.cond (.t 56) (z [p 60 (.build [(.int .i64 0),(.int .i64 0),(.int .u32 0)] []) [],g 61 194 [.c (.int .i64 3),.c .nils],s 3 2 60,s 3 3 61] [2,3] .ret) (z [f 63 0 6,l 64 1 63,c 65 .eql 64 0,m 62 65] [2,3,6,62] (.cond (.t 62) (z [p 66 (.build [(.int .i64 0),(.int .i64 0),(.int .u32 0)] []) [],g 67 194 [.c (.int .i64 2),.c .nils],s 3 2 66,s 3 3 67] [2,3] .ret) .skip))))))))))))))) (z [⟨some 68,none,.load (.ld 3 true),[.t 6]⟩,p 69 (.build [(.int .i64 0),(.int .i64 0),.nils] []) [],s 3 2 68,s 3 3 69] [2,3] .ret)
def b160:BC:=z [⟨some 2,none,.alloc (.alloc [(.int .i64 0),(.int .i64 0),(.int .u32 0)]),[]⟩,⟨some 3,none,.alloc (.alloc [(.int .i64 0),(.int .i64 0),.nils]),[]⟩] [0,2,3] (z [m 8 0,g 9 190 [.t 8],m 4 9] [0,2,3,4] (z [m 10 4,g 11 191 [.t 10],m 5 11] [0,2,3,4,5] (z [m 12 4,g 13 192 [.t 12],m 14 4,g 15 192 [.t 14],m 16 4,g 17 193 [.t 16],p 18 (.build [(.int .i64 0),(.int .i64 0),(.int .u32 0)] [(0,1),(1,1),(2,1)]) [.t 13,.t 15,.t 17],⟨some 6,none,.alloc (.alloc [(.int .i64 0),(.int .i64 0),(.int .u32 0)]),[]⟩,s 3 6 18] [0,2,3,4,5,6] (z [m 19 4,g 20 191 [.t 19],m 7 20] [0,2,3,4,5,6,7] t160_22))))
def F160:Fn Tryz.prog 160:=Fn.mkX false b160 [.c 2 3 true,.c 3 3 true] 70 Tryz.f160 _ Tryz.func160 (by decide) rfl Tryz.ntmps160 (by kernel_rfl) (by kernel_rfl)
end Go.Am.Ts35
namespace Go.Am
open Go.Proofs Go.Sort
def decV (x:Hel×Nt3):AV := .tup [.agg x.1.c,.agg x.2.c]
section
variable {σ T:Store} {B:List Int} {v:AV} {p2 p3 p6:Nat} {nn:Env→Store→Prop} {xx:Nat→Env→Store→Prop}
theorem z3r (hs:Store.sub σ T) (h2:σ p2=none) (h3:σ p3=none) (n23:¬ p2=p3) (hh:Hel) (n:Nt3) (ns:List AV) (hns:ns=ntC n∧n.data=[]∨ns=n.c) (h:decH B=(hh,n)) :
 @EndQ [(2,.ptr p2 0),(3,.ptr p3 0)] ((T.set p2 (.box hh.c)).set p3 (.box ns)) ⟨Tst.F160.slots,fun r s=>s=σ∧r=decV (decH B)⟩:=by
 have l3:ns.length=3:=by rcases hns with ⟨rfl,_⟩ | rfl <;> rfl
 have t3:List.take 3 ns=ns:=List.take_of_length_le (by omega)
 have l2:hh.c.length=3:=rfl
 have t2:List.take 3 hh.c=hh.c:=rfl
 have hr:Env.res [(2,AV.ptr p2 0),(3,AV.ptr p3 0)] ((T.set p2 (.box hh.c)).set p3 (.box ns)) Tst.F160.slots=some (.tup [.agg hh.c,.agg ns]):=by
  show Env.res [(2,AV.ptr p2 0),(3,AV.ptr p3 0)] _ [RS.c 2 3 true,RS.c 3 3 true]=_
  simp only [n23,Store.set_same,l3,t3,l2,t2,Nat.le_refl,↓vcPre,↓z8,↓reduceIte,vcPost,vcStd,Nat.reduceEqDiff,reduceCtorEq,Nat.reduceAdd,Nat.reduceLeDiff,Int.reduceLT,Int.reduceLE,↓u_setN]
 rw [h]
 refine EndQ.impT hr (WeakL.forget (zb (zb hs h2) h3) ?_)
 have fin:σ=σ∧AV.tup [.agg hh.c,.agg n.c]=decV (hh,n):=⟨rfl,rfl⟩
 rcases hns with ⟨rfl,hd⟩ | rfl
 ·exact WeakL.pos 1 rfl (up (z0d n hd) (WeakL.pure fin))
 ·exact WeakL.pure fin
theorem z7b {q:Nat} (hs:Store.sub σ T) (h2:σ p2=none) (h3:σ p3=none) (hq:σ q=none) (n23:¬ p2=p3) (nq2:¬ q=p2) (nq3:¬ q=p3) (Tq:T q=some (.arr 1 [[.int .u8 0],[.int .u8 4]])) (h:decH B=(hel0,⟨2,1,[0,4]⟩)) :
 @EndQ [(2,.ptr p2 0),(3,.ptr p3 0)] ((T.set p2 (.box hel0.c)).set p3 (.box [.int .i64 2,.int .i64 1,.os q 1 0 2])) ⟨Tst.F160.slots,fun r s=>s=σ∧r=decV (decH B)⟩:=by
 have hr:Env.res [(2,AV.ptr p2 0),(3,AV.ptr p3 0)] ((T.set p2 (.box hel0.c)).set p3 (.box [.int .i64 2,.int .i64 1,.os q 1 0 2])) Tst.F160.slots=some (.tup [.agg hel0.c,.agg [.int .i64 2,.int .i64 1,.os q 1 0 2]]):=by
  have l2:hel0.c.length=3:=rfl
  have t2:List.take 3 hel0.c=hel0.c:=rfl
  show Env.res [(2,AV.ptr p2 0),(3,AV.ptr p3 0)] _ [RS.c 2 3 true,RS.c 3 3 true]=_
  simp only [n23,Store.set_same,l2,t2,Nat.le_refl,↓vcPre,↓z8,↓reduceIte,vcPost,vcStd,Nat.reduceEqDiff,reduceCtorEq,Nat.reduceAdd,Nat.reduceLeDiff,Int.reduceLT,Int.reduceLE,↓u_setN]
 rw [h]
 refine EndQ.impT hr (WeakL.pos 1 rfl (Weak.agg ?_))
 refine WeakL.freeze 2 rfl ((Store.set_ne _ _ nq3).trans ((Store.set_ne _ _ nq2).trans Tq)) (by simp) ?_
 refine WeakL.pure ⟨fun c hc => ?_,?_⟩
 ·simp at hc
  rcases hc with rfl | rfl | rfl <;> rfl
 ·refine WeakL.forget (sub_del (zb (zb hs h2) h3) hq) (WeakL.pure ⟨rfl,rfl⟩)
set_option maxHeartbeats 1000000 in
theorem z7v {id:Nat} {R:List Int} {bad:Bool} {x y:Int} {hh:Hel} (hr:Rd 1 σ (B.map cB) v) (hB:B.length≤1000000) (hs:Store.sub σ T) (h2:σ p2=none) (h3:σ p3=none) (n23:¬ p2=p3)
 (T2:T p2=some (.box hel0.c)) (T3:T p3=some (.box [.int .i64 0,.int .i64 0,.nils])) (T6:T p6=some (.box hh.c)) (hR:RP σ id R bad T)
 (hf:10≤B.length→x=B.getD 0 0∧y=B.getD 9 0∧bad=false∧R.length=B.length - 10∧hh=⟨B.getD 1 0*256+B.getD 2 0,B.getD 3 0*256+B.getD 4 0,num [B.getD 5 0,B.getD 6 0,B.getD 7 0,B.getD 8 0]⟩) :
 bwp Tryz.prog Ts35.t160_22 [(0,v),(2,.ptr p2 0),(3,.ptr p3 0),(4,.ptr id 0),(5,.int .i64 x),(6,.ptr p6 0),(7,.int .i64 y)] T nn (fun e τ => @EndQ e τ ⟨Tst.F160.slots,fun r s=>s=σ∧r=decV (decH B)⟩) xx:=by
 simp only [Ts35.t160_22]
 have lv:pv .len [v]=some (.int .i64 (B.length:Int)):=by rw [hr.2];simp
 have nils2:(AV.nils).isTup=false∧(AV.nils).cells=[.nils]:=⟨rfl,rfl⟩
 have zh:∀ w:List AV,w=hel0.c→splice 0 hel0.c w=some hel0.c:=fun w e=>by subst e;rfl
 have zh0:splice 0 [AV.int .i64 0,.int .i64 0,.int .u32 0] hel0.c=some hel0.c:=rfl
 have zhh:splice 0 hh.c hel0.c=some hh.c:=rfl
 have zn:∀ (a:Int) (w:AV),splice 0 [AV.int .i64 2,.int .i64 a,w] [AV.int .i64 0,.int .i64 0,.nils]=some [AV.int .i64 2,.int .i64 a,w]:=fun _ _=>rfl
 have z00:splice 0 [AV.int .i64 0,.int .i64 0,.nils] [AV.int .i64 0,.int .i64 0,.nils]=some [AV.int .i64 0,.int .i64 0,.nils]:=rfl
 have l3:hh.c.length=3:=rfl
 have t3:List.take 3 hh.c=hh.c:=rfl
 have l30:hel0.c.length=3:=rfl
 have f0:List.take 1 hh.c=[.int .i64 hh.asn]:=rfl
 have f1:List.take 1 (List.drop 1 hh.c)=[.int .i64 hh.hold]:=rfl
 have f2:List.take 1 (List.drop 2 hh.c)=[.int .u32 hh.id]:=rfl
 have n32:¬ p3=p2:=fun e=>n23 e.symm
 have simple:=fun (U:Store) (hU:U=T) (a:Int) (h:decH B=(hel0,⟨2,a,[]⟩))=>z3r (B:=B) (T:=U) (hU ▸ hs) h2 h3 n23 hel0 ⟨2,a,[]⟩ [.int .i64 2,.int .i64 a,.nils] (.inl ⟨rfl,rfl⟩) h
 simp only [lv,↓vcPre,↓z8,↓reduceIte,vcPost,vcStd,Nat.reduceEqDiff,reduceCtorEq,Nat.reduceAdd,Nat.reduceLeDiff,Int.reduceLT,Int.reduceLE,↓u_setN]
 refine ⟨fun c1 => ?_,fun c1 => ?_⟩
 ·refine (z0t 0 .nils nils2).Q ?_
  simp only [T2,zh0,l30,n32,T3,zn,↓vcPre,↓z8,↓reduceIte,vcPost,vcStd,Nat.reduceEqDiff,reduceCtorEq,Nat.reduceAdd,Nat.reduceLeDiff,Int.reduceLT,Int.reduceLE,↓u_setN]
  exact simple T rfl 0 (by unfold decH;rw [if_pos (by omega)])
 ·obtain ⟨rfl,rfl,rfl,hRl,rfl⟩:=hf (by omega)
  obtain ⟨D,hBD⟩:∃ D,decH B=D:=⟨_,rfl⟩
  have hD:D=decH B:=hBD.symm
  unfold decH at hD
  rw [if_neg (by omega)] at hD
  refine ⟨fun c2 => ?_,fun c2 => ?_⟩
  ·rw [if_pos c2] at hD
   refine AllocQ.i0 fun q hq => ?_
   have nq2:¬ p2=q:=fun e=>by subst e;rw [T2] at hq;cases hq
   have nq3:¬ p3=q:=fun e=>by subst e;rw [T3] at hq;cases hq
   have sU:=Store.sub_set T q (.arr 1 [[AV.int .u8 0],[.int .u8 4]]) hq
   have U2:=sU _ _ T2
   have U3:=sU _ _ T3
   have Uq:=Store.set_same T q (.arr 1 [[AV.int .u8 0],[.int .u8 4]])
   have hσq:=zo hs hq
   simp only [↓vcPre,↓z8,↓reduceIte,vcPost,vcStd,Nat.reduceEqDiff,reduceCtorEq,Nat.reduceAdd,Nat.reduceLeDiff,Int.reduceLT,Int.reduceLE,↓u_setN]
   generalize T.set q (.arr 1 [[AV.int .u8 0],[.int .u8 4]])=U at sU U2 U3 Uq ⊢
   refine (z0t 1 (.os q 1 0 2) ⟨rfl,rfl⟩).Q ?_
   simp only [U2,zh0,l30,n32,U3,zn,↓vcPre,↓z8,↓reduceIte,vcPost,vcStd,Nat.reduceEqDiff,reduceCtorEq,Nat.reduceAdd,Nat.reduceLeDiff,Int.reduceLT,Int.reduceLE,↓u_setN]
   exact z7b (Store.sub_trans hs sU) h2 h3 hσq n23 (fun e=>nq2 e.symm) (fun e=>nq3 e.symm) Uq (hBD.trans hD)
  ·rw [if_neg (by simpa using c2)] at hD
   refine (z12 hR).Q ?_
   rintro r T ⟨rfl,rfl⟩
   have hRi:(R.length:Int)=(B.length:Int) - 10:=by omega
   rw [←hRi] at hD
   simp only [↓vcPre,↓z8,↓reduceIte,vcPost,vcStd,Nat.reduceEqDiff,reduceCtorEq,Nat.reduceAdd,Nat.reduceLeDiff,Int.reduceLT,Int.reduceLE,↓u_setN]
   refine ⟨fun c3 => ?_,fun c3=>⟨fun c4 => ?_,fun c4 => ?_⟩⟩
   ·rw [if_pos c3] at hD
    refine (z0t 0 .nils nils2).Q ?_
    simp only [T2,zh0,l30,n32,T3,zn,↓vcPre,↓z8,↓reduceIte,vcPost,vcStd,Nat.reduceEqDiff,reduceCtorEq,Nat.reduceAdd,Nat.reduceLeDiff,Int.reduceLT,Int.reduceLE,↓u_setN]
    exact simple T rfl 0 (hBD.trans hD)
   ·rw [if_neg (by simpa using c3),if_pos c4] at hD
    refine (z0t 4 .nils nils2).Q ?_
    simp only [T2,zh0,l30,n32,T3,zn,↓vcPre,↓z8,↓reduceIte,vcPost,vcStd,Nat.reduceEqDiff,reduceCtorEq,Nat.reduceAdd,Nat.reduceLeDiff,Int.reduceLT,Int.reduceLE,↓u_setN]
    exact simple T rfl 4 (hBD.trans hD)
   ·rw [if_neg (by simpa using c3),if_neg c4] at hD
    simp only [T6,l3,f0,f1,f2,↓vcPre,↓z8,↓reduceIte,vcPost,vcStd,Nat.reduceEqDiff,reduceCtorEq,Nat.reduceAdd,Nat.reduceLeDiff,Int.reduceLT,Int.reduceLE,↓u_setN]
    refine ⟨fun c5=>⟨fun c6 => ?_,fun c6 => ?_⟩,fun c5 => ?_⟩
    ·rw [if_pos ⟨c5,c6⟩] at hD
     refine (z0t 6 .nils nils2).Q ?_
     simp only [T2,zh0,l30,n32,T3,zn,↓vcPre,↓z8,↓reduceIte,vcPost,vcStd,Nat.reduceEqDiff,reduceCtorEq,Nat.reduceAdd,Nat.reduceLeDiff,Int.reduceLT,Int.reduceLE,↓u_setN]
     exact simple T rfl 6 (hBD.trans hD)
    all_goals
     rw [if_neg (by omega)] at hD
     refine ⟨fun c7 => ?_,fun c7 => ?_⟩
     ·rw [if_pos c7] at hD
      refine (z0t 3 .nils nils2).Q ?_
      simp only [T2,zh0,l30,n32,T3,zn,↓vcPre,↓z8,↓reduceIte,vcPost,vcStd,Nat.reduceEqDiff,reduceCtorEq,Nat.reduceAdd,Nat.reduceLeDiff,Int.reduceLT,Int.reduceLE,↓u_setN]
      exact simple T rfl 3 (hBD.trans hD)
     ·rw [if_neg c7] at hD
      refine ⟨fun c8 => ?_,fun c8 => ?_⟩
      ·rw [if_pos c8] at hD
       refine (z0t 2 .nils nils2).Q ?_
       simp only [T2,zh0,l30,n32,T3,zn,↓vcPre,↓z8,↓reduceIte,vcPost,vcStd,Nat.reduceEqDiff,reduceCtorEq,Nat.reduceAdd,Nat.reduceLeDiff,Int.reduceLT,Int.reduceLE,↓u_setN]
       exact simple T rfl 2 (hBD.trans hD)
      ·rw [if_neg c8] at hD
       simp only [T6,l3,t3,T2,zhh,n32,T3,z00,↓vcPre,↓z8,↓reduceIte,vcPost,vcStd,Nat.reduceEqDiff,reduceCtorEq,Nat.reduceAdd,Nat.reduceLeDiff,Int.reduceLT,Int.reduceLE,↓u_setN]
       exact z3r hs h2 h3 n23 _ nt0 _ (.inl ⟨rfl,rfl⟩) (hBD.trans hD)
end
end Go.Am
namespace Go.Am
open Go.Proofs Go.Sort
theorem z8y {B:List Int} (h:10≤B.length):∃ a0 a1 a2 a3 a4 a5 a6 a7 a8 a9 r,B=a0::a1::a2::a3::a4::a5::a6::a7::a8::a9::r:=by
 match B,h with
 | a0::a1::a2::a3::a4::a5::a6::a7::a8::a9::r,_=>exact ⟨a0,a1,a2,a3,a4,a5,a6,a7,a8,a9,r,rfl⟩
set_option maxHeartbeats 1000000 in
theorem zik {σ:Store} {B:List Int} {v:AV} (hr:Rd 1 σ (B.map cB) v) (hB:B.length≤1000000) (hu:U8s B):ACalls Tryz.prog 160 [v] σ (fun r s=>s=σ∧r=decV (decH B)):=by
 refine ze Ts35.F160 (by simp [Ts35.F160,Fn.mkX]) ?_
 simp only [Ts35.F160,Fn.mkX,Ts35.b160]
 simp only [↓vcPre,↓z8,↓reduceIte,vcPost,vcStd,Nat.reduceEqDiff,reduceCtorEq,Nat.reduceAdd,Nat.reduceLeDiff,Int.reduceLT,Int.reduceLE,↓u_setN]
 refine AllocQ.i0 fun p2 h2 => ?_
 simp only [↓vcPre,↓z8,↓reduceIte,vcPost,vcStd,Nat.reduceEqDiff,reduceCtorEq,Nat.reduceAdd,Nat.reduceLeDiff,Int.reduceLT,Int.reduceLE,↓u_setN]
 refine AllocQ.i1 fun p3 h32 h23 h3 => ?_
 have sT:=y0 (o := .box [AV.int .i64 0,.int .i64 0,.int .u32 0]) (p := .box [AV.int .i64 0,.int .i64 0,.nils]) h2 h3 h32
 have T2:((σ.set p2 (.box [AV.int .i64 0,.int .i64 0,.int .u32 0])).set p3 (.box [AV.int .i64 0,.int .i64 0,.nils])) p2=some (.box hel0.c):=by rw [Store.set_ne _ _ h23];exact Store.set_same _ _ _
 have T3:=Store.set_same (σ.set p2 (.box [AV.int .i64 0,.int .i64 0,.int .u32 0])) p3 (.box [AV.int .i64 0,.int .i64 0,.nils])
 simp only [↓vcPre,↓z8,↓reduceIte,vcPost,vcStd,Nat.reduceEqDiff,reduceCtorEq,Nat.reduceAdd,Nat.reduceLeDiff,Int.reduceLT,Int.reduceLE,↓u_setN]
 generalize (σ.set p2 (.box [AV.int .i64 0,.int .i64 0,.int .u32 0])).set p3 (.box [AV.int .i64 0,.int .i64 0,.nils])=T at sT T2 T3 ⊢
 refine (z22 (hr.mono sT) (by omega)).Q ?_
 rintro r s0 ⟨id,rfl,r0⟩
 simp only [↓vcPre,↓z8,↓reduceIte,vcPost,vcStd,Nat.reduceEqDiff,reduceCtorEq,Nat.reduceAdd,Nat.reduceLeDiff,Int.reduceLT,Int.reduceLE,↓u_setN]
 refine (z05 r0 (by omega) hu).Q ?_
 rintro r s1 ⟨rfl,r1⟩
 obtain ⟨u1,l1⟩:=yu (k:=1) (b:=false) hu
 generalize hx1:numM 1 B false=x1 at r1 u1 l1 ⊢
 simp only [↓vcPre,↓z8,↓reduceIte,vcPost,vcStd,Nat.reduceEqDiff,reduceCtorEq,Nat.reduceAdd,Nat.reduceLeDiff,Int.reduceLT,Int.reduceLE,↓u_setN]
 refine (z40 r1 (by omega) u1).Q ?_
 rintro r s2 ⟨rfl,r2⟩
 obtain ⟨u2,l2⟩:=yu (k:=2) (b:=x1.2.2) u1
 generalize hx2:numM 2 x1.2.1 x1.2.2=x2 at r2 u2 l2 ⊢
 simp only [↓vcPre,↓z8,↓reduceIte,vcPost,vcStd,Nat.reduceEqDiff,reduceCtorEq,Nat.reduceAdd,Nat.reduceLeDiff,Int.reduceLT,Int.reduceLE,↓u_setN]
 refine (z40 r2 (by omega) u2).Q ?_
 rintro r s3 ⟨rfl,r3⟩
 obtain ⟨u3,l3⟩:=yu (k:=2) (b:=x2.2.2) u2
 generalize hx3:numM 2 x2.2.1 x2.2.2=x3 at r3 u3 l3 ⊢
 simp only [↓vcPre,↓z8,↓reduceIte,vcPost,vcStd,Nat.reduceEqDiff,reduceCtorEq,Nat.reduceAdd,Nat.reduceLeDiff,Int.reduceLT,Int.reduceLE,↓u_setN]
 refine (z68 r3 (by omega) u3).Q ?_
 rintro r s4 ⟨rfl,r4⟩
 obtain ⟨u4,l4⟩:=yu (k:=4) (b:=x3.2.2) u3
 generalize hx4:numM 4 x3.2.1 x3.2.2=x4 at r4 u4 l4 ⊢
 simp only [↓vcPre,↓z8,↓reduceIte,vcPost,vcStd,Nat.reduceEqDiff,reduceCtorEq,Nat.reduceAdd,Nat.reduceLeDiff,Int.reduceLT,Int.reduceLE,↓u_setN]
 refine AllocQ.i0 fun p6 h6 => ?_
 have sU:Store.sub s4 ((s4.set p6 (.box [AV.int .i64 0,.int .i64 0,.int .u32 0])).set p6 (.box (⟨x2.1,x3.1,x4.1⟩:Hel).c)):=zb (Store.sub_set _ _ _ h6) h6
 have U6:=Store.set_same (s4.set p6 (.box [AV.int .i64 0,.int .i64 0,.int .u32 0])) p6 (.box (⟨x2.1,x3.1,x4.1⟩:Hel).c)
 have z6:splice 0 [AV.int .i64 x2.1,.int .i64 x3.1,.int .u32 x4.1] [AV.int .i64 0,.int .i64 0,.int .u32 0]=some (⟨x2.1,x3.1,x4.1⟩:Hel).c:=rfl
 simp only [z6,↓vcPre,↓z8,↓reduceIte,vcPost,vcStd,Nat.reduceEqDiff,reduceCtorEq,Nat.reduceAdd,Nat.reduceLeDiff,Int.reduceLT,Int.reduceLE,↓u_setN]
 generalize (s4.set p6 (.box [AV.int .i64 0,.int .i64 0,.int .u32 0])).set p6 (.box (⟨x2.1,x3.1,x4.1⟩:Hel).c)=U at sU U6 ⊢
 have n6:¬ p6=id:=fun e=>by subst e;rw [r4.2.2] at h6;cases h6
 have r4':RP (U.del id) id x4.2.1 x4.2.2 U:=⟨by simp,zz _ _,sU _ _ r4.2.2⟩
 have hTU:Store.sub T (U.del id):=sub_del (Store.sub_trans r4.2.1 sU) r4.1
 refine (z05 r4' (by omega) u4).Q ?_
 rintro r s5 ⟨rfl,r5⟩
 generalize hx5:numM 1 x4.2.1 x4.2.2=x5 at r5 ⊢
 have V6:s5 p6=some (.box (⟨x2.1,x3.1,x4.1⟩:Hel).c):=r5.2.1 _ _ ((Store.del_ne _ n6).trans U6)
 have hT5:=Store.sub_trans hTU r5.2.1
 simp only [↓vcPre,↓z8,↓reduceIte,vcPost,vcStd,Nat.reduceEqDiff,reduceCtorEq,Nat.reduceAdd,Nat.reduceLeDiff,Int.reduceLT,Int.reduceLE,↓u_setN]
 refine z7v hr hB (Store.sub_trans sT hT5) h2 h3 h23 (hT5 _ _ T2) (hT5 _ _ T3) V6 (r5.weak (Store.sub_trans sT hTU)) fun h10 => ?_
 obtain ⟨a0,a1,a2,a3,a4,a5,a6,a7,a8,a9,rr,rfl⟩:=z8y h10
 have e1:x1=(a0,a1::a2::a3::a4::a5::a6::a7::a8::a9::rr,false):=by rw [←hx1,vz (by simp)];simp [num]
 subst e1
 have e2:x2=(a1*256+a2,a3::a4::a5::a6::a7::a8::a9::rr,false):=by rw [←hx2,vz (by simp)];simp [num]
 subst e2
 have e3:x3=(a3*256+a4,a5::a6::a7::a8::a9::rr,false):=by rw [←hx3,vz (by simp)];simp [num]
 subst e3
 have e4:x4=(num [a5,a6,a7,a8],a9::rr,false):=by rw [←hx4,vz (by simp)];simp
 subst e4
 have e5:x5=(a9,rr,false):=by rw [←hx5,vz (by simp)];simp [num]
 subst e5
 exact ⟨rfl,rfl,rfl,by simp,rfl⟩
end Go.Am
namespace Go.Am
open Go.Proofs Go.Sort
theorem c22 (n lo hi:Int) (h1:I64 n) (h2:0≤lo) (h3:lo≤hi) (h4:hi<4294967296):Pur Tryz.prog 22 [.int .i64 n,.int .i64 lo,.int .i64 hi] (.int .i64 (lo+(n % (hi - lo+1)))):=by
 refine zw Tst.F22 (by simp [Tst.F22,Fn.mkX]) fun σ => ?_
 simp only [Tst.F22,Fn.mkX,Tst.b22]
 simp only [↓vcPre,↓z8,↓reduceIte,vcPost,vcStd,Nat.reduceEqDiff,reduceCtorEq,Nat.reduceAdd,Nat.reduceLeDiff,Int.reduceLT,Int.reduceLE,↓u_setN]
 have w:∀ {x:Int},-9223372036854775808≤x→x≤9223372036854775807→IntKind.i64.wrap x=x:=fun a b=>zd ⟨a,b⟩
 rw [w (x:=hi - lo) (by omega) (by omega),w (x:=hi - lo+1) (by omega) (by omega)]
 have hm:0<hi - lo+1:=by omega
 generalize hd:hi - lo+1=d at *
 have he:n % d=if n.tmod d<0 then n.tmod d+d else n.tmod d:=by
  rw [Int.tmod_eq_emod]
  have:=Int.emod_nonneg n (b:=d) (by omega)
  have:=Int.emod_lt_of_pos n (b:=d) (by omega)
  split <;> split <;> omega
 have b1:=Int.emod_nonneg n (b:=d) (by omega)
 have b2:=Int.emod_lt_of_pos n (b:=d) (by omega)
 refine ⟨by omega,fun hn => ?_,fun hn => ?_⟩
 ·rw [if_pos hn] at he
  rw [w (x:=n.tmod d+hi) (by omega) (by omega),w (x:=n.tmod d+hi - lo) (by omega) (by omega),w (x:=n.tmod d+hi - lo+1) (by omega) (by omega),w (by omega) (by omega)];omega
 ·rw [if_neg hn] at he
  rw [w (by omega) (by omega)];omega
end Go.Am
namespace Go.Am
open Go.Proofs Go.Sort
theorem zd5 (n:Int) (h:I64 n):Pur Tryz.prog 128 [.int .i64 n] (.int .u32 (maskF n)):=by
 refine zw Tst.F128 (by simp [Tst.F128,Fn.mkX]) fun σ => ?_
 simp only [Tst.F128,Fn.mkX,Tst.b128]
 simp only [↓vcPre,↓z8,↓reduceIte,vcPost,vcStd,Nat.reduceEqDiff,reduceCtorEq,Nat.reduceAdd,Nat.reduceLeDiff,Int.reduceLT,Int.reduceLE,↓u_setN]
 refine ⟨fun h1=>by simp [maskF,h1],fun h1 => ?_⟩
 have e:IntKind.i64.wrap (32 - if 32<n then 32 else n)=32 - min n 32:=by
  rw [zd (by unfold I64;split <;> omega)];split <;> omega
 rw [e]
 exact ⟨by omega,by simp [maskF,h1]⟩
theorem c71 (a n:Int):Pur Tryz.prog 71 [.agg [.int .u32 a,.int .i64 n]] (.bool (rightF a n)):=by
 refine zw Tst.F71 (by simp [Tst.F71,Fn.mkX]) fun σ => ?_
 simp only [Tst.F71,Fn.mkX,Tst.b71]
 simp only [↓vcPre,↓z8,↓reduceIte,vcPost,vcStd,Nat.reduceEqDiff,reduceCtorEq,Nat.reduceAdd,Nat.reduceLeDiff,Int.reduceLT,Int.reduceLE,↓u_setN]
 refine AllocQ.i0 fun i hi => ?_
 simp only [*,↓vcPre,↓z8,↓reduceIte,vcPost,vcStd,Nat.reduceEqDiff,reduceCtorEq,Nat.reduceAdd,Nat.reduceLeDiff,Int.reduceLT,Int.reduceLE,↓u_setN]
 refine ⟨fun h1=>⟨fun h2=>(zd5 n (by unfold I64;omega)).Q ?_,fun h2=>by simp [rightF,h2]⟩,fun h2=>by simp [rightF,h2]⟩
 simp only [*,↓vcPre,↓z8,↓reduceIte,vcPost,vcStd,Nat.reduceEqDiff,reduceCtorEq,Nat.reduceAdd,Nat.reduceLeDiff,Int.reduceLT,Int.reduceLE,↓u_setN]
 simp [rightF,h1,h2]
theorem c91 (n:Int) (h:I64 n):Pur Tryz.prog 91 [.int .i64 n] (.int .u32 (maskF n)):=by
 refine zw Tst.F91 (by simp [Tst.F91,Fn.mkX]) fun σ => ?_
 simp only [Tst.F91,Fn.mkX,Tst.b91]
 simp only [↓vcPre,↓z8,↓reduceIte,vcPost,vcStd,Nat.reduceEqDiff,reduceCtorEq,Nat.reduceAdd,Nat.reduceLeDiff,Int.reduceLT,Int.reduceLE,↓u_setN]
 refine LoopQ.inv (S:=Nat) (fun i=>[(0,.int .i64 n),(3,.int .u32 (maskF i)),(4,.int .i64 i)]) (fun _=>σ) (fun i=>(i:Int)≤max n 0∧i≤32) (fun i=>33 - i) 0 rfl (Store.sub_refl _) ⟨by omega,by omega⟩ ?_
 intro i hi
 simp only [↓vcPre,↓z8,↓reduceIte,vcPost,vcStd,Nat.reduceEqDiff,reduceCtorEq,Nat.reduceAdd,Nat.reduceLeDiff,Int.reduceLT,Int.reduceLE,↓u_setN]
 have w:IntKind.i64.wrap (31 - ↑i)=31 - (i:Int):=zd ⟨by omega,by omega⟩
 have w1:IntKind.i64.wrap (↑i+1)=(i:Int)+1:=zd ⟨by omega,by omega⟩
 refine ⟨fun h1=>⟨fun h2 => ?_,fun h2 => ?_⟩,fun h1 => ?_⟩
 ·have w2:IntKind.u64.wrap (31 - ↑i)=31 - (i:Int):=by simp [IntKind.wrap,IntKind.bits,IntKind.signed];omega
  rw [w,w1,w2]
  refine ⟨by omega,NextQ.to (i+1) ?_ (Store.sub_refl _) (by omega) ⟨by omega,by omega⟩⟩
  have:=z77 ⟨i,by omega⟩
  simp only at this
  simp only [this,Int.natCast_add,Int.cast_ofNat_Int]
 ·rw [z0y (n:=i) (by omega),z0y (n:=n) (by omega)]
 ·by_cases h0:n≤0
  ·rw [z0z (n:=i) (by omega),z0z h0]
  ·rw [show (i:Int)=n by omega]
theorem c80 (a n:Int):Pur Tryz.prog 80 [.agg [.int .u32 a,.int .i64 n]] (.bool (rightF a n)):=by
 refine zw Tst.F80 (by simp [Tst.F80,Fn.mkX]) fun σ => ?_
 simp only [Tst.F80,Fn.mkX,Tst.b80]
 simp only [↓vcPre,↓z8,↓reduceIte,vcPost,vcStd,Nat.reduceEqDiff,reduceCtorEq,Nat.reduceAdd,Nat.reduceLeDiff,Int.reduceLT,Int.reduceLE,↓u_setN]
 refine AllocQ.i0 fun i hi => ?_
 simp only [*,↓vcPre,↓z8,↓reduceIte,vcPost,vcStd,Nat.reduceEqDiff,reduceCtorEq,Nat.reduceAdd,Nat.reduceLeDiff,Int.reduceLT,Int.reduceLE,↓u_setN]
 refine ⟨fun h1=>⟨fun h2=>(c91 n (by unfold I64;omega)).Q ?_,fun h2=>by simp [rightF,h2]⟩,fun h2=>by simp [rightF,h2]⟩
 simp only [*,↓vcPre,↓z8,↓reduceIte,vcPost,vcStd,Nat.reduceEqDiff,reduceCtorEq,Nat.reduceAdd,Nat.reduceLeDiff,Int.reduceLT,Int.reduceLE,↓u_setN]
 simp [rightF,h1,h2]
theorem c45 (a n:Int) (h:I64 n):Pur Tryz.prog 45 [.int .u32 a,.int .i64 n] (.agg [.int .u32 (ofF a n).1,.int .i64 (ofF a n).2]):=by
 refine zw Tst.F45 (by simp [Tst.F45,Fn.mkX]) fun σ => ?_
 simp only [Tst.F45,Fn.mkX,Tst.b45]
 simp only [↓vcPre,↓z8,↓reduceIte,vcPost,vcStd,Nat.reduceEqDiff,reduceCtorEq,Nat.reduceAdd,Nat.reduceLeDiff,Int.reduceLT,Int.reduceLE,↓u_setN]
 refine AllocQ.i0 fun i hi => ?_
 simp only [*,↓vcPre,↓z8,↓reduceIte,vcPost,vcStd,Nat.reduceEqDiff,reduceCtorEq,Nat.reduceAdd,Nat.reduceLeDiff,Int.reduceLT,Int.reduceLE,↓u_setN]
 have e0:max (min n 32) 0=if n<0 then 0 else if 32<n then 32 else n:=by split <;> (try split) <;> omega
 refine ⟨fun h1=>(c91 0 (by unfold I64;omega)).Q ?_,fun h1=>⟨fun h2=>(c91 32 (by unfold I64;omega)).Q ?_,fun h2=>(c91 n h).Q ?_⟩⟩
 ·simp only [*,↓vcPre,↓z8,↓reduceIte,vcPost,vcStd,Nat.reduceEqDiff,reduceCtorEq,Nat.reduceAdd,Nat.reduceLeDiff,Int.reduceLT,Int.reduceLE,↓u_setN]
  simp [ofF,e0,h1]
 ·simp only [*,↓vcPre,↓z8,↓reduceIte,vcPost,vcStd,Nat.reduceEqDiff,reduceCtorEq,Nat.reduceAdd,Nat.reduceLeDiff,Int.reduceLT,Int.reduceLE,↓u_setN]
  simp [ofF,e0,h1,h2]
 ·simp only [*,↓vcPre,↓z8,↓reduceIte,vcPost,vcStd,Nat.reduceEqDiff,reduceCtorEq,Nat.reduceAdd,Nat.reduceLeDiff,Int.reduceLT,Int.reduceLE,↓u_setN]
  simp [ofF,e0,h1,h2]
theorem z9k (n:Int):maskF (max (min n 32) 0)=maskF n:=by
 by_cases h:n≤0
 ·rw [z0z h,show max (min n 32) 0=0 by omega]
 ·by_cases h2:32≤n
  ·rw [z0y h2,show max (min n 32) 0=32 by omega]
  ·rw [show max (min n 32) 0=n by omega]
theorem zhy (a n:Int) (h:I64 n):Pur Tryz.prog 216 [.int .u32 a,.int .i64 n] (.agg [.int .u32 (ofF a n).1,.int .i64 (ofF a n).2]):=by
 refine zw Tst.F216 (by simp [Tst.F216,Fn.mkX]) fun σ => ?_
 simp only [Tst.F216,Fn.mkX,Tst.b216]
 simp only [↓vcPre,↓z8,↓reduceIte,vcPost,vcStd,Nat.reduceEqDiff,reduceCtorEq,Nat.reduceAdd,Nat.reduceLeDiff,Int.reduceLT,Int.reduceLE,↓u_setN]
 refine AllocQ.i0 fun i hi => ?_
 simp only [↓vcPre,↓z8,↓reduceIte,vcPost,vcStd,Nat.reduceEqDiff,reduceCtorEq,Nat.reduceAdd,Nat.reduceLeDiff,Int.reduceLT,Int.reduceLE,↓u_setN]
 refine (zd5 n h).Q ?_
 simp only [↓vcPre,↓z8,↓reduceIte,vcPost,vcStd,Nat.reduceEqDiff,reduceCtorEq,Nat.reduceAdd,Nat.reduceLeDiff,Int.reduceLT,Int.reduceLE,↓u_setN]
 refine ⟨⟨by simp only [ofF,z9k],?_⟩,zb (Store.sub_set _ _ _ hi) hi⟩
 simp only [ofF]
 split <;> split <;> omega
def pxC (x:Int×Int):List AV:=[.int .u32 x.1,.int .i64 x.2]
end Go.Am
